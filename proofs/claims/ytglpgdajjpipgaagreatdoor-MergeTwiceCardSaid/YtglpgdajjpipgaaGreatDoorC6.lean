import Derived.Test.YtglpgdajjpipgaaGreatDoorC5
set_option maxHeartbeats 8000000
set_option maxRecDepth 10000
namespace Go.Ev.S
open Go Go.Proofs Go.Ev
def hdZ:List D:=.int .u32 0:: .int .u32 0:: .int .i64 0::(qf (List.replicate 64 0)++(List.replicate 21 (.int .u64 0)++[.int .u32 0,.int .u32 0,.int .u64 0]))
def headD(b:List UInt8):D:=.agg (if vf b=0 then Enc.cells (qG b) else hdZ)
theorem q3D(h:HdP):(Enc.cells h)[1]=.int .u32 (h.incompat:Nat):=xq
theorem q3C(h:HdP):(Enc.cells h)[2]=.int .i64 (h.state:Nat):=xq
theorem qft(h:HdP)(i:Nat)(hi:i<21)(a:67+i<(Enc.cells h).length):(Enc.cells h)[67+i]=.int .u64 (h.g i:Nat):=qfD (h.dn hi) a
theorem qbg{b:List UInt8}{c:Nat}(h:vf b=c)(a:c≠0):headD b=.agg hdZ:=by
 unfold headD;rw[h,if_neg a]
theorem qtv{b:List UInt8}(h:vf b=0):headD b=.agg (Enc.cells (qG b)):=by
 unfold headD;rw[if_pos h]
theorem q30[MaxL](b:Sl UInt8)(hl:b.l.length<=1000000):call cx 116 [(.vsl b.nil (qf b.l) b.l.length)] []=some (.tup [headD b.l,.int .i64 (vf b.l:Nat)],[]):=by
 have t:hdZ=hdZ:=rfl
 conv at t=>rhs;simp[hdZ,qf,List.replicate]
 refine qC Tryz.func116 rfl ⟨rfl,rfl⟩ ?_;by_cases U:b.l.length<272
 .have o:vf b.l=22:=by unfold vf;rw[if_pos U]
  have c:(b.l.length:Int)<272:=wC
  rw[qbg o wH,o,t];simp[Tryz.f116,c]
 have c:¬(b.l.length:Int)<272:=wC
 have a:=q62 b signL wC wH wH;by_cases L:b.l.take 8≠signL
 .have o:vf b.l=6:=by unfold vf;rw[if_neg U,if_pos L]
  have S:(b.l.take signL.length==signL)=false:=by simp only[beq_eq_false_iff_ne];exact L
  rw[S] at a;replace a:call cx 174 [(.vsl b.nil (qf b.l) b.l.length),.vsl false [.int .u8 76,.int .u8 80,.int .u8 75,.int .u8 83,.int .u8 72,.int .u8 72,.int .u8 82,.int .u8 72] 8] []=some (.bool false,[]):=a;rw[qbg o wH,o,t];simp[Tryz.f116,c,a]
 have S:(b.l.take signL.length==signL)=true:=by simp only[beq_iff_eq];exact Classical.not_not.1 L
 rw[S] at a;replace a:call cx 174 [(.vsl b.nil (qf b.l) b.l.length),.vsl false [.int .u8 76,.int .u8 80,.int .u8 75,.int .u8 83,.int .u8 72,.int .u8 72,.int .u8 82,.int .u8 72] 8] []=some (.bool true,[]):=a;have o:vf b.l=hdC (qG b.l) b.l.length:=by unfold vf;rw[if_neg U,if_neg L]
 have q:=qzp b hl wC;have k:=qfu b.l;obtain⟨h,X⟩:=ql (qG b.l);rw[X] at q o k;have p:=qtu h (k 0) (k 1);have i1:=q3D h;have i2:=q3C h;have g0:=qft h 0 wC wE;have Z:=qft h 1 wC wE;have g2:=qft h 2 wC wE;have g3:=qft h 3 wC wE;have g4:=qft h 4 wC wE;have g5:=qft h 5 wC wE;have s:=h.d1;have u:=h.d2;have w:=h.dn (i:=0) wC;have A:=h.dn (i:=1) wC;have J:=h.dn (i:=2) wC;have H:=h.dn (i:=3) wC;have P:=h.dn (i:=4) wC;have Q:=h.dn (i:=5) wC;simp only[Nat.reduceAdd,Nat.add_zero] at g0 Z g2 g3 g4 g5 w A J H P Q;have W:h.endN<18446744073709551616:=by unfold HdP.endN;split<;>omega
 have E:=qtk h (k 0) (h.g 2) (h.g 3) h.endN (k 2) (k 3) W;have K:=qtk h (k 0) (h.g 4) (h.g 5) h.endN (k 4) (k 5) W;by_cases v:qeF .u32 h.incompat 4≠0
 .have e:vf b.l=7:=by rw[o];unfold hdC;rw[if_pos v]
  rw[qbg e wH,e,t];have d:(qeF .u32 h.incompat 4 !=0)=true:=by simp only[bne_iff_ne,ne_eq];exact v
  simp[Tryz.f116,c,a,q,p,s,d]
 have d:(qeF .u32 h.incompat 4 !=0)=false:=by simp only[bne_eq_false_iff_eq];exact Classical.not_not.1 v
 by_cases B:2<h.state
 .have e:vf b.l=8:=by rw[o];unfold hdC;rw[if_neg v,if_pos B]
  rw[qbg e wH,e,t];have j:(2:Int)<(h.state:Int):=wC
  simp[Tryz.f116,c,a,q,p,s,d,u,j]
 have j:¬(2:Int)<(h.state:Int):=wC
 have R:((h.g 0:Nat):Int).tmod 8=((h.g 0 % 8:Nat):Int):=rfl;have Y:((h.g 1:Nat):Int).tmod 8=((h.g 1 % 8:Nat):Int):=rfl;by_cases C:h.g 0<272\/h.g 0 % 8≠0\/h.g 1 % 8≠0
 .have e:vf b.l=5:=by rw[o];unfold hdC;rw[if_neg v,if_neg B,if_pos C]
  rw[qbg e wH,e,t];by_cases a1:h.g 0<272
  .have f:((h.g 0:Nat):Int)<272:=wC;simp[Tryz.f116,c,a,q,p,s,d,u,j,w,f]
  have f:¬((h.g 0:Nat):Int)<272:=wC
  by_cases a2:h.g 0 % 8≠0
  .have m:(((h.g 0:Nat):Int).tmod 8 !=0)=true:=(by rw[R];simp only[bne_iff_ne,ne_eq];omega);simp[Tryz.f116,c,a,q,p,s,d,u,j,w,f,m]
  have m:(((h.g 0:Nat):Int).tmod 8 !=0)=false:=by rw[R];simp only[bne_eq_false_iff_eq];omega
  have n:(((h.g 1:Nat):Int).tmod 8 !=0)=true:=by rw[Y];simp only[bne_iff_ne,ne_eq];omega
  simp[Tryz.f116,c,a,q,p,s,d,u,j,w,f,m,A,n]
 have f:¬((h.g 0:Nat):Int)<272:=wC
 have m:(((h.g 0:Nat):Int).tmod 8 !=0)=false:=by rw[R];simp only[bne_eq_false_iff_eq];omega
 have n:(((h.g 1:Nat):Int).tmod 8 !=0)=false:=by rw[Y];simp only[bne_eq_false_iff_eq];omega
 have N:=zf (b.l.length:Int) (b.l.length:Int);by_cases M:h.endC=false
 .have e:vf b.l=2:=by rw[o];unfold hdC;rw[if_neg v,if_neg B,if_neg C,if_pos (.inl M)]
  rw[qbg e wH,e,t];rw[M] at p;simp[Tryz.f116,c,a,q,p,s,d,u,j,w,f,m,A,n]
 have O:h.endC=true:=by simpa using M
 rw[O] at p;by_cases G:b.l.length<h.endN
 .have e:vf b.l=2:=by rw[o];unfold hdC;rw[if_neg v,if_neg B,if_neg C,if_pos (.inr G)]
  rw[qbg e wH,e,t];have r:=zq G;simp[Tryz.f116,c,a,q,p,s,d,u,j,w,f,m,A,n,N,r]
 have r:=zw G;have F:¬(h.endC=false\/b.l.length<h.endN):=by rintro(h|h);exact M h;exact G h
 obtain⟨I,y⟩:=ql (qb4 (h.g 0) (h.g 2) (h.g 3) h.endN);obtain⟨T2,V⟩:=ql (qb4 (h.g 0) (h.g 4) (h.g 5) h.endN);rw[y] at E;rw[V] at K;by_cases T:I≠0
 .have e:vf b.l=I:=by rw[o];unfold hdC;rw[if_neg v,if_neg B,if_neg C,if_neg F,y,if_pos T]
  rw[qbg e T,e,t];have z:((I:Int) !=0)=true:=VH;simp[Tryz.f116,c,a,q,p,s,d,u,j,w,f,m,A,n,N,r,J,H,E,z]
 have z:I=0:=wC
 have e:vf b.l=T2:=by rw[o];unfold hdC;rw[if_neg v,if_neg B,if_neg C,if_neg F,y,if_neg T,V]
 rw[z] at E;by_cases d7:T2≠0
 .rw[qbg e d7,e,t];have x:((T2:Int) !=0)=true:=VH;simp[Tryz.f116,c,a,q,p,s,d,u,j,w,f,m,A,n,N,r,J,H,E,P,Q,K,x]
 .have x:T2=0:=by omega
  rw[x] at e K;rw[qtv e,e,X];simp[Tryz.f116,c,a,q,p,s,d,u,j,w,f,m,A,n,N,r,J,H,E,P,Q,K]
def zD(b:List UInt8):Sl UInt8:=⟨false,b.take (qG b).endN,wE⟩
def qem(b:List UInt8):D:=if vf b=0 then .vptr (qV (zD b) (qG b)) else .nilp
theorem qtw{b:List UInt8}(h:vf b=0):(qG b).endC=true/\(qG b).endN<=b.length/\272<=b.length/\272<=(qG b).endN:=by
 unfold vf at h;split at h
 · omega
 split at h
 · omega
 unfold hdC at h;split at h
 · omega
 split at h
 · omega
 split at h
 · omega
 split at h
 · omega
 rename_i i g f e j d
 have a:(qG b).endC=true:=by
  cases c:(qG b).endC with
  |true=>rfl
  |false=>exact absurd (.inl c) d
 refine⟨a,wC,wC,?_⟩;unfold HdP.endC at a;unfold HdP.endN;simp at a;rw[if_pos a];omega
theorem qmD{k:D->Option (D×List Nat)}:∀{l:List D},idFree.idFreeL l=true->kc (fun x=>if idFree x=true then some (x,[]) else k x) l=some (l,[])
 |[],_=>rfl
 |d::l,h=>by
  simp only[idFree.idFreeL,zY] at h;simp only[kc,qmD h.2,h.1,if_true,J4]
theorem qtx:hdZ.length=91:=rfl
theorem qty:idFree.idFreeL hdZ=true:=by
 simp[hdZ,idFree,Q0]
theorem q3E(n:Nat):(∀x,x∈hdZ->closed n x=true)=True:=eq_true fun x hx=>qi9 n x (List.all_eq_true.1 (by rw[<-Q0];exact qty) x hx)
theorem q6J[MaxL](b:Sl UInt8)(p:b.l.length<=1000000):call cx 67 [(.vsl b.nil (qf b.l) b.l.length)] []=some (.tup [qem b.l,.int .i64 (vf b.l:Nat)],[]):=by
 have d:=q30 b p;refine qC Tryz.func67 rfl ⟨rfl,rfl⟩ ?_;by_cases a:vf b.l=0
 .obtain⟨o,m,q,r⟩:=qtw a;have h:=qtu (qG b.l) (qfu _ _) (qfu _ _);have f:=qlQ (zD b.l) (by simp[zD];omega);rw[o] at h;rw[qtv a,a] at d;have g:b.nil=false:=Sl.nn (i:=0) wC;rw[g] at d;unfold qem;rw[if_pos a,a];simp only[qV];simp only[zD,Qd,if_false] at f⊢;have e:(b.l.take (qG b.l).endN).length=(qG b.l).endN:=by simp;omega
  rw[e] at f⊢;have k:List.take (qG b.l).endN (qf b.l)=qf (b.l.take (qG b.l).endN):=qep _ _;generalize (qG b.l).endN=n at *;have n1:(0:Int)<=(n:Int)/\(n:Int)<=(b.l.length:Int):=wC
  simp[Tryz.f67,g,d,h,f,k,n1,m,qmD]
 .have j:(((vf b.l:Nat):Int) !=0)=true:=VH;rw[qbg rfl a] at d;unfold qem;rw[if_neg a];generalize vf b.l=c at *;simp[Tryz.f67,d,j,qtx,qty,q3E]
def qas(b:List UInt8):List D:=[.vptr (qV (zD b) (qG b)),VR (XQ (zD b).l (qG b)).1,.int .i64 ((XQ (zD b).l (qG b)).2:Nat),.vsl true [] 0,.bool false]
theorem q1R[MaxL](b:Sl UInt8)(h:b.l.length<=1000000):call cx 31 [(.vsl b.nil (qf b.l) b.l.length)] []=if vf b.l=0 then some (.tup [.optr 0 5 0,.int .i64 0],[some (qas b.l)]) else some (.tup [.nilp,.int .i64 (vf b.l:Nat)],[]):=by
 have d:=q6J b h;by_cases a:vf b.l=0
 .obtain⟨o,n,k,p⟩:=qtw a;have f:=q5a (zD b.l) (qG b.l) (by simp[zD];omega) (qfu b.l 8) (qfu b.l 11);have e:qem b.l=.vptr (qV (zD b.l) (qG b.l)):=by unfold qem;rw[if_pos a]
  rw[e,a] at d;rw[if_pos a];unfold qas;have j:idFree.idFreeL (qV (zD b.l) (qG b.l))=true:=by simp[qV,idFree.idFreeL,idFree]
  generalize qV (zD b.l) (qG b.l)=V at *;generalize XQ (zD b.l).l (qG b.l)=R at *;obtain⟨m,i⟩:=ql (decide (R.1=[]));unfold VR at *;rw[i] at f⊢;refine qC Tryz.func31 rfl ⟨rfl,rfl⟩ ?_;simp[Tryz.f31,d,f]
 .have g:(((vf b.l:Nat):Int) !=0)=true:=VH;have e:qem b.l=.nilp:=by unfold qem;rw[if_neg a]
  rw[e] at d;rw[if_neg a];generalize vf b.l=c at *;refine qC Tryz.func31 rfl ⟨rfl,rfl⟩ ?_;simp[Tryz.f31,d,g]
theorem qsD[MaxL]{H:qe}{q:Nat}{b:List UInt8}{r:List D}(u:r.length=4)(x:qd H q=some (.vptr (qV (zD b) (qG b))::r)):∃T,call cx 13 [.optr q 5 0] H=some (.agg (Enc.cells (qG b)),T)/\Ext [] H T:=by
 have n:hdZ=hdZ:=rfl
 conv at n=>rhs;simp[hdZ,qf,List.replicate]
 have l:=qmn (zD b) (qG b);generalize qV (zD b) (qG b)=V at *;obtain⟨p,k⟩:=ql (H.length);obtain⟨m,c⟩:=ql (qr H hdZ);have g:=zL c;have y:=g.get x wE;have j:qd m p=some hdZ:=by rw[<-c,<-k,zF]
 have w:=qtx;obtain⟨C,e⟩:=ql (Enc.cells (qG b));have f:C.length=91:=by rw[<-e];simp
 have a:idFree.idFreeL C=true:=by rw[<-e];simp
 have o:shift.shiftL p C=C:=qcM _ _ a;rw[e] at l⊢;obtain⟨T,d⟩:=ql (qn m p C);have t:=vV d j;have h:=zcb a;have v:C++List.drop 91 hdZ=C:=by rw[List.drop_of_length_le wC,J4]
 have s:List.take 91 C=C:=qH wC;rw[n] at c;refine⟨T,j6 Tryz.func13 rfl ⟨rfl,rfl⟩ ?_,?_⟩
 .simp[-qd,-qn,-qr,Tryz.f13,l,k,c,y,j,f,a,d,t,h,v,w,s,u]
 .exact⟨by rw[<-d,kL];exact g.len,fun i hi _=>by rw[<-d,zV wC];exact g.out i hi wE⟩
theorem qk9{b:List UInt8}{most:Nat}:∀{l out:List Nat}{x:Nat},x∈(KO b most l out).1->x∈out\/x<b.length
 |[],out,x,h=>.inl h
 |y::l,out,x,h=>by
  rw[KO] at h;split at h
  .exact .inl h
  .split at h
   .exact .inl h
   .rename_i e d;split at h
    .exact .inl h
    .rcases qk9 h with c|c
     .rcases List.mem_append.1 c with a|a
      .exact .inl a
      .rw[List.mem_singleton.1 a];right;unfold Yg at d;simp at d;omega
     .exact .inr c
theorem quD{b:List UInt8}{sz most:Nat}:∀{n:Nat}{out:List Nat}{a c x:Nat},x∈(qat b sz most n out a c).1->x∈out\/x<b.length
 |0,out,a,c,x,h=>.inl h
 |n+1,out,a,c,x,h=>by
  rw[qat] at h;split at h
  .exact .inl h
  .split at h
   .exact .inl h
   .split at h
    .exact .inl h
    .split at h
     .exact .inl h
     .split at h
      .rename_i d g e;have:=qk9 (b:=b) (most:=most) (l:=(kp b a).tail) (out:=out) (x:=x) (by rw[e];exact h);exact this
      .rename_i d e;rcases quD h with f|f
       .exact qk9 (b:=b) (most:=most) (l:=(kp b a).tail) (out:=out) (x:=x) (by rw[e];exact f)
       .exact .inr f
def zC(b:List UInt8):List Nat:=(XQ (zD b).l (qG b)).1
theorem q69{b:List UInt8}{x:Nat}(h:x∈zC b):x<b.length:=by
 rcases quD h with a|a
 .simp at a
 .refine vd a ?_;simp[zD];omega
def Zv(b:List UInt8)(g kn:D):List D:=[.vptr (qV (zD b) (qG b)),VR (zC b),.int .i64 ((XQ (zD b).l (qG b)).2:Nat),g,kn]
theorem qum(b:List UInt8):qas b=Zv b (.vsl true [] 0) (.bool false):=rfl
theorem q2N[MaxL]{H:qe}{q:Nat}{b:List UInt8}{g kn:D}(c:qd H q=some (Zv b g kn)){i:Nat}(hi:i<(zC b).length)(_:(zC b).length<=1000000){x:Int}(hx:x=i):call cx 123 [.optr q 5 0,.int .i64 x] H=some (.tup [.int .u64 ((zC b)[i]:Nat),.int .i64 0],H):=by
 subst hx;have e:¬zC b=[]:=fun h=>by rw[h] at hi;simp at hi
 unfold Zv VR at c
 have d:(zg (zC b)).drop i=.int .u64 ((zC b)[i]:Nat)::(zg (zC b)).drop (i+1):=by
  rw[jo xl];simp[zg]
 have f:(i:Int)<((zC b).length:Int):=wC
 have a:¬(i:Int)<0:=wC
 have j:¬((zC b).length:Int)<=(i:Int):=wC
 generalize (zC b)[i]=y at *;refine j6 Tryz.func123 rfl ⟨rfl,rfl⟩ ?_;simp[-qd,-qn,-qr,Tryz.f123,c,e,d,f,a,j]
theorem q3F(b:List UInt8):(qG b).incompat<4294967296:=qmt b 12
theorem qgu[MaxL]{H:qe}{q:Nat}{b:List UInt8}{g kn:D}(E:qd H q=some (Zv b g kn)){i:Nat}(hi:i<(zC b).length)(C:(zC b).length<=1000000)(G:b.length<=1000000){x:Int}(hx:x=i):
  ∃T,call cx 73 [.optr q 5 0,.int .i64 x] H=some (.tup [.agg (ZM (zD b).l (qG b) (zC b)[i]),.int .i64 (Qf (zD b).l (qG b) (zC b)[i]:Nat)],T)/\Ext [] H T:=by
 have B:=q69 (vC hi);have m:(zD b).l.length<=1000000:=by simp[zD];omega
 have t:=qwz (zD b) (qG b) (q3F b) m (zC b)[i] wC;have f:=qjJ (zD b).l (qG b) (zC b)[i];have a:=qjK (zD b).l (qG b) (zC b)[i];obtain⟨p,u⟩:=ql (H.length);obtain⟨r,h⟩:=ql (qr H Vc);have n:=zL h;have d:=n.get E wE;have v:=d;unfold Zv at v;obtain⟨y,s⟩:=ql ((zC b)[i]);rw[s] at B t f a⊢;generalize ZM (zD b).l (qG b) y=R at *;generalize Qf (zD b).l (qG b) y=c at *;generalize qV (zD b) (qG b)=V at *;have k:qd r p=some Vc:=by rw[<-h,<-u,zF]
 have e:=q2N (b:=b) (g:=g) (kn:=kn) (H:=r) d hi C hx;rw[s] at e;have w:=zsh a;have z:List.take 20 R=R:=qH wC;have F:List.drop 20 R=[]:=List.drop_of_length_le wC;have o:=zcb a;obtain⟨T,j⟩:=ql (qn r p R);have A:=vV j k;simp only[Vc] at h k;refine⟨T,j6 Tryz.func73 rfl ⟨rfl,rfl⟩ ?_,?_⟩
 .simp[-qd,-qn,-qr,Tryz.f73,u,h,e,v,t,k,f,a,z,o,j,A]
 .exact⟨by rw[<-j,kL];exact n.len,fun i hi _=>by rw[<-j,zV wC];exact n.out i hi wE⟩
def jO(l:List Nat):List D:=l.map fun i=>.int .i64 (i:Nat)
theorem qkF(l:List Nat):(jO l).all idFree=true:=by
 rw[qgV];intro x hx;obtain⟨c,_,rfl⟩:=List.mem_map.1 hx;rfl
theorem qti[MaxL](l:List Nat)(g:l.length<=1000000):call cx 122 [if l=[] then .vsl true [] 0 else .vsl false (jO l) l.length] []=if l=[] then some (.vsl true [] 0,[]) else some (.osl 0 l.length 0 l.length 1,[some (jO l)]):=by
 by_cases h:l=[]
 .rw[if_pos h,if_pos h];refine qC Tryz.func122 rfl ⟨rfl,rfl⟩ ?_;simp[Tryz.f122]
 .rw[if_neg h,if_neg h];have d:l.length*8<=140737488355328:=by omega
  have c:l.length<=140737488355328:=wC
  have e:(jO l).length=l.length:=by simp[jO]
  have a:=qkF l;have f:=zfl a;have b:=zfa a;have i:List.take l.length (jO l)=jO l:=qH wC;generalize jO l=L at *;refine qC Tryz.func122 rfl ⟨rfl,rfl⟩ ?_;simp[Tryz.f122,qF,d,c,e,b]
def Zc(l:List Nat):D:=.vsl (decide (l=[])) (jO l) l.length
theorem q2X(l:List Nat)(x:Nat):jO (l++[x])=jO l++[.int .i64 (x:Nat)]:=by simp[jO]
theorem qkE(l:List Nat):(jO l).length=l.length:=by simp[jO]
def zu(b:List UInt8):List Nat:=XN (zD b).l (qG b) (zC b) 0 0
theorem qyM{b:List UInt8}{h:HdP}{a:Nat}(hc:Qf b h a=0):∃r,ZM b h a=.int .u64 (qT (qN b a) 0:Nat)::r:=by
 unfold ZM;rw[if_pos hc,Rec.cells];exact⟨_,rfl⟩
theorem qyN{b:List UInt8}{h:HdP}{a:Nat}(hc:¬Qf b h a=0):∃r,ZM b h a=.int .u64 0::r:=by
 unfold ZM;rw[if_neg hc];exact⟨_,rfl⟩
theorem qkQ{b:List UInt8}{h:HdP}:∀{l:List Nat}{i last x:Nat},x∈XN b h l i last->∃j,∃d:j<l.length,x=i+j/\Qf b h l[j]=0
 |[],i,last,x,hx=>by simp[XN] at hx
 |a::l,i,last,x,hx=>by
  rw[XN] at hx;split at hx
  .rename_i hc;rcases List.mem_cons.1 hx with rfl|hx
   .exact⟨0,wE,wC,hc.1⟩
   .obtain⟨j,d,rfl,c⟩:=qkQ hx;exact⟨j+1,wG,wC,c⟩
  .obtain⟨j,d,rfl,c⟩:=qkQ hx;exact⟨j+1,wG,wC,c⟩
theorem qt5{b:List UInt8}{x:Nat}(hx:x∈zu b):∃c:x<(zC b).length,Qf (zD b).l (qG b) (zC b)[x]=0:=by
 obtain⟨j,d,e,a⟩:=qkQ hx;have:x=j:=wC
 subst this;exact⟨d,a⟩
theorem qe2{b:List UInt8}{h:HdP}:∀{l:List Nat}{i last:Nat},(XN b h l i last).length<=l.length
 |[],i,last=>by simp[XN]
 |a::l,i,last=>by
  rw[XN];split
  .simp only[jJ];have:=qe2 (b:=b) (h:=h) (l:=l) (i:=i+1) (last:=qT (qN b a) 0);omega
  .simp only[jJ];have:=qe2 (b:=b) (h:=h) (l:=l) (i:=i+1) (last:=last);omega
theorem qsI{b:List UInt8}{most:Nat}:∀{l out:List Nat},out.length<=out.getLastD 0/\out.getLastD 0<=b.length->(KO b most l out).1.length<=(KO b most l out).1.getLastD 0/\(KO b most l out).1.getLastD 0<=b.length
 |[],out,h=>h
 |y::l,out,h=>by
  rw[KO];split
  .exact h
  .split
   .exact h
   .split
    .exact h
    .rename_i f a c;refine qsI ?_
     have e:1<=y/\y<b.length:=by
      unfold Yg at a;simp at a;omega
     rw[List.getLastD_concat,zo,List.length_singleton];refine⟨?_,wC⟩;by_cases d:0<out.length
     .have:¬y<=out.getLastD 0:=fun hc=>c ⟨d,hc⟩;omega
     .omega
theorem quE{b:List UInt8}{sz most:Nat}:∀{n:Nat}{out:List Nat}{a c:Nat},out.length<=out.getLastD 0/\out.getLastD 0<=b.length->(qat b sz most n out a c).1.length<=b.length
 |0,out,a,c,h=>zJ h.1 h.2
 |n+1,out,a,c,h=>by
  have e:=zJ h.1 h.2;rw[qat];split
  .exact e
  .split
   .exact e
   .split
    .exact e
    .split
     .exact e
     .have hi:=qsI (b:=b) (most:=most) (l:=(kp b a).tail) h;split
      .rename_i d g f;rw[f] at hi;exact zJ hi.1 hi.2
      .rename_i d f;rw[f] at hi;exact quE hi
theorem qgQ(b:List UInt8):(zC b).length<=b.length:=by
 have d:=quE (b:=(zD b).l) (sz:=(qG b).siz) (most:=(qG b).ents) (n:=(zD b).l.length+1) (out:=[]) (a:=(qG b).arr) (c:=0) ⟨wE,wE⟩;refine zJ d ?_;simp[zD];omega
def kv:List Mk->Bool
 |a::b::l=>decide (zn a.id.l b.id.l<0)&&kv (b::l)
 |_=>true
def YJ(l:List Mk):Bool:=decide (l.length<=4)&&kv l
theorem qj9[MaxL][TxtC](s:Sl Mk)(B:s.l.length<4611686018427387904):
  call cx 32 [(.vsl s.nil (qt s.l) s.l.length)] []=some (.bool (YJ s.l),[]):=by
 refine qC Tryz.func32 rfl ⟨rfl,rfl⟩ ?_;by_cases t:s.l.length<=4
 .have n:¬(4:Int)<(s.l.length:Int):=by omega
  simp[Tryz.f32,n,YJ,t];refine Run.loopThen (fun(i:Nat) e H=>1<=i/\(i<=s.l.length\/i=1)/\H=[]/\qi e 0=some (.vsl s.nil (qt s.l) s.l.length)/\qi e 3=some (.int .i64 i)/\kv s.l=kv (s.l.drop (i-1))) (fun i=>s.l.length-i) 1 wE ?_;rintro i e H ⟨hi,A,rfl,o,j,q⟩;by_cases c:i<s.l.length
  .obtain⟨k,x⟩:∃k,k+1=i:=⟨i-1,wC⟩;have h:=zq c;have d:k<s.l.length:=wC;have w:(k:Int)<(s.l.length:Int):=wC;have v:=qz ((i:Int)-1) (k:Int);have y:=qz ((i:Int)+1) ((i+1:Nat):Int);have hc:=qvj s.l[k].id s.l[i].id
   have f:kv s.l=(decide (zn s.l[k].id.l s.l[i].id.l<0)&&kv (s.l.drop i)):=by
    have z:i-1=k:=wC
    have e2:s.l.drop k=s.l[k]::s.l[i]::s.l.drop (i+1):=by
     rw[jo d];congr 1;rw[x,jo c]
    rw[q,z,e2,kv,jo c]
   have p:∀k,(16<=19+k)=True:=fun k=>eq_true wC;have u:∀(m:Mk)(r:List D),(Enc.cells m++r).take 16=qf m.id.l:=fun m r=>by simp[Mk.cells]
   by_cases g:zn s.l[k].id.l s.l[i].id.l<0
   .have b:¬0<=zn s.l[k].id.l s.l[i].id.l:=wC;rw[decide_eq_true g,YB] at f;simp[o,j,h,v,w,Sl.nn c,p,c,d,u,hc,b,y];exact⟨i+1,wC,wC,.inl wC,rfl,by simpa using f⟩
   .have b:0<=zn s.l[k].id.l s.l[i].id.l:=wC;rw[decide_eq_false g,qdW] at f;simp[o,j,h,v,w,Sl.nn c,p,c,d,u,hc,b,f]
  .have h:=zw c
   have f:kv s.l=true:=by
    rw[q];have:(s.l.drop (i-1)).length<=1:=xA
    match s.l.drop (i-1),this with
    |[],_=>rfl
    |[a],_=>rfl
   simp[o,j,h,f]
 .have n:(4:Int)<(s.l.length:Int):=by omega
  simp[Tryz.f32,n,YJ,t]
theorem q4Y[MaxL][TxtC]{H:qe}{q:Nat}{id:ID}(f:qd H q=some (qf id.l))(m:Mk):∃T,call cx 184 [.agg (Enc.cells m),.optr q 16 0] H=some (.bool (m.id==id),T)/\Ext [] H T:=by
 obtain⟨e,a⟩:=ql (qr H (Enc.cells m));have c:=zL a;have b:=js a;have d:=c.get f wE;refine⟨e,j6 Tryz.func184 rfl ⟨rfl,rfl⟩ ?_,c⟩;simp only[Mk.cells] at a b;simp[-qd,-qr,Tryz.f184,Mk.cells,a,b,d]
def find?{α:Type}(p:α->Bool):List α->Int->Int
 |[],_=>-1
 |m::l,i=>if p m then i else find? p l (i+1)
theorem qoL[MaxL][TxtC](s:Sl Mk)(B:s.l.length<4611686018427387904)(f:Nat)(a:List D)(p:Mk->Bool){H:qe}(y:cx.byRef f=true)(x:cx.perm f=false)(w:cx.pureF f=false)(v:cx.loc f=false)
  (A:∀T,Ext [] H T->∀m,m∈s.l->∃t,call cx f (.agg (Enc.cells m)::a) T=some (.bool (p m),t)/\Ext [] T t):∃q,call cx 127 [(.vsl s.nil (qt s.l) s.l.length),.fn f a] H=some q/\q.1=.int .i64 (find? p s.l 0)/\Ext [] H q.2:=by
 refine vx (X:=cx) (f:=127) (fun q=>q.1=.int .i64 (find? p s.l 0)/\Ext [] H q.2) Tryz.func127 rfl ⟨rfl,rfl⟩ ?_;simp[-qd,Tryz.f127];refine Run.loopThen (fun(i:Nat) e T=>i<=s.l.length/\Ext [] H T/\qi e 0=some (.vsl s.nil (qt s.l) s.l.length)/\qi e 1=some (.fn f a)/\qi e 7=some (.int .i64 s.l.length)/\qi e 8=some (.int .i64 i)/\find? p s.l 0=find? p (s.l.drop i) i) (fun i=>s.l.length-i) 0 (by simp;exact Ext.refl _ _) ?_;rintro i e T ⟨hi,hx,j,r,n,o,b⟩;by_cases c:i<s.l.length
 .have g:((i:Int)<(s.l.length:Int)):=by omega
  have u:s.l.drop i=s.l[i]::s.l.drop (i+1):=jo c;obtain⟨t,hc,k⟩:=A T hx s.l[i] (vC c);have z:=qz ((i:Int)+1) ((i+1:Nat):Int);have d:=hx.trans k (NewL.refl _ _);rw[u,find?] at b;cases h:p s.l[i] with
  |true=>
   rw[h,if_pos rfl] at b;simp[-qd,j,r,n,o,g,c,Sl.nn c,hc,y,x,w,v,h,b];exact d
  |false=>
   rw[h,if_neg wH] at b;simp[-qd,j,r,n,o,g,c,Sl.nn c,hc,y,x,w,v,h,b,z];exact⟨i+1,wC,wC,d,rfl,rfl⟩
 .have g:¬((i:Int)<(s.l.length:Int)):=by omega
  have u:s.l.drop i=[]:=Vn wC;rw[u] at b;simp[-qd,j,r,n,o,g,b,find?];exact hx
theorem qlc[MaxL][TxtC](s:Sl Mk)(d:s.l.length<4611686018427387904)(id:ID):
  call cx 130 [(.vsl s.nil (qt s.l) s.l.length),.agg (qf id.l)] []=some (.int .i64 (find? (fun m=>m.id==id) s.l 0),[]):=by
 have b:qd [some (qf id.l)] 0=some (qf id.l):=rfl;obtain⟨⟨r,T⟩,h,a,hx⟩:=qoL s d 184 [.optr 0 16 0] (fun m=>m.id==id) (H:=[some (qf id.l)]) rfl rfl rfl rfl (fun T c m _=>q4Y (c.get b wE) m);simp only at a;subst a;refine qC Tryz.func130 rfl ⟨rfl,rfl⟩ ?_;simp[Tryz.f130,h]
theorem find?_spec{α:Type}(p:α->Bool):∀(l:List α)(k:Int),(∃(i:Nat)(m:α),l[i]?=some m/\i<l.length/\p m=true/\find? p l k=k+i/\l.find? p=some m)\/(find? p l k= -1/\l.find? p=none)
 |[],k=>.inr ⟨rfl,rfl⟩
 |m::l,k=>by
  cases a:p m with
  |true=>exact .inl ⟨0,m,rfl,wE,a,by simp[find?,a],xF⟩
  |false=>
   rcases find?_spec p l (k+1) with⟨i,f,c,b,d,e,g⟩|⟨c,b⟩
   .exact .inl ⟨i+1,f,wo,wv,d,by simp[find?,a,e];omega,by simp[a,g]⟩
   .exact .inr ⟨by simp[find?,a,c],by simp[a,b]⟩
def vn(l:List Mk)(id:ID):Mk:=(l.find? fun m=>m.id==id).getD ⟨id,0,0,0⟩
theorem qt8[MaxL][TxtC](s:Sl Mk)(d:s.l.length<4611686018427387904)(id:ID):
  call cx 82 [(.vsl s.nil (qt s.l) s.l.length),.agg (qf id.l)] []=some (.agg (Enc.cells (vn s.l id)),[]):=by
 have h:=qlc s d id;refine qC Tryz.func82 rfl ⟨rfl,rfl⟩ ?_;rcases find?_spec (fun m=>m.id==id) s.l 0 with⟨i,m,b,a,g,e,f⟩|⟨b,a⟩
 .rw[e,Sl.nn a] at h;have c:s.l[i]=m:=by rw[qM a] at b;exact Option.some.inj b
  simp[Tryz.f82,h,a,Sl.nn a,c,vn,f]
 .rw[b] at h;simp[Tryz.f82,h,vn,a,Mk.cells,qH]
theorem qig(l:List Mk)(id:ID):(vn l id).id=id:=by
 unfold vn;cases h:l.find? (fun m=>m.id==id) with
 |none=>rfl
 |some m=>simpa using List.find?_some h
theorem q5P[MaxL][TxtC](x y:Mk):call cx 134 [.agg (Enc.cells x),.agg (Enc.cells y)] []=some (.int .i64 (zn x.id.l y.id.l),[]):=by
 have h:=qvj x.id y.id;refine qC Tryz.func134 rfl ⟨rfl,rfl⟩ ?_;simp[Tryz.f134,Mk.cells,h]
def qpj:Nat->Int
 |0=>0|1=>1|2=>2|3=>2|4=>3|5=>3|6=>3|7=>3|_=>4
theorem q0Z[MaxL][TxtC](n:Nat)(a:n<=13):call cx 90 [.int .u64 n] []=some (.int .i64 (qpj n),[]):=by
 have h:n=0\/n=1\/n=2\/n=3\/n=4\/n=5\/n=6\/n=7\/n=8\/n=9\/n=10\/n=11\/n=12\/n=13:=wC
 refine call_some.2 ⟨60,?_⟩;rcases h with rfl|rfl|rfl|rfl|rfl|rfl|rfl|rfl|rfl|rfl|rfl|rfl|rfl|rfl<;>kernel_rfl
def swp(l:List Mk)(j:Nat):List Mk:=
 match l[j]?,l[j-1]? with
 |some a,some b=>(l.set j b).set (j-1) a
 |_,_=>l
def VM:Nat->List Mk->List Mk
 |0,l=>l
 |j+1,l=>match l[j+1]?,l[j]? with
  |some a,some b=>if zn a.id.l b.id.l<0 then VM j (swp l (j+1)) else l
  |_,_=>l
def Jp:Nat->Nat->List Mk->List Mk
 |0,_,l=>l
 |k+1,i,l=>Jp k (i+1) (VM i l)
theorem qwW(l:List Mk)(j:Nat):(swp l j).length=l.length:=by
 unfold swp;split<;>simp
theorem qhp:∀(j:Nat)(l:List Mk),(VM j l).length=l.length
 |0,l=>rfl
 |j+1,l=>by
  unfold VM;split
  .split
   .rw[qhp j,qwW]
   .rfl
  .rfl
theorem qsQ:∀(k i:Nat)(l:List Mk),(Jp k i l).length=l.length
 |0,_,_=>rfl
 |k+1,i,l=>by rw[Jp,qsQ k,qhp]
theorem q2T[MaxL][TxtC](n:Nat)(Y:n<=12)(H:qe)(b:Nat)(W:H.all (Xp H.length)=true)(l:List Mk)(X:l.length=n)(v:qd H b=some (qt l)):
  call cx 234 [.osl b (n*19) 0 n 19,.int .i64 0,.int .i64 n,.fn 134 []] H=some (.tup [],H.set b (some (qt (Jp (n-1) 1 l)))):=by
 have M:b<H.length:=by
  rcases Kx b H.length with h|h
  .exact h
  .rw[qd,List.getElem?_eq_none h] at v;cases v
 have qn:H.set b (some (qt l))=H:=by
  rw[qd,qM M] at v;simp only[Vm] at v;rw[<-v,List.set_getElem_self]
 refine qC Tryz.func234 rfl ⟨rfl,rfl⟩ ?_;simp[Tryz.f234];refine Run.loopThen (fun(s:Nat×List Mk) e H'=>1<=s.1/\s.2.length=n/\H'=H.set b (some (qt s.2))/\Jp (n-s.1) s.1 s.2=Jp (n-1) 1 l/\qi e 0=some (.osl b (n*19) 0 n 19)/\qi e 1=some (.int .i64 0)/\qi e 2=some (.int .i64 n)/\qi e 3=some (.fn 134 [])/\qi e 8=some (.int .i64 s.1)) (fun s=>n-s.1) (1,l) (by simp[X,qn]) ?_;rintro⟨i,C⟩ e H' ⟨hi,d,rfl,y,q,w,u,p,g⟩;simp only at hi d y g;by_cases S:i<n
 .have r:=zq S;have V:=qz ((i:Int)+1) ((i+1:Nat):Int)
  have J:Jp (n-i) i C=Jp (n-(i+1)) (i+1) (VM i C):=by
   have:n-i=(n-(i+1))+1:=wC;rw[this,Jp]
  rw[J] at y;simp[q,w,u,p,g,r];clear q w u p g e;refine Run.loopThen (fun(s:Nat×List Mk) e H'=>s.1<=i/\s.2.length=n/\H'=H.set b (some (qt s.2))/\VM s.1 s.2=VM i C/\qi e 0=some (.osl b (n*19) 0 n 19)/\qi e 1=some (.int .i64 0)/\qi e 2=some (.int .i64 n)/\qi e 3=some (.fn 134 [])/\qi e 8=some (.int .i64 i)/\qi e 9=some (.int .i64 s.1)) (fun s=>s.1) (i,C) xR ?_;rintro⟨j,a⟩ e H' ⟨T,c,rfl,m,q,w,u,p,g,z⟩;simp only at T c m z;have o:(qt a).length=n*19:=by rw[Mk.el,c]
  have v:((H.set b (some (qt a)))[b]?).getD none=some (qt a):=by rw[List.getElem?_set_self M];rfl
  cases j with
  |zero=>
   rw[VM] at m;subst m;simp[q,w,u,p,g,z,V];exact⟨i+1,wC,wC,_,by rw[qhp,d],rfl,y,rfl⟩
  |succ k=>
   obtain⟨j,O⟩:∃j,j=k+1:=⟨_,rfl⟩;rw[<-O] at T z m;have A:0<j:=wC;have R:(j:Int)<(n:Int):=wC;have P:(k:Int)<(n:Int):=wC;have N:=qz ((j:Int)-1) (k:Int);have F:j<a.length:=wC;have f:k<a.length:=wC;have hc:=q5P a[j] a[k]
   have U:VM j a=if zn a[j].id.l a[k].id.l<0 then VM k (swp a j) else a:=by
    subst O;rw[VM,qM F,qM f]
   have L:swp a j=(a.set j a[k]).set k a[j]:=by
    have:j-1=k:=wC;rw[swp,this,qM F,qM f]
   by_cases E:zn a[j].id.l a[k].id.l<0
   .rw[U,if_pos E,L] at m;have I:j*19+19<=n*19:=wC;have B:k*19+19<=n*19:=wC;have Q:k<(a.set j a[k]).length:=(by simpa using f);have t:(qt (a.set j a[k])).length=n*19:=(by rw[Mk.el,vH,c]);simp[q,w,u,p,g,z,A,R,P,N,o,F,f,hc,E,I,B,M,t];exact⟨k,wC,wC,_,by simp[c],rfl,m,rfl⟩
   .rw[U,if_neg E] at m;subst m;simp[q,w,u,p,g,z,A,R,P,N,v,o,F,f,hc,E,V];exact⟨i+1,wC,wC,_,by rw[qhp,d],rfl,y,rfl⟩
 .have r:=zw S;have G:n-i=0:=by omega
  rw[G,Jp] at y;subst y;simp[q,w,u,p,g,r];refine qjT ⟨fun x hx=>?_,qH wE⟩;have K:=QX hx;rcases qc9 K with h|rfl
  .exact List.all_eq_true.1 W x h
  .exact qiy _ _
theorem qv0{H:qe}{b:Nat}{ds:List D}(d:H.all (Xp H.length)=true)(c:ds.all (closed H.length)=true){x:Option (List D)}{n:Nat}(hx:x∈(H.set b (some ds)).take n):Xp H.length x=true:=by
 have a:=QX hx;rcases qc9 a with h|rfl
 .exact List.all_eq_true.1 d x h
 .exact c
theorem qzm[MaxL][TxtC](n:Nat)(e:n<=12)(k:Int)(H:qe)(b:Nat)(a:H.all (Xp H.length)=true)(l:List Mk)(f:l.length=n)(d:qd H b=some (qt l)):
  call cx 185 [.osl b (n*19) 0 n 19,.int .i64 0,.int .i64 n,.int .i64 k,.fn 134 []] H=some (.tup [],H.set b (some (qt (Jp (n-1) 1 l)))):=by
 have h:=q2T n e H b a l f d;have c:=qz (n:Int) (n:Int);have g:(n:Int)<=12:=wC
 refine qC Tryz.func185 rfl ⟨rfl,rfl⟩ ?_;simp[Tryz.f185];refine qfY ?_;simp[c,g,h];exact qjT ⟨fun x hx=>qv0 a (qiy _ _) hx,qH wE⟩
theorem qoH[MaxL][TxtC](n:Nat)(f:n<=12)(H:qe)(b:Nat)(c:H.all (Xp H.length)=true)(l:List Mk)(g:l.length=n)(e:qd H b=some (qt l)):
  call cx 133 [.osl b (n*19) 0 n 19,.fn 134 []] H=some (.tup [],H.set b (some (qt (Jp (n-1) 1 l)))):=by
 have h:=qzm n f (qpj n) H b c l g e;have a:=q0Z n wC;have d:=zf (n:Int) (n:Int);refine qC Tryz.func133 rfl ⟨rfl,rfl⟩ ?_;simp[Tryz.f133,h,a,d];exact qjT ⟨fun x hx=>qv0 c (qiy _ _) hx,qH wE⟩
theorem q0I[MaxL][TxtC](s:Sl Mk)(e:s.l.length<=3000000000):
  call cx 132 [(.vsl s.nil (qt s.l) s.l.length)] []=if s.nil then some (.vsl true [] 0,[]) else some (.osl 0 (s.l.length*19) 0 s.l.length 19,[some (qt s.l)]):=by
 have a:s.l.length*40<=140737488355328:=wC
 have c:s.l.length<=140737488355328:=wC
 obtain⟨nil,l,d⟩:=s;simp only at e a c⊢;cases nil with
 |true=>
  have b:=d rfl;subst b;rw[if_pos rfl];refine qC Tryz.func132 rfl ⟨rfl,rfl⟩ ?_;simp[Tryz.f132]
 |false=>
  rw[if_neg wH];refine qC Tryz.func132 rfl ⟨rfl,rfl⟩ ?_;simp[Tryz.f132,a,c,qF]
def Z3(l:List Mk)(m:Mk):List Mk:=
 if find? (fun x=>x.id==m.id) l 0<0 then Jp l.length 1 (l++[m]) else l.set (find? (fun x=>x.id==m.id) l 0).toNat m
theorem q03[MaxL][TxtC](s:Sl Mk)(z:s.l.length<=11)(m:Mk):
  call cx 87 [(.vsl s.nil (qt s.l) s.l.length),.agg (Enc.cells m)] []=some (.vsl false (qt (Z3 s.l m)) (Z3 s.l m).length,[]):=by
 have hc:=q0I s wC;have b:=qlc s wC m.id;have f:(Enc.cells m).take 16=qf m.id.l:=xP
 have q:(qt s.l).take (s.l.length*19)=qt s.l:=qH wE;by_cases e:s.nil=true
 .have a:=s.h e;rw[e,a] at hc b;have d:=qoH 1 wH [some (Enc.cells m),some (Enc.cells m),some (Enc.cells m)] 2 (by simp[Xp]) [m] rfl (by simp[qd,qix]);simp at hc b d;have c:Z3 s.l m=[m]:=by rw[a];rfl
  refine qC Tryz.func87 rfl ⟨rfl,rfl⟩ ?_;simp[Tryz.f87,e,a,hc,b,f,qF,find?,d,Jp,qix];rw[<-a,c];simp[qix]
 .have k:s.nil=false:=by simpa using e
  rw[k] at hc b;rw[if_neg wH] at hc;rcases find?_spec (fun x=>x.id==m.id) s.l 0 with⟨i,w,n,p,v,o,y⟩|⟨n,p⟩
  .rw[o] at b
   have c:Z3 s.l m=s.l.set i m:=by
    unfold Z3;rw[o,if_neg wC];congr 1;omega
   have j:i*19+19<=s.l.length*19:=wC;refine qC Tryz.func87 rfl ⟨rfl,rfl⟩ ?_;simp[Tryz.f87,k,hc,b,f,q,p,j,c,qH]
  .rw[n] at b
   have c:Z3 s.l m=Jp s.l.length 1 (s.l++[m]):=by
    unfold Z3;rw[n,if_pos wH]
   have d:=qoH (s.l.length+1) wC [some (Enc.cells m),some (qt s.l++Enc.cells m),some (Enc.cells m)] 1 (by simp[Xp]) (s.l++[m]) wE (by simp[qd,qe8]);have u:s.l.length*19+19=(s.l.length+1)*19:=wC;have g:(s.l.length+1)*40<=140737488355328:=wC;have r:s.l.length+1<=140737488355328:=wC;have t:(Jp s.l.length 1 (s.l++[m])).length=s.l.length+1:=(by rw[qsQ];simp);simp at d;refine qC Tryz.func87 rfl ⟨rfl,rfl⟩ ?_;simp[Tryz.f87,k,hc,b,f,q,qF,g,r,u,d,c,t,qH]
def qhf:Int:=18446744073709551615
def qgp(v n:Int):Int:=if IntKind.u64.wrap (qhf-v)<n then qhf else IntKind.u64.wrap (v+n)
theorem qoG[MaxL][TxtC](v n:Int):call cx 86 [.int .u64 v,.int .u64 n] []=some (.int .u64 (qgp v n),[]):=by
 refine qC Tryz.func86 rfl ⟨rfl,rfl⟩ ?_;by_cases h:IntKind.u64.wrap (18446744073709551615-v)<n
 .simp[Tryz.f86,h,qgp,qhf]
 .simp[Tryz.f86,h,qgp,qhf]
def X3(l:List Mk)(id:ID):Int:=
 if YJ l=false then 1 else if l.length=4/\find? (fun m=>m.id==id) l 0<0 then 15 else 0
theorem q0K[MaxL][TxtC](s:Sl Mk)(e:s.l.length<4611686018427387904)(id:ID):
  call cx 85 [(.vsl s.nil (qt s.l) s.l.length),.agg (qf id.l)] []=some (.int .i64 (X3 s.l id),[]):=by
 have a:=qj9 s e;have c:=qlc s e id;refine qC Tryz.func85 rfl ⟨rfl,rfl⟩ ?_;cases h:YJ s.l with
 |false=>
  rw[h] at a;simp[Tryz.f85,a,X3,h]
 |true=>
  rw[h] at a;by_cases b:s.l.length=4
  .rw[b] at c a;by_cases d:find? (fun m=>m.id==id) s.l 0<0
   .simp[Tryz.f85,a,X3,h,b,c,d]
   .simp[Tryz.f85,a,X3,h,b,c,d]
  .have f:¬((s.l.length:Int)=4):=wC;simp[Tryz.f85,a,X3,h,b,f]
theorem q0L{l:List Mk}{id:ID}(h:X3 l id=0):l.length<=4:=by
 unfold X3 at h;split at h
 .cases h
 .rename_i a;rw[Bool.not_eq_false,YJ,zY] at a;exact of_decide_eq_true a.1
def qb9(c:Int)(l:List Mk):D:=if c=0 then .vsl false (qt l) l.length else .vsl true [] 0
def YE(m:Mk)(a:It)(over:Bool):Mk:=
 if a.gap then{m with seq:=a.til,lost:=qgp m.lost (IntKind.u64.wrap (IntKind.u64.wrap (a.til-a.fr)+1))}
 else{m with seq:=a.rc.seq,over:=if over then qgp m.over 1 else m.over}
def qcp(m:Mk)(a:It):Bool:=
 if a.gap then !(decide (a.fr<=m.seq)||decide (a.til<a.fr)) else !decide (a.rc.seq<=m.seq)
def qeb(l:List Mk)(a:It):Int:=if X3 l a.id≠0 then X3 l a.id else if qcp (vn l a.id) a then 0 else 13
def Xy(l:List Mk)(a:It)(over:Bool):List Mk:=Z3 l (YE (vn l a.id) a over)
theorem qwQ[MaxL][TxtC](s:Sl Mk)(m:s.l.length<4611686018427387904)(a:It)(over:Bool):
  call cx 35 [(.vsl s.nil (qt s.l) s.l.length),.agg (Enc.cells a),.bool over] []=some (.tup [qb9 (qeb s.l a) (Xy s.l a over),.int .i64 (qeb s.l a)],[]):=by
 have d:=q0K s m a.id;have j:=qt8 s m a.id;have c:=qig s.l a.id;refine qC Tryz.func35 rfl ⟨rfl,rfl⟩ ?_;by_cases hc:X3 s.l a.id=0
 .rw[hc] at d;have f:=q03 s (by have:=q0L hc;omega) (YE (vn s.l a.id) a over);unfold qeb Xy;rw[if_neg (by simpa using hc)];generalize vn s.l a.id=g at *;generalize Z3 s.l (YE g a over)=pm at *;cases b:a.gap with
  |true=>
   by_cases h:a.fr<=g.seq
   .simp[Tryz.f35,It.cells,d,jd,ko,j,c,b,Mk.cells,h,qcp,qb9]
   .by_cases k:a.til<a.fr
    .simp[Tryz.f35,It.cells,d,jd,ko,j,c,b,Mk.cells,h,k,qcp,qb9]
    .have i:=qoG g.lost (IntKind.u64.wrap (IntKind.u64.wrap (a.til-a.fr)+1));simp only[YE,b,if_true,Mk.cells,c] at f;simp[Tryz.f35,It.cells,d,Zk,jd,ko,j,c,b,Mk.cells,h,k,qcp,qb9,i];simp[f]
  |false=>
   by_cases h:a.rc.seq<=g.seq
   .simp[Tryz.f35,It.cells,d,jd,ko,j,c,b,Mk.cells,h,qcp,qb9]
   .have i:=qoG g.over 1;simp only[YE,b,Mk.cells,c] at f;cases over with
    |false=>
     simp at f;simp[Tryz.f35,It.cells,d,Zk,jd,ko,j,c,b,Mk.cells,h,qcp,qb9,f]
    |true=>
     simp at f;simp[Tryz.f35,It.cells,d,Zk,jd,ko,j,c,b,Mk.cells,h,qcp,qb9,f,i]
 .have e:qeb s.l a=X3 s.l a.id:=by unfold qeb;rw[if_pos hc]
  simp[Tryz.f35,It.cells,d,hc,jd,qb9,e]
def vl(l:List Mk)(id:ID):Bool:=l.any fun m=>m.id==id
theorem qeB:∀(x y:List UInt8),zn y x= -zn x y
 |[],[]=>rfl
 |[],_::_=>rfl
 |_::_,[]=>rfl
 |a::x,b::y=>by
  simp only[zn];by_cases h:a=b
  .subst h;simp[qeB x y]
  .have d:¬b=a:=fun e=>h e.symm;rw[if_neg h,if_neg d];by_cases c:a<b
   .have:¬b<a:=UInt8.not_lt.2 (UInt8.le_of_lt c);rw[if_pos c,if_neg this];rfl
   .have:b<a:=UInt8.lt_of_le_of_ne (UInt8.not_lt.1 c) d;rw[if_neg c,if_pos this]
theorem qgL:∀{x y:List UInt8},zn x y=0->x=y
 |[],[],_=>rfl
 |[],_::_,h=>by simp[zn] at h
 |_::_,[],h=>by simp[zn] at h
 |a::x,b::y,h=>by
  simp only[zn] at h;by_cases e:a=b
  .rw[if_pos e] at h;rw[e,qgL h]
  .rw[if_neg e] at h;split at h<;>simp at h
theorem qgK:∀(x y:List UInt8),zn x y= -1\/zn x y=0\/zn x y=1
 |[],[]=>by simp[zn]
 |[],_::_=>by simp[zn]
 |_::_,[]=>by simp[zn]
 |a::x,b::y=>by
  simp only[zn];split
  .exact qgK x y
  .split<;>simp
theorem qf5:∀{x y z:List UInt8},zn x y<0->zn y z<0->zn x z<0
 |[],[],_,h,_=>by simp[zn] at h
 |[],_::_,[],_,h=>by simp[zn] at h
 |[],_::_,_::_,_,_=>by simp[zn]
 |_::_,[],_,h,_=>by simp[zn] at h
 |_::_,_::_,[],_,h=>by simp[zn] at h
 |a::x,b::y,c::z,e,d=>by
  simp only[zn] at e d⊢;by_cases f:a=b
  .subst f;rw[if_pos rfl] at e;by_cases e2:a=c
   .subst e2;rw[if_pos rfl] at d⊢;exact qf5 e d
   .rw[if_neg e2] at d⊢;exact d
  .rw[if_neg f] at e
   have g:a<b:=by
    by_cases l:a<b
    .exact l
    .rw[if_neg l] at e;simp at e
   by_cases e2:b=c
   .subst e2;rw[if_neg f,if_pos g];decide
   .rw[if_neg e2] at d
    have j:b<c:=by
     by_cases l:b<c
     .exact l
     .rw[if_neg l] at d;simp at d
    have i:a<c:=UInt8.lt_trans g j;rw[if_neg (UInt8.ne_of_lt i),if_pos i];decide
theorem qkK{a b:ID}(h:zn a.l b.l=0):a=b:=ID.ext' (qgL h)
def qvF(l:List Mk)(id:ID):Prop:=∀x∈l,zn x.id.l id.l<0
theorem rises_cons{a:Mk}{l:List Mk}:kv (a::l)=true↔(∀x∈l,zn a.id.l x.id.l<0)/\kv l=true:=by
 induction l generalizing a with
 |nil=>simp[kv]
 |cons b l e=>
  simp only[kv,zY,decide_eq_true_eq,jC,forall_eq_or_imp];constructor
  .rintro⟨d,c⟩;exact⟨⟨d,fun x hx=>qf5 d ((e.1 c).1 x hx)⟩,c⟩
  .rintro⟨⟨d,_⟩,c⟩;exact⟨d,c⟩
theorem rises_append{a b:List Mk}:kv (a++b)=true↔kv a=true/\kv b=true/\∀x∈a,∀y∈b,zn x.id.l y.id.l<0:=by
 induction a with
 |nil=>simp[kv]
 |cons x a j=>
  rw[Qc,rises_cons,rises_cons,j];constructor
  .rintro⟨e,i,g,f⟩;refine⟨⟨fun y c=>e y (Xr _ c),i⟩,g,fun y c z d=>?_⟩;rcases List.mem_cons.1 c with rfl|c
   .exact e z (List.mem_append_right _ d)
   .exact f y c z d
  .rintro⟨⟨e,i⟩,g,f⟩;refine⟨fun y c=>?_,i,g,fun y c z d=>f y (vy _ c) z d⟩;rcases List.mem_append.1 c with h|h
   .exact e y h
   .exact f x (Jd ..) y h
def Qj(m:Mk):List Mk->List Mk
 |[]=>[m]
 |x::l=>if zn x.id.l m.id.l<0 then x::Qj m l else m::x::l
theorem qsN(m:Mk):∀(l:List Mk),(Qj m l).length=l.length+1
 |[]=>rfl
 |x::l=>by
  unfold Qj;split
  .simp[qsN m l]
  .simp
theorem qsM(m:Mk):∀(l:List Mk)(x:Mk),x∈Qj m l↔x=m\/x∈l
 |[],x=>by simp[Qj]
 |y::l,x=>by
  unfold Qj;split
  .simp only[jC,qsM m l];constructor
   .rintro(h|h|h)
    .exact .inr (.inl h)
    .exact .inl h
    .exact .inr (.inr h)
   .rintro(h|h|h)
    .exact .inr (.inl h)
    .exact .inl h
    .exact .inr (.inr h)
  .simp
theorem qsO{m:Mk}:∀{l:List Mk},qvF l m.id->Qj m l=l++[m]
 |[],_=>rfl
 |x::l,h=>by
  rw[Qj,if_pos (h x (Jd ..)),qsO fun y a=>h y (vy _ a)];rfl
theorem qsL{m x:Mk}:∀{l:List Mk},¬zn x.id.l m.id.l<0->Qj m (l++[x])=Qj m l++[x]
 |[],h=>by simp[Qj,h]
 |y::l,h=>by
  simp only[Qc,Qj];split
  .rw[qsL h];rfl
  .rfl
theorem hasM_false{l:List Mk}{id:ID}:vl l id=false↔∀x∈l,x.id≠id:=by
 simp[vl]
theorem getElem?_mid{α:Type}(a:List α)(x:α)(b:List α):(a++x::b)[a.length]?=some x:=by
 rw[jl (qA _),Nat.sub_self];rfl
theorem qmW(m:Mk):∀(n:Nat)(l t:List Mk),l.length=n->kv l=true->(∀x∈l,x.id≠m.id)->VM n (l++m::t)=Qj m l++t
 |0,l,t,c,_,_=>by
  have:l=[]:=ky c;subst this;rfl
 |n+1,l,t,c,j,i=>by
  obtain⟨a,x,rfl⟩:∃a x,l=a++[x]:=⟨l.dropLast,l.getLast (by intro h;subst h;simp at c),(List.dropLast_concat_getLast _).symm⟩;have d:a.length=n:=wo
  obtain⟨o,_,p⟩:=rises_append.1 j;have hx:=i x wE
  have g:(a++[x]++m::t)[n+1]?=some m:=by
   rw[show n+1=(a++[x]).length from xR];exact getElem?_mid _ _ _
  have e2:(a++[x]++m::t)[n]?=some x:=by
   rw[jX,<-d];exact getElem?_mid a x (m::t)
  rw[VM,g,e2];simp only;by_cases hc:zn m.id.l x.id.l<0
  .rw[if_pos hc]
   have f:swp (a++[x]++m::t) (n+1)=a++m::(x::t):=by
    unfold swp;rw[g,Nat.add_sub_cancel,e2];simp only;subst d;rw[jX,List.singleton_append,List.set_append_right _ _ (Nat.le_succ _),show a.length+1-a.length=1 from wC,List.set_append_right _ _ (qA _),Nat.sub_self];rfl
   have b:¬zn x.id.l m.id.l<0:=(by rw[qeB];omega);rw[f,qmW m n a (x::t) d o (fun y e=>i y (Xr _ e)),qsL b];simp
  .rw[if_neg hc]
   have b:zn x.id.l m.id.l<0:=by
    rcases qgK x.id.l m.id.l with h|h|h
    .omega
    .exact absurd (qkK h) hx
    .rw[qeB] at hc;omega
   have k:qvF (a++[x]) m.id:=by
    intro y e;rcases List.mem_append.1 e with h|h
    .exact qf5 (p y h x wE) b
    .rw[List.mem_singleton.1 h];exact b
   rw[qsO k];simp
theorem qxC{l:List Mk}{t:List Mk}(a:kv l=true){i:Nat}(hi:i<l.length):VM i (l++t)=l++t:=by
 cases i with
 |zero=>rfl
 |succ j=>
  have b:j<l.length:=wC
  rw[VM,vD hi,vD b,qM hi,qM b];simp only;rw[if_neg]
  have d:zn l[j].id.l l[j+1].id.l<0:=by
   have c:l=l.take (j+1)++l.drop (j+1):=(Zy _ _).symm;rw[c] at a;refine(rises_append.1 a).2.2 _ ?_ _ ?_
   .rw[List.mem_take_iff_getElem];exact⟨j,wC,rfl⟩
   .rw[jo hi];exact Jd ..
  rw[qeB];omega
theorem qsP{l:List Mk}{m:Mk}(a:kv l=true)(b:∀x∈l,x.id≠m.id):∀(k i:Nat),k+i=l.length+1->1<=i->Jp k i (l++[m])=if k=0 then l++[m] else Qj m l
 |0,i,_,_=>rfl
 |k+1,i,h,hi=>by
  rw[Jp,if_neg wC];rcases Kx i l.length with c|e
  .rw[qxC a c,qsP a b k (i+1) wC wC,if_neg wC]
  .have:i=l.length:=wC;have d:k=0:=wC;subst d;rw[Jp,qmW m i l [] this.symm a b];simp
theorem find?_neg{l:List Mk}{id:ID}:find? (fun m=>m.id==id) l 0<0↔vl l id=false:=by
 rcases find?_spec (fun m=>m.id==id) l 0 with⟨i,m,a,c,b,e,f⟩|⟨a,c⟩
 .rw[e];constructor
  .intro h;omega
  .intro h;have:=hasM_false.1 h m (j7 a);simp at b;exact absurd b this
 .rw[a];constructor
  .intro _;rw[hasM_false];intro x hx d;have:=List.find?_eq_none.1 c x hx;simp[d] at this
  .intro _;decide
theorem qfe{l:List Mk}{m:Mk}(c:kv l=true)(b:vl l m.id=false):Z3 l m=Qj m l:=by
 unfold Z3;rw[if_pos (find?_neg.2 b)];cases l with
 |nil=>rfl
 |cons a l=>rw[qsP c (hasM_false.1 b) _ 1 rfl (qA _),if_neg wE]
def Z2(m:Mk):List Mk->List Mk
 |[]=>[]
 |x::l=>if x.id==m.id then m::l else x::Z2 m l
theorem find?_set{m:Mk}:∀{l:List Mk}(k:Nat),vl l m.id=true->∃i,find? (fun x=>x.id==m.id) l k=((k+i:Nat):Int)/\i<l.length/\l.set i m=Z2 m l
 |[],_,h=>by simp[vl] at h
 |x::l,k,h=>by
  cases a:x.id==m.id with
  |true=>exact⟨0,by simp[find?,a],wE,by simp[Z2,a]⟩
  |false=>
   have b:vl l m.id=true:=(by simpa[vl,a] using h);obtain⟨i,f,d,c⟩:=find?_set (k+1) b;refine⟨i+1,?_,xB,by simp[Z2,a,c]⟩;simp only[find?,a,Qd,if_false];have e:(k:Int)+1=((k+1:Nat):Int):=wC;rw[e,f];omega
theorem qfd{l:List Mk}{m:Mk}(c:vl l m.id=true):Z3 l m=Z2 m l:=by
 obtain⟨i,b,e,a⟩:=find?_set 0 c;have d:find? (fun x=>x.id==m.id) l 0=(i:Int):=wv
 unfold Z3;rw[d,if_neg wC];simpa using a
theorem qxk(m:Mk)(a:It)(o:Bool):(YE m a o).id=m.id:=by unfold YE;split<;>rfl
theorem qnz{m:Mk}:∀{l:List Mk},kv l=true->vl l m.id=false->kv (Qj m l)=true
 |[],_,_=>rfl
 |x::l,d,e=>by
  have hx:zn x.id.l m.id.l≠0:=fun h=>hasM_false.1 e x (Jd ..) (qkK h);have b:vl l m.id=false:=hasM_false.2 fun y a=>hasM_false.1 e y (vy _ a);obtain⟨f,g⟩:=rises_cons.1 d;unfold Qj;split
  .rename_i hc;refine rises_cons.2 ⟨fun y a=>?_,qnz g b⟩;rcases(qsM m l y).1 a with rfl|a
   .exact hc
   .exact f y a
  .rename_i hc
   have c:zn m.id.l x.id.l<0:=by
    rw[qeB];rcases qgK x.id.l m.id.l with h|h|h<;>omega
   refine rises_cons.2 ⟨fun y a=>?_,d⟩;rcases List.mem_cons.1 a with rfl|a
   .exact c
   .exact qf5 c (f y a)
theorem qn6{m:Mk}:∀{l:List Mk}{y:Mk},y∈Z2 m l->y=m\/y∈l
 |[],y,h=>by simp[Z2] at h
 |x::l,y,h=>by
  unfold Z2 at h;split at h
  .rcases List.mem_cons.1 h with h|h
   .exact .inl h
   .exact .inr (vy _ h)
  .rcases List.mem_cons.1 h with h|h
   .exact .inr (by rw[h];exact Jd ..)
   .rcases qn6 h with h|h
    .exact .inl h
    .exact .inr (vy _ h)
theorem qny{m:Mk}:∀{l:List Mk},kv l=true->vl l m.id=true->kv (Z2 m l)=true
 |[],_,_=>rfl
 |x::l,i,j=>by
  obtain⟨f,g⟩:=rises_cons.1 i;unfold Z2;split
  .rename_i d;have a:x.id=m.id:=xB;refine rises_cons.2 ⟨fun y c=>?_,g⟩;rw[<-a];exact f y c
  .rename_i d;have a:¬x.id=m.id:=xB;have b:vl l m.id=true:=(by simpa[vl,a] using j);refine rises_cons.2 ⟨fun y c=>?_,qny g b⟩;rcases qn6 c with rfl|c
   .obtain⟨z,h,e⟩:∃z∈l,z.id=y.id:=by simpa[vl] using b
    rw[<-e];exact f z h
   .exact f y c
theorem qn7(m:Mk):∀(l:List Mk),(Z2 m l).length=l.length
 |[]=>rfl
 |x::l=>by
  unfold Z2;split
  .rfl
  .simp[qn7 m l]
theorem qy9{l:List Mk}{m:Mk}(b:kv l=true):kv (Z3 l m)=true:=by
 cases a:vl l m.id with
 |true=>rw[qfd a];exact qny b a
 |false=>rw[qfe b a];exact qnz b a
theorem qyV{l:List Mk}{m:Mk}(b:kv l=true):(Z3 l m).length=if vl l m.id then l.length else l.length+1:=by
 cases a:vl l m.id with
 |true=>rw[qfd a,qn7];rfl
 |false=>rw[qfe b a,qsN];rfl
structure SqF where
 id:ID
 l:List Pl
 t:Nat
def JA(q:SqF)(d:Nat):Option Pl:=q.l.find? fun x=>decide (d<x.s)
def Yf(q:SqF)(d:Nat):Nat:=match JA q d with
 |some x=>x.s-1
 |none=>q.t
def kK(q:SqF)(d:Nat):NxV:=match JA q d with
 |some x=>⟨q.id.l,x.s,x.r,x.f,x.i,true,if d<x.s-1 then d+1 else 0,if d<x.s-1 then x.s-1 else 0⟩
 |none=>⟨q.id.l,0,0,.nilp,0,false,if d<q.t then d+1 else 0,if d<q.t then q.t else 0⟩
def VQ(q:SqF)(d:Nat):Bool:=(JA q d).isSome||decide (d<Yf q d)
def vE(M:List Mk)(q:SqF):Nat:=(vn M q.id).seq.toNat
def qee(M:List Mk)(q:SqF):Bool:=decide (M.length=4)&& !vl M q.id
def Vu(M:List Mk)(q:SqF):Option NxV:=if qee M q then none else if VQ q (vE M q) then some (kK q (vE M q)) else none
def ZP(l:List SqF)(M:List Mk):List NxV:=l.filterMap (Vu M)
def qhB:List NxV->Option NxV
 |[]=>none
 |x::r=>some (ZR x r)
def V6(l:List SqF)(M:List Mk):Option NxV:=qhB (ZP l M)
theorem qlb{l:List SqF}{M:List Mk}{x:NxV}(h:V6 l M=some x):∃q,q∈l/\qee M q=false/\VQ q (vE M q)=true/\x=kK q (vE M q):=by
 unfold V6 qhB at h
 have c:x∈ZP l M:=by
  cases b:ZP l M with
  |nil=>rw[b] at h;simp at h
  |cons y r=>rw[b] at h;injection h with h;rw[<-h];exact qhC r y
 obtain⟨q,f,a⟩:=List.mem_filterMap.1 c;unfold Vu at a;split at a
 .simp at a
 .rename_i e;split at a
  .rename_i d;injection a with a;exact⟨q,f,by simpa using e,d,a.symm⟩
  .simp at a
def qet(l:List UInt8):ID:=if h:l.length=16 then⟨l,h⟩ else ID.zero
theorem qkp(i:ID):qet i.l=i:=by
 unfold qet;rw[dif_pos i.h]
def qgc:Rec:=⟨0,0,0,ID.zero,Sl.none⟩
def Qh(rf:D->Int->Rec)(x:NxV):It:=if 0<x.fr then⟨qet x.id,true,x.fr,x.tt,qgc⟩ else⟨qet x.id,false,0,0,rf x.f x.i⟩
def Zj(rf:D->Int->Rec)(l:List SqF):Nat->List Mk->List It×List Mk
 |0,M=>([],M)
 |n+1,M=>match V6 l M with
  |none=>([],M)
  |some x=>((Qh rf x)::(Zj rf l n (Xy M (Qh rf x) false)).1,(Zj rf l n (Xy M (Qh rf x) false)).2)
def ks(l:List Mk):List (ID×Int):=l.map fun m=>(m.id,m.seq)
theorem q1o{l m:List Mk}(h:ks l=ks m):l.length=m.length:=by
 have:=congrArg List.length h;simpa[ks] using this
theorem qhN:∀{l m:List Mk},ks l=ks m->∀i,vl l i=vl m i
 |[],[],_,i=>rfl
 |a::l,b::m,h,i=>by
  simp only[ks,List.map_cons,qa2,zi] at h;have:=qhN (l:=l) (m:=m) h.2 i;unfold vl at *;simp only[List.any_cons,h.1.1,this]
 |[],b::m,h,i=>by simp[ks] at h
 |a::l,[],h,i=>by simp[ks] at h
theorem qpr:∀{l m:List Mk},ks l=ks m->∀i,(vn l i).seq=(vn m i).seq
 |[],[],_,i=>rfl
 |a::l,b::m,h,i=>by
  simp only[ks,List.map_cons,qa2,zi] at h;have:=qpr (l:=l) (m:=m) h.2 i;unfold vn at *;simp only[List.find?_cons,h.1.1];cases c:b.id==i with
  |true=>exact h.1.2
  |false=>exact this
 |[],b::m,h,i=>by simp[ks] at h
 |a::l,[],h,i=>by simp[ks] at h
theorem qpq:∀{l m:List Mk}{x y:Mk},ks l=ks m->x.id=y.id->x.seq=y.seq->ks (Qj x l)=ks (Qj y m)
 |[],[],x,y,_,c,d=>by simp[Qj,ks,c,d]
 |a::l,b::m,x,y,h,c,d=>by
  have e:=h;simp only[ks,List.map_cons,qa2,zi] at h;have:=qpq (l:=l) (m:=m) (x:=x) (y:=y) h.2 c d;simp only[Qj,h.1.1,c];split
  .simp only[ks,List.map_cons,qa2,zi] at *;exact⟨h.1,this⟩
  .simp only[ks,List.map_cons,qa2,zi] at *;exact⟨⟨c,d⟩,h⟩
 |[],b::m,x,y,h,_,_=>by simp[ks] at h
 |a::l,[],x,y,h,_,_=>by simp[ks] at h
theorem qpp:∀{l m:List Mk}{x y:Mk},ks l=ks m->x.id=y.id->x.seq=y.seq->ks (Z2 x l)=ks (Z2 y m)
 |[],[],x,y,_,c,d=>by simp[Z2,ks]
 |a::l,b::m,x,y,h,c,d=>by
  simp only[ks,List.map_cons,qa2,zi] at h;have:=qpp (l:=l) (m:=m) (x:=x) (y:=y) h.2 c d;simp only[Z2,h.1.1,c];split
  .simp only[ks,List.map_cons,qa2,zi] at *;exact⟨⟨c,d⟩,h.2⟩
  .simp only[ks,List.map_cons,qa2,zi] at *;exact⟨h.1,this⟩
 |[],b::m,x,y,h,_,_=>by simp[ks] at h
 |a::l,[],x,y,h,_,_=>by simp[ks] at h
theorem q1n{l m:List Mk}{x y:Mk}(h:ks l=ks m)(e:kv l=true)(d:kv m=true)(a:x.id=y.id)(c:x.seq=y.seq):ks (Z3 l x)=ks (Z3 m y):=by
 cases b:vl l x.id with
 |true=>rw[qfd b,qfd (by rw[<-a,<-qhN h];exact b)];exact qpp h a c
 |false=>rw[qfe e b,qfe d (by rw[<-a,<-qhN h];exact b)];exact qpq h a c
theorem qt7:∀{l:List Mk}{x:Mk}(i:ID),vl l x.id=false->vn (Qj x l) i=if x.id=i then x else vn l i
 |[],x,i,_=>by
  unfold vn Qj;by_cases h:x.id=i<;>simp[h]
 |a::l,x,i,h=>by
  have d:(a.id==x.id)=false/\vl l x.id=false:=by
   unfold vl at *;simpa[List.any_cons,Bool.or_eq_false_iff] using h
  have f:=qt7 (l:=l) (x:=x) i d.2;have c:a.id≠x.id:=by simpa using d.1
  unfold vn at *;simp only[Qj];split
  .simp only[List.find?_cons];by_cases b:a.id=i
   .have hx:x.id≠i:=fun e=>c (b.trans e.symm);simp[b,hx]
   .simp only[show(a.id==i)=false from wv];exact f
  .simp only[List.find?_cons];by_cases hx:x.id=i
   .simp[hx]
   .simp[show(x.id==i)=false from wY,hx]
theorem qt6:∀{l:List Mk}{x:Mk}(i:ID),vl l x.id=true->vn (Z2 x l) i=if x.id=i then x else vn l i
 |[],x,i,h=>by simp[vl] at h
 |a::l,x,i,h=>by
  unfold vn at *;simp only[Z2];by_cases b:a.id=x.id
  .simp only[b,beq_self_eq_true,if_true,List.find?_cons];by_cases hx:x.id=i
   .simp[hx]
   .simp[show(x.id==i)=false from wY,hx]
  .simp only[show(a.id==x.id)=false from wv,Qd,if_false,List.find?_cons];by_cases hi:a.id=i
   .have hx:x.id≠i:=fun e=>b (hi.trans e.symm);simp[hi,hx]
   .simp only[show(a.id==i)=false from xl]
    have c:vl l x.id=true:=by
     unfold vl at *;simpa[List.any_cons,b] using h
    have:=qt6 (l:=l) (x:=x) i c;unfold vn at this;exact this
theorem q3X{l:List Mk}{x:Mk}(b:kv l=true)(i:ID):vn (Z3 l x) i=if x.id=i then x else vn l i:=by
 cases a:vl l x.id with
 |true=>rw[qfd a];exact qt6 i a
 |false=>rw[qfe b a];exact qt7 i a
structure SqF.Ok (rf:D->Int->Rec) (q:SqF):Prop where
 rise:q.l.Pairwise (fun a b=>a.s<b.s)
 lt:∀x,x∈q.l->x.s<18446744073709551616
 t:q.t<18446744073709551616
 rc:∀x:Pl,x∈q.l->(rf x.f x.i).seq=x.s
theorem qgk{q:SqF}{d:Nat}{x:Pl}(h:JA q d=some x):x∈q.l/\d<x.s:=by
 have a:=List.find?_some h;exact⟨List.mem_of_find?_eq_some h,of_decide_eq_true a⟩
def qer(a:It):Int:=if a.gap then a.til else a.rc.seq
theorem q2S{rf:D->Int->Rec}{q:SqF}(ok:q.Ok rf){d:Nat}(hi:VQ q d=true){b:It}(a:b=Qh rf (kK q d)):
  b.id=q.id/\(b.gap=true->b.fr=((d+1:Nat):Int)/\b.fr<=b.til)/\(b.gap=false->b.rc.seq=((d+1:Nat):Int))/\∃n:Nat,qer b=(n:Int)/\d<n/\n<18446744073709551616/\
   ((b.gap=true/\n=Yf q d)\/(b.gap=false/\n=d+1/\∃x,JA q d=some x/\x.s=d+1)):=by
 unfold VQ Yf at hi;unfold kK at a;unfold Yf;cases c:JA q d with
 |none=>
  rw[c] at hi a;simp only[Option.isSome_none,Bool.false_or,decide_eq_true_eq] at hi;simp only[if_pos hi] at a;unfold Qh at a;rw[if_pos wE] at a;subst a;exact⟨qkp _,fun _=>⟨rfl,by show((d+1:Nat):Int)<=(q.t:Int);omega⟩,fun h=>wI,q.t,rfl,hi,ok.t,.inl ⟨rfl,rfl⟩⟩
 |some x=>
  obtain⟨hx,k⟩:=qgk c;have:=ok.lt x hx;rw[c] at a;simp only at a⊢;by_cases e:d<x.s-1
  .simp only[if_pos e] at a;unfold Qh at a;rw[if_pos wE] at a;subst a;exact⟨qkp _,fun _=>⟨rfl,by show((d+1:Nat):Int)<=((x.s-1:Nat):Int);omega⟩,fun h=>wI,x.s-1,rfl,e,wC,.inl ⟨rfl,rfl⟩⟩
  .simp only[if_neg e] at a;unfold Qh at a;rw[if_neg wE] at a;subst a;have j:=ok.rc x hx;have g:x.s=d+1:=wC;refine⟨qkp _,fun h=>wI,fun _=>?_,d+1,?_,wC,wC,.inr ⟨rfl,rfl,x,rfl,g⟩⟩
   .show(rf x.f x.i).seq=_;rw[j,g]
   .show(rf x.f x.i).seq=_;rw[j,g]
def qev(q:SqF)(d:Nat):Nat:=q.l.countP (fun x=>decide (d<x.s))+q.l.countP (fun x=>decide (d+1<x.s))+(if d<q.t then 1 else 0)
theorem qgC{l:List Pl}{a b:Nat}(h:a<=b):l.countP (fun x=>decide (b<x.s))<=l.countP (fun x=>decide (a<x.s)):=
 List.countP_mono_left fun x _ hx=>decide_eq_true (by have:=of_decide_eq_true hx;omega)
theorem ql5:∀{l:List Pl}{a b:Nat}{x:Pl},a<=b->x∈l->a<x.s->x.s<=b->l.countP (fun x=>decide (b<x.s))<l.countP (fun x=>decide (a<x.s))
 |y::l,a,b,x,h,hx,c,e=>by
  simp only[List.countP_cons];have f:=qgC (l:=l) h;rcases List.mem_cons.1 hx with rfl|hx
  .rw[if_neg wG,if_pos wo];omega
  .have:=ql5 h hx c e;by_cases d:b<y.s
   .rw[if_pos xB,if_pos wG];omega
   .rw[if_neg xB];omega
theorem q1d(q:SqF){a b:Nat}(h:a<=b):qev q b<=qev q a:=by
 unfold qev;have e:=qgC (l:=q.l) h;have d:=qgC (l:=q.l) (show a+1<=b+1 from wC);by_cases c:b<q.t
 .rw[if_pos c,if_pos wC];omega
 .rw[if_neg c];omega
theorem q1c{rf:D->Int->Rec}{q:SqF}(_:q.Ok rf){d n:Nat}(e:d<n)(h:n=Yf q d\/∃x,JA q d=some x/\x.s=d+1):qev q n<qev q d:=by
 unfold qev;have m:=qgC (l:=q.l) (qfJ e);have k:=qgC (l:=q.l) (show d+1<=n+1 from wC)
 have j:(if n<q.t then 1 else 0)<=(if d<q.t then 1 else 0):=by
  by_cases g:n<q.t
  .rw[if_pos g,if_pos wC];omega
  .rw[if_neg g];omega
 cases a:JA q d with
 |none=>
  rcases h with h|⟨x,hx,-⟩
  .unfold Yf at h;rw[a] at h;simp only at h;rw[if_neg wC,if_pos wC];omega
  .rw[a] at hx;simp at hx
 |some x=>
  obtain⟨hx,i⟩:=qgk a;by_cases f:x.s=d+1
  .have:=ql5 (qfJ e) hx i wC;omega
  .rcases h with h|⟨y,b,c⟩
   .unfold Yf at h;rw[a] at h;simp only at h;have:=ql5 (show d+1<=n+1 from wC) hx wC wC;omega
   .rw[a] at b;injection b with b;rw[b] at f;exact absurd c f
def qk2(l:List SqF)(M:List Mk):Nat:=(l.map fun q=>qev q (vE M q)).sum
theorem qm3:∀{l:List SqF}{f g:SqF->Nat}{q:SqF},(∀x,x∈l->f x<=g x)->q∈l->f q<g q->(l.map f).sum<(l.map g).sum
 |y::l,f,g,q,h,a,b=>by
  simp only[List.map_cons,List.sum_cons];have e:=h y wE
  have c:(l.map f).sum<=(l.map g).sum:=by
   clear a b
   induction l with
   |nil=>simp
   |cons z l d=>
    simp only[List.map_cons,List.sum_cons];have:=h z wE
    have:=d fun x hx=>h x (by
     rcases List.mem_cons.1 hx with rfl|hx
     .simp
     .simp[hx])
    omega
  rcases List.mem_cons.1 a with rfl|a
  .omega
  .have:=qm3 (fun x hx=>h x (vy _ hx)) a b;omega
structure MOk (M:List Mk):Prop where
 r:YJ M=true
 pos:∀m,m∈M->jq m.seq
theorem MOk.rises{M:List Mk}(h:MOk M):kv M=true:=by
 have:=h.r;unfold YJ at this;rw[zY] at this;exact this.2
theorem MOk.len{M:List Mk}(h:MOk M):M.length<=4:=by
 have:=h.r;unfold YJ at this;rw[zY] at this;exact of_decide_eq_true this.1
theorem qkS{M:List Mk}(h:∀m,m∈M->jq m.seq)(i:ID):jq (vn M i).seq:=by
 unfold vn;cases a:M.find? (fun m=>m.id==i) with
 |none=>exact⟨Int.le_refl 0,show(0:Int)<18446744073709551616 from wH⟩
 |some m=>exact h m (List.mem_of_find?_eq_some a)
theorem qmK{M:List Mk}(h:MOk M)(q:SqF):(vn M q.id).seq=(vE M q:Int):=by
 have:=(qkS h.pos q.id).1;unfold vE;omega
theorem qxu{M:List Mk}(h:MOk M)(q:SqF):vE M q<18446744073709551616:=by
 have:=(qkS h.pos q.id).2;have:=(qkS h.pos q.id).1;unfold vE;omega
theorem qoU{x y:Mk}:∀{l:List Mk},y∈Qj x l->y=x\/y∈l
 |[],h=>by simp[Qj] at h;exact .inl h
 |a::l,h=>by
  simp only[Qj] at h;split at h
  .rcases List.mem_cons.1 h with rfl|h
   .simp
   .rcases qoU h with h|h
    .exact .inl h
    .exact .inr (vy _ h)
  .rcases List.mem_cons.1 h with rfl|h
   .simp
   .exact .inr h
theorem qoR{x y:Mk}:∀{l:List Mk},y∈Z2 x l->y=x\/y∈l
 |[],h=>by simp[Z2] at h
 |a::l,h=>by
  simp only[Z2] at h;split at h
  .rcases List.mem_cons.1 h with rfl|h
   .simp
   .exact .inr (vy _ h)
  .rcases List.mem_cons.1 h with rfl|h
   .simp
   .rcases qoR h with h|h
    .exact .inl h
    .exact .inr (vy _ h)
theorem MOk.put{M:List Mk}(h:MOk M){x:Mk}(hx:jq x.seq)(b:vl M x.id=true\/M.length<4):MOk (Z3 M x):=by
 refine⟨?_,fun m a=>?_⟩
 .unfold YJ;rw[qy9 h.rises,qyV h.rises];have:=h.len;rcases b with b|b
  .simp[b,this]
  .split<;>simp<;>omega
 .cases c:vl M x.id with
  |true=>
   rw[qfd c] at a;rcases qoR a with rfl|a
   .exact hx
   .exact h.pos m a
  |false=>
   rw[qfe h.rises c] at a;rcases qoU a with rfl|a
   .exact hx
   .exact h.pos m a
theorem qxg(m:Mk)(a:It):(YE m a false).seq=qer a:=by
 unfold YE qer;split<;>rfl
structure StepOk (M m:List Mk) (it:It):Prop where
 room:vl m it.id=true\/m.length<4
 gap:it.gap=true->it.fr=(vn m it.id).seq+1/\it.fr<=it.til
 ent:it.gap=false->it.rc.seq=(vn m it.id).seq+1
 seq:0<=(vn m it.id).seq/\(vn m it.id).seq<18446744073709551615
 nxt:qer it<18446744073709551616
 tk:qeb M it=0
 ok1:MOk (Xy M it false)
 ok2:MOk (Z3 m {vn m it.id with seq:=qer it})
 ks:ks (Xy M it false)=ks (Z3 m {vn m it.id with seq:=qer it})
theorem qxi{rf:D->Int->Rec}{l:List SqF}(L:∀q,q∈l->q.Ok rf){M m:List Mk}(e:MOk M)(G:MOk m)(u:ks M=ks m){x:NxV}(hx:V6 l M=some x):
  StepOk M m (Qh rf x)/\qk2 l (Xy M (Qh rf x) false)<qk2 l M:=by
 obtain⟨q,F,z,A,rfl⟩:=qlb hx;obtain⟨c,H⟩:∃c,c=Qh rf (kK q (vE M q)):=⟨_,rfl⟩;rw[<-H];have ok:=L q F;obtain⟨g,E,B,n,j,I,O,o⟩:=q2S ok A H;have C:=qmK e q;have e2:(vn m c.id).seq=(vE M q:Int):=by rw[g,<-C,qpr u]
 have y:vl M q.id=true\/M.length<4:=by
  unfold qee at z;have:=e.len;cases N:vl M q.id with
  |true=>exact .inl rfl
  |false=>
   rw[N] at z;simp at z;exact .inr wC
 have v:qcp (vn M c.id) c=true:=by
  rw[g];unfold qcp;rw[C];unfold qer at j;cases f:c.gap with
  |true=>
   obtain⟨a,b⟩:=E f;simp only[if_true,Bool.not_eq_true',Bool.or_eq_false_iff,decide_eq_false_iff_not];omega
  |false=>
   have:=B f;simp only[Qd,if_false,Bool.not_eq_true',decide_eq_false_iff_not];omega
 have K:X3 M c.id=0:=by
  unfold X3;rw[if_neg (by rw[e.r];simp),g,if_neg];rintro⟨a,b⟩;have:=find?_neg.1 b;rcases y with h|h
  .rw[h] at this;cases this
  .omega
 have w:(YE (vn M c.id) c false).id=q.id:=by rw[qxk,qig,g]
 have d:=qxg (vn M c.id) c;have t:MOk (Xy M c false):=e.put (by rw[d,j];exact⟨wC,wC⟩) (by rw[w];exact y);have s:vl m c.id=true\/m.length<4:=by rw[g,<-qhN u,<-q1o u];exact y
 refine⟨⟨s,fun f=>?_,fun f=>?_,⟨by rw[e2];omega,by rw[e2];omega⟩,by rw[j];omega,?_,t,G.put (by rw[j];exact⟨Int.natCast_nonneg n,show(n:Int)<18446744073709551616 from wC⟩) (by rw[qig];exact s),?_⟩,?_⟩
 .rw[e2];have:=E f;omega
 .rw[e2];have:=B f;omega
 .unfold qeb;rw[if_neg (by rw[K];simp),if_pos v]
 .unfold Xy;exact q1n u e.rises G.rises (by rw[w,qig,g]) (by rw[d])
 .have qd:∀i,vn (Xy M c false) i=if q.id=i then YE (vn M c.id) c false else vn M i:=fun i=>by
   unfold Xy;rw[q3X e.rises,w]
  have k:∀p:SqF,vE (Xy M c false) p=if q.id=p.id then n else vE M p:=fun p=>by
   unfold vE;rw[qd];split
   .rw[d,j];simp
   .rfl
  unfold qk2;refine qm3 (q:=q) (fun p _=>?_) F ?_
  .rw[k];split
   .rename_i J;refine q1d p ?_;have:vE M p=vE M q:=(by unfold vE;rw[J]);omega
   .exact qA _
  .rw[k,if_pos rfl];refine q1c ok I ?_;rcases o with o|⟨-,-,o⟩
   .exact .inl o.2
   .exact .inr o
def zy:D->List Nat
 | .osl r _ _ _ _=>[r]
 |_=>[]
theorem RowA.nm{H:qe}{k:Nat}{v:D}{cs:List D}{L:List Nat}(h:RowA H k v cs L):L=zy v:=by
 rcases h with⟨rfl,_,rfl⟩|⟨r,n,rfl,_,_,rfl⟩<;>rfl
def qcP(b:List UInt8)(i:Nat):Rec:=Ya (zD b).l ((zC b).getD i 0)
def J9(p:Nat)(b:List UInt8)(i:Nat):Pl:=⟨qT (qN (zD b).l ((zC b).getD i 0)) 0,qT (qN (zD b).l ((zC b).getD i 0)) 8,.optr p 5 0,i⟩
def Vd(p:Nat)(b:List UInt8):List Pl:=(zu b).map (J9 p b)
def YC(p:Nat)(b:List UInt8)(q:SqF):SqF:=⟨q.id,q.l++Vd p b,max q.t (qG b).tseq⟩
def kA(qs:List SqF)(i:ID):List SqF:=if qs.any (fun q=>q.id==i) then qs else qs++[⟨i,[],0⟩]
def vY(qs:List SqF)(f:Nat×List UInt8):List SqF:=(kA qs (qG f.2).seq).map fun q=>if q.id=(qG f.2).seq then YC f.1 f.2 q else q
def zW(fs:List (Nat×List UInt8)):List SqF:=fs.foldl vY []
theorem qyQ{fs:List (Nat×List UInt8)}{i:Nat}{f:Nat×List UInt8}(h:fs[i]?=some f):zW (fs.take (i+1))=vY (zW (fs.take i)) f:=by
 obtain⟨a,rfl⟩:=List.getElem?_eq_some_iff.1 h;unfold zW;rw[Ky a,List.foldl_append];rfl
def qdP(qs:List SqF):Prop:=∀(i j:Nat)(x y:SqF),qs[i]?=some x->qs[j]?=some y->x.id=y.id->i=j
theorem qo3{qs:List SqF}(h:qdP qs)(a:ID):qdP (kA qs a):=by
 unfold kA;split
 .exact h
 .rename_i k;have e:∀x,x∈qs->x.id≠a:=fun x hx c=>k (List.any_eq_true.2 ⟨x,hx,wo⟩);intro i j x y hi b c;rw[List.getElem?_append] at hi b;split at hi<;>split at b
  .exact h i j x y hi b c
  .rename_i g f;have d:=(List.getElem?_eq_some_iff.1 b).1;simp only[List.length_singleton] at d;rw[show j-qs.length=0 from wC] at b;simp only[Qb,qy] at b;subst b;exact absurd c (e x (j7 hi))
  .rename_i g f;have d:=(List.getElem?_eq_some_iff.1 hi).1;simp only[List.length_singleton] at d;rw[show i-qs.length=0 from wC] at hi;simp only[Qb,qy] at hi;subst hi;exact absurd c.symm (e y (j7 b))
  .have d:=(List.getElem?_eq_some_iff.1 hi).1;have l:=(List.getElem?_eq_some_iff.1 b).1;simp only[List.length_singleton] at d l;omega
theorem qhc(p:Nat)(b:List UInt8)(a:ID)(q:SqF):(if q.id=a then YC p b q else q).id=q.id:=by
 split<;>rfl
theorem q7e{qs:List SqF}(h:qdP qs)(f:Nat×List UInt8):qdP (vY qs f):=fun i j x y hi a b=>by
 unfold vY at hi a;rw[Je] at hi a;obtain⟨e,hx,rfl⟩:=Option.map_eq_some_iff.1 hi;obtain⟨d,c,rfl⟩:=Option.map_eq_some_iff.1 a;rw[qhc,qhc] at b;exact qo3 h _ i j e d hx c b
theorem qjL:∀(fs:List (Nat×List UInt8)){qs:List SqF},qdP qs->qdP (fs.foldl vY qs)
 |[],_,h=>h
 |f::fs,_,h=>qjL fs (q7e h f)
theorem q7f{qs:List SqF}(h:qdP qs){f:Nat×List UInt8}{j:Nat}{q:SqF}(a:(kA qs (qG f.2).seq)[j]?=some q)(c:q.id=(qG f.2).seq):vY qs f=(kA qs (qG f.2).seq).set j (YC f.1 f.2 q):=by
 have d:=qo3 h (qG f.2).seq;unfold vY;apply List.ext_getElem?;intro i;rw[Je,List.getElem?_set];by_cases b:j=i
 .subst b;rw[if_pos rfl,a,if_pos (List.getElem?_eq_some_iff.1 a).1];simp[c]
 .rw[if_neg b];cases hi:(kA qs (qG f.2).seq)[i]? with
  |none=>rfl
  |some y=>
   have:y.id≠(qG f.2).seq:=fun e=>b (d j i q y a hi (c.trans e.symm));simp[this]
theorem qlq{l:List Sq}{j:Nat}{x:Sq}(b:l[j]?=some x)(i:Nat)(d:D)(y:Sq)(hi:i<18)(e:x.c.set i d=y.c):(vc l).set (j*18+i) d=vc (l.set j y):=by
 obtain⟨a,rfl⟩:=List.getElem?_eq_some_iff.1 b;have f:l=l.take j++l[j]::l.drop (j+1):=by rw[<-jo a,Zy]
 have e2:vc l=vc (l.take j)++(l[j].c++vc (l.drop (j+1))):=by
  conv=>lhs;rw[f]
  rw[qls];rfl
 have g:(vc (l.take j)).length=j*18:=by rw[Kt,jc];omega
 rw[qgU (l:=l),if_pos a,qls,e2,List.set_append,if_neg wC,g,List.set_append,if_pos (by rw[Sq.len];omega)];rw[show j*18+i-j*18=i from wC,e];rfl
theorem Sq.c16(x:Sq)(d:D):x.c.set 16 d=Sq.c ⟨x.id,d,x.t⟩:=by
 have:=x.id.h;unfold Sq.c VN;rw[List.set_append,if_neg wE];simp
theorem Sq.c17(x:Sq)(t:Nat):x.c.set 17 (.int .u64 (t:Nat))=Sq.c ⟨x.id,x.v,t⟩:=by
 have:=x.id.h;unfold Sq.c VN;rw[List.set_append,if_neg wE];simp
structure RdW (n0:Nat) (K:qe) (oD:D) (l:List Sq) (qs:List SqF):Prop where
 oR:RowA K 18 oD (vc l) (zy oD)
 oN:∀n,n∈zy oD->n0<=n
 len:l.length=qs.length
 at_:∀(i:Nat)(x:Sq)(q:SqF),l[i]?=some x->qs[i]?=some q->x.id=q.id/\x.t=q.t/\RowA K 4 x.v (qW q.l) (zy x.v)
 rN:∀(i:Nat)(x:Sq),l[i]?=some x->∀n,n∈zy x.v->n0<=n/\n∉zy oD
 dj:∀(i j:Nat)(x y:Sq),l[i]?=some x->l[j]?=some y->i≠j->∀n,n∈zy x.v->n∉zy y.v
section
variable {n0:Nat} {K:qe} {oD:D} {l:List Sq} {qs:List SqF}
theorem RdW.other(h:RdW n0 K oD l qs){i:Nat}{x:Sq}(hi:l[i]?=some x):∃q,qs[i]?=some q:=by
 have:=(List.getElem?_eq_some_iff.1 hi).1;exact⟨_,qM (by rw[<-h.len];exact this)⟩
theorem RdW.row(h:RdW n0 K oD l qs){i:Nat}{x:Sq}(hi:l[i]?=some x){n:Nat}(b:n∈zy x.v):n<K.length:=by
 obtain⟨q,a⟩:=h.other hi;exact(h.at_ i x q hi a).2.2.lt b
theorem RdW.vcl(h:RdW n0 K oD l qs):∀x,x∈l->closed K.length x.v=true:=fun x hx=>by
 obtain⟨i,hi⟩:=List.getElem?_of_mem hx;obtain⟨q,a⟩:=h.other hi;have b:=(h.at_ i x q hi a).2.2;rcases b with⟨e,_,_⟩|⟨r,n,e,_,c,_⟩
 .rw[e];rfl
 .rw[e];exact decide_eq_true (qx c)
theorem RdW.ext(h:RdW n0 K oD l qs){M:List Nat}{T:qe}(x:Ext M K T)(c:∀n,n∈M->n<n0):RdW n0 T oD l qs:=
 ⟨h.oR.ext x fun n b hc=>by have:=h.oN n b;have:=c n hc;omega,h.oN,h.len,fun i a q hi e=>by
  obtain⟨d,e2,f⟩:=h.at_ i a q hi e;exact⟨d,e2,f.ext x fun n b hc=>by have:=(h.rN i a hi n b).1;have:=c n hc;omega⟩,h.rN,h.dj⟩
theorem RdW.push(h:RdW n0 K oD l qs){a:ID}{T:qe}{g:D}{L:List Nat}(C:n0<=K.length)(o:RowA T 18 g (vc l++Sq.c ⟨a,.vsl true [] 0,0⟩) L)(x:Ext (zy oD) K T)(m:NewL (zy oD) L K.length):RdW n0 T g (l++[⟨a,.vsl true [] 0,0⟩]) (qs++[⟨a,[],0⟩]):=by
 have v:=RowA.nm o;subst v
 have d:∀{i:Nat}{y:Sq},(l++[(⟨a,.vsl true [] 0,0⟩:Sq)])[i]?=some y->l[i]?=some y\/(i=l.length/\y=⟨a,.vsl true [] 0,0⟩):=fun{i y} hi=>by
  rw[List.getElem?_append] at hi;split at hi
  .exact .inl hi
  .have r:=(List.getElem?_eq_some_iff.1 hi).1;simp only[List.length_singleton] at r;rw[show i-l.length=0 from wC] at hi;simp only[Qb,qy] at hi;exact .inr ⟨wC,hi.symm⟩
 refine⟨?_,fun n e=>?_,by simp[h.len],fun i y q hi k=>?_,fun i y hi n e=>?_,fun i j y z hi s B n e=>?_⟩
 .rw[qls,show vc [(⟨a,.vsl true [] 0,0⟩:Sq)]=Sq.c ⟨a,.vsl true [] 0,0⟩ by simp[vc]];exact o
 .rcases m n e with b|b
  .exact h.oN n b
  .omega
 .rcases d hi with b|⟨b,rfl⟩
  .have t:=(List.getElem?_eq_some_iff.1 b).1;rw[vD (by rw[<-h.len];exact t)] at k;obtain⟨A,e2,u⟩:=h.at_ i y q b k;exact⟨A,e2,u.ext x fun n e=>(h.rN i y b n e).2⟩
  .rw[b,h.len,jl (qA _)] at k;simp only[Nat.sub_self,Qb,qy] at k;subst k;exact⟨rfl,rfl,RowA.nil _ _⟩
 .rcases d hi with b|⟨b,rfl⟩
  .obtain⟨w,p⟩:=h.rN i y b n e;refine⟨w,fun hc=>?_⟩;rcases m n hc with f|f
   .exact p f
   .have:=h.row b e;omega
  .simp[zy] at e
 .rcases d hi with b|⟨b,rfl⟩
  .rcases d s with f|⟨f,rfl⟩
   .exact h.dj i j y z b f B n e
   .simp[zy]
  .simp[zy] at e
theorem RdW.upd(h:RdW n0 K oD l qs){j:Nat}{x y:Sq}{q':SqF}(s:l[j]?=some x)(O:n0<=K.length){T:qe}{M:List Nat}(E:RowA T 18 oD (vc (l.set j y)) (zy oD))(C:Ext M K T)(L:∀n,n∈M->n∈zy oD\/n∈zy x.v)
  (H:y.id=q'.id) (e2:y.t=q'.t) (F:RowA T 4 y.v (qW q'.l) (zy y.v)) (A:NewL (zy x.v) (zy y.v) K.length):RdW n0 T oD (l.set j y) (qs.set j q'):=by
 have I:=(List.getElem?_eq_some_iff.1 s).1
 have c:∀{i:Nat}{z:Sq},(l.set j y)[i]?=some z->(i=j/\z=y)\/(j≠i/\l[i]?=some z):=fun{i z} hi=>by
  rw[List.getElem?_set] at hi;split at hi
  .rename_i e;subst e;simp only[qy] at hi;exact .inl ⟨rfl,hi.symm⟩
  .rename_i e;exact .inr ⟨e,hi⟩
 have m:∀n,n∈zy y.v->n0<=n/\n∉zy oD:=fun n a=>by
  rcases A n a with d|d
  .exact h.rN j x s n d
  .exact⟨wC,fun hc=>by have:=h.oR.lt hc;omega⟩
 have q:∀{i:Nat}{z:Sq},j≠i->l[i]?=some z->∀n,n∈zy y.v->n∉zy z.v:=fun{i z} hi b n a hc=>by
  rcases A n a with d|d
  .exact h.dj j i x z s b hi n d hc
  .have:=h.row b hc;omega
 refine⟨E,h.oN,by simp[h.len],fun i z p hi f=>?_,fun i z hi n a=>?_,fun i k z w hi B r n a=>?_⟩
 .rcases c hi with⟨rfl,rfl⟩|⟨o,b⟩
  .rw[List.getElem?_set_self (by rw[<-h.len];exact I)] at f;injection f with f;subst f;exact⟨H,e2,F⟩
  .rw[List.getElem?_set_ne o] at f;obtain⟨J,G,N⟩:=h.at_ i z p b f;refine⟨J,G,N.ext C fun n a hc=>?_⟩;rcases L n hc with d|d
   .exact(h.rN i z b n a).2 d
   .exact h.dj i j z x b s (Ne.symm o) n a d
 .rcases c hi with⟨rfl,rfl⟩|⟨o,b⟩
  .exact m n a
  .exact h.rN i z b n a
 .rcases c hi with⟨rfl,rfl⟩|⟨o,b⟩
  .rcases c B with⟨rfl,rfl⟩|⟨g,u⟩
   .exact absurd rfl r
   .exact q g u n a
  .rcases c B with⟨rfl,rfl⟩|⟨g,u⟩
   .exact fun hc=>q o b n hc a
   .exact h.dj i k z w b u r n a
end
end Go.Ev.S
namespace Go.Ev
open Go Go.Proofs
structure Nd where
 name:List UInt8
 there:Bool
 b:Sl UInt8
 safe:Sl UInt8
structure Fs where
 room:Int
 fuse:Int
 off:Bool
 nodes:List Nd
structure FSv where
 nd:List (Nat×Nat)
 nv:D
 pv:D
 pc:List D
 Ln:List Nat
 Lp:List Nat
def FSv.names(v:FSv)(q:Nat):List Nat:=q::(v.Ln++(v.Lp++(v.nd.map (·.1)++v.nd.map (·.2))))
def FSv.ptrs(v:FSv):List D:=v.nd.map fun x=>D.optr x.1 3 0
def Nd.cells(n:Nd)(j:Nat):List D:=[.str n.name,.bool n.there,.optr j 2 0]
def Nd.data(n:Nd):List D:=[(.vsl n.b.nil (qf n.b.l) n.b.l.length),(.vsl n.safe.nil (qf n.safe.l) n.safe.l.length)]
def Fs.cells(s:Fs)(v:FSv):List D:=[.int .i64 s.room,.int .i64 s.fuse,.bool s.off,v.nv,v.pv]
structure FSty (f:Nat->Nat) (q:Nat) (v:FSv):Prop where
 root:f q=0
 row:∀i,i∈v.Ln->f i=1
 pend:∀i,i∈v.Lp->f i=2
 node:∀(j:Nat)(x:Nat×Nat),v.nd[j]?=some x->f x.1=3+2*j/\f x.2=4+2*j
structure FSw (H:qe) (q:Nat) (s:Fs) (v:FSv):Prop where
 root:qd H q=some (s.cells v)
 row:RowA H 1 v.nv v.ptrs v.Ln
 pend:RowA H 4 v.pv v.pc v.Lp
 len:v.nd.length=s.nodes.length
 node:∀(i:Nat)(n:Nd)(x:Nat×Nat),s.nodes[i]?=some n->v.nd[i]?=some x->qd H x.1=some (n.cells x.2)/\qd H x.2=some n.data
 ty:∃f,FSty f q v
theorem FSw.lt{H:qe}{q:Nat}{s:Fs}{v:FSv}(h:FSw H q s v){i:Nat}(hi:i∈v.names q):i<H.length:=by
 simp only[FSv.names,jC,jW,ZI] at hi
 have key:∀x,x∈v.nd->x.1<H.length/\x.2<H.length:=by
  intro x hx;obtain⟨j,a⟩:=List.mem_iff_getElem?.1 hx;have d:j<s.nodes.length:=by rw[<-h.len];exact(List.getElem?_eq_some_iff.1 a).1
  obtain⟨c,b⟩:=h.node j _ x (qM d) a;exact⟨qx c,qx b⟩
 rcases hi with rfl|hi|hi|⟨x,hx,rfl⟩|⟨x,hx,rfl⟩
 .exact qx h.root
 .exact h.row.lt hi
 .exact h.pend.lt hi
 .exact(key x hx).1
 .exact(key x hx).2
theorem FSw.ext{H T:qe}{q:Nat}{s:Fs}{v:FSv}{M:List Nat}(h:FSw H q s v)(a:Ext M H T)(b:∀i,i∈v.names q->i∉M):FSw T q s v:=by
 have d:∀(l:List (Nat×Nat))(i:Nat)(x:Nat×Nat),l[i]?=some x->x∈l:=fun l i x h=>j7 h;refine⟨a.get h.root (b _ (by simp[FSv.names])),h.row.ext a fun i hi=>b i (by simp[FSv.names,hi]),h.pend.ext a fun i hi=>b i (by simp[FSv.names,hi]),h.len,fun i n x f c=>?_,h.ty⟩;obtain⟨g,e⟩:=h.node i n x f c;have hx:=d _ _ _ c;refine⟨a.get g (b _ ?_),a.get e (b _ ?_)⟩
 .simp only[FSv.names,jC,jW,ZI];exact .inr (.inr (.inr (.inl ⟨x,hx,rfl⟩)))
 .simp only[FSv.names,jC,jW,ZI];exact .inr (.inr (.inr (.inr ⟨x,hx,rfl⟩)))
def kH(l:List Nd)(name:List UInt8):Option Nat:=l.findIdx? fun n=>n.there&&n.name==name
def Kr(l:List Nd):Nat:=(l.filter (·.there)).length
def Zi:List Nd->Nat
 |[]=>0
 |n::l=>(if n.there then n.b.l.length else 0)+Zi l
def Jy(s:List UInt8):Bool:=decide (1<=s.length)&&decide (s.length<=96)&&s.all fun c=>decide (33<=c.toNat)&&decide (c.toNat<=126)
def Vj(s:Fs)(name:List UInt8):Nat:=if s.off then 18 else if Jy name then 0 else 1
def kI(s:Fs):Nat×Fs:=if s.fuse=0 then(18,{s with off:=true}) else if 0<s.fuse then(0,{s with fuse:=s.fuse-1}) else(0,s)
end Go.Ev
namespace Go.Ev.S
open Go Go.Proofs Go.Ev
theorem q4g[MaxL][TxtC](s:List UInt8)(y:s.length<1000000):call cx 146 [.str s] []=some (.bool (Jy s),[]):=by
 refine qC Tryz.func146 rfl ⟨rfl,rfl⟩ ?_;by_cases x:s.length<1
 .have f:(s.length:Int)<1:=by omega
  have b:Jy s=false:=by simp[Jy];omega
  rw[b];simp[Tryz.f146,f]
 by_cases w:96<s.length
 .have f:¬(s.length:Int)<1:=by omega
  have o:(96:Int)<(s.length:Int):=wC
  have b:Jy s=false:=by simp[Jy];omega
  rw[b];simp[Tryz.f146,f,o]
 have f:¬(s.length:Int)<1:=wC
 have o:¬(96:Int)<(s.length:Int):=wC
 obtain⟨r,p⟩:=ql ((s.all fun c=>decide (33<=c.toNat)&&decide (c.toNat<=126)));have b:Jy s=r:=by simp only[Jy,p];rw[decide_eq_true wC,decide_eq_true wC];simp
 rw[b];simp[Tryz.f146,f,o];refine Run.loopThen (fun(k:Nat) e H'=>k<=s.length/\((s.drop k).all fun c=>decide (33<=c.toNat)&&decide (c.toNat<=126))=r/\qi e 0=some (.str s)/\qi e 13=some (.int .i64 s.length)/\qi e 14=some (.int .i64 k)/\H'=[]) (fun k=>s.length-k) 0 ?_ ?_
 .simpa using p
 rintro k e H' ⟨u,a,l,g,j,rfl⟩;by_cases h:k<s.length
 .have d:=zq h;have q:=qz ((k:Int)+1) ((k+1:Nat):Int);have n:s[k]?=some s[k]:=qM h;rw[jo h,Va] at a;generalize s[k]=c at *;by_cases t:c.toNat<33
  .have i:(c.toNat:Int)<33:=wC;rw[decide_eq_false wC,qdW,qdW] at a;subst a;simp[l,g,j,d,n,i]
  .have i:¬(c.toNat:Int)<33:=wC;by_cases v:126<c.toNat
   .have m:(126:Int)<(c.toNat:Int):=wC;rw[decide_eq_false (show¬c.toNat<=126 from wC),Bool.and_false,qdW] at a;subst a;simp[l,g,j,d,n,i,m]
   .have m:¬(126:Int)<(c.toNat:Int):=wC;rw[decide_eq_true (show 33<=c.toNat from wC),decide_eq_true (show c.toNat<=126 from wC),YB,YB] at a;simp[l,g,j,d,n,q,i,m];exact⟨k+1,wC,wC,wZ,wC⟩
 .have d:=zw h;rw[Vn wC] at a;have:r=true:=a.symm;subst this;simp[l,g,j,d]
def Za(v:FSv)(i:Nat):Nat:=(v.nd.getD i (0,0)).1
def qi1(v:FSv)(i:Nat):Nat:=(v.nd.getD i (0,0)).2
theorem Yh{v:FSv}{i:Nat}(h:i<v.nd.length):v.nd[i]?=some (Za v i,qi1 v i):=by
 simp[Za,qi1,h]
theorem qjP{v:FSv}{k:Nat}(h:k<v.nd.length):v.ptrs.drop k=.optr (Za v k) 3 0::v.ptrs.drop (k+1):=by
 have e:v.nd.drop k=(Za v k,qi1 v k)::v.nd.drop (k+1):=by
  rw[jo h];congr 1;simp[Za,qi1,h]
 unfold FSv.ptrs;rw[<-List.map_drop,e,List.map_cons,List.map_drop]
theorem q4l[MaxL][TxtC]{H:qe}{q:Nat}{s:Fs}{v:FSv}(h:FSw H q s v)(O:s.nodes.length<1000000)(name:List UInt8):
  call cx 92 [.optr q 5 0,.str name] H=some (match kH s.nodes name with|some i=>.optr (Za v i) 3 0|none=>.nilp,H):=by
 obtain⟨r,u⟩:=ql (kH s.nodes name);rw[u];have t:=h.root;simp only[Fs.cells] at t;refine j6 Tryz.func92 rfl ⟨rfl,rfl⟩ ?_;rcases h.row with⟨y,J,K⟩|⟨b,n,y,F,A,K⟩
 .have B:=h.len;have:v.nd=[]:=by simpa[FSv.ptrs] using J
  rw[this] at B;have L:s.nodes=[]:=List.length_eq_zero_iff.1 B.symm;rw[y] at t;rw[L] at u;have z:r=none:=by rw[<-u];rfl
  subst z;simp[-qd,Tryz.f92,t];refine qfY ?_;simp
 .rw[y] at t;have I:v.ptrs.length=v.nd.length:=by simp[FSv.ptrs]
  have G:n=s.nodes.length:=by have:=h.len;omega
  subst G;simp[-qd,Tryz.f92,t];refine Run.loopThen (fun(k:Nat) e H'=>k<=s.nodes.length/\(kH (s.nodes.drop k) name).map (·+k)=r/\qi e 1=some (.str name)/\qi e 10=some (.osl b v.ptrs.length 0 s.nodes.length 1)/\qi e 11=some (.int .i64 s.nodes.length)/\qi e 12=some (.int .i64 k)/\H'=H) (fun k=>s.nodes.length-k) 0 ?_ ?_
  .simpa using u
  rintro k e H' ⟨M,a,w,c,f,d,rfl⟩;by_cases m:k<s.nodes.length
  .have o:=zq m;have E:=qz ((k:Int)+1) ((k+1:Nat):Int);have p:k<v.nd.length:=(by rw[h.len];exact m);obtain⟨l,N⟩:=h.node k _ _ (qM m) (Yh p);simp only[Nd.cells] at l;have g:=qjP p;rw[jo m] at a;generalize s.nodes[k]=x at *;unfold kH at a;rw[List.findIdx?_cons] at a;cases C:x.there with
   |false=>
    rw[C] at l a;simp at a;simp[-qd,w,c,f,d,o,E,A,g,l];refine⟨k+1,wC,wC,?_,wC⟩;rw[<-a];unfold kH;cases List.findIdx? (fun n=>n.there&&n.name==name) (s.nodes.drop (k+1))<;>simp;omega
   |true=>
    rw[C] at l a;by_cases hx:x.name=name
    .have j:r=some k:=(by simpa[hx] using a.symm);subst j;simp[-qd,w,c,f,d,o,A,g,l,hx]
    .simp[hx] at a;simp[-qd,w,c,f,d,o,E,A,g,l,hx];refine⟨k+1,wC,wC,?_,wC⟩;rw[<-a];unfold kH;cases List.findIdx? (fun n=>n.there&&n.name==name) (s.nodes.drop (k+1))<;>simp;omega
  .have o:=zw m;rw[Vn wC] at a;have j:r=none:=(by rw[<-a];rfl);subst j;simp[w,c,f,d,o]
theorem q4k[MaxL][TxtC]{H:qe}{q:Nat}{s:Fs}{v:FSv}(h:FSw H q s v)(name:List UInt8)(g:name.length<1000000){b:Nat}(e:qd H b=some [.str name]):
  call cx 91 [.optr q 5 0,.osl b 1 0 1 1] H=some (.int .i64 (Vj s name),H):=by
 have a:=h.root;simp only[Fs.cells] at a;have c:=q4g name g;refine j6 Tryz.func91 rfl ⟨rfl,rfl⟩ ?_;unfold Vj;cases f:s.off with
 |true=>
  rw[f] at a;simp[-qd,Tryz.f91,a]
 |false=>
  rw[f] at a;simp[-qd,Tryz.f91,a];refine Vb ?_;cases d:Jy name with
  |false=>
   rw[d] at c;simp[-qd,e,c]
  |true=>
   rw[d] at c;simp[-qd,e,c];refine qfY ?_;simp
def vW(s:Fs)(name:List UInt8):Nat:=if Vj s name≠0 then Vj s name else if(kH s.nodes name).isSome then 0 else 16
def qfv(s:Fs)(v:FSv)(name:List UInt8):D:=if Vj s name≠0 then .nilp else match kH s.nodes name with|some i=>.optr (Za v i) 3 0|none=>.nilp
theorem qkU[MaxL][TxtC]{H:qe}{q:Nat}{s:Fs}{v:FSv}(h:FSw H q s v)(j:s.nodes.length<1000000)(name:List UInt8)(g:name.length<1000000):
  call cx 40 [.optr q 5 0,.str name] H=some (.tup [qfv s v name,.int .i64 (vW s name)],qr H [.str name]):=by
 have f:FSw (qr H [.str name]) q s v:=h.ext (Ext.new H [.str name]) fun _ _=>by simp
 have d:=q4k f name g (b:=H.length) zF;have e:=q4l f j name;refine j6 Tryz.func40 rfl ⟨rfl,rfl⟩ ?_;unfold vW qfv;by_cases a:Vj s name=0
 .rw[a] at d;rw[if_neg wZ,if_neg wZ];cases c:kH s.nodes name with
  |none=>
   rw[c] at e;simp[-qd,-qr,Tryz.f40,d,e]
  |some i=>
   rw[c] at e;simp[-qd,-qr,Tryz.f40,d,e]
 .have k:¬((Vj s name:Nat):Int)=0:=by omega
  rw[if_pos wZ,if_pos wZ];simp[-qd,-qr,Tryz.f40,d,a]
theorem qtK[MaxL][TxtC]{H:qe}{q:Nat}{s:Fs}{v:FSv}(h:FSw H q s v)(f:-9000000000000000000<=s.fuse/\s.fuse<=9000000000000000000):
  call cx 45 [.optr q 5 0] H=some (.int .i64 (kI s).1,qn H q ((kI s).2.cells v)):=by
 have c:=h.root;simp only[Fs.cells] at c;refine j6 Tryz.func45 rfl ⟨rfl,rfl⟩ ?_;unfold kI;have a:=qdl c;by_cases b:s.fuse=0
 .rw[if_pos b];simp[-qd,-qn,Tryz.f45,c,b,Fs.cells]
 .rw[if_neg b];by_cases d:0<s.fuse
  .rw[if_pos d];have e:=qz (s.fuse-1) (s.fuse-1);simp[-qd,-qn,Tryz.f45,c,b,d,e,Fs.cells]
  .rw[if_neg d];simp[-qd,-qn,Tryz.f45,c,b,d,Fs.cells,a]
theorem qjz[MaxL][TxtC]{H:qe}{b:Nat}{x y:Sl UInt8}(h:qd H b=some [(.vsl x.nil (qf x.l) x.l.length),(.vsl y.nil (qf y.l) y.l.length)]):call cx 49 [.optr b 2 0] H=some (.int .i64 x.l.length,H):=by
 refine j6 Tryz.func49 rfl ⟨rfl,rfl⟩ ?_;simp[-qd,Tryz.f49,h]
theorem qtG[MaxL][TxtC]{H:qe}{q:Nat}{s:Fs}{v:FSv}(h:FSw H q s v)(Z:s.nodes.length<1000000)(X:∀n,n∈s.nodes->n.b.l.length<=1000000):
  call cx 44 [.optr q 5 0] H=some (.tup [.int .i64 (Kr s.nodes),.int .i64 (Zi s.nodes)],H):=by
 have u:=h.root;simp only[Fs.cells] at u;refine j6 Tryz.func44 rfl ⟨rfl,rfl⟩ ?_;rcases h.row with⟨E,U,V⟩|⟨b,n,E,P,J,V⟩
 .have M:=h.len;have:v.nd=[]:=by simpa[FSv.ptrs] using U
  rw[this] at M;have W:s.nodes=[]:=List.length_eq_zero_iff.1 M.symm;rw[E] at u;rw[W];simp[-qd,Tryz.f44,u];refine qfY ?_;simp[Kr,Zi]
 .rw[E] at u;have T:v.ptrs.length=v.nd.length:=by simp[FSv.ptrs]
  have Q:n=s.nodes.length:=by have:=h.len;omega
  subst Q;simp[-qd,Tryz.f44,u];obtain⟨F,K⟩:=ql (Kr s.nodes);obtain⟨S,O⟩:=ql (Zi s.nodes);rw[K,O];refine Run.loopThen (fun(k:Nat) e H'=>k<=s.nodes.length/\∃f z:Nat,f<=k/\z<=k*1000000/\f+Kr (s.nodes.drop k)=F/\z+Zi (s.nodes.drop k)=S/\qi e 4=some (.int .i64 f)/\qi e 5=some (.int .i64 z)/\qi e 11=some (.osl b v.ptrs.length 0 s.nodes.length 1)/\qi e 12=some (.int .i64 s.nodes.length)/\qi e 13=some (.int .i64 k)/\H'=H) (fun k=>s.nodes.length-k) 0 ?_ ?_
  .exact⟨wC,0,0,wC,wC,by simpa using K,by simpa using O,rfl,rfl,rfl,rfl,rfl,rfl⟩
  rintro k e H' ⟨Y,f,z,R,p,c,a,B,C,j,g,i,rfl⟩;by_cases m:k<s.nodes.length
  .have w:=zq m;have N:=qz ((k:Int)+1) ((k+1:Nat):Int);have t:k<v.nd.length:=(by rw[h.len];exact m);obtain⟨r,L⟩:=h.node k _ _ (qM m) (Yh t);have A:=X _ (vC m);simp only[Nd.cells] at r;simp only[Nd.data] at L;have o:=qjP t;have d:=qjz L;rw[jo m] at c a;generalize s.nodes[k]=x at *;cases y:x.there with
   |false=>
    rw[y] at r;simp[Kr,Zi,y] at c a;simp[-qd,B,C,j,g,i,w,N,J,o,r];exact⟨k+1,wC,wC,f,wC,z,zJ p (qb0 _ (Nat.le_succ k)),by unfold Kr;exact c,a,rfl,rfl,wC⟩
   |true=>
    rw[y] at r;simp[Kr,Zi,y] at c a;have G:=qz ((f:Int)+1) ((f+1:Nat):Int);have I:=qz ((z:Int)+(x.b.l.length:Int)) ((z+x.b.l.length:Nat):Int);simp[-qd,B,C,j,g,i,w,N,J,o,r,d,G,I];refine⟨k+1,wC,wC,f+1,wC,z+x.b.l.length,by rw[ZH,Nat.one_mul];exact Nat.add_le_add p A,?_,wC,wC,wC,wC⟩;unfold Kr;omega
  .have w:=zw m;rw[Vn wC] at c a;simp[Kr,Zi] at c a;subst c;subst a;simp[B,C,j,g,i,w]
theorem qxM[MaxL][TxtC]:call cx 46 [] []=some (.optr 0 2 0,[some [.vsl true [] 0,.vsl true [] 0]]):=by
 refine qC Tryz.func46 rfl ⟨rfl,rfl⟩ ?_;simp[Tryz.f46]
theorem q4j[MaxL][TxtC]:call cx 22 [.int .i64 1048576] []=some (.tup [.optr 0 5 0,.int .i64 0],[some [.int .i64 1048576,.int .i64 (-1),.bool false,.vsl true [] 0,.vsl true [] 0]]):=call_some.2 ⟨60,wF⟩
theorem qkg{H:qe}{i:Nat}{ds:List D}(h:qd H i=some ds):(H=[])=False:=eq_false fun e=>by
 have:=qx h;rw[e] at this;simp at this
theorem q6H(H:qe)(ds:List D):H++[some ds]=qr H ds:=rfl
def qg3(s:Fs)(name:List UInt8):Nat×Fs:=
 if vW s name=0 then(17,s)
 else if vW s name≠16 then(vW s name,s)
 else if 24<=Kr s.nodes then(15,s)
 else if(kI s).1≠0 then kI s
 else(0,{(kI s).2 with nodes:=s.nodes++[⟨name,true,Sl.none,Sl.none⟩]})
theorem qtP(s:Fs):(kI s).1=0\/(kI s).1=18:=by
 unfold kI;split
 .exact .inr rfl
 .split
  .exact .inl rfl
  .exact .inl rfl
theorem qii(s:Fs):(kI s).2.nodes=s.nodes:=by
 unfold kI;split
 .rfl
 .split<;>rfl
theorem qtF{H:qe}{q:Nat}{s c:Fs}{v:FSv}(h:FSw H q s v)(g:c.nodes=s.nodes):FSw (qn H q (c.cells v)) q c v:=by
 obtain⟨f,a⟩:=h.ty;have p:=qx h.root;have j:∀i,i≠q->qd (qn H q (c.cells v)) i=qd H i:=fun i hi=>zV hi;refine⟨zj p,h.row.ext (Ext.set H q _) fun i hi=>?_,h.pend.ext (Ext.set H q _) fun i hi=>?_,by rw[g];exact h.len,fun i n x b d=>?_,f,a⟩
 .intro hc;have b:=a.row i hi;rw[List.mem_singleton.1 hc,a.root] at b;omega
 .intro hc;have b:=a.pend i hi;rw[List.mem_singleton.1 hc,a.root] at b;omega
 .rw[g] at b;obtain⟨o,k⟩:=h.node i n x b d;obtain⟨m,l⟩:=a.node i x d;rw[j,j]
  .exact⟨o,k⟩
  .intro e;rw[e,a.root] at l;omega
  .intro e;rw[e,a.root] at m;omega
theorem qtI[MaxL][TxtC]{H:qe}{q:Nat}{s:Fs}{v:FSv}(h:FSw H q s v)(hn:s.nodes.length<100000)(hp:v.pc.length<400000)(hb:∀n,n∈s.nodes->n.b.l.length<=1000000)(hf:-9000000000000000000<=s.fuse/\s.fuse<=9000000000000000000)(name:List UInt8)(hl:name.length<1000000):
  ∃T v',call cx 19 [.optr q 5 0,.str name] H=some (.int .i64 (qg3 s name).1,T)/\FSw T q (qg3 s name).2 v'/\Ext (v.names q) H T/\NewL (v.names q) (v'.names q) H.length/\v'.pc.length<=v.pc.length+4:=by
 obtain⟨H1,e1⟩:=ql (qr H [.str name]);have x1:=zL e1;have w1:FSw H1 q s v:=h.ext x1 fun _ _=>by simp
 have c:=qkU h wC name hl;rw[e1] at c;have YW:=qtG w1 wC hb;have F:Ext (v.names q) H H1:=x1.mono fun _ hi=>by simp at hi
 unfold qg3;by_cases c0:vW s name=0
 .rw[if_pos c0];rw[c0] at c;refine⟨H1,v,j6 Tryz.func19 rfl ⟨rfl,rfl⟩ ?_,w1,F,NewL.refl _ _,wC⟩;simp[-qd,-qn,-qr,Tryz.f19,c,YW]
 rw[if_neg c0];by_cases c1:vW s name=16
 rotate_left
 .rw[if_pos c1];have aL:¬((vW s name:Nat):Int)=0:=by omega
  have av:¬((vW s name:Nat):Int)=16:=wC
  refine⟨H1,v,j6 Tryz.func19 rfl ⟨rfl,rfl⟩ ?_,w1,F,NewL.refl _ _,wC⟩;simp[-qd,-qn,-qr,Tryz.f19,c,YW,c0,av]
 rw[if_neg (by simpa using c1)];rw[c1] at c;by_cases c2:24<=Kr s.nodes
 .rw[if_pos c2];have E:(24:Int)<=((Kr s.nodes:Nat):Int):=by omega
  refine⟨H1,v,j6 Tryz.func19 rfl ⟨rfl,rfl⟩ ?_,w1,F,NewL.refl _ _,wC⟩;simp[-qd,-qn,-qr,Tryz.f19,c,YW,E]
 rw[if_neg c2];have E:¬(24:Int)<=((Kr s.nodes:Nat):Int):=wC
 have XK:=qtK w1 hf;obtain⟨z,e2⟩:=ql (qn H1 q ((kI s).2.cells v));have C:FSw z q (kI s).2 v:=e2▸qtF w1 (qii s);have x2:=vZ e2;rw[e2] at XK;have Y:Ext (v.names q) H z:=F.trans (x2.mono fun i hi=>by rw[List.mem_singleton.1 hi];simp[FSv.names]) (NewL.refl _ _);by_cases c3:(kI s).1=0
 rotate_left
 .rw[if_pos c3];have aq:(kI s).1=18:=(qtP s).resolve_left c3;rw[aq] at XK;refine⟨z,v,j6 Tryz.func19 rfl ⟨rfl,rfl⟩ ?_,C,Y,NewL.refl _ _,wC⟩;simp[-qd,-qn,-qr,Tryz.f19,c,YW,E,XK,aq]
 rw[if_neg (by simpa using c3)];rw[c3] at XK;obtain⟨w,Qk⟩:=ql ((kI s).2);have B:w.nodes=s.nodes:=by rw[<-Qk];exact qii s
 rw[Qk] at C⊢;obtain⟨f,a⟩:=C.ty;have jP:=qx C.root;have Zd:=qxM;obtain⟨u,l2⟩:=ql (z.length);obtain⟨H3,e3⟩:=ql (qr z [.vsl true [] 0,.vsl true [] 0]);have l3:H3.length=u+1:=by rw[<-e3,jb,l2]
 obtain⟨d,f3⟩:=ql (u+1);rw[f3] at l3;have aj:u<d:=wC
 obtain⟨S,e4⟩:=ql (qr H3 [.str name,.bool true,.optr u 2 0]);have aU:S.length=d+1:=by rw[<-e4,jb,l3]
 obtain⟨a4,f4⟩:=ql (d+1);have l4:S.length=a4:=wC
 have aI:d<a4:=wC
 have ak:Ext [] z S:=(e3▸Ext.new z _:Ext [] z H3).trans (e4▸Ext.new H3 _) (NewL.refl _ _);have w4:FSw S q w v:=C.ext ak fun _ _=>by simp
 have r4:=w4.root;simp only[Fs.cells] at r4
 have ay:qd S u=some [.vsl true [] 0,.vsl true [] 0]:=by
  rw[<-e4,vv wC,<-e3,<-l2,zF]
 have aG:qd S d=some [.str name,.bool true,.optr u 2 0]:=by rw[<-e4,<-l3,zF]
 obtain⟨H5,e5⟩:=ql (qr S [.optr d 3 0]);have x5:=zL e5;have w5:FSw H5 q w v:=w4.ext x5 fun _ _=>by simp
 have g5:qd H5 a4=some [.optr d 3 0]:=by rw[<-e5,<-l4,zF]
 have aP:v.ptrs.length=s.nodes.length:=by rw[<-B,<-C.len];simp[FSv.ptrs]
 obtain⟨aM,Z,L6,hA,aC,x6,n6⟩:=w5.row.append (P:=Tryz.prog) (st:=101) (xt:=101) (e:=105) (x:=.osl a4 1 0 1 1) (xs:=[.optr d 3 0]) (m:=1) wE wE (by simp[-qd,g5]) wE wC wE wC wM wM;obtain⟨r,n,az,V,am,aw⟩:=aC.own wE;have au:q∉v.Ln:=fun hc=>by have:=a.row q hc;rw[a.root] at this;omega
 have r6:=x6.get w5.root au;simp only[Fs.cells] at r6;have M:r<Z.length:=qx am;subst az;have O:(v.ptrs++([.optr d 3 0]:List D)).length=v.ptrs.length+1:=wE
 rw[O] at hA;obtain⟨H7,e7⟩:=ql (qn Z q [.int .i64 w.room,.int .i64 w.fuse,.bool w.off,.osl r (v.ptrs.length+1) 0 n 1,v.pv]);have r7:=vV e7 r6;obtain⟨a7,l7⟩:=ql (H7.length);obtain⟨H8,e8⟩:=ql (qr H7 [.int .i64 0,.optr d 3 0,.str [],.nilp]);have g8:qd H8 a7=some [.int .i64 0,.optr d 3 0,.str [],.nilp]:=by rw[<-e8,<-l7,zF]
 have r8:qd H8 q=some [.int .i64 w.room,.int .i64 w.fuse,.bool w.off,.osl r (v.ptrs.length+1) 0 n 1,v.pv]:=by rw[<-e8,vv (qx r7)];exact r7
 have aJ:d<a7:=by
  have h1:=x5.len;have J:=x6.len;rw[<-l7,<-e7,kL];omega
 have aA:RowA H8 4 v.pv v.pc v.Lp:=by
  have p6:RowA Z 4 v.pv v.pc v.Lp:=w5.pend.ext x6 fun i hi hc=>by have h1:=a.row i hc;have J:=a.pend i hi;omega
  have p7:RowA H7 4 v.pv v.pc v.Lp:=p6.ext (e7▸Ext.set Z q _) fun i hi hc=>by have J:=a.pend i hi;rw[List.mem_singleton.1 hc,a.root] at J;omega
  exact p7.ext (e8▸Ext.new H7 _) fun _ _=>by simp
 obtain⟨aR,H9,L9,ai,aB,x9,n9⟩:=aA.append (P:=Tryz.prog) (st:=102) (xt:=102) (e:=120) (x:=.osl a7 4 0 1 4) (xs:=[.int .i64 0,.optr d 3 0,.str [],.nilp]) (m:=1) wE wE (by simp[-qd,g8]) wE wC wE wC wM wM;obtain⟨t,np,ax,X,ao,aD⟩:=aB.own wE;have aH:q∉v.Lp:=fun hc=>by have:=a.pend q hc;rw[a.root] at this;omega
 have r9:=x9.get r8 aH;have ae:t<H9.length:=qx ao;subst ax;have ah:(v.pc++([.int .i64 0,.optr d 3 0,.str [],.nilp]:List D)).length=v.pc.length+4:=wE
 rw[ah] at ai;obtain⟨HT,eT⟩:=ql (qn H9 q [.int .i64 w.room,.int .i64 w.fuse,.bool w.off,.osl r (v.ptrs.length+1) 0 n 1,.osl t (v.pc.length+4) 0 np 4]);have aO:H7.length=Z.length:=by rw[<-e7,kL]
 have aK:H8.length=H7.length+1:=by rw[<-e8,jb]
 have aS:HT.length=H9.length:=by rw[<-eT,kL]
 have aT:H5.length=a4+1:=by rw[<-e5,jb,l4]
 have aN:=x6.len;have aQ:=x9.len;have Yn:=n6 r (by rw[aw];simp);have A:=n9 t (by rw[aD];simp);have Q:Ext (v.names q) H H5:=(Y.trans ak (fun _ hi=>wU)).trans x5 (fun _ hi=>wU);have p:∀i,i∈v.names q->i<z.length:=fun i hi=>C.lt hi
 have aa:r≠q:=by
  intro e;rcases Yn with o|o
  .have:=a.row r o;rw[e,a.root] at this;omega
  .omega
 have L:t≠q:=by
  intro e;rcases A with o|o
  .have:=a.pend t o;rw[e,a.root] at this;omega
  .omega
 have K:r∉v.Lp:=by
  intro hc;rcases Yn with o|o
  .have h1:=a.row r o;have J:=a.pend r hc;omega
  .have:=p r xp;omega
 have ag:r≠d/\r≠u:=by
  rcases Yn with o|o
  .have:=p r (by simp[FSv.names,o]);omega
  .omega
 have I:t≠d/\t≠u:=by
  rcases A with o|o
  .have:=p t (by simp[FSv.names,o]);omega
  .omega
 have ac:t≠r:=by
  intro e;rcases A with o|o
  .exact K (e▸o)
  .omega
 have k6:∀i,i<Z.length->i≠q->i∉v.Lp->qd HT i=qd Z i:=by
  intro i hi G U;rw[<-eT,zV G,x9.out i wC U,<-e8,vv wC,<-e7,zV G]
 have key:∀i,i<H5.length->i≠q->i∉v.Ln->i∉v.Lp->qd HT i=qd H5 i:=by
  intro i hi G jZ U;rw[k6 i wC G U,x6.out i hi jZ]
 refine⟨HT,⟨v.nd++[(d,u)],.osl r (v.ptrs.length+1) 0 n 1,.osl t (v.pc.length+4) 0 np 4,v.pc++[.int .i64 0,.optr d 3 0,.str [],.nilp],[r],[t]⟩,j6 Tryz.func19 rfl ⟨rfl,rfl⟩ ?_,?_,?_,?_,?_⟩
 .simp[-qd,-qn,-qr,-qJ,Tryz.f19,c,YW,E,XK,Zd,q6H,e3,e4,e5,l2,l3,l4,aj,r4,hA,r6,M,e7,l7,r7,e8,ai,r9,ae,eT,zT,qkg r4,qkg r7]
 .refine⟨by rw[<-eT];exact zj (qx r9),?_,?_,?_,?_,?_⟩
  .have aE:FSv.ptrs ⟨v.nd++[(d,u)],.osl r (v.ptrs.length+1) 0 n 1,.osl t (v.pc.length+4) 0 np 4,v.pc++[.int .i64 0,.optr d 3 0,.str [],.nilp],[r],[t]⟩=v.ptrs++[.optr d 3 0]:=(by simp[FSv.ptrs]);rw[aE];refine .inr ⟨r,n,by rw[O],V,by rw[k6 r M aa K];exact am,rfl⟩
  .exact .inr ⟨t,np,by rw[ah],X,by rw[<-eT,zV L];exact ao,rfl⟩
  .simp only[zo,jJ,kt];rw[C.len,B]
  .intro i nd x h1 J;have W:v.nd.length=s.nodes.length:=(by rw[C.len,B]);by_cases qg:i<s.nodes.length
   .have jK:w.nodes[i]?=some nd:=(by rw[B];rw[<-h1];exact(vD qg).symm);have vm:v.nd[i]?=some x:=(by rw[<-J];exact(vD wC).symm);obtain⟨b1,b2⟩:=w5.node i nd x jK vm;obtain⟨t1,t2⟩:=a.node i x vm
    have N:∀j k,f j=k->3<=k->j≠q/\j∉v.Ln/\j∉v.Lp:=by
     intro j k R hk;refine⟨fun e=>?_,fun hc=>?_,fun hc=>?_⟩
     .rw[e,a.root] at R;omega
     .have:=a.row j hc;omega
     .have:=a.pend j hc;omega
    obtain⟨u1,u2,u3⟩:=N _ _ t1 wC;obtain⟨y1,y2,y3⟩:=N _ _ t2 wC;rw[key _ (qx b1) u1 u2 u3,key _ (qx b2) y1 y2 y3];exact⟨b1,b2⟩
   .have hi:i=s.nodes.length:=by
     have:=(List.getElem?_eq_some_iff.1 h1).1;simp only[zo,jJ,kt] at this;omega
    subst hi;have e1:nd=⟨name,true,Sl.none,Sl.none⟩:=by simpa using h1.symm
    have e2:x=(d,u):=by
     rw[jl wC,W,Nat.sub_self] at J;simpa using J.symm
    subst e1 e2;have old:∀j,z.length<=j->j≠q/\j∉v.Ln/\j∉v.Lp:=fun j R=>⟨wC,fun hc=>by have:=p j xp;omega,fun hc=>by have:=p j xp;omega⟩;obtain⟨u1,u2,u3⟩:=old d wC;obtain⟨y1,y2,y3⟩:=old u wC;rw[key _ wC u1 u2 u3,key _ wC y1 y2 y3,<-e5,vv wC,vv wC];exact⟨aG,ay⟩
  .refine⟨fun i=>if i=d then 3+2*s.nodes.length else if i=u then 4+2*s.nodes.length else if i=r then 1 else if i=t then 2 else f i,?_,?_,?_,?_⟩
   .show(if q=d then _ else _)=0;rw[if_neg wC,if_neg wC,if_neg aa.symm,if_neg L.symm];exact a.root
   .intro i hi;rw[List.mem_singleton.1 hi];show(if r=d then _ else _)=1;rw[if_neg ag.1,if_neg ag.2,if_pos rfl]
   .intro i hi;rw[List.mem_singleton.1 hi];show(if t=d then _ else _)=2;rw[if_neg I.1,if_neg I.2,if_neg ac,if_pos rfl]
   .intro j x R;have W:v.nd.length=s.nodes.length:=(by rw[C.len,B]);by_cases qg:j<s.nodes.length
    .have vR:v.nd[j]?=some x:=(by rw[<-R];exact(vD wC).symm);obtain⟨t1,t2⟩:=a.node j x vR;have hm:=j7 vR
     have g:∀y k,f y=k->3<=k->y<z.length->(if y=d then 3+2*s.nodes.length else if y=u then 4+2*s.nodes.length else if y=r then 1 else if y=t then 2 else f y)=k:=by
      intro y k hy hk hl;rw[if_neg wC,if_neg wC,if_neg ?_,if_neg ?_]
      .exact hy
      .intro e;rcases A with o|o
       .have:=a.pend t o;rw[<-e] at this;omega
       .omega
      .intro e;rcases Yn with o|o
       .have:=a.row r o;rw[<-e] at this;omega
       .omega
     exact⟨g _ _ t1 wC (p _ (by simp only[FSv.names,jC,jW,ZI];exact .inr (.inr (.inr (.inl ⟨x,hm,rfl⟩))))),g _ _ t2 wC (p _ (by simp only[FSv.names,jC,jW,ZI];exact .inr (.inr (.inr (.inr ⟨x,hm,rfl⟩)))))⟩
    .have aF:j=s.nodes.length:=by
      have:=(List.getElem?_eq_some_iff.1 R).1;simp only[zo,jJ,kt] at this;omega
     subst aF
     have e2:x=(d,u):=by
      rw[jl wC,W,Nat.sub_self] at R;simpa using R.symm
     subst e2;refine⟨?_,?_⟩
     .show(if d=d then _ else _)=_;rw[if_pos rfl]
     .show(if u=d then _ else _)=_;rw[if_neg wC,if_pos rfl]
 .refine⟨by have:=Q.len;omega,fun i hi hn=>?_⟩;rw[key i (by have:=Q.len;omega) (fun e=>hn (by simp[FSv.names,e])) (fun hc=>hn xp) (fun hc=>hn xp),Q.out i hi hn]
 .intro i hi;have lH:H.length<=z.length:=Y.len;simp only[FSv.names,List.map_append,List.map_cons,List.map_nil,jC,jW,List.not_mem_nil,or_false] at hi⊢;rcases hi with hi|hi|hi|(hi|hi)|(hi|hi)
  .exact .inl (.inl hi)
  .subst hi;rcases Yn with o|o
   .exact .inl (.inr (.inl o))
   .exact .inr wC
  .subst hi;rcases A with o|o
   .exact .inl (.inr (.inr (.inl o)))
   .exact .inr wC
  .exact .inl (.inr (.inr (.inr (.inl hi))))
  .exact .inr wC
  .exact .inl (.inr (.inr (.inr (.inr hi))))
  .exact .inr wC
 .simp
theorem qns{H:qe}{k:Nat}{v:D}{cs:List D}{L:List Nat}(h:RowA H k v cs L):cellsOf v=some [v]:=by
 rcases h with⟨rfl,_⟩|⟨r,n,rfl,_⟩<;>rfl
theorem qnr{H:qe}{k n:Nat}{v:D}{cs:List D}{L:List Nat}(h:RowA H k v cs L)(b:H.length<=n):closed n v=true:=by
 rcases h with⟨rfl,_⟩|⟨r,m,rfl,_,a,_⟩
 .rfl
 .have:=qx a;simp only[closed,decide_eq_true_eq];omega
theorem qlH[MaxL][TxtC](s:Sl UInt8)(f:s.l.length<=1000000):∃d a,call cx 93 [(.vsl s.nil (qf s.l) s.l.length)] []=some (d,a)/\∀H:qe,∃c,RowA (H++a) 1 (shift H.length d) (qf s.l) c/\Ext [] H (H++a)/\∀i,i∈c->i=H.length/\H.length<(H++a).length:=by
 have h:=qlQ s wC;by_cases b:s.nil=true
 .have e:=s.h b;rw[if_pos b] at h;refine⟨_,_,h,fun H=>⟨[],.inl ⟨rfl,by rw[e];rfl,rfl⟩,Ext.app H [],wE⟩⟩
 .rw[if_neg b] at h;refine⟨_,_,h,fun H=>⟨[H.length],.inr ⟨H.length,s.l.length,?_,wE,?_,rfl⟩,Ext.app H _,fun i hi=>⟨List.mem_singleton.1 hi,wE⟩⟩⟩
  .simp[shift]
  .exact zF
theorem q5W(cs:List D):cellsOf (.agg cs)=some cs:=rfl
theorem qxN[MaxL][TxtC]{H:qe}{b:Nat}{x y:Sl UInt8}(h:qd H b=some [(.vsl x.nil (qf x.l) x.l.length),(.vsl y.nil (qf y.l) y.l.length)])(hx:x.l.length<=1000000)(B:y.l.length<=1000000):
  ∃c a d T f j,call cx 47 [.optr b 2 0] H=some (.optr c 2 0,T)/\qd T c=some [a,d]/\RowA T 1 a (qf x.l) f/\RowA T 1 d (qf y.l) j/\(∀i,i∈f->H.length<=i/\i<c)/\(∀i,i∈j->H.length<=i/\i<c/\i∉f)/\H.length<=c/\Ext [] H T:=by
 obtain⟨C,A,N,P⟩:=qlH x hx;obtain⟨Q,E,I,J⟩:=qlH y B;obtain⟨f,t,k,q⟩:=P H;obtain⟨a,w⟩:=ql (shift H.length C);obtain⟨o,e2⟩:=ql (H++A);rw[w,e2] at t;rw[e2] at k q;obtain⟨j,p,m,v⟩:=J o;obtain⟨d,u⟩:=ql (shift o.length Q);obtain⟨g,s⟩:=ql (o++E);rw[u,s] at p;rw[s] at m v;have z:qd o b=some [(.vsl x.nil (qf x.l) x.l.length),(.vsl y.nil (qf y.l) y.l.length)]:=k.get h wE;have e:=t.ext m fun _ _=>by simp
 have O:=qns t;have L:=qns p;have G:=qnr (n:=g.length) e (qA _);have K:=qnr (n:=g.length) p (qA _);have R:=k.len;have U:=m.len;have r:=Ext.new g [a,d];refine⟨g.length,a,d,qr g [a,d],f,j,j6 Tryz.func47 rfl ⟨rfl,rfl⟩ ?_,zF,e.ext r fun _ _=>wE,p.ext r fun _ _=>wE,fun i hi=>?_,fun i hi=>?_,wC,(k.trans m (NewL.refl _ _)).trans r (NewL.refl _ _)⟩
 .simp[-qd,-qn,-qr,-cellsOf,Tryz.f47,h,N,w,e2,z,I,u,s,O,L,G,K,q5W]
 .obtain⟨M,F⟩:=q i hi;omega
 .obtain⟨M,F⟩:=v i hi;refine⟨wC,wC,fun hc=>?_⟩;obtain⟨V,S⟩:=q i hc;omega
def Xv(l:List UInt8)(a:Nat)(b:List UInt8):List UInt8:=(l++List.replicate (a+b.length-l.length) 0).take a++b++(l++List.replicate (a+b.length-l.length) 0).drop (a+b.length)
def VI(a:Nat)(b:List UInt8):Nat:=if 32768<a\/32768<a+b.length then 15 else 0
def Jg(l:List UInt8)(a:Nat)(b:List UInt8):List UInt8:=if VI a b=0/\b≠[] then Xv l a b else l
theorem qxL[MaxL][TxtC]{H:qe}{c:Nat}{B cy:D}{l:List UInt8}{s:List Nat}(h:qd H c=some [B,cy])(C:RowA H 1 B (qf l) s)(hc:c∉s)(hl:l.length<=1000000)(a:Nat)(ha:a<=1000000000)(b:Sl UInt8)(hb:b.l.length<=1000000000):
  ∃M T v,call cx 48 [.optr c 2 0,.int .i64 a,(.vsl b.nil (qf b.l) b.l.length)] H=some (.int .i64 (VI a b.l),T)/\qd T c=some [M,cy]/\RowA T 1 M (qf (Jg l a b.l)) v/\Ext (c::s) H T/\NewL s v H.length/\c∉v:=by
 have N:¬(a:Int)<0:=wC
 have qE:=qx h;by_cases A:32768<a
 .have F:(32768:Int)<(a:Int):=by omega
  have q:VI a b.l=15:=by simp[VI,A]
  have y:Jg l a b.l=l:=by simp[Jg,q]
  rw[q,y];refine⟨B,H,s,j6 Tryz.func48 rfl ⟨rfl,rfl⟩ ?_,h,C,Ext.refl _ _,NewL.refl _ _,hc⟩;simp[-qd,-qn,-qr,Tryz.f48,N,F]
 have F:¬(32768:Int)<(a:Int):=wC
 have R:=qz (32768-(a:Int)) (32768-(a:Int));by_cases h2:32768<a+b.l.length
 .have S:(32768:Int)-(a:Int)<(b.l.length:Int):=by omega
  have q:VI a b.l=15:=by simp[VI,h2]
  have y:Jg l a b.l=l:=by simp[Jg,q]
  rw[q,y];refine⟨B,H,s,j6 Tryz.func48 rfl ⟨rfl,rfl⟩ ?_,h,C,Ext.refl _ _,NewL.refl _ _,hc⟩;simp[-qd,-qn,-qr,Tryz.f48,N,F,R,S]
 have S:¬(32768:Int)-(a:Int)<(b.l.length:Int):=wC
 have q:VI a b.l=0:=by simp[VI];omega
 rw[q];by_cases G:b.l=[]
 .have y:Jg l a b.l=l:=by simp[Jg,G]
  have hz:(b.l.length:Int)=0:=by simp[G]
  rw[y];refine⟨B,H,s,j6 Tryz.func48 rfl ⟨rfl,rfl⟩ ?_,h,C,Ext.refl _ _,NewL.refl _ _,hc⟩;simp[-qd,-qn,-qr,-Int.natCast_eq_zero,-List.length_eq_zero_iff,Tryz.f48,N,F,R,hz,show¬((32768:Int)-(a:Int)<0) from wC]
 have jR:0<b.l.length:=List.length_pos_iff.2 G;have y:Jg l a b.l=Xv l a b.l:=by simp[Jg,q,G]
 rw[y];have hz:¬(b.l.length:Int)=0:=wC
 have kB:(((b.l.length:Nat):Int)==0)=false:=by simpa using G
 have zR:=qz ((a:Int)+(b.l.length:Int)) ((a:Int)+(b.l.length:Int));have VW:=qz ((a:Int)+(b.l.length:Int)-(l.length:Int)) ((a:Int)+(b.l.length:Int)-(l.length:Int));have u:(qf l).length=l.length:=wE
 obtain⟨m,hm⟩:=ql (a+b.l.length-l.length);obtain⟨p,O⟩:=ql (l++List.replicate m 0);have ag:p.length=l.length+m:=by rw[<-O];simp
 have aa:qf p=qf l++qf (List.replicate m 0):=by rw[<-O];simp[qf]
 have KV:Xv l a b.l=p.take a++b.l++p.drop (a+b.l.length):=by unfold Xv;rw[hm,O]
 have hs:∀r:Nat,qa8 Tryz.prog 63 (.osl r p.length 0 p.length 1) (some (.int .i64 a)) none=some (.osl r p.length a (p.length-a) 1):=by
  intro r;have L:(a:Int)<=(p.length:Int):=wC
  have e2:a=0\/a<p.length:=wC
  simp[L,e2]
 have I:∀(r:Nat)(T:qe),qd T r=some (qf p)->qcv Tryz.prog T 63 63 (.osl r p.length a (p.length-a) 1) (.vsl b.nil (qf b.l) b.l.length)=some (.int .i64 b.l.length,qn T r (qf (Xv l a b.l))):=by
  intro r T hT;have L:min b.l.length (p.length-a)=b.l.length:=wC
  have e2:a+(p.length-a)<=p.length:=wC
  have e3:(qf b.l).take b.l.length=qf b.l:=qH wE;simp[-qd,-qn,hT,L,e2,e3];rw[KV];simp[qf,List.map_take,List.map_drop]
 have k:(Xv l a b.l).length=p.length:=by rw[KV];simp;omega
 by_cases ah:l.length<a+b.l.length
 .have hg:(0:Int)<(a:Int)+(b.l.length:Int)-(l.length:Int):=by omega
  have jh:((a:Int)+(b.l.length:Int)-(l.length:Int)).toNat=m:=wC
  have X9:qcL Tryz.prog H 5 3 (.int .i64 ((a:Int)+(b.l.length:Int)-(l.length:Int)))=some (qf (List.replicate m 0),m):=by
   have L:(0:Int)<=(a:Int)+(b.l.length:Int)-(l.length:Int)/\(a:Int)+(b.l.length:Int)-(l.length:Int)<=(qF:Int)/\((a:Int)+(b.l.length:Int)-(l.length:Int)).toNat*bytesOf Tryz.prog 5<=qF:=by
    refine⟨wC,xV,?_⟩;rw[jh];simp[qF];omega
   have e2:VG Tryz.prog 5 m=some (qf (List.replicate m 0)):=by
    simp[VG,qf]
   unfold qcL;simp only[show Tryz.prog.underlying 3=some (.int .i64) from wE];rw[if_pos L,jh,e2];rfl
  obtain⟨nv,H6,L6,hA,J,V,n6⟩:=C.append (P:=Tryz.prog) (st:=63) (xt:=3) (e:=5) (x:=.int .i64 ((a:Int)+(b.l.length:Int)-(l.length:Int))) (xs:=qf (List.replicate m 0)) (m:=m) wE wE X9 wE wC wE wC wM wM;rw[<-aa] at J
  obtain⟨r,n,Z,d,f,g⟩:=J.own (by
   intro e;have W:(qf p).length=0:=(by rw[e];rfl);rw[show(qf p).length=p.length from wE] at W;omega)
  have t:n=p.length:=by simpa using d.symm
  subst t;subst Z;have ac:(qf p).length=p.length:=wE
  rw[ac] at hA;have X:=n6 r (by rw[g];simp)
  have E:r≠c:=by
   intro e;rcases X with A|A
   .exact hc (e▸A)
   .omega
  have r6:=V.get h hc;have K:r<H6.length:=qx f;obtain⟨Y,U⟩:=ql (qn H6 c [.osl r p.length 0 p.length 1,cy]);have r7:=vV U r6;have g7:qd Y r=some (qf p):=by rw[<-U,zV E];exact f
  have Q:=vZ U;have ae:=V.len
  have xT:Ext (c::s) H (qn Y r (qf (Xv l a b.l))):=by
   refine⟨by rw[kL];have:=Q.len;omega,fun i hi t=>?_⟩;simp only[jC,not_or] at t;rw[zV ?_,Q.out i wC (by simpa using t.1),V.out i hi t.2];intro e;rcases X with A|A
   .exact t.2 (e▸A)
   .omega
  refine⟨.osl r p.length 0 p.length 1,qn Y r (qf (Xv l a b.l)),[r],j6 Tryz.func48 rfl ⟨rfl,rfl⟩ ?_,by rw[zV (Ne.symm E)];exact r7,.inr ⟨r,p.length,by simp[k],by simp[k],zj (qx g7),rfl⟩,xT,fun i hi=>by rw[List.mem_singleton.1 hi];exact X,by simpa using Ne.symm E⟩
  have z:qO Tryz.prog 63 B=some (.int .i64 l.length):=by
   rcases C with⟨rfl,w,_⟩|⟨r0,n0,rfl,w,_⟩
   .have:l.length=0:=(by rw[<-u,w];rfl);simp[this]
   .have:n0=l.length:=(by simpa using w.symm);simp[this]
  have j:qO Tryz.prog 63 (.vsl b.nil (qf b.l) b.l.length)=some (.int .i64 b.l.length):=wE
  simp[-qd,-qn,-qr,-qJ,-qa8,-qcv,-qO,j,Tryz.f48,N,F,R,S,kB,h,z,zR,VW,show(l.length:Int)<(a:Int)+(b.l.length:Int) from wC,hA,r6,K,U,r7,hs,I,g7]
 .have hg:¬(0:Int)<(a:Int)+(b.l.length:Int)-(l.length:Int):=by omega
  have VZ:m=0:=wC
  have o:p=l:=by rw[<-O,VZ];simp
  obtain⟨r,n,hv,d,f,g⟩:=C.own (by
   intro e;have W:(qf l).length=0:=(by rw[e];rfl);rw[u] at W;omega)
  have t:n=l.length:=by simpa using d.symm
  subst t;subst hv;rw[u] at h;rw[<-o] at h f
  have E:r≠c:=by
   intro e;exact hc (by rw[g,e];simp)
  have Q:Ext [r] H (qn H r (qf (Xv l a b.l))):=Ext.set H r _;refine⟨.osl r p.length 0 p.length 1,qn H r (qf (Xv l a b.l)),[r],j6 Tryz.func48 rfl ⟨rfl,rfl⟩ ?_,by rw[zV (Ne.symm E)];exact h,.inr ⟨r,p.length,by simp[k],by simp[k],zj (qx f),rfl⟩,Q.mono fun i hi=>by rw[List.mem_singleton.1 hi,g];simp,fun i hi=>.inl (by rw[g];exact hi),by simpa using Ne.symm E⟩;have j:qO Tryz.prog 63 (.vsl b.nil (qf b.l) b.l.length)=some (.int .i64 b.l.length):=wE
  have z:qO Tryz.prog 63 (.osl r p.length 0 p.length 1)=some (.int .i64 l.length):=by simp[o]
  simp[-qd,-qn,-qr,-qJ,-qa8,-qcv,-qO,j,Tryz.f48,N,F,R,S,kB,h,z,zR,VW,show¬(l.length:Int)<(a:Int)+(b.l.length:Int) from wC,hs,I,f]
theorem qjr{H:qe}{v:D}{l:List UInt8}{L:List Nat}(h:RowA H 1 v (qf l) L):∃c,j9 H 9 v=some (.vsl c (qf l) l.length,L)/\(c=true->l=[]):=by
 rcases h with⟨rfl,b,rfl⟩|⟨r,n,rfl,b,d,rfl⟩
 .have e:l=[]:=by
   cases l with
   |nil=>rfl
   |cons a l=>simp[qf] at b
  subst e;exact⟨true,rfl,fun _=>rfl⟩
 .have f:n=l.length:=by simpa using b.symm
  subst f;refine⟨false,?_,fun h=>wI⟩;have g:0+l.length*1<=(qf l).length:=wE
  unfold j9;simp only[idFree,Qd,if_false,d];rw[if_pos wE];simp
theorem V8{l:List Nat}:∀{H:qe}{i:Nat},i∉l->qd (jS H l) i=qd H i:=by
 induction l with
 |nil=>intro H i _;rfl
 |cons j l a=>
  intro H i hi;simp only[jC,not_or] at hi;rw[jS,a hi.2];unfold qd;rw[List.getElem?_set_ne (Ne.symm hi.1)]
theorem qxl{H:qe}{c:Nat}{x y:D}{l m:List UInt8}{e d:List Nat}(h:qd H c=some [x,y])(hx:RowA H 1 x (qf l) e)(z:RowA H 1 y (qf m) d)(v:c∉e)(w:c∉d):
  ∃(a b:Sl UInt8)(T:qe),ZK H c=some T/\a.l=l/\b.l=m/\qd T c=some [(.vsl a.nil (qf a.l) a.l.length),(.vsl b.nil (qf b.l) b.l.length)]/\Ext (c::(e++d)) H T:=by
 obtain⟨k,s,A⟩:=qjr hx;obtain⟨j,p,B⟩:=qjr z;have C:=qx h;by_cases g:[x,y].all idFree=true
 .have q:x=.vsl k (qf l) l.length/\e=[]:=by
   rcases hx with⟨rfl,_,rfl⟩|⟨r,n,rfl,_⟩
   .simp[j9,idFree] at s;obtain⟨rfl,u,t⟩:=s;exact⟨by rw[<-u,t],rfl⟩
   .simp[idFree] at g
  have o:y=.vsl j (qf m) m.length/\d=[]:=by
   rcases z with⟨rfl,_,rfl⟩|⟨r,n,rfl,_⟩
   .simp[j9,idFree] at p;obtain⟨rfl,u,t⟩:=p;exact⟨by rw[<-u,t],rfl⟩
   .simp[idFree] at g
  refine⟨⟨k,l,A⟩,⟨j,m,B⟩,H,?_,rfl,rfl,by rw[h,q.1,o.1],Ext.refl _ _⟩;unfold ZK;simp only[h,g,if_true]
 .refine⟨⟨k,l,A⟩,⟨j,m,B⟩,qn (jS H (e++d)) c [.vsl k (qf l) l.length,.vsl j (qf m) m.length],?_,rfl,rfl,zj (by rw[QF];exact C),?_⟩
  .have f:c∉e++d:=(by simp[v,w]);unfold ZK;simp only[h];rw[if_neg g];simp only[kc,s,p,J4];rw[if_neg f]
  .refine⟨by rw[kL,QF];exact qA _,fun i hi f=>?_⟩;simp only[jC,not_or] at f;rw[zV f.1,V8 f.2]
def qaq(s:Fs)(name:List UInt8)(a:Nat)(b:List UInt8):Nat:=
 if vW s name≠0 then vW s name
 else match(kH s.nodes name).bind (s.nodes[·]?) with
  |none=>16
  |some n=>if VI a b≠0 then 15
   else if n.b.l.length<(Jg n.b.l a b).length/\s.room<(Zi s.nodes+((Jg n.b.l a b).length-n.b.l.length):Nat) then 15
   else(kI s).1
def qdF(s:Fs)(name:List UInt8)(a:Nat)(b:List UInt8)(d:Fs):Prop:=
 if qaq s name a b=0 then∃i n c,kH s.nodes name=some i/\s.nodes[i]?=some n/\d={(kI s).2 with nodes:=s.nodes.set i c}/\c.name=n.name/\c.there=n.there/\c.b.l=Jg n.b.l a b/\c.safe.l=n.safe.l
 else d=s\/d=(kI s).2
theorem qkW{l:List Nd}{name:List UInt8}{i:Nat}(h:kH l name=some i):∃hi:i<l.length,l[i].there=true/\l[i].name=name:=by
 unfold kH at h;obtain⟨hi,a,_⟩:=List.findIdx?_eq_some_iff_getElem.1 h;refine⟨hi,?_⟩;simpa using a
theorem qtO{s:Fs}{name:List UInt8}(h:vW s name=0):Vj s name=0/\∃i,kH s.nodes name=some i:=by
 unfold vW at h;split at h
 .rename_i a;exact absurd h a
 .rename_i a;split at h
  .rename_i b;exact⟨wZ,Option.isSome_iff_exists.1 b⟩
  .omega
theorem qmj(l:List UInt8)(a:Nat)(b:List UInt8):(Xv l a b).length=max l.length (a+b.length):=by
 unfold Xv;simp;omega
theorem qwu(l:List UInt8)(a:Nat)(b:List UInt8)(c:l.length<=32768):(Jg l a b).length<=32768:=by
 unfold Jg;split
 .rename_i h;rw[qmj];have:=h.1;unfold VI at this;split at this
  .omega
  .omega
 .exact c
theorem qwv(l:List UInt8)(a:Nat)(b:List UInt8):l.length<=(Jg l a b).length:=by
 unfold Jg;split
 .rw[qmj];omega
 .exact qA _
theorem qh7{v:FSv}{q i:Nat}{x:Nat×Nat}(h:v.nd[i]?=some x):x.1∈v.names q/\x.2∈v.names q:=by
 have a:=j7 h;simp only[FSv.names,jC,jW,ZI];exact⟨.inr (.inr (.inr (.inl ⟨x,a,rfl⟩))),.inr (.inr (.inr (.inr ⟨x,a,rfl⟩)))⟩
theorem q4e{H:qe}{q i c:Nat}{s:Fs}{v:FSv}{n r:Nd}(h:FSw H q s v)(hi:s.nodes[i]?=some n)(hc:qd H c=some r.data)(d:c∉v.names q):
  FSw (qn H (Za v i) (r.cells c)) q {s with nodes:=s.nodes.set i r} {v with nd:=v.nd.set i (Za v i,c)}:=by
 obtain⟨f,b⟩:=h.ty;have z:i<s.nodes.length:=(List.getElem?_eq_some_iff.1 hi).1;have hiv:i<v.nd.length:=by rw[h.len];exact z
 obtain⟨C,M⟩:=b.node i _ (Yh hiv);obtain⟨G,L⟩:=h.node i n _ hi (Yh hiv)
 have l:∀j k,f j=k->k≠3+2*i->j≠Za v i:=by
  intro j k a K e;rw[e] at a;simp only at C;omega
 have p:c≠Za v i:=fun e=>d (e▸(qh7 (Yh hiv)).1);have A:Ext [Za v i] H (qn H (Za v i) (r.cells c)):=Ext.set H _ _
 have g:FSv.ptrs {v with nd:=v.nd.set i (Za v i,c)}=v.ptrs:=by
  unfold FSv.ptrs;simp only[List.map_set];apply List.ext_getElem?;intro j;rw[List.getElem?_set];by_cases a:i=j
  .subst a;simp[hiv,Za]
  .rw[if_neg a]
 refine⟨?_,?_,?_,?_,?_,?_⟩
 .rw[zV (l q 0 b.root wC)];exact h.root
 .rw[g];exact h.row.ext A fun j a u=>l j 1 (b.row j a) wC (List.mem_singleton.1 u)
 .exact h.pend.ext A fun j a u=>l j 2 (b.pend j a) wC (List.mem_singleton.1 u)
 .simp only[vH];exact h.len
 .intro j m x t o;by_cases a:i=j
  .subst a;simp only[List.getElem?_set_self z,qy] at t;simp only[List.getElem?_set_self hiv,qy] at o;subst t o;exact⟨zj (qx G),by rw[zV p];exact hc⟩
  .rw[List.getElem?_set_ne a] at t o;obtain⟨F,E⟩:=h.node j m x t o;obtain⟨w,y⟩:=b.node j x o;rw[zV (l _ _ w wC),zV (l _ _ y wC)];exact⟨F,E⟩
 .refine⟨fun j=>if j=c then 4+2*i else f j,?_,?_,?_,?_⟩
  .show(if q=c then _ else _)=0;rw[if_neg fun e=>d (by simp[FSv.names,e])];exact b.root
  .intro j a;show(if j=c then _ else _)=1;rw[if_neg fun e=>d (by simp only[FSv.names,jC,jW];exact .inr (.inl (e▸a)))];exact b.row j a
  .intro j a;show(if j=c then _ else _)=2;rw[if_neg fun e=>d (by simp only[FSv.names,jC,jW];exact .inr (.inr (.inl (e▸a))))];exact b.pend j a
  .intro j x a;by_cases B:i=j
   .subst B;simp only[List.getElem?_set_self hiv,qy] at a;subst a;refine⟨?_,?_⟩
    .show(if Za v i=c then _ else _)=_;rw[if_neg (Ne.symm p)];exact C
    .show(if c=c then _ else _)=_;rw[if_pos rfl]
   .rw[List.getElem?_set_ne B] at a;obtain⟨w,y⟩:=b.node j x a;obtain⟨I,J⟩:=qh7 (q:=q) a;refine⟨?_,?_⟩
    .show(if x.1=c then _ else _)=_;rw[if_neg (fun e:x.1=c=>d (e▸I))];exact w
    .show(if x.2=c then _ else _)=_;rw[if_neg (fun e:x.2=c=>d (e▸J))];exact y
theorem qtE[MaxL][TxtC]{H:qe}{q:Nat}{s:Fs}{v:FSv}(h:FSw H q s v)(hn:s.nodes.length<100000)(hb:∀n,n∈s.nodes->n.b.l.length<=32768/\n.safe.l.length<=32768)(hf:-9000000000000000000<=s.fuse/\s.fuse<=9000000000000000000)(_:0<=s.room/\s.room<=1000000000)(name:List UInt8)(hl:name.length<1000000)
  (a:Nat) (ha:a<=1000000000) (b:Sl UInt8) (jR:b.l.length<=1000000000):
  ∃s' T v',call cx 20 [.optr q 5 0,.str name,.int .i64 a,(.vsl b.nil (qf b.l) b.l.length)] H=some (.int .i64 (qaq s name a b.l),T)/\FSw T q s' v'/\qdF s name a b.l s'/\Ext (v.names q) H T/\NewL (v.names q) (v'.names q) H.length/\v'.pc=v.pc:=by
 obtain⟨B,e1⟩:=ql (qr H [.str name]);have M:=zL e1;have w1:FSw B q s v:=h.ext M fun _ _=>by simp
 have e:=qkU h wC name hl;rw[e1] at e;have ak:Ext (v.names q) H B:=M.mono fun _ hi=>by simp at hi
 by_cases I:vW s name=0
 rotate_left
 .have Y:qaq s name a b.l=vW s name:=by simp[qaq,I]
  have aH:¬((vW s name:Nat):Int)=0:=wC
  refine⟨s,B,v,?_,w1,by unfold qdF;rw[Y,if_neg I];exact .inl rfl,ak,NewL.refl _ _,rfl⟩;rw[Y];refine j6 Tryz.func20 rfl ⟨rfl,rfl⟩ ?_;simp[-qd,-qn,-qr,Tryz.f20,e,I]
 obtain⟨XH,i,z⟩:=qtO I;obtain⟨hi,p,au⟩:=qkW z;have hiv:i<v.nd.length:=by rw[h.len];exact hi
 obtain⟨E,jQ⟩:=w1.node i _ _ (qM hi) (Yh hiv);have ac:=hb _ (vC hi);have Q:s.nodes[i]?=some s.nodes[i]:=qM hi;obtain⟨n,aA⟩:=ql (s.nodes[i]);rw[aA] at E jQ ac Q p au;simp only[Nd.cells,p] at E;simp only[Nd.data] at jQ;have ao:qfv s v name=.optr (Za v i) 3 0:=by simp[qfv,XH,z]
 rw[I,ao] at e;obtain⟨c,bx,cy,H2,Lx,Ly,r,g2,ax,av,mx,my,Kl,x2⟩:=qxN jQ wC wC;have w2:FSw H2 q s v:=w1.ext x2 fun _ _=>by simp
 have az:c∉Lx:=fun hc=>by have:=mx c hc;omega
 have ah:c∉Ly:=fun hc=>by have:=my c hc;omega
 obtain⟨aI,H3,ay,F,g3,am,x3,n3,ae⟩:=qxL g2 ax az wC a ha b jR;have aa:(kH s.nodes name).bind (s.nodes[·]?)=some n:=by rw[z];exact Q
 have y:∀j,j∈v.names q->j<B.length:=fun j d=>w1.lt d
 have aq:∀j,j∈v.names q->j∉c::Lx:=by
  intro j d hc;have:=y j d;rcases List.mem_cons.1 hc with hc|hc
  .omega
  .have:=(mx j hc).1;omega
 have w3:FSw H3 q s v:=w2.ext x3 aq;have aF:=x2.len;have aE:=x3.len
 have K:Ext (v.names q) H H3:=by
  refine⟨by have:=M.len;omega,fun j d jg=>?_⟩;have Z9:j<B.length:=vd d M.len;rw[x3.out j wC ?_,x2.out j Z9 wE,M.out j d wE];intro hc;rcases List.mem_cons.1 hc with hc|hc
  .omega
  .have:=(mx j hc).1;omega
 by_cases P:VI a b.l=0
 rotate_left
 .have Z:VI a b.l=15:=by
   unfold VI at P⊢;split
   .rfl
   .rename_i h0;rw[if_neg h0] at P;exact absurd rfl P
  have Y:qaq s name a b.l=15:=by simp[qaq,I,aa,P]
  rw[Z] at F;refine⟨s,H3,v,?_,w3,by unfold qdF;rw[Y];exact .inl rfl,K,NewL.refl _ _,rfl⟩;rw[Y];refine j6 Tryz.func20 rfl ⟨rfl,rfl⟩ ?_;simp[-qd,-qn,-qr,Tryz.f20,e,E,r,F]
 rw[P] at F
 have aw:∀j,j∈Ly->j∉c::Lx:=fun j d hc=>by
  rcases List.mem_cons.1 hc with hc|hc
  .exact ah (hc▸d)
  .exact(my j d).2.2 hc
 have aB:RowA H3 1 cy (qf n.safe.l) Ly:=av.ext x3 aw;obtain⟨nb,N,H4,u,JM,ag,g4,x4⟩:=qxl g3 am aB ae ah;have aD:=x4.len
 have A:∀j,j∈c::(ay++Ly)->B.length<=j:=by
  intro j d;rcases List.mem_cons.1 d with d|d
  .omega
  .rcases List.mem_append.1 d with d|d
   .rcases n3 j d with d|d
    .exact(mx j d).1
    .omega
   .exact(my j d).1
 have R:FSw H4 q s v:=w3.ext x4 fun j d hc=>by have:=y j d;have:=A j hc;omega
 have aj:Ext (v.names q) H H4:=by
  refine⟨by have:=K.len;omega,fun j d jg=>?_⟩;have Z9:j<B.length:=vd d M.len;rw[x4.out j wC fun hc=>by have:=A j hc;omega,K.out j d jg]
 have YW:=qtG R wC fun m w=>by have:=hb m w;omega
 obtain⟨O,zU⟩:=R.node i _ _ Q (Yh hiv);simp only[Nd.cells,p] at O;simp only[Nd.data] at zU;have f:=qjz g4;have o:=qjz zU;rw[JM] at f;obtain⟨W,hW⟩:=ql (Jg n.b.l a b.l);have S:=qwv n.b.l a b.l;have U:=qwu n.b.l a b.l ac.1;rw[hW] at f S U;obtain⟨t,jv⟩:=ql (W.length-n.b.l.length);have jM:IntKind.i64.wrap ((W.length:Int)-(n.b.l.length:Int))=(t:Int):=by rw[wrap_i64];all_goals omega
 have jm:Zi s.nodes<=s.nodes.length*32768:=by
  have:∀l:List Nd,(∀m,m∈l->m.b.l.length<=32768)->Zi l<=l.length*32768:=by
   intro l
   induction l with
   |nil=>intro _;simp[Zi]
   |cons m l ih=>
    intro w;have h1:=ih fun k hk=>w k (vy _ hk);have h2:=w m (Jd ..);simp only[Zi,jJ,ZH,Nat.one_mul];split<;>omega
  exact this _ fun m w=>(hb m w).1
 have zR:=qz ((Zi s.nodes:Nat)+(t:Int)) ((Zi s.nodes+t:Nat):Int);have r4:=R.root;simp only[Fs.cells] at r4
 have g:qaq s name a b.l=if n.b.l.length<W.length/\s.room<(Zi s.nodes+t:Nat) then 15 else(kI s).1:=by
  unfold qaq;rw[if_neg (by simpa using I),aa];simp only[P,hW,jv];simp
 by_cases c2:n.b.l.length<W.length/\s.room<(Zi s.nodes+t:Nat)
 .rw[if_pos c2] at g;have q1:(0:Int)<(t:Int):=by omega
  have q2:s.room<((Zi s.nodes:Nat):Int)+(t:Int):=wC
  refine⟨s,H4,v,?_,R,by unfold qdF;rw[g];exact .inl rfl,aj,NewL.refl _ _,rfl⟩;rw[g];refine j6 Tryz.func20 rfl ⟨rfl,rfl⟩ ?_;simp[-qd,-qn,-qr,-ZK,Tryz.f20,e,E,r,F,u,f,o,O,jM,YW,show 0<t from wC,zR,r4,q2]
 rw[if_neg c2] at g;have J:=qtK R hf;obtain⟨C,e5⟩:=ql (qn H4 q ((kI s).2.cells v));have w5:FSw C q (kI s).2 v:=e5▸qtF R (qii s);have x5:=vZ e5;rw[e5] at J;have X:Ext (v.names q) H C:=aj.trans (x5.mono fun j d=>by rw[List.mem_singleton.1 d];simp[FSv.names]) (NewL.refl _ _);have q2:0<t->¬s.room<((Zi s.nodes:Nat):Int)+(t:Int):=wC
 by_cases c3:(kI s).1=0
 rotate_left
 .have aC:(kI s).1=18:=(qtP s).resolve_left c3;rw[aC] at J g;refine⟨(kI s).2,C,v,?_,w5,by unfold qdF;rw[g];exact .inr rfl,X,NewL.refl _ _,rfl⟩;rw[g];refine j6 Tryz.func20 rfl ⟨rfl,rfl⟩ ?_;by_cases G:0<t
  .simp[-qd,-qn,-qr,-ZK,Tryz.f20,e,E,r,F,u,f,o,O,jM,YW,G,zR,r4,q2 G,J]
  .simp[-qd,-qn,-qr,-ZK,Tryz.f20,e,E,r,F,u,f,o,O,jM,YW,G,J]
 rw[c3] at J g;obtain⟨s2,Qk⟩:=ql ((kI s).2);have L:s2.nodes=s.nodes:=by rw[<-Qk];exact qii s
 rw[Qk] at w5;obtain⟨kC,Js⟩:=w5.node i n _ (by rw[L];exact Q) (Yh hiv);simp only[Nd.cells,p] at kC;have V:c<C.length:=by have:=qx g4;have:=x5.len;omega
 obtain⟨T,eT⟩:=ql (qn C (Za v i) [.str n.name,.bool true,.optr c 2 0]);refine⟨{s2 with nodes:=s.nodes.set i {n with b:=nb,safe:=N}},T,{v with nd:=v.nd.set i (Za v i,c)},?_,?_,?_,?_,?_,rfl⟩
 .rw[g];refine j6 Tryz.func20 rfl ⟨rfl,rfl⟩ ?_;by_cases G:0<t
  .simp[-qd,-qn,-qr,-ZK,Tryz.f20,e,E,r,F,u,f,o,O,jM,YW,G,zR,r4,q2 G,J,kC,V,eT,zT]
  .simp[-qd,-qn,-qr,-ZK,Tryz.f20,e,E,r,F,u,f,o,O,jM,YW,G,J,kC,V,eT,zT]
 .have ai:c∉v.names q:=fun hc=>by have:=y c hc;omega
  have g5:qd C c=some (Nd.data {n with b:=nb,safe:=N}):=x5.get g4 fun hc=>ai (by rw[List.mem_singleton.1 hc];simp[FSv.names]);have:=q4e w5 (by rw[L];exact Q) g5 ai;simp only[Nd.cells,p,eT,L] at this;rw[p];exact this
 .unfold qdF;rw[g,if_pos rfl,Qk];exact⟨i,n,{n with b:=nb,safe:=N},z,Q,rfl,rfl,rfl,by rw[JM],ag⟩
 .have w:=(qh7 (q:=q) (Yh hiv)).1;exact X.trans ((eT▸Ext.set C _ _:Ext [Za v i] C T).mono fun j d=>by rw[List.mem_singleton.1 d];exact w) (NewL.refl _ _)
 .intro j d;have aG:H.length<=B.length:=M.len;have qn:∀x,x∈v.nd.set i (Za v i,c)->x∈v.nd\/x=(Za v i,c):=fun x hx=>qc9 hx;have w:=qh7 (q:=q) (Yh hiv);simp only[FSv.names,jC,jW,ZI] at d w⊢;rcases d with d|d|d|⟨x,hx,rfl⟩|⟨x,hx,rfl⟩
  .exact .inl (.inl d)
  .exact .inl (.inr (.inl d))
  .exact .inl (.inr (.inr (.inl d)))
  .rcases qn x hx with hx|rfl
   .exact .inl (.inr (.inr (.inr (.inl ⟨x,hx,rfl⟩))))
   .exact .inl w.1
  .rcases qn x hx with hx|rfl
   .exact .inl (.inr (.inr (.inr (.inr ⟨x,hx,rfl⟩))))
   .exact .inr (by show H.length<=c;omega)
structure PgI (H:qe) (q:Nat) (b:List UInt8) (k:Nat) (K:qe) (dG:D) (LG g:List Nat) (last:Nat):Prop where
 ext:Ext [q] H K
 qq:qd K q=some (Zv b dG (.bool false))
 gR:RowA K 1 dG (jO g) LG
 gn:g=[]->dG=.vsl true [] 0
 gN:∀j,j∈LG->H.length<=j
 gl:g.length<=k
 ge:g++XN (zD b).l (qG b) ((zC b).drop k) k last=zu b
def pgI(H:qe)(q:Nat)(b:List UInt8)(k:Nat)(e:qu)(K:qe):Prop:=
 k<=(zC b).length/\qi e 0=some (.optr q 5 0)/\qi e 16=some (.int .i64 (zC b).length)/\qi e 17=some (.int .i64 k)/\∃a c g last,qi e 3=some (.int .u64 (last:Nat))/\PgI H q b k K a c g last
theorem q2j[MaxL]{H:qe}{q:Nat}{b:List UInt8}(hq:qd H q=some (qas b))(hb:b.length<=1000000):∃T,call cx 72 [.optr q 5 0] H=some (Zc (zu b),T)/\Ext [q] H T/\qd T q=some (Zv b (Zc (zu b)) (.bool true)):=by
 suffices hs:∃r,call cx 72 [.optr q 5 0] H=some r/\∃T:qe,r=(Zc (zu b),T)/\Ext [q] H T/\qd T q=some (Zv b (Zc (zu b)) (.bool true)) by
  obtain⟨r,hc,T,rfl,Z⟩:=hs;exact⟨T,hc,Z⟩
 rw[qum] at hq;have hl:(zC b).length<=1000000:=zJ (qgQ b) hb;refine vx (X:=cx) (f:=72) _ Tryz.func72 rfl ⟨rfl,rfl⟩ ?_;have kw:=hq;simp only[Zv,VR] at kw;have jv:qO Tryz.prog 98 (.vsl (decide (zC b=[])) (zg (zC b)) (zC b).length)=some (.int .i64 (zC b).length):=wE
 simp[-qd,-qn,-qr,-qJ,-qO,Tryz.f72,kw,jv];refine Vv (pgI H q b) (fun k=>(zC b).length-k) 0 (fun ex e K=>ex=.exit 0/\pgI H q b (zC b).length e K) ?_ ?_ ?_
 .exact⟨vp _,wE,wE,wE,.vsl true [] 0,[],[],0,wE,Ext.refl _ _,hq,RowA.nil _ _,fun _=>rfl,fun j a=>xC,wE,by simp[zu]⟩
 .rintro k e K ⟨hk,R,s,t,dG,L,g,last,p3,I⟩;by_cases qg:k<(zC b).length
  .have qo:(k:Int)<((zC b).length:Int):=wC;have hw:=qz ((k:Int)+1) ((k+1:Nat):Int);obtain⟨o,Vf,G⟩:=qgu I.qq qg hl hb (x:=(k:Int)) rfl;have C:=qjJ (zD b).l (qG b) (zC b)[k];have A:=qjK (zD b).l (qG b) (zC b)[k];have i:=I.ge;rw[jo qg,XN] at i;have qa:=G.get I.qq wE;have aF:q<H.length:=qx hq;have ay:q∉L:=fun hc=>by have:=I.gN q hc;omega
   have lK:=I.ext.len;generalize (zC b)[k]=y at *;have qk:=I.qq;simp only[Zv,VR] at qk;obtain⟨Kz,d⟩:=ql (qr o Vc);have xz:=zL d;have gz:=js d;simp only[Vc] at d gz;by_cases hc:Qf (zD b).l (qG b) y=0
   .obtain⟨r,W⟩:=qyM hc;rw[hc] at Vf;rw[W] at Vf C A;have B:r.length=19:=(by simpa using C);have p:idFree.idFreeL r=true:=(by simpa[idFree.idFreeL,idFree] using A);have aq:=zsh p;have QP:=zcb p;obtain⟨sq,av⟩:=ql (qT (qN (zD b).l y) 0);rw[av] at i Vf;obtain⟨Kb,J⟩:=ql (qn Kz o.length (.int .u64 (sq:Nat)::r));have V:=vZ J;have gb:qd Kb o.length=some (.int .u64 (sq:Nat)::r):=(by rw[<-J];exact zj (qx gz));have E:q∉[o.length]:=fun hc=>by have:=List.mem_singleton.1 hc;have:=qx qa;omega
    have U:=V.get (xz.get qa wE) E;have z:∀j,j∈L->j∉[o.length]:=fun j a hc=>by have:=List.mem_singleton.1 hc;have:=I.gR.lt a;have:=G.len;omega
    have F:=((I.gR.ext G (fun _ _=>wE)).ext xz (fun _ _=>wE)).ext V z;have u:Ext [q] H Kb:=((I.ext.trans G (fun _ h=>wP)).trans xz (fun _ h=>wP)).trans V fun j a=>.inr (by have:=List.mem_singleton.1 a;have:=G.len;omega);simp only[Zv,VR] at U;have v:call cx 73 [.optr q 5 0,.int .i64 k] K=some (.tup [.agg (.int .u64 (sq:Nat)::r),.int .i64 0],o):=Vf;by_cases h2:last<sq
    .rw[if_pos ⟨hc,h2⟩] at i;have vm:=zq h2;have ao:(g++[k])++XN (zD b).l (qG b) ((zC b).drop (k+1)) (k+1) sq=zu b:=(by rw[<-i];simp);have Yu:=qkE g;have am:=q2X g k;have Xc:=I.gl;have b1:qr [] [D.int .i64 (k:Nat)]=[some [.int .i64 (k:Nat)]]:=rfl;obtain⟨aA,Kc,ag,ac,M,xe,ne⟩:=F.append (P:=Tryz.prog) (st:=23) (xt:=23) (e:=3) (x:=.vsl false [.int .i64 (k:Nat)] 1) (xs:=[.int .i64 (k:Nat)]) (m:=1) wE wE wE wE wC wE wC (by simp[qF,Yu];omega) (by simp[qF,Yu];omega);obtain⟨n,mG,w,-,Q,N⟩:=M.own wE;subst w;obtain⟨lG,au⟩:=ql ((jO g++[D.int .i64 (k:Nat)]).length);rw[au] at ac M;have qc:=xe.get U ay;have gc:=xe.get gb (fun hc=>z _ hc wE);obtain⟨Kd,S⟩:=ql (qn Kc q [.vptr (qV (zD b) (qG b)),.vsl (decide (zC b=[])) (zg (zC b)) (zC b).length,.int .i64 ((XQ (zD b).l (qG b)).2:Nat),.osl n lG 0 mG 1,.bool false]);have xd:=vZ S;have gd:qd Kd q=some (Zv b (.osl n lG 0 mG 1) (.bool false)):=(by rw[<-S];exact zj (qx qc));have aw:n<Kc.length:=qx Q;have ak:=xe.len
     have nG:∀j,j∈ag->H.length<=j:=fun j a=>by
      rcases ne j a with h|h
      .exact I.gN j h
      .have:=u.len;omega
     have aE:o.length<Kb.length:=qx gb;simp[-qd,-qn,-qr,-qJ,-qO,R,p3,s,t,qo,v,B,QP,d,gz,J,gb,vm,U,b1,ac,qc,gc,aw,S,hw,ak];refine⟨⟨xd.len,xd.get gc fun hc=>E (by rw[List.mem_singleton.1 hc];simp)⟩,k+1,wC,wC,wE,wE,wE,.osl n lG 0 mG 1,ag,g++[k],sq,wE,?_,gd,?_,wE,nG,wG,ao⟩
     .exact(u.trans xe fun j a=>.inr (I.gN j a)).trans xd fun j a=>.inl a
     .rw[am];exact M.ext xd fun j a hc=>by have:=nG j a;have:=List.mem_singleton.1 hc;omega
    .rw[if_neg (fun h=>h2 h.2)] at i;have vm:=zw h2;simp[-qd,-qn,-qr,-qJ,-qO,R,p3,s,t,qo,v,B,QP,d,gz,J,gb,vm,hw];exact⟨k+1,wC,wC,wE,wE,wE,dG,L,g,last,wE,u,U,F,I.gn,I.gN,by have:=I.gl;omega,i⟩
   .obtain⟨r,W⟩:=qyN hc;rw[if_neg (fun h=>hc h.1)] at i;rw[W] at Vf C A;have B:r.length=19:=(by simpa using C);have p:idFree.idFreeL r=true:=(by simpa[idFree.idFreeL,idFree] using A);have aq:=zsh p;have QP:=zcb p;obtain⟨Kb,J⟩:=ql (qn Kz o.length (.int .u64 0::r));have V:=vZ J;have gb:qd Kb o.length=some (.int .u64 0::r):=(by rw[<-J];exact zj (qx gz));have E:q∉[o.length]:=fun hc=>by have:=List.mem_singleton.1 hc;have:=qx qa;omega
    have U:=V.get (xz.get qa wE) E;have z:∀j,j∈L->j∉[o.length]:=fun j a hc=>by have:=List.mem_singleton.1 hc;have:=I.gR.lt a;have:=G.len;omega
    have F:=((I.gR.ext G (fun _ _=>wE)).ext xz (fun _ _=>wE)).ext V z;have u:Ext [q] H Kb:=((I.ext.trans G (fun _ h=>wP)).trans xz (fun _ h=>wP)).trans V fun j a=>.inr (by have:=List.mem_singleton.1 a;have:=G.len;omega);simp only[Zv,VR] at U;have Yw:¬((Qf (zD b).l (qG b) y:Nat):Int)=0:=wC;generalize Qf (zD b).l (qG b) y=cc at *;simp[-qd,-qn,-qr,-qJ,-qO,R,p3,s,t,qo,Vf,B,QP,d,gz,J,hc,hw];exact⟨k+1,wC,wC,wE,wE,wE,dG,L,g,last,wE,u,U,F,I.gn,I.gN,by have:=I.gl;omega,i⟩
  .have qo:¬(k:Int)<((zC b).length:Int):=wC;have az:k=(zC b).length:=wC;subst az;simp[-qd,-qn,-qr,-qJ,-qO,R,p3,s,t,qo];exact⟨qA _,wE,wE,wE,dG,L,g,last,wE,I⟩
 .rintro ex e K ⟨rfl,-,R,s,t,dG,L,g,last,p3,I⟩;have Z:=I.qq;simp only[Zv,VR] at Z;obtain⟨T,hT⟩:=ql (qn K q [.vptr (qV (zD b) (qG b)),.vsl (decide (zC b=[])) (zg (zC b)) (zC b).length,.int .i64 ((XQ (zD b).l (qG b)).2:Nat),dG,.bool true]);have xT:=vZ hT;have gT:=vV hT Z;have i:=I.ge;rw[List.drop_length,XN,J4] at i;have qE:=qti (zu b) (zJ qe2 hl);by_cases Y:zu b=[]
  .rw[Y] at qE i;have hd:=I.gn i;subst hd;have vw:call cx 122 [.vsl true [] 0] []=some (.vsl true [] 0,[]):=(by simpa using qE);rw[Y];have O:qd T q=some (Zv b (.vsl true [] 0) (.bool true)):=(by rw[gT];rfl);simp[-qd,-qn,-qr,-qJ,-qO,R,Z,hT,gT,vw,Zc,jO];exact⟨I.ext.trans xT (NewL.refl _ _),rfl⟩
  .rw[if_neg Y,if_neg Y] at qE;subst i;have qQ:jO (zu b)≠[]:=fun h=>Y (by simpa[jO] using h);obtain⟨n,mG,w,aC,Q,N⟩:=I.gR.own qQ;have Yu:=qkE (zu b);have hm:mG=(zu b).length:=wC;subst hm;rw[Yu] at w;subst w;have aa:n∉[q]:=fun hc=>by have:=I.gN n (by rw[N];simp);have:=List.mem_singleton.1 hc;have:=qx hq;omega
   have ah:=xT.get Q aa;have ai:=qkF (zu b);have aj:=zfl ai;have zS:List.take (zu b).length (jO (zu b))=jO (zu b):=qH wC;have aI:=zfa ai
   have aD:∀x,x∈jO (zu b)->vFree x=true:=fun x hx=>by
    obtain⟨c,_,rfl⟩:=List.mem_map.1 hx;rfl
   have YY:q<T.length:=qx gT;have aH:n<T.length:=qx ah;have ax:q≠n:=fun hc=>aa (by rw[hc];simp);obtain⟨T2,kQ⟩:=ql (qn (jS T [n]) q [.vptr (qV (zD b) (qG b)),.vsl (decide (zC b=[])) (zg (zC b)) (zC b).length,.int .i64 ((XQ (zD b).l (qG b)).2:Nat),.vsl false (jO (zu b)) (zu b).length,.bool true]);have O:qd T2 q=some [.vptr (qV (zD b) (qG b)),.vsl (decide (zC b=[])) (zg (zC b)) (zC b).length,.int .i64 ((XQ (zD b).l (qG b)).2:Nat),.vsl false (jO (zu b)) (zu b).length,.bool true]:=(by rw[<-kQ];exact zj (by rw[QF];exact YY));obtain⟨K9,Xh⟩:∃K:qe,T2++[some (jO (zu b))]=K:=⟨_,rfl⟩;have ae:qr T2 (jO (zu b))=K9:=Xh;have x9:=zL ae;have g9:qd K9 T2.length=some (jO (zu b)):=(by rw[<-ae,zF]);have l9:=x9.len;simp[-qd,-qn,-qr,-qJ,-qO,-jS,R,Z,hT,gT,ah,Yu,aj,zS,qE,Zc,Y,j9,kQ,O,ax,Xh,g9];have aB:H.length<=n:=I.gN n (by rw[N];simp);have lH:=I.ext.len;have lT:=xT.len;have aG:T2.length=T.length:=(by rw[<-kQ,kL,QF]);refine⟨⟨by rw[QF];omega,fun j a hn=>?_⟩,?_⟩
   .rw[V8 wG,x9.out j wC wE,<-kQ,zV (by simpa using hn),V8 wG,xT.out j wC hn];exact I.ext.out j a hn
   .rw[V8 wG,x9.get O wE];rfl
def qiT(K:qe)(p:Nat)(b:List UInt8):Prop:=qd K p=some (Zv b (.vsl true [] 0) (.bool false))\/qd K p=some (Zv b (Zc (zu b)) (.bool true))
theorem q2l[MaxL]{H:qe}{q:Nat}{b:List UInt8}(k:qd H q=some (Zv b (Zc (zu b)) (.bool true)))(B:b.length<=1000000):∃T,call cx 72 [.optr q 5 0] H=some (Zc (zu b),T)/\Ext [q] H T/\qd T q=some (Zv b (Zc (zu b)) (.bool true)):=by
 have v:(zu b).length<=1000000:=zJ qe2 (zJ (qgQ b) B);have h:=qti (zu b) v;have i:=k;have y:=qkE (zu b);have d:=qkF (zu b);have g:=zfl d;have o:List.take (zu b).length (jO (zu b))=jO (zu b):=qH wC;have t:=zfa d
 have s:∀x,x∈jO (zu b)->vFree x=true:=fun x hx=>by
  obtain⟨c,_,rfl⟩:=List.mem_map.1 hx;rfl
 have w:q<H.length:=qx k
 suffices A:∃r,call cx 72 [.optr q 5 0] H=some r/\∃T:qe,r=(Zc (zu b),T)/\Ext [q] H T/\qd T q=some (Zv b (Zc (zu b)) (.bool true)) by
  obtain⟨r,hc,T,rfl,z⟩:=A;exact⟨T,hc,z⟩
 refine vx (X:=cx) (f:=72) _ Tryz.func72 rfl ⟨rfl,rfl⟩ ?_;by_cases a:zu b=[]
 .rw[a] at h;simp only[Zv,VR,Zc,a,jO,List.map_nil,kt,decide_true] at i;have p:call cx 122 [.vsl true [] 0] []=some (.vsl true [] 0,[]):=by simpa using h
  simp[-qd,-qn,-qr,-qJ,-qO,Tryz.f72,i,p,Zc,jO,a];exact⟨Ext.refl _ _,rfl⟩
 .rw[if_neg a,if_neg a] at h;simp only[Zv,VR,Zc,a,decide_false] at i;obtain⟨m,n⟩:∃K:qe,H++[some (jO (zu b))]=K:=⟨_,rfl⟩;have e:qr H (jO (zu b))=m:=n;have l:=zL e;have C:qd m H.length=some (jO (zu b)):=by rw[<-e,zF]
  have E:=l.len;simp[-qd,-qn,-qr,-qJ,-qO,-jS,Tryz.f72,i,y,g,o,h,Zc,a,j9,n,C];refine⟨⟨by rw[QF];omega,fun j u F=>by rw[V8 wG];exact l.out j u wE⟩,?_⟩;rw[V8 wG,l.get k wE];simp[Zc,a]
theorem q2k[MaxL]{H:qe}{q:Nat}{b:List UInt8}(a:qiT H q b)(f:b.length<=1000000):∃T,call cx 72 [.optr q 5 0] H=some (Zc (zu b),T)/\Ext [q] H T/\qiT T q b:=by
 rcases a with a|a
 .obtain⟨T,e,d,c⟩:=q2j (b:=b) (by rw[qum];exact a) f;exact⟨T,e,d,.inr c⟩
 .obtain⟨T,e,d,c⟩:=q2l a f;exact⟨T,e,d,.inr c⟩
theorem q4y[MaxL][TxtC]{H:qe}{q:Nat}{x:Sq}(h:qd H q=some x.c)(m:Mk):∃T,call cx 80 [.agg (Enc.cells m),.optr q 18 0] H=some (.bool (m.id==x.id),T)/\Ext [] H T:=by
 obtain⟨g,a⟩:=ql (qr H (Enc.cells m));have e:=zL a;have d:=js a;have f:=e.get h wE;have b:List.take 16 x.c=qf x.id.l:=by simp[Sq.c,VN]
 have i:=Sq.len x;refine⟨g,j6 Tryz.func80 rfl ⟨rfl,rfl⟩ ?_,e⟩;generalize x.c=B at *;simp only[Mk.cells] at a d;simp[-qd,-qr,Tryz.f80,Mk.cells,a,d,f,b,i]
theorem find?_any{α:Type}(p:α->Bool)(l:List α):(0<=find? p l 0)↔l.any p=true:=by
 rcases find?_spec p l 0 with⟨i,m,a,b,e,f,g⟩|⟨a,b⟩
 .rw[f];exact⟨fun _=>List.any_eq_true.2 ⟨m,j7 a,e⟩,fun _=>wC⟩
 .rw[a];refine⟨fun h=>wC,fun h=>?_⟩;obtain⟨m,c,d⟩:=List.any_eq_true.1 h;have:=List.find?_eq_none.1 b m c;exact absurd d this
theorem q5t[MaxL][TxtC](s:Sl Mk)(g:s.l.length<4611686018427387904){H:qe}{q:Nat}{x:Sq}(i:qd H q=some x.c):∃T,call cx 79 [(.vsl s.nil (qt s.l) s.l.length),.fn 80 [.optr q 18 0]] H=some (.bool (s.l.any fun m=>m.id==x.id),T)/\Ext [] H T:=by
 obtain⟨⟨r,T⟩,h,d,hx⟩:=qoL s g 80 [.optr q 18 0] (fun m=>m.id==x.id) (H:=H) rfl rfl rfl rfl (fun T f m _=>q4y (f.get i wE) m);simp only at d;subst d;have e:=find?_any (fun m:Mk=>m.id==x.id) s.l;refine⟨T,j6 Tryz.func79 rfl ⟨rfl,rfl⟩ ?_,hx⟩;cases a:s.l.any fun m=>m.id==x.id with
 |true=>
  have b:=e.2 a;simp[-qd,Tryz.f79,h,b]
 |false=>
  have b:¬0<=find? (fun m:Mk=>m.id==x.id) s.l 0:=fun h=>by rw[e.1 h] at a;cases a
  simp[-qd,Tryz.f79,h,b]
theorem quh{d:Nat}{x:Pl}:∀{l:List Pl}{k:Nat},l[k]?=some x->(∀(j:Nat)(z:Pl),l[j]?=some z->(j<k↔z.s<=d))->l.find? (fun x=>decide (d<x.s))=some x
 |[],k,a,_=>by simp at a
 |y::l,0,a,h=>by
  have c:=h 0 y rfl;simp only[Qb,qy] at a;subst a;have:d<y.s:=wC
  simp[this]
 |y::l,k+1,a,h=>by
  have c:=(h 0 y rfl).1 (Nat.succ_pos _);have:¬d<y.s:=wC
  simp only[List.find?_cons,decide_eq_false this];exact quh wZ fun j z b=>by have:=h (j+1) z wv;omega
theorem q0a[MaxL]{H:qe}{v:D}{q:SqF}{L:List Nat}{rf:D->Int->Rec}(ok:q.Ok rf)(o:RowF H v q.l L)(j:closed H.length v=true)(hc:∀x,x∈q.l->closed H.length x.f=true)(u:q.l.length<=1000000)(d:Nat)(y:d<18446744073709551616):
  ∃T,call cx 81 [.agg (VN q.id.l v q.t),.int .u64 (d:Nat)] H=some (.tup [.agg (kK q d).c,.bool (VQ q d)],T)/\Ext [] H T:=by
 obtain⟨⟨r,T⟩,p,hx,e,A,g,i,m⟩:=qzZ o j hc u ok.rise ok.lt q.id.l q.id.h q.t d ok.t y;simp only at i hx;refine⟨T,?_,hx⟩;rw[p,i];rcases m with⟨rfl,k,x,z,a,rfl,B⟩|⟨rfl,n,rfl,rfl⟩
 .have b:JA q d=some x:=quh z a;have w:g=x.s-1:=by omega
  unfold kK VQ Yf;rw[b,w];rfl
 .have b:JA q d=none:=List.find?_eq_none.2 fun x hx=>by have:=n x hx;simp;omega
  unfold kK VQ Yf;rw[b];rfl
structure SqsW [MaxL] (rf:D->Int->Rec) (H:qe) (l:List Sq) (qs:List SqF):Prop where
 len:l.length=qs.length
 n:qs.length<=1000
 m:∀q,q∈qs->q.l.length<=1000
 at_:∀(i:Nat)(x:Sq)(q:SqF),l[i]?=some x->qs[i]?=some q->x.id=q.id/\x.t=q.t/\closed H.length x.v=true/\∃L,RowF H x.v q.l L
 cl:∀q,q∈qs->∀p,p∈q.l->closed H.length p.f=true
 ok:∀q,q∈qs->q.Ok rf
 rc:∀q,q∈qs->∀p:Pl,p∈q.l->∀T,Ext [] H T->∃K,call cx 73 [p.f,.int .i64 (p.i:Nat)] T=some (.tup [.agg (Enc.cells (rf p.f p.i)),.int .i64 0],K)/\Ext [] T K
theorem RowF.ext{H T:qe}{v:D}{l:List Pl}{L:List Nat}(h:RowF H v l L)(x:Ext [] H T):RowF T v l L:=by
 rcases h with h|⟨p,st,cs,a,b,c⟩
 .exact .inl h
 .exact .inr ⟨p,st,cs,a,x.get b wE,c⟩
theorem SqsW.ext[MaxL]{rf:D->Int->Rec}{H T:qe}{l:List Sq}{qs:List SqF}(h:SqsW rf H l qs)(x:Ext [] H T):SqsW rf T l qs:=
 ⟨h.len,h.n,h.m,fun i a q e d=>by
  obtain⟨j,e2,k,L,g⟩:=h.at_ i a q e d;exact⟨j,e2,jr x.len _ k,L,g.ext x⟩,fun q c p b=>jr x.len _ (h.cl q c p b),h.ok,fun q c p b K f=>h.rc q c p b K (x.trans f (NewL.refl _ _))⟩
theorem qkd[MaxL]{rf:D->Int->Rec}{H:qe}{l:List Sq}{qs:List SqF}(h:SqsW rf H l qs){q:SqF}(b:q∈qs)(d:Nat):(kK q d).Ok H.length:=by
 unfold kK;cases a:JA q d with
 |none=>exact⟨q.id.h,rfl⟩
 |some x=>exact⟨q.id.h,h.cl q b x (qgk a).1⟩
theorem qo1[MaxL]{rf:D->Int->Rec}{H:qe}{l:List Sq}{qs:List SqF}(h:SqsW rf H l qs){M:List Mk}{ps:List SqF}(c:∀q,q∈ps->q∈qs):∀x,x∈ZP ps M->x.Ok H.length:=fun x hx=>by
 obtain⟨q,b,a⟩:=List.mem_filterMap.1 hx;unfold Vu at a;split at a
 .simp at a
 .split at a
  .injection a with a;rw[<-a];exact qkd h (c q b) _
  .simp at a
theorem q0m{qs:List SqF}{M:List Mk}{k:Nat}{q:SqF}(b:qs[k]?=some q):ZP (qs.take (k+1)) M=ZP (qs.take k) M++(Vu M q).toList:=by
 obtain⟨a,rfl⟩:=List.getElem?_eq_some_iff.1 b;unfold ZP;rw[Ky a,List.filterMap_append];cases h:Vu M qs[k]<;>simp[h]
theorem qaT(H:qe)(a b:List D):qn (qr H a) H.length b=qr H b:=by simp[qn,qr]
def Vw:It:=⟨ID.zero,false,0,0,qgc⟩
def qe4(rf:D->Int->Rec):Option NxV->D
 |none=>.tup [.agg (Enc.cells Vw),.bool false]
 |some x=>.tup [.agg (Enc.cells (Qh rf x)),.bool true]
def qiR(rf:D->Int->Rec)(H:qe)(o:Option NxV)(q:D×qe):Prop:=q.1=qe4 rf o/\Ext [] H q.2
def que(H:qe)(v:D)(s:Sl Mk)(qs:List SqF)(k:Nat)(e:qu)(K:qe):Prop:=
 k<=qs.length/\qi e 1=some (.vsl s.nil (qt s.l) s.l.length)/\qi e 4=some (.optr H.length 39 0)/\qi e 14=some v/\qi e 15=some (.int .i64 qs.length)/\qi e 16=some (.int .i64 k)/\Ext [] H K/\qd K H.length=some (Enc.cells Vw)/\
 ∃d L,qi e 6=some d/\RowA K 23 d (JV (ZP (qs.take k) s.l)) L/\∀j,j∈L->H.length<j
theorem qoO[MaxL]{rf:D->Int->Rec}{H:qe}{v:D}{l:List Sq}{qs:List SqF}{L:List Nat}(hr:RowA H 18 v (vc l) L)(W:SqsW rf H l qs)(s:Sl Mk)(hs:MOk s.l):
  ∃q,call cx 34 [v,(.vsl s.nil (qt s.l) s.l.length)] H=some q/\qiR rf H (V6 qs s.l) q:=by
 refine vx (X:=cx) (f:=34) (qiR rf H (V6 qs s.l)) Tryz.func34 rfl ⟨rfl,rfl⟩ ?_;have I:=Kt l;have bp:=W.len;have bq:=W.n
 have aZ:qO Tryz.prog 92 v=some (.int .i64 qs.length):=by
  rcases hr with⟨rfl,h0,-⟩|⟨p,k,rfl,h1,-,-⟩
  .rw[h0] at I;have:qs.length=0:=(by simp at I;omega);simp[this]
  .have:k=qs.length:=wC;simp[this]
 have hZ:(Enc.cells Vw:List D)=(qI (.bool false::VF (.int .u64 0::qI [.vsl true [] 0]))):=rfl;obtain⟨K0,vB⟩:=ql (qr H (Enc.cells Vw));have x0:=zL vB;have g0:=js vB;rw[hZ] at vB;simp[-qd,-qn,-qr,-qJ,-qO,Tryz.f34,vB,aZ];refine Vv (que H v s qs) (fun i=>qs.length-i) 0 (fun ex e K=>ex=.exit 0/\que H v s qs qs.length e K) ?_ ?_ ?_
 .exact⟨vp _,wE,wE,wE,wE,wE,x0,g0,.vsl true [] 0,[],wE,RowA.nil _ _,fun j hj=>by simp at hj⟩
 .rintro k e K ⟨hk,p1,p4,A,F,J,x,S,d,La,p6,hR,hL⟩;by_cases qg:k<qs.length
  case neg=>
   have qo:=zw qg;have bh:k=qs.length:=wC;subst bh;simp[-qd,-qn,-qr,-qJ,-qO,p1,p4,p6,A,F,J,qo];exact⟨qA _,wE,wE,wE,wE,wE,x,S,d,La,wE,hR,hL⟩
  have qo:=zq qg;have wk:=qz ((k:Int)+1) ((k+1:Nat):Int);obtain⟨q,ae⟩:∃q,qs[k]?=some q:=⟨_,qM qg⟩;obtain⟨y,aD⟩:∃y,l[k]?=some y:=⟨_,qM wC⟩;have u:=j7 ae;have W1:=W.ext x;obtain⟨e1,e2,e3,L1,e4⟩:=W1.at_ k y q aD ae;have ey:=qlp aD;have bj:=hr.ext x (fun _ _=>wE);have qQ:vc l≠[]:=fun h0=>by rw[h0] at I;simp at I;omega
  obtain⟨p,n,rfl,ve,ah,-⟩:=bj.own qQ;have zB:n=l.length:=wC
  subst zB;obtain⟨C,hC⟩:=ql (vc l);rw[hC] at I ey ah A ve;have yl:=Sq.len y
  have aW:y.c.all (closed K.length)=true:=by
   simp only[Sq.c,VN,List.all_append,qlD,Va,List.all_nil,e3];rfl
  have G:∀n,K.length<=n->(∀x,x∈y.c->closed n x=true)=True:=fun n hn=>eq_true fun x hx=>jr hn _ (List.all_eq_true.1 aW x hx);have aa:∀a,K.length<=(qr K a).length:=fun a=>by rw[jb];omega
  have b1:k*18+18<=18*l.length:=wC
  have b2:18<=18*l.length-k*18:=wC
  have aO:List.take 16 y.c=qf q.id.l:=by simp[Sq.c,VN,e1]
  have yc:y.c=VN q.id.l y.v q.t:=by unfold Sq.c;rw[e1,e2]
  obtain⟨K1,jx⟩:=ql (qr K y.c);have x1:=zL jx;have g1:=js jx;obtain⟨K2,Q6,x2⟩:=q5t s (by have:=hs.len;omega) g1;have aQ:(s.l.any fun m=>m.id==y.id)=vl s.l q.id:=by rw[e1];rfl
  rw[aQ] at Q6;have N:qO Tryz.prog 32 (.vsl s.nil (qt s.l) s.l.length)=some (.int .i64 s.l.length):=wE
  have ay:k<l.length:=wC
  have U:=q0m (M:=s.l) ae
  have key:∀E,Ext [] K E->qd E K.length=some y.c->∃T,call cx 81 [.agg y.c,.int .u64 (vE s.l q:Nat)] E=some (.tup [.agg (kK q (vE s.l q)).c,.bool (VQ q (vE s.l q))],T)/\Ext [] E T:=fun E x3 g3=>by
   have W3:=W1.ext x3;obtain⟨-,-,f3,L3,f4⟩:=W3.at_ k y q aD ae;rw[yc];exact q0a (W3.ok q u) f4 f3 (W3.cl q u) (by have:=W3.m q u;omega) _ (qxu hs q)
  have jF:=qt8 s (by have:=hs.len;omega) q.id;have aG:=qmK hs q;obtain⟨gm,bg⟩:=ql (vn s.l q.id);rw[bg] at jF aG;have w:=NxV.cl (qkd W1 u (vE s.l q));have Y:=NxV.len (qkd W1 u (vE s.l q));by_cases JI:qee s.l q=true
  .have jg:Vu s.l q=none:=(by unfold Vu;rw[if_pos JI]);unfold qee at JI;rw[zY,decide_eq_true_eq,Bool.not_eq_true'] at JI;obtain⟨z,hh⟩:=JI;rw[hh,z] at Q6;rw[z] at N;rw[jg,Option.toList_none,J4] at U;simp[-qd,-qn,-qr,-qJ,-qO,p1,p4,p6,A,F,J,qo,ay,ah,I,ey,b2,yl,G,aa,zF,qaT,jx,Q6,N,z,wk];exact⟨k+1,wC,wC,by simp[z],wE,by simp[hC,I],wE,wE,(x.trans x1 (NewL.refl _ _)).trans x2 (NewL.refl _ _),x2.get (x1.get S wE) wE,d,La,wE,by rw[U];exact(hR.ext x1 (fun _ _=>wE)).ext x2 (fun _ _=>wE),hL⟩
  obtain⟨E,x3,g3,bk⟩:∃E,Ext [] K E/\qd E K.length=some y.c/\(s.l.length=4/\vl s.l q.id=true/\E=K2\/¬s.l.length=4/\E=K1):=by
   by_cases z:s.l.length=4
   .refine⟨K2,x1.trans x2 (NewL.refl _ _),x2.get g1 wE,.inl ⟨z,?_,rfl⟩⟩;unfold qee at JI;cases hh:vl s.l q.id with
    |true=>rfl
    |false=>exact absurd (by simp[z,hh]) JI
   .exact⟨K1,x1,g1,.inr ⟨z,rfl⟩⟩
  obtain⟨T,YZ,xT⟩:=key E x3 g3;have gT:=xT.get g3 wE;have hT:T.length≠0:=by have:=qx gT;omega
  obtain⟨V,hV⟩:=ql ((kK q (vE s.l q)).c);rw[hV] at YZ w Y;have av:∀(n:Nat),K.length<=n->(∀x,x∈V->closed n x=true)=True:=fun n hn=>eq_true fun x hx=>jr hn _ (List.all_eq_true.1 w x hx);have ag:Ext [] K T:=x3.trans xT (NewL.refl _ _);have au:List.take 18 y.c=y.c:=qH wC;have ao:List.take 23 V=V:=qH wC;have g:∀a,K.length<=(qr T a).length:=fun a=>by rw[jb];have:=ag.len;omega
  obtain⟨T2,Z⟩:=ql (qr T V);have y2:=zL Z;have i2:qd T2 T.length=some V:=by rw[<-Z,zF]
  obtain⟨T3,Y2⟩:=ql (qr T2 V);have y3:=zL Y2;have i3:qd T3 T2.length=some V:=by rw[<-Y2,zF]
  have ai:Ext [] K T3:=(ag.trans y2 (NewL.refl _ _)).trans y3 (NewL.refl _ _);have bm:=zJ ag.len y2.len;have Q:=qi0 (qo1 W (M:=s.l) (ps:=qs.take k) fun q hq=>QX hq)
  have bo:(ZP (qs.take k) s.l).length<=k:=by
   refine zJ (List.length_filterMap_le _ _) ?_;rw[jc];omega
  obtain⟨d',T4,L',hA,aX,y4,bc⟩:=(hR.ext ai (fun _ _=>wE)).append (P:=Tryz.prog) (st:=167) (xt:=167) (e:=171) (x:=.osl T2.length 23 0 1 23) (xs:=V) (m:=1) wE wE (by simp[-qd,i3,Y,ao]) wE wC wC wC (by rw[Q];simp[qF];omega) (by rw[Q];simp[qF];omega);have hH:H.length<K.length:=by have:=qx S;omega
  have aM:T2≠[]:=fun e0=>by rw[e0] at i2;simp[qd] at i2
  rcases bk with⟨z,hh,rfl⟩|⟨z,rfl⟩
  case' inl=>
   rw[hh,z] at Q6;rw[z] at N jF;have h5:=z
  case' inr=>
   have h5:¬(s.l.length:Int)=4:=wC
  all_goals
   cases hi:VQ q (vE s.l q) with
   |true=>
    rw[hi] at YZ;simp[-qd,-qn,-qr,-qJ,-qO,p1,p4,p6,A,F,J,qo,ay,ah,I,ey,b2,yl,G,aa,zF,qaT,jx,Q6,N,h5,wk,g1,g3,aO,jF,aG,au,YZ,Mk.cells,Y,av,g,Z,i2,ao,Y2,hA,aM];have jg:Vu s.l q=some (kK q (vE s.l q)):=(by unfold Vu;rw[if_neg JI,if_pos hi]);refine⟨k+1,wC,wC,by simp[h5],wE,by simp[hC,I],wE,wE,(x.trans ai (NewL.refl _ _)).trans y4 (fun j hj=>.inr (qfJ (hL j hj))),y4.get (ai.get S wE) (fun hc=>by have:=hL _ hc;omega),d',L',wE,?_,fun j hj=>?_⟩
    .rw[U,jg,Option.toList_some];have:JV (ZP (qs.take k) s.l++[kK q (vE s.l q)])=JV (ZP (qs.take k) s.l)++V:=(by simp[JV,hV]);rw[this];exact aX
    .rcases bc j hj with h6|h6
     .exact hL j h6
     .have:=ai.len;omega
   |false=>
    rw[hi] at YZ;simp[-qd,-qn,-qr,-qJ,-qO,p1,p4,p6,A,F,J,qo,ay,ah,I,ey,b2,yl,G,aa,zF,qaT,jx,Q6,N,h5,wk,g1,g3,aO,jF,aG,au,YZ,Mk.cells,Y,av,g,Z];have jg:Vu s.l q=none:=(by unfold Vu;rw[if_neg JI,if_neg (by rw[hi];simp)]);have aJ:Ext [] K T2:=ag.trans y2 (NewL.refl _ _);exact⟨k+1,wC,wC,by simp[h5],wE,by simp[hC,I],wE,wE,x.trans aJ (NewL.refl _ _),aJ.get S wE,d,La,wE,by rw[U,jg,Option.toList_none,J4];exact hR.ext aJ (fun _ _=>wE),hL⟩
 .rintro ex e K ⟨rfl,-,p1,p4,A,F,J,x,S,d,La,p6,hR,hL⟩;rw[List.take_length] at hR;have W1:=W.ext x;have w:=qo1 W1 (M:=s.l) (ps:=qs) fun q hq=>hq;have Q:=qi0 w;have lH:H.length<K.length:=qx S;have lZ:(Enc.cells Vw:List D).length=39:=by simp
  have jv:qO Tryz.prog 167 d=some (.int .i64 (ZP qs s.l).length):=by
   rcases hR with⟨rfl,h0,-⟩|⟨r,n,rfl,h1,-,-⟩
   .rw[h0] at Q;have:(ZP qs s.l).length=0:=(by simp at Q;omega);rw[this];simp
   .have:n=(ZP qs s.l).length:=wC;rw[this];simp
  have aa:∀a,K.length<=(qr K a).length:=fun a=>by rw[jb];omega
  have O:qn K H.length (Enc.cells Vw)=K:=qdl S;have aP:=S;rw[hZ] at O aP;unfold V6;cases hN:ZP qs s.l with
  |nil=>
   rw[hN] at jv;simp only[kt] at jv;simp[-qd,-qn,-qr,-qJ,-qO,p4,p6,jv,aP,O];exact⟨rfl,x⟩
  |cons x0 r=>
   rw[hN] at hR jv w Q;obtain⟨n,hn⟩:∃n,n=(x0::r).length:=⟨_,rfl⟩;rw[<-hn] at jv Q;have kM:¬n=0:=(by rw[hn];simp);have bn:¬(n:Int)=0:=wC;obtain⟨p,n2,rfl,h1,hp,-⟩:=hR.own (fun h0=>by rw[h0] at Q;simp at Q;omega);have jQ:n2=n:=wC;subst jQ;obtain⟨⟨m,T⟩,aj,xT,hm⟩:=q0C hp w (by have h3:=congrArg List.length hN;have z:=List.length_filterMap_le (Vu s.l) qs;unfold ZP at h3;simp only[jJ] at h3;omega);simp only at hm xT;subst hm;rw[Q] at p6 jv;rw[<-hn] at aj;obtain⟨b,hb⟩:=ql (ZR x0 r);have ob:=w b (hb▸qhC r x0);rw[hb] at aj;have lb:=NxV.len ob;have li:=ob.id;have cb:∀n,K.length<=n->(∀x,x∈b.c->closed n x=true)=True:=fun n hn=>eq_true fun x hx=>jr hn _ (List.all_eq_true.1 (NxV.cl ob) x hx);have g:∀a,K.length<=(qr T a).length:=fun a=>by rw[jb];have:=xT.len;omega
   obtain⟨T2,Z⟩:=ql (qr T b.c);have y2:=zL Z;have i2:qd T2 T.length=some b.c:=(by rw[<-Z,zF]);have aC:=y2.get (xT.get S wE) wE;have aE:Ext [] H T2:=(x.trans xT (NewL.refl _ _)).trans y2 (NewL.refl _ _);have c0:List.take 16 b.c=qf b.id:=(by simp[NxV.c,KH,li]);have bf:List.drop 18 b.c=b.f:: .int .i64 b.i:: .bool b.th::[.int .u64 (b.fr:Nat),.int .u64 (b.tt:Nat)]:=yG;have aY:List.drop 19 b.c=.int .i64 b.i:: .bool b.th::[.int .u64 (b.fr:Nat),.int .u64 (b.tt:Nat)]:=yG;have aN:List.drop 21 b.c=[.int .u64 (b.fr:Nat),.int .u64 (b.tt:Nat)]:=yG;have aU:List.drop 22 b.c=[.int .u64 (b.tt:Nat)]:=yG;have bb:H.length<T2.length:=qx aC;have am:=aC;rw[hZ] at am;have aT:(qet b.id).l=b.id:=(by unfold qet;rw[dif_pos li]);obtain⟨k0,k1,k2,k3,k4,k5,k6,k7,k8,k9,ax,aH,az,aA,aI,aB,QS⟩:=qhZ b.id li;have aK:qf b.id=(qay k0 k1 k2 k3 k4 k5 k6 k7 k8 k9 ax aH az aA aI aB []):=(by rw[QS];rfl);rw[aK] at c0;by_cases B:0<b.fr
   .have aS:(0:Int)<(b.fr:Int):=by omega
    have aF:(Enc.cells (Qh rf b):List D)=(qay k0 k1 k2 k3 k4 k5 k6 k7 k8 k9 ax aH az aA aI aB (.bool true::.int .u64 (b.fr:Nat)::.int .u64 (b.tt:Nat)::.int .u64 0::.int .u64 0::.int .u64 0::qI [.vsl true [] 0])):=by
     unfold Qh;rw[if_pos B,It.cells,aT,aK];rfl
    obtain⟨T3,Y2⟩:=ql (qn T2 H.length (Enc.cells (Qh rf b)));have i3:qd T3 H.length=some (Enc.cells (Qh rf b)):=(by rw[<-Y2];exact zj bb);have y3:=vZ Y2;have h:qiR rf H (qhB (x0::r)) (.tup [.agg (Enc.cells (Qh rf b)),.bool true],T3):=⟨by show _=qe4 rf (some (ZR x0 r));rw[hb];rfl,aE.trans y3 (fun j hj=>.inr (Nat.le_of_eq (List.mem_singleton.1 hj).symm))⟩;rw[aF] at Y2 i3 h;simp[-qd,-qn,-qr,-qJ,-qO,p4,p6,jv,kM,aj,cb,g,zF,qaT,lb,Z,i2,c0,aN,aU,B,am,Y2,i3];exact h
   .have aS:¬(0:Int)<(b.fr:Int):=wC;obtain⟨q,u,-,ak,o⟩:=qlb (l:=qs) (M:=s.l) (x:=b) (by unfold V6;rw[hN];exact congrArg some hb)
    obtain⟨pl,Ql,hf,hi⟩:∃pl:Pl,pl∈q.l/\b.f=pl.f/\b.i=(pl.i:Int):=by
     cases hx:JA q (vE s.l q) with
     |none=>
      exfalso;unfold VQ Yf at ak;unfold kK at o;rw[hx] at ak o;simp only[Option.isSome_none,Bool.false_or,decide_eq_true_eq] at ak;simp only[if_pos ak] at o;rw[o] at B;exact B (Nat.succ_pos _)
     |some pl=>
      unfold kK at o;rw[hx] at o;exact⟨pl,(qgk hx).1,by rw[o],by rw[o]⟩
    obtain⟨T3,Vf,y3⟩:=W.rc q u pl Ql T2 aE;rw[<-hf,<-hi] at Vf
    have aF:(Enc.cells (Qh rf b):List D)=.int .u8 (k0.toNat:Int):: .int .u8 (k1.toNat:Int):: .int .u8 (k2.toNat:Int):: .int .u8 (k3.toNat:Int):: .int .u8 (k4.toNat:Int):: .int .u8 (k5.toNat:Int):: .int .u8 (k6.toNat:Int):: .int .u8 (k7.toNat:Int):: .int .u8 (k8.toNat:Int):: .int .u8 (k9.toNat:Int):: .int .u8 (ax.toNat:Int):: .int .u8 (aH.toNat:Int):: .int .u8 (az.toNat:Int):: .int .u8 (aA.toNat:Int):: .int .u8 (aI.toNat:Int):: .int .u8 (aB.toNat:Int):: .bool false:: .int .u64 0:: .int .u64 0::Enc.cells (rf b.f b.i):=by
     unfold Qh;rw[if_neg B,It.cells,aT,aK,Rec.cells];rfl
    have lr:(Enc.cells (rf b.f b.i):List D).length=20:=wE;have fR:idFree.idFreeL (Enc.cells (rf b.f b.i):List D)=true:=wE;have cr:∀n,(∀x,x∈(Enc.cells (rf b.f b.i):List D)->closed n x=true)=True:=fun n=>eq_true fun x hx=>VU x (List.all_eq_true.1 (Enc.free _) x hx);generalize (Enc.cells (rf b.f b.i):List D)=R at *;have ba:=y3.get aC wE;have i3:=y3.get i2 wE;have tR:List.take 20 R=R:=qH wC;obtain⟨T4,aw⟩:=ql (qr T3 R);have y4:=zL aw;have i4:=js aw;have aR:=y4.get ba wE;have aV:=y4.get i3 wE;have aL:H.length<T4.length:=qx aR;have aq:=aR;rw[hZ] at aq;have dR:List.drop 20 R=[]:=List.drop_of_length_le wC;obtain⟨T5,ac⟩:=ql (qn T4 H.length (Enc.cells (Qh rf b)));have i5:qd T5 H.length=some (Enc.cells (Qh rf b)):=(by rw[<-ac];exact zj aL);have y5:=vZ ac;have h:qiR rf H (qhB (x0::r)) (.tup [.agg (Enc.cells (Qh rf b)),.bool true],T5):=⟨by show _=qe4 rf (some (ZR x0 r));rw[hb];rfl,((aE.trans y3 (NewL.refl _ _)).trans y4 (NewL.refl _ _)).trans y5 (fun j hj=>.inr (Nat.le_of_eq (List.mem_singleton.1 hj).symm))⟩;rw[aF] at ac i5 h;simp[-qd,-qn,-qr,-qJ,-qO,p4,p6,jv,kM,aj,cb,g,zF,qaT,lb,Z,i2,c0,bf,aY,aN,B,Vf,cr,lr,tR,aw,i4,aV,aq,ac,i5,fR];exact h
structure FisW (n0:Nat) (K:qe) (fs:List (Nat×List UInt8)):Prop where
 w:∀f,f∈fs->qiT K f.1 f.2
 lt:∀f,f∈fs->f.1<n0
 len:∀f,f∈fs->f.2.length<=1000000
 uni:∀f g,f∈fs->g∈fs->f.1=g.1->f=g
theorem FisW.ext{n0:Nat}{K T:qe}{fs:List (Nat×List UInt8)}(h:FisW n0 K fs){M:List Nat}(x:Ext M K T)(d:∀n,n∈M->n0<=n):FisW n0 T fs:=
 ⟨fun f b=>by
  have e:=h.lt f b;have c:f.1∉M:=fun hc=>by have:=d _ hc;omega
  rcases h.w f b with a|a
  .exact .inl (x.get a c)
  .exact .inr (x.get a c),h.lt,h.len,h.uni⟩
theorem FisW.good[MaxL]{n0:Nat}{K T:qe}{fs:List (Nat×List UInt8)}(h:FisW n0 K fs){f:Nat×List UInt8}(e:f∈fs)(x:Ext [f.1] K T)(i:qiT T f.1 f.2):FisW n0 T fs:=
 ⟨fun g a=>by
  by_cases c:f.1=g.1
  .have:=h.uni f g e a c;subst this;exact i
  .have d:g.1∉[f.1]:=fun hc=>c (List.mem_singleton.1 hc).symm;rcases h.w g a with b|b
   .exact .inl (x.get b d)
   .exact .inr (x.get b d),h.lt,h.len,h.uni⟩
structure FdsW (H:qe) (lD:D) (C:List D) (fs:List (Nat×List UInt8)):Prop where
 row:RowA H 21 lD C (zy lD)
 len:C.length=fs.length*21
 cl:∀x,x∈C->closed H.length x=true
 at_:∀(i:Nat)(f:Nat×List UInt8),fs[i]?=some f->C[i*21+20]?=some (.optr f.1 5 0)
 nm:∀n,n∈zy lD->n∉fs.map (·.1)
theorem q0p(qs:List SqF)(a:ID):(kA qs a).length<=qs.length+1:=by
 unfold kA;split<;>simp
theorem qio:∀(fs:List (Nat×List UInt8))(qs:List SqF),(fs.foldl vY qs).length<=qs.length+fs.length
 |[],qs=>by simp
 |f::fs,qs=>by
  have:=qio fs (vY qs f);have:=q0p qs (qG f.2).seq;simp only[List.foldl_cons,jJ];unfold vY at *;simp only[List.length_map] at *;omega
theorem qkf{qs:List SqF}{a:ID}{q:SqF}(h:q∈kA qs a):q∈qs\/q.l=[]:=by
 unfold kA at h;split at h
 .exact .inl h
 .rcases List.mem_append.1 h with h|h
  .exact .inl h
  .rw[List.mem_singleton.1 h];exact .inr rfl
theorem qnR(p:Nat)(b:List UInt8):(Vd p b).length=(zu b).length:=by simp[Vd]
theorem qim{N:Nat}:∀(fs:List (Nat×List UInt8))(qs:List SqF)(m:Nat),(∀f,f∈fs->(zu f.2).length<=N)->(∀q,q∈qs->q.l.length<=m)->∀q,q∈fs.foldl vY qs->q.l.length<=m+fs.length*N
 |[],qs,m,_,h,q,c=>by simpa using h q c
 |f::fs,qs,m,i,h,q,c=>by
  have:=qim fs (vY qs f) (m+N) (fun g j=>i g (vy _ j)) (fun r e=>by
   unfold vY at e;obtain⟨d,b,rfl⟩:=List.mem_map.1 e
   have k:d.l.length<=m:=by
    rcases qkf b with a|a
    .exact h d a
    .rw[a];exact vp _
   split
   .have:=i f wE;simp only[YC,zo,qnR];omega
   .omega) q c
  simp only[jJ,ZH];omega
theorem qlr{l:List Sq}{j k:Nat}{x:Sq}{d:D}(e:l[j]?=some x)(i:k<18)(a:x.c[k]?=some d):(vc l).drop (j*18+k)=d::(vc l).drop (j*18+(k+1)):=by
 have g:=qlp e
 have f:(vc l)[j*18+k]?=some d:=by
  rw[<-g,List.getElem?_take_of_lt i,Qa] at a;exact a
 obtain⟨b,h⟩:=List.getElem?_eq_some_iff.1 f;rw[jo b,h];rfl
theorem Sq.g16(x:Sq):x.c[16]?=some x.v:=by
 unfold Sq.c VN;rw[jl wE];simp
theorem Sq.g17(x:Sq):x.c[17]?=some (.int .u64 (x.t:Nat)):=by
 unfold Sq.c VN;rw[jl wE];simp
theorem qj1{C a:List D}{n:Nat}{d:D}(h:n<C.length)(b:C.set n d=a):List.take n C++d::List.drop (n+1) C=a:=by
 rw[<-b,qgU,if_pos h]
theorem qph{α:Type}{P:Nat->α->Prop}:∀n,(∀k,k<n->∃q,P k q)->∃qs:List α,qs.length=n/\∀k q,qs[k]?=some q->P k q
 |0,_=>⟨[],rfl,fun k q h=>wP⟩
 |n+1,h=>by
  obtain⟨qs,d,c⟩:=qph n fun k f=>h k wC;obtain⟨q,e⟩:=h n wC;refine⟨qs++[q],xR,fun k p a=>?_⟩;rw[List.getElem?_append] at a;split at a
  .exact c k p a
  .have b:=(List.getElem?_eq_some_iff.1 a).1;simp only[List.length_singleton] at b;have:k=n:=wC;subst this;rw[show k-qs.length=0 from wC] at a;simp only[Qb,qy] at a;exact a▸e
structure SrW (n0:Nat) (K:qe) (oD:D) (l:List Sq) (us:List SqF) (i:Nat):Prop where
 oR:RowA K 18 oD (vc l) (zy oD)
 oN:∀n,n∈zy oD->n0<=n
 len:l.length=us.length
 at_:∀(k:Nat)(x:Sq)(u:SqF),l[k]?=some x->us[k]?=some u->x.id=u.id/\x.t=u.t/\(k<i->∃W,StS u.l W/\RowF K x.v (dd W) (zy x.v))/\(i<=k->RowA K 4 x.v (qW u.l) (zy x.v))
 rN:∀(k:Nat)(x:Sq),l[k]?=some x->∀n,n∈zy x.v->n0<=n/\n∉zy oD
 dj:∀(i j:Nat)(x y:Sq),l[i]?=some x->l[j]?=some y->i≠j->∀n,n∈zy x.v->n∉zy y.v
theorem RowF.extM{H T:qe}{v:D}{l:List Pl}{L M:List Nat}(h:RowF H v l L)(x:Ext M H T)(g:∀n,n∈L->n∉M):RowF T v l L:=by
 rcases h with h|⟨p,st,cs,a,b,c,d,e,f⟩
 .exact .inl h
 .exact .inr ⟨p,st,cs,a,x.get b (g p (by rw[f];simp)),c,d,e,f⟩
theorem RowF.vcl{H:qe}{v:D}{l:List Pl}{L:List Nat}(h:RowF H v l L):closed H.length v=true:=by
 rcases h with⟨rfl,_,_⟩|⟨p,st,cs,rfl,b,_⟩
 .rfl
 .exact decide_eq_true (qx b)
theorem SrW.step{n0:Nat}{K T:qe}{oD:D}{l:List Sq}{us:List SqF}{i:Nat}(h:SrW n0 K oD l us i){x y:Sq}{u:SqF}(hx:l[i]?=some x)(A:us[i]?=some u)(F:RowA T 18 oD (vc (l.set i y)) (zy oD)){M:List Nat}(s:Ext M K T)(O:∀n,n∈M->n∈zy oD\/n∈zy x.v)
  (J:y.id=x.id) (e2:y.t=x.t) {W:List Pl} (I:StS u.l W) (G:RowF T y.v (dd W) (zy y.v)) (g:∀n,n∈zy y.v->n∈zy x.v):SrW n0 T oD (l.set i y) us (i+1):=by
 have Q:=(List.getElem?_eq_some_iff.1 hx).1
 have b:∀{k:Nat}{z:Sq},(l.set i y)[k]?=some z->(k=i/\z=y)\/(i≠k/\l[k]?=some z):=fun{k z} hi=>by
  rw[List.getElem?_set] at hi;split at hi
  .rename_i e;subst e;simp only[qy] at hi;exact .inl ⟨rfl,hi.symm⟩
  .rename_i e;exact .inr ⟨e,hi⟩
 refine⟨F,h.oN,by simp[h.len],fun k z w a d=>?_,fun k z a n f=>?_,fun j k z w a d m n f=>?_⟩
 .rcases b a with⟨rfl,rfl⟩|⟨c,a⟩
  .rw[A] at d;injection d with d;subst d;obtain⟨q,o,-,-⟩:=h.at_ k x u hx A;exact⟨J.trans q,e2.trans o,fun _=>⟨W,I,G⟩,fun hc=>wC⟩
  .obtain⟨q,o,P,L⟩:=h.at_ k z w a d
   have C:∀n,n∈zy z.v->n∉M:=fun n g hc=>by
    rcases O n hc with r|r
    .exact(h.rN k z a n g).2 r
    .exact h.dj k i z x a hx (Ne.symm c) n g r
   refine⟨q,o,fun E=>?_,fun E=>(L wC).ext s C⟩;obtain⟨V,N,H⟩:=P wC;exact⟨V,N,H.extM s C⟩
 .rcases b a with⟨rfl,rfl⟩|⟨c,a⟩
  .exact h.rN k x hx n (g n f)
  .exact h.rN k z a n f
 .rcases b a with⟨rfl,rfl⟩|⟨R,B⟩
  .rcases b d with⟨rfl,rfl⟩|⟨c,p⟩
   .exact absurd rfl m
   .exact h.dj j k x w hx p c n (g n f)
  .rcases b d with⟨rfl,rfl⟩|⟨c,p⟩
   .exact fun hc=>h.dj j k z x B hx m n f (g n hc)
   .exact h.dj j k z w B p m n f
theorem RowF.nm{H:qe}{v:D}{l:List Pl}{L:List Nat}(h:RowF H v l L):L=zy v:=by
 rcases h with⟨rfl,_,rfl⟩|⟨p,st,cs,rfl,_,_,_,_,rfl⟩<;>rfl
theorem qin:∀(fs:List (Nat×List UInt8))(qs:List SqF)(q:SqF)(x:Pl),q∈fs.foldl vY qs->x∈q.l->(∃q',q'∈qs/\x∈q'.l)\/∃f,f∈fs/\∃i,i∈zu f.2/\x=J9 f.1 f.2 i
 |[],qs,q,x,e,hx=>.inl ⟨q,e,hx⟩
 |f::fs,qs,q,x,e,hx=>by
  rcases qin fs (vY qs f) q x e hx with⟨q',c,b⟩|⟨g,c,b⟩
  .unfold vY at c;obtain⟨r,h,rfl⟩:=List.mem_map.1 c
   have a:x∈r.l\/x∈Vd f.1 f.2:=by
    split at b
    .exact List.mem_append.1 b
    .exact .inl b
   rcases a with a|a
   .rcases qkf h with d|d
    .exact .inl ⟨r,d,a⟩
    .rw[d] at a;simp at a
   .obtain⟨i,hi,rfl⟩:=List.mem_map.1 a;exact .inr ⟨f,wE,i,hi,rfl⟩
  .exact .inr ⟨g,vy _ c,b⟩
theorem qvl[MaxL](H:qe)(v:D)(a:qO Tryz.prog 152 v=some (.int .i64 0)):call cx 77 [v,.fn 78 []] H=some (v,H):=by
 refine j6 Tryz.func77 rfl ⟨rfl,rfl⟩ ?_;simp[-qd,-qO,Tryz.f77,a]
def srI(H:qe)(oD:D)(fs:List (Nat×List UInt8))(i:Nat)(e:qu)(K:qe):Prop:=
 i<=(zW fs).length/\qi e 3=some oD/\qi e 85=some (.int .i64 (zW fs).length)/\qi e 86=some (.int .i64 i)/\Ext (fs.map (·.1)) H K/\FisW H.length K fs/\∃l,SrW H.length K oD l (zW fs) i
def rdJ(H:qe)(b oD:D)(fs:List (Nat×List UInt8))(i j a c n:Nat)(B:List D)(f:Nat×List UInt8)(qs:List SqF)(q:SqF)(k:Nat)(e:qu)(K:qe):Prop:=
 k<=(zu f.2).length/\qi e 3=some oD/\qi e 5=some (.optr a 21 0)/\qi e 8=some (.optr c (18*n) (j*18))/\qi e 15=some b/\qi e 16=some (.int .i64 fs.length)/\qi e 17=some (.int .i64 i)/\qi e 52=some (Zc (zu f.2))/\qi e 53=some (.int .i64 (zu f.2).length)/\qi e 54=some (.int .i64 k)/\
 Ext (fs.map (·.1)) H K/\FisW H.length K fs/\qd K a=some B/\∃l y,RdW H.length K oD l (qs.set j ⟨q.id,q.l++(Vd f.1 f.2).take k,q.t⟩)/\l[j]?=some y/\l.length=n/\∀z,z∈l->a∉zy z.v
def rdI(H:qe)(a:D)(fs:List (Nat×List UInt8))(i:Nat)(e:qu)(K:qe):Prop:=
 i<=fs.length/\qi e 15=some a/\qi e 16=some (.int .i64 fs.length)/\qi e 17=some (.int .i64 i)/\Ext (fs.map (·.1)) H K/\FisW H.length K fs/\∃oD l,qi e 3=some oD/\RdW H.length K oD l (zW (fs.take i))
def qcA(us qs:List SqF):Prop:=us.length=qs.length/\∀(i:Nat)(u q:SqF),us[i]?=some u->qs[i]?=some q->u.id=q.id/\u.t=q.t/\∃W,StS u.l W/\q.l=dd W
def qvV(H:qe)(fs:List (Nat×List UInt8))(q:D×qe):Prop:=
 ∃l qs L,RowA q.2 18 q.1 (vc l) L/\Ext (fs.map (·.1)) H q.2/\FisW H.length q.2 fs/\l.length=qs.length/\qcA (zW fs) qs/\∀(i:Nat)(x:Sq)(p:SqF),l[i]?=some x->qs[i]?=some p->x.id=p.id/\x.t=p.t/\closed q.2.length x.v=true/\∃L,RowF q.2 x.v p.l L
theorem qoE[MaxL]{H:qe}{lD:D}{C:List D}{fs:List (Nat×List UInt8)}(F:FdsW H lD C fs)(W:FisW H.length H fs)(Zt:fs.length<=1000)(YX:∀u,u∈zW fs->u.l.length<40):
  ∃q,call cx 33 [lD] H=some q/\qvV H fs q:=by
 refine vx (X:=cx) (f:=33) (qvV H fs) Tryz.func33 rfl ⟨rfl,rfl⟩ ?_
 have aT:qO Tryz.prog 28 lD=some (.int .i64 fs.length):=by
  have hl:=F.len;rcases F.row with⟨h,h0,-⟩|⟨p,k,h,h1,-,-⟩
  .rw[h0] at hl;have:fs.length=0:=(by simp at hl;omega);rw[h,this];simp
  .have:k=fs.length:=wC;rw[h,this];simp
 simp[-qd,-qn,-qr,-qJ,-qO,Tryz.f33,aT];refine Vv (rdI H lD fs) (fun i=>fs.length-i) 0 (fun ex e K=>ex=.exit 0/\rdI H lD fs fs.length e K) ?_ ?_ ?_
 .exact⟨vp _,wE,wE,wE,Ext.refl _ _,W,.vsl true [] 0,[],wE,RowA.nil _ _,fun n o=>by simp[zy] at o,rfl,fun i x q h=>wP,fun i x h=>wP,fun i j x y h=>wP⟩
 .rintro i e K ⟨hi,Y,Z,ac,x,FW,oD,l,p3,R⟩;by_cases qg:i<fs.length
  case neg=>
   have qo:=zw qg;have ZA:i=fs.length:=wC;subst ZA;simp[-qd,-qn,-qr,-qJ,-qO,p3,Y,Z,ac,qo];exact⟨qA _,wE,wE,wE,x,FW,oD,l,wE,R⟩
  have qo:=zq qg;have wi:=qz ((i:Int)+1) ((i+1:Nat):Int);obtain⟨f,hf⟩:∃f,fs[i]?=some f:=⟨_,qM qg⟩;have ag:=j7 hf;obtain⟨p,b⟩:=f;have jR:=FW.len _ ag;have bB:=FW.lt _ ag;simp only at jR bB;have bz:=F.len;obtain⟨rl,n,aD,h1,hg,-⟩:=F.row.own (fun h0=>by rw[h0] at bz;simp at bz;omega);have o:n=fs.length:=wC
  subst o;have cW:=x.get hg (F.nm rl (by rw[aD];simp[zy]));have Q7:=F.at_ i _ hf;simp only at Q7;obtain⟨B,hB⟩:=ql (List.take 21 (List.drop (i*21) C));have bQ:B.length=21:=by rw[<-hB,jc,vg];omega
  have aL:List.drop 20 B=[.optr p 5 0]:=by
   obtain⟨I,h4⟩:=List.getElem?_eq_some_iff.1 Q7;rw[<-hB,List.drop_take,kz,jo I,h4];rfl
  have cL:∀n,K.length<=n->(∀x,x∈B->closed n x=true)=True:=fun n o=>eq_true fun y hy=>jr (zJ x.len o) _ (F.cl y (by rw[<-hB] at hy;exact Zz (QX hy)));have bW:∀a,K.length<=(qr K a).length:=fun a=>by rw[jb];omega
  have b1:i*21+21<=C.length:=wC
  have b2:21<=C.length-i*21:=wC
  obtain⟨K1,jx⟩:=ql (qr K B);have x1:=zL jx;have g1:=js jx;have cX:=FW.ext x1 (fun _ h=>wP)
  obtain⟨V,ai,aH⟩:∃T,call cx 13 [.optr p 5 0] K1=some (.agg (Enc.cells (qG b)),T)/\Ext [] K1 T:=by
   rcases cX.w _ ag with h|h
   .exact qsD rfl h
   .exact qsD rfl h
  obtain⟨h,hh⟩:∃h,h=qG b:=⟨_,rfl⟩;rw[<-hh] at ai;obtain⟨hc,ah⟩:∃c:List D,Enc.cells h=c:=⟨_,rfl⟩;have qE:hc.length=91:=by rw[<-ah];simp
  have QT:∀n,(∀x,x∈hc->closed n x=true)=True:=fun n=>eq_true fun x hx=>VU x (List.all_eq_true.1 (ah▸Enc.free h) x hx);have cF:List.take 16 (List.drop 51 hc)=qf h.seq.l:=ah▸h.d51;have cM:List.drop 76 hc=.int .u64 (h.tseq:Nat)::List.drop 77 hc:=ah▸h.dn (i:=9) wC;obtain⟨K2,jw⟩:=ql (qr V hc);have x2:=zL jw;have g2:=js jw;have aC:Ext [] K K2:=(x1.trans aH (NewL.refl _ _)).trans x2 (NewL.refl _ _);have cN:qd K2 K.length=some B:=x2.get (aH.get g1 wE) wE;have R2:=R.ext aC (fun _ h=>wP)
  have JN:l.length<=i:=by
   have h1:=qio (fs.take i) [];rw[R.len];unfold zW;simp only[kt,jc] at h1;omega
  obtain⟨⟨z,K3⟩,av,x3,bt⟩:=q3m R2.oR R2.vcl wC (q:=V.length) (h:=h) (by rw[ah];exact g2);simp only at x3 bt;rw[ah,qE] at av;rw[ah] at ai;have R3:=R2.ext x3 (fun _ h=>wP);have bN:H.length<=K3.length:=zJ x.len (zJ aC.len x3.len);obtain⟨qs,ae⟩:=ql (zW (fs.take i));rw[ae] at R3
  have aa:qO Tryz.prog 92 oD=some (.int .i64 l.length):=by
   have qE:=Kt l;rcases R3.oR with⟨e0,h0,-⟩|⟨r,n,e0,h1,-,-⟩
   .rw[h0] at qE;have:l.length=0:=(by simp at qE;omega);rw[e0,this];simp
   .have:n=l.length:=wC;rw[e0,this];simp
  obtain⟨N,hN⟩:=ql (Sq.c ⟨h.seq,.vsl true [] 0,0⟩);have dh:qf h.seq.l++[D.vsl true [] 0,D.int .u64 0]=N:=by rw[<-hN];rfl
  have Ko:N.length=18:=by rw[<-hN];exact Sq.len _
  have tN:List.take 18 N=N:=qH wC;obtain⟨K4,Xi⟩:=ql (qr K3 N);have x4:=zL Xi;have g4:=js Xi;have R4:=R3.ext x4 (fun _ h=>wP);obtain⟨bD,K5,L1,hA,bb,x5,bp⟩:=R4.oR.append (P:=Tryz.prog) (st:=92) (xt:=92) (e:=154) (x:=.osl K3.length 18 0 1 18) (xs:=N) (m:=1) wE wE (by simp[-qd,g4,Ko,tN]) wE wC wC wC (by rw[Kt];simp[qF];omega) (by rw[Kt];simp[qF];omega);rw[<-hN] at bb
  have br:∀z,z∈l->K.length∉zy z.v:=fun z A hc=>by
   obtain⟨k,hk⟩:=List.getElem?_of_mem A;have:=R.row hk hc;omega
  obtain⟨j,U,K6,y,G,cB⟩:∃(j:Nat)(U:List Sq)(K6:qe)(y:Sq)(G:D),RdW H.length K6 G U (kA qs h.seq)/\U[j]?=some y/\y.id=h.seq/\Ext (zy oD) K3 K6/\(∀z,z∈U->K.length∉zy z.v)/\((z=.int .i64 (-1)/\j=l.length/\K6=K5/\G=bD)\/(z=.int .i64 (j:Nat)/\K6=K3/\G=oD)):=by
   rcases bt with⟨A,jg⟩|⟨j,y,A,hj,hy,-⟩
   .have bA:¬qs.any (fun q=>q.id==h.seq)=true:=fun hc=>by
     obtain⟨q,hq,ci⟩:=List.any_eq_true.1 hc;obtain⟨k,hk⟩:=List.getElem?_of_mem hq;have M:=(List.getElem?_eq_some_iff.1 hk).1;have JO:l[k]?=some (l[k]'(by rw[R3.len];exact M)):=qM _;have:=(R3.at_ k _ q JO hk).1;exact jg _ (vC _) (this.trans (by simpa using ci))
    refine⟨l.length,l++[⟨h.seq,.vsl true [] 0,0⟩],K5,⟨h.seq,.vsl true [] 0,0⟩,bD,?_,List.getElem?_concat_length,rfl,(x4.mono wE).trans x5 (NewL.refl _ _),fun z A=>?_,.inl ⟨A,rfl,rfl,rfl⟩⟩
    .unfold kA;rw[if_neg bA];exact R4.push (zJ bN x4.len) bb x5 bp
    .rcases List.mem_append.1 A with A|A
     .exact br z A
     .rw[List.mem_singleton.1 A];simp[zy]
   .refine⟨j,l,K3,y,oD,?_,hj,hy,(Ext.refl _ _),br,.inr ⟨A,rfl,rfl⟩⟩;unfold kA;rw[if_pos]
    .exact R3
    .have zp:=(List.getElem?_eq_some_iff.1 hj).1;have JO:qs[j]?=some (qs[j]'(by rw[<-R3.len];exact zp)):=qM _;have:=(R3.at_ j y _ hj JO).1;exact List.any_eq_true.2 ⟨_,vC _,by rw[<-this,hy];exact beq_self_eq_true _⟩
  obtain⟨R6,hj,hy,ax,kw,A⟩:=cB;have zp:=(List.getElem?_eq_some_iff.1 hj).1;obtain⟨q,hq⟩:=R6.other hj;obtain⟨e1,e2,e3⟩:=R6.at_ j y q hj hq;have Kl:=Kt U;obtain⟨s,n1,Q,ve,bk,-⟩:=R6.oR.own (fun h0=>by rw[h0] at Kl;simp at Kl;omega);have Yo:n1=U.length:=wC
  subst Yo;rw[Kl] at Q;have J:s∈zy G:=by rw[Q];simp[zy]
  have ay:=R6.oN s J;have bI:s<K6.length:=qx bk;have aE:∀n,n∈zy oD->n<K.length:=fun n o=>R.oR.lt o;have cO:K.length∉zy oD:=fun hc=>by have:=aE _ hc;omega
  have cH:V.length∉zy oD:=fun hc=>by have:=aE _ hc;have:=x1.len;have:=aH.len;omega
  have g5:=ax.get (x3.get cN wE) cO;have g6:=ax.get (x3.get g2 wE) cH;have dC:K.length<K1.length:=qx g1;have dD:K1.length<=K3.length:=zJ aH.len (zJ x2.len x3.len)
  have aN:s≠K.length:=fun hc=>by
   rcases A with⟨-,-,rfl,rfl⟩|⟨-,rfl,rfl⟩
   .have e5:=RowA.nm bb;rcases bp s (e5▸J) with I|I
    .have:=aE _ I;omega
    .have:=x4.len;omega
   .have:=aE _ J;omega
  obtain⟨C1,V5⟩:=ql (vc U);have bK:=qlr hj wC y.g17;obtain⟨ts,Ym⟩:=ql (max y.t h.tseq);have bn:=qj1 (n:=j*18+17) wC (qlq hj 17 (.int .u64 (ts:Nat)) ⟨y.id,y.v,ts⟩ wC (y.c17 ts));obtain⟨C2,jI⟩:=ql (vc (U.set j ⟨y.id,y.v,ts⟩));rw[V5] at bk bK bn Kl;rw[jI] at bn;have Q8:C2.length=18*U.length:=by rw[<-jI,Kt,vH]
  obtain⟨K7,bh⟩:=ql (qn K6 s C2);have x7:=vZ bh;have g7:qd K7 s=some C2:=by rw[<-bh];exact zj bI
  have kG:(if(y.t:Int)<(h.tseq:Int) then(h.tseq:Int) else(y.t:Int))=(ts:Int):=by rw[<-Ym];split<;>omega
  have XG:(if y.t<h.tseq then(h.tseq:Int) else(y.t:Int))=(ts:Int):=by rw[<-Ym];split<;>omega
  have bo:=x7.get g5 (by simpa using Ne.symm aN)
  have bq:∀z,z∈U.set j ⟨y.id,y.v,ts⟩->K.length∉zy z.v:=fun z A=>by
   rcases qc9 A with I|I
   .exact kw z I
   .rw[I];exact kw y (j7 hj)
  have cE:q.l.length<=1000000000:=by
   rcases qkf (j7 hq) with I|I
   .rw[<-ae] at I;have h4:=qim (N:=1000000) (fs.take i) [] 0 (fun f hf=>zJ qe2 (zJ (qgQ _) (FW.len f (QX hf)))) (fun q hq=>by simp at hq) q I;rw[jc] at h4;omega
   .rw[I];exact vp _
  have bV:H.length<=K6.length:=zJ bN ax.len
  have bj:RowA K7 18 G (vc (U.set j ⟨y.id,y.v,ts⟩)) (zy G):=by
   rw[jI,Q];exact .inr ⟨s,U.length,by rw[Q8],wC,g7,rfl⟩
  have R7:=R6.upd hj bV (y:=⟨y.id,y.v,ts⟩) (q':=⟨q.id,q.l,ts⟩) bj x7 (fun n o=>.inl (by rw[List.mem_singleton.1 o];exact J)) e1 rfl (e3.ext x7 fun n o hc=>by rw[List.mem_singleton.1 hc] at o;exact(R6.rN j y hj s o).2 J) (NewL.refl _ _);have bu:FisW H.length K7 fs:=(((FW.ext aC (fun _ h=>wP)).ext x3 (fun _ h=>wP)).ext ax (fun n o=>R.oN n o)).ext x7 (fun n o=>by rw[List.mem_singleton.1 o];exact ay);have cP:Ext (fs.map (·.1)) H K7:=(((x.trans aC (fun _ h=>wP)).trans x3 (fun _ h=>wP)).trans ax (fun n o=>.inr (R.oN n o))).trans x7 (fun n o=>.inr (by rw[List.mem_singleton.1 o];exact ay));obtain⟨K8,aq,x8,ao⟩:=q2k (bu.w _ ag) jR;simp only at aq x8 ao;have aW:qO Tryz.prog 23 (Zc (zu b))=some (.int .i64 (zu b).length):=by unfold Zc;simp
  have cT:=bu.good ag x8 ao;have R8:=R7.ext x8 (fun n o=>by rw[List.mem_singleton.1 o];exact bB);have Ql:p∈fs.map (·.1):=List.mem_map.2 ⟨_,ag,rfl⟩;have cq:Ext (fs.map (·.1)) H K8:=cP.trans x8 (fun n o=>.inl (by rw[List.mem_singleton.1 o];exact Ql));have dk:=x8.get bo (fun hc=>by have:=List.mem_singleton.1 hc;have:=x.len;omega)
  have bG:K3≠[]:=fun e0=>by
   have:K3.length=0:=(by rw[e0];rfl);omega
  have ch:¬(j:Int)<0:=wC
  have cG:j*18+17+1<=18*U.length:=wC
  rcases A with⟨rfl,cK,rfl,rfl⟩|⟨rfl,rfl,rfl⟩
  case' inl=>
   rw[<-cK] at aa
  case' inr=>
   rw[Q] at av aa
  all_goals
   simp[-qd,-qn,-qr,-qJ,-qO,p3,Y,Z,ac,qo,aD,cW,hB,bQ,cL,bW,b2,zF,qaT,jx,g1,aL,ai,qE,QT,jw,av,aa,x3.get g2,cF,dh,Ko,Xi,hA,Q,zp,g6,bk,Kl,bK,cM,XG,bn,bh,bo,aq,aW,bG,ch,cG];refine Vv (rdJ H lD G fs i j K.length s U.length B (p,b) (kA qs h.seq) ⟨q.id,q.l,ts⟩) (fun k=>(zu b).length-k) 0 (fun ex e K'=>ex=.exit 2/\rdJ H lD G fs i j K.length s U.length B (p,b) (kA qs h.seq) ⟨q.id,q.l,ts⟩ (zu b).length e K') ?_ ?_ ?_
   .exact⟨vp _,by simp[Q],wE,wE,by simp[aD],wE,wE,wE,wE,wE,cq,cT,dk,_,_,by simpa using R8,by rw[List.getElem?_set_self zp],wE,bq⟩
   .rintro k e K' ⟨hk,p3,p5,p8,Y,Z,ac,aF,aG,aY,xK,FK,gB,l',O,R',vR,Vy,az⟩;simp only at hk aF aG;by_cases M:k<(zu b).length
    case neg=>
     have Yr:¬(k:Int)<((zu b).length:Int):=wC;have cj:k=(zu b).length:=wC;subst cj;simp[-qd,-qn,-qr,-qJ,-qO,p3,p5,p8,Y,Z,ac,aF,aG,aY,Yr];exact⟨qA _,wE,wE,wE,wE,wE,wE,wE,wE,wE,xK,FK,gB,l',O,R',vR,Vy,az⟩
    have Yr:(k:Int)<((zu b).length:Int):=wC;have qR:=zJ (qgQ b) jR;have Xc:(zu b).length<=1000000:=zJ qe2 qR;have wk:=qz ((k:Int)+1) ((k+1:Nat):Int);obtain⟨g,aU⟩:=ql ((zu b)[k]);have ce:g∈zu b:=aU▸vC M;obtain⟨ga,QP⟩:=qt5 ce
    have Yu:Zc (zu b)=.vsl false (jO (zu b)) (zu b).length:=by
     unfold Zc;rw[decide_eq_false];intro h0;rw[h0] at M;simp at M
    have cS:List.drop k (jO (zu b))=.int .i64 (g:Nat)::List.drop (k+1) (jO (zu b)):=by
     unfold jO;rw[<-List.map_drop,<-List.map_drop,jo M,aU];rfl
    obtain⟨Ka,Vf,xa⟩:∃T,call cx 73 [.optr p 5 0,.int .i64 (g:Nat)] K'=some (.tup [.agg (ZM (zD b).l (qG b) (zC b)[g]),.int .i64 (Qf (zD b).l (qG b) (zC b)[g]:Nat)],T)/\Ext [] K' T:=by
     rcases FK.w _ ag with h|h
     .exact qgu h ga qR jR rfl
     .exact qgu h ga qR jR rfl
    obtain⟨s0,bR⟩:=ql (qT (qN (zD b).l (zC b)[g]) 0);obtain⟨s1,Jr⟩:=ql (qT (qN (zD b).l (zC b)[g]) 8);obtain⟨R,hR⟩:∃R:List D,Enc.cells (Ya (zD b).l (zC b)[g])=.int .u64 (s0:Nat):: .int .u64 (s1:Nat)::R:=⟨_,by rw[Rec.cells,<-bR,<-Jr];rfl⟩
    have de:R.length=18:=by
     have:(Enc.cells (Ya (zD b).l (zC b)[g]):List D).length=20:=wE;rw[hR] at this;simpa using this
    have cY:∀n,(∀x,x∈R->closed n x=true)=True:=fun n=>eq_true fun x hx=>VU x (List.all_eq_true.1 (Enc.free (Ya (zD b).l (zC b)[g])) x (by rw[hR];simp[hx]));rw[show ZM (zD b).l (qG b) (zC b)[g]=.int .u64 (s0:Nat):: .int .u64 (s1:Nat)::R by unfold ZM;rw[if_pos QP,hR],QP] at Vf
    have cQ:jj (J9 p b g)=[.int .u64 (s0:Nat),.int .u64 (s1:Nat),.optr p 5 0,.int .i64 (g:Nat)]:=by
     rw[<-bR,<-Jr];unfold jj J9;rw[jy,qM ga];rfl
    have dA:=xK.len;have bU:((kA qs h.seq).set j ⟨q.id,q.l++(Vd p b).take k,ts⟩)[j]?=some ⟨q.id,q.l++(Vd p b).take k,ts⟩:=(by rw[List.getElem?_set_self (List.getElem?_eq_some_iff.1 hq).1]);obtain⟨bE,bH,bg⟩:=R'.at_ j O _ vR bU;simp only at bE bH bg;have bO:=(List.getElem?_eq_some_iff.1 vR).1;have aj:=Kt l';rw[Vy] at aj;obtain⟨C3,JR⟩:=ql (vc l');have aQ:=R'.oR;have aA:=qlr vR wC O.g16;rw[JR] at aj aQ aA
    have aZ:qd K' s=some C3:=by
     rcases aQ with⟨e0,_,_⟩|⟨r,n,e0,_,hg,_⟩
     .rw[Q] at e0;cases e0
     .rw[Q,D.osl.injEq] at e0;rw[e0.1];exact hg
    have aR:s∉zy O.v:=fun hc=>(R'.rN j O vR s hc).2 J;have aJ:K.length∉zy O.v:=az O (j7 vR);obtain⟨Kb,Jx⟩:=ql (qr Ka (.int .u64 (s0:Nat):: .int .u64 (s1:Nat)::R));have xb:=zL Jx;have gb:=js Jx;obtain⟨Kc,Zh⟩:=ql (qr Kb (jj (J9 p b g)));have xc:=zL Zh;have gc:=js Zh;have aI:Ext [] K' Kc:=(xa.trans xb (NewL.refl _ _)).trans xc (NewL.refl _ _);have aP:(q.l++(Vd p b).take k).length<=2000000000:=(by rw[zo,jc];omega);have t4:List.take 4 (jj (J9 p b g))=jj (J9 p b g):=rfl;obtain⟨EP,aS⟩:=ql (qW (q.l++(Vd p b).take k));have dz:EP.length<=8000000000:=(by rw[<-aS,Zw];omega);rw[aS] at bg;obtain⟨E,Kd,L',cg,bc,xd,cJ⟩:=(bg.ext aI (fun _ _=>wE)).append (P:=Tryz.prog) (st:=152) (xt:=152) (e:=161) (x:=.osl Kb.length 4 0 1 4) (xs:=jj (J9 p b g)) (m:=1) wE wE (by simp[-qd,gc,t4]) wE wC wE wC wM wM;have cA:=RowA.nm bc;subst cA;have bM:qd Kd s=some C3:=xd.get (aI.get aZ wE) aR;have aw:=qj1 (n:=j*18+16) (d:=E) (by rw[JR,aj];omega) (qlq vR 16 E ⟨O.id,E,O.t⟩ wC (O.c16 E));obtain⟨C4,Xj⟩:=ql (vc (l'.set j ⟨O.id,E,O.t⟩));rw[JR,Xj] at aw;have dc:C4.length=18*U.length:=(by rw[<-Xj,Kt,vH,Vy]);obtain⟨Ke,aV⟩:=ql (qn Kd s C4);have xe:=vZ aV;have ge:=vV aV bM;have cC:=xa.get gB wE;have bY:=xb.get cC wE;have bZ:=xb.get (xa.get aZ wE) wE;have bT:Kb≠[]:=fun e0=>by have:=qx gb;rw[e0] at this;simp at this
    have bf:j*18+16+1<=18*U.length:=wC;obtain⟨r4,n4,bC,dB,cu,-⟩:=bc.own (by simp[jj]);obtain⟨l4,cD⟩:=ql ((EP++jj (J9 p b g)).length);rw[cD] at bC;have bX:r4<Kd.length:=qx cu;have bJ:=cg;have aM:=aw;rw[bC] at bJ aM;have du:p<Kb.length:=(by have:=xa.len;have:=xb.len;omega);rw[cQ] at Zh;simp[-qd,-qn,-qr,-qJ,-qO,p3,p5,p8,Y,Z,ac,aF,aG,aY,Yr,Yu,cS,gB,bQ,aL,Vf,zF,qaT,de,cY,Jx,gb,bY,bZ,aj,aA,Zh,bT,bJ,bM,bf,aM,aV,bX,wk];have xz:Ext (s::zy O.v) K' Ke:=((aI.mono wE).trans (xd.mono (fun i hi=>vy _ hi)) (NewL.refl _ _)).trans (xe.mono (fun i hi=>by rw[List.mem_singleton.1 hi];simp)) (NewL.refl _ _);have di:s<K'.length:=qx aZ;have kR:K.length<K'.length:=qx gB;have bm:NewL (zy O.v) (zy E) K'.length:=fun n o=>(cJ n o).imp id (fun h=>zJ aI.len h)
    have cZ:(Vd p b).take (k+1)=(Vd p b).take k++[J9 p b g]:=by
     unfold Vd;rw[Ky (by simpa using M),List.getElem_map,aU]
    have cp:RowA Ke 4 E (qW (q.l++(Vd p b).take (k+1))) (zy E):=by
     rw[cZ,<-jX,qiz,aS,show qW [J9 p b g]=jj (J9 p b g) by simp[qW]];refine bc.ext xe fun n o hc=>?_;rw[List.mem_singleton.1 hc] at o;rcases bm s o with I|I
     .exact aR I
     .omega
    have cw:RowA Ke 18 G (vc (l'.set j ⟨O.id,E,O.t⟩)) (zy G):=by
     rw[Xj,Q];exact .inr ⟨s,U.length,by rw[dc],wC,ge,rfl⟩
    have dg:H.length<=K'.length:=xK.len
    have au:∀n,n∈s::zy O.v->H.length<=n:=fun n o=>by
     rcases List.mem_cons.1 o with rfl|o
     .exact ay
     .exact(R'.rN j O vR n o).1
    have Rz:=R'.upd vR dg (y:=⟨O.id,E,O.t⟩) (q':=⟨q.id,q.l++(Vd p b).take (k+1),ts⟩) cw xz (fun n o=>by
     rcases List.mem_cons.1 o with rfl|o
     .exact .inl J
     .exact .inr o) bE bH cp bm
    rw[List.set_set] at Rz;refine⟨k+1,wC,show k+1<=(zu b).length from wC,wE,wE,wE,wE,wE,wE,by simp[Yu],wE,wE,xK.trans xz (fun n o=>.inr (au n o)),FK.ext xz au,xz.get gB (fun hc=>?_),_,_,Rz,by rw[List.getElem?_set_self bO],by simp[Vy],fun z A hc=>?_⟩
    .rcases List.mem_cons.1 hc with I|I
     .exact aN I.symm
     .exact aJ I
    .rcases qc9 A with I|I
     .exact az z I hc
     .rw[I] at hc;rcases bm _ hc with h4|h4
      .exact aJ h4
      .omega
   .rintro ex e K' ⟨rfl,-,p3,p5,p8,Y,Z,ac,aF,aG,aY,xK,FK,gB,l',O,R',vR,Vy,-⟩;simp[-qd,-qn,-qr,-qJ,-qO,p3,Y,Z,ac,wi];refine⟨i+1,wC,wC,by simp[aD],wE,wE,xK,FK,G,l',wE,?_⟩;have hu:=qjL (fs.take i) (qs:=[]) (fun i j x y h=>wP);rw[qyQ hf,ae,q7f (by rw[<-ae];exact hu) (f:=(p,b)) (j:=j) (q:=q) (by rw[<-hh];exact hq) (by rw[<-e1,hy,hh])];simp only at R';rw[qH (by rw[qnR];exact qA _)] at R';rw[<-Ym,e2,hh] at R';exact R'
 .rintro ex e K ⟨rfl,-,Y,Z,ac,x,FW,oD,l,p3,R⟩;rw[List.take_length] at R
  have aa:qO Tryz.prog 92 oD=some (.int .i64 (zW fs).length):=by
   have qE:=Kt l;rw[R.len] at qE;rcases R.oR with⟨e0,h0,-⟩|⟨r,n,e0,h1,-,-⟩
   .rw[h0] at qE;have:(zW fs).length=0:=(by simp at qE;omega);rw[e0,this];simp
   .have:n=(zW fs).length:=wC;rw[e0,this];simp
  have dq:(zW fs).length<=1000:=by have:=qio fs [];unfold zW;simp at this;omega
  simp[-qd,-qn,-qr,-qJ,-qO,p3,aa];refine Vv (srI H oD fs) (fun i=>(zW fs).length-i) 0 (fun ex e K=>ex=.exit 4/\srI H oD fs (zW fs).length e K) ?_ ?_ ?_
  .exact⟨vp _,wE,wE,wE,x,FW,l,R.oR,R.oN,R.len,fun k x u hx hu=>by
    obtain⟨a1,a2,a3⟩:=R.at_ k x u hx hu;exact⟨a1,a2,fun hk=>absurd hk (Nat.not_lt_zero _),fun _=>a3⟩,R.rN,R.dj⟩
  .rintro i e K ⟨hi,p3,ba,aX,x,FW,l,S⟩;by_cases qg:i<(zW fs).length
   case neg=>
    have qo:¬(i:Int)<((zW fs).length:Int):=wC;have ZA:i=(zW fs).length:=wC;subst ZA;simp[-qd,-qn,-qr,-qJ,-qO,p3,ba,aX,qo];exact⟨qA _,wE,wE,wE,x,FW,l,S⟩
   have qo:(i:Int)<((zW fs).length:Int):=wC;have wi:=qz ((i:Int)+1) ((i+1:Nat):Int);obtain⟨u,hu⟩:∃u,(zW fs)[i]?=some u:=⟨_,qM qg⟩;obtain⟨y,hy⟩:∃y,l[i]?=some y:=⟨_,qM (by rw[S.len];exact qg)⟩;obtain⟨a1,a2,-,a4⟩:=S.at_ i y u hy hu;have aP:=a4 (qA _);have ck:=YX u (j7 hu);have qE:=Kt l;rw[S.len] at qE;obtain⟨s,n1,am,ve,Xd,-⟩:=S.oR.own (fun h0=>by rw[h0] at qE;simp at qE;omega);have Yo:n1=(zW fs).length:=wC;subst Yo;rw[qE] at am;have J:s∈zy oD:=(by rw[am];simp[zy]);obtain⟨C,hC⟩:=ql (vc l);have aA:=qlr hy wC y.g16;rw[hC] at qE Xd aA;have aB:s∉zy y.v:=fun hc=>(S.rN i y hy s hc).2 J;have hH:=x.len;have bf:i*18+16+1<=18*(zW fs).length:=wC
   obtain⟨V,E,T2,W,Jr,Qk,xT,hW,hF,KY⟩:∃V E T2 W,call cx 74 [y.v,.fn 75 []] K=some (.tup [],V)/\call cx 77 [y.v,.fn 78 []] V=some (E,T2)/\Ext (zy y.v) K V/\StS u.l W/\(Ext (zy y.v) V T2/\RowF T2 E (dd W) (zy E))/\zy E=zy y.v:=by
    have V4:∀x,x∈u.l->closed K.length x.f=true:=fun z A=>by
     rcases qin fs [] u z (j7 hu) A with⟨q',h1,-⟩|⟨f,h1,i,-,rfl⟩
     .simp at h1
     .exact decide_eq_true (by have:=FW.lt f h1;show f.1<K.length;omega)
    have zH:=Zw u.l;rcases aP with⟨hv,h0,-⟩|⟨r,n,hv,h1,hg,-⟩
    .rw[h0] at zH;have ak:u.l=[]:=ky (by simp at zH;omega);obtain⟨V,c1,x1⟩:=qx0 K;rw[hv,ak];exact⟨V,_,V,[],c1,qvl V _ wE,x1,StS.one _ wE,⟨Ext.refl _ _,.inl ⟨rfl,rfl,rfl⟩⟩,rfl⟩
    .have o:n=u.l.length:=wC;subst o;rw[zH] at hv;rw[hv];obtain⟨⟨z,V⟩,c1,A,x1,W,hW,Xd⟩:=qx1 hg V4 ck;simp only at A x1 Xd;subst A;have ZB:=hW.len;by_cases ak:u.l=[]
     .have bv:W=[]:=ky (by rw[ZB,ak];rfl);rw[bv] at Xd;refine⟨V,_,V,W,c1,qvl V _ (by rw[ak];simp),x1,hW,⟨Ext.refl _ _,?_⟩,rfl⟩;rw[bv,ak];exact .inr ⟨r,0,[],rfl,Xd,rfl,qA _,fun j x h=>by simp[dd] at h,rfl⟩
     .obtain⟨⟨E,T2⟩,c2,x2,hF⟩:=q5y Xd (fun z A=>jr x1.len _ (V4 z (hW.mem A))) wC (fun h0=>ak (ky (by rw[<-ZB,h0];rfl)));simp only at x2 hF;rw[ZB] at c2;have bF:=RowF.nm hF;exact⟨V,E,T2,W,c1,c2,x1,hW,⟨x2,by rw[<-bF];exact hF⟩,bF.symm⟩
   have aO:=xT.get Xd aB;have aK:=hF.1.get aO aB;have df:cellsOf E=some [E]:=(by rcases hF.2 with⟨e,_⟩|⟨p,st,cs,e,_⟩<;>rw[e]<;>rfl);have aT:=hF.2.vcl;have aw:=qj1 (n:=i*18+16) (d:=E) (by rw[hC,qE];omega) (qlq hy 16 E ⟨y.id,E,y.t⟩ wC (y.c16 E));obtain⟨C2,jI⟩:=ql (vc (l.set i ⟨y.id,E,y.t⟩));rw[hC,jI] at aw;have Q8:C2.length=18*(zW fs).length:=(by rw[<-jI,Kt,vH,S.len]);obtain⟨T3,Y2⟩:=ql (qn T2 s C2);have x3:=vZ Y2;have g3:=vV Y2 aK;have xz:Ext (s::zy y.v) K T3:=((xT.mono (fun i hi=>vy _ hi)).trans (hF.1.mono (fun i hi=>vy _ hi)) (NewL.refl _ _)).trans (x3.mono (fun i hi=>by rw[List.mem_singleton.1 hi];simp)) (NewL.refl _ _)
   have au:∀n,n∈s::zy y.v->H.length<=n:=fun n o=>by
    rcases List.mem_cons.1 o with rfl|o
    .exact S.oN _ J
    .exact(S.rN i y hy n o).1
   have db:i<(zW fs).length:=qg;simp[-qd,-qn,-qr,-qJ,-qO,-cellsOf,p3,ba,aX,qo,am,Xd,qE,aA,Jr,Qk,aO,aK,df,aT,bf,aw,Y2,wi];refine⟨i+1,wC,wC,wE,wE,wE,x.trans xz (fun n o=>.inr (au n o)),FW.ext xz au,l.set i ⟨y.id,E,y.t⟩,?_⟩;rw[<-am];refine S.step hy hu (y:=⟨y.id,E,y.t⟩) ?_ xz (fun n o=>?_) rfl rfl hW (hF.2.extM x3 fun n o hc=>?_) (fun n o=>KY▸o)
   .rw[jI,am];exact .inr ⟨s,_,by rw[Q8],wC,g3,rfl⟩
   .rcases List.mem_cons.1 o with rfl|o
    .exact .inl J
    .exact .inr o
   .rw[List.mem_singleton.1 hc,KY] at o;exact aB o
  .rintro ex e K ⟨rfl,-,p3,ba,aX,x,FW,l,S⟩;simp[-qd,-qn,-qr,-qJ,-qO,p3]
   obtain⟨qs,bP,ae⟩:=qph (P:=fun k(q:SqF)=>∀u,(zW fs)[k]?=some u->u.id=q.id/\u.t=q.t/\∃W,StS u.l W/\q.l=dd W/\∀x,l[k]?=some x->∃L,RowF K x.v q.l L) (zW fs).length fun k hk=>by
    have M:k<l.length:=(by rw[S.len];exact hk);obtain⟨a1,a2,a3,-⟩:=S.at_ k l[k] (zW fs)[k] (qM M) (qM hk);obtain⟨W,h1,h2⟩:=a3 hk;refine⟨⟨(zW fs)[k].id,dd W,(zW fs)[k].t⟩,fun u hu=>?_⟩;rw[qM hk] at hu;injection hu with hu;subst hu;refine⟨rfl,rfl,W,h1,rfl,fun x hx=>?_⟩;rw[qM M] at hx;injection hx with hx;exact⟨_,hx▸h2⟩
   refine⟨l,qs,_,S.oR,x,FW,by rw[S.len,bP],⟨bP.symm,fun k u q hu hq=>?_⟩,fun k z p A hp=>?_⟩
   .obtain⟨b1,b2,W,b3,b4,-⟩:=ae k q hq u hu;exact⟨b1,b2,W,b3,b4⟩
   .have hk:=(List.getElem?_eq_some_iff.1 A).1;rw[S.len] at hk;obtain⟨a1,a2,-,-⟩:=S.at_ k z _ A (qM hk);obtain⟨b1,b2,W,b3,b4,b5⟩:=ae k p hp _ (qM hk);obtain⟨L,hL⟩:=b5 z A;exact⟨a1.trans b1,a2.trans b2,hL.vcl,L,hL⟩
theorem qn0:∀{v w:List Pl},J2 v->J2 w->(∀k,v.filter (·.s==k)=w.filter (·.s==k))->v=w
 |[],[],_,_,_=>rfl
 |[],b::w,_,_,h=>by have:=h b.s;simp at this
 |a::v,[],_,_,h=>by have:=h a.s;simp at this
 |a::v,b::w,i,g,h=>by
  have c:=h a.s;have e2:=h b.s
  have f:a.s=b.s:=by
   rcases Nat.lt_trichotomy a.s b.s with e|e|e
   .have:(b::w).filter (·.s==a.s)=[]:=List.filter_eq_nil_iff.2 fun y d hc=>by have:=qeZ g y d;simp at hc;omega
    rw[this] at c;simp at c
   .exact e
   .have:(a::v).filter (·.s==b.s)=[]:=List.filter_eq_nil_iff.2 fun y d hc=>by have:=qeZ i y d;simp at hc;omega
    rw[this] at e2;simp at e2
  have j:a=b:=by
   rw[List.filter_cons_of_pos wE,List.filter_cons_of_pos (by simpa using f.symm)] at c;injection c
  subst j
  rw[qn0 (List.pairwise_cons.1 i).2 (List.pairwise_cons.1 g).2 fun k=>by
   have:=h k;simp only[List.filter_cons] at this;split at this
   .injection this
   .exact this]
def qdG(fs:List (Nat×List UInt8))(p:Nat):List UInt8:=((fs.find? fun f=>f.1==p).map (·.2)).getD []
def Z1(fs:List (Nat×List UInt8))(d:D)(i:Int):Rec:=match d with
 | .optr p _ _=>qcP (qdG fs p) i.toNat
 |_=>qgc
theorem qip{n0:Nat}{K:qe}{fs:List (Nat×List UInt8)}(W:FisW n0 K fs){f:Nat×List UInt8}(a:f∈fs):qdG fs f.1=f.2:=by
 unfold qdG;cases h:fs.find? (fun g=>g.1==f.1) with
 |none=>have:=List.find?_eq_none.1 h f a;simp at this
 |some g=>
  have c:=List.mem_of_find?_eq_some h;have b:=List.find?_some h;have:=W.uni g f c a wv;rw[this];rfl
theorem qtS:∀(fs:List (Nat×List UInt8))(qs:List SqF),(∀q,q∈qs->q.t<18446744073709551616)->∀q,q∈fs.foldl vY qs->q.t<18446744073709551616
 |[],qs,h,q,d=>h q d
 |f::fs,qs,h,q,d=>qtS fs (vY qs f) (fun r e=>by
  unfold vY at e;obtain⟨b,a,rfl⟩:=List.mem_map.1 e
  have g:b.t<18446744073709551616:=by
   unfold kA at a;split at a
   .exact h b a
   .rcases List.mem_append.1 a with c|c
    .exact h b c
    .rw[List.mem_singleton.1 c];exact show(0:Nat)<18446744073709551616 by decide
  have:=qfu f.2 9;split
  .simp only[YC,HdP.tseq];omega
  .exact g) q d
theorem qmJ[MaxL]{n0:Nat}{H:qe}{fs:List (Nat×List UInt8)}{l:List Sq}{qs:List SqF}(g:FisW n0 H fs)(I:n0<=H.length)(G:fs.length<=1000)(y:∀u,u∈zW fs->u.l.length<40)(E:l.length=qs.length)(n:qcA (zW fs) qs)
  (j:∀(i:Nat)(x:Sq)(p:SqF),l[i]?=some x->qs[i]?=some p->x.id=p.id/\x.t=p.t/\closed H.length x.v=true/\∃L,RowF H x.v p.l L):SqsW (Z1 fs) H l qs:=by
 have k:∀q,q∈qs->∃u,u∈zW fs/\u.t=q.t/\∃W,StS u.l W/\q.l=dd W:=fun q a=>by
  obtain⟨i,hi⟩:=List.getElem?_of_mem a;have A:=(List.getElem?_eq_some_iff.1 hi).1;have c:(zW fs)[i]?=some ((zW fs)[i]'(by rw[n.1];exact A)):=qM _;obtain⟨-,z,W,e,d⟩:=n.2 i _ q c hi;exact⟨_,j7 c,z,W,e,d⟩
 have pl:∀q,q∈qs->∀x,x∈q.l->∃f,f∈fs/\∃i,i∈zu f.2/\x=J9 f.1 f.2 i:=fun q a x hx=>by
  obtain⟨u,c,-,W,e,d⟩:=k q a;rw[d] at hx;rcases qin fs [] u x c (e.mem ((qlz W).subset hx)) with⟨q',b,-⟩|h
  .simp at b
  .exact h
 refine⟨E,?_,fun q a=>?_,j,fun q a x hx=>?_,fun q a=>⟨?_,fun x hx=>?_,?_,fun x hx=>?_⟩,fun q a x hx T s=>?_⟩
 .have:=qio fs [];rw[<-n.1];unfold zW;simp at this;omega
 .obtain⟨u,c,-,W,e,d⟩:=k q a;have b:=y u c;have C:=(qlz W).length_le;rw[e.len,<-d] at C;omega
 .obtain⟨f,b,i,-,rfl⟩:=pl q a x hx;exact decide_eq_true (by have:=g.lt f b;show f.1<H.length;omega)
 .obtain⟨u,c,-,W,e,d⟩:=k q a;rw[d];exact ql0 e.rise
 .obtain⟨f,b,i,-,rfl⟩:=pl q a x hx;exact qeQ _ _
 .obtain⟨u,c,F,-⟩:=k q a;rw[<-F];exact qtS fs [] (fun q a=>xC) u c
 .obtain⟨f,b,i,-,rfl⟩:=pl q a x hx;show(qcP (qdG fs f.1) ((i:Int)).toNat).seq=_;rw[qip g b];rfl
 .obtain⟨f,b,i,hi,rfl⟩:=pl q a x hx;obtain⟨m,r⟩:=qt5 hi;have o:=g.len f b;have j:=zJ (qgQ f.2) o
  have B:Z1 fs (J9 f.1 f.2 i).f (J9 f.1 f.2 i).i=Ya (zD f.2).l (zC f.2)[i]:=by
   show qcP (qdG fs f.1) ((i:Int)).toNat=_;rw[qip g b];unfold qcP;rw[Int.toNat_natCast,jy,qM m];rfl
  rw[B]
  have key:∃K,call cx 73 [.optr f.1 5 0,.int .i64 (i:Nat)] T=some (.tup [.agg (ZM (zD f.2).l (qG f.2) (zC f.2)[i]),.int .i64 (Qf (zD f.2).l (qG f.2) (zC f.2)[i]:Nat)],K)/\Ext [] T K:=by
   rcases g.w f b with h|h
   .exact qgu (s.get h wE) m j o rfl
   .exact qgu (s.get h wE) m j o rfl
  rw[show ZM (zD f.2).l (qG f.2) (zC f.2)[i]=Enc.cells (Ya (zD f.2).l (zC f.2)[i]) by unfold ZM;rw[if_pos r],r] at key;exact key
def alI(rf:D->Int->Rec)(qs:List SqF)(c:qe)(v:D)(n:Nat)(b:List It)(k:Nat)(e:qu)(K:qe):Prop:=
 k<=n/\qi e 2=some (.int .i64 n)/\qi e 7=some v/\Ext [] c K/\∃(s:Sl Mk)(d:D)(L:List Nat)(a:List It),qi e 1=some (.vsl s.nil (qt s.l) s.l.length)/\qi e 8=some d/\MOk s.l/\a.length=k/\a++(Zj rf qs (n-k) s.l).1=b/\RowA K 39 d (qt a) L/\(∀j,j∈L->c.length<=j)/\(a=[]->d=.vsl true [] 0)
def qme(H:qe)(fs:List (Nat×List UInt8))(M:List Mk)(n:Nat)(q:D×qe):Prop:=
 ∃qs,qcA (zW fs) qs/\(∀x,x∈qs->x.Ok (Z1 fs))/\q.1=.vsl (decide ((Zj (Z1 fs) qs n M).1=[])) (qt (Zj (Z1 fs) qs n M).1) (Zj (Z1 fs) qs n M).1.length/\Ext (fs.map (·.1)) H q.2/\FisW H.length q.2 fs
theorem qkr[MaxL]{H:qe}{lD:D}{C:List D}{fs:List (Nat×List UInt8)}(F:FdsW H lD C fs)(W:FisW H.length H fs)(Zt:fs.length<=1000)(YX:∀u,u∈zW fs->u.l.length<40)(s:Sl Mk)(hs:MOk s.l)(n:Nat)(ve:1<=n)(jQ:n<=1000):
  ∃q,call cx 10 [lD,(.vsl s.nil (qt s.l) s.l.length),.int .i64 (n:Nat)] H=some q/\qme H fs s.l n q:=by
 refine vx (X:=cx) (f:=10) (qme H fs s.l n) Tryz.func10 rfl ⟨rfl,rfl⟩ ?_;have hr:=qj9 s (by have:=hs.len;omega);rw[hs.r] at hr;obtain⟨⟨v,T⟩,E,l,qs,L,hR,xT,FT,JN,w,qR⟩:=qoE F W Zt YX;simp only at hR xT FT qR;have S:=qmJ FT xT.len Zt YX JN w qR;have Yo:¬(n:Int)<1:=wC
 simp[-qd,-qn,-qr,-qJ,-qO,Tryz.f10,hr,Yo,E];refine Vv (alI (Z1 fs) qs T v n (Zj (Z1 fs) qs n s.l).1) (fun k=>n-k) 0 (fun ex e K=>ex=.exit 0/\Ext [] T K/\∃d L,qi e 8=some d/\RowA K 39 d (qt (Zj (Z1 fs) qs n s.l).1) L/\(∀j,j∈L->T.length<=j)/\((Zj (Z1 fs) qs n s.l).1=[]->d=.vsl true [] 0)) ?_ ?_ ?_
 .exact⟨vp _,wE,wE,Ext.refl _ _,s,.vsl true [] 0,[],[],wE,wE,hs,rfl,wE,RowA.nil _ _,(fun j p=>by simp at p),fun _=>rfl⟩
 .rintro k e K ⟨hk,p2,p7,x,s',d,Ld,o,p1,N,hM,ah,c,b,t,V⟩
  have jv:qO Tryz.prog 34 d=some (.int .i64 k):=by
   have B:(qt o).length=o.length*39:=Ks (n:=39) wE o;rcases b with⟨e0,z,-⟩|⟨r,m,e0,h1,-,-⟩
   .rw[z] at B;have:k=0:=(by simp at B;omega);rw[e0,this];simp
   .have:m=k:=wC;rw[e0,this];simp
  by_cases qg:k<n
  case neg=>
   have qo:=zw qg;rw[show n-k=0 from wC] at c;simp only[Zj,J4] at c;simp[-qd,-qn,-qr,-qJ,-qO,p1,p2,p7,N,jv,qo];exact⟨x,Ld,by rw[<-c];exact b,t,by rw[<-c];exact V⟩
  have qo:=zq qg;obtain⟨⟨r,K1⟩,g,Z,x1⟩:=qoO (hR.ext x (fun _ _=>wE)) (S.ext x) s' hM;simp only at Z x1;subst Z;obtain⟨m,hm⟩:∃m,n-k=m+1:=⟨n-k-1,wC⟩;rw[hm,Zj] at c;cases hf:V6 qs s'.l with
  |none=>
   rw[hf] at g c;simp only[J4] at c;have cI:∀n,(∀x,x∈(Enc.cells Vw:List D)->closed n x=true)=True:=fun n=>eq_true fun x hx=>VU x (List.all_eq_true.1 (Enc.free _) x hx);have Y:(Enc.cells Vw:List D).length=39:=wE;simp only[qe4] at g;generalize (Enc.cells Vw:List D)=I at *;obtain⟨M,O⟩:=ql (qr K1 I);have x2:=zL O;have R:Ext [] K M:=x1.trans x2 (NewL.refl _ _);simp[-qd,-qn,-qr,-qJ,-qO,p1,p2,p7,N,jv,qo,g,zF,qaT,cI,Y,O];exact⟨x.trans R (NewL.refl _ _),Ld,by rw[<-c];exact b.ext R (fun _ _=>wE),t,by rw[<-c];exact V⟩
  |some y=>
   rw[hf] at g c;obtain⟨A,-⟩:=qxi S.ok hM hM rfl hf;obtain⟨h,kl⟩:=ql (Qh (Z1 fs) y);simp only[qe4,kl] at g;simp only[kl] at c;rw[kl] at A;have G:=qwQ s' (by have:=hM.len;omega) h false;rw[A.tk] at G;unfold qb9 at G;rw[if_pos rfl] at G;have cI:∀n,(∀x,x∈(Enc.cells h:List D)->closed n x=true)=True:=fun n=>eq_true fun x hx=>VU x (List.all_eq_true.1 (Enc.free _) x hx);have Y:(Enc.cells h:List D).length=39:=wE;have fI:idFree.idFreeL (Enc.cells h:List D)=true:=wE;have tI:List.take 39 (Enc.cells h:List D)=Enc.cells h:=qH wE;have sI:qt (o++[h])=qt o++Enc.cells h:=qe8 o h;obtain⟨I,hI⟩:∃I:List D,Enc.cells h=I:=⟨_,rfl⟩;rw[hI] at g G cI Y fI tI sI;obtain⟨M,O⟩:=ql (qr K1 I);have x2:=zL O;have g2:qd M K1.length=some I:=(by rw[<-O,zF]);obtain⟨K3,ZC⟩:=ql (qr M I);have x3:=zL ZC;have g3:=js ZC;have J:Ext [] K K3:=(x1.trans x2 (NewL.refl _ _)).trans x3 (NewL.refl _ _);have B:(qt o).length=o.length*39:=Ks (n:=39) wE o;obtain⟨d',K4,L',hA,ac,x4,ag⟩:=(b.ext J (fun _ _=>wE)).append (P:=Tryz.prog) (st:=34) (xt:=34) (e:=47) (x:=.osl M.length 39 0 1 39) (xs:=I) (m:=1) wE wE (by simp[-qd,g3,Y,tI]) wE wC wC wC wM wM;have ae:qd K4 K1.length=some I:=x4.get (x3.get g2 wE) (fun hc=>by have:=b.lt hc;have:=x1.len;omega);have wk:=qz ((k:Int)+1) ((k+1:Nat):Int);have U:M≠[]:=fun e0=>by have:=qx g2;rw[e0] at this;simp at this
   simp[-qd,-qn,-qr,-qJ,-qO,p1,p2,p7,N,jv,qo,g,zF,qaT,cI,Y,O,g2,ZC,U,tI,hA,ae,G,fI];refine⟨k+1,wC,wC,wE,wE,(x.trans J (NewL.refl _ _)).trans x4 (fun j p=>.inr (t j p)),⟨false,Xy s'.l h false,wE⟩,d',L',o++[h],wE,wE,A.ok1,by simp[ah],?_,?_,fun j p=>?_,fun z=>by simp at z⟩
   .rw[show n-(k+1)=m from wC,<-c];simp
   .rw[sI];exact ac
   .rcases ag j p with h3|h3
    .exact t j h3
    .have:=x.len;have:=J.len;omega
 .rintro ex e K ⟨rfl,x,d,L,N,b,hL,V⟩;obtain⟨a,c⟩:=ql ((Zj (Z1 fs) qs n s.l).1);have B:(qt a).length=a.length*39:=Ks (n:=39) wE a;have vK:idFree.idFreeL (qt a)=true:=by simp
  rw[c] at b V;have hQ:∀K',Ext [] T K'->qme H fs s.l n (.vsl (decide (a=[])) (qt a) a.length,K'):=fun K' Q=>⟨qs,w,S.ok,by rw[c],xT.trans Q (fun j p=>by simp at p),FT.ext Q (fun j p=>by simp at p)⟩;rcases b with⟨rfl,z,-⟩|⟨r,m,rfl,h1,hg,rfl⟩
  .rw[z] at B;have aa:a=[]:=ky (by simp at B;omega);have:=hQ K x;rw[aa] at this;simp[-qd,-qn,-qr,-qJ,-qO,N];exact this
  .have hm:m=a.length:=wC;subst hm;have G:List.take (a.length*39) (qt a)=qt a:=qH wC;simp[-qd,-qn,-qr,-qJ,-qO,-jS,N,hg,B,vK,G];have qQ:a≠[]:=fun z=>by have:=V z;cases this
   have:=hQ (jS K [r]) ⟨by rw[QF];exact x.len,fun i hi _=>by rw[V8 (by have:=hL r wE;simp;omega)];exact x.out i hi wE⟩;rw[decide_eq_false qQ] at this;exact this
def qlZ(H:qe)(fs:List (Nat×List UInt8))(M:List Mk)(q:D×qe):Prop:=
 ∃qs,qcA (zW fs) qs/\q.1=qe4 (Z1 fs) (V6 qs M)/\Ext (fs.map (·.1)) H q.2/\FisW H.length q.2 fs
theorem q0G[MaxL]{H:qe}{J:D}{C:List D}{fs:List (Nat×List UInt8)}(F:FdsW H J C fs)(W:FisW H.length H fs)(N:fs.length<=1000)(O:∀u,u∈zW fs->u.l.length<40)(s:Sl Mk)(M:MOk s.l):
  ∃q,call cx 14 [J,(.vsl s.nil (qt s.l) s.l.length)] H=some q/\qlZ H fs s.l q:=by
 refine vx (X:=cx) (f:=14) (qlZ H fs s.l) Tryz.func14 rfl ⟨rfl,rfl⟩ ?_;have U:=qj9 s (by have:=M.len;omega);rw[M.r] at U;have hZ:(Enc.cells Vw:List D)=(qI (.bool false::VF (.int .u64 0::qI [.vsl true [] 0]))):=rfl;obtain⟨p,m⟩:=ql (qr H (Enc.cells Vw));have o:=zL m;have V:=js m;have l0:H.length<p.length:=qx V;have F0:FdsW p J C fs:=⟨F.row.ext o (fun _ _=>wE),F.len,fun y hy=>jr o.len _ (F.cl y hy),F.at_,F.nm⟩
 have W0:FisW p.length p fs:=by
  have:=W.ext o (fun _ h=>wP);exact⟨this.w,fun f g=>by have:=this.lt f g;omega,this.len,this.uni⟩
 obtain⟨⟨v,T⟩,e,l,qs,L,R,z,B,JN,d,P⟩:=qoE F0 W0 N O;simp only at R z B P;have S:=qmJ B z.len N O JN d P;obtain⟨⟨r,Q⟩,i,j,k⟩:=qoO R S s M;simp only at j k;subst j
 obtain⟨a,b,c⟩:∃(a:It)(b:Bool),qe4 (Z1 fs) (V6 qs s.l)=.tup [.agg (Enc.cells a),.bool b]:=by
  cases V6 qs s.l with
  |none=>exact⟨Vw,false,rfl⟩
  |some x=>exact⟨Qh (Z1 fs) x,true,rfl⟩
 have G:H.length∉fs.map (·.1):=fun hc=>by
  obtain⟨f,g,he⟩:=List.mem_map.1 hc;have:=W.lt f g;omega
 have A:=k.get (z.get V G) wE;have cI:∀n,(∀x,x∈(Enc.cells a:List D)->closed n x=true)=True:=fun n=>eq_true fun x hx=>VU x (List.all_eq_true.1 (Enc.free _) x hx);have Z:(Enc.cells a:List D).length=39:=wE
 have fI:idFree.idFreeL (Enc.cells a:List D)=true:=wE
 have tI:List.take 39 (Enc.cells a:List D)=Enc.cells a:=qH wE;obtain⟨Y,E⟩:=ql (qn Q H.length (Enc.cells a));have K:=vZ E;have l1:H.length<Q.length:=qx A;have g2:qd Y H.length=some (Enc.cells a):=by rw[<-E];exact zj l1
 have hQ:qlZ H fs s.l (.tup [.agg (Enc.cells a),.bool b],Y):=⟨qs,d,c.symm,(((o.mono wE).trans z (NewL.refl _ _)).trans k (fun _ h=>wP)).trans K (fun n t=>.inr (by rw[List.mem_singleton.1 t];exact qA _)),?_⟩
 .rw[c] at i;generalize (Enc.cells a:List D)=I at *;rw[hZ] at m A;simp[-qd,-qn,-qr,-qJ,-qO,Tryz.f14,m,U,e,i,cI,Z,fI,tI,A,E,g2];exact hQ
 .refine⟨fun f g=>?_,W.lt,W.len,W.uni⟩;have hl:=W.lt f g;have t:f.1∉[H.length]:=fun hc=>by have:=List.mem_singleton.1 hc;omega
  rcases B.w f g with h|h
  .exact .inl (K.get (k.get h wE) t)
  .exact .inr (K.get (k.get h wE) t)
theorem qsH{b:List UInt8}{most:Nat}:∀{l out:List Nat},out.length<=most->(KO b most l out).1.length<=most
 |[],out,h=>h
 |y::l,out,h=>by
  rw[KO];split
  .exact h
  .split
   .exact h
   .split
    .exact h
    .refine qsH ?_;simp only[zo,List.length_singleton];omega
theorem quC{b:List UInt8}{sz most:Nat}:∀{n:Nat}{out:List Nat}{a c:Nat},out.length<=most->(qat b sz most n out a c).1.length<=most
 |0,out,a,c,h=>h
 |n+1,out,a,c,h=>by
  rw[qat];split
  .exact h
  .split
   .exact h
   .split
    .exact h
    .split
     .exact h
     .have hi:=qsH (b:=b) (most:=most) (l:=(kp b a).tail) h;split
      .rename_i d f e;rw[e] at hi;exact hi
      .rename_i d e;rw[e] at hi;exact quC hi
theorem q3U(b:List UInt8):(zu b).length<=(qG b).ents:=by
 refine zJ qe2 ?_;unfold zC XQ;exact quC wE
theorem q7k{qs:List SqF}{f:Nat×List UInt8}:∃u,u∈vY qs f/\u.id=(qG f.2).seq/\(qG f.2).tseq<=u.t:=by
 obtain⟨q,a,hi⟩:∃q,q∈kA qs (qG f.2).seq/\q.id=(qG f.2).seq:=by
  unfold kA;split
  .rename_i h;obtain⟨q,a,hi⟩:=List.any_eq_true.1 h;exact⟨q,a,xl⟩
  .exact⟨_,List.mem_append_right _ (List.mem_singleton.2 rfl),rfl⟩
 refine⟨YC f.1 f.2 q,List.mem_map.2 ⟨q,a,by rw[if_pos hi]⟩,hi,?_⟩;show _<=max q.t (qG f.2).tseq;omega
theorem q7j{qs:List SqF}{f:Nat×List UInt8}{a:ID}{t:Nat}(h:∃u,u∈qs/\u.id=a/\t<=u.t):∃u,u∈vY qs f/\u.id=a/\t<=u.t:=by
 obtain⟨u,b,e,d⟩:=h
 have c:u∈kA qs (qG f.2).seq:=by
  unfold kA;split
  .exact b
  .exact Xr _ b
 refine⟨_,List.mem_map.2 ⟨u,c,rfl⟩,by rw[qhc];exact e,?_⟩;split
 .show t<=max u.t (qG f.2).tseq;omega
 .exact d
theorem qtV:∀(fs:List (Nat×List UInt8))(qs:List SqF)(a:ID)(t:Nat),((∃u,u∈qs/\u.id=a/\t<=u.t)\/∃f,f∈fs/\(qG f.2).seq=a/\(qG f.2).tseq=t)->∃u,u∈fs.foldl vY qs/\u.id=a/\t<=u.t
 |[],qs,a,t,h=>by
  rcases h with h|⟨f,e,-⟩
  .exact h
  .simp at e
 |f::fs,qs,a,t,h=>by
  refine qtV fs (vY qs f) a t ?_;rcases h with h|⟨g,b,d,c⟩
  .exact .inl (q7j h)
  .rcases List.mem_cons.1 b with rfl|b
   .left;rw[<-d,<-c];exact q7k
   .exact .inr ⟨g,b,d,c⟩
theorem qvQ{rf:D->Int->Rec}{l:List SqF}:∀(n:Nat)(M:List Mk),(Zj rf l n M).1.length<=n
 |0,_=>qA _
 |n+1,M=>by
  rw[Zj];split
  .simp
  .have:=qvQ (rf:=rf) (l:=l) n;simp only[jJ];exact Nat.succ_le_succ (this _)
def qgT(q:D×qe):Prop:=∃x:Int,jq x/\q=(.int .u64 x,[])
theorem qdZ(z:Int):jq (IntKind.u64.wrap z):=by
 simp only[IntKind.wrap,IntKind.signed,IntKind.bits];simp;unfold jq;omega
theorem qmf(a b:Int):jq (qK .u64 a b):=by
 unfold qK;exact qdZ _
theorem qj5[MaxL][TxtC](a b c d:Int)(n:Nat)(j:n<=100){x:Int}(hx:x=n):∃g f e i:Int,call cx 205 [.agg [.int .u64 a,.int .u64 b,.int .u64 c,.int .u64 d],.int .i64 x] []=some (.agg [.int .u64 g,.int .u64 f,.int .u64 e,.int .u64 i],[]):=by
 subst hx;have h:=qy3 (a,b,c,d) n j;obtain⟨⟨g,f,e,i⟩,k⟩:∃t,VO n (a,b,c,d)=t:=⟨_,rfl⟩;rw[k] at h;exact⟨g,f,e,i,h⟩
theorem qxA[MaxL][TxtC](key:ID)(s:Sl UInt8)(O:s.l.length<1000000):∃q,call cx 163 [.agg (qf key.l),(.vsl s.nil (qf s.l) s.l.length)] []=some q/\qgT q:=by
 have v:=qlv (Sl.mk false key.l wE) 0 wC (by simp only[key.h];omega) (x:=0) rfl;have y:=qlv (Sl.mk false key.l wE) 8 wC (by simp only[key.h];omega) (x:=8) rfl;refine Vk (X:=cx) (f:=163) qgT Tryz.func163 rfl ⟨rfl,rfl⟩ ?_;have p:key.l.length=16:=key.h;simp only[p] at v y;simp[Tryz.f163,v,y,p];refine Run.loopThen (fun(k:Nat) e H=>k<=s.l.length/\qi e 1=some (.vsl s.nil (qf s.l) s.l.length)/\qi e 7=some (.optr 1 4 0)/\qi e 8=some (.int .i64 k)/\∃a b c d:Int,H=[none,some [.int .u64 a,.int .u64 b,.int .u64 c,.int .u64 d]]) (fun k=>s.l.length-k) 0 ?_ ?_
 .exact⟨vp _,wE,wE,wE,_,_,_,_,rfl⟩
 rintro k e H ⟨E,r,o,t,a,b,c,d,rfl⟩;have B:=qz ((k:Int)+8) ((k+8:Nat):Int);have n:=qlv s k wC wC (x:=(k:Int)) rfl;obtain⟨m,F⟩:=ql (leN (List.take 8 (List.drop k s.l)));rw[F] at n;by_cases N:k+8<=s.l.length
 .have i:((k+8:Nat):Int)<=(s.l.length:Int):=by omega
  have g:(k:Int)+8<=(s.l.length:Int):=wC
  obtain⟨z,w,A,u,j⟩:=qj5 a b c (qK .u64 d m) 2 wC (x:=2) rfl;simp[r,o,t,B,g,n,j];exact⟨k+8,wC,wC,wC⟩
 .have i:¬((k+8:Nat):Int)<=(s.l.length:Int):=by omega
  have g:¬(k:Int)+8<=(s.l.length:Int):=wC
  obtain⟨M,G⟩:=ql (Vs .u64 (m:Int) (IntKind.u64.wrap (IntKind.u64.wrap ((s.l.length:Int).tmod 256)*2^(min 56 IntKind.u64.bits))));obtain⟨z,w,A,u,j⟩:=qj5 a b c (qK .u64 d M) 2 wC (x:=2) rfl;obtain⟨I,J,L,K,C⟩:=qj5 (qK .u64 z M) w (qK .u64 A 255) u 4 wC (x:=4) rfl;simp[r,o,t,B,g,n,G,j,C];exact⟨_,qmf _ _,rfl⟩
end Go.Ev.S
namespace Go.Ev
open Go Go.Proofs
structure Kn where
 text:List UInt8
 at_:Nat
 slot:Nat
 cnt:Nat
 nil:Bool
 arrs:List Nat
instance:Enc Kn:=⟨5,fun k=>[.str k.text,.int .u64 k.at_,.int .i64 k.slot,.int .i64 k.cnt,.vsl k.nil (qP .u64 k.arrs) k.arrs.length],fun _=>rfl,fun _=>rfl⟩
theorem Kn.cells(k:Kn):Enc.cells k=[.str k.text,.int .u64 k.at_,.int .i64 k.slot,.int .i64 k.cnt,.vsl k.nil (qP .u64 k.arrs) k.arrs.length]:=rfl
@[simp] theorem Kn.size:Enc.size Kn=5:=rfl
@[simp] theorem Kn.cl (a:Kn):(Enc.cells a).length=5:=Enc.len a
@[simp] theorem Kn.ct (a:Kn) (r:List D):(Enc.cells a++r).take 5=Enc.cells a:=qcx rfl a r
@[simp] theorem Kn.ct' (a:Kn):(Enc.cells a).take 5=Enc.cells a:=qcw rfl a
@[simp] theorem Kn.cd (a:Kn) (r:List D):(Enc.cells a++r).drop 5=r:=qcy rfl a r
@[simp] theorem Kn.el (l:List Kn):(qt l).length=l.length*5:=Ks rfl l
@[simp] theorem Kn.ed (l:List Kn) (i:Nat):(qt l).drop (i*5)=qt (l.drop i):=qav rfl l i
@[simp] theorem Kn.et (l:List Kn) (i:Nat):(qt l).take (i*5)=qt (l.take i):=qau rfl l i
@[simp high] theorem Kn.ea {l:List Kn} {i:Nat} (h:i<l.length):(qt l).drop (i*5)=Enc.cells l[i]++qt (l.drop (i+1)):=XS rfl h
@[simp high] theorem Kn.es (m:Kn) {l:List Kn} {j:Nat} (h:j<l.length):zT (qt l) (j*5) (Enc.cells m)=qt (l.set j m):=XR rfl m l h
def Jk(k:Nat):Nat:=if k<6 then 4*2^k else 256
def vq:Nat->Nat
 |0=>0
 |k+1=>vq k+Jk k
theorem qj6(k:Nat):4<=Jk k:=by
 unfold Jk;split
 .have:=Nat.one_le_two_pow (n:=k);omega
 .omega
theorem qht(k:Nat):Jk k<=256:=by
 unfold Jk;split
 .rename_i h;have:2^k<=2^5:=qfI wH wC;omega
 .omega
structure ArrOk (bl:Nat) (arrs:List Nat) (n:Nat):Prop where
 nil:arrs=[]->n=0
 lo:∀j,arrs.length=j+1->vq j<n
 hi:n<=vq arrs.length
 at_:∀(j a:Nat),arrs[j]?=some a->a+24+8*Jk j<=bl
theorem ArrOk.mono{c bl':Nat}{b:List Nat}{n:Nat}(h:ArrOk c b n)(d:c<=bl'):ArrOk bl' b n:=
 ⟨h.nil,h.lo,h.hi,fun j a e=>zJ (h.at_ j a e) d⟩
theorem ArrOk.zero(c:Nat):ArrOk c [] 0:=⟨fun _=>rfl,fun j b=>by simp at b,by simp[vq],fun j a b=>by simp at b⟩
theorem qjq{j:Nat}:vq j<vq (j+1):=by
 have:=qj6 j;simp only[vq];omega
theorem ArrOk.more{d:Nat}{b:List Nat}{n:Nat}(h:ArrOk d b n)(g:n≠vq b.length):∃j a,b.length=j+1/\b[j]?=some a/\vq j<n/\n-vq j<Jk j/\a+24+8*(n-vq j)+8<=d/\ArrOk d b (n+1):=by
 cases c:b.length with
 |zero=>
  have e:b=[]:=List.length_eq_zero_iff.1 c;exact absurd (by rw[h.nil e,c];rfl) g
 |succ j=>
  have l:=h.lo j c;have k:=h.hi;rw[c] at g k;have m:vq (j+1)=vq j+Jk j:=rfl;have f:j<b.length:=wC
  have o:=h.at_ j b[j] (qM f);refine⟨j,b[j],rfl,qM f,l,wC,wC,⟨fun e=>by rw[e] at c;simp at c,fun i hi=>?_,by rw[c];omega,h.at_⟩⟩;have:i=j:=wC
  subst this;omega
theorem ArrOk.new{f bl':Nat}{c:List Nat}(h:ArrOk f c (vq c.length)){a:Nat}(l:f<=bl')(k:a+24+8*Jk c.length<=bl'):ArrOk bl' (c++[a]) (vq c.length+1):=by
 refine⟨fun i=>by simp at i,fun j d=>?_,?_,fun j b d=>?_⟩
 .simp only[zo,jJ,kt] at d;have:j=c.length:=by omega
  subst this;omega
 .simp only[zo,jJ,kt,vq];have:=qj6 c.length;omega
 .by_cases g:j<c.length
  .rw[vD g] at d;exact zJ (h.at_ j b d) l
  .have e:=(List.getElem?_eq_some_iff.1 d).1;simp only[zo,jJ,kt] at e;have:j=c.length:=wC;subst this;simp at d;subst d;exact k
def ArrW(b:Nat)(a:List Nat)(ne:Nat):Prop:=∃n,n<=ne+1/\ArrOk b a n
theorem ArrW.mono{b bl':Nat}{a:List Nat}{ne:Nat}(h:ArrW b a ne)(e:b<=bl'):ArrW bl' a ne:=by
 obtain⟨n,d,c⟩:=h;exact⟨n,d,c.mono e⟩
structure Kn.Ok (k:Kn) (bl ds:Nat):Prop where
 at_:k.at_+64<=bl
 slot:k.slot<ds
 arr:ArrOk bl k.arrs (k.cnt-1)
 nil:k.nil=true->k.arrs=[]
 txt:k.text.length<=1000
theorem Kn.Ok.mono{k:Kn}{a bl' ds:Nat}(h:k.Ok a ds)(b:a<=bl'):k.Ok bl' ds:=⟨zJ h.at_ b,h.slot,h.arr.mono b,h.nil,h.txt⟩
structure Kn.OkF (k:Kn) (bl fs:Nat):Prop where
 at_:k.at_+40<=bl
 slot:k.slot<fs
theorem Kn.OkF.mono{k:Kn}{a bl' fs:Nat}(h:k.OkF a fs)(b:a<=bl'):k.OkF bl' fs:=⟨zJ h.at_ b,h.slot⟩
structure Jm where
 cs:List D
 b:List UInt8
 da:List Kn
 fi:List Kn
 ds:Nat
 fs:Nat
 key:Bool
 file:ID
 ft:Nat
 ne:Nat
 tl:Nat
 mn:Bool
 main:List Nat
 dv:D
 fv:D
 bi:Nat
 Ld:List Nat
 Lf:List Nat
def Jm.names(m:Jm)(q:Nat):List Nat:=q::m.bi::(m.Ld++m.Lf)
def isU(d:D):Prop:=∃v:Nat,d=.int .u64 (v:Int)/\v<18446744073709551616
structure JmW (H:qe) (q:Nat) (m:Jm):Prop where
 root:qd H q=some m.cs
 len:m.cs.length=147
 file:m.cs.take 16=qf m.file.l
 c48:m.cs[48]?=some (.int .i64 m.ds)
 c49:m.cs[49]?=some (.int .i64 m.fs)
 c50:m.cs[50]?=some (.int .i64 32768)
 c51:m.cs[51]?=some (.bool m.key)
 c52:m.cs[52]?=some (.int .u32 2)
 c53:m.cs[53]?=some (.int .u32 (if m.key then 4 else 0))
 c54:m.cs[54]?=some (.int .i64 1)
 ids:∃a b c d:ID,(m.cs.drop 55).take 64=qf a.l++(qf b.l++(qf c.l++qf d.l))
 c119:m.cs[119]?=some (.int .u64 272)
 c121:m.cs[121]?=some (.int .u64 288)
 c122:m.cs[122]?=some (.int .u64 (16*m.ds:Nat))
 c123:m.cs[123]?=some (.int .u64 m.ft)
 c124:m.cs[124]?=some (.int .u64 (16*m.fs:Nat))
 c127:m.cs[127]?=some (.int .u64 m.ne)
 c128:m.cs[128]?=some (.int .u64 m.tl)
 nums:∀i,119<=i->i<139->∃d,m.cs[i]?=some d/\isU d
 c139:∃v:Nat,m.cs[139]?=some (.int .u32 (v:Int))/\v<4294967296
 c140:∃v:Nat,m.cs[140]?=some (.int .u32 (v:Int))/\v<4294967296
 c141:∃d,m.cs[141]?=some d/\isU d
 c142:∃d,m.cs[142]?=some d/\isU d
 c143:m.cs[143]?=some (.osl m.bi m.b.length 0 m.b.length 1)
 c144:m.cs[144]?=some m.dv
 c145:m.cs[145]?=some m.fv
 c146:m.cs[146]?=some (.vsl m.mn (qP .u64 m.main) m.main.length)
 bytes:qd H m.bi=some (qf m.b)
 rowD:RowA H 5 m.dv (qt m.da) m.Ld
 rowF:RowA H 5 m.fv (qt m.fi) m.Lf
 nodup:(m.names q).Nodup
 free:∀(i:Nat)(d:D),i<143->m.cs[i]?=some d->idFree d=true
theorem qcs{cs:List D}{i:Nat}{x:D}(h:∀(j:Nat)(d:D),j<143->cs[j]?=some d->idFree d=true)(hx:i<143->idFree x=true):∀(j:Nat)(d:D),j<143->(cs.set i x)[j]?=some d->idFree d=true:=fun j d c a=>by
 by_cases b:i=j
 .subst b;rw[List.getElem?_set_self'] at a;cases hc:cs[i]? with
  |none=>rw[hc] at a;simp at a
  |some y=>
   rw[hc] at a;simp at a;subst a;exact hx c
 .rw[List.getElem?_set_ne b] at a;exact h j d c a
theorem qkA{d:D}(h:isU d):idFree d=true:=by
 obtain⟨v,rfl,_⟩:=h;rfl
structure Jm.Ok (m:Jm):Prop where
 ds:1<=m.ds/\m.ds<=64
 fs:1<=m.fs/\m.fs<=64
 ft:m.ft=288+16*m.ds+16
 bl:m.ft+16*m.fs<=m.b.length
 bmod:m.b.length % 8=0
 bmax:m.b.length<=1000000
 da:∀k,k∈m.da->k.Ok m.b.length m.ds
 fi:∀k,k∈m.fi->k.OkF m.b.length m.fs
 main:ArrW m.b.length m.main m.ne
 mn:m.mn=true->m.main=[]
 tl:m.tl<18446744073709551616
 ne:m.ne<=200
 nda:m.da.length<=1000
 nfi:m.fi.length<=1000
 cn:∀k,k∈m.da->k.cnt<=4*m.ne+4
end Go.Ev
namespace Go.Ev.S
open Go Go.Proofs Go.Ev
theorem qkv[MaxL][TxtC](v n:Nat)(F:1<=n)(C:n<=8)(m:v<18446744073709551616):call cx 108 [.int .u64 v,.int .i64 n] []=some (.vsl false (qf (QN n v)) n,[]):=by
 refine qC Tryz.func108 rfl ⟨rfl,rfl⟩ ?_;simp[Tryz.f108];refine Run.loopThen (fun(i:Nat) e H=>i<=n/\(∃d,qi e 5=some d/\Buf d H (QN i v))/\qi e 0=some (.int .u64 (v/256^i:Nat))/\qi e 1=some (.int .i64 n)/\qi e 6=some (.int .i64 i)) (fun i=>n-i) 0 ?_ ?_
 .simp[QN,Buf]
 rintro i e H ⟨hi,⟨d,r,b⟩,p,t,s⟩;by_cases u:i<n
 .have q:=zq u;have A:=qz ((i:Int)+1) ((i+1:Nat):Int);have f:=qpl i v;have j:(QN i v).length<=8:=by simp;omega
  have k:v/256^i<18446744073709551616:=Nat.lt_of_le_of_lt (Nat.div_le_self _ _) m;have B:v/256^(i+1)=v/256^i/256:=by rw[qeI,Nat.div_div_eq_div_mul]
  generalize v/256^i=x at *
  have g:(x:Int).tmod 256=((x % 256:Nat):Int):=by
   rw[Int.tmod_eq_emod_of_nonneg (Int.natCast_nonneg _)];rfl
  have h:(x:Int).tdiv 256=((x/256:Nat):Int):=by
   rw[Int.tdiv_eq_ediv_of_nonneg (Int.natCast_nonneg _)];rfl
  have a:x % 256<256:=YA _ wH
  have z:IntKind.u8.wrap ((x % 256:Nat):Int)=((UInt8.ofNat (x % 256)).toNat:Int):=by
   rw[qfH a];clear m k;generalize x % 256=y at *;rw[qeO];omega
  have w:IntKind.u64.wrap ((x/256:Nat):Int)=((x/256:Nat):Int):=by
   have:x/256<18446744073709551616:=Nat.lt_of_le_of_lt (Nat.div_le_self _ _) k;clear m k;generalize x/256=y at *;rw[qcC];omega
  generalize UInt8.ofNat (x % 256)=c at *;clear m k;generalize QN i v=l at *;have o:l.length+1<=140737488355328:=zJ (Nat.add_le_add_right j 1) wH;rcases b with⟨rfl,rfl,rfl⟩|⟨rfl,rfl⟩
  .simp[r,p,t,s,q,A,g,h,z,w,qF,-Int.natCast_emod,-Int.natCast_ediv];clear o;exact⟨i+1,wC,wC,.inr (by simp[f,qf]),by rw[B],rfl⟩
  .simp[r,p,t,s,q,A,g,h,z,w,qF,o,-Int.natCast_emod,-Int.natCast_ediv];clear o;exact⟨i+1,wC,wC,.inr (by simp[f,qf]),by rw[B],rfl⟩
 .have q:=zw u;have E:i=n:=by omega
  subst E;have j:(QN i v).length=i:=qpm i v;generalize QN i v=l at *;rcases b with⟨rfl,rfl,rfl⟩|⟨rfl,rfl⟩
  .simp at j;omega
  .simp[r,p,t,s,j,qH]
theorem qog(t:Int×Int×Int):jq (qbF t):=by
 obtain⟨x,y,z⟩:=t;exact qdZ _
theorem qpe:∀(n:Nat)(l:List UInt8)(t:Int×Int×Int),l.length<=n->jq (KM l t)
 |n,l,t,h=>by
  by_cases a:12<l.length
  .rw[qky a];cases n with
   |zero=>omega
   |succ n=>exact qpe n _ _ xA
  .by_cases b:l.length=0
   .rw[qkx b];exact qog _
   .obtain⟨⟨x,z,y⟩,c⟩:∃q,qe5 (JW l t)=q:=⟨_,rfl⟩;rw[qkz a b c];exact qog _
theorem q0Q(l:List UInt8):jq (YR l):=qpe l.length _ _ (qA _)
theorem qka[MaxL][TxtC](a:Bool)(key:ID)(s:Sl UInt8)(b:s.l.length<1000000):∃q,call cx 102 [.bool a,.agg (qf key.l),(.vsl s.nil (qf s.l) s.l.length)] []=some q/\qgT q:=by
 cases a with
 |true=>
  obtain⟨q,h,x,hx,rfl⟩:=qxA key s b;refine⟨_,qC Tryz.func102 rfl ⟨rfl,rfl⟩ ?_,x,hx,rfl⟩;simp[Tryz.f102,h]
 |false=>
  have h:=qnx s wC;refine⟨_,qC Tryz.func102 rfl ⟨rfl,rfl⟩ ?_,YR s.l,q0Q _,rfl⟩;simp[Tryz.f102,h]
def qwh(n:Nat)(q:D×qe):Prop:=∃s:List UInt8,s.length=n/\q=(.vsl (decide (n=0)) (qf s) n,[])
def q7s(n:Nat)(q:D×qe):Prop:=∃s:List UInt8,s.length=n/\q=(.osl 0 n 0 n 1,[some (qf s)])
def JE(cs:List D):Prop:=∀d,d∈cs->isU d
def q7t(d:D)(H:qe)(l:List UInt8):Prop:=(d=.vsl true [] 0/\l=[]/\H=[])\/(d=.osl 0 l.length 0 l.length 1/\H=[some (qf l)]/\l≠[])
def NumsA(cs:List D)(i:Nat)(l:List UInt8):Prop:=∀(j:Nat)(v:Nat),j<i->cs[j]?=some (.int .u64 (v:Int))->leN ((l.drop (8*j)).take 8)=v
theorem NumsA.app{cs:List D}{i:Nat}{l B:List UInt8}(h:NumsA cs i l)(d:l.length=8*i)(f:B.length=8)(b:∀v:Nat,cs[i]?=some (.int .u64 (v:Int))->leN B=v):NumsA cs (i+1) (l++B):=fun j v e a=>by
 by_cases c:j<i
 .rw[List.drop_append_of_le_length wC,List.take_append_of_le_length xA];exact h j v c a
 .have:j=i:=by omega
  subst this;rw[VD d,qH wC];exact b v a
theorem qou[MaxL][TxtC](m:Bool)(cs:List D)(G:JE cs)(E:m=true->cs=[])(N:cs.length<=100000)(F:1<=cs.length):∃q,call cx 109 [.vsl m cs cs.length] []=some q/\∃s:List UInt8,s.length=8*cs.length/\NumsA cs cs.length s/\q=(.osl 0 (8*cs.length) 0 (8*cs.length) 1,[some (qf s)]):=by
 refine Vk (X:=cx) (f:=109) (fun q=>∃s:List UInt8,s.length=8*cs.length/\NumsA cs cs.length s/\q=(.osl 0 (8*cs.length) 0 (8*cs.length) 1,[some (qf s)])) Tryz.func109 rfl ⟨rfl,rfl⟩ ?_;simp[Tryz.f109];refine Run.loopThen (fun(i:Nat) e H=>i<=cs.length/\qi e 0=some (.vsl m cs cs.length)/\qi e 4=some (.int .i64 i)/\∃d l,qi e 3=some d/\q7t d H l/\l.length=8*i/\NumsA cs i l) (fun i=>cs.length-i) 0 ?_ ?_
 .exact⟨vp _,wE,wE,_,[],wE,.inl ⟨rfl,rfl,rfl⟩,rfl,fun j v K=>absurd K (Nat.not_lt_zero _)⟩
 rintro i e H ⟨hi,r,o,d,l,p,A,a,z⟩;by_cases c:i<cs.length
 .have n:=zq c;have k:=qz ((i:Int)+1) ((i+1:Nat):Int);have L:m=false:=Bool.eq_false_iff.2 fun h=>by rw[E h] at c;simp at c
  subst L;obtain⟨v,x,t⟩:=G _ (vC c);have C:cs.drop i=.int .u64 (v:Int)::cs.drop (i+1):=by rw[jo c,x]
  have y:call cx 108 [.int .u64 v,.int .i64 8] []=some (.vsl false (qf (QN 8 v)) 8,[]):=qkv v 8 wC wC t;have b:(QN 8 v).length=8:=wE
  have g:NumsA cs (i+1) (l++QN 8 v):=z.app a wE fun w k=>by
   rw[qM c,x] at k;simp only[qy,D.int.injEq,true_and] at k;have:v=w:=wC;subst this;rw[qk3];exact qeJ t
  generalize QN 8 v=B at *;rcases A with⟨rfl,rfl,rfl⟩|⟨rfl,rfl,u⟩
  .have I:i=0:=(by simp at a;omega);simp[r,p,o,n,C,y,k,qF,b];exact⟨i+1,wC,wC,wC,B,.inr ⟨by rw[b],wE,fun h=>by rw[h] at b;simp at b⟩,wC,xD⟩
  .have M:l.length+8<=140737488355328:=wC;simp[r,p,o,n,C,y,k,qF,b,M];exact⟨i+1,wC,wC,wC,l++B,.inr ⟨by simp[b],wV,by simp[u]⟩,by simp[b];omega,g⟩
 .have n:=zw c;have J:i=cs.length:=by omega
  subst J;rcases A with⟨rfl,rfl,rfl⟩|⟨rfl,rfl,u⟩
  .simp at a;omega
  .simp[r,p,o,n,a];exact⟨l,a,z,rfl⟩
theorem qcX[MaxL][TxtC](a:Bool)(cs:List D)(c:JE cs)(d:a=true->cs=[])(f:cs.length<=100000)(b:1<=cs.length):∃q,call cx 109 [.vsl a cs cs.length] []=some q/\q7s (8*cs.length) q:=by
 obtain⟨q,h,s,g,-,e⟩:=qou a cs c d f b;exact⟨q,h,s,g,e⟩
def QA(n:Nat):Nat:=(n+7)/8*8
theorem qnI[MaxL][TxtC](k:Nat)(M:1<=k/\k<=7)(m:Bool)(b:List UInt8)(_:m=true->b=[])(R:b.length<=1000000):∃q,call cx 155 [.int .i64 k,.vsl m (qf b) b.length] []=some q/\qwh (QA (16+b.length)) q:=by
 refine Vk (X:=cx) (f:=155) (qwh _) Tryz.func155 rfl ⟨rfl,rfl⟩ ?_;have F:¬(k:Int)<1:=wC
 have z:¬(7:Int)<(k:Int):=wC
 obtain⟨N,o⟩:∃N,N=16+b.length:=⟨_,rfl⟩;rw[<-o];have E:=qz (16+(b.length:Int)) (N:Int);have w:=zf (N:Int) (N:Int);obtain⟨c,hc⟩:∃c:UInt8,(k:Int) % 256=(c.toNat:Int):=⟨UInt8.ofNat k,by rw[qfH (by simp only[UInt8.size];omega)];omega⟩
 obtain⟨q,u,s,G,rfl⟩:=qcX false [.int .u64 (N:Int)] (by
  intro d I;rw[List.mem_singleton.1 I];exact⟨_,rfl,wC⟩) wE wE wE
 have a:s.length=8:=G;simp at u;have C:16+b.length<=140737488355328:=wC
 have x:IntKind.u8.wrap (k:Int)=(c.toNat:Int):=by
  rw[<-hc,qeO]<;>omega
 have v:D.int IntKind.u8 0=D.int IntKind.u8 ((0:UInt8).toNat:Int):=rfl;simp[Tryz.f155,F,z,E,w,x,u,a,qF,C];refine Run.loopThen (fun(j:Nat) e H=>N<=j/\j<=QA N/\∃l t,l.length=j/\H=some (qf l)::t/\qi e 5=some (.osl 0 j 0 j 1)) (fun j=>QA N-j) N ?_ ?_
 .refine⟨qA _,xj,c::0::0::0::0::0::0::0::(s++b),_,by simp[a];omega,by simp[qf];exact rfl,?_⟩;simp[o]
 rintro j e H ⟨O,n,l,t,i,rfl,p⟩;have Q:QA N<=N+7:=xj
 have r:(j:Int).tmod 8=((j % 8:Nat):Int):=by
  rw[Int.tmod_eq_emod_of_nonneg (Int.natCast_nonneg _)];rfl
 by_cases B:j % 8=0
 .have h:j=QA N:=by unfold QA at n⊢;omega
  have L:QA N≠0:=wC
  have A:(j:Int) % 8=0:=wC
  simp[p,r,B,i];have J:List.take j (qf l)=qf l:=qH wG;refine⟨l,wC,?_⟩;rw[<-h,decide_eq_false wC]
 .have P:j<QA N:=by unfold QA at n⊢;omega
  have g:¬(j:Int) % 8=0:=wC
  have y:j+1<=140737488355328:=wC
  simp[p,r,g,i,y,qF];exact⟨j+1,wC,wC,wC,l++[0],by simp[i],wV,rfl⟩
end Go.Ev.S
