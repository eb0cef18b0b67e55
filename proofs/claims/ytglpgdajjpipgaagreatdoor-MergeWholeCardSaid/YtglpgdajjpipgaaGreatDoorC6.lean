import Derived.Test.YtglpgdajjpipgaaGreatDoorC5
set_option maxHeartbeats 8000000
set_option maxRecDepth 10000
namespace Go.Ev.S
open Go Go.Proofs Go.Ev
def hdZ:List D:=.int .u32 0:: .int .u32 0:: .int .i64 0::(qf (List.replicate 64 0)++(List.replicate 21 (.int .u64 0)++[.int .u32 0,.int .u32 0,.int .u64 0]))
def headD(b:List UInt8):D:=.agg (if vx b=0 then Enc.cells (qH b) else hdZ)
theorem q3n(h:HdP):(Enc.cells h)[1]=.int .u32 (h.incompat:Nat):=xr
theorem q3m(h:HdP):(Enc.cells h)[2]=.int .i64 (h.state:Nat):=xr
theorem qfo(h:HdP)(i:Nat)(hi:i<21)(a:67+i<(Enc.cells h).length):(Enc.cells h)[67+i]=.int .u64 (h.g i:Nat):=qf9 (h.dn hi) a
theorem qbo{b:List UInt8}{c:Nat}(h:vx b=c)(a:c≠0):headD b=.agg hdZ:=by
 unfold headD;rw[h,if_neg a]
theorem qtp{b:List UInt8}(h:vx b=0):headD b=.agg (Enc.cells (qH b)):=by
 unfold headD;rw[if_pos h]
theorem q2X[MaxL](b:Sl UInt8)(hl:b.l.length<=1000000):call cx 116 [(.vsl b.nil (qf b.l) b.l.length)] []=some (.tup [headD b.l,.int .i64 (vx b.l:Nat)],[]):=by
 have t:hdZ=hdZ:=rfl
 conv at t=>rhs;simp[hdZ,qf,List.replicate]
 refine qC Tryz.func116 rfl ⟨rfl,rfl⟩ ?_;by_cases O:b.l.length<272
 .have o:vx b.l=22:=by unfold vx;rw[if_pos O]
  have c:(b.l.length:Int)<272:=wC
  rw[qbo o wH,o,t];simp[Tryz.f116,c]
 have c:¬(b.l.length:Int)<272:=wC
 have a:=q6j b signL wC wH wH;by_cases H:b.l.take 8≠signL
 .have o:vx b.l=6:=by unfold vx;rw[if_neg O,if_pos H]
  have P:(b.l.take signL.length==signL)=false:=by simp only[beq_eq_false_iff_ne];exact H
  rw[P] at a;replace a:call cx 174 [(.vsl b.nil (qf b.l) b.l.length),.vsl false [.int .u8 76,.int .u8 80,.int .u8 75,.int .u8 83,.int .u8 72,.int .u8 72,.int .u8 82,.int .u8 72] 8] []=some (.bool false,[]):=a;rw[qbo o wH,o,t];simp[Tryz.f116,c,a]
 have P:(b.l.take signL.length==signL)=true:=by simp only[beq_iff_eq];exact Classical.not_not.1 H
 rw[P] at a;replace a:call cx 174 [(.vsl b.nil (qf b.l) b.l.length),.vsl false [.int .u8 76,.int .u8 80,.int .u8 75,.int .u8 83,.int .u8 72,.int .u8 72,.int .u8 82,.int .u8 72] 8] []=some (.bool true,[]):=a;have o:vx b.l=hdC (qH b.l) b.l.length:=by unfold vx;rw[if_neg O,if_neg H]
 have q:=qyY b hl wC;have m:=qfp b.l;obtain⟨h,X⟩:=ql (qH b.l);rw[X] at q o m;have p:=qto h (m 0) (m 1);have i1:=q3n h;have i2:=q3m h;have g0:=qfo h 0 wC wE;have g1:=qfo h 1 wC wE;have g2:=qfo h 2 wC wE;have Z:=qfo h 3 wC wE;have g4:=qfo h 4 wC wE;have g5:=qfo h 5 wC wE;have s:=h.d1;have w:=h.d2;have v:=h.dn (i:=0) wC;have z:=h.dn (i:=1) wC;have L:=h.dn (i:=2) wC;have M:=h.dn (i:=3) wC;have U:=h.dn (i:=4) wC;have S:=h.dn (i:=5) wC;simp only[Nat.reduceAdd,Nat.add_zero] at g0 g1 g2 Z g4 g5 v z L M U S;have W:h.endN<18446744073709551616:=by unfold HdP.endN;split<;>omega
 have C:=qte h (m 0) (h.g 2) (h.g 3) h.endN (m 2) (m 3) W;have I:=qte h (m 0) (h.g 4) (h.g 5) h.endN (m 4) (m 5) W;by_cases u:qe9 .u32 h.incompat 4≠0
 .have e:vx b.l=7:=by rw[o];unfold hdC;rw[if_pos u]
  rw[qbo e wH,e,t];have d:(qe9 .u32 h.incompat 4 !=0)=true:=by simp only[bne_iff_ne,ne_eq];exact u
  simp[Tryz.f116,c,a,q,p,s,d]
 have d:(qe9 .u32 h.incompat 4 !=0)=false:=by simp only[bne_eq_false_iff_eq];exact Classical.not_not.1 u
 by_cases B:2<h.state
 .have e:vx b.l=8:=by rw[o];unfold hdC;rw[if_neg u,if_pos B]
  rw[qbo e wH,e,t];have j:(2:Int)<(h.state:Int):=wC
  simp[Tryz.f116,c,a,q,p,s,d,w,j]
 have j:¬(2:Int)<(h.state:Int):=wC
 have Q:((h.g 0:Nat):Int).tmod 8=((h.g 0 % 8:Nat):Int):=rfl;have Y:((h.g 1:Nat):Int).tmod 8=((h.g 1 % 8:Nat):Int):=rfl;by_cases E:h.g 0<272\/h.g 0 % 8≠0\/h.g 1 % 8≠0
 .have e:vx b.l=5:=by rw[o];unfold hdC;rw[if_neg u,if_neg B,if_pos E]
  rw[qbo e wH,e,t];by_cases a1:h.g 0<272
  .have f:((h.g 0:Nat):Int)<272:=wC;simp[Tryz.f116,c,a,q,p,s,d,w,j,v,f]
  have f:¬((h.g 0:Nat):Int)<272:=wC
  by_cases a2:h.g 0 % 8≠0
  .have k:(((h.g 0:Nat):Int).tmod 8 !=0)=true:=(by rw[Q];simp only[bne_iff_ne,ne_eq];omega);simp[Tryz.f116,c,a,q,p,s,d,w,j,v,f,k]
  have k:(((h.g 0:Nat):Int).tmod 8 !=0)=false:=by rw[Q];simp only[bne_eq_false_iff_eq];omega
  have n:(((h.g 1:Nat):Int).tmod 8 !=0)=true:=by rw[Y];simp only[bne_iff_ne,ne_eq];omega
  simp[Tryz.f116,c,a,q,p,s,d,w,j,v,f,k,z,n]
 have f:¬((h.g 0:Nat):Int)<272:=wC
 have k:(((h.g 0:Nat):Int).tmod 8 !=0)=false:=by rw[Q];simp only[bne_eq_false_iff_eq];omega
 have n:(((h.g 1:Nat):Int).tmod 8 !=0)=false:=by rw[Y];simp only[bne_eq_false_iff_eq];omega
 have G:=zg (b.l.length:Int) (b.l.length:Int);by_cases J:h.endC=false
 .have e:vx b.l=2:=by rw[o];unfold hdC;rw[if_neg u,if_neg B,if_neg E,if_pos (.inl J)]
  rw[qbo e wH,e,t];rw[J] at p;simp[Tryz.f116,c,a,q,p,s,d,w,j,v,f,k,z,n]
 have R:h.endC=true:=by simpa using J
 rw[R] at p;by_cases K:b.l.length<h.endN
 .have e:vx b.l=2:=by rw[o];unfold hdC;rw[if_neg u,if_neg B,if_neg E,if_pos (.inr K)]
  rw[qbo e wH,e,t];have r:=zn K;simp[Tryz.f116,c,a,q,p,s,d,w,j,v,f,k,z,n,G,r]
 have r:=zq K;have F:¬(h.endC=false\/b.l.length<h.endN):=by rintro(h|h);exact J h;exact K h
 obtain⟨N,x⟩:=ql (qbE (h.g 0) (h.g 2) (h.g 3) h.endN);obtain⟨T2,V⟩:=ql (qbE (h.g 0) (h.g 4) (h.g 5) h.endN);rw[x] at C;rw[V] at I;by_cases T:N≠0
 .have e:vx b.l=N:=by rw[o];unfold hdC;rw[if_neg u,if_neg B,if_neg E,if_neg F,x,if_pos T]
  rw[qbo e T,e,t];have y:((N:Int) !=0)=true:=VJ;simp[Tryz.f116,c,a,q,p,s,d,w,j,v,f,k,z,n,G,r,L,M,C,y]
 have y:N=0:=wC
 have e:vx b.l=T2:=by rw[o];unfold hdC;rw[if_neg u,if_neg B,if_neg E,if_neg F,x,if_neg T,V]
 rw[y] at C;by_cases d7:T2≠0
 .rw[qbo e d7,e,t];have A:((T2:Int) !=0)=true:=VJ;simp[Tryz.f116,c,a,q,p,s,d,w,j,v,f,k,z,n,G,r,L,M,C,U,S,I,A]
 .have A:T2=0:=by omega
  rw[A] at e I;rw[qtp e,e,X];simp[Tryz.f116,c,a,q,p,s,d,w,j,v,f,k,z,n,G,r,L,M,C,U,S,I]
def zL(b:List UInt8):Sl UInt8:=⟨false,b.take (qH b).endN,wE⟩
def qej(b:List UInt8):D:=if vx b=0 then .vptr (qW (zL b) (qH b)) else .nilp
theorem qtq{b:List UInt8}(h:vx b=0):(qH b).endC=true/\(qH b).endN<=b.length/\272<=b.length/\272<=(qH b).endN:=by
 unfold vx at h;split at h
 · omega
 split at h
 · omega
 unfold hdC at h;split at h
 · omega
 split at h
 · omega
 split at h
 · omega
 split at h
 · omega
 rename_i j f i e g c
 have a:(qH b).endC=true:=by
  cases d:(qH b).endC with
  |true=>rfl
  |false=>exact absurd (.inl d) c
 refine⟨a,wC,wC,?_⟩;unfold HdP.endC at a;unfold HdP.endN;simp at a;rw[if_pos a];omega
theorem qm9{k:D->Option (D×List Nat)}:∀{l:List D},idFree.idFreeL l=true->kg (fun x=>if idFree x=true then some (x,[]) else k x) l=some (l,[])
 |[],_=>rfl
 |d::l,h=>by
  simp only[idFree.idFreeL,zX] at h;simp only[kg,qm9 h.2,h.1,if_true,Jd]
theorem qtr:hdZ.length=91:=rfl
theorem qts:idFree.idFreeL hdZ=true:=by
 simp[hdZ,idFree,Qv]
theorem q3o(n:Nat):(∀x,x∈hdZ->closed n x=true)=True:=eq_true fun x hx=>qi7 n x (List.all_eq_true.1 (by rw[<-Qv];exact qts) x hx)
theorem q6z[MaxL](b:Sl UInt8)(m:b.l.length<=1000000):call cx 67 [(.vsl b.nil (qf b.l) b.l.length)] []=some (.tup [qej b.l,.int .i64 (vx b.l:Nat)],[]):=by
 have d:=q2X b m;refine qC Tryz.func67 rfl ⟨rfl,rfl⟩ ?_;by_cases a:vx b.l=0
 .obtain⟨o,p,q,r⟩:=qtq a;have g:=qto (qH b.l) (qfp _ _) (qfp _ _);have e:=qlK (zL b.l) (by simp[zL];omega);rw[o] at g;rw[qtp a,a] at d;have h:b.nil=false:=Sl.nn (i:=0) wC;rw[h] at d;unfold qej;rw[if_pos a,a];simp only[qW];simp only[zL,kZ,if_false] at e⊢;have f:(b.l.take (qH b.l).endN).length=(qH b.l).endN:=by simp;omega
  rw[f] at e⊢;have j:List.take (qH b.l).endN (qf b.l)=qf (b.l.take (qH b.l).endN):=qem _ _;generalize (qH b.l).endN=n at *;have n1:(0:Int)<=(n:Int)/\(n:Int)<=(b.l.length:Int):=wC
  simp[Tryz.f67,h,d,g,e,j,n1,p,qm9]
 .have k:(((vx b.l:Nat):Int) !=0)=true:=VJ;rw[qbo rfl a] at d;unfold qej;rw[if_neg a];generalize vx b.l=c at *;simp[Tryz.f67,d,k,qtr,qts,q3o]
def qa0(b:List UInt8):List D:=[.vptr (qW (zL b) (qH b)),VU (XU (zL b).l (qH b)).1,.int .i64 ((XU (zL b).l (qH b)).2:Nat),.vsl true [] 0,.bool false]
theorem q11[MaxL](b:Sl UInt8)(h:b.l.length<=1000000):call cx 31 [(.vsl b.nil (qf b.l) b.l.length)] []=if vx b.l=0 then some (.tup [.optr 0 5 0,.int .i64 0],[some (qa0 b.l)]) else some (.tup [.nilp,.int .i64 (vx b.l:Nat)],[]):=by
 have d:=q6z b h;by_cases a:vx b.l=0
 .obtain⟨m,p,k,o⟩:=qtq a;have f:=q4F (zL b.l) (qH b.l) (by simp[zL];omega) (qfp b.l 8) (qfp b.l 11);have e:qej b.l=.vptr (qW (zL b.l) (qH b.l)):=by unfold qej;rw[if_pos a]
  rw[e,a] at d;rw[if_pos a];unfold qa0;have j:idFree.idFreeL (qW (zL b.l) (qH b.l))=true:=by simp[qW,idFree.idFreeL,idFree]
  generalize qW (zL b.l) (qH b.l)=V at *;generalize XU (zL b.l).l (qH b.l)=R at *;obtain⟨n,i⟩:=ql (decide (R.1=[]));unfold VU at *;rw[i] at f⊢;refine qC Tryz.func31 rfl ⟨rfl,rfl⟩ ?_;simp[Tryz.f31,d,f]
 .have g:(((vx b.l:Nat):Int) !=0)=true:=VJ;have e:qej b.l=.nilp:=by unfold qej;rw[if_neg a]
  rw[e] at d;rw[if_neg a];generalize vx b.l=c at *;refine qC Tryz.func31 rfl ⟨rfl,rfl⟩ ?_;simp[Tryz.f31,d,g]
theorem qhR[MaxL]{H:qe}{q:Nat}{b:List UInt8}{r:List D}(t:r.length=4)(v:qd H q=some (.vptr (qW (zL b) (qH b))::r)):∃T,call cx 13 [.optr q 5 0] H=some (.agg (Enc.cells (qH b)),T)/\Ext [] H T:=by
 have m:hdZ=hdZ:=rfl
 conv at m=>rhs;simp[hdZ,qf,List.replicate]
 have k:=qmh (zL b) (qH b);generalize qW (zL b) (qH b)=V at *;obtain⟨p,h⟩:=ql (H.length);obtain⟨l,d⟩:=ql (qr H hdZ);have f:=zJ d;have o:=f.get v wE;have j:qd l p=some hdZ:=by rw[<-d,<-h,zo]
 have s:=qtr;obtain⟨C,e⟩:=ql (Enc.cells (qH b));have w:C.length=91:=by rw[<-e];simp
 have a:idFree.idFreeL C=true:=by rw[<-e];simp
 have y:shift.shiftL p C=C:=qaK _ _ a;rw[e] at k⊢;obtain⟨T,c⟩:=ql (qn l p C);have x:=kc c j;have g:=zcb a;have n:C++List.drop 91 hdZ=C:=by rw[List.drop_of_length_le wC,Jd]
 have u:List.take 91 C=C:=qJ wC;rw[m] at d;refine⟨T,jy Tryz.func13 rfl ⟨rfl,rfl⟩ ?_,?_⟩
 .simp[-qd,-qn,-qr,Tryz.f13,k,h,d,o,j,w,a,c,x,g,n,s,u,t]
 .exact⟨by rw[<-c,kK];exact f.len,fun i hi _=>by rw[<-c,zW wC];exact f.out i hi wE⟩
theorem qk7{b:List UInt8}{most:Nat}:∀{l out:List Nat}{x:Nat},x∈(KV b most l out).1->x∈out\/x<b.length
 |[],out,x,h=>.inl h
 |y::l,out,x,h=>by
  rw[KV] at h;split at h
  .exact .inl h
  .split at h
   .exact .inl h
   .rename_i e d;split at h
    .exact .inl h
    .rcases qk7 h with c|c
     .rcases List.mem_append.1 c with a|a
      .exact .inl a
      .rw[List.mem_singleton.1 a];right;unfold Ym at d;simp at d;omega
     .exact .inr c
theorem quz{b:List UInt8}{sz most:Nat}:∀{n:Nat}{out:List Nat}{a c x:Nat},x∈(qa1 b sz most n out a c).1->x∈out\/x<b.length
 |0,out,a,c,x,h=>.inl h
 |n+1,out,a,c,x,h=>by
  rw[qa1] at h;split at h
  .exact .inl h
  .split at h
   .exact .inl h
   .split at h
    .exact .inl h
    .split at h
     .exact .inl h
     .split at h
      .rename_i d g e;have:=qk7 (b:=b) (most:=most) (l:=(kp b a).tail) (out:=out) (x:=x) (by rw[e];exact h);exact this
      .rename_i d e;rcases quz h with f|f
       .exact qk7 (b:=b) (most:=most) (l:=(kp b a).tail) (out:=out) (x:=x) (by rw[e];exact f)
       .exact .inr f
def zD(b:List UInt8):List Nat:=(XU (zL b).l (qH b)).1
theorem q6q{b:List UInt8}{x:Nat}(h:x∈zD b):x<b.length:=by
 rcases quz h with a|a
 .simp at a
 .refine vh a ?_;simp[zL];omega
def Zy(b:List UInt8)(g kn:D):List D:=[.vptr (qW (zL b) (qH b)),VU (zD b),.int .i64 ((XU (zL b).l (qH b)).2:Nat),g,kn]
theorem qtZ(b:List UInt8):qa0 b=Zy b (.vsl true [] 0) (.bool false):=rfl
theorem q2z[MaxL]{H:qe}{q:Nat}{b:List UInt8}{g kn:D}(a:qd H q=some (Zy b g kn)){i:Nat}(hi:i<(zD b).length)(_:(zD b).length<=1000000){x:Int}(hx:x=i):call cx 123 [.optr q 5 0,.int .i64 x] H=some (.tup [.int .u64 ((zD b)[i]:Nat),.int .i64 0],H):=by
 subst hx;have d:¬zD b=[]:=fun h=>by rw[h] at hi;simp at hi
 unfold Zy VU at a
 have f:(zi (zD b)).drop i=.int .u64 ((zD b)[i]:Nat)::(zi (zD b)).drop (i+1):=by
  rw[zZ xw];simp[zi]
 have c:(i:Int)<((zD b).length:Int):=wC
 have e:¬(i:Int)<0:=wC
 have j:¬((zD b).length:Int)<=(i:Int):=wC
 generalize (zD b)[i]=y at *;refine jy Tryz.func123 rfl ⟨rfl,rfl⟩ ?_;simp[-qd,-qn,-qr,Tryz.f123,a,d,f,c,e,j]
theorem q3p(b:List UInt8):(qH b).incompat<4294967296:=qmo b 12
theorem qgp[MaxL]{H:qe}{q:Nat}{b:List UInt8}{g kn:D}(B:qd H q=some (Zy b g kn)){i:Nat}(hi:i<(zD b).length)(w:(zD b).length<=1000000)(G:b.length<=1000000){x:Int}(hx:x=i):
  ∃T,call cx 73 [.optr q 5 0,.int .i64 x] H=some (.tup [.agg (ZP (zL b).l (qH b) (zD b)[i]),.int .i64 (Qe (zL b).l (qH b) (zD b)[i]:Nat)],T)/\Ext [] H T:=by
 have z:=q6q (vQ hi);have r:(zL b).l.length<=1000000:=by simp[zL];omega
 have v:=qwk (zL b) (qH b) (q3p b) r (zD b)[i] wC;have e:=qjJ (zL b).l (qH b) (zD b)[i];have a:=qjK (zL b).l (qH b) (zD b)[i];obtain⟨p,s⟩:=ql (H.length);obtain⟨o,j⟩:=ql (qr H Vf);have k:=zJ j;have d:=k.get B wE;have u:=d;unfold Zy at u;obtain⟨y,t⟩:=ql ((zD b)[i]);rw[t] at z v e a⊢;generalize ZP (zL b).l (qH b) y=R at *;generalize Qe (zL b).l (qH b) y=c at *;generalize qW (zL b) (qH b)=V at *;have m:qd o p=some Vf:=by rw[<-j,<-s,zo]
 have f:=q2z (b:=b) (g:=g) (kn:=kn) (H:=o) d hi w hx;rw[t] at f;have E:=zsh a;have A:List.take 20 R=R:=qJ wC;have F:List.drop 20 R=[]:=List.drop_of_length_le wC;have n:=zcb a;obtain⟨T,h⟩:=ql (qn o p R);have C:=kc h m;simp only[Vf] at j m;refine⟨T,jy Tryz.func73 rfl ⟨rfl,rfl⟩ ?_,?_⟩
 .simp[-qd,-qn,-qr,Tryz.f73,s,j,f,u,v,m,e,a,A,n,h,C]
 .exact⟨by rw[<-h,kK];exact k.len,fun i hi _=>by rw[<-h,zW wC];exact k.out i hi wE⟩
def jQ(l:List Nat):List D:=l.map fun i=>.int .i64 (i:Nat)
theorem qkE(l:List Nat):(jQ l).all idFree=true:=by
 rw[qgX];intro x hx;obtain⟨c,_,rfl⟩:=List.mem_map.1 hx;rfl
theorem qtc[MaxL](l:List Nat)(i:l.length<=1000000):call cx 122 [if l=[] then .vsl true [] 0 else .vsl false (jQ l) l.length] []=if l=[] then some (.vsl true [] 0,[]) else some (.osl 0 l.length 0 l.length 1,[some (jQ l)]):=by
 by_cases h:l=[]
 .rw[if_pos h,if_pos h];refine qC Tryz.func122 rfl ⟨rfl,rfl⟩ ?_;simp[Tryz.f122]
 .rw[if_neg h,if_neg h];have f:l.length*8<=140737488355328:=by omega
  have d:l.length<=140737488355328:=wC
  have c:(jQ l).length=l.length:=by simp[jQ]
  have a:=qkE l;have e:=zfl a;have b:=zfa a;have g:List.take l.length (jQ l)=jQ l:=qJ wC;generalize jQ l=L at *;refine qC Tryz.func122 rfl ⟨rfl,rfl⟩ ?_;simp[Tryz.f122,qF,f,d,c,b]
def Zf(l:List Nat):D:=.vsl (decide (l=[])) (jQ l) l.length
theorem q2A(l:List Nat)(x:Nat):jQ (l++[x])=jQ l++[.int .i64 (x:Nat)]:=by simp[jQ]
theorem qkD(l:List Nat):(jQ l).length=l.length:=by simp[jQ]
def zC(b:List UInt8):List Nat:=XR (zL b).l (qH b) (zD b) 0 0
theorem qy3{b:List UInt8}{h:HdP}{a:Nat}(hc:Qe b h a=0):∃r,ZP b h a=.int .u64 (qU (qR b a) 0:Nat)::r:=by
 unfold ZP;rw[if_pos hc,Rec.cells];exact⟨_,rfl⟩
theorem qy4{b:List UInt8}{h:HdP}{a:Nat}(hc:¬Qe b h a=0):∃r,ZP b h a=.int .u64 0::r:=by
 unfold ZP;rw[if_neg hc];exact⟨_,rfl⟩
theorem qkN{b:List UInt8}{h:HdP}:∀{l:List Nat}{i last x:Nat},x∈XR b h l i last->∃j,∃d:j<l.length,x=i+j/\Qe b h l[j]=0
 |[],i,last,x,hx=>by simp[XR] at hx
 |a::l,i,last,x,hx=>by
  rw[XR] at hx;split at hx
  .rename_i hc;rcases List.mem_cons.1 hx with rfl|hx
   .exact⟨0,wE,wC,hc.1⟩
   .obtain⟨j,d,rfl,c⟩:=qkN hx;exact⟨j+1,wG,wC,c⟩
  .obtain⟨j,d,rfl,c⟩:=qkN hx;exact⟨j+1,wG,wC,c⟩
theorem qty{b:List UInt8}{x:Nat}(hx:x∈zC b):∃a:x<(zD b).length,Qe (zL b).l (qH b) (zD b)[x]=0:=by
 obtain⟨j,d,e,c⟩:=qkN hx;have:x=j:=wC
 subst this;exact⟨d,c⟩
theorem qex{b:List UInt8}{h:HdP}:∀{l:List Nat}{i last:Nat},(XR b h l i last).length<=l.length
 |[],i,last=>by simp[XR]
 |a::l,i,last=>by
  rw[XR];split
  .simp only[jA];have:=qex (b:=b) (h:=h) (l:=l) (i:=i+1) (last:=qU (qR b a) 0);omega
  .simp only[jA];have:=qex (b:=b) (h:=h) (l:=l) (i:=i+1) (last:=last);omega
theorem qsC{b:List UInt8}{most:Nat}:∀{l out:List Nat},out.length<=out.getLastD 0/\out.getLastD 0<=b.length->(KV b most l out).1.length<=(KV b most l out).1.getLastD 0/\(KV b most l out).1.getLastD 0<=b.length
 |[],out,h=>h
 |y::l,out,h=>by
  rw[KV];split
  .exact h
  .split
   .exact h
   .split
    .exact h
    .rename_i f a c;refine qsC ?_
     have e:1<=y/\y<b.length:=by
      unfold Ym at a;simp at a;omega
     rw[List.getLastD_concat,zp,List.length_singleton];refine⟨?_,wC⟩;by_cases d:0<out.length
     .have:¬y<=out.getLastD 0:=fun hc=>c ⟨d,hc⟩;omega
     .omega
theorem qu0{b:List UInt8}{sz most:Nat}:∀{n:Nat}{out:List Nat}{a c:Nat},out.length<=out.getLastD 0/\out.getLastD 0<=b.length->(qa1 b sz most n out a c).1.length<=b.length
 |0,out,a,c,h=>zI h.1 h.2
 |n+1,out,a,c,h=>by
  have e:=zI h.1 h.2;rw[qa1];split
  .exact e
  .split
   .exact e
   .split
    .exact e
    .split
     .exact e
     .have hi:=qsC (b:=b) (most:=most) (l:=(kp b a).tail) h;split
      .rename_i d g f;rw[f] at hi;exact zI hi.1 hi.2
      .rename_i d f;rw[f] at hi;exact qu0 hi
theorem qgQ(b:List UInt8):(zD b).length<=b.length:=by
 have d:=qu0 (b:=(zL b).l) (sz:=(qH b).siz) (most:=(qH b).ents) (n:=(zL b).l.length+1) (out:=[]) (a:=(qH b).arr) (c:=0) ⟨wE,wE⟩;refine zI d ?_;simp[zL];omega
def vc:List Mk->Bool
 |a::b::l=>decide (qI a.id.l b.id.l<0)&&vc (b::l)
 |_=>true
def Jk(l:List Mk):Bool:=decide (l.length<=4)&&vc l
theorem qjA[MaxL][TxtC](s:Sl Mk)(A:s.l.length<4611686018427387904):
  call cx 32 [(.vsl s.nil (qt s.l) s.l.length)] []=some (.bool (Jk s.l),[]):=by
 refine qC Tryz.func32 rfl ⟨rfl,rfl⟩ ?_;by_cases v:s.l.length<=4
 .have n:¬(4:Int)<(s.l.length:Int):=by omega
  simp[Tryz.f32,n,Jk,v];refine Run.loopThen (fun(i:Nat) e H=>1<=i/\(i<=s.l.length\/i=1)/\H=[]/\qi e 0=some (.vsl s.nil (qt s.l) s.l.length)/\qi e 3=some (.int .i64 i)/\vc s.l=vc (s.l.drop (i-1))) (fun i=>s.l.length-i) 1 wE ?_;rintro i e H ⟨hi,B,rfl,o,j,q⟩;by_cases c:i<s.l.length
  .obtain⟨k,y⟩:∃k,k+1=i:=⟨i-1,wC⟩;have h:=zn c;have d:k<s.l.length:=wC;have t:(k:Int)<(s.l.length:Int):=wC;have u:=qz ((i:Int)-1) (k:Int);have z:=qz ((i:Int)+1) ((i+1:Nat):Int);have hc:=quR s.l[k].id s.l[i].id
   have f:vc s.l=(decide (qI s.l[k].id.l s.l[i].id.l<0)&&vc (s.l.drop i)):=by
    have x:i-1=k:=wC
    have e2:s.l.drop k=s.l[k]::s.l[i]::s.l.drop (i+1):=by
     rw[zZ d];congr 1;rw[y,zZ c]
    rw[q,x,e2,vc,zZ c]
   have w:∀k,(16<=19+k)=True:=fun k=>eq_true wC;have p:∀(m:Mk)(r:List D),(Enc.cells m++r).take 16=qf m.id.l:=fun m r=>by simp[Mk.cells]
   by_cases g:qI s.l[k].id.l s.l[i].id.l<0
   .have b:¬0<=qI s.l[k].id.l s.l[i].id.l:=wC;rw[decide_eq_true g,Yd] at f;simp[o,j,h,u,t,Sl.nn c,w,c,d,p,hc,b,z];exact⟨i+1,wC,wC,.inl wC,rfl,xo⟩
   .have b:0<=qI s.l[k].id.l s.l[i].id.l:=wC;rw[decide_eq_false g,qbA] at f;simp[o,j,h,u,t,Sl.nn c,w,c,d,p,hc,b,f]
  .have h:=zq c
   have f:vc s.l=true:=by
    rw[q];have:(s.l.drop (i-1)).length<=1:=wv
    match s.l.drop (i-1),this with
    |[],_=>rfl
    |[a],_=>rfl
   simp[o,j,h,f]
 .have n:(4:Int)<(s.l.length:Int):=by omega
  simp[Tryz.f32,n,Jk,v]
theorem qys{l:List Mk}(h:Jk l=true):l.length<=4:=by
 rw[Jk,zX] at h;exact of_decide_eq_true h.1
theorem qzv[MaxL][TxtC](a b:Int):call cx 88 [.int .u64 a,.int .u64 b] []=some (.int .i64 (if a<b then-1 else if b<a then 1 else 0),[]):=by
 refine qC Tryz.func88 rfl ⟨rfl,rfl⟩ ?_;by_cases c:a<b
 .simp[Tryz.f88,c]
 .by_cases d:b<a
  .simp[Tryz.f88,c,d]
  .simp[Tryz.f88,c,d]
theorem q59:∀{x y:List UInt8}{i:Nat}(hx:i<x.length)(a:i<y.length),qI (x.drop i) (y.drop i)=if x[i]=y[i] then qI (x.drop (i+1)) (y.drop (i+1)) else if x[i]<y[i] then-1 else 1:=by
 intro x y i hx a;rw[zZ hx,zZ a,qI]
theorem qsX[MaxL][TxtC](x y:ID):call cx 37 [.agg (qf x.l),.agg (qf y.l)] []=some (.int .i64 (qI x.l y.l),[]):=by
 refine qC Tryz.func37 rfl ⟨rfl,rfl⟩ ?_;simp[Tryz.f37];refine Run.loopThen (fun(i:Nat) e H=>i<=16/\H=[some (qf x.l),some (qf y.l)]/\qi e 2=some (.optr 0 16 0)/\qi e 3=some (.optr 1 16 0)/\qi e 5=some (.int .i64 i)/\qI x.l y.l=qI (x.l.drop i) (y.l.drop i)) (fun i=>16-i) 0 wE ?_;rintro i e H ⟨hi,rfl,n,k,j,a⟩;by_cases v:i<16
 .have g:(i:Int)<16:=by omega
  have hx:i<x.l.length:=wG
  have d:i<y.l.length:=wG
  have u:=qz ((i:Int)+1) ((i+1:Nat):Int);have m:IntKind.u64.wrap (x.l[i].toNat:Int)=(x.l[i].toNat:Int):=by rw[qaF];have:=x.l[i].toNat_lt;omega
  have o:IntKind.u64.wrap (y.l[i].toNat:Int)=(y.l[i].toNat:Int):=by rw[qaF];have:=y.l[i].toNat_lt;omega
  have q:=qzv (x.l[i].toNat:Int) (y.l[i].toNat:Int);rw[q59 hx d] at a;by_cases b:x.l[i]=y.l[i]
  .rw[if_pos b] at a;simp[n,k,j,g,vE hx,vE d,b,u];exact⟨i+1,wC,wC,rfl,a⟩
  .have s:¬((x.l[i].toNat:Int)=(y.l[i].toNat:Int)):=by
    intro h;exact b (UInt8.toNat_inj.1 wC)
   have p:¬(x.l[i].toNat=y.l[i].toNat):=fun h=>b (UInt8.toNat_inj.1 h);rw[if_neg b] at a
   have f:(if(x.l[i].toNat:Int)<(y.l[i].toNat:Int) then(-1:Int) else if(y.l[i].toNat:Int)<(x.l[i].toNat:Int) then 1 else 0)=qI x.l y.l:=by
    rw[a];by_cases c:x.l[i]<y.l[i]
    .have:x.l[i].toNat<y.l[i].toNat:=c;rw[if_pos c,if_pos wC]
    .have:¬x.l[i].toNat<y.l[i].toNat:=c;rw[if_neg c,if_neg wC,if_pos wC]
   rw[f] at q;simp[n,k,j,g,vE hx,vE d,s,m,o,q]
 .have g:¬(i:Int)<16:=by omega
  have r:i=16:=wC
  subst r;have t:x.l.drop 16=[]:=Jc wE;have e2:y.l.drop 16=[]:=Jc wE;rw[t,e2,qI] at a;simp[n,k,j,a]
theorem qyq[MaxL][TxtC](s:Sl Mk)(x:s.l.length<4611686018427387904):
  call cx 36 [(.vsl s.nil (qt s.l) s.l.length)] []=some (.bool (Jk s.l),[]):=by
 refine qC Tryz.func36 rfl ⟨rfl,rfl⟩ ?_;simp[Tryz.f36];refine Run.loopThen (fun(i:Nat) e H=>1<=i/\(i<=s.l.length\/i=1)/\H=[]/\qi e 0=some (.vsl s.nil (qt s.l) s.l.length)/\qi e 3=some (.int .i64 i)/\vc s.l=vc (s.l.drop (i-1))) (fun i=>s.l.length-i) 1 wE ?_;rintro i e H ⟨hi,y,rfl,m,j,o⟩;by_cases c:i<s.l.length
 .obtain⟨k,v⟩:∃k,k+1=i:=⟨i-1,wC⟩;have h:=zn c;have f:k<s.l.length:=by omega
  have p:(k:Int)<(s.l.length:Int):=wC
  have q:=qz ((i:Int)-1) (k:Int);have w:=qz ((i:Int)+1) ((i+1:Nat):Int);have hc:=qsX s.l[k].id s.l[i].id
  have d:vc s.l=(decide (qI s.l[k].id.l s.l[i].id.l<0)&&vc (s.l.drop i)):=by
   have u:i-1=k:=wC
   have e2:s.l.drop k=s.l[k]::s.l[i]::s.l.drop (i+1):=by
    rw[zZ f];congr 1;rw[v,zZ c]
   rw[o,u,e2,vc,zZ c]
  have t:∀k,(16<=19+k)=True:=fun k=>eq_true wC;by_cases g:qI s.l[k].id.l s.l[i].id.l<0
  .have b:¬0<=qI s.l[k].id.l s.l[i].id.l:=wC;rw[decide_eq_true g,Yd] at d;simp[m,j,h,q,p,Sl.nn c,t,c,f,hc,b,w];exact⟨i+1,wC,wC,.inl wC,rfl,ww⟩
  .have b:0<=qI s.l[k].id.l s.l[i].id.l:=wC;rw[decide_eq_false g,qbA] at d;simp[m,j,h,q,p,Sl.nn c,t,c,f,hc,b,d,Jk]
 .have h:=zq c
  have d:vc s.l=true:=by
   rw[o];have:(s.l.drop (i-1)).length<=1:=wv
   match s.l.drop (i-1),this with
   |[],_=>rfl
   |[a],_=>rfl
  by_cases r:s.l.length<=4
  .have n:(s.l.length:Int)<=4:=wC;simp[m,j,h,d,r,n,Jk]
  .have n:¬(s.l.length:Int)<=4:=wC;simp[m,j,h,d,r,n,Jk]
theorem q4C[MaxL][TxtC]{H:qe}{q:Nat}{id:ID}(e:qd H q=some (qf id.l))(m:Mk):∃T,call cx 184 [.agg (Enc.cells m),.optr q 16 0] H=some (.bool (m.id==id),T)/\Ext [] H T:=by
 obtain⟨d,a⟩:=ql (qr H (Enc.cells m));have c:=zJ a;have b:=js a;have f:=c.get e wE;refine⟨d,jy Tryz.func184 rfl ⟨rfl,rfl⟩ ?_,c⟩;simp only[Mk.cells] at a b;simp[-qd,-qr,Tryz.f184,Mk.cells,a,b,f]
def find?{α:Type}(p:α->Bool):List α->Int->Int
 |[],_=>-1
 |m::l,i=>if p m then i else find? p l (i+1)
theorem qoF[MaxL][TxtC](s:Sl Mk)(B:s.l.length<4611686018427387904)(f:Nat)(a:List D)(p:Mk->Bool){H:qe}(y:cx.byRef f=true)(w:cx.perm f=false)(x:cx.pureF f=false)(v:cx.loc f=false)
  (A:∀T,Ext [] H T->∀m,m∈s.l->∃j,call cx f (.agg (Enc.cells m)::a) T=some (.bool (p m),j)/\Ext [] T j):∃q,call cx 127 [(.vsl s.nil (qt s.l) s.l.length),.fn f a] H=some q/\q.1=.int .i64 (find? p s.l 0)/\Ext [] H q.2:=by
 refine vz (X:=cx) (f:=127) (fun q=>q.1=.int .i64 (find? p s.l 0)/\Ext [] H q.2) Tryz.func127 rfl ⟨rfl,rfl⟩ ?_;simp[-qd,Tryz.f127];refine Run.loopThen (fun(i:Nat) e T=>i<=s.l.length/\Ext [] H T/\qi e 0=some (.vsl s.nil (qt s.l) s.l.length)/\qi e 1=some (.fn f a)/\qi e 7=some (.int .i64 s.l.length)/\qi e 8=some (.int .i64 i)/\find? p s.l 0=find? p (s.l.drop i) i) (fun i=>s.l.length-i) 0 (by simp;exact Ext.refl _ _) ?_;rintro i e T ⟨hi,hx,u,k,o,r,b⟩;by_cases c:i<s.l.length
 .have h:((i:Int)<(s.l.length:Int)):=by omega
  have t:s.l.drop i=s.l[i]::s.l.drop (i+1):=zZ c;obtain⟨j,hc,n⟩:=A T hx s.l[i] (vQ c);have z:=qz ((i:Int)+1) ((i+1:Nat):Int);have d:=hx.trans n (NewL.refl _ _);rw[t,find?] at b;cases g:p s.l[i] with
  |true=>
   rw[g,if_pos rfl] at b;simp[-qd,u,k,o,r,h,c,Sl.nn c,hc,y,w,x,v,g,b];exact d
  |false=>
   rw[g,if_neg wH] at b;simp[-qd,u,k,o,r,h,c,Sl.nn c,hc,y,w,x,v,g,b,z];exact⟨i+1,wC,wC,d,rfl,rfl⟩
 .have h:¬((i:Int)<(s.l.length:Int)):=by omega
  have t:s.l.drop i=[]:=Jc wC;rw[t] at b;simp[-qd,u,k,o,r,h,b,find?];exact hx
theorem qkX[MaxL][TxtC](s:Sl Mk)(d:s.l.length<4611686018427387904)(id:ID):
  call cx 130 [(.vsl s.nil (qt s.l) s.l.length),.agg (qf id.l)] []=some (.int .i64 (find? (fun m=>m.id==id) s.l 0),[]):=by
 have b:qd [some (qf id.l)] 0=some (qf id.l):=rfl;obtain⟨⟨r,T⟩,h,a,hx⟩:=qoF s d 184 [.optr 0 16 0] (fun m=>m.id==id) (H:=[some (qf id.l)]) rfl rfl rfl rfl (fun T c m _=>q4C (c.get b wE) m);simp only at a;subst a;refine qC Tryz.func130 rfl ⟨rfl,rfl⟩ ?_;simp[Tryz.f130,h]
theorem find?_spec{α:Type}(p:α->Bool):∀(l:List α)(k:Int),(∃(i:Nat)(m:α),l[i]?=some m/\i<l.length/\p m=true/\find? p l k=k+i/\l.find? p=some m)\/(find? p l k= -1/\l.find? p=none)
 |[],k=>.inr ⟨rfl,rfl⟩
 |m::l,k=>by
  cases a:p m with
  |true=>exact .inl ⟨0,m,rfl,wE,a,by simp[find?,a],xA⟩
  |false=>
   rcases find?_spec p l (k+1) with⟨i,g,b,c,e,f,d⟩|⟨b,c⟩
   .exact .inl ⟨i+1,g,xQ,wS,e,by simp[find?,a,f];omega,by simp[a,d]⟩
   .exact .inr ⟨by simp[find?,a,b],by simp[a,c]⟩
def jq(l:List Mk)(id:ID):Mk:=(l.find? fun m=>m.id==id).getD ⟨id,0,0,0⟩
theorem qt1[MaxL][TxtC](s:Sl Mk)(f:s.l.length<4611686018427387904)(id:ID):
  call cx 82 [(.vsl s.nil (qt s.l) s.l.length),.agg (qf id.l)] []=some (.agg (Enc.cells (jq s.l id)),[]):=by
 have h:=qkX s f id;refine qC Tryz.func82 rfl ⟨rfl,rfl⟩ ?_;rcases find?_spec (fun m=>m.id==id) s.l 0 with⟨i,m,b,a,g,e,c⟩|⟨b,a⟩
 .rw[e,Sl.nn a] at h;have d:s.l[i]=m:=by rw[qN a] at b;exact Option.some.inj b
  simp[Tryz.f82,h,a,Sl.nn a,d,jq,c]
 .rw[b] at h;simp[Tryz.f82,h,jq,a,Mk.cells,qJ]
theorem qgz(l:List Mk)(id:ID):(jq l id).id=id:=by
 unfold jq;cases h:l.find? (fun m=>m.id==id) with
 |none=>rfl
 |some m=>simpa using List.find?_some h
theorem q55[MaxL][TxtC](x y:Mk):call cx 134 [.agg (Enc.cells x),.agg (Enc.cells y)] []=some (.int .i64 (qI x.id.l y.id.l),[]):=by
 have h:=quR x.id y.id;refine qC Tryz.func134 rfl ⟨rfl,rfl⟩ ?_;simp[Tryz.f134,Mk.cells,h]
def qpe:Nat->Int
 |0=>0|1=>1|2=>2|3=>2|4=>3|5=>3|6=>3|7=>3|_=>4
theorem q0E[MaxL][TxtC](n:Nat)(a:n<=13):call cx 90 [.int .u64 n] []=some (.int .i64 (qpe n),[]):=by
 have h:n=0\/n=1\/n=2\/n=3\/n=4\/n=5\/n=6\/n=7\/n=8\/n=9\/n=10\/n=11\/n=12\/n=13:=wC
 refine call_some.2 ⟨60,?_⟩;rcases h with rfl|rfl|rfl|rfl|rfl|rfl|rfl|rfl|rfl|rfl|rfl|rfl|rfl|rfl<;>kernel_rfl
def swp(l:List Mk)(j:Nat):List Mk:=
 match l[j]?,l[j-1]? with
 |some a,some b=>(l.set j b).set (j-1) a
 |_,_=>l
def VO:Nat->List Mk->List Mk
 |0,l=>l
 |j+1,l=>match l[j+1]?,l[j]? with
  |some a,some b=>if qI a.id.l b.id.l<0 then VO j (swp l (j+1)) else l
  |_,_=>l
def Jq:Nat->Nat->List Mk->List Mk
 |0,_,l=>l
 |k+1,i,l=>Jq k (i+1) (VO i l)
theorem qwI(l:List Mk)(j:Nat):(swp l j).length=l.length:=by
 unfold swp;split<;>simp
theorem qhp:∀(j:Nat)(l:List Mk),(VO j l).length=l.length
 |0,l=>rfl
 |j+1,l=>by
  unfold VO;split
  .split
   .rw[qhp j,qwI]
   .rfl
  .rfl
theorem qsK:∀(k i:Nat)(l:List Mk),(Jq k i l).length=l.length
 |0,_,_=>rfl
 |k+1,i,l=>by rw[Jq,qsK k,qhp]
theorem q27[MaxL][TxtC](n:Nat)(Y:n<=12)(H:qe)(b:Nat)(W:H.all (Xu H.length)=true)(l:List Mk)(X:l.length=n)(q:qd H b=some (qt l)):
  call cx 234 [.osl b (n*19) 0 n 19,.int .i64 0,.int .i64 n,.fn 134 []] H=some (.tup [],H.set b (some (qt (Jq (n-1) 1 l)))):=by
 have J:b<H.length:=by
  rcases KE b H.length with h|h
  .exact h
  .rw[qd,List.getElem?_eq_none h] at q;cases q
 have qn:H.set b (some (qt l))=H:=by
  rw[qd,qN J] at q;simp only[Va] at q;rw[<-q,List.set_getElem_self]
 refine qC Tryz.func234 rfl ⟨rfl,rfl⟩ ?_;simp[Tryz.f234];refine Run.loopThen (fun(s:Nat×List Mk) e H'=>1<=s.1/\s.2.length=n/\H'=H.set b (some (qt s.2))/\Jq (n-s.1) s.1 s.2=Jq (n-1) 1 l/\qi e 0=some (.osl b (n*19) 0 n 19)/\qi e 1=some (.int .i64 0)/\qi e 2=some (.int .i64 n)/\qi e 3=some (.fn 134 [])/\qi e 8=some (.int .i64 s.1)) (fun s=>n-s.1) (1,l) (by simp[X,qn]) ?_;rintro⟨i,G⟩ e H' ⟨hi,d,rfl,y,w,r,v,p,m⟩;simp only at hi d y m;by_cases U:i<n
 .have u:=zn U;have T:=qz ((i:Int)+1) ((i+1:Nat):Int)
  have I:Jq (n-i) i G=Jq (n-(i+1)) (i+1) (VO i G):=by
   have:n-i=(n-(i+1))+1:=wC;rw[this,Jq]
  rw[I] at y;simp[w,r,v,p,m,u];clear w r v p m e;refine Run.loopThen (fun(s:Nat×List Mk) e H'=>s.1<=i/\s.2.length=n/\H'=H.set b (some (qt s.2))/\VO s.1 s.2=VO i G/\qi e 0=some (.osl b (n*19) 0 n 19)/\qi e 1=some (.int .i64 0)/\qi e 2=some (.int .i64 n)/\qi e 3=some (.fn 134 [])/\qi e 8=some (.int .i64 i)/\qi e 9=some (.int .i64 s.1)) (fun s=>s.1) (i,G) xU ?_;rintro⟨j,a⟩ e H' ⟨R,c,rfl,g,w,r,v,p,m,C⟩;simp only at R c g C;have o:(qt a).length=n*19:=by rw[Mk.el,c]
  have q:((H.set b (some (qt a)))[b]?).getD none=some (qt a):=by rw[List.getElem?_set_self J];rfl
  cases j with
  |zero=>
   rw[VO] at g;subst g;simp[w,r,v,p,m,C,T];exact⟨i+1,wC,wC,_,by rw[qhp,d],rfl,y,rfl⟩
  |succ k=>
   obtain⟨j,P⟩:∃j,j=k+1:=⟨_,rfl⟩;rw[<-P] at R C g;have B:0<j:=wC;have S:(j:Int)<(n:Int):=wC;have O:(k:Int)<(n:Int):=wC;have z:=qz ((j:Int)-1) (k:Int);have E:j<a.length:=wC;have f:k<a.length:=wC;have hc:=q55 a[j] a[k]
   have V:VO j a=if qI a[j].id.l a[k].id.l<0 then VO k (swp a j) else a:=by
    subst P;rw[VO,qN E,qN f]
   have M:swp a j=(a.set j a[k]).set k a[j]:=by
    have:j-1=k:=wC;rw[swp,this,qN E,qN f]
   by_cases F:qI a[j].id.l a[k].id.l<0
   .rw[V,if_pos F,M] at g;have L:j*19+19<=n*19:=wC;have A:k*19+19<=n*19:=wC;have Q:k<(a.set j a[k]).length:=xo;have t:(qt (a.set j a[k])).length=n*19:=(by rw[Mk.el,vI,c]);simp[w,r,v,p,m,C,B,S,O,z,o,E,f,hc,F,L,A,J,t];exact⟨k,wC,wC,_,by simp[c],rfl,g,rfl⟩
   .rw[V,if_neg F] at g;subst g;simp[w,r,v,p,m,C,B,S,O,z,q,o,E,f,hc,F,T];exact⟨i+1,wC,wC,_,by rw[qhp,d],rfl,y,rfl⟩
 .have u:=zq U;have N:n-i=0:=by omega
  rw[N,Jq] at y;subst y;simp[w,r,v,p,m,u];refine qjT ⟨fun x hx=>?_,qJ wE⟩;have K:=QZ hx;rcases qcH K with h|rfl
  .exact List.all_eq_true.1 W x h
  .exact qiv _ _
theorem qvi{H:qe}{b:Nat}{ds:List D}(d:H.all (Xu H.length)=true)(c:ds.all (closed H.length)=true){x:Option (List D)}{n:Nat}(hx:x∈(H.set b (some ds)).take n):Xu H.length x=true:=by
 have a:=QZ hx;rcases qcH a with h|rfl
 .exact List.all_eq_true.1 d x h
 .exact c
theorem qyU[MaxL][TxtC](n:Nat)(g:n<=12)(k:Int)(H:qe)(b:Nat)(a:H.all (Xu H.length)=true)(l:List Mk)(e:l.length=n)(f:qd H b=some (qt l)):
  call cx 185 [.osl b (n*19) 0 n 19,.int .i64 0,.int .i64 n,.int .i64 k,.fn 134 []] H=some (.tup [],H.set b (some (qt (Jq (n-1) 1 l)))):=by
 have h:=q27 n g H b a l e f;have d:=qz (n:Int) (n:Int);have c:(n:Int)<=12:=wC
 refine qC Tryz.func185 rfl ⟨rfl,rfl⟩ ?_;simp[Tryz.f185];refine qfW ?_;simp[d,c,h];exact qjT ⟨fun x hx=>qvi a (qiv _ _) hx,qJ wE⟩
theorem qoB[MaxL][TxtC](n:Nat)(g:n<=12)(H:qe)(b:Nat)(c:H.all (Xu H.length)=true)(l:List Mk)(e:l.length=n)(f:qd H b=some (qt l)):
  call cx 133 [.osl b (n*19) 0 n 19,.fn 134 []] H=some (.tup [],H.set b (some (qt (Jq (n-1) 1 l)))):=by
 have h:=qyU n g (qpe n) H b c l e f;have a:=q0E n wC;have d:=zg (n:Int) (n:Int);refine qC Tryz.func133 rfl ⟨rfl,rfl⟩ ?_;simp[Tryz.f133,h,a,d];exact qjT ⟨fun x hx=>qvi c (qiv _ _) hx,qJ wE⟩
theorem q0w[MaxL][TxtC](s:Sl Mk)(e:s.l.length<=3000000000):
  call cx 132 [(.vsl s.nil (qt s.l) s.l.length)] []=if s.nil then some (.vsl true [] 0,[]) else some (.osl 0 (s.l.length*19) 0 s.l.length 19,[some (qt s.l)]):=by
 have a:s.l.length*40<=140737488355328:=wC
 have c:s.l.length<=140737488355328:=wC
 obtain⟨nil,l,d⟩:=s;simp only at e a c⊢;cases nil with
 |true=>
  have b:=d rfl;subst b;rw[if_pos rfl];refine qC Tryz.func132 rfl ⟨rfl,rfl⟩ ?_;simp[Tryz.f132]
 |false=>
  rw[if_neg wH];refine qC Tryz.func132 rfl ⟨rfl,rfl⟩ ?_;simp[Tryz.f132,a,c,qF]
def Qt(l:List Mk)(m:Mk):List Mk:=
 if find? (fun x=>x.id==m.id) l 0<0 then Jq l.length 1 (l++[m]) else l.set (find? (fun x=>x.id==m.id) l 0).toNat m
theorem q0i[MaxL][TxtC](s:Sl Mk)(w:s.l.length<=11)(m:Mk):
  call cx 87 [(.vsl s.nil (qt s.l) s.l.length),.agg (Enc.cells m)] []=some (.vsl false (qt (Qt s.l m)) (Qt s.l m).length,[]):=by
 have hc:=q0w s wC;have b:=qkX s wC m.id;have g:(Enc.cells m).take 16=qf m.id.l:=xE
 have o:(qt s.l).take (s.l.length*19)=qt s.l:=qJ wE;by_cases e:s.nil=true
 .have a:=s.h e;rw[e,a] at hc b;have d:=qoB 1 wH [some (Enc.cells m),some (Enc.cells m),some (Enc.cells m)] 2 (by simp[Xu]) [m] rfl (by simp[qd,qfw]);simp at hc b d;have c:Qt s.l m=[m]:=by rw[a];rfl
  refine qC Tryz.func87 rfl ⟨rfl,rfl⟩ ?_;simp[Tryz.f87,e,a,hc,b,g,qF,find?,d,Jq,qfw];rw[<-a,c];simp[qfw]
 .have j:s.nil=false:=by simpa using e
  rw[j] at hc b;rw[if_neg wH] at hc;rcases find?_spec (fun x=>x.id==m.id) s.l 0 with⟨i,y,f,q,v,p,z⟩|⟨f,q⟩
  .rw[p] at b
   have c:Qt s.l m=s.l.set i m:=by
    unfold Qt;rw[p,if_neg wC];congr 1;omega
   have k:i*19+19<=s.l.length*19:=wC;refine qC Tryz.func87 rfl ⟨rfl,rfl⟩ ?_;simp[Tryz.f87,j,hc,b,g,o,q,k,c,qJ]
  .rw[f] at b
   have c:Qt s.l m=Jq s.l.length 1 (s.l++[m]):=by
    unfold Qt;rw[f,if_pos wH]
   have d:=qoB (s.l.length+1) wC [some (Enc.cells m),some (qt s.l++Enc.cells m),some (Enc.cells m)] 1 (by simp[Xu]) (s.l++[m]) wE (by simp[qd,qc3]);have t:s.l.length*19+19=(s.l.length+1)*19:=wC;have n:(s.l.length+1)*40<=140737488355328:=wC;have u:s.l.length+1<=140737488355328:=wC;have r:(Jq s.l.length 1 (s.l++[m])).length=s.l.length+1:=(by rw[qsK];simp);simp at d;refine qC Tryz.func87 rfl ⟨rfl,rfl⟩ ?_;simp[Tryz.f87,j,hc,b,g,o,qF,n,u,t,d,c,r,qJ]
def qhg:Int:=18446744073709551615
def qgk(v n:Int):Int:=if IntKind.u64.wrap (qhg-v)<n then qhg else IntKind.u64.wrap (v+n)
theorem qoA[MaxL][TxtC](v n:Int):call cx 86 [.int .u64 v,.int .u64 n] []=some (.int .u64 (qgk v n),[]):=by
 refine qC Tryz.func86 rfl ⟨rfl,rfl⟩ ?_;by_cases h:IntKind.u64.wrap (18446744073709551615-v)<n
 .simp[Tryz.f86,h,qgk,qhg]
 .simp[Tryz.f86,h,qgk,qhg]
def X7(l:List Mk)(id:ID):Int:=
 if Jk l=false then 1 else if l.length=4/\find? (fun m=>m.id==id) l 0<0 then 15 else 0
theorem q0y[MaxL][TxtC](s:Sl Mk)(e:s.l.length<4611686018427387904)(id:ID):
  call cx 85 [(.vsl s.nil (qt s.l) s.l.length),.agg (qf id.l)] []=some (.int .i64 (X7 s.l id),[]):=by
 have a:=qjA s e;have c:=qkX s e id;refine qC Tryz.func85 rfl ⟨rfl,rfl⟩ ?_;cases h:Jk s.l with
 |false=>
  rw[h] at a;simp[Tryz.f85,a,X7,h]
 |true=>
  rw[h] at a;by_cases b:s.l.length=4
  .rw[b] at c a;by_cases d:find? (fun m=>m.id==id) s.l 0<0
   .simp[Tryz.f85,a,X7,h,b,c,d]
   .simp[Tryz.f85,a,X7,h,b,c,d]
  .have f:¬((s.l.length:Int)=4):=wC;simp[Tryz.f85,a,X7,h,b,f]
theorem q0z{l:List Mk}{id:ID}(h:X7 l id=0):l.length<=4:=by
 unfold X7 at h;split at h
 .cases h
 .rename_i a;rw[Bool.not_eq_false,Jk,zX] at a;exact of_decide_eq_true a.1
def qbK(c:Int)(l:List Mk):D:=if c=0 then .vsl false (qt l) l.length else .vsl true [] 0
def YO(m:Mk)(a:It)(over:Bool):Mk:=
 if a.gap then{m with seq:=a.til,lost:=qgk m.lost (IntKind.u64.wrap (IntKind.u64.wrap (a.til-a.fr)+1))}
 else{m with seq:=a.rc.seq,over:=if over then qgk m.over 1 else m.over}
def qcx(m:Mk)(a:It):Bool:=
 if a.gap then !(decide (a.fr<=m.seq)||decide (a.til<a.fr)) else !decide (a.rc.seq<=m.seq)
def qdX(l:List Mk)(a:It):Int:=if X7 l a.id≠0 then X7 l a.id else if qcx (jq l a.id) a then 0 else 13
def X3(l:List Mk)(a:It)(over:Bool):List Mk:=Qt l (YO (jq l a.id) a over)
theorem qwB[MaxL][TxtC](s:Sl Mk)(m:s.l.length<4611686018427387904)(a:It)(over:Bool):
  call cx 35 [(.vsl s.nil (qt s.l) s.l.length),.agg (Enc.cells a),.bool over] []=some (.tup [qbK (qdX s.l a) (X3 s.l a over),.int .i64 (qdX s.l a)],[]):=by
 have c:=q0y s m a.id;have j:=qt1 s m a.id;have b:=qgz s.l a.id;refine qC Tryz.func35 rfl ⟨rfl,rfl⟩ ?_;by_cases hc:X7 s.l a.id=0
 .rw[hc] at c;have f:=q0i s (by have:=q0z hc;omega) (YO (jq s.l a.id) a over);unfold qdX X3;rw[if_neg (by simpa using hc)];generalize jq s.l a.id=g at *;generalize Qt s.l (YO g a over)=pm at *;cases d:a.gap with
  |true=>
   by_cases i:a.fr<=g.seq
   .simp[Tryz.f35,It.cells,c,jf,vY,j,b,d,Mk.cells,i,qcx,qbK]
   .by_cases k:a.til<a.fr
    .simp[Tryz.f35,It.cells,c,jf,vY,j,b,d,Mk.cells,i,k,qcx,qbK]
    .have h:=qoA g.lost (IntKind.u64.wrap (IntKind.u64.wrap (a.til-a.fr)+1));simp only[YO,d,if_true,Mk.cells,b] at f;simp[Tryz.f35,It.cells,c,Zp,jf,vY,j,b,d,Mk.cells,i,k,qcx,qbK,h];simp[f]
  |false=>
   by_cases i:a.rc.seq<=g.seq
   .simp[Tryz.f35,It.cells,c,jf,vY,j,b,d,Mk.cells,i,qcx,qbK]
   .have h:=qoA g.over 1;simp only[YO,d,Mk.cells,b] at f;cases over with
    |false=>
     simp at f;simp[Tryz.f35,It.cells,c,Zp,jf,vY,j,b,d,Mk.cells,i,qcx,qbK,f]
    |true=>
     simp at f;simp[Tryz.f35,It.cells,c,Zp,jf,vY,j,b,d,Mk.cells,i,qcx,qbK,f,h]
 .have e:qdX s.l a=X7 s.l a.id:=by unfold qdX;rw[if_pos hc]
  simp[Tryz.f35,It.cells,c,hc,jf,qbK,e]
def qeb{α:Type}(c:Int)(s:Sl α):Sl α:=if c=0 then s else .none
def zS(l:List Mk)(id:ID):Bool:=l.any fun m=>m.id==id
theorem qj8[MaxL][TxtC](s:Sl Mk)(r:s.l.length<4611686018427387904)(id:ID):
  call cx 11 [(.vsl s.nil (qt s.l) s.l.length),.agg (qf id.l)] []=some (.tup [.agg (Enc.cells (jq s.l id)),.bool (zS s.l id)],[]):=by
 refine qC Tryz.func11 rfl ⟨rfl,rfl⟩ ?_;simp[Tryz.f11];refine Run.loopThen (fun(i:Nat) e H=>i<=s.l.length/\(∃z:Mk,H=[some (qf id.l),some (Enc.cells z)])/\qi e 0=some (.vsl s.nil (qt s.l) s.l.length)/\qi e 3=some (.optr 0 16 0)/\qi e 4=some (.optr 1 19 0)/\qi e 6=some (.int .i64 i)/\jq s.l id=jq (s.l.drop i) id/\zS s.l id=zS (s.l.drop i) id) (fun i=>s.l.length-i) 0 ?_ ?_
 .simp;exact⟨⟨ID.zero,0,0,0⟩,by simp[Mk.cells,ID.zero,qf]⟩
 rintro i e H ⟨hi,⟨z,rfl⟩,m,g,j,h,a,b⟩;by_cases c:i<s.l.length
 .have f:=zn c;have p:=qz ((i:Int)+1) ((i+1:Nat):Int);rw[zZ c] at a b;have n:∀k,(16<=19+k)=True:=fun k=>eq_true wC;cases d:s.l[i].id==id with
  |true=>
   simp only[jq,List.find?_cons,d,Va] at a;simp only[zS,List.any_cons,d,Bool.true_or] at b;simp[m,g,j,h,f,c,Sl.nn c,n,d,jq,zS,a,b]
  |false=>
   simp only[jq,List.find?_cons,d] at a;simp only[zS,List.any_cons,d,Bool.false_or] at b;simp[m,g,j,h,f,c,Sl.nn c,n,d,p,-List.any_eq_true];exact⟨i+1,wC,wC,⟨z,rfl⟩,rfl,a,b⟩
 .have f:=zq c;have q:s.l.drop i=[]:=Jc wC;rw[q] at a b;have o:jq [] id=⟨id,0,0,0⟩:=rfl;have e2:zS [] id=false:=rfl;rw[o] at a;rw[e2] at b;simp[m,g,j,h,f,a,b,qJ,Mk.cells,Zp,jf,vY]
theorem qlL{n:Nat}(h:n<=1000):n*40<=140737488355328/\n<=140737488355328:=wC
def jZ(m:Mk):List Mk->Bool->List Mk×Bool
 |[],i=>([],i)
 |x::l,i=>let c:=qI x.id.l m.id.l
  let r:=jZ m l (i||decide (0<=c))
  ((if !i&&decide (0<=c) then[m] else[])++(if c≠0 then[x] else[])++r.1,r.2)
def Ye(l:List Mk)(m:Mk):List Mk:=(jZ m l false).1++(if(jZ m l false).2 then[] else[m])
def qaM(l:List Mk)(m:Mk):Int:=if Jk l then(if !zS l m.id&&decide (4<=l.length) then 15 else 0) else 1
theorem qj2(m:Mk):∀(l:List Mk)(i:Bool),(jZ m l i).1.length<=2*l.length
 |[],_=>by simp[jZ]
 |x::l,i=>by
  have:=qj2 m l (i||decide (0<=qI x.id.l m.id.l));simp only[jZ,zp,jA];have b:(if(!i&&decide (0<=qI x.id.l m.id.l))=true then[m] else[]).length<=1:=by split<;>simp
  have a:(if qI x.id.l m.id.l≠0 then[x] else[]).length<=1:=by split<;>simp
  omega
theorem qnl(m:Mk):∀(a b:List Mk)(i:Bool),jZ m (a++b) i=((jZ m a i).1++(jZ m b (jZ m a i).2).1,(jZ m b (jZ m a i).2).2)
 |[],b,i=>by simp[jZ]
 |x::a,b,i=>by
  simp only[kC,jZ,qnl m a b,jY]
def RS(m:Mk)(g:List Mk)(d:D)(H:qe):Prop:=(d=.vsl true [] 0/\g=[]/\H=[some (Enc.cells m)])\/(d=.osl 1 (g.length*19) 0 g.length 19/\H=[some (Enc.cells m),some (qt g)]/\g≠[])
theorem RS.app{m:Mk}{g:List Mk}{n k:Nat}{cs:List D}(a:g≠[])(c:n=g.length*19)(b:k=g.length)(hc:cs=qt g):RS m g (.osl 1 n 0 k 19) [some (Enc.cells m),some cs]:=by
 subst c;subst b;subst hc;exact .inr ⟨rfl,rfl,a⟩
theorem RS.nil{m:Mk}:RS m [] (.vsl true [] 0) [some (Enc.cells m)]:=.inl ⟨rfl,rfl,rfl⟩
theorem qyj(m:Mk):∀(l:List Mk),(jZ m l false).2=true->(jZ m l false).1≠[]
 |[],h=>by simp[jZ] at h
 |x::l,h=>by
  simp only[jZ];by_cases hc:0<=qI x.id.l m.id.l
  .simp[hc]
  .have a:¬qI x.id.l m.id.l=0:=fun a=>hc (by rw[a];decide);simp[a]
theorem tri(c:Int):(c<0/\¬0<=c/\¬c=0)\/(c=0/\0<=c)\/(0<=c/\¬c=0):=wC
noncomputable def qiO:Code:=YJ [1,1,1,1,1,1,0,1,0,0] (jO (Q6 Tryz.f12))
theorem qyh[MaxL][TxtC](s:Sl Mk)(E:s.l.length<=4)(m:Mk)(e:qu)(r:qi e 0=some (.vsl s.nil (qt s.l) s.l.length))(j:qi e 3=some (.optr 0 19 0))(p:qi e 10=some (.int .i64 0))(f:qi e 9=some (.bool false))(q:qi e 8=some (.vsl true [] 0)):
  Run cx 12 69 0 (fun K e H=>K=.exit 0/\qi e 3=some (.optr 0 19 0)/\qi e 9=some (.bool (jZ m s.l false).2)/\∃d,qi e 8=some d/\RS m (jZ m s.l false).1 d H) [] (zl cx 12 69 0 (.loop qiO) e [some (Enc.cells m)]):=by
 refine Run.loopThen (fun(i:Nat) e H=>i<=s.l.length/\qi e 0=some (.vsl s.nil (qt s.l) s.l.length)/\qi e 3=some (.optr 0 19 0)/\qi e 10=some (.int .i64 i)/\qi e 9=some (.bool (jZ m (s.l.take i) false).2)/\
  (∃d,qi e 8=some d/\RS m (jZ m (s.l.take i) false).1 d H)) (fun i=>s.l.length-i) 0 ?_ ?_
 .simp[jZ,r,j,p,f,q,RS.nil]
 clear r j p f q e;rintro i e H ⟨hi,r,j,p,f,d,q,h⟩;by_cases b:i<s.l.length
 .have x:=zn b;have z:=qz ((i:Int)+1) ((i+1:Nat):Int);have A:∀k,(16<=19+k)=True:=fun k=>eq_true wC;have hc:=qsX s.l[i].id m.id;have B:=qj2 m (s.l.take i) false;rw[jj,Nat.min_eq_left hi] at B
  have a:jZ m (s.l.take (i+1)) false=((jZ m (s.l.take i) false).1++(jZ m [s.l[i]] (jZ m (s.l.take i) false).2).1,(jZ m [s.l[i]] (jZ m (s.l.take i) false).2).2):=by
   rw[Vs b,qnl]
  generalize jZ m (s.l.take i) false=g at *;obtain⟨o,I⟩:=g;simp only at f h B a;have v:o.length<=100:=wC
  have y:o.length*40+40<=140737488355328/\o.length+1<=140737488355328:=by have:=qlL (n:=o.length+1) wC;rwa [kt] at this
  have w:o.length*40+80<=140737488355328/\o.length+2<=140737488355328:=by have:=qlL (n:=o.length+2) (zI (Nat.add_le_add_right v 2) wH);rwa [kt] at this
  clear v;simp only[jZ,Jd] at a;have F:(qI s.l[i].id.l m.id.l<0/\¬0<=qI s.l[i].id.l m.id.l/\¬qI s.l[i].id.l m.id.l=0)\/(qI s.l[i].id.l m.id.l=0/\0<=qI s.l[i].id.l m.id.l)\/(0<=qI s.l[i].id.l m.id.l/\¬qI s.l[i].id.l m.id.l=0):=tri _;generalize qI s.l[i].id.l m.id.l=c at *;simp only[qiO,YJ,Q6,Tryz.f12,Option.getD,jO,kI,qaH]
  cases I<;>rcases F with⟨u,t,C⟩|⟨rfl,u⟩|⟨u,t⟩<;>rcases h with⟨rfl,rfl,rfl⟩|⟨rfl,rfl,J⟩<;>
   first
    |simp[r,j,p,f,q,x,b,Sl.nn b,A,hc,t,C,z,y,qF,kt]
    |simp[r,j,p,f,q,x,b,Sl.nn b,A,hc,u,t,z,y,w,qF,qgV,kt]
    |simp[r,j,p,f,q,x,b,Sl.nn b,A,hc,z,y,qF,kt]
  all_goals
   clear y w;refine⟨i+1,wC,wC,rfl,?_,?_⟩
   .first|(rw[a];done)|(rw[a];simp[t];done)|(rw[a];simp[u];done)|(rw[a];simp;done)
   .rw[a]
    first
     |exact RS.nil
     |(refine RS.app ?_ ?_ ?_ ?_<;>first|simp[t,C,qiw,kt,Ky]|simp[u,t,qiw,kt,Ky]|simp[qiw,kt,Ky,J]|simp[Ky])
 .have x:=zq b;have G:s.l.take i=s.l:=qJ wC;rw[G] at f h;simp only[qiO,YJ,Q6,Tryz.f12,Option.getD,jO,kI,qaH];simp[r,j,p,f,q,x];exact h
theorem qyi[MaxL][TxtC](s:Sl Mk)(j:s.l.length<4611686018427387904)(m:Mk):
  call cx 12 [(.vsl s.nil (qt s.l) s.l.length),.agg (Enc.cells m)] []=some (.tup [(.vsl (qeb (qaM s.l m) (.of (Ye s.l m))).nil (qt (qeb (qaM s.l m) (.of (Ye s.l m))).l) (qeb (qaM s.l m) (.of (Ye s.l m))).l.length),.int .i64 (qaM s.l m)],[]):=by
 have f:=qyq s j;have g:=qj8 s j m.id;refine qC Tryz.func12 rfl ⟨rfl,rfl⟩ ?_;cases c:Jk s.l with
 |false=>
  rw[c] at f;simp[Tryz.f12,f,qaM,c,qeb]
 |true=>
  rw[c] at f;have r:=qys c;by_cases q:zS s.l m.id=false/\4<=s.l.length
  .obtain⟨x,i⟩:=q;have E:(4:Int)<=(s.l.length:Int):=(by clear j;omega);rw[x] at g;simp[Tryz.f12,f,g,qaM,c,x,i,E,qeb]
  .have z:qaM s.l m=0:=by
    unfold qaM;rw[c,if_pos rfl,if_neg];simp only[zX,Bool.not_eq_true',decide_eq_true_eq];exact q
   rw[z];have C:zS s.l m.id=false->¬(4:Int)<=(s.l.length:Int):=fun h G=>q ⟨h,by clear j;omega⟩;have v:=qyh s r m;simp only[qiO,YJ,Q6,Tryz.f12,Option.getD,jO,kI,qaH] at v;have F:=qj2 m s.l false;have y:(jZ m s.l false).1.length*40+40<=140737488355328/\(jZ m s.l false).1.length+1<=140737488355328:=(by have:=qlL (n:=(jZ m s.l false).1.length+1) (by clear j;omega);rwa [kt] at this);have a:=qyj m s.l;cases w:zS s.l m.id
   .have k:=C w;rw[w] at g;simp[Tryz.f12,f,g,k,qeb];refine Run.mono (v _ ?_ ?_ ?_ ?_ ?_) ?_
    iterate 5 simp
    rintro B e H ⟨rfl,i,u,d,t,b⟩;unfold Ye;rcases b with⟨rfl,o,rfl⟩|⟨rfl,rfl,A⟩<;>cases p:(jZ m s.l false).2<;>simp[i,u,t,p,qF,y,kt,<-qc3,qJ]
    .rw[o];simp[qfw]
    .exact a p o
   .rw[w] at g;simp[Tryz.f12,f,g,qeb];refine Run.mono (v _ ?_ ?_ ?_ ?_ ?_) ?_
    iterate 5 simp
    rintro B e H ⟨rfl,i,u,d,t,b⟩;unfold Ye;rcases b with⟨rfl,o,rfl⟩|⟨rfl,rfl,A⟩<;>cases p:(jZ m s.l false).2<;>simp[i,u,t,p,qF,y,kt,<-qc3,qJ]
    .rw[o];simp[qfw]
    .exact a p o
theorem qgJ:∀(x:List UInt8),qI x x=0
 |[]=>rfl
 |a::x=>by simp[qI,qgJ x]
theorem qe5:∀(x y:List UInt8),qI y x= -qI x y
 |[],[]=>rfl
 |[],_::_=>rfl
 |_::_,[]=>rfl
 |a::x,b::y=>by
  simp only[qI];by_cases h:a=b
  .subst h;simp[qe5 x y]
  .have d:¬b=a:=fun e=>h e.symm;rw[if_neg h,if_neg d];by_cases c:a<b
   .have:¬b<a:=UInt8.not_lt.2 (UInt8.le_of_lt c);rw[if_pos c,if_neg this];rfl
   .have:b<a:=UInt8.lt_of_le_of_ne (UInt8.not_lt.1 c) d;rw[if_neg c,if_pos this]
theorem qgL:∀{x y:List UInt8},qI x y=0->x=y
 |[],[],_=>rfl
 |[],_::_,h=>by simp[qI] at h
 |_::_,[],h=>by simp[qI] at h
 |a::x,b::y,h=>by
  simp only[qI] at h;by_cases e:a=b
  .rw[if_pos e] at h;rw[e,qgL h]
  .rw[if_neg e] at h;split at h<;>simp at h
theorem qgK:∀(x y:List UInt8),qI x y= -1\/qI x y=0\/qI x y=1
 |[],[]=>by simp[qI]
 |[],_::_=>by simp[qI]
 |_::_,[]=>by simp[qI]
 |a::x,b::y=>by
  simp only[qI];split
  .exact qgK x y
  .split<;>simp
theorem qf1:∀{x y z:List UInt8},qI x y<0->qI y z<0->qI x z<0
 |[],[],_,h,_=>by simp[qI] at h
 |[],_::_,[],_,h=>by simp[qI] at h
 |[],_::_,_::_,_,_=>by simp[qI]
 |_::_,[],_,h,_=>by simp[qI] at h
 |_::_,_::_,[],_,h=>by simp[qI] at h
 |a::x,b::y,c::z,e,d=>by
  simp only[qI] at e d⊢;by_cases f:a=b
  .subst f;rw[if_pos rfl] at e;by_cases e2:a=c
   .subst e2;rw[if_pos rfl] at d⊢;exact qf1 e d
   .rw[if_neg e2] at d⊢;exact d
  .rw[if_neg f] at e
   have g:a<b:=by
    by_cases l:a<b
    .exact l
    .rw[if_neg l] at e;simp at e
   by_cases e2:b=c
   .subst e2;rw[if_neg f,if_pos g];decide
   .rw[if_neg e2] at d
    have j:b<c:=by
     by_cases l:b<c
     .exact l
     .rw[if_neg l] at d;simp at d
    have i:a<c:=UInt8.lt_trans g j;rw[if_neg (UInt8.ne_of_lt i),if_pos i];decide
theorem qfm{a b:ID}(h:qI a.l b.l=0):a=b:=ID.ext' (qgL h)
def qvx(l:List Mk)(id:ID):Prop:=∀x∈l,qI x.id.l id.l<0
theorem rises_cons{a:Mk}{l:List Mk}:vc (a::l)=true↔(∀x∈l,qI a.id.l x.id.l<0)/\vc l=true:=by
 induction l generalizing a with
 |nil=>simp[vc]
 |cons b l e=>
  simp only[vc,zX,decide_eq_true_eq,jI,forall_eq_or_imp];constructor
  .rintro⟨d,c⟩;exact⟨⟨d,fun x hx=>qf1 d ((e.1 c).1 x hx)⟩,c⟩
  .rintro⟨⟨d,_⟩,c⟩;exact⟨d,c⟩
theorem rises_append{a b:List Mk}:vc (a++b)=true↔vc a=true/\vc b=true/\∀x∈a,∀y∈b,qI x.id.l y.id.l<0:=by
 induction a with
 |nil=>simp[vc]
 |cons x a j=>
  rw[kC,rises_cons,rises_cons,j];constructor
  .rintro⟨d,i,g,e⟩;refine⟨⟨fun y c=>d y (qaA _ c),i⟩,g,fun y c z f=>?_⟩;rcases List.mem_cons.1 c with rfl|c
   .exact d z (List.mem_append_right _ f)
   .exact e y c z f
  .rintro⟨⟨d,i⟩,g,e⟩;refine⟨fun y c=>?_,i,g,fun y c z f=>e y (vq _ c) z f⟩;rcases List.mem_append.1 c with h|h
   .exact d y h
   .exact e x (Z1 ..) y h
def kD(m:Mk):List Mk->List Mk
 |[]=>[m]
 |x::l=>if qI x.id.l m.id.l<0 then x::kD m l else m::x::l
theorem qsH(m:Mk):∀(l:List Mk),(kD m l).length=l.length+1
 |[]=>rfl
 |x::l=>by
  unfold kD;split
  .simp[qsH m l]
  .simp
theorem qsG(m:Mk):∀(l:List Mk)(x:Mk),x∈kD m l↔x=m\/x∈l
 |[],x=>by simp[kD]
 |y::l,x=>by
  unfold kD;split
  .simp only[jI,qsG m l];constructor
   .rintro(h|h|h)
    .exact .inr (.inl h)
    .exact .inl h
    .exact .inr (.inr h)
   .rintro(h|h|h)
    .exact .inr (.inl h)
    .exact .inl h
    .exact .inr (.inr h)
  .simp
theorem qsI{m:Mk}:∀{l:List Mk},qvx l m.id->kD m l=l++[m]
 |[],_=>rfl
 |x::l,h=>by
  rw[kD,if_pos (h x (Z1 ..)),qsI fun y a=>h y (vq _ a)];rfl
theorem qsF{m x:Mk}:∀{l:List Mk},¬qI x.id.l m.id.l<0->kD m (l++[x])=kD m l++[x]
 |[],h=>by simp[kD,h]
 |y::l,h=>by
  simp only[kC,kD];split
  .rw[qsF h];rfl
  .rfl
theorem hasM_false{l:List Mk}{id:ID}:zS l id=false↔∀x∈l,x.id≠id:=by
 simp[zS]
theorem getElem?_mid{α:Type}(a:List α)(x:α)(b:List α):(a++x::b)[a.length]?=some x:=by
 rw[jn (qA _),Nat.sub_self];rfl
theorem qmQ(m:Mk):∀(n:Nat)(l t:List Mk),l.length=n->vc l=true->(∀x∈l,x.id≠m.id)->VO n (l++m::t)=kD m l++t
 |0,l,t,c,_,_=>by
  have:l=[]:=kx c;subst this;rfl
 |n+1,l,t,c,j,g=>by
  obtain⟨a,x,rfl⟩:∃a x,l=a++[x]:=⟨l.dropLast,l.getLast (by intro h;subst h;simp at c),(List.dropLast_concat_getLast _).symm⟩;have d:a.length=n:=wS
  obtain⟨p,_,k⟩:=rises_append.1 j;have hx:=g x wE
  have i:(a++[x]++m::t)[n+1]?=some m:=by
   rw[show n+1=(a++[x]).length from xU];exact getElem?_mid _ _ _
  have e2:(a++[x]++m::t)[n]?=some x:=by
   rw[jY,<-d];exact getElem?_mid a x (m::t)
  rw[VO,i,e2];simp only;by_cases hc:qI m.id.l x.id.l<0
  .rw[if_pos hc]
   have f:swp (a++[x]++m::t) (n+1)=a++m::(x::t):=by
    unfold swp;rw[i,Nat.add_sub_cancel,e2];simp only;subst d;rw[jY,List.singleton_append,List.set_append_right _ _ (Nat.le_succ _),show a.length+1-a.length=1 from wC,List.set_append_right _ _ (qA _),Nat.sub_self];rfl
   have b:¬qI x.id.l m.id.l<0:=(by rw[qe5];omega);rw[f,qmQ m n a (x::t) d p (fun y e=>g y (qaA _ e)),qsF b];simp
  .rw[if_neg hc]
   have b:qI x.id.l m.id.l<0:=by
    rcases qgK x.id.l m.id.l with h|h|h
    .omega
    .exact absurd (qfm h) hx
    .rw[qe5] at hc;omega
   have o:qvx (a++[x]) m.id:=by
    intro y e;rcases List.mem_append.1 e with h|h
    .exact qf1 (k y h x wE) b
    .rw[List.mem_singleton.1 h];exact b
   rw[qsI o];simp
theorem qxr{l:List Mk}{t:List Mk}(b:vc l=true){i:Nat}(hi:i<l.length):VO i (l++t)=l++t:=by
 cases i with
 |zero=>rfl
 |succ j=>
  have a:j<l.length:=wC
  rw[VO,vJ hi,vJ a,qN hi,qN a];simp only;rw[if_neg]
  have d:qI l[j].id.l l[j+1].id.l<0:=by
   have c:l=l.take (j+1)++l.drop (j+1):=(ZK _ _).symm;rw[c] at b;refine(rises_append.1 b).2.2 _ ?_ _ ?_
   .rw[List.mem_take_iff_getElem];exact⟨j,wC,rfl⟩
   .rw[zZ hi];exact Z1 ..
  rw[qe5];omega
theorem qsJ{l:List Mk}{m:Mk}(a:vc l=true)(b:∀x∈l,x.id≠m.id):∀(k i:Nat),k+i=l.length+1->1<=i->Jq k i (l++[m])=if k=0 then l++[m] else kD m l
 |0,i,_,_=>rfl
 |k+1,i,h,hi=>by
  rw[Jq,if_neg wC];rcases KE i l.length with c|e
  .rw[qxr a c,qsJ a b k (i+1) wC wC,if_neg wC]
  .have:i=l.length:=wC;have d:k=0:=wC;subst d;rw[Jq,qmQ m i l [] this.symm a b];simp
theorem find?_neg{l:List Mk}{id:ID}:find? (fun m=>m.id==id) l 0<0↔zS l id=false:=by
 rcases find?_spec (fun m=>m.id==id) l 0 with⟨i,m,a,c,b,e,f⟩|⟨a,c⟩
 .rw[e];constructor
  .intro h;omega
  .intro h;have:=hasM_false.1 h m (jH a);simp at b;exact absurd b this
 .rw[a];constructor
  .intro _;rw[hasM_false];intro x hx d;have:=List.find?_eq_none.1 c x hx;simp[d] at this
  .intro _;decide
theorem qef{l:List Mk}{m:Mk}(c:vc l=true)(b:zS l m.id=false):Qt l m=kD m l:=by
 unfold Qt;rw[if_pos (find?_neg.2 b)];cases l with
 |nil=>rfl
 |cons a l=>rw[qsJ c (hasM_false.1 b) _ 1 rfl (qA _),if_neg wE]
theorem qj3(m:Mk):∀(l:List Mk),(∀x∈l,qI x.id.l m.id.l≠0)->jZ m l true=(l,true)
 |[],_=>rfl
 |x::l,h=>by
  have b:=qj3 m l fun y a=>h y (vq _ a);have hx:=h x (Z1 ..);simp only[jZ,Bool.true_or,b,Bool.not_true,qbA,kZ,if_false,QY,ne_eq,hx,not_false_eq_true,if_true,List.singleton_append]
theorem qvC{m:Mk}{x:Mk}{l:List Mk}(c:vc (x::l)=true)(hx:0<=qI x.id.l m.id.l):∀y∈l,qI y.id.l m.id.l≠0:=by
 intro y b a;have d:=(rises_cons.1 c).1 y b;have:y.id=m.id:=qfm a;rw[this] at d;omega
theorem qnk{m:Mk}:∀{l:List Mk},vc l=true->zS l m.id=false->Ye l m=kD m l
 |[],_,_=>rfl
 |x::l,b,c=>by
  have hx:qI x.id.l m.id.l≠0:=fun h=>hasM_false.1 c x (Z1 ..) (qfm h);have f:zS l m.id=false:=hasM_false.2 fun y d=>hasM_false.1 c y (vq _ d);by_cases hc:qI x.id.l m.id.l<0
  .have a:¬0<=qI x.id.l m.id.l:=wC;have e:=qnk (rises_cons.1 b).2 f;rw[kD,if_pos hc,<-e];simp[Ye,jZ,a,hx]
  .have a:0<=qI x.id.l m.id.l:=wC;rw[kD,if_neg hc];have:=qj3 m l (qvC b a);simp[Ye,jZ,a,hx,this]
def QM(m:Mk):List Mk->List Mk
 |[]=>[]
 |x::l=>if x.id==m.id then m::l else x::QM m l
theorem qnj{m:Mk}:∀{l:List Mk},vc l=true->zS l m.id=true->Ye l m=QM m l
 |[],_,h=>by simp[zS] at h
 |x::l,b,i=>by
  by_cases a:x.id=m.id
  .have n:qI x.id.l m.id.l=0:=(by rw[a];exact qgJ _);have:=qj3 m l (qvC b wC);have g:=qgJ m.id.l;simp[Ye,jZ,this,QM,a,g]
  .have hx:qI x.id.l m.id.l≠0:=fun h=>a (qfm h);have d:zS l m.id=true:=by simpa[zS,a] using i
   have hc:qI x.id.l m.id.l<0:=by
    obtain⟨y,e,c⟩:∃y∈l,y.id=m.id:=by simpa[zS] using d
    rw[<-c];exact(rises_cons.1 b).1 y e
   have k:¬0<=qI x.id.l m.id.l:=wC;have f:=qnj (rises_cons.1 b).2 d;have j:(x.id==m.id)=false:=wr;rw[QM,j,<-f];simp[Ye,jZ,k,hx]
theorem find?_set{m:Mk}:∀{l:List Mk}(k:Nat),zS l m.id=true->∃i,find? (fun x=>x.id==m.id) l k=((k+i:Nat):Int)/\i<l.length/\l.set i m=QM m l
 |[],_,h=>by simp[zS] at h
 |x::l,k,h=>by
  cases a:x.id==m.id with
  |true=>exact⟨0,by simp[find?,a],wE,by simp[QM,a]⟩
  |false=>
   have c:zS l m.id=true:=(by simpa[zS,a] using h);obtain⟨i,d,f,b⟩:=find?_set (k+1) c;refine⟨i+1,?_,xo,by simp[QM,a,b]⟩;simp only[find?,a,kZ,if_false];have e:(k:Int)+1=((k+1:Nat):Int):=wC;rw[e,d];omega
theorem qee{l:List Mk}{m:Mk}(d:zS l m.id=true):Qt l m=QM m l:=by
 obtain⟨i,c,e,b⟩:=find?_set 0 d;have a:find? (fun x=>x.id==m.id) l 0=(i:Int):=wS
 unfold Qt;rw[a,if_neg wC];simpa using b
theorem qyD{l:List Mk}{m:Mk}(b:vc l=true):Qt l m=Ye l m:=by
 cases a:zS l m.id with
 |true=>rw[qee a,qnj b a]
 |false=>rw[qef b a,qnk b a]
theorem qwV(m:Mk)(a:It)(o:Bool):(YO m a o).id=m.id:=by unfold YO;split<;>rfl
theorem qnx{m:Mk}:∀{l:List Mk},vc l=true->zS l m.id=false->vc (kD m l)=true
 |[],_,_=>rfl
 |x::l,b,c=>by
  have hx:qI x.id.l m.id.l≠0:=fun h=>hasM_false.1 c x (Z1 ..) (qfm h);have f:zS l m.id=false:=hasM_false.2 fun y a=>hasM_false.1 c y (vq _ a);obtain⟨e,g⟩:=rises_cons.1 b;unfold kD;split
  .rename_i hc;refine rises_cons.2 ⟨fun y a=>?_,qnx g f⟩;rcases(qsG m l y).1 a with rfl|a
   .exact hc
   .exact e y a
  .rename_i hc
   have d:qI m.id.l x.id.l<0:=by
    rw[qe5];rcases qgK x.id.l m.id.l with h|h|h<;>omega
   refine rises_cons.2 ⟨fun y a=>?_,b⟩;rcases List.mem_cons.1 a with rfl|a
   .exact d
   .exact qf1 d (e y a)
theorem qn3{m:Mk}:∀{l:List Mk}{y:Mk},y∈QM m l->y=m\/y∈l
 |[],y,h=>by simp[QM] at h
 |x::l,y,h=>by
  unfold QM at h;split at h
  .rcases List.mem_cons.1 h with h|h
   .exact .inl h
   .exact .inr (vq _ h)
  .rcases List.mem_cons.1 h with h|h
   .exact .inr (by rw[h];exact Z1 ..)
   .rcases qn3 h with h|h
    .exact .inl h
    .exact .inr (vq _ h)
theorem qnw{m:Mk}:∀{l:List Mk},vc l=true->zS l m.id=true->vc (QM m l)=true
 |[],_,_=>rfl
 |x::l,i,j=>by
  obtain⟨e,g⟩:=rises_cons.1 i;unfold QM;split
  .rename_i d;have a:x.id=m.id:=ww;refine rises_cons.2 ⟨fun y b=>?_,g⟩;rw[<-a];exact e y b
  .rename_i d;have a:¬x.id=m.id:=ww;have f:zS l m.id=true:=(by simpa[zS,a] using j);refine rises_cons.2 ⟨fun y b=>?_,qnw g f⟩;rcases qn3 b with rfl|b
   .obtain⟨z,h,c⟩:∃z∈l,z.id=y.id:=by simpa[zS] using f
    rw[<-c];exact e z h
   .exact e y b
theorem qn4(m:Mk):∀(l:List Mk),(QM m l).length=l.length
 |[]=>rfl
 |x::l=>by
  unfold QM;split
  .rfl
  .simp[qn4 m l]
theorem qyr{l:List Mk}{m:Mk}(b:vc l=true):vc (Qt l m)=true:=by
 cases a:zS l m.id with
 |true=>rw[qee a];exact qnw b a
 |false=>rw[qef b a];exact qnx b a
theorem qyE{l:List Mk}{m:Mk}(b:vc l=true):(Qt l m).length=if zS l m.id then l.length else l.length+1:=by
 cases a:zS l m.id with
 |true=>rw[qee a,qn4];rfl
 |false=>rw[qef b a,qsH];rfl
structure SqF where
 id:ID
 l:List Pl
 t:Nat
def X5(q:SqF)(d:Nat):Option Pl:=q.l.find? fun x=>decide (d<x.s)
def nxT(q:SqF)(d:Nat):Nat:=match X5 q d with
 |some x=>x.s-1
 |none=>q.t
def Vz(q:SqF)(d:Nat):NxV:=match X5 q d with
 |some x=>⟨q.id.l,x.s,x.r,x.f,x.i,true,if d<x.s-1 then d+1 else 0,if d<x.s-1 then x.s-1 else 0⟩
 |none=>⟨q.id.l,0,0,.nilp,0,false,if d<q.t then d+1 else 0,if d<q.t then q.t else 0⟩
def Yl(q:SqF)(d:Nat):Bool:=(X5 q d).isSome||decide (d<nxT q d)
def kz(M:List Mk)(q:SqF):Nat:=(jq M q.id).seq.toNat
def qbF(M:List Mk)(q:SqF):Bool:=decide (M.length=4)&& !zS M q.id
def V0(M:List Mk)(q:SqF):Option NxV:=if qbF M q then none else if Yl q (kz M q) then some (Vz q (kz M q)) else none
def J8(l:List SqF)(M:List Mk):List NxV:=l.filterMap (V0 M)
def qgm:List NxV->Option NxV
 |[]=>none
 |x::r=>some (Vh x r)
def ZG(l:List SqF)(M:List Mk):Option NxV:=qgm (J8 l M)
theorem qtR{l:List SqF}{M:List Mk}{x:NxV}(h:ZG l M=some x):∃q,q∈l/\qbF M q=false/\Yl q (kz M q)=true/\x=Vz q (kz M q):=by
 unfold ZG qgm at h
 have f:x∈J8 l M:=by
  cases b:J8 l M with
  |nil=>rw[b] at h;simp at h
  |cons y r=>rw[b] at h;injection h with h;rw[<-h];exact qhE r y
 obtain⟨q,d,a⟩:=List.mem_filterMap.1 f;unfold V0 at a;split at a
 .simp at a
 .rename_i e;split at a
  .rename_i c;injection a with a;exact⟨q,d,by simpa using e,c,a.symm⟩
  .simp at a
theorem q4b{l:List SqF}{M:List Mk}(h:ZG l M=none){q:SqF}(b:q∈l):qbF M q=true\/Yl q (kz M q)=false:=by
 unfold ZG qgm at h;cases a:J8 l M with
 |cons y r=>rw[a] at h;simp at h
 |nil=>
  have:=List.filterMap_eq_nil_iff.1 a q b;unfold V0 at this;split at this
  .rename_i d;exact .inl d
  .split at this
   .simp at this
   .rename_i c;exact .inr wS
def qff(l:List UInt8):ID:=if h:l.length=16 then⟨l,h⟩ else ID.zero
theorem qkp(i:ID):qff i.l=i:=by
 unfold qff;rw[dif_pos i.h]
def qjL:Rec:=⟨0,0,0,ID.zero,Sl.none⟩
def Zd(rf:D->Int->Rec)(x:NxV):It:=if 0<x.fr then⟨qff x.id,true,x.fr,x.tt,qjL⟩ else⟨qff x.id,false,0,0,rf x.f x.i⟩
def Q8(rf:D->Int->Rec)(l:List SqF):Nat->List Mk->List It×List Mk
 |0,M=>([],M)
 |n+1,M=>match ZG l M with
  |none=>([],M)
  |some x=>((Zd rf x)::(Q8 rf l n (X3 M (Zd rf x) false)).1,(Q8 rf l n (X3 M (Zd rf x) false)).2)
def ks(l:List Mk):List (ID×Int):=l.map fun m=>(m.id,m.seq)
theorem qk2{l m:List Mk}(h:ks l=ks m):l.length=m.length:=by
 have:=congrArg List.length h;simpa[ks] using this
theorem qfh:∀{l m:List Mk},ks l=ks m->∀i,zS l i=zS m i
 |[],[],_,i=>rfl
 |a::l,b::m,h,i=>by
  simp only[ks,List.map_cons,qaB,zj] at h;have:=qfh (l:=l) (m:=m) h.2 i;unfold zS at *;simp only[List.any_cons,h.1.1,this]
 |[],b::m,h,i=>by simp[ks] at h
 |a::l,[],h,i=>by simp[ks] at h
theorem qhP:∀{l m:List Mk},ks l=ks m->∀i,(jq l i).seq=(jq m i).seq
 |[],[],_,i=>rfl
 |a::l,b::m,h,i=>by
  simp only[ks,List.map_cons,qaB,zj] at h;have:=qhP (l:=l) (m:=m) h.2 i;unfold jq at *;simp only[List.find?_cons,h.1.1];cases c:b.id==i with
  |true=>exact h.1.2
  |false=>exact this
 |[],b::m,h,i=>by simp[ks] at h
 |a::l,[],h,i=>by simp[ks] at h
theorem qpn:∀{l m:List Mk}{x y:Mk},ks l=ks m->x.id=y.id->x.seq=y.seq->ks (kD x l)=ks (kD y m)
 |[],[],x,y,_,c,d=>by simp[kD,ks,c,d]
 |a::l,b::m,x,y,h,c,d=>by
  have e:=h;simp only[ks,List.map_cons,qaB,zj] at h;have:=qpn (l:=l) (m:=m) (x:=x) (y:=y) h.2 c d;simp only[kD,h.1.1,c];split
  .simp only[ks,List.map_cons,qaB,zj] at *;exact⟨h.1,this⟩
  .simp only[ks,List.map_cons,qaB,zj] at *;exact⟨⟨c,d⟩,h⟩
 |[],b::m,x,y,h,_,_=>by simp[ks] at h
 |a::l,[],x,y,h,_,_=>by simp[ks] at h
theorem qpm:∀{l m:List Mk}{x y:Mk},ks l=ks m->x.id=y.id->x.seq=y.seq->ks (QM x l)=ks (QM y m)
 |[],[],x,y,_,c,d=>by simp[QM,ks]
 |a::l,b::m,x,y,h,c,d=>by
  simp only[ks,List.map_cons,qaB,zj] at h;have:=qpm (l:=l) (m:=m) (x:=x) (y:=y) h.2 c d;simp only[QM,h.1.1,c];split
  .simp only[ks,List.map_cons,qaB,zj] at *;exact⟨⟨c,d⟩,h.2⟩
  .simp only[ks,List.map_cons,qaB,zj] at *;exact⟨h.1,this⟩
 |[],b::m,x,y,h,_,_=>by simp[ks] at h
 |a::l,[],x,y,h,_,_=>by simp[ks] at h
theorem q0R{l m:List Mk}{x y:Mk}(h:ks l=ks m)(d:vc l=true)(e:vc m=true)(a:x.id=y.id)(c:x.seq=y.seq):ks (Qt l x)=ks (Qt m y):=by
 cases b:zS l x.id with
 |true=>rw[qee b,qee (by rw[<-a,<-qfh h];exact b)];exact qpm h a c
 |false=>rw[qef d b,qef e (by rw[<-a,<-qfh h];exact b)];exact qpn h a c
theorem qt0:∀{l:List Mk}{x:Mk}(i:ID),zS l x.id=false->jq (kD x l) i=if x.id=i then x else jq l i
 |[],x,i,_=>by
  unfold jq kD;by_cases h:x.id=i<;>simp[h]
 |a::l,x,i,h=>by
  have d:(a.id==x.id)=false/\zS l x.id=false:=by
   unfold zS at *;simpa[List.any_cons,Bool.or_eq_false_iff] using h
  have f:=qt0 (l:=l) (x:=x) i d.2;have b:a.id≠x.id:=by simpa using d.1
  unfold jq at *;simp only[kD];split
  .simp only[List.find?_cons];by_cases c:a.id=i
   .have hx:x.id≠i:=fun e=>b (c.trans e.symm);simp[c,hx]
   .simp only[show(a.id==i)=false from wS];exact f
  .simp only[List.find?_cons];by_cases hx:x.id=i
   .simp[hx]
   .simp[show(x.id==i)=false from wo,hx]
theorem qtz:∀{l:List Mk}{x:Mk}(i:ID),zS l x.id=true->jq (QM x l) i=if x.id=i then x else jq l i
 |[],x,i,h=>by simp[zS] at h
 |a::l,x,i,h=>by
  unfold jq at *;simp only[QM];by_cases b:a.id=x.id
  .simp only[b,beq_self_eq_true,if_true,List.find?_cons];by_cases hx:x.id=i
   .simp[hx]
   .simp[show(x.id==i)=false from wo,hx]
  .simp only[show(a.id==x.id)=false from xQ,kZ,if_false,List.find?_cons];by_cases hi:a.id=i
   .have hx:x.id≠i:=fun e=>b (hi.trans e.symm);simp[hi,hx]
   .simp only[show(a.id==i)=false from xw]
    have c:zS l x.id=true:=by
     unfold zS at *;simpa[List.any_cons,b] using h
    have:=qtz (l:=l) (x:=x) i c;unfold jq at this;exact this
theorem q38{l:List Mk}{x:Mk}(b:vc l=true)(i:ID):jq (Qt l x) i=if x.id=i then x else jq l i:=by
 cases a:zS l x.id with
 |true=>rw[qee a];exact qtz i a
 |false=>rw[qef b a];exact qt0 i a
structure SqF.Ok (rf:D->Int->Rec) (q:SqF):Prop where
 rise:q.l.Pairwise (fun a b=>a.s<b.s)
 lt:∀x,x∈q.l->x.s<18446744073709551616
 t:q.t<18446744073709551616
 rc:∀x:Pl,x∈q.l->(rf x.f x.i).seq=x.s
theorem qh8{q:SqF}{d:Nat}{x:Pl}(h:X5 q d=some x):x∈q.l/\d<x.s:=by
 have a:=List.find?_some h;exact⟨List.mem_of_find?_eq_some h,of_decide_eq_true a⟩
def VT(a:It):Int:=if a.gap then a.til else a.rc.seq
theorem q26{rf:D->Int->Rec}{q:SqF}(ok:q.Ok rf){d:Nat}(hi:Yl q d=true){b:It}(a:b=Zd rf (Vz q d)):
  b.id=q.id/\(b.gap=true->b.fr=((d+1:Nat):Int)/\b.fr<=b.til)/\(b.gap=false->b.rc.seq=((d+1:Nat):Int))/\∃n:Nat,VT b=(n:Int)/\d<n/\n<18446744073709551616/\
   ((b.gap=true/\n=nxT q d)\/(b.gap=false/\n=d+1/\∃x,X5 q d=some x/\x.s=d+1)):=by
 unfold Yl nxT at hi;unfold Vz at a;unfold nxT;cases c:X5 q d with
 |none=>
  rw[c] at hi a;simp only[Option.isSome_none,Bool.false_or,decide_eq_true_eq] at hi;simp only[if_pos hi] at a;unfold Zd at a;rw[if_pos wE] at a;subst a;exact⟨qkp _,fun _=>⟨rfl,by show((d+1:Nat):Int)<=(q.t:Int);omega⟩,fun h=>wI,q.t,rfl,hi,ok.t,.inl ⟨rfl,rfl⟩⟩
 |some x=>
  obtain⟨hx,k⟩:=qh8 c;have:=ok.lt x hx;rw[c] at a;simp only at a⊢;by_cases g:d<x.s-1
  .simp only[if_pos g] at a;unfold Zd at a;rw[if_pos wE] at a;subst a;exact⟨qkp _,fun _=>⟨rfl,by show((d+1:Nat):Int)<=((x.s-1:Nat):Int);omega⟩,fun h=>wI,x.s-1,rfl,g,wC,.inl ⟨rfl,rfl⟩⟩
  .simp only[if_neg g] at a;unfold Zd at a;rw[if_neg wE] at a;subst a;have j:=ok.rc x hx;have e:x.s=d+1:=wC;refine⟨qkp _,fun h=>wI,fun _=>?_,d+1,?_,wC,wC,.inr ⟨rfl,rfl,x,rfl,e⟩⟩
   .show(rf x.f x.i).seq=_;rw[j,e]
   .show(rf x.f x.i).seq=_;rw[j,e]
def qbS(q:SqF)(d:Nat):Nat:=q.l.countP (fun x=>decide (d<x.s))+q.l.countP (fun x=>decide (d+1<x.s))+(if d<q.t then 1 else 0)
theorem q0J(q:SqF)(d:Nat):qbS q d<=2*q.l.length+1:=by
 unfold qbS;have:=List.countP_le_length (p:=fun x:Pl=>decide (d<x.s)) (l:=q.l);have:=List.countP_le_length (p:=fun x:Pl=>decide (d+1<x.s)) (l:=q.l);split<;>omega
theorem qgB{l:List Pl}{a b:Nat}(h:a<=b):l.countP (fun x=>decide (b<x.s))<=l.countP (fun x=>decide (a<x.s)):=
 List.countP_mono_left fun x _ hx=>decide_eq_true (by have:=of_decide_eq_true hx;omega)
theorem qlz:∀{l:List Pl}{a b:Nat}{x:Pl},a<=b->x∈l->a<x.s->x.s<=b->l.countP (fun x=>decide (b<x.s))<l.countP (fun x=>decide (a<x.s))
 |y::l,a,b,x,h,hx,d,e=>by
  simp only[List.countP_cons];have f:=qgB (l:=l) h;rcases List.mem_cons.1 hx with rfl|hx
  .rw[if_neg wG,if_pos ww];omega
  .have:=qlz h hx d e;by_cases c:b<y.s
   .rw[if_pos wS,if_pos wG];omega
   .rw[if_neg wS];omega
theorem q0K(q:SqF){a b:Nat}(h:a<=b):qbS q b<=qbS q a:=by
 unfold qbS;have e:=qgB (l:=q.l) h;have d:=qgB (l:=q.l) (show a+1<=b+1 from wC);by_cases c:b<q.t
 .rw[if_pos c,if_pos wC];omega
 .rw[if_neg c];omega
theorem q0I{rf:D->Int->Rec}{q:SqF}(_:q.Ok rf){d n:Nat}(g:d<n)(h:n=nxT q d\/∃x,X5 q d=some x/\x.s=d+1):qbS q n<qbS q d:=by
 unfold qbS;have k:=qgB (l:=q.l) (qfF g);have m:=qgB (l:=q.l) (show d+1<=n+1 from wC)
 have j:(if n<q.t then 1 else 0)<=(if d<q.t then 1 else 0):=by
  by_cases f:n<q.t
  .rw[if_pos f,if_pos wC];omega
  .rw[if_neg f];omega
 cases a:X5 q d with
 |none=>
  rcases h with h|⟨x,hx,-⟩
  .unfold nxT at h;rw[a] at h;simp only at h;rw[if_neg wC,if_pos wC];omega
  .rw[a] at hx;simp at hx
 |some x=>
  obtain⟨hx,i⟩:=qh8 a;by_cases e:x.s=d+1
  .have:=qlz (qfF g) hx i wC;omega
  .rcases h with h|⟨y,b,c⟩
   .unfold nxT at h;rw[a] at h;simp only at h;have:=qlz (show d+1<=n+1 from wC) hx wC wC;omega
   .rw[a] at b;injection b with b;rw[b] at e;exact absurd c e
def qdf(l:List SqF)(M:List Mk):Nat:=(l.map fun q=>qbS q (kz M q)).sum
theorem qmy:∀{l:List SqF}{f g:SqF->Nat}{q:SqF},(∀x,x∈l->f x<=g x)->q∈l->f q<g q->(l.map f).sum<(l.map g).sum
 |y::l,f,g,q,h,a,b=>by
  simp only[List.map_cons,List.sum_cons];have e:=h y wE
  have d:(l.map f).sum<=(l.map g).sum:=by
   clear a b
   induction l with
   |nil=>simp
   |cons z l c=>
    simp only[List.map_cons,List.sum_cons];have:=h z wE
    have:=c fun x hx=>h x (by
     rcases List.mem_cons.1 hx with rfl|hx
     .simp
     .simp[hx])
    omega
  rcases List.mem_cons.1 a with rfl|a
  .omega
  .have:=qmy (fun x hx=>h x (vq _ hx)) a b;omega
structure MOk (M:List Mk):Prop where
 r:Jk M=true
 pos:∀m,m∈M->jx m.seq
theorem MOk.rises{M:List Mk}(h:MOk M):vc M=true:=by
 have:=h.r;unfold Jk at this;rw[zX] at this;exact this.2
theorem MOk.len{M:List Mk}(h:MOk M):M.length<=4:=by
 have:=h.r;unfold Jk at this;rw[zX] at this;exact of_decide_eq_true this.1
theorem qkP{M:List Mk}(h:∀m,m∈M->jx m.seq)(i:ID):jx (jq M i).seq:=by
 unfold jq;cases a:M.find? (fun m=>m.id==i) with
 |none=>exact⟨Int.le_refl 0,show(0:Int)<18446744073709551616 from wH⟩
 |some m=>exact h m (List.mem_of_find?_eq_some a)
theorem qju{M:List Mk}(h:MOk M)(q:SqF):(jq M q.id).seq=(kz M q:Int):=by
 have:=(qkP h.pos q.id).1;unfold kz;omega
theorem qxd{M:List Mk}(h:MOk M)(q:SqF):kz M q<18446744073709551616:=by
 have:=(qkP h.pos q.id).2;have:=(qkP h.pos q.id).1;unfold kz;omega
theorem qoQ{x y:Mk}:∀{l:List Mk},y∈kD x l->y=x\/y∈l
 |[],h=>by simp[kD] at h;exact .inl h
 |a::l,h=>by
  simp only[kD] at h;split at h
  .rcases List.mem_cons.1 h with rfl|h
   .simp
   .rcases qoQ h with h|h
    .exact .inl h
    .exact .inr (vq _ h)
  .rcases List.mem_cons.1 h with rfl|h
   .simp
   .exact .inr h
theorem qoN{x y:Mk}:∀{l:List Mk},y∈QM x l->y=x\/y∈l
 |[],h=>by simp[QM] at h
 |a::l,h=>by
  simp only[QM] at h;split at h
  .rcases List.mem_cons.1 h with rfl|h
   .simp
   .exact .inr (vq _ h)
  .rcases List.mem_cons.1 h with rfl|h
   .simp
   .rcases qoN h with h|h
    .exact .inl h
    .exact .inr (vq _ h)
theorem MOk.put{M:List Mk}(h:MOk M){x:Mk}(hx:jx x.seq)(b:zS M x.id=true\/M.length<4):MOk (Qt M x):=by
 refine⟨?_,fun m a=>?_⟩
 .unfold Jk;rw[qyr h.rises,qyE h.rises];have:=h.len;rcases b with b|b
  .simp[b,this]
  .split<;>simp<;>omega
 .cases c:zS M x.id with
  |true=>
   rw[qee c] at a;rcases qoN a with rfl|a
   .exact hx
   .exact h.pos m a
  |false=>
   rw[qef h.rises c] at a;rcases qoQ a with rfl|a
   .exact hx
   .exact h.pos m a
theorem qwS(m:Mk)(a:It):(YO m a false).seq=VT a:=by
 unfold YO VT;split<;>rfl
structure StepOk (M m:List Mk) (it:It):Prop where
 room:zS m it.id=true\/m.length<4
 gap:it.gap=true->it.fr=(jq m it.id).seq+1/\it.fr<=it.til
 ent:it.gap=false->it.rc.seq=(jq m it.id).seq+1
 seq:0<=(jq m it.id).seq/\(jq m it.id).seq<18446744073709551615
 nxt:VT it<18446744073709551616
 tk:qdX M it=0
 ok1:MOk (X3 M it false)
 ok2:MOk (Qt m {jq m it.id with seq:=VT it})
 ks:ks (X3 M it false)=ks (Qt m {jq m it.id with seq:=VT it})
theorem qm4{rf:D->Int->Rec}{l:List SqF}(K:∀q,q∈l->q.Ok rf){M m:List Mk}(f:MOk M)(H:MOk m)(u:ks M=ks m){x:NxV}(hx:ZG l M=some x):
  StepOk M m (Zd rf x)/\qdf l (X3 M (Zd rf x) false)<qdf l M:=by
 obtain⟨q,G,B,z,rfl⟩:=qtR hx;obtain⟨c,F⟩:∃c,c=Zd rf (Vz q (kz M q)):=⟨_,rfl⟩;rw[<-F];have ok:=K q G;obtain⟨e,I,C,n,o,N,O,s⟩:=q26 ok z F;have E:=qju f q;have e2:(jq m c.id).seq=(kz M q:Int):=by rw[e,<-E,qhP u]
 have v:zS M q.id=true\/M.length<4:=by
  unfold qbF at B;have:=f.len;cases L:zS M q.id with
  |true=>exact .inl rfl
  |false=>
   rw[L] at B;simp at B;exact .inr wC
 have y:qcx (jq M c.id) c=true:=by
  rw[e];unfold qcx;rw[E];unfold VT at o;cases g:c.gap with
  |true=>
   obtain⟨a,b⟩:=I g;simp only[if_true,Bool.not_eq_true',Bool.or_eq_false_iff,decide_eq_false_iff_not];omega
  |false=>
   have:=C g;simp only[kZ,if_false,Bool.not_eq_true',decide_eq_false_iff_not];omega
 have A:X7 M c.id=0:=by
  unfold X7;rw[if_neg (by rw[f.r];simp),e,if_neg];rintro⟨a,b⟩;have:=find?_neg.1 b;rcases v with h|h
  .rw[h] at this;cases this
  .omega
 have w:(YO (jq M c.id) c false).id=q.id:=by rw[qwV,qgz,e]
 have d:=qwS (jq M c.id) c;have k:MOk (X3 M c false):=f.put (by rw[d,o];exact⟨wC,wC⟩) (by rw[w];exact v);have j:zS m c.id=true\/m.length<4:=by rw[e,<-qfh u,<-qk2 u];exact v
 refine⟨⟨j,fun g=>?_,fun g=>?_,⟨by rw[e2];omega,by rw[e2];omega⟩,by rw[o];omega,?_,k,H.put (by rw[o];exact⟨Int.natCast_nonneg n,show(n:Int)<18446744073709551616 from wC⟩) (by rw[qgz];exact j),?_⟩,?_⟩
 .rw[e2];have:=I g;omega
 .rw[e2];have:=C g;omega
 .unfold qdX;rw[if_neg (by rw[A];simp),if_pos y]
 .unfold X3;exact q0R u f.rises H.rises (by rw[w,qgz,e]) (by rw[d])
 .have qd:∀i,jq (X3 M c false) i=if q.id=i then YO (jq M c.id) c false else jq M i:=fun i=>by
   unfold X3;rw[q38 f.rises,w]
  have t:∀p:SqF,kz (X3 M c false) p=if q.id=p.id then n else kz M p:=fun p=>by
   unfold kz;rw[qd];split
   .rw[d,o];simp
   .rfl
  unfold qdf;refine qmy (q:=q) (fun p _=>?_) G ?_
  .rw[t];split
   .rename_i J;refine q0K p ?_;have:kz M p=kz M q:=(by unfold kz;rw[J]);omega
   .exact qA _
  .rw[t,if_pos rfl];refine q0I ok N ?_;rcases s with s|⟨-,-,s⟩
   .exact .inl s.2
   .exact .inr s
def qeq(m:List Mk)(l:List It):List Mk:=l.foldl (fun m a=>Qt m {jq m a.id with seq:=VT a}) m
theorem qv8{rf:D->Int->Rec}{l:List SqF}(j:∀q,q∈l->q.Ok rf):∀(n:Nat){M m:List Mk},MOk M->MOk m->ks M=ks m->
  (∀i a,(Q8 rf l n M).1[i]?=some a->∃g,StepOk g (qeq m ((Q8 rf l n M).1.take i)) a)/\MOk (Q8 rf l n M).2/\MOk (qeq m (Q8 rf l n M).1)/\ks (Q8 rf l n M).2=ks (qeq m (Q8 rf l n M).1)/\(qdf l M<n->ZG l (Q8 rf l n M).2=none)
 |0,M,m,d,e,b=>⟨fun i a h=>by simp[Q8] at h,d,e,b,fun h=>absurd h (Nat.not_lt_zero _)⟩
 |n+1,M,m,d,e,b=>by
  cases f:ZG l M with
  |none=>
   simp only[Q8,f];exact⟨fun i a h=>wP,d,e,b,fun _=>wE⟩
  |some x=>
   obtain⟨c,t⟩:=qm4 j d e b f;obtain⟨p,s,o,r,k⟩:=qv8 j n c.ok1 c.ok2 c.ks;simp only[Q8,f];refine⟨fun i a h=>?_,s,o,r,fun h=>k wC⟩;cases i with
   |zero=>
    simp only[kY,qy] at h;subst h;exact⟨M,c⟩
   |succ i=>
    obtain⟨g,hi⟩:=p i a wQ;exact⟨g,by simpa[qeq] using hi⟩
theorem q4J{l:List SqF}{M m:List Mk}(f:MOk M)(c:ks M=ks m)(h:ZG l M=none){q:SqF}(g:q∈l)(b:zS m q.id=true\/m.length<4):(q.t:Int)<=(jq m q.id).seq:=by
 rcases q4b h g with a|a
 .unfold qbF at a;rw[zX,decide_eq_true_eq,Bool.not_eq_true'] at a;rcases b with b|b
  .rw[<-qfh c,a.2] at b;cases b
  .rw[<-qk2 c] at b;omega
 .have e:=qju f q;rw[<-qhP c,e];unfold Yl nxT at a;cases d:X5 q (kz M q) with
  |some x=>rw[d] at a;simp at a
  |none=>rw[d] at a;simp at a;omega
theorem qzU{l:List SqF}{M m:List Mk}(a:ks M=ks m):ZG l M=ZG l m:=by
 have:V0 M=V0 m:=funext fun q=>by unfold V0 qbF kz;rw[qk2 a,qfh a,qhP a]
 unfold ZG J8;rw[this]
theorem qpf:∀(l:List SqF)(M:List Mk),qdf l M<=2*(l.map fun q=>q.l.length).sum+l.length
 |[],_=>by simp[qdf]
 |q::l,M=>by
  have:=qpf l M;have:=q0J q (kz M q);unfold qdf at *;simp only[List.map_cons,List.sum_cons,jA];omega
def zx:D->List Nat
 | .osl r _ _ _ _=>[r]
 |_=>[]
theorem RowA.nm{H:qe}{k:Nat}{v:D}{cs:List D}{L:List Nat}(h:RowA H k v cs L):L=zx v:=by
 rcases h with⟨rfl,_,rfl⟩|⟨r,n,rfl,_,_,rfl⟩<;>rfl
def qhx(b:List UInt8)(i:Nat):Rec:=YW (zL b).l ((zD b).getD i 0)
def VR(p:Nat)(b:List UInt8)(i:Nat):Pl:=⟨qU (qR (zL b).l ((zD b).getD i 0)) 0,qU (qR (zL b).l ((zD b).getD i 0)) 8,.optr p 5 0,i⟩
def KN(p:Nat)(b:List UInt8):List Pl:=(zC b).map (VR p b)
def upF(p:Nat)(b:List UInt8)(q:SqF):SqF:=⟨q.id,q.l++KN p b,max q.t (qH b).tseq⟩
def Z6(qs:List SqF)(i:ID):List SqF:=if qs.any (fun q=>q.id==i) then qs else qs++[⟨i,[],0⟩]
def Zo(qs:List SqF)(f:Nat×List UInt8):List SqF:=(Z6 qs (qH f.2).seq).map fun q=>if q.id=(qH f.2).seq then upF f.1 f.2 q else q
def jw(fs:List (Nat×List UInt8)):List SqF:=fs.foldl Zo []
theorem qy8{fs:List (Nat×List UInt8)}{i:Nat}{f:Nat×List UInt8}(h:fs[i]?=some f):jw (fs.take (i+1))=Zo (jw (fs.take i)) f:=by
 obtain⟨a,rfl⟩:=List.getElem?_eq_some_iff.1 h;unfold jw;rw[Vs a,List.foldl_append];rfl
def qeB(qs:List SqF):Prop:=∀(i j:Nat)(x y:SqF),qs[i]?=some x->qs[j]?=some y->x.id=y.id->i=j
theorem qoy{qs:List SqF}(h:qeB qs)(a:ID):qeB (Z6 qs a):=by
 unfold Z6;split
 .exact h
 .rename_i k;have e:∀x,x∈qs->x.id≠a:=fun x hx c=>k (List.any_eq_true.2 ⟨x,hx,wS⟩);intro i j x y hi b c;rw[List.getElem?_append] at hi b;split at hi<;>split at b
  .exact h i j x y hi b c
  .rename_i f l;have d:=(List.getElem?_eq_some_iff.1 b).1;simp only[List.length_singleton] at d;rw[show j-qs.length=0 from wC] at b;simp only[kY,qy] at b;subst b;exact absurd c (e x (jH hi))
  .rename_i f l;have d:=(List.getElem?_eq_some_iff.1 hi).1;simp only[List.length_singleton] at d;rw[show i-qs.length=0 from wC] at hi;simp only[kY,qy] at hi;subst hi;exact absurd c.symm (e y (jH b))
  .have d:=(List.getElem?_eq_some_iff.1 hi).1;have g:=(List.getElem?_eq_some_iff.1 b).1;simp only[List.length_singleton] at d g;omega
theorem qje(p:Nat)(b:List UInt8)(a:ID)(q:SqF):(if q.id=a then upF p b q else q).id=q.id:=by
 split<;>rfl
theorem q6I{qs:List SqF}(h:qeB qs)(f:Nat×List UInt8):qeB (Zo qs f):=fun i j x y hi a b=>by
 unfold Zo at hi a;rw[Vb] at hi a;obtain⟨d,hx,rfl⟩:=Option.map_eq_some_iff.1 hi;obtain⟨e,c,rfl⟩:=Option.map_eq_some_iff.1 a;rw[qje,qje] at b;exact qoy h _ i j d e hx c b
theorem qnB:∀(fs:List (Nat×List UInt8)){qs:List SqF},qeB qs->qeB (fs.foldl Zo qs)
 |[],_,h=>h
 |f::fs,_,h=>qnB fs (q6I h f)
theorem q6J{qs:List SqF}(h:qeB qs){f:Nat×List UInt8}{j:Nat}{q:SqF}(b:(Z6 qs (qH f.2).seq)[j]?=some q)(c:q.id=(qH f.2).seq):Zo qs f=(Z6 qs (qH f.2).seq).set j (upF f.1 f.2 q):=by
 have d:=qoy h (qH f.2).seq;unfold Zo;apply List.ext_getElem?;intro i;rw[Vb,List.getElem?_set];by_cases a:j=i
 .subst a;rw[if_pos rfl,b,if_pos (List.getElem?_eq_some_iff.1 b).1];simp[c]
 .rw[if_neg a];cases hi:(Z6 qs (qH f.2).seq)[i]? with
  |none=>rfl
  |some y=>
   have:y.id≠(qH f.2).seq:=fun e=>a (d j i q y b hi (c.trans e.symm));simp[this]
theorem qll{l:List Sq}{j:Nat}{x:Sq}(g:l[j]?=some x)(i:Nat)(d:D)(y:Sq)(hi:i<18)(b:x.c.set i d=y.c):(vf l).set (j*18+i) d=vf (l.set j y):=by
 obtain⟨a,rfl⟩:=List.getElem?_eq_some_iff.1 g;have f:l=l.take j++l[j]::l.drop (j+1):=by rw[<-zZ a,ZK]
 have e2:vf l=vf (l.take j)++(l[j].c++vf (l.drop (j+1))):=by
  conv=>lhs;rw[f]
  rw[qln];rfl
 have e:(vf (l.take j)).length=j*18:=by rw[KA,jj];omega
 rw[qgW (l:=l),if_pos a,qln,e2,List.set_append,if_neg wC,e,List.set_append,if_pos (by rw[Sq.len];omega)];rw[show j*18+i-j*18=i from wC,b];rfl
theorem Sq.c16(x:Sq)(d:D):x.c.set 16 d=Sq.c ⟨x.id,d,x.t⟩:=by
 have:=x.id.h;unfold Sq.c VP;rw[List.set_append,if_neg wE];simp
theorem Sq.c17(x:Sq)(t:Nat):x.c.set 17 (.int .u64 (t:Nat))=Sq.c ⟨x.id,x.v,t⟩:=by
 have:=x.id.h;unfold Sq.c VP;rw[List.set_append,if_neg wE];simp
structure RdW (n0:Nat) (K:qe) (oD:D) (l:List Sq) (qs:List SqF):Prop where
 oR:RowA K 18 oD (vf l) (zx oD)
 oN:∀n,n∈zx oD->n0<=n
 len:l.length=qs.length
 at_:∀(i:Nat)(x:Sq)(q:SqF),l[i]?=some x->qs[i]?=some q->x.id=q.id/\x.t=q.t/\RowA K 4 x.v (qX q.l) (zx x.v)
 rN:∀(i:Nat)(x:Sq),l[i]?=some x->∀n,n∈zx x.v->n0<=n/\n∉zx oD
 dj:∀(i j:Nat)(x y:Sq),l[i]?=some x->l[j]?=some y->i≠j->∀n,n∈zx x.v->n∉zx y.v
section
variable {n0:Nat} {K:qe} {oD:D} {l:List Sq} {qs:List SqF}
theorem RdW.other(h:RdW n0 K oD l qs){i:Nat}{x:Sq}(hi:l[i]?=some x):∃q,qs[i]?=some q:=by
 have:=(List.getElem?_eq_some_iff.1 hi).1;exact⟨_,qN (by rw[<-h.len];exact this)⟩
theorem RdW.row(h:RdW n0 K oD l qs){i:Nat}{x:Sq}(hi:l[i]?=some x){n:Nat}(b:n∈zx x.v):n<K.length:=by
 obtain⟨q,a⟩:=h.other hi;exact(h.at_ i x q hi a).2.2.lt b
theorem RdW.vcl(h:RdW n0 K oD l qs):∀x,x∈l->closed K.length x.v=true:=fun x hx=>by
 obtain⟨i,hi⟩:=List.getElem?_of_mem hx;obtain⟨q,a⟩:=h.other hi;have b:=(h.at_ i x q hi a).2.2;rcases b with⟨e,_,_⟩|⟨r,n,e,_,c,_⟩
 .rw[e];rfl
 .rw[e];exact decide_eq_true (qx c)
theorem RdW.ext(h:RdW n0 K oD l qs){M:List Nat}{T:qe}(x:Ext M K T)(c:∀n,n∈M->n<n0):RdW n0 T oD l qs:=
 ⟨h.oR.ext x fun n b hc=>by have:=h.oN n b;have:=c n hc;omega,h.oN,h.len,fun i a q hi e=>by
  obtain⟨f,e2,d⟩:=h.at_ i a q hi e;exact⟨f,e2,d.ext x fun n b hc=>by have:=(h.rN i a hi n b).1;have:=c n hc;omega⟩,h.rN,h.dj⟩
theorem RdW.push(h:RdW n0 K oD l qs){a:ID}{T:qe}{f:D}{L:List Nat}(C:n0<=K.length)(m:RowA T 18 f (vf l++Sq.c ⟨a,.vsl true [] 0,0⟩) L)(x:Ext (zx oD) K T)(o:NewL (zx oD) L K.length):RdW n0 T f (l++[⟨a,.vsl true [] 0,0⟩]) (qs++[⟨a,[],0⟩]):=by
 have v:=RowA.nm m;subst v
 have d:∀{i:Nat}{y:Sq},(l++[(⟨a,.vsl true [] 0,0⟩:Sq)])[i]?=some y->l[i]?=some y\/(i=l.length/\y=⟨a,.vsl true [] 0,0⟩):=fun{i y} hi=>by
  rw[List.getElem?_append] at hi;split at hi
  .exact .inl hi
  .have u:=(List.getElem?_eq_some_iff.1 hi).1;simp only[List.length_singleton] at u;rw[show i-l.length=0 from wC] at hi;simp only[kY,qy] at hi;exact .inr ⟨wC,hi.symm⟩
 refine⟨?_,fun n e=>?_,by simp[h.len],fun i y q hi g=>?_,fun i y hi n e=>?_,fun i j y z hi B A n e=>?_⟩
 .rw[qln,show vf [(⟨a,.vsl true [] 0,0⟩:Sq)]=Sq.c ⟨a,.vsl true [] 0,0⟩ by simp[vf]];exact m
 .rcases o n e with b|b
  .exact h.oN n b
  .omega
 .rcases d hi with b|⟨b,rfl⟩
  .have s:=(List.getElem?_eq_some_iff.1 b).1;rw[vJ (by rw[<-h.len];exact s)] at g;obtain⟨w,e2,t⟩:=h.at_ i y q b g;exact⟨w,e2,t.ext x fun n e=>(h.rN i y b n e).2⟩
  .rw[b,h.len,jn (qA _)] at g;simp only[Nat.sub_self,kY,qy] at g;subst g;exact⟨rfl,rfl,RowA.nil _ _⟩
 .rcases d hi with b|⟨b,rfl⟩
  .obtain⟨p,r⟩:=h.rN i y b n e;refine⟨p,fun hc=>?_⟩;rcases o n hc with k|k
   .exact r k
   .have:=h.row b e;omega
  .simp[zx] at e
 .rcases d hi with b|⟨b,rfl⟩
  .rcases d B with k|⟨k,rfl⟩
   .exact h.dj i j y z b k A n e
   .simp[zx]
  .simp[zx] at e
theorem RdW.upd(h:RdW n0 K oD l qs){j:Nat}{x y:Sq}{q':SqF}(s:l[j]?=some x)(O:n0<=K.length){T:qe}{M:List Nat}(N:RowA T 18 oD (vf (l.set j y)) (zx oD))(J:Ext M K T)(L:∀n,n∈M->n∈zx oD\/n∈zx x.v)
  (C:y.id=q'.id) (e2:y.t=q'.t) (G:RowA T 4 y.v (qX q'.l) (zx y.v)) (B:NewL (zx x.v) (zx y.v) K.length):RdW n0 T oD (l.set j y) (qs.set j q'):=by
 have E:=(List.getElem?_eq_some_iff.1 s).1
 have c:∀{i:Nat}{z:Sq},(l.set j y)[i]?=some z->(i=j/\z=y)\/(j≠i/\l[i]?=some z):=fun{i z} hi=>by
  rw[List.getElem?_set] at hi;split at hi
  .rename_i e;subst e;simp only[qy] at hi;exact .inl ⟨rfl,hi.symm⟩
  .rename_i e;exact .inr ⟨e,hi⟩
 have r:∀n,n∈zx y.v->n0<=n/\n∉zx oD:=fun n a=>by
  rcases B n a with d|d
  .exact h.rN j x s n d
  .exact⟨wC,fun hc=>by have:=h.oR.lt hc;omega⟩
 have q:∀{i:Nat}{z:Sq},j≠i->l[i]?=some z->∀n,n∈zx y.v->n∉zx z.v:=fun{i z} hi b n a hc=>by
  rcases B n a with d|d
  .exact h.dj j i x z s b hi n d hc
  .have:=h.row b hc;omega
 refine⟨N,h.oN,by simp[h.len],fun i z p hi f=>?_,fun i z hi n a=>?_,fun i k z w hi A o n a=>?_⟩
 .rcases c hi with⟨rfl,rfl⟩|⟨m,b⟩
  .rw[List.getElem?_set_self (by rw[<-h.len];exact E)] at f;injection f with f;subst f;exact⟨C,e2,G⟩
  .rw[List.getElem?_set_ne m] at f;obtain⟨I,F,H⟩:=h.at_ i z p b f;refine⟨I,F,H.ext J fun n a hc=>?_⟩;rcases L n hc with d|d
   .exact(h.rN i z b n a).2 d
   .exact h.dj i j z x b s (Ne.symm m) n a d
 .rcases c hi with⟨rfl,rfl⟩|⟨m,b⟩
  .exact r n a
  .exact h.rN i z b n a
 .rcases c hi with⟨rfl,rfl⟩|⟨m,b⟩
  .rcases c A with⟨rfl,rfl⟩|⟨g,u⟩
   .exact absurd rfl o
   .exact q g u n a
  .rcases c A with⟨rfl,rfl⟩|⟨g,u⟩
   .exact fun hc=>q m b n hc a
   .exact h.dj i k z w b u o n a
end
end Go.Ev.S
namespace Go.Ev
open Go Go.Proofs
structure Nd where
 name:List UInt8
 there:Bool
 b:Sl UInt8
 safe:Sl UInt8
structure Fs where
 room:Int
 fuse:Int
 off:Bool
 nodes:List Nd
structure FSv where
 nd:List (Nat×Nat)
 nv:D
 pv:D
 pc:List D
 Ln:List Nat
 Lp:List Nat
def FSv.names(v:FSv)(q:Nat):List Nat:=q::(v.Ln++(v.Lp++(v.nd.map (·.1)++v.nd.map (·.2))))
def FSv.ptrs(v:FSv):List D:=v.nd.map fun x=>D.optr x.1 3 0
def Nd.cells(n:Nd)(j:Nat):List D:=[.str n.name,.bool n.there,.optr j 2 0]
def Nd.data(n:Nd):List D:=[(.vsl n.b.nil (qf n.b.l) n.b.l.length),(.vsl n.safe.nil (qf n.safe.l) n.safe.l.length)]
def Fs.cells(s:Fs)(v:FSv):List D:=[.int .i64 s.room,.int .i64 s.fuse,.bool s.off,v.nv,v.pv]
structure FSty (f:Nat->Nat) (q:Nat) (v:FSv):Prop where
 root:f q=0
 row:∀i,i∈v.Ln->f i=1
 pend:∀i,i∈v.Lp->f i=2
 node:∀(j:Nat)(x:Nat×Nat),v.nd[j]?=some x->f x.1=3+2*j/\f x.2=4+2*j
structure FSw (H:qe) (q:Nat) (s:Fs) (v:FSv):Prop where
 root:qd H q=some (s.cells v)
 row:RowA H 1 v.nv v.ptrs v.Ln
 pend:RowA H 4 v.pv v.pc v.Lp
 len:v.nd.length=s.nodes.length
 node:∀(i:Nat)(n:Nd)(x:Nat×Nat),s.nodes[i]?=some n->v.nd[i]?=some x->qd H x.1=some (n.cells x.2)/\qd H x.2=some n.data
 ty:∃f,FSty f q v
theorem FSw.lt{H:qe}{q:Nat}{s:Fs}{v:FSv}(h:FSw H q s v){i:Nat}(hi:i∈v.names q):i<H.length:=by
 simp only[FSv.names,jI,vj,ZM] at hi
 have key:∀x,x∈v.nd->x.1<H.length/\x.2<H.length:=by
  intro x hx;obtain⟨j,a⟩:=List.mem_iff_getElem?.1 hx;have b:j<s.nodes.length:=by rw[<-h.len];exact(List.getElem?_eq_some_iff.1 a).1
  obtain⟨d,c⟩:=h.node j _ x (qN b) a;exact⟨qx d,qx c⟩
 rcases hi with rfl|hi|hi|⟨x,hx,rfl⟩|⟨x,hx,rfl⟩
 .exact qx h.root
 .exact h.row.lt hi
 .exact h.pend.lt hi
 .exact(key x hx).1
 .exact(key x hx).2
theorem FSw.ext{H T:qe}{q:Nat}{s:Fs}{v:FSv}{M:List Nat}(h:FSw H q s v)(a:Ext M H T)(b:∀i,i∈v.names q->i∉M):FSw T q s v:=by
 have g:∀(l:List (Nat×Nat))(i:Nat)(x:Nat×Nat),l[i]?=some x->x∈l:=fun l i x h=>jH h;refine⟨a.get h.root (b _ (by simp[FSv.names])),h.row.ext a fun i hi=>b i (by simp[FSv.names,hi]),h.pend.ext a fun i hi=>b i (by simp[FSv.names,hi]),h.len,fun i n x f c=>?_,h.ty⟩;obtain⟨d,e⟩:=h.node i n x f c;have hx:=g _ _ _ c;refine⟨a.get d (b _ ?_),a.get e (b _ ?_)⟩
 .simp only[FSv.names,jI,vj,ZM];exact .inr (.inr (.inr (.inl ⟨x,hx,rfl⟩)))
 .simp only[FSv.names,jI,vj,ZM];exact .inr (.inr (.inr (.inr ⟨x,hx,rfl⟩)))
def Q5(l:List Nd)(name:List UInt8):Option Nat:=l.findIdx? fun n=>n.there&&n.name==name
def Kw(l:List Nd):Nat:=(l.filter (·.there)).length
def Zl:List Nd->Nat
 |[]=>0
 |n::l=>(if n.there then n.b.l.length else 0)+Zl l
def Kv(s:List UInt8):Bool:=decide (1<=s.length)&&decide (s.length<=96)&&s.all fun c=>decide (33<=c.toNat)&&decide (c.toNat<=126)
def Xr(s:Fs)(name:List UInt8):Nat:=if s.off then 18 else if Kv name then 0 else 1
def kH(s:Fs):Nat×Fs:=if s.fuse=0 then(18,{s with off:=true}) else if 0<s.fuse then(0,{s with fuse:=s.fuse-1}) else(0,s)
end Go.Ev
namespace Go.Ev.S
open Go Go.Proofs Go.Ev
theorem q3I[MaxL][TxtC](s:List UInt8)(w:s.length<1000000):call cx 146 [.str s] []=some (.bool (Kv s),[]):=by
 refine qC Tryz.func146 rfl ⟨rfl,rfl⟩ ?_;by_cases u:s.length<1
 .have b:(s.length:Int)<1:=by omega
  have d:Kv s=false:=by simp[Kv];omega
  rw[d];simp[Tryz.f146,b]
 by_cases y:96<s.length
 .have b:¬(s.length:Int)<1:=by omega
  have o:(96:Int)<(s.length:Int):=wC
  have d:Kv s=false:=by simp[Kv];omega
  rw[d];simp[Tryz.f146,b,o]
 have b:¬(s.length:Int)<1:=wC
 have o:¬(96:Int)<(s.length:Int):=wC
 obtain⟨r,p⟩:=ql ((s.all fun c=>decide (33<=c.toNat)&&decide (c.toNat<=126)));have d:Kv s=r:=by simp only[Kv,p];rw[decide_eq_true wC,decide_eq_true wC];simp
 rw[d];simp[Tryz.f146,b,o];refine Run.loopThen (fun(k:Nat) e H'=>k<=s.length/\((s.drop k).all fun c=>decide (33<=c.toNat)&&decide (c.toNat<=126))=r/\qi e 0=some (.str s)/\qi e 13=some (.int .i64 s.length)/\qi e 14=some (.int .i64 k)/\H'=[]) (fun k=>s.length-k) 0 ?_ ?_
 .simpa using p
 rintro k e H' ⟨v,a,g,j,l,rfl⟩;by_cases h:k<s.length
 .have f:=zn h;have q:=qz ((k:Int)+1) ((k+1:Nat):Int);have m:s[k]?=some s[k]:=qN h;rw[zZ h,Vc] at a;generalize s[k]=c at *;by_cases t:c.toNat<33
  .have i:(c.toNat:Int)<33:=wC;rw[decide_eq_false wC,qbA,qbA] at a;subst a;simp[g,j,l,f,m,i]
  .have i:¬(c.toNat:Int)<33:=wC;by_cases x:126<c.toNat
   .have n:(126:Int)<(c.toNat:Int):=wC;rw[decide_eq_false (show¬c.toNat<=126 from wC),Bool.and_false,qbA] at a;subst a;simp[g,j,l,f,m,i,n]
   .have n:¬(126:Int)<(c.toNat:Int):=wC;rw[decide_eq_true (show 33<=c.toNat from wC),decide_eq_true (show c.toNat<=126 from wC),Yd,Yd] at a;simp[g,j,l,f,m,q,i,n];exact⟨k+1,wC,wC,wr,wC⟩
 .have f:=zq h;rw[Jc wC] at a;have:r=true:=a.symm;subst this;simp[g,j,l,f]
def Zc(v:FSv)(i:Nat):Nat:=(v.nd.getD i (0,0)).1
def qiz(v:FSv)(i:Nat):Nat:=(v.nd.getD i (0,0)).2
theorem Yn{v:FSv}{i:Nat}(h:i<v.nd.length):v.nd[i]?=some (Zc v i,qiz v i):=by
 simp[Zc,qiz,h]
theorem qjP{v:FSv}{k:Nat}(h:k<v.nd.length):v.ptrs.drop k=.optr (Zc v k) 3 0::v.ptrs.drop (k+1):=by
 have e:v.nd.drop k=(Zc v k,qiz v k)::v.nd.drop (k+1):=by
  rw[zZ h];congr 1;simp[Zc,qiz,h]
 unfold FSv.ptrs;rw[<-List.map_drop,e,List.map_cons,List.map_drop]
theorem q3P[MaxL][TxtC]{H:qe}{q:Nat}{s:Fs}{v:FSv}(h:FSw H q s v)(N:s.nodes.length<1000000)(name:List UInt8):
  call cx 92 [.optr q 5 0,.str name] H=some (match Q5 s.nodes name with|some i=>.optr (Zc v i) 3 0|none=>.nilp,H):=by
 obtain⟨r,u⟩:=ql (Q5 s.nodes name);rw[u];have p:=h.root;simp only[Fs.cells] at p;refine jy Tryz.func92 rfl ⟨rfl,rfl⟩ ?_;rcases h.row with⟨z,G,K⟩|⟨b,n,z,F,A,K⟩
 .have C:=h.len;have:v.nd=[]:=by simpa[FSv.ptrs] using G
  rw[this] at C;have L:s.nodes=[]:=List.length_eq_zero_iff.1 C.symm;rw[z] at p;rw[L] at u;have y:r=none:=by rw[<-u];rfl
  subst y;simp[-qd,Tryz.f92,p];refine qfW ?_;simp
 .rw[z] at p;have I:v.ptrs.length=v.nd.length:=by simp[FSv.ptrs]
  have J:n=s.nodes.length:=by have:=h.len;omega
  subst J;simp[-qd,Tryz.f92,p];refine Run.loopThen (fun(k:Nat) e H'=>k<=s.nodes.length/\(Q5 (s.nodes.drop k) name).map (·+k)=r/\qi e 1=some (.str name)/\qi e 10=some (.osl b v.ptrs.length 0 s.nodes.length 1)/\qi e 11=some (.int .i64 s.nodes.length)/\qi e 12=some (.int .i64 k)/\H'=H) (fun k=>s.nodes.length-k) 0 ?_ ?_
  .simpa using u
  rintro k e H' ⟨O,a,w,f,d,c,rfl⟩;by_cases m:k<s.nodes.length
  .have t:=zn m;have E:=qz ((k:Int)+1) ((k+1:Nat):Int);have o:k<v.nd.length:=(by rw[h.len];exact m);obtain⟨l,M⟩:=h.node k _ _ (qN m) (Yn o);simp only[Nd.cells] at l;have j:=qjP o;rw[zZ m] at a;generalize s.nodes[k]=x at *;unfold Q5 at a;rw[List.findIdx?_cons] at a;cases B:x.there with
   |false=>
    rw[B] at l a;simp at a;simp[-qd,w,f,d,c,t,E,A,j,l];refine⟨k+1,wC,wC,?_,wC⟩;rw[<-a];unfold Q5;cases List.findIdx? (fun n=>n.there&&n.name==name) (s.nodes.drop (k+1))<;>simp;omega
   |true=>
    rw[B] at l a;by_cases hx:x.name=name
    .have g:r=some k:=(by simpa[hx] using a.symm);subst g;simp[-qd,w,f,d,c,t,A,j,l,hx]
    .simp[hx] at a;simp[-qd,w,f,d,c,t,E,A,j,l,hx];refine⟨k+1,wC,wC,?_,wC⟩;rw[<-a];unfold Q5;cases List.findIdx? (fun n=>n.there&&n.name==name) (s.nodes.drop (k+1))<;>simp;omega
  .have t:=zq m;rw[Jc wC] at a;have g:r=none:=(by rw[<-a];rfl);subst g;simp[w,f,d,c,t]
theorem q3N[MaxL][TxtC]{H:qe}{q:Nat}{s:Fs}{v:FSv}(h:FSw H q s v)(name:List UInt8)(g:name.length<1000000){b:Nat}(f:qd H b=some [.str name]):
  call cx 91 [.optr q 5 0,.osl b 1 0 1 1] H=some (.int .i64 (Xr s name),H):=by
 have a:=h.root;simp only[Fs.cells] at a;have c:=q3I name g;refine jy Tryz.func91 rfl ⟨rfl,rfl⟩ ?_;unfold Xr;cases e:s.off with
 |true=>
  rw[e] at a;simp[-qd,Tryz.f91,a]
 |false=>
  rw[e] at a;simp[-qd,Tryz.f91,a];refine Vd ?_;cases d:Kv name with
  |false=>
   rw[d] at c;simp[-qd,f,c]
  |true=>
   rw[d] at c;simp[-qd,f,c];refine qfW ?_;simp
def Q3(s:Fs)(name:List UInt8):Nat:=if Xr s name≠0 then Xr s name else if(Q5 s.nodes name).isSome then 0 else 16
def qfq(s:Fs)(v:FSv)(name:List UInt8):D:=if Xr s name≠0 then .nilp else match Q5 s.nodes name with|some i=>.optr (Zc v i) 3 0|none=>.nilp
theorem qkR[MaxL][TxtC]{H:qe}{q:Nat}{s:Fs}{v:FSv}(h:FSw H q s v)(k:s.nodes.length<1000000)(name:List UInt8)(g:name.length<1000000):
  call cx 40 [.optr q 5 0,.str name] H=some (.tup [qfq s v name,.int .i64 (Q3 s name)],qr H [.str name]):=by
 have f:FSw (qr H [.str name]) q s v:=h.ext (Ext.new H [.str name]) fun _ _=>by simp
 have e:=q3N f name g (b:=H.length) zo;have d:=q3P f k name;refine jy Tryz.func40 rfl ⟨rfl,rfl⟩ ?_;unfold Q3 qfq;by_cases a:Xr s name=0
 .rw[a] at e;rw[if_neg wr,if_neg wr];cases c:Q5 s.nodes name with
  |none=>
   rw[c] at d;simp[-qd,-qr,Tryz.f40,e,d]
  |some i=>
   rw[c] at d;simp[-qd,-qr,Tryz.f40,e,d]
 .have j:¬((Xr s name:Nat):Int)=0:=by omega
  rw[if_pos wr,if_pos wr];simp[-qd,-qr,Tryz.f40,e,a]
theorem qtA[MaxL][TxtC]{H:qe}{q:Nat}{s:Fs}{v:FSv}(h:FSw H q s v)(f:-9000000000000000000<=s.fuse/\s.fuse<=9000000000000000000):
  call cx 45 [.optr q 5 0] H=some (.int .i64 (kH s).1,qn H q ((kH s).2.cells v)):=by
 have b:=h.root;simp only[Fs.cells] at b;refine jy Tryz.func45 rfl ⟨rfl,rfl⟩ ?_;unfold kH;have a:=qdq b;by_cases c:s.fuse=0
 .rw[if_pos c];simp[-qd,-qn,Tryz.f45,b,c,Fs.cells]
 .rw[if_neg c];by_cases d:0<s.fuse
  .rw[if_pos d];have e:=qz (s.fuse-1) (s.fuse-1);simp[-qd,-qn,Tryz.f45,b,c,d,e,Fs.cells]
  .rw[if_neg d];simp[-qd,-qn,Tryz.f45,b,c,d,Fs.cells,a]
theorem qjx[MaxL][TxtC]{H:qe}{b:Nat}{x y:Sl UInt8}(h:qd H b=some [(.vsl x.nil (qf x.l) x.l.length),(.vsl y.nil (qf y.l) y.l.length)]):call cx 49 [.optr b 2 0] H=some (.int .i64 x.l.length,H):=by
 refine jy Tryz.func49 rfl ⟨rfl,rfl⟩ ?_;simp[-qd,Tryz.f49,h]
theorem qt8[MaxL][TxtC]{H:qe}{q:Nat}{s:Fs}{v:FSv}(h:FSw H q s v)(Y:s.nodes.length<1000000)(X:∀n,n∈s.nodes->n.b.l.length<=1000000):
  call cx 44 [.optr q 5 0] H=some (.tup [.int .i64 (Kw s.nodes),.int .i64 (Zl s.nodes)],H):=by
 have t:=h.root;simp only[Fs.cells] at t;refine jy Tryz.func44 rfl ⟨rfl,rfl⟩ ?_;rcases h.row with⟨A,Q,V⟩|⟨b,n,A,O,M,V⟩
 .have K:=h.len;have:v.nd=[]:=by simpa[FSv.ptrs] using Q
  rw[this] at K;have W:s.nodes=[]:=List.length_eq_zero_iff.1 K.symm;rw[A] at t;rw[W];simp[-qd,Tryz.f44,t];refine qfW ?_;simp[Kw,Zl]
 .rw[A] at t;have T:v.ptrs.length=v.nd.length:=by simp[FSv.ptrs]
  have U:n=s.nodes.length:=by have:=h.len;omega
  subst U;simp[-qd,Tryz.f44,t];obtain⟨F,L⟩:=ql (Kw s.nodes);obtain⟨S,P⟩:=ql (Zl s.nodes);rw[L,P];refine Run.loopThen (fun(k:Nat) e H'=>k<=s.nodes.length/\∃f z:Nat,f<=k/\z<=k*1000000/\f+Kw (s.nodes.drop k)=F/\z+Zl (s.nodes.drop k)=S/\qi e 4=some (.int .i64 f)/\qi e 5=some (.int .i64 z)/\qi e 11=some (.osl b v.ptrs.length 0 s.nodes.length 1)/\qi e 12=some (.int .i64 s.nodes.length)/\qi e 13=some (.int .i64 k)/\H'=H) (fun k=>s.nodes.length-k) 0 ?_ ?_
  .exact⟨wC,0,0,wC,wC,by simpa using L,by simpa using P,rfl,rfl,rfl,rfl,rfl,rfl⟩
  rintro k e H' ⟨Z,f,z,R,o,j,a,G,E,i,c,d,rfl⟩;by_cases m:k<s.nodes.length
  .have y:=zn m;have N:=qz ((k:Int)+1) ((k+1:Nat):Int);have p:k<v.nd.length:=(by rw[h.len];exact m);obtain⟨u,J⟩:=h.node k _ _ (qN m) (Yn p);have B:=X _ (vQ m);simp only[Nd.cells] at u;simp only[Nd.data] at J;have r:=qjP p;have g:=qjx J;rw[zZ m] at j a;generalize s.nodes[k]=x at *;cases w:x.there with
   |false=>
    rw[w] at u;simp[Kw,Zl,w] at j a;simp[-qd,G,E,i,c,d,y,N,M,r,u];exact⟨k+1,wC,wC,f,wC,z,zI o (qb9 _ (Nat.le_succ k)),by unfold Kw;exact j,a,rfl,rfl,wC⟩
   |true=>
    rw[w] at u;simp[Kw,Zl,w] at j a;have I:=qz ((f:Int)+1) ((f+1:Nat):Int);have C:=qz ((z:Int)+(x.b.l.length:Int)) ((z+x.b.l.length:Nat):Int);simp[-qd,G,E,i,c,d,y,N,M,r,u,g,I,C];refine⟨k+1,wC,wC,f+1,wC,z+x.b.l.length,by rw[kt,Nat.one_mul];exact Nat.add_le_add o B,?_,wC,wC,wC,wC⟩;unfold Kw;omega
  .have y:=zq m;rw[Jc wC] at j a;simp[Kw,Zl] at j a;subst j;subst a;simp[G,E,i,c,d,y]
theorem qx0[MaxL][TxtC]:call cx 46 [] []=some (.optr 0 2 0,[some [.vsl true [] 0,.vsl true [] 0]]):=by
 refine qC Tryz.func46 rfl ⟨rfl,rfl⟩ ?_;simp[Tryz.f46]
theorem q3L[MaxL][TxtC]:call cx 22 [.int .i64 1048576] []=some (.tup [.optr 0 5 0,.int .i64 0],[some [.int .i64 1048576,.int .i64 (-1),.bool false,.vsl true [] 0,.vsl true [] 0]]):=call_some.2 ⟨60,wF⟩
theorem qkg{H:qe}{i:Nat}{ds:List D}(h:qd H i=some ds):(H=[])=False:=eq_false fun e=>by
 have:=qx h;rw[e] at this;simp at this
theorem q6x(H:qe)(ds:List D):H++[some ds]=qr H ds:=rfl
def qg0(s:Fs)(name:List UInt8):Nat×Fs:=
 if Q3 s name=0 then(17,s)
 else if Q3 s name≠16 then(Q3 s name,s)
 else if 24<=Kw s.nodes then(15,s)
 else if(kH s).1≠0 then kH s
 else(0,{(kH s).2 with nodes:=s.nodes++[⟨name,true,Sl.none,Sl.none⟩]})
theorem qtF(s:Fs):(kH s).1=0\/(kH s).1=18:=by
 unfold kH;split
 .exact .inr rfl
 .split
  .exact .inl rfl
  .exact .inl rfl
theorem qii(s:Fs):(kH s).2.nodes=s.nodes:=by
 unfold kH;split
 .rfl
 .split<;>rfl
theorem qt7{H:qe}{q:Nat}{s c:Fs}{v:FSv}(h:FSw H q s v)(g:c.nodes=s.nodes):FSw (qn H q (c.cells v)) q c v:=by
 obtain⟨f,a⟩:=h.ty;have m:=qx h.root;have d:∀i,i≠q->qd (qn H q (c.cells v)) i=qd H i:=fun i hi=>zW hi;refine⟨zk m,h.row.ext (Ext.set H q _) fun i hi=>?_,h.pend.ext (Ext.set H q _) fun i hi=>?_,by rw[g];exact h.len,fun i n x b j=>?_,f,a⟩
 .intro hc;have b:=a.row i hi;rw[List.mem_singleton.1 hc,a.root] at b;omega
 .intro hc;have b:=a.pend i hi;rw[List.mem_singleton.1 hc,a.root] at b;omega
 .rw[g] at b;obtain⟨k,l⟩:=h.node i n x b j;obtain⟨p,o⟩:=a.node i x j;rw[d,d]
  .exact⟨k,l⟩
  .intro e;rw[e,a.root] at o;omega
  .intro e;rw[e,a.root] at p;omega
theorem q3O[MaxL][TxtC]{H:qe}{q:Nat}{s:Fs}{v:FSv}(h:FSw H q s v)(hn:s.nodes.length<100000)(hp:v.pc.length<400000)(hb:∀n,n∈s.nodes->n.b.l.length<=1000000)(hf:-9000000000000000000<=s.fuse/\s.fuse<=9000000000000000000)(name:List UInt8)(hl:name.length<1000000):
  ∃T v',call cx 19 [.optr q 5 0,.str name] H=some (.int .i64 (qg0 s name).1,T)/\FSw T q (qg0 s name).2 v'/\Ext (v.names q) H T/\NewL (v.names q) (v'.names q) H.length/\v'.pc.length<=v.pc.length+4:=by
 obtain⟨H1,e1⟩:=ql (qr H [.str name]);have x1:=zJ e1;have w1:FSw H1 q s v:=h.ext x1 fun _ _=>by simp
 have c:=qkR h wC name hl;rw[e1] at c;have B:=qt8 w1 wC hb;have F:Ext (v.names q) H H1:=x1.mono fun _ hi=>by simp at hi
 unfold qg0;by_cases c0:Q3 s name=0
 .rw[if_pos c0];rw[c0] at c;refine⟨H1,v,jy Tryz.func19 rfl ⟨rfl,rfl⟩ ?_,w1,F,NewL.refl _ _,wC⟩;simp[-qd,-qn,-qr,Tryz.f19,c,B]
 rw[if_neg c0];by_cases c1:Q3 s name=16
 rotate_left
 .rw[if_pos c1];have aK:¬((Q3 s name:Nat):Int)=0:=by omega
  have ay:¬((Q3 s name:Nat):Int)=16:=wC
  refine⟨H1,v,jy Tryz.func19 rfl ⟨rfl,rfl⟩ ?_,w1,F,NewL.refl _ _,wC⟩;simp[-qd,-qn,-qr,Tryz.f19,c,B,c0,ay]
 rw[if_neg (by simpa using c1)];rw[c1] at c;by_cases c2:24<=Kw s.nodes
 .rw[if_pos c2];have I:(24:Int)<=((Kw s.nodes:Nat):Int):=by omega
  refine⟨H1,v,jy Tryz.func19 rfl ⟨rfl,rfl⟩ ?_,w1,F,NewL.refl _ _,wC⟩;simp[-qd,-qn,-qr,Tryz.f19,c,B,I]
 rw[if_neg c2];have I:¬(24:Int)<=((Kw s.nodes:Nat):Int):=wC
 have XO:=qtA w1 hf;obtain⟨z,e2⟩:=ql (qn H1 q ((kH s).2.cells v));have E:FSw z q (kH s).2 v:=e2▸qt7 w1 (qii s);have x2:=vZ e2;rw[e2] at XO;have U:Ext (v.names q) H z:=F.trans (x2.mono fun i hi=>by rw[List.mem_singleton.1 hi];simp[FSv.names]) (NewL.refl _ _);by_cases c3:(kH s).1=0
 rotate_left
 .rw[if_pos c3];have ao:(kH s).1=18:=(qtF s).resolve_left c3;rw[ao] at XO;refine⟨z,v,jy Tryz.func19 rfl ⟨rfl,rfl⟩ ?_,E,U,NewL.refl _ _,wC⟩;simp[-qd,-qn,-qr,Tryz.f19,c,B,I,XO,ao]
 rw[if_neg (by simpa using c3)];rw[c3] at XO;obtain⟨w,Qg⟩:=ql ((kH s).2);have A:w.nodes=s.nodes:=by rw[<-Qg];exact qii s
 rw[Qg] at E⊢;obtain⟨f,a⟩:=E.ty;have vd:=qx E.root;have Z9:=qx0;obtain⟨u,l2⟩:=ql (z.length);obtain⟨H3,e3⟩:=ql (qr z [.vsl true [] 0,.vsl true [] 0]);have l3:H3.length=u+1:=by rw[<-e3,jg,l2]
 obtain⟨d,f3⟩:=ql (u+1);rw[f3] at l3;have ai:u<d:=wC
 obtain⟨Z,e4⟩:=ql (qr H3 [.str name,.bool true,.optr u 2 0]);have aM:Z.length=d+1:=by rw[<-e4,jg,l3]
 obtain⟨a4,f4⟩:=ql (d+1);have l4:Z.length=a4:=wC
 have aJ:d<a4:=wC
 have ak:Ext [] z Z:=(e3▸Ext.new z _:Ext [] z H3).trans (e4▸Ext.new H3 _) (NewL.refl _ _);have w4:FSw Z q w v:=E.ext ak fun _ _=>by simp
 have r4:=w4.root;simp only[Fs.cells] at r4
 have av:qd Z u=some [.vsl true [] 0,.vsl true [] 0]:=by
  rw[<-e4,vw wC,<-e3,<-l2,zo]
 have aH:qd Z d=some [.str name,.bool true,.optr u 2 0]:=by rw[<-e4,<-l3,zo]
 obtain⟨H5,e5⟩:=ql (qr Z [.optr d 3 0]);have x5:=zJ e5;have w5:FSw H5 q w v:=w4.ext x5 fun _ _=>by simp
 have g5:qd H5 a4=some [.optr d 3 0]:=by rw[<-e5,<-l4,zo]
 have aP:v.ptrs.length=s.nodes.length:=by rw[<-A,<-E.len];simp[FSv.ptrs]
 obtain⟨aQ,Y,L6,hA,aD,x6,n6⟩:=w5.row.append (P:=Tryz.prog) (st:=101) (xt:=101) (e:=105) (x:=.osl a4 1 0 1 1) (xs:=[.optr d 3 0]) (m:=1) wE wE (by simp[-qd,g5]) wE wC wE wC wM wM;obtain⟨r,n,aG,R,ac,aw⟩:=aD.own wE;have ax:q∉v.Ln:=fun hc=>by have:=a.row q hc;rw[a.root] at this;omega
 have r6:=x6.get w5.root ax;simp only[Fs.cells] at r6;have O:r<Y.length:=qx ac;subst aG;have J:(v.ptrs++([.optr d 3 0]:List D)).length=v.ptrs.length+1:=wE
 rw[J] at hA;obtain⟨H7,e7⟩:=ql (qn Y q [.int .i64 w.room,.int .i64 w.fuse,.bool w.off,.osl r (v.ptrs.length+1) 0 n 1,v.pv]);have r7:=kc e7 r6;obtain⟨a7,l7⟩:=ql (H7.length);obtain⟨H8,e8⟩:=ql (qr H7 [.int .i64 0,.optr d 3 0,.str [],.nilp]);have g8:qd H8 a7=some [.int .i64 0,.optr d 3 0,.str [],.nilp]:=by rw[<-e8,<-l7,zo]
 have r8:qd H8 q=some [.int .i64 w.room,.int .i64 w.fuse,.bool w.off,.osl r (v.ptrs.length+1) 0 n 1,v.pv]:=by rw[<-e8,vw (qx r7)];exact r7
 have aI:d<a7:=by
  have h1:=x5.len;have M:=x6.len;rw[<-l7,<-e7,kK];omega
 have aF:RowA H8 4 v.pv v.pc v.Lp:=by
  have p6:RowA Y 4 v.pv v.pc v.Lp:=w5.pend.ext x6 fun i hi hc=>by have h1:=a.row i hc;have M:=a.pend i hi;omega
  have p7:RowA H7 4 v.pv v.pc v.Lp:=p6.ext (e7▸Ext.set Y q _) fun i hi hc=>by have M:=a.pend i hi;rw[List.mem_singleton.1 hc,a.root] at M;omega
  exact p7.ext (e8▸Ext.new H7 _) fun _ _=>by simp
 obtain⟨aL,H9,L9,Xp,aB,x9,n9⟩:=aF.append (P:=Tryz.prog) (st:=102) (xt:=102) (e:=120) (x:=.osl a7 4 0 1 4) (xs:=[.int .i64 0,.optr d 3 0,.str [],.nilp]) (m:=1) wE wE (by simp[-qd,g8]) wE wC wE wC wM wM;obtain⟨t,np,aA,aa,aj,aC⟩:=aB.own wE;have az:q∉v.Lp:=fun hc=>by have:=a.pend q hc;rw[a.root] at this;omega
 have r9:=x9.get r8 az;have ag:t<H9.length:=qx aj;subst aA;have ae:(v.pc++([.int .i64 0,.optr d 3 0,.str [],.nilp]:List D)).length=v.pc.length+4:=wE
 rw[ae] at Xp;obtain⟨HT,eT⟩:=ql (qn H9 q [.int .i64 w.room,.int .i64 w.fuse,.bool w.off,.osl r (v.ptrs.length+1) 0 n 1,.osl t (v.pc.length+4) 0 np 4]);have aR:H7.length=Y.length:=by rw[<-e7,kK]
 have aT:H8.length=H7.length+1:=by rw[<-e8,jg]
 have aU:HT.length=H9.length:=by rw[<-eT,kK]
 have aS:H5.length=a4+1:=by rw[<-e5,jg,l4]
 have aO:=x6.len;have aN:=x9.len;have Yy:=n6 r (by rw[aw];simp);have C:=n9 t (by rw[aC];simp);have V:Ext (v.names q) H H5:=(U.trans ak (fun _ hi=>wV)).trans x5 (fun _ hi=>wV);have p:∀i,i∈v.names q->i<z.length:=fun i hi=>E.lt hi
 have am:r≠q:=by
  intro e;rcases Yy with o|o
  .have:=a.row r o;rw[e,a.root] at this;omega
  .omega
 have L:t≠q:=by
  intro e;rcases C with o|o
  .have:=a.pend t o;rw[e,a.root] at this;omega
  .omega
 have N:r∉v.Lp:=by
  intro hc;rcases Yy with o|o
  .have h1:=a.row r o;have M:=a.pend r hc;omega
  .have:=p r xq;omega
 have ah:r≠d/\r≠u:=by
  rcases Yy with o|o
  .have:=p r (by simp[FSv.names,o]);omega
  .omega
 have Q:t≠d/\t≠u:=by
  rcases C with o|o
  .have:=p t (by simp[FSv.names,o]);omega
  .omega
 have aq:t≠r:=by
  intro e;rcases C with o|o
  .exact N (e▸o)
  .omega
 have k6:∀i,i<Y.length->i≠q->i∉v.Lp->qd HT i=qd Y i:=by
  intro i hi G S;rw[<-eT,zW G,x9.out i wC S,<-e8,vw wC,<-e7,zW G]
 have key:∀i,i<H5.length->i≠q->i∉v.Ln->i∉v.Lp->qd HT i=qd H5 i:=by
  intro i hi G ve S;rw[k6 i wC G S,x6.out i hi ve]
 refine⟨HT,⟨v.nd++[(d,u)],.osl r (v.ptrs.length+1) 0 n 1,.osl t (v.pc.length+4) 0 np 4,v.pc++[.int .i64 0,.optr d 3 0,.str [],.nilp],[r],[t]⟩,jy Tryz.func19 rfl ⟨rfl,rfl⟩ ?_,?_,?_,?_,?_⟩
 .simp[-qd,-qn,-qr,-qG,Tryz.f19,c,B,I,XO,Z9,q6x,e3,e4,e5,l2,l3,l4,ai,r4,hA,r6,O,e7,l7,r7,e8,Xp,r9,ag,eT,zU,qkg r4,qkg r7]
 .refine⟨by rw[<-eT];exact zk (qx r9),?_,?_,?_,?_,?_⟩
  .have au:FSv.ptrs ⟨v.nd++[(d,u)],.osl r (v.ptrs.length+1) 0 n 1,.osl t (v.pc.length+4) 0 np 4,v.pc++[.int .i64 0,.optr d 3 0,.str [],.nilp],[r],[t]⟩=v.ptrs++[.optr d 3 0]:=(by simp[FSv.ptrs]);rw[au];refine .inr ⟨r,n,by rw[J],R,by rw[k6 r O am N];exact ac,rfl⟩
  .exact .inr ⟨t,np,by rw[ae],aa,by rw[<-eT,zW L];exact aj,rfl⟩
  .simp only[zp,jA,kf];rw[E.len,A]
  .intro i nd x h1 M;have W:v.nd.length=s.nodes.length:=(by rw[E.len,A]);by_cases qg:i<s.nodes.length
   .have jL:w.nodes[i]?=some nd:=(by rw[A];rw[<-h1];exact(vJ qg).symm);have vo:v.nd[i]?=some x:=(by rw[<-M];exact(vJ wC).symm);obtain⟨b1,b2⟩:=w5.node i nd x jL vo;obtain⟨t1,t2⟩:=a.node i x vo
    have K:∀j k,f j=k->3<=k->j≠q/\j∉v.Ln/\j∉v.Lp:=by
     intro j k X hk;refine⟨fun e=>?_,fun hc=>?_,fun hc=>?_⟩
     .rw[e,a.root] at X;omega
     .have:=a.row j hc;omega
     .have:=a.pend j hc;omega
    obtain⟨u1,u2,u3⟩:=K _ _ t1 wC;obtain⟨y1,y2,y3⟩:=K _ _ t2 wC;rw[key _ (qx b1) u1 u2 u3,key _ (qx b2) y1 y2 y3];exact⟨b1,b2⟩
   .have hi:i=s.nodes.length:=by
     have:=(List.getElem?_eq_some_iff.1 h1).1;simp only[zp,jA,kf] at this;omega
    subst hi;have e1:nd=⟨name,true,Sl.none,Sl.none⟩:=by simpa using h1.symm
    have e2:x=(d,u):=by
     rw[jn wC,W,Nat.sub_self] at M;simpa using M.symm
    subst e1 e2;have old:∀j,z.length<=j->j≠q/\j∉v.Ln/\j∉v.Lp:=fun j X=>⟨wC,fun hc=>by have:=p j xq;omega,fun hc=>by have:=p j xq;omega⟩;obtain⟨u1,u2,u3⟩:=old d wC;obtain⟨y1,y2,y3⟩:=old u wC;rw[key _ wC u1 u2 u3,key _ wC y1 y2 y3,<-e5,vw wC,vw wC];exact⟨aH,av⟩
  .refine⟨fun i=>if i=d then 3+2*s.nodes.length else if i=u then 4+2*s.nodes.length else if i=r then 1 else if i=t then 2 else f i,?_,?_,?_,?_⟩
   .show(if q=d then _ else _)=0;rw[if_neg wC,if_neg wC,if_neg am.symm,if_neg L.symm];exact a.root
   .intro i hi;rw[List.mem_singleton.1 hi];show(if r=d then _ else _)=1;rw[if_neg ah.1,if_neg ah.2,if_pos rfl]
   .intro i hi;rw[List.mem_singleton.1 hi];show(if t=d then _ else _)=2;rw[if_neg Q.1,if_neg Q.2,if_neg aq,if_pos rfl]
   .intro j x X;have W:v.nd.length=s.nodes.length:=(by rw[E.len,A]);by_cases qg:j<s.nodes.length
    .have vU:v.nd[j]?=some x:=(by rw[<-X];exact(vJ wC).symm);obtain⟨t1,t2⟩:=a.node j x vU;have hm:=jH vU
     have g:∀y k,f y=k->3<=k->y<z.length->(if y=d then 3+2*s.nodes.length else if y=u then 4+2*s.nodes.length else if y=r then 1 else if y=t then 2 else f y)=k:=by
      intro y k hy hk hl;rw[if_neg wC,if_neg wC,if_neg ?_,if_neg ?_]
      .exact hy
      .intro e;rcases C with o|o
       .have:=a.pend t o;rw[<-e] at this;omega
       .omega
      .intro e;rcases Yy with o|o
       .have:=a.row r o;rw[<-e] at this;omega
       .omega
     exact⟨g _ _ t1 wC (p _ (by simp only[FSv.names,jI,vj,ZM];exact .inr (.inr (.inr (.inl ⟨x,hm,rfl⟩))))),g _ _ t2 wC (p _ (by simp only[FSv.names,jI,vj,ZM];exact .inr (.inr (.inr (.inr ⟨x,hm,rfl⟩)))))⟩
    .have aE:j=s.nodes.length:=by
      have:=(List.getElem?_eq_some_iff.1 X).1;simp only[zp,jA,kf] at this;omega
     subst aE
     have e2:x=(d,u):=by
      rw[jn wC,W,Nat.sub_self] at X;simpa using X.symm
     subst e2;refine⟨?_,?_⟩
     .show(if d=d then _ else _)=_;rw[if_pos rfl]
     .show(if u=d then _ else _)=_;rw[if_neg wC,if_pos rfl]
 .refine⟨by have:=V.len;omega,fun i hi hn=>?_⟩;rw[key i (by have:=V.len;omega) (fun e=>hn (by simp[FSv.names,e])) (fun hc=>hn xq) (fun hc=>hn xq),V.out i hi hn]
 .intro i hi;have lH:H.length<=z.length:=U.len;simp only[FSv.names,List.map_append,List.map_cons,List.map_nil,jI,vj,List.not_mem_nil,or_false] at hi⊢;rcases hi with hi|hi|hi|(hi|hi)|(hi|hi)
  .exact .inl (.inl hi)
  .subst hi;rcases Yy with o|o
   .exact .inl (.inr (.inl o))
   .exact .inr wC
  .subst hi;rcases C with o|o
   .exact .inl (.inr (.inr (.inl o)))
   .exact .inr wC
  .exact .inl (.inr (.inr (.inr (.inl hi))))
  .exact .inr wC
  .exact .inl (.inr (.inr (.inr (.inr hi))))
  .exact .inr wC
 .simp
theorem qnq{H:qe}{k:Nat}{v:D}{cs:List D}{L:List Nat}(h:RowA H k v cs L):cellsOf v=some [v]:=by
 rcases h with⟨rfl,_⟩|⟨r,n,rfl,_⟩<;>rfl
theorem qnp{H:qe}{k n:Nat}{v:D}{cs:List D}{L:List Nat}(h:RowA H k v cs L)(b:H.length<=n):closed n v=true:=by
 rcases h with⟨rfl,_⟩|⟨r,m,rfl,_,a,_⟩
 .rfl
 .have:=qx a;simp only[closed,decide_eq_true_eq];omega
theorem qlB[MaxL][TxtC](s:Sl UInt8)(f:s.l.length<=1000000):∃d a,call cx 93 [(.vsl s.nil (qf s.l) s.l.length)] []=some (d,a)/\∀H:qe,∃c,RowA (H++a) 1 (shift H.length d) (qf s.l) c/\Ext [] H (H++a)/\∀i,i∈c->i=H.length/\H.length<(H++a).length:=by
 have h:=qlK s wC;by_cases b:s.nil=true
 .have e:=s.h b;rw[if_pos b] at h;refine⟨_,_,h,fun H=>⟨[],.inl ⟨rfl,by rw[e];rfl,rfl⟩,Ext.app H [],wE⟩⟩
 .rw[if_neg b] at h;refine⟨_,_,h,fun H=>⟨[H.length],.inr ⟨H.length,s.l.length,?_,wE,?_,rfl⟩,Ext.app H _,fun i hi=>⟨List.mem_singleton.1 hi,wE⟩⟩⟩
  .simp[shift]
  .exact zo
theorem q5D(cs:List D):cellsOf (.agg cs)=some cs:=rfl
theorem qx1[MaxL][TxtC]{H:qe}{b:Nat}{x y:Sl UInt8}(h:qd H b=some [(.vsl x.nil (qf x.l) x.l.length),(.vsl y.nil (qf y.l) y.l.length)])(hx:x.l.length<=1000000)(z:y.l.length<=1000000):
  ∃c a d T e k,call cx 47 [.optr b 2 0] H=some (.optr c 2 0,T)/\qd T c=some [a,d]/\RowA T 1 a (qf x.l) e/\RowA T 1 d (qf y.l) k/\(∀i,i∈e->H.length<=i/\i<c)/\(∀i,i∈k->H.length<=i/\i<c/\i∉e)/\H.length<=c/\Ext [] H T:=by
 obtain⟨M,P,A,Q⟩:=qlB x hx;obtain⟨C,I,L,K⟩:=qlB y z;obtain⟨e,t,j,r⟩:=Q H;obtain⟨a,u⟩:=ql (shift H.length M);obtain⟨p,e2⟩:=ql (H++P);rw[u,e2] at t;rw[e2] at j r;obtain⟨k,m,o,v⟩:=K p;obtain⟨d,w⟩:=ql (shift p.length C);obtain⟨f,q⟩:=ql (p++I);rw[w,q] at m;rw[q] at o v;have B:qd p b=some [(.vsl x.nil (qf x.l) x.l.length),(.vsl y.nil (qf y.l) y.l.length)]:=j.get h wE;have g:=t.ext o fun _ _=>by simp
 have G:=qnq t;have E:=qnq m;have N:=qnp (n:=f.length) g (qA _);have J:=qnp (n:=f.length) m (qA _);have V:=j.len;have S:=o.len;have s:=Ext.new f [a,d];refine⟨f.length,a,d,qr f [a,d],e,k,jy Tryz.func47 rfl ⟨rfl,rfl⟩ ?_,zo,g.ext s fun _ _=>wE,m.ext s fun _ _=>wE,fun i hi=>?_,fun i hi=>?_,wC,(j.trans o (NewL.refl _ _)).trans s (NewL.refl _ _)⟩
 .simp[-qd,-qn,-qr,-cellsOf,Tryz.f47,h,A,u,e2,B,L,w,q,G,E,N,J,q5D]
 .obtain⟨O,F⟩:=r i hi;omega
 .obtain⟨O,F⟩:=v i hi;refine⟨wC,wC,fun hc=>?_⟩;obtain⟨U,R⟩:=r i hc;omega
def Xz(l:List UInt8)(a:Nat)(b:List UInt8):List UInt8:=(l++List.replicate (a+b.length-l.length) 0).take a++b++(l++List.replicate (a+b.length-l.length) 0).drop (a+b.length)
def VK(a:Nat)(b:List UInt8):Nat:=if 32768<a\/32768<a+b.length then 15 else 0
def Jf(l:List UInt8)(a:Nat)(b:List UInt8):List UInt8:=if VK a b=0/\b≠[] then Xz l a b else l
theorem qxz[MaxL][TxtC]{H:qe}{c:Nat}{F cy:D}{l:List UInt8}{q:List Nat}(h:qd H c=some [F,cy])(E:RowA H 1 F (qf l) q)(hc:c∉q)(hl:l.length<=1000000)(a:Nat)(ha:a<=1000000000)(b:Sl UInt8)(hb:b.l.length<=1000000000):
  ∃N T y,call cx 48 [.optr c 2 0,.int .i64 a,(.vsl b.nil (qf b.l) b.l.length)] H=some (.int .i64 (VK a b.l),T)/\qd T c=some [N,cy]/\RowA T 1 N (qf (Jf l a b.l)) y/\Ext (c::q) H T/\NewL q y H.length/\c∉y:=by
 have M:¬(a:Int)<0:=wC
 have qE:=qx h;by_cases u:32768<a
 .have B:(32768:Int)<(a:Int):=by omega
  have o:VK a b.l=15:=by simp[VK,u]
  have A:Jf l a b.l=l:=by simp[Jf,o]
  rw[o,A];refine⟨F,H,q,jy Tryz.func48 rfl ⟨rfl,rfl⟩ ?_,h,E,Ext.refl _ _,NewL.refl _ _,hc⟩;simp[-qd,-qn,-qr,Tryz.f48,M,B]
 have B:¬(32768:Int)<(a:Int):=wC
 have Q:=qz (32768-(a:Int)) (32768-(a:Int));by_cases h2:32768<a+b.l.length
 .have S:(32768:Int)-(a:Int)<(b.l.length:Int):=by omega
  have o:VK a b.l=15:=by simp[VK,h2]
  have A:Jf l a b.l=l:=by simp[Jf,o]
  rw[o,A];refine⟨F,H,q,jy Tryz.func48 rfl ⟨rfl,rfl⟩ ?_,h,E,Ext.refl _ _,NewL.refl _ _,hc⟩;simp[-qd,-qn,-qr,Tryz.f48,M,B,Q,S]
 have S:¬(32768:Int)-(a:Int)<(b.l.length:Int):=wC
 have o:VK a b.l=0:=by simp[VK];omega
 rw[o];by_cases I:b.l=[]
 .have A:Jf l a b.l=l:=by simp[Jf,I]
  have hz:(b.l.length:Int)=0:=by simp[I]
  rw[A];refine⟨F,H,q,jy Tryz.func48 rfl ⟨rfl,rfl⟩ ?_,h,E,Ext.refl _ _,NewL.refl _ _,hc⟩;simp[-qd,-qn,-qr,-Int.natCast_eq_zero,-List.length_eq_zero_iff,Tryz.f48,M,B,Q,hz,show¬((32768:Int)-(a:Int)<0) from wC]
 have jS:0<b.l.length:=List.length_pos_iff.2 I;have A:Jf l a b.l=Xz l a b.l:=by simp[Jf,o,I]
 rw[A];have hz:¬(b.l.length:Int)=0:=wC
 have Qx:(((b.l.length:Nat):Int)==0)=false:=by simpa using I
 have zT:=qz ((a:Int)+(b.l.length:Int)) ((a:Int)+(b.l.length:Int));have Yt:=qz ((a:Int)+(b.l.length:Int)-(l.length:Int)) ((a:Int)+(b.l.length:Int)-(l.length:Int));have w:(qf l).length=l.length:=wE
 obtain⟨m,hm⟩:=ql (a+b.l.length-l.length);obtain⟨p,O⟩:=ql (l++List.replicate m 0);have ac:p.length=l.length+m:=by rw[<-O];simp
 have Y:qf p=qf l++qf (List.replicate m 0):=by rw[<-O];simp[qf]
 have Xc:Xz l a b.l=p.take a++b.l++p.drop (a+b.l.length):=by unfold Xz;rw[hm,O]
 have hs:∀r:Nat,qaJ Tryz.prog 63 (.osl r p.length 0 p.length 1) (some (.int .i64 a)) none=some (.osl r p.length a (p.length-a) 1):=by
  intro r;have J:(a:Int)<=(p.length:Int):=wC
  have e2:a=0\/a<p.length:=wC
  simp[J,e2]
 have G:∀(r:Nat)(T:qe),qd T r=some (qf p)->qc4 Tryz.prog T 63 63 (.osl r p.length a (p.length-a) 1) (.vsl b.nil (qf b.l) b.l.length)=some (.int .i64 b.l.length,qn T r (qf (Xz l a b.l))):=by
  intro r T hT;have J:min b.l.length (p.length-a)=b.l.length:=wC
  have e2:a+(p.length-a)<=p.length:=wC
  have e3:(qf b.l).take b.l.length=qf b.l:=qJ wE;simp[-qd,-qn,hT,J,e2,e3];rw[Xc];simp[qf,List.map_take,List.map_drop]
 have k:(Xz l a b.l).length=p.length:=by rw[Xc];simp;omega
 by_cases ae:l.length<a+b.l.length
 .have hg:(0:Int)<(a:Int)+(b.l.length:Int)-(l.length:Int):=by omega
  have ji:((a:Int)+(b.l.length:Int)-(l.length:Int)).toNat=m:=wC
  have XD:qcS Tryz.prog H 5 3 (.int .i64 ((a:Int)+(b.l.length:Int)-(l.length:Int)))=some (qf (List.replicate m 0),m):=by
   have J:(0:Int)<=(a:Int)+(b.l.length:Int)-(l.length:Int)/\(a:Int)+(b.l.length:Int)-(l.length:Int)<=(qF:Int)/\((a:Int)+(b.l.length:Int)-(l.length:Int)).toNat*bytesOf Tryz.prog 5<=qF:=by
    refine⟨wC,xX,?_⟩;rw[ji];simp[qF];omega
   have e2:VI Tryz.prog 5 m=some (qf (List.replicate m 0)):=by
    simp[VI,qf]
   unfold qcS;simp only[show Tryz.prog.underlying 3=some (.int .i64) from wE];rw[if_pos J,ji,e2];rfl
  obtain⟨nv,H6,L6,hA,L,V,n6⟩:=E.append (P:=Tryz.prog) (st:=63) (xt:=3) (e:=5) (x:=.int .i64 ((a:Int)+(b.l.length:Int)-(l.length:Int))) (xs:=qf (List.replicate m 0)) (m:=m) wE wE XD wE wC wE wC wM wM;rw[<-Y] at L
  obtain⟨r,n,Z,d,f,g⟩:=L.own (by
   intro e;have h0:(qf p).length=0:=(by rw[e];rfl);rw[show(qf p).length=p.length from wE] at h0;omega)
  have s:n=p.length:=by simpa using d.symm
  subst s;subst Z;have X:(qf p).length=p.length:=wE
  rw[X] at hA;have Yy:=n6 r (by rw[g];simp)
  have C:r≠c:=by
   intro e;rcases Yy with u|u
   .exact hc (e▸u)
   .omega
  have r6:=V.get h hc;have K:r<H6.length:=qx f;obtain⟨W,R⟩:=ql (qn H6 c [.osl r p.length 0 p.length 1,cy]);have r7:=kc R r6;have g7:qd W r=some (qf p):=by rw[<-R,zW C];exact f
  have U:=vZ R;have aa:=V.len
  have xT:Ext (c::q) H (qn W r (qf (Xz l a b.l))):=by
   refine⟨by rw[kK];have:=U.len;omega,fun i hi s=>?_⟩;simp only[jI,not_or] at s;rw[zW ?_,U.out i wC (by simpa using s.1),V.out i hi s.2];intro e;rcases Yy with u|u
   .exact s.2 (e▸u)
   .omega
  refine⟨.osl r p.length 0 p.length 1,qn W r (qf (Xz l a b.l)),[r],jy Tryz.func48 rfl ⟨rfl,rfl⟩ ?_,by rw[zW (Ne.symm C)];exact r7,.inr ⟨r,p.length,xV,xV,zk (qx g7),rfl⟩,xT,fun i hi=>by rw[List.mem_singleton.1 hi];exact Yy,by simpa using Ne.symm C⟩
  have z:qK Tryz.prog 63 F=some (.int .i64 l.length):=by
   rcases E with⟨rfl,v,_⟩|⟨r0,n0,rfl,v,_⟩
   .have:l.length=0:=(by rw[<-w,v];rfl);simp[this]
   .have:n0=l.length:=(by simpa using v.symm);simp[this]
  have j:qK Tryz.prog 63 (.vsl b.nil (qf b.l) b.l.length)=some (.int .i64 b.l.length):=wE
  simp[-qd,-qn,-qr,-qG,-qaJ,-qc4,-qK,j,Tryz.f48,M,B,Q,S,Qx,h,z,zT,Yt,show(l.length:Int)<(a:Int)+(b.l.length:Int) from wC,hA,r6,K,R,r7,hs,G,g7]
 .have hg:¬(0:Int)<(a:Int)+(b.l.length:Int)-(l.length:Int):=by omega
  have Kj:m=0:=wC
  have t:p=l:=by rw[<-O,Kj];simp
  obtain⟨r,n,hv,d,f,g⟩:=E.own (by
   intro e;have h0:(qf l).length=0:=(by rw[e];rfl);rw[w] at h0;omega)
  have s:n=l.length:=by simpa using d.symm
  subst s;subst hv;rw[w] at h;rw[<-t] at h f
  have C:r≠c:=by
   intro e;exact hc (by rw[g,e];simp)
  have U:Ext [r] H (qn H r (qf (Xz l a b.l))):=Ext.set H r _;refine⟨.osl r p.length 0 p.length 1,qn H r (qf (Xz l a b.l)),[r],jy Tryz.func48 rfl ⟨rfl,rfl⟩ ?_,by rw[zW (Ne.symm C)];exact h,.inr ⟨r,p.length,xV,xV,zk (qx f),rfl⟩,U.mono fun i hi=>by rw[List.mem_singleton.1 hi,g];simp,fun i hi=>.inl (by rw[g];exact hi),by simpa using Ne.symm C⟩;have j:qK Tryz.prog 63 (.vsl b.nil (qf b.l) b.l.length)=some (.int .i64 b.l.length):=wE
  have z:qK Tryz.prog 63 (.osl r p.length 0 p.length 1)=some (.int .i64 l.length):=by simp[t]
  simp[-qd,-qn,-qr,-qG,-qaJ,-qc4,-qK,j,Tryz.f48,M,B,Q,S,Qx,h,z,zT,Yt,show¬(l.length:Int)<(a:Int)+(b.l.length:Int) from wC,hs,G,f]
theorem qjo{H:qe}{v:D}{l:List UInt8}{L:List Nat}(h:RowA H 1 v (qf l) L):∃c,j8 H 9 v=some (.vsl c (qf l) l.length,L)/\(c=true->l=[]):=by
 rcases h with⟨rfl,b,rfl⟩|⟨r,n,rfl,b,e,rfl⟩
 .have d:l=[]:=by
   cases l with
   |nil=>rfl
   |cons a l=>simp[qf] at b
  subst d;exact⟨true,rfl,fun _=>rfl⟩
 .have f:n=l.length:=by simpa using b.symm
  subst f;refine⟨false,?_,fun h=>wI⟩;have g:0+l.length*1<=(qf l).length:=wE
  unfold j8;simp only[idFree,kZ,if_false,e];rw[if_pos wE];simp
theorem VB{l:List Nat}:∀{H:qe}{i:Nat},i∉l->qd (jT H l) i=qd H i:=by
 induction l with
 |nil=>intro H i _;rfl
 |cons j l a=>
  intro H i hi;simp only[jI,not_or] at hi;rw[jT,a hi.2];unfold qd;rw[List.getElem?_set_ne (Ne.symm hi.1)]
theorem qwW{H:qe}{c:Nat}{x y:D}{l m:List UInt8}{d e:List Nat}(h:qd H c=some [x,y])(hx:RowA H 1 x (qf l) d)(z:RowA H 1 y (qf m) e)(q:c∉d)(o:c∉e):
  ∃(a b:Sl UInt8)(T:qe),ZO H c=some T/\a.l=l/\b.l=m/\qd T c=some [(.vsl a.nil (qf a.l) a.l.length),(.vsl b.nil (qf b.l) b.l.length)]/\Ext (c::(d++e)) H T:=by
 obtain⟨k,s,A⟩:=qjo hx;obtain⟨g,v,B⟩:=qjo z;have C:=qx h;by_cases j:[x,y].all idFree=true
 .have t:x=.vsl k (qf l) l.length/\d=[]:=by
   rcases hx with⟨rfl,_,rfl⟩|⟨r,n,rfl,_⟩
   .simp[j8,idFree] at s;obtain⟨rfl,u,w⟩:=s;exact⟨by rw[<-u,w],rfl⟩
   .simp[idFree] at j
  have p:y=.vsl g (qf m) m.length/\e=[]:=by
   rcases z with⟨rfl,_,rfl⟩|⟨r,n,rfl,_⟩
   .simp[j8,idFree] at v;obtain⟨rfl,u,w⟩:=v;exact⟨by rw[<-u,w],rfl⟩
   .simp[idFree] at j
  refine⟨⟨k,l,A⟩,⟨g,m,B⟩,H,?_,rfl,rfl,by rw[h,t.1,p.1],Ext.refl _ _⟩;unfold ZO;simp only[h,j,if_true]
 .refine⟨⟨k,l,A⟩,⟨g,m,B⟩,qn (jT H (d++e)) c [.vsl k (qf l) l.length,.vsl g (qf m) m.length],?_,rfl,rfl,zk (by rw[QE];exact C),?_⟩
  .have f:c∉d++e:=(by simp[q,o]);unfold ZO;simp only[h];rw[if_neg j];simp only[kg,s,v,Jd];rw[if_neg f]
  .refine⟨by rw[kK,QE];exact qA _,fun i hi f=>?_⟩;simp only[jI,not_or] at f;rw[zW f.1,VB f.2]
def qay(s:Fs)(name:List UInt8)(a:Nat)(b:List UInt8):Nat:=
 if Q3 s name≠0 then Q3 s name
 else match(Q5 s.nodes name).bind (s.nodes[·]?) with
  |none=>16
  |some n=>if VK a b≠0 then 15
   else if n.b.l.length<(Jf n.b.l a b).length/\s.room<(Zl s.nodes+((Jf n.b.l a b).length-n.b.l.length):Nat) then 15
   else(kH s).1
def qdH(s:Fs)(name:List UInt8)(a:Nat)(b:List UInt8)(d:Fs):Prop:=
 if qay s name a b=0 then∃i n c,Q5 s.nodes name=some i/\s.nodes[i]?=some n/\d={(kH s).2 with nodes:=s.nodes.set i c}/\c.name=n.name/\c.there=n.there/\c.b.l=Jf n.b.l a b/\c.safe.l=n.safe.l
 else d=s\/d=(kH s).2
theorem qtE{l:List Nd}{name:List UInt8}{i:Nat}(h:Q5 l name=some i):∃hi:i<l.length,l[i].there=true/\l[i].name=name:=by
 unfold Q5 at h;obtain⟨hi,a,_⟩:=List.findIdx?_eq_some_iff_getElem.1 h;refine⟨hi,?_⟩;simpa using a
theorem qtD{s:Fs}{name:List UInt8}(h:Q3 s name=0):Xr s name=0/\∃i,Q5 s.nodes name=some i:=by
 unfold Q3 at h;split at h
 .rename_i a;exact absurd h a
 .rename_i a;split at h
  .rename_i b;exact⟨wr,Option.isSome_iff_exists.1 b⟩
  .omega
theorem qmc(l:List UInt8)(a:Nat)(b:List UInt8):(Xz l a b).length=max l.length (a+b.length):=by
 unfold Xz;simp;omega
theorem qwf(l:List UInt8)(a:Nat)(b:List UInt8)(c:l.length<=32768):(Jf l a b).length<=32768:=by
 unfold Jf;split
 .rename_i h;rw[qmc];have:=h.1;unfold VK at this;split at this
  .omega
  .omega
 .exact c
theorem qwg(l:List UInt8)(a:Nat)(b:List UInt8):l.length<=(Jf l a b).length:=by
 unfold Jf;split
 .rw[qmc];omega
 .exact qA _
theorem qhA{v:FSv}{q i:Nat}{x:Nat×Nat}(h:v.nd[i]?=some x):x.1∈v.names q/\x.2∈v.names q:=by
 have a:=jH h;simp only[FSv.names,jI,vj,ZM];exact⟨.inr (.inr (.inr (.inl ⟨x,a,rfl⟩))),.inr (.inr (.inr (.inr ⟨x,a,rfl⟩)))⟩
theorem q3G{H:qe}{q i c:Nat}{s:Fs}{v:FSv}{n t:Nd}(h:FSw H q s v)(hi:s.nodes[i]?=some n)(hc:qd H c=some t.data)(d:c∉v.names q):
  FSw (qn H (Zc v i) (t.cells c)) q {s with nodes:=s.nodes.set i t} {v with nd:=v.nd.set i (Zc v i,c)}:=by
 obtain⟨f,b⟩:=h.ty;have C:i<s.nodes.length:=(List.getElem?_eq_some_iff.1 hi).1;have hiv:i<v.nd.length:=by rw[h.len];exact C
 obtain⟨B,K⟩:=b.node i _ (Yn hiv);obtain⟨J,L⟩:=h.node i n _ hi (Yn hiv)
 have l:∀j k,f j=k->k≠3+2*i->j≠Zc v i:=by
  intro j k a M e;rw[e] at a;simp only at B;omega
 have o:c≠Zc v i:=fun e=>d (e▸(qhA (Yn hiv)).1);have z:Ext [Zc v i] H (qn H (Zc v i) (t.cells c)):=Ext.set H _ _
 have g:FSv.ptrs {v with nd:=v.nd.set i (Zc v i,c)}=v.ptrs:=by
  unfold FSv.ptrs;simp only[List.map_set];apply List.ext_getElem?;intro j;rw[List.getElem?_set];by_cases a:i=j
  .subst a;simp[hiv,Zc]
  .rw[if_neg a]
 refine⟨?_,?_,?_,?_,?_,?_⟩
 .rw[zW (l q 0 b.root wC)];exact h.root
 .rw[g];exact h.row.ext z fun j a w=>l j 1 (b.row j a) wC (List.mem_singleton.1 w)
 .exact h.pend.ext z fun j a w=>l j 2 (b.pend j a) wC (List.mem_singleton.1 w)
 .simp only[vI];exact h.len
 .intro j m x r p;by_cases a:i=j
  .subst a;simp only[List.getElem?_set_self C,qy] at r;simp only[List.getElem?_set_self hiv,qy] at p;subst r p;exact⟨zk (qx J),by rw[zW o];exact hc⟩
  .rw[List.getElem?_set_ne a] at r p;obtain⟨F,I⟩:=h.node j m x r p;obtain⟨u,y⟩:=b.node j x p;rw[zW (l _ _ u wC),zW (l _ _ y wC)];exact⟨F,I⟩
 .refine⟨fun j=>if j=c then 4+2*i else f j,?_,?_,?_,?_⟩
  .show(if q=c then _ else _)=0;rw[if_neg fun e=>d (by simp[FSv.names,e])];exact b.root
  .intro j a;show(if j=c then _ else _)=1;rw[if_neg fun e=>d (by simp only[FSv.names,jI,vj];exact .inr (.inl (e▸a)))];exact b.row j a
  .intro j a;show(if j=c then _ else _)=2;rw[if_neg fun e=>d (by simp only[FSv.names,jI,vj];exact .inr (.inr (.inl (e▸a))))];exact b.pend j a
  .intro j x a;by_cases A:i=j
   .subst A;simp only[List.getElem?_set_self hiv,qy] at a;subst a;refine⟨?_,?_⟩
    .show(if Zc v i=c then _ else _)=_;rw[if_neg (Ne.symm o)];exact B
    .show(if c=c then _ else _)=_;rw[if_pos rfl]
   .rw[List.getElem?_set_ne A] at a;obtain⟨u,y⟩:=b.node j x a;obtain⟨G,E⟩:=qhA (q:=q) a;refine⟨?_,?_⟩
    .show(if x.1=c then _ else _)=_;rw[if_neg (fun e:x.1=c=>d (e▸G))];exact u
    .show(if x.2=c then _ else _)=_;rw[if_neg (fun e:x.2=c=>d (e▸E))];exact y
theorem q3F[MaxL][TxtC]{H:qe}{q:Nat}{s:Fs}{v:FSv}(h:FSw H q s v)(hn:s.nodes.length<100000)(hb:∀n,n∈s.nodes->n.b.l.length<=32768/\n.safe.l.length<=32768)(hf:-9000000000000000000<=s.fuse/\s.fuse<=9000000000000000000)(_:0<=s.room/\s.room<=1000000000)(name:List UInt8)(hl:name.length<1000000)
  (a:Nat) (ha:a<=1000000000) (b:Sl UInt8) (jS:b.l.length<=1000000000):
  ∃s' T v',call cx 20 [.optr q 5 0,.str name,.int .i64 a,(.vsl b.nil (qf b.l) b.l.length)] H=some (.int .i64 (qay s name a b.l),T)/\FSw T q s' v'/\qdH s name a b.l s'/\Ext (v.names q) H T/\NewL (v.names q) (v'.names q) H.length/\v'.pc=v.pc:=by
 obtain⟨E,e1⟩:=ql (qr H [.str name]);have J:=zJ e1;have w1:FSw E q s v:=h.ext J fun _ _=>by simp
 have d:=qkR h wC name hl;rw[e1] at d;have ao:Ext (v.names q) H E:=J.mono fun _ hi=>by simp at hi
 by_cases I:Q3 s name=0
 rotate_left
 .have Y:qay s name a b.l=Q3 s name:=by simp[qay,I]
  have aJ:¬((Q3 s name:Nat):Int)=0:=wC
  refine⟨s,E,v,?_,w1,by unfold qdH;rw[Y,if_neg I];exact .inl rfl,ao,NewL.refl _ _,rfl⟩;rw[Y];refine jy Tryz.func20 rfl ⟨rfl,rfl⟩ ?_;simp[-qd,-qn,-qr,Tryz.f20,d,I]
 obtain⟨aE,i,A⟩:=qtD I;obtain⟨hi,r,aB⟩:=qtE A;have hiv:i<v.nd.length:=by rw[h.len];exact hi
 obtain⟨G,jR⟩:=w1.node i _ _ (qN hi) (Yn hiv);have ag:=hb _ (vQ hi);have R:s.nodes[i]?=some s.nodes[i]:=qN hi;obtain⟨n,au⟩:=ql (s.nodes[i]);rw[au] at G jR ag R r aB;simp only[Nd.cells,r] at G;simp only[Nd.data] at jR;have aD:qfq s v name=.optr (Zc v i) 3 0:=by simp[qfq,aE,A]
 rw[I,aD] at d;obtain⟨c,bx,cy,H2,Lx,Ly,p,g2,aw,az,mx,my,Kq,x2⟩:=qx1 jR wC wC;have w2:FSw H2 q s v:=w1.ext x2 fun _ _=>by simp
 have aq:c∉Lx:=fun hc=>by have:=mx c hc;omega
 have X:c∉Ly:=fun hc=>by have:=my c hc;omega
 obtain⟨aK,H3,ax,B,g3,ay,x3,n3,ah⟩:=qxz g2 aw aq wC a ha b jS;have ae:(Q5 s.nodes name).bind (s.nodes[·]?)=some n:=by rw[A];exact R
 have u:∀j,j∈v.names q->j<E.length:=fun j e=>w1.lt e
 have av:∀j,j∈v.names q->j∉c::Lx:=by
  intro j e hc;have:=u j e;rcases List.mem_cons.1 hc with hc|hc
  .omega
  .have:=(mx j hc).1;omega
 have w3:FSw H3 q s v:=w2.ext x3 av;have aI:=x2.len;have aG:=x3.len
 have O:Ext (v.names q) H H3:=by
  refine⟨by have:=J.len;omega,fun j e jc=>?_⟩;have ZD:j<E.length:=vh e J.len;rw[x3.out j wC ?_,x2.out j ZD wE,J.out j e wE];intro hc;rcases List.mem_cons.1 hc with hc|hc
  .omega
  .have:=(mx j hc).1;omega
 by_cases S:VK a b.l=0
 rotate_left
 .have ai:VK a b.l=15:=by
   unfold VK at S⊢;split
   .rfl
   .rename_i h0;rw[if_neg h0] at S;exact absurd rfl S
  have Y:qay s name a b.l=15:=by simp[qay,I,ae,S]
  rw[ai] at B;refine⟨s,H3,v,?_,w3,by unfold qdH;rw[Y];exact .inl rfl,O,NewL.refl _ _,rfl⟩;rw[Y];refine jy Tryz.func20 rfl ⟨rfl,rfl⟩ ?_;simp[-qd,-qn,-qr,Tryz.f20,d,G,p,B]
 rw[S] at B
 have aA:∀j,j∈Ly->j∉c::Lx:=fun j e hc=>by
  rcases List.mem_cons.1 hc with hc|hc
  .exact X (hc▸e)
  .exact(my j e).2.2 hc
 have am:RowA H3 1 cy (qf n.safe.l) Ly:=az.ext x3 aA;obtain⟨nb,K,H4,w,XJ,aa,g4,x4⟩:=qwW g3 ay am ah X;have aH:=x4.len
 have F:∀j,j∈c::(ax++Ly)->E.length<=j:=by
  intro j e;rcases List.mem_cons.1 e with e|e
  .omega
  .rcases List.mem_append.1 e with e|e
   .rcases n3 j e with e|e
    .exact(mx j e).1
    .omega
   .exact(my j e).1
 have P:FSw H4 q s v:=w3.ext x4 fun j e hc=>by have:=u j e;have:=F j hc;omega
 have aj:Ext (v.names q) H H4:=by
  refine⟨by have:=O.len;omega,fun j e jc=>?_⟩;have ZD:j<E.length:=vh e J.len;rw[x4.out j wC fun hc=>by have:=F j hc;omega,O.out j e jc]
 have z:=qt8 P wC fun m y=>by have:=hb m y;omega
 obtain⟨Q,zM⟩:=P.node i _ _ R (Yn hiv);simp only[Nd.cells,r] at Q;simp only[Nd.data] at zM;have f:=qjx g4;have o:=qjx zM;rw[XJ] at f;obtain⟨W,hW⟩:=ql (Jf n.b.l a b.l);have ac:=qwg n.b.l a b.l;have U:=qwf n.b.l a b.l ag.1;rw[hW] at f ac U;obtain⟨t,zY⟩:=ql (W.length-n.b.l.length);have jW:IntKind.i64.wrap ((W.length:Int)-(n.b.l.length:Int))=(t:Int):=by rw[wrap_i64];all_goals omega
 have jp:Zl s.nodes<=s.nodes.length*32768:=by
  have:∀l:List Nd,(∀m,m∈l->m.b.l.length<=32768)->Zl l<=l.length*32768:=by
   intro l
   induction l with
   |nil=>intro _;simp[Zl]
   |cons m l ih=>
    intro y;have h1:=ih fun k hk=>y k (vq _ hk);have h2:=y m (Z1 ..);simp only[Zl,jA,kt,Nat.one_mul];split<;>omega
  exact this _ fun m y=>(hb m y).1
 have zT:=qz ((Zl s.nodes:Nat)+(t:Int)) ((Zl s.nodes+t:Nat):Int);have r4:=P.root;simp only[Fs.cells] at r4
 have g:qay s name a b.l=if n.b.l.length<W.length/\s.room<(Zl s.nodes+t:Nat) then 15 else(kH s).1:=by
  unfold qay;rw[if_neg (by simpa using I),ae];simp only[S,hW,zY];simp
 by_cases c2:n.b.l.length<W.length/\s.room<(Zl s.nodes+t:Nat)
 .rw[if_pos c2] at g;have q1:(0:Int)<(t:Int):=by omega
  have q2:s.room<((Zl s.nodes:Nat):Int)+(t:Int):=wC
  refine⟨s,H4,v,?_,P,by unfold qdH;rw[g];exact .inl rfl,aj,NewL.refl _ _,rfl⟩;rw[g];refine jy Tryz.func20 rfl ⟨rfl,rfl⟩ ?_;simp[-qd,-qn,-qr,-ZO,Tryz.f20,d,G,p,B,w,f,o,Q,jW,z,show 0<t from wC,zT,r4,q2]
 rw[if_neg c2] at g;have M:=qtA P hf;obtain⟨C,e5⟩:=ql (qn H4 q ((kH s).2.cells v));have w5:FSw C q (kH s).2 v:=e5▸qt7 P (qii s);have x5:=vZ e5;rw[e5] at M;have ak:Ext (v.names q) H C:=aj.trans (x5.mono fun j e=>by rw[List.mem_singleton.1 e];simp[FSv.names]) (NewL.refl _ _);have q2:0<t->¬s.room<((Zl s.nodes:Nat):Int)+(t:Int):=wC
 by_cases c3:(kH s).1=0
 rotate_left
 .have aC:(kH s).1=18:=(qtF s).resolve_left c3;rw[aC] at M g;refine⟨(kH s).2,C,v,?_,w5,by unfold qdH;rw[g];exact .inr rfl,ak,NewL.refl _ _,rfl⟩;rw[g];refine jy Tryz.func20 rfl ⟨rfl,rfl⟩ ?_;by_cases L:0<t
  .simp[-qd,-qn,-qr,-ZO,Tryz.f20,d,G,p,B,w,f,o,Q,jW,z,L,zT,r4,q2 L,M]
  .simp[-qd,-qn,-qr,-ZO,Tryz.f20,d,G,p,B,w,f,o,Q,jW,z,L,M]
 rw[c3] at M g;obtain⟨s2,Qg⟩:=ql ((kH s).2);have N:s2.nodes=s.nodes:=by rw[<-Qg];exact qii s
 rw[Qg] at w5;obtain⟨kL,Js⟩:=w5.node i n _ (by rw[N];exact R) (Yn hiv);simp only[Nd.cells,r] at kL;have Z:c<C.length:=by have:=qx g4;have:=x5.len;omega
 obtain⟨T,eT⟩:=ql (qn C (Zc v i) [.str n.name,.bool true,.optr c 2 0]);refine⟨{s2 with nodes:=s.nodes.set i {n with b:=nb,safe:=K}},T,{v with nd:=v.nd.set i (Zc v i,c)},?_,?_,?_,?_,?_,rfl⟩
 .rw[g];refine jy Tryz.func20 rfl ⟨rfl,rfl⟩ ?_;by_cases L:0<t
  .simp[-qd,-qn,-qr,-ZO,Tryz.f20,d,G,p,B,w,f,o,Q,jW,z,L,zT,r4,q2 L,M,kL,Z,eT,zU]
  .simp[-qd,-qn,-qr,-ZO,Tryz.f20,d,G,p,B,w,f,o,Q,jW,z,L,M,kL,Z,eT,zU]
 .have V:c∉v.names q:=fun hc=>by have:=u c hc;omega
  have g5:qd C c=some (Nd.data {n with b:=nb,safe:=K}):=x5.get g4 fun hc=>V (by rw[List.mem_singleton.1 hc];simp[FSv.names]);have:=q3G w5 (by rw[N];exact R) g5 V;simp only[Nd.cells,r,eT,N] at this;rw[r];exact this
 .unfold qdH;rw[g,if_pos rfl,Qg];exact⟨i,n,{n with b:=nb,safe:=K},A,R,rfl,rfl,rfl,by rw[XJ],aa⟩
 .have y:=(qhA (q:=q) (Yn hiv)).1;exact ak.trans ((eT▸Ext.set C _ _:Ext [Zc v i] C T).mono fun j e=>by rw[List.mem_singleton.1 e];exact y) (NewL.refl _ _)
 .intro j e;have aF:H.length<=E.length:=J.len;have qn:∀x,x∈v.nd.set i (Zc v i,c)->x∈v.nd\/x=(Zc v i,c):=fun x hx=>qcH hx;have y:=qhA (q:=q) (Yn hiv);simp only[FSv.names,jI,vj,ZM] at e y⊢;rcases e with e|e|e|⟨x,hx,rfl⟩|⟨x,hx,rfl⟩
  .exact .inl (.inl e)
  .exact .inl (.inr (.inl e))
  .exact .inl (.inr (.inr (.inl e)))
  .rcases qn x hx with hx|rfl
   .exact .inl (.inr (.inr (.inr (.inl ⟨x,hx,rfl⟩))))
   .exact .inl y.1
  .rcases qn x hx with hx|rfl
   .exact .inl (.inr (.inr (.inr (.inr ⟨x,hx,rfl⟩))))
   .exact .inr (by show H.length<=c;omega)
structure PgI (H:qe) (q:Nat) (b:List UInt8) (k:Nat) (K:qe) (dG:D) (LG g:List Nat) (last:Nat):Prop where
 ext:Ext [q] H K
 qq:qd K q=some (Zy b dG (.bool false))
 gR:RowA K 1 dG (jQ g) LG
 gn:g=[]->dG=.vsl true [] 0
 gN:∀j,j∈LG->H.length<=j
 gl:g.length<=k
 ge:g++XR (zL b).l (qH b) ((zD b).drop k) k last=zC b
def pgI(H:qe)(q:Nat)(b:List UInt8)(k:Nat)(e:qu)(K:qe):Prop:=
 k<=(zD b).length/\qi e 0=some (.optr q 5 0)/\qi e 16=some (.int .i64 (zD b).length)/\qi e 17=some (.int .i64 k)/\∃c a g last,qi e 3=some (.int .u64 (last:Nat))/\PgI H q b k K c a g last
theorem q1N[MaxL]{H:qe}{q:Nat}{b:List UInt8}(hq:qd H q=some (qa0 b))(hb:b.length<=1000000):∃T,call cx 72 [.optr q 5 0] H=some (Zf (zC b),T)/\Ext [q] H T/\qd T q=some (Zy b (Zf (zC b)) (.bool true)):=by
 suffices hs:∃r,call cx 72 [.optr q 5 0] H=some r/\∃T:qe,r=(Zf (zC b),T)/\Ext [q] H T/\qd T q=some (Zy b (Zf (zC b)) (.bool true)) by
  obtain⟨r,hc,T,rfl,h1⟩:=hs;exact⟨T,hc,h1⟩
 rw[qtZ] at hq;have hl:(zD b).length<=1000000:=zI (qgQ b) hb;refine vz (X:=cx) (f:=72) _ Tryz.func72 rfl ⟨rfl,rfl⟩ ?_;have kw:=hq;simp only[Zy,VU] at kw;have zY:qK Tryz.prog 98 (.vsl (decide (zD b=[])) (zi (zD b)) (zD b).length)=some (.int .i64 (zD b).length):=wE
 simp[-qd,-qn,-qr,-qG,-qK,Tryz.f72,kw,zY];refine JC (pgI H q b) (fun k=>(zD b).length-k) 0 (fun ex e K=>ex=.exit 0/\pgI H q b (zD b).length e K) ?_ ?_ ?_
 .exact⟨vg _,wE,wE,wE,.vsl true [] 0,[],[],0,wE,Ext.refl _ _,hq,RowA.nil _ _,fun _=>rfl,fun j a=>xB,wE,by simp[zC]⟩
 .rintro k e K ⟨hk,W,v,t,dG,O,g,last,p3,I⟩;by_cases qg:k<(zD b).length
  .have qo:(k:Int)<((zD b).length:Int):=wC;have hw:=qz ((k:Int)+1) ((k+1:Nat):Int);obtain⟨s,Vk,F⟩:=qgp I.qq qg hl hb (x:=(k:Int)) rfl;have B:=qjJ (zL b).l (qH b) (zD b)[k];have w:=qjK (zL b).l (qH b) (zD b)[k];have i:=I.ge;rw[zZ qg,XR] at i;have qa:=F.get I.qq wE;have aC:q<H.length:=qx hq;have ay:q∉O:=fun hc=>by have:=I.gN q hc;omega
   have lK:=I.ext.len;generalize (zD b)[k]=y at *;have qk:=I.qq;simp only[Zy,VU] at qk;obtain⟨Kz,d⟩:=ql (qr s Vf);have Z:=zJ d;have gz:=js d;simp only[Vf] at d gz;by_cases hc:Qe (zL b).l (qH b) y=0
   .obtain⟨r,L⟩:=qy3 hc;rw[hc] at Vk;rw[L] at Vk B w;have G:r.length=19:=(by simpa using B);have p:idFree.idFreeL r=true:=(by simpa[idFree.idFreeL,idFree] using w);have az:=zsh p;have QQ:=zcb p;obtain⟨Y,au⟩:=ql (qU (qR (zL b).l y) 0);rw[au] at i Vk;obtain⟨Kb,J⟩:=ql (qn Kz s.length (.int .u64 (Y:Nat)::r));have V:=vZ J;have gb:qd Kb s.length=some (.int .u64 (Y:Nat)::r):=(by rw[<-J];exact zk (qx gz));have z:q∉[s.length]:=fun hc=>by have:=List.mem_singleton.1 hc;have:=qx qa;omega
    have U:=V.get (Z.get qa wE) z;have E:∀j,j∈O->j∉[s.length]:=fun j a hc=>by have:=List.mem_singleton.1 hc;have:=I.gR.lt a;have:=F.len;omega
    have A:=((I.gR.ext F (fun _ _=>wE)).ext Z (fun _ _=>wE)).ext V E;have o:Ext [q] H Kb:=((I.ext.trans F (fun _ h=>wP)).trans Z (fun _ h=>wP)).trans V fun j a=>.inr (by have:=List.mem_singleton.1 a;have:=F.len;omega);simp only[Zy,VU] at U;have u:call cx 73 [.optr q 5 0,.int .i64 k] K=some (.tup [.agg (.int .u64 (Y:Nat)::r),.int .i64 0],s):=Vk;by_cases h2:last<Y
    .rw[if_pos ⟨hc,h2⟩] at i;have vo:=zn h2;have ao:(g++[k])++XR (zL b).l (qH b) ((zD b).drop (k+1)) (k+1) Y=zC b:=(by rw[<-i];simp);have Y9:=qkD g;have av:=q2A g k;have JO:=I.gl;have b1:qr [] [D.int .i64 (k:Nat)]=[some [.int .i64 (k:Nat)]]:=rfl;obtain⟨aD,Kc,ai,ah,M,xe,ne⟩:=A.append (P:=Tryz.prog) (st:=23) (xt:=23) (e:=3) (x:=.vsl false [.int .i64 (k:Nat)] 1) (xs:=[.int .i64 (k:Nat)]) (m:=1) wE wE wE wE wC wE wC (by simp[qF,Y9];omega) (by simp[qF,Y9];omega);obtain⟨n,mG,C,-,S,Q⟩:=M.own wE;subst C;obtain⟨lG,aA⟩:=ql ((jQ g++[D.int .i64 (k:Nat)]).length);rw[aA] at ah M;have qc:=xe.get U ay;have gc:=xe.get gb (fun hc=>E _ hc wE);obtain⟨Kd,R⟩:=ql (qn Kc q [.vptr (qW (zL b) (qH b)),.vsl (decide (zD b=[])) (zi (zD b)) (zD b).length,.int .i64 ((XU (zL b).l (qH b)).2:Nat),.osl n lG 0 mG 1,.bool false]);have xd:=vZ R;have gd:qd Kd q=some (Zy b (.osl n lG 0 mG 1) (.bool false)):=(by rw[<-R];exact zk (qx qc));have ax:n<Kc.length:=qx S;have aq:=xe.len
     have nG:∀j,j∈ai->H.length<=j:=fun j a=>by
      rcases ne j a with h|h
      .exact I.gN j h
      .have:=o.len;omega
     have aF:s.length<Kb.length:=qx gb;simp[-qd,-qn,-qr,-qG,-qK,W,p3,v,t,qo,u,G,QQ,d,gz,J,gb,vo,U,b1,ah,qc,gc,ax,R,hw,aq];refine⟨⟨xd.len,xd.get gc fun hc=>z (by rw[List.mem_singleton.1 hc];simp)⟩,k+1,wC,wC,wE,wE,wE,.osl n lG 0 mG 1,ai,g++[k],Y,wE,?_,gd,?_,wE,nG,wG,ao⟩
     .exact(o.trans xe fun j a=>.inr (I.gN j a)).trans xd fun j a=>.inl a
     .rw[av];exact M.ext xd fun j a hc=>by have:=nG j a;have:=List.mem_singleton.1 hc;omega
    .rw[if_neg (fun h=>h2 h.2)] at i;have vo:=zq h2;simp[-qd,-qn,-qr,-qG,-qK,W,p3,v,t,qo,u,G,QQ,d,gz,J,gb,vo,hw];exact⟨k+1,wC,wC,wE,wE,wE,dG,O,g,last,wE,o,U,A,I.gn,I.gN,by have:=I.gl;omega,i⟩
   .obtain⟨r,L⟩:=qy4 hc;rw[if_neg (fun h=>hc h.1)] at i;rw[L] at Vk B w;have G:r.length=19:=(by simpa using B);have p:idFree.idFreeL r=true:=(by simpa[idFree.idFreeL,idFree] using w);have az:=zsh p;have QQ:=zcb p;obtain⟨Kb,J⟩:=ql (qn Kz s.length (.int .u64 0::r));have V:=vZ J;have gb:qd Kb s.length=some (.int .u64 0::r):=(by rw[<-J];exact zk (qx gz));have z:q∉[s.length]:=fun hc=>by have:=List.mem_singleton.1 hc;have:=qx qa;omega
    have U:=V.get (Z.get qa wE) z;have E:∀j,j∈O->j∉[s.length]:=fun j a hc=>by have:=List.mem_singleton.1 hc;have:=I.gR.lt a;have:=F.len;omega
    have A:=((I.gR.ext F (fun _ _=>wE)).ext Z (fun _ _=>wE)).ext V E;have o:Ext [q] H Kb:=((I.ext.trans F (fun _ h=>wP)).trans Z (fun _ h=>wP)).trans V fun j a=>.inr (by have:=List.mem_singleton.1 a;have:=F.len;omega);simp only[Zy,VU] at U;have Jx:¬((Qe (zL b).l (qH b) y:Nat):Int)=0:=wC;generalize Qe (zL b).l (qH b) y=cc at *;simp[-qd,-qn,-qr,-qG,-qK,W,p3,v,t,qo,Vk,G,QQ,d,gz,J,hc,hw];exact⟨k+1,wC,wC,wE,wE,wE,dG,O,g,last,wE,o,U,A,I.gn,I.gN,by have:=I.gl;omega,i⟩
  .have qo:¬(k:Int)<((zD b).length:Int):=wC;have ak:k=(zD b).length:=wC;subst ak;simp[-qd,-qn,-qr,-qG,-qK,W,p3,v,t,qo];exact⟨qA _,wE,wE,wE,dG,O,g,last,wE,I⟩
 .rintro ex e K ⟨rfl,-,W,v,t,dG,O,g,last,p3,I⟩;have h1:=I.qq;simp only[Zy,VU] at h1;obtain⟨T,hT⟩:=ql (qn K q [.vptr (qW (zL b) (qH b)),.vsl (decide (zD b=[])) (zi (zD b)) (zD b).length,.int .i64 ((XU (zL b).l (qH b)).2:Nat),dG,.bool true]);have xT:=vZ hT;have gT:=kc hT h1;have i:=I.ge;rw[List.drop_length,XR,Jd] at i;have qE:=qtc (zC b) (zI qex hl);by_cases h0:zC b=[]
  .rw[h0] at qE i;have hd:=I.gn i;subst hd;have vy:call cx 122 [.vsl true [] 0] []=some (.vsl true [] 0,[]):=(by simpa using qE);rw[h0];have N:qd T q=some (Zy b (.vsl true [] 0) (.bool true)):=(by rw[gT];rfl);simp[-qd,-qn,-qr,-qG,-qK,W,h1,hT,gT,vy,Zf,jQ];exact⟨I.ext.trans xT (NewL.refl _ _),rfl⟩
  .rw[if_neg h0,if_neg h0] at qE;subst i;have qQ:jQ (zC b)≠[]:=fun h=>h0 (by simpa[jQ] using h);obtain⟨n,mG,C,aJ,S,Q⟩:=I.gR.own qQ;have Y9:=qkD (zC b);have hm:mG=(zC b).length:=wC;subst hm;rw[Y9] at C;subst C;have ag:n∉[q]:=fun hc=>by have:=I.gN n (by rw[Q];simp);have:=List.mem_singleton.1 hc;have:=qx hq;omega
   have ac:=xT.get S ag;have ae:=qkE (zC b);have aj:=zfl ae;have zV:List.take (zC b).length (jQ (zC b))=jQ (zC b):=qJ wC;have aI:=zfa ae
   have aG:∀x,x∈jQ (zC b)->vFree x=true:=fun x hx=>by
    obtain⟨c,_,rfl⟩:=List.mem_map.1 hx;rfl
   have aw:q<T.length:=qx gT;have aE:n<T.length:=qx ac;have am:q≠n:=fun hc=>ag (by rw[hc];simp);obtain⟨T2,kQ⟩:=ql (qn (jT T [n]) q [.vptr (qW (zL b) (qH b)),.vsl (decide (zD b=[])) (zi (zD b)) (zD b).length,.int .i64 ((XU (zL b).l (qH b)).2:Nat),.vsl false (jQ (zC b)) (zC b).length,.bool true]);have N:qd T2 q=some [.vptr (qW (zL b) (qH b)),.vsl (decide (zD b=[])) (zi (zD b)) (zD b).length,.int .i64 ((XU (zL b).l (qH b)).2:Nat),.vsl false (jQ (zC b)) (zC b).length,.bool true]:=(by rw[<-kQ];exact zk (by rw[QE];exact aw));obtain⟨K9,Xm⟩:∃K:qe,T2++[some (jQ (zC b))]=K:=⟨_,rfl⟩;have aa:qr T2 (jQ (zC b))=K9:=Xm;have x9:=zJ aa;have g9:qd K9 T2.length=some (jQ (zC b)):=(by rw[<-aa,zo]);have l9:=x9.len;simp[-qd,-qn,-qr,-qG,-qK,-jT,W,h1,hT,gT,ac,Y9,aj,zV,qE,Zf,h0,j8,kQ,N,am,Xm,g9];have aB:H.length<=n:=I.gN n (by rw[Q];simp);have lH:=I.ext.len;have lT:=xT.len;have aH:T2.length=T.length:=(by rw[<-kQ,kK,QE]);refine⟨⟨by rw[QE];omega,fun j a hn=>?_⟩,?_⟩
   .rw[VB wG,x9.out j wC wE,<-kQ,zW (by simpa using hn),VB wG,xT.out j wC hn];exact I.ext.out j a hn
   .rw[VB wG,x9.get N wE];rfl
def qiR(K:qe)(p:Nat)(b:List UInt8):Prop:=qd K p=some (Zy b (.vsl true [] 0) (.bool false))\/qd K p=some (Zy b (Zf (zC b)) (.bool true))
theorem q1P[MaxL]{H:qe}{q:Nat}{b:List UInt8}(k:qd H q=some (Zy b (Zf (zC b)) (.bool true)))(C:b.length<=1000000):∃T,call cx 72 [.optr q 5 0] H=some (Zf (zC b),T)/\Ext [q] H T/\qd T q=some (Zy b (Zf (zC b)) (.bool true)):=by
 have o:(zC b).length<=1000000:=zI qex (zI (qgQ b) C);have i:=qtc (zC b) o;have h:=k;have s:=qkD (zC b);have e:=qkE (zC b);have g:=zfl e;have w:List.take (zC b).length (jQ (zC b))=jQ (zC b):=qJ wC;have v:=zfa e
 have A:∀x,x∈jQ (zC b)->vFree x=true:=fun x hx=>by
  obtain⟨c,_,rfl⟩:=List.mem_map.1 hx;rfl
 have t:q<H.length:=qx k
 suffices z:∃r,call cx 72 [.optr q 5 0] H=some r/\∃T:qe,r=(Zf (zC b),T)/\Ext [q] H T/\qd T q=some (Zy b (Zf (zC b)) (.bool true)) by
  obtain⟨r,hc,T,rfl,p⟩:=z;exact⟨T,hc,p⟩
 refine vz (X:=cx) (f:=72) _ Tryz.func72 rfl ⟨rfl,rfl⟩ ?_;by_cases a:zC b=[]
 .rw[a] at i;simp only[Zy,VU,Zf,a,jQ,List.map_nil,kf,decide_true] at h;have B:call cx 122 [.vsl true [] 0] []=some (.vsl true [] 0,[]):=by simpa using i
  simp[-qd,-qn,-qr,-qG,-qK,Tryz.f72,h,B,Zf,jQ,a];exact⟨Ext.refl _ _,rfl⟩
 .rw[if_neg a,if_neg a] at i;simp only[Zy,VU,Zf,a,decide_false] at h;obtain⟨m,n⟩:∃K:qe,H++[some (jQ (zC b))]=K:=⟨_,rfl⟩;have d:qr H (jQ (zC b))=m:=n;have l:=zJ d;have y:qd m H.length=some (jQ (zC b)):=by rw[<-d,zo]
  have F:=l.len;simp[-qd,-qn,-qr,-qG,-qK,-jT,Tryz.f72,h,s,g,w,i,Zf,a,j8,n,y];refine⟨⟨by rw[QE];omega,fun j u E=>by rw[VB wG];exact l.out j u wE⟩,?_⟩;rw[VB wG,l.get k wE];simp[Zf,a]
theorem q1O[MaxL]{H:qe}{q:Nat}{b:List UInt8}(a:qiR H q b)(f:b.length<=1000000):∃T,call cx 72 [.optr q 5 0] H=some (Zf (zC b),T)/\Ext [q] H T/\qiR T q b:=by
 rcases a with a|a
 .obtain⟨T,d,e,c⟩:=q1N (b:=b) (by rw[qtZ];exact a) f;exact⟨T,d,e,.inr c⟩
 .obtain⟨T,d,e,c⟩:=q1P a f;exact⟨T,d,e,.inr c⟩
theorem q4c[MaxL][TxtC]{H:qe}{q:Nat}{x:Sq}(g:qd H q=some x.c)(m:Mk):∃T,call cx 80 [.agg (Enc.cells m),.optr q 18 0] H=some (.bool (m.id==x.id),T)/\Ext [] H T:=by
 obtain⟨h,a⟩:=ql (qr H (Enc.cells m));have e:=zJ a;have d:=js a;have i:=e.get g wE;have b:List.take 16 x.c=qf x.id.l:=by simp[Sq.c,VP]
 have f:=Sq.len x;refine⟨h,jy Tryz.func80 rfl ⟨rfl,rfl⟩ ?_,e⟩;generalize x.c=B at *;simp only[Mk.cells] at a d;simp[-qd,-qr,Tryz.f80,Mk.cells,a,d,i,b,f]
theorem find?_any{α:Type}(p:α->Bool)(l:List α):(0<=find? p l 0)↔l.any p=true:=by
 rcases find?_spec p l 0 with⟨i,m,a,b,d,e,g⟩|⟨a,b⟩
 .rw[e];exact⟨fun _=>List.any_eq_true.2 ⟨m,jH a,d⟩,fun _=>wC⟩
 .rw[a];refine⟨fun h=>wC,fun h=>?_⟩;obtain⟨m,f,c⟩:=List.any_eq_true.1 h;have:=List.find?_eq_none.1 b m f;exact absurd c this
theorem q4Z[MaxL][TxtC](s:Sl Mk)(i:s.l.length<4611686018427387904){H:qe}{q:Nat}{x:Sq}(f:qd H q=some x.c):∃T,call cx 79 [(.vsl s.nil (qt s.l) s.l.length),.fn 80 [.optr q 18 0]] H=some (.bool (s.l.any fun m=>m.id==x.id),T)/\Ext [] H T:=by
 obtain⟨⟨r,T⟩,h,e,hx⟩:=qoF s i 80 [.optr q 18 0] (fun m=>m.id==x.id) (H:=H) rfl rfl rfl rfl (fun T g m _=>q4c (g.get f wE) m);simp only at e;subst e;have d:=find?_any (fun m:Mk=>m.id==x.id) s.l;refine⟨T,jy Tryz.func79 rfl ⟨rfl,rfl⟩ ?_,hx⟩;cases a:s.l.any fun m=>m.id==x.id with
 |true=>
  have b:=d.2 a;simp[-qd,Tryz.f79,h,b]
 |false=>
  have b:¬0<=find? (fun m:Mk=>m.id==x.id) s.l 0:=fun h=>by rw[d.1 h] at a;cases a
  simp[-qd,Tryz.f79,h,b]
theorem qtU{d:Nat}{x:Pl}:∀{l:List Pl}{k:Nat},l[k]?=some x->(∀(j:Nat)(z:Pl),l[j]?=some z->(j<k↔z.s<=d))->l.find? (fun x=>decide (d<x.s))=some x
 |[],k,a,_=>by simp at a
 |y::l,0,a,h=>by
  have b:=h 0 y rfl;simp only[kY,qy] at a;subst a;have:d<y.s:=wC
  simp[this]
 |y::l,k+1,a,h=>by
  have b:=(h 0 y rfl).1 (Nat.succ_pos _);have:¬d<y.s:=wC
  simp only[List.find?_cons,decide_eq_false this];exact qtU wr fun j z c=>by have:=h (j+1) z wS;omega
theorem qzJ[MaxL]{H:qe}{v:D}{q:SqF}{L:List Nat}{rf:D->Int->Rec}(ok:q.Ok rf)(j:RowF H v q.l L)(m:closed H.length v=true)(hc:∀x,x∈q.l->closed H.length x.f=true)(w:q.l.length<=1000000)(d:Nat)(z:d<18446744073709551616):
  ∃T,call cx 81 [.agg (VP q.id.l v q.t),.int .u64 (d:Nat)] H=some (.tup [.agg (Vz q d).c,.bool (Yl q d)],T)/\Ext [] H T:=by
 obtain⟨⟨r,T⟩,y,hx,e,B,b,i,o⟩:=qzI j m hc w ok.rise ok.lt q.id.l q.id.h q.t d ok.t z;simp only at i hx;refine⟨T,?_,hx⟩;rw[y,i];rcases o with⟨rfl,k,x,n,a,rfl,A⟩|⟨rfl,p,rfl,rfl⟩
 .have g:X5 q d=some x:=qtU n a;have u:b=x.s-1:=by omega
  unfold Vz Yl nxT;rw[g,u];rfl
 .have g:X5 q d=none:=List.find?_eq_none.2 fun x hx=>by have:=p x hx;simp;omega
  unfold Vz Yl nxT;rw[g];rfl
structure SqsW [MaxL] (rf:D->Int->Rec) (H:qe) (l:List Sq) (qs:List SqF):Prop where
 len:l.length=qs.length
 n:qs.length<=1000
 m:∀q,q∈qs->q.l.length<=1000
 at_:∀(i:Nat)(x:Sq)(q:SqF),l[i]?=some x->qs[i]?=some q->x.id=q.id/\x.t=q.t/\closed H.length x.v=true/\∃L,RowF H x.v q.l L
 cl:∀q,q∈qs->∀p,p∈q.l->closed H.length p.f=true
 ok:∀q,q∈qs->q.Ok rf
 rc:∀q,q∈qs->∀p:Pl,p∈q.l->∀T,Ext [] H T->∃K,call cx 73 [p.f,.int .i64 (p.i:Nat)] T=some (.tup [.agg (Enc.cells (rf p.f p.i)),.int .i64 0],K)/\Ext [] T K
theorem RowF.ext{H T:qe}{v:D}{l:List Pl}{L:List Nat}(h:RowF H v l L)(x:Ext [] H T):RowF T v l L:=by
 rcases h with h|⟨p,st,cs,a,b,c⟩
 .exact .inl h
 .exact .inr ⟨p,st,cs,a,x.get b wE,c⟩
theorem SqsW.ext[MaxL]{rf:D->Int->Rec}{H T:qe}{l:List Sq}{qs:List SqF}(h:SqsW rf H l qs)(x:Ext [] H T):SqsW rf T l qs:=
 ⟨h.len,h.n,h.m,fun i a q j k=>by
  obtain⟨f,e2,e,L,d⟩:=h.at_ i a q j k;exact⟨f,e2,jr x.len _ e,L,d.ext x⟩,fun q c p b=>jr x.len _ (h.cl q c p b),h.ok,fun q c p b K g=>h.rc q c p b K (x.trans g (NewL.refl _ _))⟩
theorem qkd[MaxL]{rf:D->Int->Rec}{H:qe}{l:List Sq}{qs:List SqF}(h:SqsW rf H l qs){q:SqF}(a:q∈qs)(d:Nat):(Vz q d).Ok H.length:=by
 unfold Vz;cases b:X5 q d with
 |none=>exact⟨q.id.h,rfl⟩
 |some x=>exact⟨q.id.h,h.cl q a x (qh8 b).1⟩
theorem qox[MaxL]{rf:D->Int->Rec}{H:qe}{l:List Sq}{qs:List SqF}(h:SqsW rf H l qs){M:List Mk}{ps:List SqF}(c:∀q,q∈ps->q∈qs):∀x,x∈J8 ps M->x.Ok H.length:=fun x hx=>by
 obtain⟨q,b,a⟩:=List.mem_filterMap.1 hx;unfold V0 at a;split at a
 .simp at a
 .split at a
  .injection a with a;rw[<-a];exact qkd h (c q b) _
  .simp at a
theorem qzT{qs:List SqF}{M:List Mk}{k:Nat}{q:SqF}(a:qs[k]?=some q):J8 (qs.take (k+1)) M=J8 (qs.take k) M++(V0 M q).toList:=by
 obtain⟨b,rfl⟩:=List.getElem?_eq_some_iff.1 a;unfold J8;rw[Vs b,List.filterMap_append];cases h:V0 M qs[k]<;>simp[h]
theorem JI(H:qe)(a b:List D):qn (qr H a) H.length b=qr H b:=by simp[qn,qr]
def Jp:It:=⟨ID.zero,false,0,0,qjL⟩
def qdI(rf:D->Int->Rec):Option NxV->D
 |none=>.tup [.agg (Enc.cells Jp),.bool false]
 |some x=>.tup [.agg (Enc.cells (Zd rf x)),.bool true]
def qiP(rf:D->Int->Rec)(H:qe)(o:Option NxV)(q:D×qe):Prop:=q.1=qdI rf o/\Ext [] H q.2
def qtS(H:qe)(v:D)(s:Sl Mk)(qs:List SqF)(k:Nat)(e:qu)(K:qe):Prop:=
 k<=qs.length/\qi e 1=some (.vsl s.nil (qt s.l) s.l.length)/\qi e 4=some (.optr H.length 39 0)/\qi e 14=some v/\qi e 15=some (.int .i64 qs.length)/\qi e 16=some (.int .i64 k)/\Ext [] H K/\qd K H.length=some (Enc.cells Jp)/\
 ∃d L,qi e 6=some d/\RowA K 23 d (JV (J8 (qs.take k) s.l)) L/\∀j,j∈L->H.length<j
theorem qoK[MaxL]{rf:D->Int->Rec}{H:qe}{v:D}{l:List Sq}{qs:List SqF}{L:List Nat}(hr:RowA H 18 v (vf l) L)(W:SqsW rf H l qs)(s:Sl Mk)(hs:MOk s.l):
  ∃q,call cx 34 [v,(.vsl s.nil (qt s.l) s.l.length)] H=some q/\qiP rf H (ZG qs s.l) q:=by
 refine vz (X:=cx) (f:=34) (qiP rf H (ZG qs s.l)) Tryz.func34 rfl ⟨rfl,rfl⟩ ?_;have J:=KA l;have bp:=W.len;have bo:=W.n
 have bh:qK Tryz.prog 92 v=some (.int .i64 qs.length):=by
  rcases hr with⟨rfl,h0,-⟩|⟨p,k,rfl,h1,-,-⟩
  .rw[h0] at J;have:qs.length=0:=(by simp at J;omega);simp[this]
  .have:k=qs.length:=wC;simp[this]
 have hZ:(Enc.cells Jp:List D)=(qM (.bool false::VH (.int .u64 0::qM [.vsl true [] 0]))):=rfl;obtain⟨K0,vD⟩:=ql (qr H (Enc.cells Jp));have x0:=zJ vD;have g0:=js vD;rw[hZ] at vD;simp[-qd,-qn,-qr,-qG,-qK,Tryz.f34,vD,bh];refine JC (qtS H v s qs) (fun i=>qs.length-i) 0 (fun ex e K=>ex=.exit 0/\qtS H v s qs qs.length e K) ?_ ?_ ?_
 .exact⟨vg _,wE,wE,wE,wE,wE,x0,g0,.vsl true [] 0,[],wE,RowA.nil _ _,fun j hj=>by simp at hj⟩
 .rintro k e K ⟨hk,p1,p4,B,N,O,x,Q,d,La,p6,hR,hL⟩;by_cases qg:k<qs.length
  case neg=>
   have qo:=zq qg;have aW:k=qs.length:=wC;subst aW;simp[-qd,-qn,-qr,-qG,-qK,p1,p4,p6,B,N,O,qo];exact⟨qA _,wE,wE,wE,wE,wE,x,Q,d,La,wE,hR,hL⟩
  have qo:=zn qg;have wk:=qz ((k:Int)+1) ((k+1:Nat):Int);obtain⟨q,ag⟩:∃q,qs[k]?=some q:=⟨_,qN qg⟩;obtain⟨y,aC⟩:∃y,l[k]?=some y:=⟨_,qN wC⟩;have w:=jH ag;have W1:=W.ext x;obtain⟨e1,e2,e3,L1,e4⟩:=W1.at_ k y q aC ag;have ey:=qlk aC;have aU:=hr.ext x (fun _ _=>wE);have qQ:vf l≠[]:=fun h0=>by rw[h0] at J;simp at J;omega
  obtain⟨p,n,rfl,vi,ae,-⟩:=aU.own qQ;have zG:n=l.length:=wC
  subst zG;obtain⟨C,hC⟩:=ql (vf l);rw[hC] at J ey ae B vi;have yl:=Sq.len y
  have ba:y.c.all (closed K.length)=true:=by
   simp only[Sq.c,VP,List.all_append,ql7,Vc,List.all_nil,e3];rfl
  have F:∀n,K.length<=n->(∀x,x∈y.c->closed n x=true)=True:=fun n U=>eq_true fun x hx=>jr U _ (List.all_eq_true.1 ba x hx);have aa:∀a,K.length<=(qr K a).length:=fun a=>by rw[jg];omega
  have b1:k*18+18<=18*l.length:=wC
  have b2:18<=18*l.length-k*18:=wC
  have aM:List.take 16 y.c=qf q.id.l:=by simp[Sq.c,VP,e1]
  have yc:y.c=VP q.id.l y.v q.t:=by unfold Sq.c;rw[e1,e2]
  obtain⟨K1,jb⟩:=ql (qr K y.c);have x1:=zJ jb;have g1:=js jb;obtain⟨K2,Q1,x2⟩:=q4Z s (by have:=hs.len;omega) g1;have aQ:(s.l.any fun m=>m.id==y.id)=zS s.l q.id:=by rw[e1];rfl
  rw[aQ] at Q1;have I:qK Tryz.prog 32 (.vsl s.nil (qt s.l) s.l.length)=some (.int .i64 s.l.length):=wE
  have aI:k<l.length:=wC
  have ac:=qzT (M:=s.l) ag
  have key:∀E,Ext [] K E->qd E K.length=some y.c->∃T,call cx 81 [.agg y.c,.int .u64 (kz s.l q:Nat)] E=some (.tup [.agg (Vz q (kz s.l q)).c,.bool (Yl q (kz s.l q))],T)/\Ext [] E T:=fun E x3 g3=>by
   have W3:=W1.ext x3;obtain⟨-,-,f3,L3,f4⟩:=W3.at_ k y q aC ag;rw[yc];exact qzJ (W3.ok q w) f4 f3 (W3.cl q w) (by have:=W3.m q w;omega) _ (qxd hs q)
  have jE:=qt1 s (by have:=hs.len;omega) q.id;have aE:=qju hs q;obtain⟨gm,aY⟩:=ql (jq s.l q.id);rw[aY] at jE aE;have u:=NxV.cl (qkd W1 w (kz s.l q));have Y:=NxV.len (qkd W1 w (kz s.l q));by_cases JH:qbF s.l q=true
  .have jc:V0 s.l q=none:=(by unfold V0;rw[if_pos JH]);unfold qbF at JH;rw[zX,decide_eq_true_eq,Bool.not_eq_true'] at JH;obtain⟨z,hh⟩:=JH;rw[hh,z] at Q1;rw[z] at I;rw[jc,Option.toList_none,Jd] at ac;simp[-qd,-qn,-qr,-qG,-qK,p1,p4,p6,B,N,O,qo,aI,ae,J,ey,b2,yl,F,aa,zo,JI,jb,Q1,I,z,wk];exact⟨k+1,wC,wC,by simp[z],wE,by simp[hC,J],wE,wE,(x.trans x1 (NewL.refl _ _)).trans x2 (NewL.refl _ _),x2.get (x1.get Q wE) wE,d,La,wE,by rw[ac];exact(hR.ext x1 (fun _ _=>wE)).ext x2 (fun _ _=>wE),hL⟩
  obtain⟨E,x3,g3,bb⟩:∃E,Ext [] K E/\qd E K.length=some y.c/\(s.l.length=4/\zS s.l q.id=true/\E=K2\/¬s.l.length=4/\E=K1):=by
   by_cases z:s.l.length=4
   .refine⟨K2,x1.trans x2 (NewL.refl _ _),x2.get g1 wE,.inl ⟨z,?_,rfl⟩⟩;unfold qbF at JH;cases hh:zS s.l q.id with
    |true=>rfl
    |false=>exact absurd (by simp[z,hh]) JH
   .exact⟨K1,x1,g1,.inr ⟨z,rfl⟩⟩
  obtain⟨T,Ki,xT⟩:=key E x3 g3;have gT:=xT.get g3 wE;have hT:T.length≠0:=by have:=qx gT;omega
  obtain⟨V,hV⟩:=ql ((Vz q (kz s.l q)).c);rw[hV] at Ki u Y;have am:∀(n:Nat),K.length<=n->(∀x,x∈V->closed n x=true)=True:=fun n U=>eq_true fun x hx=>jr U _ (List.all_eq_true.1 u x hx);have aj:Ext [] K T:=x3.trans xT (NewL.refl _ _);have ao:List.take 18 y.c=y.c:=qJ wC;have aq:List.take 23 V=V:=qJ wC;have h:∀a,K.length<=(qr T a).length:=fun a=>by rw[jg];have:=aj.len;omega
  obtain⟨T2,kQ⟩:=ql (qr T V);have y2:=zJ kQ;have i2:qd T2 T.length=some V:=by rw[<-kQ,zo]
  obtain⟨T3,YF⟩:=ql (qr T2 V);have y3:=zJ YF;have i3:qd T3 T2.length=some V:=by rw[<-YF,zo]
  have ai:Ext [] K T3:=(aj.trans y2 (NewL.refl _ _)).trans y3 (NewL.refl _ _);have bm:=zI aj.len y2.len;have S:=qiy (qox W (M:=s.l) (ps:=qs.take k) fun q hq=>QZ hq)
  have bq:(J8 (qs.take k) s.l).length<=k:=by
   refine zI (List.length_filterMap_le _ _) ?_;rw[jj];omega
  obtain⟨d',T4,L',hA,aX,y4,bg⟩:=(hR.ext ai (fun _ _=>wE)).append (P:=Tryz.prog) (st:=167) (xt:=167) (e:=171) (x:=.osl T2.length 23 0 1 23) (xs:=V) (m:=1) wE wE (by simp[-qd,i3,Y,aq]) wE wC wC wC (by rw[S];simp[qF];omega) (by rw[S];simp[qF];omega);have hH:H.length<K.length:=by have:=qx Q;omega
  have aL:T2≠[]:=fun e0=>by rw[e0] at i2;simp[qd] at i2
  rcases bb with⟨z,hh,rfl⟩|⟨z,rfl⟩
  case' inl=>
   rw[hh,z] at Q1;rw[z] at I jE;have h5:=z
  case' inr=>
   have h5:¬(s.l.length:Int)=4:=wC
  all_goals
   cases hi:Yl q (kz s.l q) with
   |true=>
    rw[hi] at Ki;simp[-qd,-qn,-qr,-qG,-qK,p1,p4,p6,B,N,O,qo,aI,ae,J,ey,b2,yl,F,aa,zo,JI,jb,Q1,I,h5,wk,g1,g3,aM,jE,aE,ao,Ki,Mk.cells,Y,am,h,kQ,i2,aq,YF,hA,aL];have jc:V0 s.l q=some (Vz q (kz s.l q)):=(by unfold V0;rw[if_neg JH,if_pos hi]);refine⟨k+1,wC,wC,by simp[h5],wE,by simp[hC,J],wE,wE,(x.trans ai (NewL.refl _ _)).trans y4 (fun j hj=>.inr (qfF (hL j hj))),y4.get (ai.get Q wE) (fun hc=>by have:=hL _ hc;omega),d',L',wE,?_,fun j hj=>?_⟩
    .rw[ac,jc,Option.toList_some];have:JV (J8 (qs.take k) s.l++[Vz q (kz s.l q)])=JV (J8 (qs.take k) s.l)++V:=(by simp[JV,hV]);rw[this];exact aX
    .rcases bg j hj with h6|h6
     .exact hL j h6
     .have:=ai.len;omega
   |false=>
    rw[hi] at Ki;simp[-qd,-qn,-qr,-qG,-qK,p1,p4,p6,B,N,O,qo,aI,ae,J,ey,b2,yl,F,aa,zo,JI,jb,Q1,I,h5,wk,g1,g3,aM,jE,aE,ao,Ki,Mk.cells,Y,am,h,kQ];have jc:V0 s.l q=none:=(by unfold V0;rw[if_neg JH,if_neg (by rw[hi];simp)]);have aK:Ext [] K T2:=aj.trans y2 (NewL.refl _ _);exact⟨k+1,wC,wC,by simp[h5],wE,by simp[hC,J],wE,wE,x.trans aK (NewL.refl _ _),aK.get Q wE,d,La,wE,by rw[ac,jc,Option.toList_none,Jd];exact hR.ext aK (fun _ _=>wE),hL⟩
 .rintro ex e K ⟨rfl,-,p1,p4,B,N,O,x,Q,d,La,p6,hR,hL⟩;rw[List.take_length] at hR;have W1:=W.ext x;have u:=qox W1 (M:=s.l) (ps:=qs) fun q hq=>hq;have S:=qiy u;have lH:H.length<K.length:=qx Q;have lZ:(Enc.cells Jp:List D).length=39:=by simp
  have zY:qK Tryz.prog 167 d=some (.int .i64 (J8 qs s.l).length):=by
   rcases hR with⟨rfl,h0,-⟩|⟨r,n,rfl,h1,-,-⟩
   .rw[h0] at S;have:(J8 qs s.l).length=0:=(by simp at S;omega);rw[this];simp
   .have:n=(J8 qs s.l).length:=wC;rw[this];simp
  have aa:∀a,K.length<=(qr K a).length:=fun a=>by rw[jg];omega
  have G:qn K H.length (Enc.cells Jp)=K:=qdq Q;have aR:=Q;rw[hZ] at G aR;unfold ZG;cases hN:J8 qs s.l with
  |nil=>
   rw[hN] at zY;simp only[kf] at zY;simp[-qd,-qn,-qr,-qG,-qK,p4,p6,zY,aR,G];exact⟨rfl,x⟩
  |cons x0 r=>
   rw[hN] at hR zY u S;obtain⟨n,U⟩:∃n,n=(x0::r).length:=⟨_,rfl⟩;rw[<-U] at zY S;have kM:¬n=0:=(by rw[U];simp);have bn:¬(n:Int)=0:=wC;obtain⟨p,n2,rfl,h1,hp,-⟩:=hR.own (fun h0=>by rw[h0] at S;simp at S;omega);have jR:n2=n:=wC;subst jR;obtain⟨⟨m,T⟩,Z,xT,hm⟩:=q0r hp u (by have h3:=congrArg List.length hN;have z:=List.length_filterMap_le (V0 s.l) qs;unfold J8 at h3;simp only[jA] at h3;omega);simp only at hm xT;subst hm;rw[S] at p6 zY;rw[<-U] at Z;obtain⟨b,hb⟩:=ql (Vh x0 r);have ob:=u b (hb▸qhE r x0);rw[hb] at Z;have lb:=NxV.len ob;have li:=ob.id;have cb:∀n,K.length<=n->(∀x,x∈b.c->closed n x=true)=True:=fun n U=>eq_true fun x hx=>jr U _ (List.all_eq_true.1 (NxV.cl ob) x hx);have h:∀a,K.length<=(qr T a).length:=fun a=>by rw[jg];have:=xT.len;omega
   obtain⟨T2,kQ⟩:=ql (qr T b.c);have y2:=zJ kQ;have i2:qd T2 T.length=some b.c:=(by rw[<-kQ,zo]);have ax:=y2.get (xT.get Q wE) wE;have aw:Ext [] H T2:=(x.trans xT (NewL.refl _ _)).trans y2 (NewL.refl _ _);have c0:List.take 16 b.c=qf b.id:=(by simp[NxV.c,KP,li]);have bc:List.drop 18 b.c=b.f:: .int .i64 b.i:: .bool b.th::[.int .u64 (b.fr:Nat),.int .u64 (b.tt:Nat)]:=yK;have bk:List.drop 19 b.c=.int .i64 b.i:: .bool b.th::[.int .u64 (b.fr:Nat),.int .u64 (b.tt:Nat)]:=yK;have aN:List.drop 21 b.c=[.int .u64 (b.fr:Nat),.int .u64 (b.tt:Nat)]:=yK;have aV:List.drop 22 b.c=[.int .u64 (b.tt:Nat)]:=yK;have bf:H.length<T2.length:=qx ax;have au:=ax;rw[hZ] at au;have aS:(qff b.id).l=b.id:=(by unfold qff;rw[dif_pos li]);obtain⟨k0,k1,k2,k3,k4,k5,k6,k7,k8,k9,aG,aB,az,aA,aJ,aD,ZV⟩:=qia b.id li;have aF:qf b.id=(qa5 k0 k1 k2 k3 k4 k5 k6 k7 k8 k9 aG aB az aA aJ aD []):=(by rw[ZV];rfl);rw[aF] at c0;by_cases A:0<b.fr
   .have aO:(0:Int)<(b.fr:Int):=by omega
    have ay:(Enc.cells (Zd rf b):List D)=(qa5 k0 k1 k2 k3 k4 k5 k6 k7 k8 k9 aG aB az aA aJ aD (.bool true::.int .u64 (b.fr:Nat)::.int .u64 (b.tt:Nat)::.int .u64 0::.int .u64 0::.int .u64 0::qM [.vsl true [] 0])):=by
     unfold Zd;rw[if_pos A,It.cells,aS,aF];rfl
    obtain⟨T3,YF⟩:=ql (qn T2 H.length (Enc.cells (Zd rf b)));have i3:qd T3 H.length=some (Enc.cells (Zd rf b)):=(by rw[<-YF];exact zk bf);have y3:=vZ YF;have o:qiP rf H (qgm (x0::r)) (.tup [.agg (Enc.cells (Zd rf b)),.bool true],T3):=⟨by show _=qdI rf (some (Vh x0 r));rw[hb];rfl,aw.trans y3 (fun j hj=>.inr (Nat.le_of_eq (List.mem_singleton.1 hj).symm))⟩;rw[ay] at YF i3 o;simp[-qd,-qn,-qr,-qG,-qK,p4,p6,zY,kM,Z,cb,h,zo,JI,lb,kQ,i2,c0,aN,aV,A,au,YF,i3];exact o
   .have aO:¬(0:Int)<(b.fr:Int):=wC;obtain⟨q,w,-,ak,g⟩:=qtR (l:=qs) (M:=s.l) (x:=b) (by unfold ZG;rw[hN];exact congrArg some hb)
    obtain⟨pl,Qh,hf,hi⟩:∃pl:Pl,pl∈q.l/\b.f=pl.f/\b.i=(pl.i:Int):=by
     cases hx:X5 q (kz s.l q) with
     |none=>
      exfalso;unfold Yl nxT at ak;unfold Vz at g;rw[hx] at ak g;simp only[Option.isSome_none,Bool.false_or,decide_eq_true_eq] at ak;simp only[if_pos ak] at g;rw[g] at A;exact A (Nat.succ_pos _)
     |some pl=>
      unfold Vz at g;rw[hx] at g;exact⟨pl,(qh8 hx).1,by rw[g],by rw[g]⟩
    obtain⟨T3,Vk,y3⟩:=W.rc q w pl Qh T2 aw;rw[<-hf,<-hi] at Vk
    have ay:(Enc.cells (Zd rf b):List D)=.int .u8 (k0.toNat:Int):: .int .u8 (k1.toNat:Int):: .int .u8 (k2.toNat:Int):: .int .u8 (k3.toNat:Int):: .int .u8 (k4.toNat:Int):: .int .u8 (k5.toNat:Int):: .int .u8 (k6.toNat:Int):: .int .u8 (k7.toNat:Int):: .int .u8 (k8.toNat:Int):: .int .u8 (k9.toNat:Int):: .int .u8 (aG.toNat:Int):: .int .u8 (aB.toNat:Int):: .int .u8 (az.toNat:Int):: .int .u8 (aA.toNat:Int):: .int .u8 (aJ.toNat:Int):: .int .u8 (aD.toNat:Int):: .bool false:: .int .u64 0:: .int .u64 0::Enc.cells (rf b.f b.i):=by
     unfold Zd;rw[if_neg A,It.cells,aS,aF,Rec.cells];rfl
    have lr:(Enc.cells (rf b.f b.i):List D).length=20:=wE;have fR:idFree.idFreeL (Enc.cells (rf b.f b.i):List D)=true:=wE;have cr:∀n,(∀x,x∈(Enc.cells (rf b.f b.i):List D)->closed n x=true)=True:=fun n=>eq_true fun x hx=>Vj x (List.all_eq_true.1 (Enc.free _) x hx);generalize (Enc.cells (rf b.f b.i):List D)=R at *;have bj:=y3.get ax wE;have i3:=y3.get i2 wE;have tR:List.take 20 R=R:=qJ wC;obtain⟨T4,aH⟩:=ql (qr T3 R);have y4:=zJ aH;have i4:=js aH;have aP:=y4.get bj wE;have aZ:=y4.get i3 wE;have aT:H.length<T4.length:=qx aP;have av:=aP;rw[hZ] at av;have dR:List.drop 20 R=[]:=List.drop_of_length_le wC;obtain⟨T5,ah⟩:=ql (qn T4 H.length (Enc.cells (Zd rf b)));have i5:qd T5 H.length=some (Enc.cells (Zd rf b)):=(by rw[<-ah];exact zk aT);have y5:=vZ ah;have o:qiP rf H (qgm (x0::r)) (.tup [.agg (Enc.cells (Zd rf b)),.bool true],T5):=⟨by show _=qdI rf (some (Vh x0 r));rw[hb];rfl,((aw.trans y3 (NewL.refl _ _)).trans y4 (NewL.refl _ _)).trans y5 (fun j hj=>.inr (Nat.le_of_eq (List.mem_singleton.1 hj).symm))⟩;rw[ay] at ah i5 o;simp[-qd,-qn,-qr,-qG,-qK,p4,p6,zY,kM,Z,cb,h,zo,JI,lb,kQ,i2,c0,bc,bk,aN,A,Vk,cr,lr,tR,aH,i4,aZ,av,ah,i5,fR];exact o
structure FisW (n0:Nat) (K:qe) (fs:List (Nat×List UInt8)):Prop where
 w:∀f,f∈fs->qiR K f.1 f.2
 lt:∀f,f∈fs->f.1<n0
 len:∀f,f∈fs->f.2.length<=1000000
 uni:∀f g,f∈fs->g∈fs->f.1=g.1->f=g
theorem FisW.ext{n0:Nat}{K T:qe}{fs:List (Nat×List UInt8)}(h:FisW n0 K fs){M:List Nat}(x:Ext M K T)(d:∀n,n∈M->n0<=n):FisW n0 T fs:=
 ⟨fun f b=>by
  have e:=h.lt f b;have c:f.1∉M:=fun hc=>by have:=d _ hc;omega
  rcases h.w f b with a|a
  .exact .inl (x.get a c)
  .exact .inr (x.get a c),h.lt,h.len,h.uni⟩
theorem FisW.good[MaxL]{n0:Nat}{K T:qe}{fs:List (Nat×List UInt8)}(h:FisW n0 K fs){f:Nat×List UInt8}(e:f∈fs)(x:Ext [f.1] K T)(i:qiR T f.1 f.2):FisW n0 T fs:=
 ⟨fun g a=>by
  by_cases c:f.1=g.1
  .have:=h.uni f g e a c;subst this;exact i
  .have d:g.1∉[f.1]:=fun hc=>c (List.mem_singleton.1 hc).symm;rcases h.w g a with b|b
   .exact .inl (x.get b d)
   .exact .inr (x.get b d),h.lt,h.len,h.uni⟩
structure FdsW (H:qe) (lD:D) (C:List D) (fs:List (Nat×List UInt8)):Prop where
 row:RowA H 21 lD C (zx lD)
 len:C.length=fs.length*21
 cl:∀x,x∈C->closed H.length x=true
 at_:∀(i:Nat)(f:Nat×List UInt8),fs[i]?=some f->C[i*21+20]?=some (.optr f.1 5 0)
 nm:∀n,n∈zx lD->n∉fs.map (·.1)
theorem qzW(qs:List SqF)(a:ID):(Z6 qs a).length<=qs.length+1:=by
 unfold Z6;split<;>simp
theorem qg1:∀(fs:List (Nat×List UInt8))(qs:List SqF),(fs.foldl Zo qs).length<=qs.length+fs.length
 |[],qs=>by simp
 |f::fs,qs=>by
  have:=qg1 fs (Zo qs f);have:=qzW qs (qH f.2).seq;simp only[List.foldl_cons,jA];unfold Zo at *;simp only[List.length_map] at *;omega
theorem qkf{qs:List SqF}{a:ID}{q:SqF}(h:q∈Z6 qs a):q∈qs\/q.l=[]:=by
 unfold Z6 at h;split at h
 .exact .inl h
 .rcases List.mem_append.1 h with h|h
  .exact .inl h
  .rw[List.mem_singleton.1 h];exact .inr rfl
theorem qnP(p:Nat)(b:List UInt8):(KN p b).length=(zC b).length:=by simp[KN]
theorem qim{N:Nat}:∀(fs:List (Nat×List UInt8))(qs:List SqF)(m:Nat),(∀f,f∈fs->(zC f.2).length<=N)->(∀q,q∈qs->q.l.length<=m)->∀q,q∈fs.foldl Zo qs->q.l.length<=m+fs.length*N
 |[],qs,m,_,h,q,b=>by simpa using h q b
 |f::fs,qs,m,i,h,q,b=>by
  have:=qim fs (Zo qs f) (m+N) (fun g j=>i g (vq _ j)) (fun r e=>by
   unfold Zo at e;obtain⟨d,a,rfl⟩:=List.mem_map.1 e
   have k:d.l.length<=m:=by
    rcases qkf a with c|c
    .exact h d c
    .rw[c];exact vg _
   split
   .have:=i f wE;simp only[upF,zp,qnP];omega
   .omega) q b
  simp only[jA,kt];omega
theorem qlm{l:List Sq}{j k:Nat}{x:Sq}{d:D}(i:l[j]?=some x)(b:k<18)(a:x.c[k]?=some d):(vf l).drop (j*18+k)=d::(vf l).drop (j*18+(k+1)):=by
 have f:=qlk i
 have h:(vf l)[j*18+k]?=some d:=by
  rw[<-f,List.getElem?_take_of_lt b,kX] at a;exact a
 obtain⟨e,g⟩:=List.getElem?_eq_some_iff.1 h;rw[zZ e,g];rfl
theorem Sq.g16(x:Sq):x.c[16]?=some x.v:=by
 unfold Sq.c VP;rw[jn wE];simp
theorem Sq.g17(x:Sq):x.c[17]?=some (.int .u64 (x.t:Nat)):=by
 unfold Sq.c VP;rw[jn wE];simp
theorem qjz{C a:List D}{n:Nat}{d:D}(h:n<C.length)(b:C.set n d=a):List.take n C++d::List.drop (n+1) C=a:=by
 rw[<-b,qgW,if_pos h]
theorem qpc{α:Type}{P:Nat->α->Prop}:∀n,(∀k,k<n->∃q,P k q)->∃qs:List α,qs.length=n/\∀k q,qs[k]?=some q->P k q
 |0,_=>⟨[],rfl,fun k q h=>wP⟩
 |n+1,h=>by
  obtain⟨qs,d,e⟩:=qpc n fun k f=>h k wC;obtain⟨q,c⟩:=h n wC;refine⟨qs++[q],xU,fun k p a=>?_⟩;rw[List.getElem?_append] at a;split at a
  .exact e k p a
  .have b:=(List.getElem?_eq_some_iff.1 a).1;simp only[List.length_singleton] at b;have:k=n:=wC;subst this;rw[show k-qs.length=0 from wC] at a;simp only[kY,qy] at a;exact a▸c
structure SrW (n0:Nat) (K:qe) (oD:D) (l:List Sq) (us:List SqF) (i:Nat):Prop where
 oR:RowA K 18 oD (vf l) (zx oD)
 oN:∀n,n∈zx oD->n0<=n
 len:l.length=us.length
 at_:∀(k:Nat)(x:Sq)(u:SqF),l[k]?=some x->us[k]?=some u->x.id=u.id/\x.t=u.t/\(k<i->∃W,StS u.l W/\RowF K x.v (dd W) (zx x.v))/\(i<=k->RowA K 4 x.v (qX u.l) (zx x.v))
 rN:∀(k:Nat)(x:Sq),l[k]?=some x->∀n,n∈zx x.v->n0<=n/\n∉zx oD
 dj:∀(i j:Nat)(x y:Sq),l[i]?=some x->l[j]?=some y->i≠j->∀n,n∈zx x.v->n∉zx y.v
theorem RowF.extM{H T:qe}{v:D}{l:List Pl}{L M:List Nat}(h:RowF H v l L)(x:Ext M H T)(g:∀n,n∈L->n∉M):RowF T v l L:=by
 rcases h with h|⟨p,st,cs,a,b,c,d,e,f⟩
 .exact .inl h
 .exact .inr ⟨p,st,cs,a,x.get b (g p (by rw[f];simp)),c,d,e,f⟩
theorem RowF.vcl{H:qe}{v:D}{l:List Pl}{L:List Nat}(h:RowF H v l L):closed H.length v=true:=by
 rcases h with⟨rfl,_,_⟩|⟨p,st,cs,rfl,b,_⟩
 .rfl
 .exact decide_eq_true (qx b)
theorem SrW.step{n0:Nat}{K T:qe}{oD:D}{l:List Sq}{us:List SqF}{i:Nat}(h:SrW n0 K oD l us i){x y:Sq}{u:SqF}(hx:l[i]?=some x)(A:us[i]?=some u)(P:RowA T 18 oD (vf (l.set i y)) (zx oD)){M:List Nat}(B:Ext M K T)(O:∀n,n∈M->n∈zx oD\/n∈zx x.v)
  (F:y.id=x.id) (e2:y.t=x.t) {W:List Pl} (I:StS u.l W) (G:RowF T y.v (dd W) (zx y.v)) (f:∀n,n∈zx y.v->n∈zx x.v):SrW n0 T oD (l.set i y) us (i+1):=by
 have R:=(List.getElem?_eq_some_iff.1 hx).1
 have b:∀{k:Nat}{z:Sq},(l.set i y)[k]?=some z->(k=i/\z=y)\/(i≠k/\l[k]?=some z):=fun{k z} hi=>by
  rw[List.getElem?_set] at hi;split at hi
  .rename_i e;subst e;simp only[qy] at hi;exact .inl ⟨rfl,hi.symm⟩
  .rename_i e;exact .inr ⟨e,hi⟩
 refine⟨P,h.oN,by simp[h.len],fun k z w a d=>?_,fun k z a n g=>?_,fun j k z w a d m n g=>?_⟩
 .rcases b a with⟨rfl,rfl⟩|⟨c,a⟩
  .rw[A] at d;injection d with d;subst d;obtain⟨r,p,-,-⟩:=h.at_ k x u hx A;exact⟨F.trans r,e2.trans p,fun _=>⟨W,I,G⟩,fun hc=>wC⟩
  .obtain⟨r,p,L,E⟩:=h.at_ k z w a d
   have C:∀n,n∈zx z.v->n∉M:=fun n f hc=>by
    rcases O n hc with o|o
    .exact(h.rN k z a n f).2 o
    .exact h.dj k i z x a hx (Ne.symm c) n f o
   refine⟨r,p,fun H=>?_,fun H=>(E wC).ext B C⟩;obtain⟨V,J,N⟩:=L wC;exact⟨V,J,N.extM B C⟩
 .rcases b a with⟨rfl,rfl⟩|⟨c,a⟩
  .exact h.rN k x hx n (f n g)
  .exact h.rN k z a n g
 .rcases b a with⟨rfl,rfl⟩|⟨Q,s⟩
  .rcases b d with⟨rfl,rfl⟩|⟨c,q⟩
   .exact absurd rfl m
   .exact h.dj j k x w hx q c n (f n g)
  .rcases b d with⟨rfl,rfl⟩|⟨c,q⟩
   .exact fun hc=>h.dj j k z x s hx m n g (f n hc)
   .exact h.dj j k z w s q m n g
theorem RowF.nm{H:qe}{v:D}{l:List Pl}{L:List Nat}(h:RowF H v l L):L=zx v:=by
 rcases h with⟨rfl,_,rfl⟩|⟨p,st,cs,rfl,_,_,_,_,rfl⟩<;>rfl
theorem qkV:∀(fs:List (Nat×List UInt8))(qs:List SqF)(q:SqF)(x:Pl),q∈fs.foldl Zo qs->x∈q.l->(∃q',q'∈qs/\x∈q'.l)\/∃f,f∈fs/\∃i,i∈zC f.2/\x=VR f.1 f.2 i
 |[],qs,q,x,d,hx=>.inl ⟨q,d,hx⟩
 |f::fs,qs,q,x,d,hx=>by
  rcases qkV fs (Zo qs f) q x d hx with⟨q',c,b⟩|⟨g,c,b⟩
  .unfold Zo at c;obtain⟨r,h,rfl⟩:=List.mem_map.1 c
   have a:x∈r.l\/x∈KN f.1 f.2:=by
    split at b
    .exact List.mem_append.1 b
    .exact .inl b
   rcases a with a|a
   .rcases qkf h with e|e
    .exact .inl ⟨r,e,a⟩
    .rw[e] at a;simp at a
   .obtain⟨i,hi,rfl⟩:=List.mem_map.1 a;exact .inr ⟨f,wE,i,hi,rfl⟩
  .exact .inr ⟨g,vq _ c,b⟩
theorem quT[MaxL](H:qe)(v:D)(a:qK Tryz.prog 152 v=some (.int .i64 0)):call cx 77 [v,.fn 78 []] H=some (v,H):=by
 refine jy Tryz.func77 rfl ⟨rfl,rfl⟩ ?_;simp[-qd,-qK,Tryz.f77,a]
def srI(H:qe)(oD:D)(fs:List (Nat×List UInt8))(i:Nat)(e:qu)(K:qe):Prop:=
 i<=(jw fs).length/\qi e 3=some oD/\qi e 85=some (.int .i64 (jw fs).length)/\qi e 86=some (.int .i64 i)/\Ext (fs.map (·.1)) H K/\FisW H.length K fs/\∃l,SrW H.length K oD l (jw fs) i
def rdJ(H:qe)(c oD:D)(fs:List (Nat×List UInt8))(i j a b n:Nat)(B:List D)(f:Nat×List UInt8)(qs:List SqF)(q:SqF)(k:Nat)(e:qu)(K:qe):Prop:=
 k<=(zC f.2).length/\qi e 3=some oD/\qi e 5=some (.optr a 21 0)/\qi e 8=some (.optr b (18*n) (j*18))/\qi e 15=some c/\qi e 16=some (.int .i64 fs.length)/\qi e 17=some (.int .i64 i)/\qi e 52=some (Zf (zC f.2))/\qi e 53=some (.int .i64 (zC f.2).length)/\qi e 54=some (.int .i64 k)/\
 Ext (fs.map (·.1)) H K/\FisW H.length K fs/\qd K a=some B/\∃l y,RdW H.length K oD l (qs.set j ⟨q.id,q.l++(KN f.1 f.2).take k,q.t⟩)/\l[j]?=some y/\l.length=n/\∀z,z∈l->a∉zx z.v
def rdI(H:qe)(a:D)(fs:List (Nat×List UInt8))(i:Nat)(e:qu)(K:qe):Prop:=
 i<=fs.length/\qi e 15=some a/\qi e 16=some (.int .i64 fs.length)/\qi e 17=some (.int .i64 i)/\Ext (fs.map (·.1)) H K/\FisW H.length K fs/\∃oD l,qi e 3=some oD/\RdW H.length K oD l (jw (fs.take i))
def qcI(us qs:List SqF):Prop:=us.length=qs.length/\∀(i:Nat)(u q:SqF),us[i]?=some u->qs[i]?=some q->u.id=q.id/\u.t=q.t/\∃W,StS u.l W/\q.l=dd W
def qvF(H:qe)(fs:List (Nat×List UInt8))(q:D×qe):Prop:=
 ∃l qs L,RowA q.2 18 q.1 (vf l) L/\Ext (fs.map (·.1)) H q.2/\FisW H.length q.2 fs/\l.length=qs.length/\qcI (jw fs) qs/\∀(i:Nat)(x:Sq)(p:SqF),l[i]?=some x->qs[i]?=some p->x.id=p.id/\x.t=p.t/\closed q.2.length x.v=true/\∃L,RowF q.2 x.v p.l L
theorem qo8[MaxL]{H:qe}{lD:D}{C:List D}{fs:List (Nat×List UInt8)}(F:FdsW H lD C fs)(W:FisW H.length H fs)(Qj:fs.length<=1000)(Yw:∀u,u∈jw fs->u.l.length<40):
  ∃q,call cx 33 [lD] H=some q/\qvF H fs q:=by
 refine vz (X:=cx) (f:=33) (qvF H fs) Tryz.func33 rfl ⟨rfl,rfl⟩ ?_
 have bj:qK Tryz.prog 28 lD=some (.int .i64 fs.length):=by
  have hl:=F.len;rcases F.row with⟨h,h0,-⟩|⟨p,k,h,h1,-,-⟩
  .rw[h0] at hl;have:fs.length=0:=(by simp at hl;omega);rw[h,this];simp
  .have:k=fs.length:=wC;rw[h,this];simp
 simp[-qd,-qn,-qr,-qG,-qK,Tryz.f33,bj];refine JC (rdI H lD fs) (fun i=>fs.length-i) 0 (fun ex e K=>ex=.exit 0/\rdI H lD fs fs.length e K) ?_ ?_ ?_
 .exact⟨vg _,wE,wE,wE,Ext.refl _ _,W,.vsl true [] 0,[],wE,RowA.nil _ _,fun n o=>by simp[zx] at o,rfl,fun i x q h=>wP,fun i x h=>wP,fun i j x y h=>wP⟩
 .rintro i e K ⟨hi,ac,aa,Y,x,FW,oD,l,p3,R⟩;by_cases qg:i<fs.length
  case neg=>
   have qo:=zq qg;have Zh:i=fs.length:=wC;subst Zh;simp[-qd,-qn,-qr,-qG,-qK,p3,ac,aa,Y,qo];exact⟨qA _,wE,wE,wE,x,FW,oD,l,wE,R⟩
  have qo:=zn qg;have wi:=qz ((i:Int)+1) ((i+1:Nat):Int);obtain⟨f,hf⟩:∃f,fs[i]?=some f:=⟨_,qN qg⟩;have XN:=jH hf;obtain⟨p,b⟩:=f;have jS:=FW.len _ XN;have bG:=FW.lt _ XN;simp only at jS bG;have Kt:=F.len;obtain⟨rl,n,aC,h1,hg,-⟩:=F.row.own (fun h0=>by rw[h0] at Kt;simp at Kt;omega);have o:n=fs.length:=wC
  subst o;have cF:=x.get hg (F.nm rl (by rw[aC];simp[zx]));have kP:=F.at_ i _ hf;simp only at kP;obtain⟨B,hB⟩:=ql (List.take 21 (List.drop (i*21) C));have bB:B.length=21:=by rw[<-hB,jj,vr];omega
  have aN:List.drop 20 B=[.optr p 5 0]:=by
   obtain⟨I,h4⟩:=List.getElem?_eq_some_iff.1 kP;rw[<-hB,List.drop_take,ky,zZ I,h4];rfl
  have ch:∀n,K.length<=n->(∀x,x∈B->closed n x=true)=True:=fun n o=>eq_true fun y hy=>jr (zI x.len o) _ (F.cl y (by rw[<-hB] at hy;exact Z0 (QZ hy)));have cW:∀a,K.length<=(qr K a).length:=fun a=>by rw[jg];omega
  have b1:i*21+21<=C.length:=wC
  have b2:21<=C.length-i*21:=wC
  obtain⟨K1,jb⟩:=ql (qr K B);have x1:=zJ jb;have g1:=js jb;have cq:=FW.ext x1 (fun _ h=>wP)
  obtain⟨V,aZ,aB⟩:∃T,call cx 13 [.optr p 5 0] K1=some (.agg (Enc.cells (qH b)),T)/\Ext [] K1 T:=by
   rcases cq.w _ XN with h|h
   .exact qhR rfl h
   .exact qhR rfl h
  obtain⟨h,hh⟩:∃h,h=qH b:=⟨_,rfl⟩;rw[<-hh] at aZ;obtain⟨hc,Y7⟩:∃c:List D,Enc.cells h=c:=⟨_,rfl⟩;have qE:hc.length=91:=by rw[<-Y7];simp
  have QU:∀n,(∀x,x∈hc->closed n x=true)=True:=fun n=>eq_true fun x hx=>Vj x (List.all_eq_true.1 (Y7▸Enc.free h) x hx);have cZ:List.take 16 (List.drop 51 hc)=qf h.seq.l:=Y7▸h.d51;have cB:List.drop 76 hc=.int .u64 (h.tseq:Nat)::List.drop 77 hc:=Y7▸h.dn (i:=9) wC;obtain⟨K2,zN⟩:=ql (qr V hc);have x2:=zJ zN;have g2:=js zN;have aD:Ext [] K K2:=(x1.trans aB (NewL.refl _ _)).trans x2 (NewL.refl _ _);have cG:qd K2 K.length=some B:=x2.get (aB.get g1 wE) wE;have R2:=R.ext aD (fun _ h=>wP)
  have JK:l.length<=i:=by
   have h1:=qg1 (fs.take i) [];rw[R.len];unfold jw;simp only[kf,jj] at h1;omega
  obtain⟨⟨z,K3⟩,ak,x3,bM⟩:=q2J R2.oR R2.vcl wC (q:=V.length) (h:=h) (by rw[Y7];exact g2);simp only at x3 bM;rw[Y7,qE] at ak;rw[Y7] at aZ;have R3:=R2.ext x3 (fun _ h=>wP);have bK:H.length<=K3.length:=zI x.len (zI aD.len x3.len);obtain⟨qs,ae⟩:=ql (jw (fs.take i));rw[ae] at R3
  have aw:qK Tryz.prog 92 oD=some (.int .i64 l.length):=by
   have qE:=KA l;rcases R3.oR with⟨Z,h0,-⟩|⟨r,n,Z,h1,-,-⟩
   .rw[h0] at qE;have:l.length=0:=(by simp at qE;omega);rw[Z,this];simp
   .have:n=l.length:=wC;rw[Z,this];simp
  obtain⟨N,hN⟩:=ql (Sq.c ⟨h.seq,.vsl true [] 0,0⟩);have cw:qf h.seq.l++[D.vsl true [] 0,D.int .u64 0]=N:=by rw[<-hN];rfl
  have bO:N.length=18:=by rw[<-hN];exact Sq.len _
  have tN:List.take 18 N=N:=qJ wC;obtain⟨K4,Xn⟩:=ql (qr K3 N);have x4:=zJ Xn;have g4:=js Xn;have R4:=R3.ext x4 (fun _ h=>wP);obtain⟨bC,K5,L1,hA,bb,x5,bF⟩:=R4.oR.append (P:=Tryz.prog) (st:=92) (xt:=92) (e:=154) (x:=.osl K3.length 18 0 1 18) (xs:=N) (m:=1) wE wE (by simp[-qd,g4,bO,tN]) wE wC wC wC (by rw[KA];simp[qF];omega) (by rw[KA];simp[qF];omega);rw[<-hN] at bb
  have bI:∀z,z∈l->K.length∉zx z.v:=fun z s hc=>by
   obtain⟨k,hk⟩:=List.getElem?_of_mem s;have:=R.row hk hc;omega
  obtain⟨j,U,K6,y,G,bV⟩:∃(j:Nat)(U:List Sq)(K6:qe)(y:Sq)(G:D),RdW H.length K6 G U (Z6 qs h.seq)/\U[j]?=some y/\y.id=h.seq/\Ext (zx oD) K3 K6/\(∀z,z∈U->K.length∉zx z.v)/\((z=.int .i64 (-1)/\j=l.length/\K6=K5/\G=bC)\/(z=.int .i64 (j:Nat)/\K6=K3/\G=oD)):=by
   rcases bM with⟨s,jc⟩|⟨j,y,s,hj,hy,-⟩
   .have bA:¬qs.any (fun q=>q.id==h.seq)=true:=fun hc=>by
     obtain⟨q,hq,cY⟩:=List.any_eq_true.1 hc;obtain⟨k,hk⟩:=List.getElem?_of_mem hq;have O:=(List.getElem?_eq_some_iff.1 hk).1;have JL:l[k]?=some (l[k]'(by rw[R3.len];exact O)):=qN _;have:=(R3.at_ k _ q JL hk).1;exact jc _ (vQ _) (this.trans (by simpa using cY))
    refine⟨l.length,l++[⟨h.seq,.vsl true [] 0,0⟩],K5,⟨h.seq,.vsl true [] 0,0⟩,bC,?_,List.getElem?_concat_length,rfl,(x4.mono wE).trans x5 (NewL.refl _ _),fun z s=>?_,.inl ⟨s,rfl,rfl,rfl⟩⟩
    .unfold Z6;rw[if_neg bA];exact R4.push (zI bK x4.len) bb x5 bF
    .rcases List.mem_append.1 s with s|s
     .exact bI z s
     .rw[List.mem_singleton.1 s];simp[zx]
   .refine⟨j,l,K3,y,oD,?_,hj,hy,(Ext.refl _ _),bI,.inr ⟨s,rfl,rfl⟩⟩;unfold Z6;rw[if_pos]
    .exact R3
    .have zu:=(List.getElem?_eq_some_iff.1 hj).1;have JL:qs[j]?=some (qs[j]'(by rw[<-R3.len];exact zu)):=qN _;have:=(R3.at_ j y _ hj JL).1;exact List.any_eq_true.2 ⟨_,vQ _,by rw[<-this,hy];exact beq_self_eq_true _⟩
  obtain⟨R6,hj,hy,au,kw,s⟩:=bV;have zu:=(List.getElem?_eq_some_iff.1 hj).1;obtain⟨q,hq⟩:=R6.other hj;obtain⟨e1,e2,e3⟩:=R6.at_ j y q hj hq;have Kq:=KA U;obtain⟨A,n1,Q,vi,aT,-⟩:=R6.oR.own (fun h0=>by rw[h0] at Kq;simp at Kq;omega);have Y1:n1=U.length:=wC
  subst Y1;rw[Kq] at Q;have J:A∈zx G:=by rw[Q];simp[zx]
  have ao:=R6.oN A J;have bt:A<K6.length:=qx aT;have aF:∀n,n∈zx oD->n<K.length:=fun n o=>R.oR.lt o;have cM:K.length∉zx oD:=fun hc=>by have:=aF _ hc;omega
  have db:V.length∉zx oD:=fun hc=>by have:=aF _ hc;have:=x1.len;have:=aB.len;omega
  have g5:=au.get (x3.get cG wE) cM;have g6:=au.get (x3.get g2 wE) db;have dq:K.length<K1.length:=qx g1;have dz:K1.length<=K3.length:=zI aB.len (zI x2.len x3.len)
  have aK:A≠K.length:=fun hc=>by
   rcases s with⟨-,-,rfl,rfl⟩|⟨-,rfl,rfl⟩
   .have e5:=RowA.nm bb;rcases bF A (e5▸J) with I|I
    .have:=aF _ I;omega
    .have:=x4.len;omega
   .have:=aF _ J;omega
  obtain⟨C1,V8⟩:=ql (vf U);have bm:=qlm hj wC y.g17;obtain⟨ts,Yu⟩:=ql (max y.t h.tseq);have bc:=qjz (n:=j*18+17) wC (qll hj 17 (.int .u64 (ts:Nat)) ⟨y.id,y.v,ts⟩ wC (y.c17 ts));obtain⟨C2,jK⟩:=ql (vf (U.set j ⟨y.id,y.v,ts⟩));rw[V8] at aT bm bc Kq;rw[jK] at bc;have Q2:C2.length=18*U.length:=by rw[<-jK,KA,vI]
  obtain⟨K7,aW⟩:=ql (qn K6 A C2);have x7:=vZ aW;have g7:qd K7 A=some C2:=by rw[<-aW];exact zk bt
  have kF:(if(y.t:Int)<(h.tseq:Int) then(h.tseq:Int) else(y.t:Int))=(ts:Int):=by rw[<-Yu];split<;>omega
  have XK:(if y.t<h.tseq then(h.tseq:Int) else(y.t:Int))=(ts:Int):=by rw[<-Yu];split<;>omega
  have bD:=x7.get g5 (by simpa using Ne.symm aK)
  have br:∀z,z∈U.set j ⟨y.id,y.v,ts⟩->K.length∉zx z.v:=fun z s=>by
   rcases qcH s with I|I
   .exact kw z I
   .rw[I];exact kw y (jH hj)
  have cu:q.l.length<=1000000000:=by
   rcases qkf (jH hq) with I|I
   .rw[<-ae] at I;have h4:=qim (N:=1000000) (fs.take i) [] 0 (fun f hf=>zI qex (zI (qgQ _) (FW.len f (QZ hf)))) (fun q hq=>by simp at hq) q I;rw[jj] at h4;omega
   .rw[I];exact vg _
  have cE:H.length<=K6.length:=zI bK au.len
  have aQ:RowA K7 18 G (vf (U.set j ⟨y.id,y.v,ts⟩)) (zx G):=by
   rw[jK,Q];exact .inr ⟨A,U.length,by rw[Q2],wC,g7,rfl⟩
  have R7:=R6.upd hj cE (y:=⟨y.id,y.v,ts⟩) (q':=⟨q.id,q.l,ts⟩) aQ x7 (fun n o=>.inl (by rw[List.mem_singleton.1 o];exact J)) e1 rfl (e3.ext x7 fun n o hc=>by rw[List.mem_singleton.1 hc] at o;exact(R6.rN j y hj A o).2 J) (NewL.refl _ _);have bz:FisW H.length K7 fs:=(((FW.ext aD (fun _ h=>wP)).ext x3 (fun _ h=>wP)).ext au (fun n o=>R.oN n o)).ext x7 (fun n o=>by rw[List.mem_singleton.1 o];exact ao);have bY:Ext (fs.map (·.1)) H K7:=(((x.trans aD (fun _ h=>wP)).trans x3 (fun _ h=>wP)).trans au (fun n o=>.inr (R.oN n o))).trans x7 (fun n o=>.inr (by rw[List.mem_singleton.1 o];exact ao));obtain⟨K8,aq,x8,ax⟩:=q1O (bz.w _ XN) jS;simp only at aq x8 ax;have aP:qK Tryz.prog 23 (Zf (zC b))=some (.int .i64 (zC b).length):=by unfold Zf;simp
  have bR:=bz.good XN x8 ax;have R8:=R7.ext x8 (fun n o=>by rw[List.mem_singleton.1 o];exact bG);have Qh:p∈fs.map (·.1):=List.mem_map.2 ⟨_,XN,rfl⟩;have de:Ext (fs.map (·.1)) H K8:=bY.trans x8 (fun n o=>.inl (by rw[List.mem_singleton.1 o];exact Qh));have cH:=x8.get bD (fun hc=>by have:=List.mem_singleton.1 hc;have:=x.len;omega)
  have bv:K3≠[]:=fun Z=>by
   have:K3.length=0:=(by rw[Z];rfl);omega
  have cS:¬(j:Int)<0:=wC
  have ci:j*18+17+1<=18*U.length:=wC
  rcases s with⟨rfl,df,rfl,rfl⟩|⟨rfl,rfl,rfl⟩
  case' inl=>
   rw[<-df] at aw
  case' inr=>
   rw[Q] at ak aw
  all_goals
   simp[-qd,-qn,-qr,-qG,-qK,p3,ac,aa,Y,qo,aC,cF,hB,bB,ch,cW,b2,zo,JI,jb,g1,aN,aZ,qE,QU,zN,ak,aw,x3.get g2,cZ,cw,bO,Xn,hA,Q,zu,g6,aT,Kq,bm,cB,XK,bc,aW,bD,aq,aP,bv,cS,ci];refine JC (rdJ H lD G fs i j K.length A U.length B (p,b) (Z6 qs h.seq) ⟨q.id,q.l,ts⟩) (fun k=>(zC b).length-k) 0 (fun ex e K'=>ex=.exit 2/\rdJ H lD G fs i j K.length A U.length B (p,b) (Z6 qs h.seq) ⟨q.id,q.l,ts⟩ (zC b).length e K') ?_ ?_ ?_
   .exact⟨vg _,by simp[Q],wE,wE,by simp[aC],wE,wE,wE,wE,wE,de,bR,cH,_,_,by simpa using R8,by rw[List.getElem?_set_self zu],wE,br⟩
   .rintro k e K' ⟨hk,p3,p5,p8,ac,aa,Y,aE,aA,ba,xK,FK,gB,l',M,R',vU,V3,av⟩;simp only at hk aE aA;by_cases O:k<(zC b).length
    case neg=>
     have Kl:¬(k:Int)<((zC b).length:Int):=wC;have bT:k=(zC b).length:=wC;subst bT;simp[-qd,-qn,-qr,-qG,-qK,p3,p5,p8,ac,aa,Y,aE,aA,ba,Kl];exact⟨qA _,wE,wE,wE,wE,wE,wE,wE,wE,wE,xK,FK,gB,l',M,R',vU,V3,av⟩
    have Kl:(k:Int)<((zC b).length:Int):=wC;have qS:=zI (qgQ b) jS;have JO:(zC b).length<=1000000:=zI qex qS;have wk:=qz ((k:Int)+1) ((k+1:Nat):Int);obtain⟨g,aU⟩:=ql ((zC b)[k]);have cL:g∈zC b:=aU▸vQ O;obtain⟨ga,QQ⟩:=qty cL
    have Y9:Zf (zC b)=.vsl false (jQ (zC b)) (zC b).length:=by
     unfold Zf;rw[decide_eq_false];intro h0;rw[h0] at O;simp at O
    have cJ:List.drop k (jQ (zC b))=.int .i64 (g:Nat)::List.drop (k+1) (jQ (zC b)):=by
     unfold jQ;rw[<-List.map_drop,<-List.map_drop,zZ O,aU];rfl
    obtain⟨Ka,Vk,xa⟩:∃T,call cx 73 [.optr p 5 0,.int .i64 (g:Nat)] K'=some (.tup [.agg (ZP (zL b).l (qH b) (zD b)[g]),.int .i64 (Qe (zL b).l (qH b) (zD b)[g]:Nat)],T)/\Ext [] K' T:=by
     rcases FK.w _ XN with h|h
     .exact qgp h ga qS jS rfl
     .exact qgp h ga qS jS rfl
    obtain⟨s0,bJ⟩:=ql (qU (qR (zL b).l (zD b)[g]) 0);obtain⟨s1,Jr⟩:=ql (qU (qR (zL b).l (zD b)[g]) 8);obtain⟨R,hR⟩:∃R:List D,Enc.cells (YW (zL b).l (zD b)[g])=.int .u64 (s0:Nat):: .int .u64 (s1:Nat)::R:=⟨_,by rw[Rec.cells,<-bJ,<-Jr];rfl⟩
    have cN:R.length=18:=by
     have:(Enc.cells (YW (zL b).l (zD b)[g]):List D).length=20:=wE;rw[hR] at this;simpa using this
    have dc:∀n,(∀x,x∈R->closed n x=true)=True:=fun n=>eq_true fun x hx=>Vj x (List.all_eq_true.1 (Enc.free (YW (zL b).l (zD b)[g])) x (by rw[hR];simp[hx]));rw[show ZP (zL b).l (qH b) (zD b)[g]=.int .u64 (s0:Nat):: .int .u64 (s1:Nat)::R by unfold ZP;rw[if_pos QQ,hR],QQ] at Vk
    have cD:jl (VR p b g)=[.int .u64 (s0:Nat),.int .u64 (s1:Nat),.optr p 5 0,.int .i64 (g:Nat)]:=by
     rw[<-bJ,<-Jr];unfold jl VR;rw[jv,qN ga];rfl
    have du:=xK.len;have cT:((Z6 qs h.seq).set j ⟨q.id,q.l++(KN p b).take k,ts⟩)[j]?=some ⟨q.id,q.l++(KN p b).take k,ts⟩:=(by rw[List.getElem?_set_self (List.getElem?_eq_some_iff.1 hq).1]);obtain⟨bp,bo,aR⟩:=R'.at_ j M _ vU cT;simp only at bp bo aR;have bn:=(List.getElem?_eq_some_iff.1 vU).1;have ag:=KA l';rw[V3] at ag;obtain⟨C3,JS⟩:=ql (vf l');have aG:=R'.oR;have ay:=qlm vU wC M.g16;rw[JS] at ag aG ay
    have aX:qd K' A=some C3:=by
     rcases aG with⟨Z,_,_⟩|⟨r,n,Z,_,hg,_⟩
     .rw[Q] at Z;cases Z
     .rw[Q,D.osl.injEq] at Z;rw[Z.1];exact hg
    have aM:A∉zx M.v:=fun hc=>(R'.rN j M vU A hc).2 J;have aO:K.length∉zx M.v:=av M (jH vU);obtain⟨Kb,Jz⟩:=ql (qr Ka (.int .u64 (s0:Nat):: .int .u64 (s1:Nat)::R));have xb:=zJ Jz;have gb:=js Jz;obtain⟨Kc,Zk⟩:=ql (qr Kb (jl (VR p b g)));have xc:=zJ Zk;have gc:=js Zk;have az:Ext [] K' Kc:=(xa.trans xb (NewL.refl _ _)).trans xc (NewL.refl _ _);have aH:(q.l++(KN p b).take k).length<=2000000000:=(by rw[zp,jj];omega);have t4:List.take 4 (jl (VR p b g))=jl (VR p b g):=rfl;obtain⟨EP,aY⟩:=ql (qX (q.l++(KN p b).take k));have dA:EP.length<=8000000000:=(by rw[<-aY,Zz];omega);rw[aY] at aR;obtain⟨E,Kd,L',bZ,bf,xd,dg⟩:=(aR.ext az (fun _ _=>wE)).append (P:=Tryz.prog) (st:=152) (xt:=152) (e:=161) (x:=.osl Kb.length 4 0 1 4) (xs:=jl (VR p b g)) (m:=1) wE wE (by simp[-qd,gc,t4]) wE wC wE wC wM wM;have cK:=RowA.nm bf;subst cK;have bH:qd Kd A=some C3:=xd.get (az.get aX wE) aM;have am:=qjz (n:=j*18+16) (d:=E) (by rw[JS,ag];omega) (qll vU 16 E ⟨M.id,E,M.t⟩ wC (M.c16 E));obtain⟨C4,Xo⟩:=ql (vf (l'.set j ⟨M.id,E,M.t⟩));rw[JS,Xo] at am;have cX:C4.length=18*U.length:=(by rw[<-Xo,KA,vI,V3]);obtain⟨Ke,bk⟩:=ql (qn Kd A C4);have xe:=vZ bk;have ge:=kc bk bH;have ce:=xa.get gB wE;have cO:=xb.get ce wE;have cP:=xb.get (xa.get aX wE) wE;have bu:Kb≠[]:=fun Z=>by have:=qx gb;rw[Z] at this;simp at this
    have bg:j*18+16+1<=18*U.length:=wC;obtain⟨r4,n4,bE,dk,bW,-⟩:=bf.own (by simp[jl]);obtain⟨l4,cQ⟩:=ql ((EP++jl (VR p b g)).length);rw[cQ] at bE;have cR:r4<Kd.length:=qx bW;have bN:=bZ;have aL:=am;rw[bE] at bN aL;have di:p<Kb.length:=(by have:=xa.len;have:=xb.len;omega);rw[cD] at Zk;simp[-qd,-qn,-qr,-qG,-qK,p3,p5,p8,ac,aa,Y,aE,aA,ba,Kl,Y9,cJ,gB,bB,aN,Vk,zo,JI,cN,dc,Jz,gb,cO,cP,ag,ay,Zk,bu,bN,bH,bg,aL,bk,cR,wk];have xz:Ext (A::zx M.v) K' Ke:=((az.mono wE).trans (xd.mono (fun i hi=>vq _ hi)) (NewL.refl _ _)).trans (xe.mono (fun i hi=>by rw[List.mem_singleton.1 hi];simp)) (NewL.refl _ _);have cp:A<K'.length:=qx aX;have kR:K.length<K'.length:=qx gB;have aS:NewL (zx M.v) (zx E) K'.length:=fun n o=>(dg n o).imp id (fun h=>zI az.len h)
    have cA:(KN p b).take (k+1)=(KN p b).take k++[VR p b g]:=by
     unfold KN;rw[Vs (by simpa using O),List.getElem_map,aU]
    have bX:RowA Ke 4 E (qX (q.l++(KN p b).take (k+1))) (zx E):=by
     rw[cA,<-jY,qix,aY,show qX [VR p b g]=jl (VR p b g) by simp[qX]];refine bf.ext xe fun n o hc=>?_;rw[List.mem_singleton.1 hc] at o;rcases aS A o with I|I
     .exact aM I
     .omega
    have ck:RowA Ke 18 G (vf (l'.set j ⟨M.id,E,M.t⟩)) (zx G):=by
     rw[Xo,Q];exact .inr ⟨A,U.length,by rw[cX],wC,ge,rfl⟩
    have cj:H.length<=K'.length:=xK.len
    have aj:∀n,n∈A::zx M.v->H.length<=n:=fun n o=>by
     rcases List.mem_cons.1 o with rfl|o
     .exact ao
     .exact(R'.rN j M vU n o).1
    have Rz:=R'.upd vU cj (y:=⟨M.id,E,M.t⟩) (q':=⟨q.id,q.l++(KN p b).take (k+1),ts⟩) ck xz (fun n o=>by
     rcases List.mem_cons.1 o with rfl|o
     .exact .inl J
     .exact .inr o) bp bo bX aS
    rw[List.set_set] at Rz;refine⟨k+1,wC,show k+1<=(zC b).length from wC,wE,wE,wE,wE,wE,wE,by simp[Y9],wE,wE,xK.trans xz (fun n o=>.inr (aj n o)),FK.ext xz aj,xz.get gB (fun hc=>?_),_,_,Rz,by rw[List.getElem?_set_self bn],by simp[V3],fun z s hc=>?_⟩
    .rcases List.mem_cons.1 hc with I|I
     .exact aK I.symm
     .exact aO I
    .rcases qcH s with I|I
     .exact av z I hc
     .rw[I] at hc;rcases aS _ hc with h4|h4
      .exact aO h4
      .omega
   .rintro ex e K' ⟨rfl,-,p3,p5,p8,ac,aa,Y,aE,aA,ba,xK,FK,gB,l',M,R',vU,V3,-⟩;simp[-qd,-qn,-qr,-qG,-qK,p3,ac,aa,Y,wi];refine⟨i+1,wC,wC,by simp[aC],wE,wE,xK,FK,G,l',wE,?_⟩;have hu:=qnB (fs.take i) (qs:=[]) (fun i j x y h=>wP);rw[qy8 hf,ae,q6J (by rw[<-ae];exact hu) (f:=(p,b)) (j:=j) (q:=q) (by rw[<-hh];exact hq) (by rw[<-e1,hy,hh])];simp only at R';rw[qJ (by rw[qnP];exact qA _)] at R';rw[<-Yu,e2,hh] at R';exact R'
 .rintro ex e K ⟨rfl,-,ac,aa,Y,x,FW,oD,l,p3,R⟩;rw[List.take_length] at R
  have aw:qK Tryz.prog 92 oD=some (.int .i64 (jw fs).length):=by
   have qE:=KA l;rw[R.len] at qE;rcases R.oR with⟨Z,h0,-⟩|⟨r,n,Z,h1,-,-⟩
   .rw[h0] at qE;have:(jw fs).length=0:=(by simp at qE;omega);rw[Z,this];simp
   .have:n=(jw fs).length:=wC;rw[Z,this];simp
  have dh:(jw fs).length<=1000:=by have:=qg1 fs [];unfold jw;simp at this;omega
  simp[-qd,-qn,-qr,-qG,-qK,p3,aw];refine JC (srI H oD fs) (fun i=>(jw fs).length-i) 0 (fun ex e K=>ex=.exit 4/\srI H oD fs (jw fs).length e K) ?_ ?_ ?_
  .exact⟨vg _,wE,wE,wE,x,FW,l,R.oR,R.oN,R.len,fun k x u hx hu=>by
    obtain⟨a1,a2,a3⟩:=R.at_ k x u hx hu;exact⟨a1,a2,fun hk=>absurd hk (Nat.not_lt_zero _),fun _=>a3⟩,R.rN,R.dj⟩
  .rintro i e K ⟨hi,p3,aV,bh,x,FW,l,S⟩;by_cases qg:i<(jw fs).length
   case neg=>
    have qo:¬(i:Int)<((jw fs).length:Int):=wC;have Zh:i=(jw fs).length:=wC;subst Zh;simp[-qd,-qn,-qr,-qG,-qK,p3,aV,bh,qo];exact⟨qA _,wE,wE,wE,x,FW,l,S⟩
   have qo:(i:Int)<((jw fs).length:Int):=wC;have wi:=qz ((i:Int)+1) ((i+1:Nat):Int);obtain⟨u,hu⟩:∃u,(jw fs)[i]?=some u:=⟨_,qN qg⟩;obtain⟨y,hy⟩:∃y,l[i]?=some y:=⟨_,qN (by rw[S.len];exact qg)⟩;obtain⟨a1,a2,-,a4⟩:=S.at_ i y u hy hu;have aH:=a4 (qA _);have cg:=Yw u (jH hu);have qE:=KA l;rw[S.len] at qE;obtain⟨A,n1,Yz,vi,Xj,-⟩:=S.oR.own (fun h0=>by rw[h0] at qE;simp at qE;omega);have Y1:n1=(jw fs).length:=wC;subst Y1;rw[qE] at Yz;have J:A∈zx oD:=(by rw[Yz];simp[zx]);obtain⟨C,hC⟩:=ql (vf l);have ay:=qlm hy wC y.g16;rw[hC] at qE Xj ay;have ai:A∉zx y.v:=fun hc=>(S.rN i y hy A hc).2 J;have hH:=x.len;have bg:i*18+16+1<=18*(jw fs).length:=wC
   obtain⟨V,E,T2,W,Jr,Qg,xT,hW,hF,Xf⟩:∃V E T2 W,call cx 74 [y.v,.fn 75 []] K=some (.tup [],V)/\call cx 77 [y.v,.fn 78 []] V=some (E,T2)/\Ext (zx y.v) K V/\StS u.l W/\(Ext (zx y.v) V T2/\RowF T2 E (dd W) (zx E))/\zx E=zx y.v:=by
    have JQ:∀x,x∈u.l->closed K.length x.f=true:=fun z s=>by
     rcases qkV fs [] u z (jH hu) s with⟨q',h1,-⟩|⟨f,h1,i,-,rfl⟩
     .simp at h1
     .exact decide_eq_true (by have:=FW.lt f h1;show f.1<K.length;omega)
    have zA:=Zz u.l;rcases aH with⟨hv,h0,-⟩|⟨r,n,hv,h1,hg,-⟩
    .rw[h0] at zA;have ah:u.l=[]:=kx (by simp at zA;omega);obtain⟨V,c1,x1⟩:=qxi K;rw[hv,ah];exact⟨V,_,V,[],c1,quT V _ wE,x1,StS.one _ wE,⟨Ext.refl _ _,.inl ⟨rfl,rfl,rfl⟩⟩,rfl⟩
    .have o:n=u.l.length:=wC;subst o;rw[zA] at hv;rw[hv];obtain⟨⟨z,V⟩,c1,s,x1,W,hW,Xj⟩:=qxj hg JQ cg;simp only at s x1 Xj;subst s;have ZE:=hW.len;by_cases ah:u.l=[]
     .have bP:W=[]:=kx (by rw[ZE,ah];rfl);rw[bP] at Xj;refine⟨V,_,V,W,c1,quT V _ (by rw[ah];simp),x1,hW,⟨Ext.refl _ _,?_⟩,rfl⟩;rw[bP,ah];exact .inr ⟨r,0,[],rfl,Xj,rfl,qA _,fun j x h=>by simp[dd] at h,rfl⟩
     .obtain⟨⟨E,T2⟩,c2,x2,hF⟩:=q5e Xj (fun z s=>jr x1.len _ (JQ z (hW.mem s))) wC (fun h0=>ah (kx (by rw[<-ZE,h0];rfl)));simp only at x2 hF;rw[ZE] at c2;have bQ:=RowF.nm hF;exact⟨V,E,T2,W,c1,c2,x1,hW,⟨x2,by rw[<-bQ];exact hF⟩,bQ.symm⟩
   have aI:=xT.get Xj ai;have aJ:=hF.1.get aI ai;have cC:cellsOf E=some [E]:=(by rcases hF.2 with⟨e,_⟩|⟨p,st,cs,e,_⟩<;>rw[e]<;>rfl);have bj:=hF.2.vcl;have am:=qjz (n:=i*18+16) (d:=E) (by rw[hC,qE];omega) (qll hy 16 E ⟨y.id,E,y.t⟩ wC (y.c16 E));obtain⟨C2,jK⟩:=ql (vf (l.set i ⟨y.id,E,y.t⟩));rw[hC,jK] at am;have Q2:C2.length=18*(jw fs).length:=(by rw[<-jK,KA,vI,S.len]);obtain⟨T3,YF⟩:=ql (qn T2 A C2);have x3:=vZ YF;have g3:=kc YF aJ;have xz:Ext (A::zx y.v) K T3:=((xT.mono (fun i hi=>vq _ hi)).trans (hF.1.mono (fun i hi=>vq _ hi)) (NewL.refl _ _)).trans (x3.mono (fun i hi=>by rw[List.mem_singleton.1 hi];simp)) (NewL.refl _ _)
   have aj:∀n,n∈A::zx y.v->H.length<=n:=fun n o=>by
    rcases List.mem_cons.1 o with rfl|o
    .exact S.oN _ J
    .exact(S.rN i y hy n o).1
   have bU:i<(jw fs).length:=qg;simp[-qd,-qn,-qr,-qG,-qK,-cellsOf,p3,aV,bh,qo,Yz,Xj,qE,ay,Jr,Qg,aI,aJ,cC,bj,bg,am,YF,wi];refine⟨i+1,wC,wC,wE,wE,wE,x.trans xz (fun n o=>.inr (aj n o)),FW.ext xz aj,l.set i ⟨y.id,E,y.t⟩,?_⟩;rw[<-Yz];refine S.step hy hu (y:=⟨y.id,E,y.t⟩) ?_ xz (fun n o=>?_) rfl rfl hW (hF.2.extM x3 fun n o hc=>?_) (fun n o=>Xf▸o)
   .rw[jK,Yz];exact .inr ⟨A,_,by rw[Q2],wC,g3,rfl⟩
   .rcases List.mem_cons.1 o with rfl|o
    .exact .inl J
    .exact .inr o
   .rw[List.mem_singleton.1 hc,Xf] at o;exact ai o
  .rintro ex e K ⟨rfl,-,p3,aV,bh,x,FW,l,S⟩;simp[-qd,-qn,-qr,-qG,-qK,p3]
   obtain⟨qs,bq,ae⟩:=qpc (P:=fun k(q:SqF)=>∀u,(jw fs)[k]?=some u->u.id=q.id/\u.t=q.t/\∃W,StS u.l W/\q.l=dd W/\∀x,l[k]?=some x->∃L,RowF K x.v q.l L) (jw fs).length fun k hk=>by
    have O:k<l.length:=(by rw[S.len];exact hk);obtain⟨a1,a2,a3,-⟩:=S.at_ k l[k] (jw fs)[k] (qN O) (qN hk);obtain⟨W,h1,h2⟩:=a3 hk;refine⟨⟨(jw fs)[k].id,dd W,(jw fs)[k].t⟩,fun u hu=>?_⟩;rw[qN hk] at hu;injection hu with hu;subst hu;refine⟨rfl,rfl,W,h1,rfl,fun x hx=>?_⟩;rw[qN O] at hx;injection hx with hx;exact⟨_,hx▸h2⟩
   refine⟨l,qs,_,S.oR,x,FW,by rw[S.len,bq],⟨bq.symm,fun k u q hu hq=>?_⟩,fun k z p s hp=>?_⟩
   .obtain⟨b1,b2,W,b3,b4,-⟩:=ae k q hq u hu;exact⟨b1,b2,W,b3,b4⟩
   .have hk:=(List.getElem?_eq_some_iff.1 s).1;rw[S.len] at hk;obtain⟨a1,a2,-,-⟩:=S.at_ k z _ s (qN hk);obtain⟨b1,b2,W,b3,b4,b5⟩:=ae k p hp _ (qN hk);obtain⟨L,hL⟩:=b5 z s;exact⟨a1.trans b1,a2.trans b2,hL.vcl,L,hL⟩
theorem qny:∀{v w:List Pl},Vr v->Vr w->(∀k,v.filter (·.s==k)=w.filter (·.s==k))->v=w
 |[],[],_,_,_=>rfl
 |[],b::w,_,_,h=>by have:=h b.s;simp at this
 |a::v,[],_,_,h=>by have:=h a.s;simp at this
 |a::v,b::w,g,i,h=>by
  have c:=h a.s;have e2:=h b.s
  have e:a.s=b.s:=by
   rcases Nat.lt_trichotomy a.s b.s with f|f|f
   .have:(b::w).filter (·.s==a.s)=[]:=List.filter_eq_nil_iff.2 fun y d hc=>by have:=qeV i y d;simp at hc;omega
    rw[this] at c;simp at c
   .exact f
   .have:(a::v).filter (·.s==b.s)=[]:=List.filter_eq_nil_iff.2 fun y d hc=>by have:=qeV g y d;simp at hc;omega
    rw[this] at e2;simp at e2
  have j:a=b:=by
   rw[List.filter_cons_of_pos wE,List.filter_cons_of_pos (by simpa using e.symm)] at c;injection c
  subst j
  rw[qny (List.pairwise_cons.1 g).2 (List.pairwise_cons.1 i).2 fun k=>by
   have:=h k;simp only[List.filter_cons] at this;split at this
   .injection this
   .exact this]
theorem q4e{us qs ps:List SqF}(b:qcI us qs)(c:qcI us ps):qs=ps:=by
 refine List.ext_getElem? fun i=>?_;by_cases hi:i<us.length
 .have h:qs[i]?=some (qs[i]'(by rw[<-b.1];exact hi)):=qN _;have e2:ps[i]?=some (ps[i]'(by rw[<-c.1];exact hi)):=qN _;obtain⟨d,f,W,l,e⟩:=b.2 i _ _ (qN hi) h;obtain⟨n,g,V,m,j⟩:=c.2 i _ _ (qN hi) e2;have a:W=V:=qny l.rise m.rise fun k=>by rw[l.same,m.same]
  rw[h,e2];congr 1;generalize qs[i]'_=x at *;generalize ps[i]'_=y at *;cases x;cases y;simp only at d f e n g j;subst a;rw[<-d,<-n,<-f,<-g,e,j]
 .rw[List.getElem?_eq_none (by rw[<-b.1];omega),List.getElem?_eq_none (by rw[<-c.1];omega)]
def qg3(fs:List (Nat×List UInt8))(p:Nat):List UInt8:=((fs.find? fun f=>f.1==p).map (·.2)).getD []
def Ve(fs:List (Nat×List UInt8))(d:D)(i:Int):Rec:=match d with
 | .optr p _ _=>qhx (qg3 fs p) i.toNat
 |_=>qjL
theorem qtY{n0:Nat}{K:qe}{fs:List (Nat×List UInt8)}(W:FisW n0 K fs){f:Nat×List UInt8}(a:f∈fs):qg3 fs f.1=f.2:=by
 unfold qg3;cases h:fs.find? (fun g=>g.1==f.1) with
 |none=>have:=List.find?_eq_none.1 h f a;simp at this
 |some g=>
  have c:=List.mem_of_find?_eq_some h;have b:=List.find?_some h;have:=W.uni g f c a xQ;rw[this];rfl
theorem qtI:∀(fs:List (Nat×List UInt8))(qs:List SqF),(∀q,q∈qs->q.t<18446744073709551616)->∀q,q∈fs.foldl Zo qs->q.t<18446744073709551616
 |[],qs,h,q,c=>h q c
 |f::fs,qs,h,q,c=>qtI fs (Zo qs f) (fun r e=>by
  unfold Zo at e;obtain⟨b,a,rfl⟩:=List.mem_map.1 e
  have g:b.t<18446744073709551616:=by
   unfold Z6 at a;split at a
   .exact h b a
   .rcases List.mem_append.1 a with d|d
    .exact h b d
    .rw[List.mem_singleton.1 d];exact show(0:Nat)<18446744073709551616 by decide
  have:=qfp f.2 9;split
  .simp only[upF,HdP.tseq];omega
  .exact g) q c
theorem qmE[MaxL]{n0:Nat}{H:qe}{fs:List (Nat×List UInt8)}{l:List Sq}{qs:List SqF}(g:FisW n0 H fs)(I:n0<=H.length)(G:fs.length<=1000)(E:∀u,u∈jw fs->u.l.length<40)(A:l.length=qs.length)(m:qcI (jw fs) qs)
  (j:∀(i:Nat)(x:Sq)(p:SqF),l[i]?=some x->qs[i]?=some p->x.id=p.id/\x.t=p.t/\closed H.length x.v=true/\∃L,RowF H x.v p.l L):SqsW (Ve fs) H l qs:=by
 have k:∀q,q∈qs->∃u,u∈jw fs/\u.t=q.t/\∃W,StS u.l W/\q.l=dd W:=fun q a=>by
  obtain⟨i,hi⟩:=List.getElem?_of_mem a;have C:=(List.getElem?_eq_some_iff.1 hi).1;have c:(jw fs)[i]?=some ((jw fs)[i]'(by rw[m.1];exact C)):=qN _;obtain⟨-,B,W,e,d⟩:=m.2 i _ q c hi;exact⟨_,jH c,B,W,e,d⟩
 have pl:∀q,q∈qs->∀x,x∈q.l->∃f,f∈fs/\∃i,i∈zC f.2/\x=VR f.1 f.2 i:=fun q a x hx=>by
  obtain⟨u,c,-,W,e,d⟩:=k q a;rw[d] at hx;rcases qkV fs [] u x c (e.mem ((qlu W).subset hx)) with⟨q',b,-⟩|h
  .simp at b
  .exact h
 refine⟨A,?_,fun q a=>?_,j,fun q a x hx=>?_,fun q a=>⟨?_,fun x hx=>?_,?_,fun x hx=>?_⟩,fun q a x hx T s=>?_⟩
 .have:=qg1 fs [];rw[<-m.1];unfold jw;simp at this;omega
 .obtain⟨u,c,-,W,e,d⟩:=k q a;have b:=E u c;have F:=(qlu W).length_le;rw[e.len,<-d] at F;omega
 .obtain⟨f,b,i,-,rfl⟩:=pl q a x hx;exact decide_eq_true (by have:=g.lt f b;show f.1<H.length;omega)
 .obtain⟨u,c,-,W,e,d⟩:=k q a;rw[d];exact q4S e.rise
 .obtain⟨f,b,i,-,rfl⟩:=pl q a x hx;exact qeM _ _
 .obtain⟨u,c,y,-⟩:=k q a;rw[<-y];exact qtI fs [] (fun q a=>xB) u c
 .obtain⟨f,b,i,-,rfl⟩:=pl q a x hx;show(qhx (qg3 fs f.1) ((i:Int)).toNat).seq=_;rw[qtY g b];rfl
 .obtain⟨f,b,i,hi,rfl⟩:=pl q a x hx;obtain⟨o,r⟩:=qty hi;have n:=g.len f b;have j:=zI (qgQ f.2) n
  have z:Ve fs (VR f.1 f.2 i).f (VR f.1 f.2 i).i=YW (zL f.2).l (zD f.2)[i]:=by
   show qhx (qg3 fs f.1) ((i:Int)).toNat=_;rw[qtY g b];unfold qhx;rw[Int.toNat_natCast,jv,qN o];rfl
  rw[z]
  have key:∃K,call cx 73 [.optr f.1 5 0,.int .i64 (i:Nat)] T=some (.tup [.agg (ZP (zL f.2).l (qH f.2) (zD f.2)[i]),.int .i64 (Qe (zL f.2).l (qH f.2) (zD f.2)[i]:Nat)],K)/\Ext [] T K:=by
   rcases g.w f b with h|h
   .exact qgp (s.get h wE) o j n rfl
   .exact qgp (s.get h wE) o j n rfl
  rw[show ZP (zL f.2).l (qH f.2) (zD f.2)[i]=Enc.cells (YW (zL f.2).l (zD f.2)[i]) by unfold ZP;rw[if_pos r],r] at key;exact key
def alI(rf:D->Int->Rec)(qs:List SqF)(c:qe)(v:D)(n:Nat)(b:List It)(k:Nat)(e:qu)(K:qe):Prop:=
 k<=n/\qi e 2=some (.int .i64 n)/\qi e 7=some v/\Ext [] c K/\∃(s:Sl Mk)(d:D)(L:List Nat)(a:List It),qi e 1=some (.vsl s.nil (qt s.l) s.l.length)/\qi e 8=some d/\MOk s.l/\a.length=k/\a++(Q8 rf qs (n-k) s.l).1=b/\RowA K 39 d (qt a) L/\(∀j,j∈L->c.length<=j)/\(a=[]->d=.vsl true [] 0)
def qlY(H:qe)(fs:List (Nat×List UInt8))(M:List Mk)(n:Nat)(q:D×qe):Prop:=
 ∃qs,qcI (jw fs) qs/\(∀x,x∈qs->x.Ok (Ve fs))/\q.1=.vsl (decide ((Q8 (Ve fs) qs n M).1=[])) (qt (Q8 (Ve fs) qs n M).1) (Q8 (Ve fs) qs n M).1.length/\Ext (fs.map (·.1)) H q.2/\FisW H.length q.2 fs
theorem qoJ[MaxL]{H:qe}{lD:D}{C:List D}{fs:List (Nat×List UInt8)}(F:FdsW H lD C fs)(W:FisW H.length H fs)(Qj:fs.length<=1000)(Yw:∀u,u∈jw fs->u.l.length<40)(s:Sl Mk)(hs:MOk s.l)(n:Nat)(vi:1<=n)(jR:n<=1000):
  ∃q,call cx 10 [lD,(.vsl s.nil (qt s.l) s.l.length),.int .i64 (n:Nat)] H=some q/\qlY H fs s.l n q:=by
 refine vz (X:=cx) (f:=10) (qlY H fs s.l n) Tryz.func10 rfl ⟨rfl,rfl⟩ ?_;have hr:=qjA s (by have:=hs.len;omega);rw[hs.r] at hr;obtain⟨⟨v,T⟩,A,l,qs,L,hR,xT,FT,JK,w,qS⟩:=qo8 F W Qj Yw;simp only at hR xT FT qS;have S:=qmE FT xT.len Qj Yw JK w qS;have Y1:¬(n:Int)<1:=wC
 simp[-qd,-qn,-qr,-qG,-qK,Tryz.f10,hr,Y1,A];refine JC (alI (Ve fs) qs T v n (Q8 (Ve fs) qs n s.l).1) (fun k=>n-k) 0 (fun ex e K=>ex=.exit 0/\Ext [] T K/\∃d L,qi e 8=some d/\RowA K 39 d (qt (Q8 (Ve fs) qs n s.l).1) L/\(∀j,j∈L->T.length<=j)/\((Q8 (Ve fs) qs n s.l).1=[]->d=.vsl true [] 0)) ?_ ?_ ?_
 .exact⟨vg _,wE,wE,Ext.refl _ _,s,.vsl true [] 0,[],[],wE,wE,hs,rfl,wE,RowA.nil _ _,(fun j p=>by simp at p),fun _=>rfl⟩
 .rintro k e K ⟨hk,p2,p7,x,s',d,Ld,o,p1,N,hM,ah,g,b,t,R⟩
  have zY:qK Tryz.prog 34 d=some (.int .i64 k):=by
   have z:(qt o).length=o.length*39:=Kx (n:=39) wE o;rcases b with⟨Y,E,-⟩|⟨r,m,Y,h1,-,-⟩
   .rw[E] at z;have:k=0:=(by simp at z;omega);rw[Y,this];simp
   .have:m=k:=wC;rw[Y,this];simp
  by_cases qg:k<n
  case neg=>
   have qo:=zq qg;rw[show n-k=0 from wC] at g;simp only[Q8,Jd] at g;simp[-qd,-qn,-qr,-qG,-qK,p1,p2,p7,N,zY,qo];exact⟨x,Ld,by rw[<-g];exact b,t,by rw[<-g];exact R⟩
  have qo:=zn qg;obtain⟨⟨r,K1⟩,c,Q,x1⟩:=qoK (hR.ext x (fun _ _=>wE)) (S.ext x) s' hM;simp only at Q x1;subst Q;obtain⟨m,hm⟩:∃m,n-k=m+1:=⟨n-k-1,wC⟩;rw[hm,Q8] at g;cases hf:ZG qs s'.l with
  |none=>
   rw[hf] at c g;simp only[Jd] at g;have cI:∀n,(∀x,x∈(Enc.cells Jp:List D)->closed n x=true)=True:=fun n=>eq_true fun x hx=>Vj x (List.all_eq_true.1 (Enc.free _) x hx);have U:(Enc.cells Jp:List D).length=39:=wE;simp only[qdI] at c;generalize (Enc.cells Jp:List D)=I at *;obtain⟨M,O⟩:=ql (qr K1 I);have x2:=zJ O;have Z:Ext [] K M:=x1.trans x2 (NewL.refl _ _);simp[-qd,-qn,-qr,-qG,-qK,p1,p2,p7,N,zY,qo,c,zo,JI,cI,U,O];exact⟨x.trans Z (NewL.refl _ _),Ld,by rw[<-g];exact b.ext Z (fun _ _=>wE),t,by rw[<-g];exact R⟩
  |some y=>
   rw[hf] at c g;obtain⟨B,-⟩:=qm4 S.ok hM hM rfl hf;obtain⟨h,vM⟩:=ql (Zd (Ve fs) y);simp only[qdI,vM] at c;simp only[vM] at g;rw[vM] at B;have G:=qwB s' (by have:=hM.len;omega) h false;rw[B.tk] at G;unfold qbK at G;rw[if_pos rfl] at G;have cI:∀n,(∀x,x∈(Enc.cells h:List D)->closed n x=true)=True:=fun n=>eq_true fun x hx=>Vj x (List.all_eq_true.1 (Enc.free _) x hx);have U:(Enc.cells h:List D).length=39:=wE;have fI:idFree.idFreeL (Enc.cells h:List D)=true:=wE;have tI:List.take 39 (Enc.cells h:List D)=Enc.cells h:=qJ wE;have sI:qt (o++[h])=qt o++Enc.cells h:=qc3 o h;obtain⟨I,hI⟩:∃I:List D,Enc.cells h=I:=⟨_,rfl⟩;rw[hI] at c G cI U fI tI sI;obtain⟨M,O⟩:=ql (qr K1 I);have x2:=zJ O;have g2:qd M K1.length=some I:=(by rw[<-O,zo]);obtain⟨K3,ZF⟩:=ql (qr M I);have x3:=zJ ZF;have g3:=js ZF;have J:Ext [] K K3:=(x1.trans x2 (NewL.refl _ _)).trans x3 (NewL.refl _ _);have z:(qt o).length=o.length*39:=Kx (n:=39) wE o;obtain⟨d',K4,L',hA,ae,x4,ag⟩:=(b.ext J (fun _ _=>wE)).append (P:=Tryz.prog) (st:=34) (xt:=34) (e:=47) (x:=.osl M.length 39 0 1 39) (xs:=I) (m:=1) wE wE (by simp[-qd,g3,U,tI]) wE wC wC wC wM wM;have ac:qd K4 K1.length=some I:=x4.get (x3.get g2 wE) (fun hc=>by have:=b.lt hc;have:=x1.len;omega);have wk:=qz ((k:Int)+1) ((k+1:Nat):Int);have V:M≠[]:=fun Y=>by have:=qx g2;rw[Y] at this;simp at this
   simp[-qd,-qn,-qr,-qG,-qK,p1,p2,p7,N,zY,qo,c,zo,JI,cI,U,O,g2,ZF,V,tI,hA,ac,G,fI];refine⟨k+1,wC,wC,wE,wE,(x.trans J (NewL.refl _ _)).trans x4 (fun j p=>.inr (t j p)),⟨false,X3 s'.l h false,wE⟩,d',L',o++[h],wE,wE,B.ok1,by simp[ah],?_,?_,fun j p=>?_,fun E=>by simp at E⟩
   .rw[show n-(k+1)=m from wC,<-g];simp
   .rw[sI];exact ae
   .rcases ag j p with h3|h3
    .exact t j h3
    .have:=x.len;have:=J.len;omega
 .rintro ex e K ⟨rfl,x,d,L,N,b,hL,R⟩;obtain⟨a,g⟩:=ql ((Q8 (Ve fs) qs n s.l).1);have z:(qt a).length=a.length*39:=Kx (n:=39) wE a;have vN:idFree.idFreeL (qt a)=true:=by simp
  rw[g] at b R;have hQ:∀K',Ext [] T K'->qlY H fs s.l n (.vsl (decide (a=[])) (qt a) a.length,K'):=fun K' aa=>⟨qs,w,S.ok,by rw[g],xT.trans aa (fun j p=>by simp at p),FT.ext aa (fun j p=>by simp at p)⟩;rcases b with⟨rfl,E,-⟩|⟨r,m,rfl,h1,hg,rfl⟩
  .rw[E] at z;have Ju:a=[]:=kx (by simp at z;omega);have:=hQ K x;rw[Ju] at this;simp[-qd,-qn,-qr,-qG,-qK,N];exact this
  .have hm:m=a.length:=wC;subst hm;have G:List.take (a.length*39) (qt a)=qt a:=qJ wC;simp[-qd,-qn,-qr,-qG,-qK,-jT,N,hg,z,vN,G];have qQ:a≠[]:=fun E=>by have:=R E;cases this
   have:=hQ (jT K [r]) ⟨by rw[QE];exact x.len,fun i hi _=>by rw[VB (by have:=hL r wE;simp;omega)];exact x.out i hi wE⟩;rw[decide_eq_false qQ] at this;exact this
def qlT(H:qe)(fs:List (Nat×List UInt8))(M:List Mk)(q:D×qe):Prop:=
 ∃qs,qcI (jw fs) qs/\q.1=qdI (Ve fs) (ZG qs M)/\Ext (fs.map (·.1)) H q.2/\FisW H.length q.2 fs
theorem qoI[MaxL]{H:qe}{A:D}{C:List D}{fs:List (Nat×List UInt8)}(F:FdsW H A C fs)(W:FisW H.length H fs)(Q:fs.length<=1000)(U:∀u,u∈jw fs->u.l.length<40)(s:Sl Mk)(G:MOk s.l):
  ∃q,call cx 14 [A,(.vsl s.nil (qt s.l) s.l.length)] H=some q/\qlT H fs s.l q:=by
 refine vz (X:=cx) (f:=14) (qlT H fs s.l) Tryz.func14 rfl ⟨rfl,rfl⟩ ?_;have P:=qjA s (by have:=G.len;omega);rw[G.r] at P;have hZ:(Enc.cells Jp:List D)=(qM (.bool false::VH (.int .u64 0::qM [.vsl true [] 0]))):=rfl;obtain⟨t,o⟩:=ql (qr H (Enc.cells Jp));have z:=zJ o;have V:=js o;have l0:H.length<t.length:=qx V;have F0:FdsW t A C fs:=⟨F.row.ext z (fun _ _=>wE),F.len,fun y Z=>jr z.len _ (F.cl y Z),F.at_,F.nm⟩
 have W0:FisW t.length t fs:=by
  have:=W.ext z (fun _ h=>wP);exact⟨this.w,fun f g=>by have:=this.lt f g;omega,this.len,this.uni⟩
 obtain⟨⟨v,T⟩,e,l,qs,L,Y,p,K,JK,c,O⟩:=qo8 F0 W0 Q U;simp only at Y p K O;have S:=qmE K p.len Q U JK c O;obtain⟨⟨r,R⟩,i,j,k⟩:=qoK Y S s G;simp only at j k;subst j
 obtain⟨a,b,d⟩:∃(a:It)(b:Bool),qdI (Ve fs) (ZG qs s.l)=.tup [.agg (Enc.cells a),.bool b]:=by
  cases ZG qs s.l with
  |none=>exact⟨Jp,false,rfl⟩
  |some x=>exact⟨Zd (Ve fs) x,true,rfl⟩
 have E:H.length∉fs.map (·.1):=fun hc=>by
  obtain⟨f,g,he⟩:=List.mem_map.1 hc;have:=W.lt f g;omega
 have B:=k.get (p.get V E) wE;have cI:∀n,(∀x,x∈(Enc.cells a:List D)->closed n x=true)=True:=fun n=>eq_true fun x hx=>Vj x (List.all_eq_true.1 (Enc.free _) x hx);have lI:(Enc.cells a:List D).length=39:=wE
 have fI:idFree.idFreeL (Enc.cells a:List D)=true:=wE
 have tI:List.take 39 (Enc.cells a:List D)=Enc.cells a:=qJ wE;obtain⟨N,M⟩:=ql (qn R H.length (Enc.cells a));have J:=vZ M;have l1:H.length<R.length:=qx B;have g2:qd N H.length=some (Enc.cells a):=by rw[<-M];exact zk l1
 have hQ:qlT H fs s.l (.tup [.agg (Enc.cells a),.bool b],N):=⟨qs,c,d.symm,(((z.mono wE).trans p (NewL.refl _ _)).trans k (fun _ h=>wP)).trans J (fun n m=>.inr (by rw[List.mem_singleton.1 m];exact qA _)),?_⟩
 .rw[d] at i;generalize (Enc.cells a:List D)=I at *;rw[hZ] at o B;simp[-qd,-qn,-qr,-qG,-qK,Tryz.f14,o,P,e,i,cI,lI,fI,tI,B,M,g2];exact hQ
 .refine⟨fun f g=>?_,W.lt,W.len,W.uni⟩;have hl:=W.lt f g;have m:f.1∉[H.length]:=fun hc=>by have:=List.mem_singleton.1 hc;omega
  rcases K.w f g with h|h
  .exact .inl (J.get (k.get h wE) m)
  .exact .inr (J.get (k.get h wE) m)
theorem qsB{b:List UInt8}{most:Nat}:∀{l out:List Nat},out.length<=most->(KV b most l out).1.length<=most
 |[],out,h=>h
 |y::l,out,h=>by
  rw[KV];split
  .exact h
  .split
   .exact h
   .split
    .exact h
    .refine qsB ?_;simp only[zp,List.length_singleton];omega
theorem quy{b:List UInt8}{sz most:Nat}:∀{n:Nat}{out:List Nat}{a c:Nat},out.length<=most->(qa1 b sz most n out a c).1.length<=most
 |0,out,a,c,h=>h
 |n+1,out,a,c,h=>by
  rw[qa1];split
  .exact h
  .split
   .exact h
   .split
    .exact h
    .split
     .exact h
     .have hi:=qsB (b:=b) (most:=most) (l:=(kp b a).tail) h;split
      .rename_i d f e;rw[e] at hi;exact hi
      .rename_i d e;rw[e] at hi;exact quy hi
theorem q35(b:List UInt8):(zC b).length<=(qH b).ents:=by
 refine zI qex ?_;unfold zD XU;exact quy wE
theorem q6L{qs:List SqF}{f:Nat×List UInt8}:∃u,u∈Zo qs f/\u.id=(qH f.2).seq/\(qH f.2).tseq<=u.t:=by
 obtain⟨q,a,hi⟩:∃q,q∈Z6 qs (qH f.2).seq/\q.id=(qH f.2).seq:=by
  unfold Z6;split
  .rename_i h;obtain⟨q,a,hi⟩:=List.any_eq_true.1 h;exact⟨q,a,xw⟩
  .exact⟨_,List.mem_append_right _ (List.mem_singleton.2 rfl),rfl⟩
 refine⟨upF f.1 f.2 q,List.mem_map.2 ⟨q,a,by rw[if_pos hi]⟩,hi,?_⟩;show _<=max q.t (qH f.2).tseq;omega
theorem q6K{qs:List SqF}{f:Nat×List UInt8}{a:ID}{t:Nat}(h:∃u,u∈qs/\u.id=a/\t<=u.t):∃u,u∈Zo qs f/\u.id=a/\t<=u.t:=by
 obtain⟨u,b,d,c⟩:=h
 have e:u∈Z6 qs (qH f.2).seq:=by
  unfold Z6;split
  .exact b
  .exact qaA _ b
 refine⟨_,List.mem_map.2 ⟨u,e,rfl⟩,by rw[qje];exact d,?_⟩;split
 .show t<=max u.t (qH f.2).tseq;omega
 .exact c
theorem qtJ:∀(fs:List (Nat×List UInt8))(qs:List SqF)(a:ID)(t:Nat),((∃u,u∈qs/\u.id=a/\t<=u.t)\/∃f,f∈fs/\(qH f.2).seq=a/\(qH f.2).tseq=t)->∃u,u∈fs.foldl Zo qs/\u.id=a/\t<=u.t
 |[],qs,a,t,h=>by
  rcases h with h|⟨f,e,-⟩
  .exact h
  .simp at e
 |f::fs,qs,a,t,h=>by
  refine qtJ fs (Zo qs f) a t ?_;rcases h with h|⟨g,b,c,d⟩
  .exact .inl (q6K h)
  .rcases List.mem_cons.1 b with rfl|b
   .left;rw[<-c,<-d];exact q6L
   .exact .inr ⟨g,b,c,d⟩
theorem qwC{fs:List (Nat×List UInt8)}{qs:List SqF}(b:qcI (jw fs) qs){M m:List Mk}(n:MOk M)(k:ks M=ks m)(h:ZG qs M=none){f:Nat×List UInt8}(l:f∈fs)(j:zS m (qH f.2).seq=true\/m.length<4):((qH f.2).tseq:Int)<=(jq m (qH f.2).seq).seq:=by
 obtain⟨u,e,d,p⟩:=qtJ fs [] _ _ (.inr ⟨f,l,rfl,rfl⟩);obtain⟨i,hi⟩:=List.getElem?_of_mem e;have o:=(List.getElem?_eq_some_iff.1 hi).1;have c:qs[i]?=some (qs[i]'(by rw[<-b.1];exact o)):=qN _;obtain⟨a,g,-⟩:=b.2 i u _ hi c;have:=q4J n k h (jH c) (by rw[<-a,d];exact j);rw[<-a,d,<-g] at this;omega
theorem q0H{fs:List (Nat×List UInt8)}{qs:List SqF}(b:qcI (jw fs) qs)(u:fs.length<=6)(r:∀f,f∈fs->(zC f.2).length<=6)(M:List Mk):qdf qs M<500:=by
 have v:=qpf qs M;have t:=qg1 fs [];have k:qs.length<=6:=by rw[<-b.1];unfold jw;simp only[kf] at t;omega
 have a:∀q,q∈qs->q.l.length<=36:=fun q c=>by
  obtain⟨i,hi⟩:=List.getElem?_of_mem c;have o:=(List.getElem?_eq_some_iff.1 hi).1;have d:(jw fs)[i]?=some ((jw fs)[i]'(by rw[b.1];exact o)):=qN _;obtain⟨-,-,W,s,g⟩:=b.2 i _ q d hi;have w:=qim (N:=6) fs [] 0 r (fun q c=>by simp at c) _ (jH d);have n:=(qlu W).length_le;rw[s.len,<-g] at n;omega
 have m:∀l:List SqF,(∀q,q∈l->q.l.length<=36)->(l.map fun q=>q.l.length).sum<=l.length*36:=by
  intro l
  induction l with
  |nil=>intro _;simp
  |cons q l j=>
   intro h;have:=j fun p e=>h p (vq _ e);have:=h q wE;simp only[List.map_cons,List.sum_cons,jA,kt];omega
 have:=m qs a;omega
theorem qv9{rf:D->Int->Rec}{l:List SqF}:∀(n:Nat)(M:List Mk),(Q8 rf l n M).1.length<=n
 |0,_=>qA _
 |n+1,M=>by
  rw[Q8];split
  .simp
  .have:=qv9 (rf:=rf) (l:=l) n;simp only[jA];exact Nat.succ_le_succ (this _)
end Go.Ev.S
