import Derived.Test.YtglpgdajjpipgaaGreatDoorC6
set_option maxHeartbeats 8000000
set_option maxRecDepth 10000
namespace Go.Ev.S
open Go Go.Proofs Go.Ev
def qgU(q:D×qe):Prop:=∃x:Int,jx x/\q=(.int .u64 x,[])
theorem qdV(z:Int):jx (IntKind.u64.wrap z):=by
 simp only[IntKind.wrap,IntKind.signed,IntKind.bits];simp;unfold jx;omega
theorem qlZ(a b:Int):jx (qO .u64 a b):=by
 unfold qO;exact qdV _
theorem qj5[MaxL][TxtC](a b c d:Int)(n:Nat)(k:n<=100){x:Int}(hx:x=n):∃e i g f:Int,call cx 205 [.agg [.int .u64 a,.int .u64 b,.int .u64 c,.int .u64 d],.int .i64 x] []=some (.agg [.int .u64 e,.int .u64 i,.int .u64 g,.int .u64 f],[]):=by
 subst hx;have h:=qyk (a,b,c,d) n k;obtain⟨⟨e,i,g,f⟩,j⟩:∃t,VQ n (a,b,c,d)=t:=⟨_,rfl⟩;rw[j] at h;exact⟨e,i,g,f,h⟩
theorem qxp[MaxL][TxtC](key:ID)(s:Sl UInt8)(J:s.l.length<1000000):∃q,call cx 163 [.agg (qf key.l),(.vsl s.nil (qf s.l) s.l.length)] []=some q/\qgU q:=by
 have u:=qlq (Sl.mk false key.l wE) 0 wC (by simp only[key.h];omega) (x:=0) rfl;have B:=qlq (Sl.mk false key.l wE) 8 wC (by simp only[key.h];omega) (x:=8) rfl;refine Vp (X:=cx) (f:=163) qgU Tryz.func163 rfl ⟨rfl,rfl⟩ ?_;have t:key.l.length=16:=key.h;simp only[t] at u B;simp[Tryz.f163,u,B,t];refine Run.loopThen (fun(k:Nat) e H=>k<=s.l.length/\qi e 1=some (.vsl s.nil (qf s.l) s.l.length)/\qi e 7=some (.optr 1 4 0)/\qi e 8=some (.int .i64 k)/\∃a b c d:Int,H=[none,some [.int .u64 a,.int .u64 b,.int .u64 c,.int .u64 d]]) (fun k=>s.l.length-k) 0 ?_ ?_
 .exact⟨vg _,wE,wE,wE,_,_,_,_,rfl⟩
 rintro k e H ⟨E,y,r,w,a,b,c,d,rfl⟩;have z:=qz ((k:Int)+8) ((k+8:Nat):Int);have j:=qlq s k wC wC (x:=(k:Int)) rfl;obtain⟨m,G⟩:=ql (leN (List.take 8 (List.drop k s.l)));rw[G] at j;by_cases O:k+8<=s.l.length
 .have i:((k+8:Nat):Int)<=(s.l.length:Int):=by omega
  have g:(k:Int)+8<=(s.l.length:Int):=wC
  obtain⟨A,v,p,o,n⟩:=qj5 a b c (qO .u64 d m) 2 wC (x:=2) rfl;simp[y,r,w,z,g,j,n];exact⟨k+8,wC,wC,wC⟩
 .have i:¬((k+8:Nat):Int)<=(s.l.length:Int):=by omega
  have g:¬(k:Int)+8<=(s.l.length:Int):=wC
  obtain⟨M,C⟩:=ql (Vx .u64 (m:Int) (IntKind.u64.wrap (IntKind.u64.wrap ((s.l.length:Int).tmod 256)*2^(min 56 IntKind.u64.bits))));obtain⟨A,v,p,o,n⟩:=qj5 a b c (qO .u64 d M) 2 wC (x:=2) rfl;obtain⟨I,N,L,K,F⟩:=qj5 (qO .u64 A M) v (qO .u64 p 255) o 4 wC (x:=4) rfl;simp[y,r,w,z,g,j,C,n,F];exact⟨_,qlZ _ _,rfl⟩
end Go.Ev.S
namespace Go.Ev
open Go Go.Proofs
structure Kn where
 text:List UInt8
 at_:Nat
 slot:Nat
 cnt:Nat
 nil:Bool
 arrs:List Nat
instance:Enc Kn:=⟨5,fun k=>[.str k.text,.int .u64 k.at_,.int .i64 k.slot,.int .i64 k.cnt,.vsl k.nil (qP .u64 k.arrs) k.arrs.length],fun _=>rfl,fun _=>rfl⟩
theorem Kn.cells(k:Kn):Enc.cells k=[.str k.text,.int .u64 k.at_,.int .i64 k.slot,.int .i64 k.cnt,.vsl k.nil (qP .u64 k.arrs) k.arrs.length]:=rfl
@[simp] theorem Kn.size:Enc.size Kn=5:=rfl
@[simp] theorem Kn.cl (a:Kn):(Enc.cells a).length=5:=Enc.len a
@[simp] theorem Kn.ct (a:Kn) (r:List D):(Enc.cells a++r).take 5=Enc.cells a:=qc6 rfl a r
@[simp] theorem Kn.ct' (a:Kn):(Enc.cells a).take 5=Enc.cells a:=qc5 rfl a
@[simp] theorem Kn.cd (a:Kn) (r:List D):(Enc.cells a++r).drop 5=r:=qc7 rfl a r
@[simp] theorem Kn.el (l:List Kn):(qt l).length=l.length*5:=Kx rfl l
@[simp] theorem Kn.ed (l:List Kn) (i:Nat):(qt l).drop (i*5)=qt (l.drop i):=qa3 rfl l i
@[simp] theorem Kn.et (l:List Kn) (i:Nat):(qt l).take (i*5)=qt (l.take i):=qa2 rfl l i
@[simp high] theorem Kn.ea {l:List Kn} {i:Nat} (h:i<l.length):(qt l).drop (i*5)=Enc.cells l[i]++qt (l.drop (i+1)):=XW rfl h
@[simp high] theorem Kn.es (m:Kn) {l:List Kn} {j:Nat} (h:j<l.length):zU (qt l) (j*5) (Enc.cells m)=qt (l.set j m):=XV rfl m l h
def Jj(k:Nat):Nat:=if k<6 then 4*2^k else 256
def vt:Nat->Nat
 |0=>0
 |k+1=>vt k+Jj k
theorem qj6(k:Nat):4<=Jj k:=by
 unfold Jj;split
 .have:=Nat.one_le_two_pow (n:=k);omega
 .omega
theorem qht(k:Nat):Jj k<=256:=by
 unfold Jj;split
 .rename_i h;have:2^k<=2^5:=qfE wH wC;omega
 .omega
structure ArrOk (bl:Nat) (arrs:List Nat) (n:Nat):Prop where
 nil:arrs=[]->n=0
 lo:∀j,arrs.length=j+1->vt j<n
 hi:n<=vt arrs.length
 at_:∀(j a:Nat),arrs[j]?=some a->a+24+8*Jj j<=bl
theorem ArrOk.mono{c bl':Nat}{b:List Nat}{n:Nat}(h:ArrOk c b n)(d:c<=bl'):ArrOk bl' b n:=
 ⟨h.nil,h.lo,h.hi,fun j a e=>zI (h.at_ j a e) d⟩
theorem ArrOk.zero(c:Nat):ArrOk c [] 0:=⟨fun _=>rfl,fun j b=>by simp at b,by simp[vt],fun j a b=>by simp at b⟩
theorem qjn{j:Nat}:vt j<vt (j+1):=by
 have:=qj6 j;simp only[vt];omega
theorem ArrOk.more{e:Nat}{b:List Nat}{n:Nat}(h:ArrOk e b n)(g:n≠vt b.length):∃j a,b.length=j+1/\b[j]?=some a/\vt j<n/\n-vt j<Jj j/\a+24+8*(n-vt j)+8<=e/\ArrOk e b (n+1):=by
 cases c:b.length with
 |zero=>
  have d:b=[]:=List.length_eq_zero_iff.1 c;exact absurd (by rw[h.nil d,c];rfl) g
 |succ j=>
  have k:=h.lo j c;have l:=h.hi;rw[c] at g l;have m:vt (j+1)=vt j+Jj j:=rfl;have f:j<b.length:=wC
  have o:=h.at_ j b[j] (qN f);refine⟨j,b[j],rfl,qN f,k,wC,wC,⟨fun d=>by rw[d] at c;simp at c,fun i hi=>?_,by rw[c];omega,h.at_⟩⟩;have:i=j:=wC
  subst this;omega
theorem ArrOk.new{f bl':Nat}{c:List Nat}(h:ArrOk f c (vt c.length)){a:Nat}(k:f<=bl')(i:a+24+8*Jj c.length<=bl'):ArrOk bl' (c++[a]) (vt c.length+1):=by
 refine⟨fun l=>by simp at l,fun j d=>?_,?_,fun j b d=>?_⟩
 .simp only[zp,jA,kf] at d;have:j=c.length:=by omega
  subst this;omega
 .simp only[zp,jA,kf,vt];have:=qj6 c.length;omega
 .by_cases g:j<c.length
  .rw[vJ g] at d;exact zI (h.at_ j b d) k
  .have e:=(List.getElem?_eq_some_iff.1 d).1;simp only[zp,jA,kf] at e;have:j=c.length:=wC;subst this;simp at d;subst d;exact i
def ArrW(b:Nat)(a:List Nat)(ne:Nat):Prop:=∃n,n<=ne+1/\ArrOk b a n
theorem ArrW.mono{b bl':Nat}{a:List Nat}{ne:Nat}(h:ArrW b a ne)(d:b<=bl'):ArrW bl' a ne:=by
 obtain⟨n,c,e⟩:=h;exact⟨n,c,e.mono d⟩
structure Kn.Ok (k:Kn) (bl ds:Nat):Prop where
 at_:k.at_+64<=bl
 slot:k.slot<ds
 arr:ArrOk bl k.arrs (k.cnt-1)
 nil:k.nil=true->k.arrs=[]
 txt:k.text.length<=1000
theorem Kn.Ok.mono{k:Kn}{b bl' ds:Nat}(h:k.Ok b ds)(a:b<=bl'):k.Ok bl' ds:=⟨zI h.at_ a,h.slot,h.arr.mono a,h.nil,h.txt⟩
structure Kn.OkF (k:Kn) (bl fs:Nat):Prop where
 at_:k.at_+40<=bl
 slot:k.slot<fs
theorem Kn.OkF.mono{k:Kn}{a bl' fs:Nat}(h:k.OkF a fs)(b:a<=bl'):k.OkF bl' fs:=⟨zI h.at_ b,h.slot⟩
structure Jm where
 cs:List D
 b:List UInt8
 da:List Kn
 fi:List Kn
 ds:Nat
 fs:Nat
 key:Bool
 file:ID
 ft:Nat
 ne:Nat
 tl:Nat
 mn:Bool
 main:List Nat
 dv:D
 fv:D
 bi:Nat
 Ld:List Nat
 Lf:List Nat
def Jm.names(m:Jm)(q:Nat):List Nat:=q::m.bi::(m.Ld++m.Lf)
def isU(d:D):Prop:=∃v:Nat,d=.int .u64 (v:Int)/\v<18446744073709551616
structure JmW (H:qe) (q:Nat) (m:Jm):Prop where
 root:qd H q=some m.cs
 len:m.cs.length=147
 file:m.cs.take 16=qf m.file.l
 c48:m.cs[48]?=some (.int .i64 m.ds)
 c49:m.cs[49]?=some (.int .i64 m.fs)
 c50:m.cs[50]?=some (.int .i64 32768)
 c51:m.cs[51]?=some (.bool m.key)
 c52:m.cs[52]?=some (.int .u32 2)
 c53:m.cs[53]?=some (.int .u32 (if m.key then 4 else 0))
 c54:m.cs[54]?=some (.int .i64 1)
 ids:∃a b c d:ID,(m.cs.drop 55).take 64=qf a.l++(qf b.l++(qf c.l++qf d.l))
 c119:m.cs[119]?=some (.int .u64 272)
 c121:m.cs[121]?=some (.int .u64 288)
 c122:m.cs[122]?=some (.int .u64 (16*m.ds:Nat))
 c123:m.cs[123]?=some (.int .u64 m.ft)
 c124:m.cs[124]?=some (.int .u64 (16*m.fs:Nat))
 c127:m.cs[127]?=some (.int .u64 m.ne)
 c128:m.cs[128]?=some (.int .u64 m.tl)
 nums:∀i,119<=i->i<139->∃d,m.cs[i]?=some d/\isU d
 c139:∃v:Nat,m.cs[139]?=some (.int .u32 (v:Int))/\v<4294967296
 c140:∃v:Nat,m.cs[140]?=some (.int .u32 (v:Int))/\v<4294967296
 c141:∃d,m.cs[141]?=some d/\isU d
 c142:∃d,m.cs[142]?=some d/\isU d
 c143:m.cs[143]?=some (.osl m.bi m.b.length 0 m.b.length 1)
 c144:m.cs[144]?=some m.dv
 c145:m.cs[145]?=some m.fv
 c146:m.cs[146]?=some (.vsl m.mn (qP .u64 m.main) m.main.length)
 bytes:qd H m.bi=some (qf m.b)
 rowD:RowA H 5 m.dv (qt m.da) m.Ld
 rowF:RowA H 5 m.fv (qt m.fi) m.Lf
 nodup:(m.names q).Nodup
 free:∀(i:Nat)(d:D),i<143->m.cs[i]?=some d->idFree d=true
theorem qcz{cs:List D}{i:Nat}{x:D}(h:∀(j:Nat)(d:D),j<143->cs[j]?=some d->idFree d=true)(hx:i<143->idFree x=true):∀(j:Nat)(d:D),j<143->(cs.set i x)[j]?=some d->idFree d=true:=fun j d b a=>by
 by_cases c:i=j
 .subst c;rw[List.getElem?_set_self'] at a;cases hc:cs[i]? with
  |none=>rw[hc] at a;simp at a
  |some y=>
   rw[hc] at a;simp at a;subst a;exact hx b
 .rw[List.getElem?_set_ne c] at a;exact h j d b a
theorem qk8{d:D}(h:isU d):idFree d=true:=by
 obtain⟨v,rfl,_⟩:=h;rfl
structure Jm.Ok (m:Jm):Prop where
 ds:1<=m.ds/\m.ds<=64
 fs:1<=m.fs/\m.fs<=64
 ft:m.ft=288+16*m.ds+16
 bl:m.ft+16*m.fs<=m.b.length
 bmod:m.b.length % 8=0
 bmax:m.b.length<=1000000
 da:∀k,k∈m.da->k.Ok m.b.length m.ds
 fi:∀k,k∈m.fi->k.OkF m.b.length m.fs
 main:ArrW m.b.length m.main m.ne
 mn:m.mn=true->m.main=[]
 tl:m.tl<18446744073709551616
 ne:m.ne<=200
 nda:m.da.length<=1000
 nfi:m.fi.length<=1000
 cn:∀k,k∈m.da->k.cnt<=4*m.ne+4
end Go.Ev
namespace Go.Ev.S
open Go Go.Proofs Go.Ev
theorem qkt[MaxL][TxtC](v n:Nat)(F:1<=n)(C:n<=8)(k:v<18446744073709551616):call cx 108 [.int .u64 v,.int .i64 n] []=some (.vsl false (qf (QO n v)) n,[]):=by
 refine qC Tryz.func108 rfl ⟨rfl,rfl⟩ ?_;simp[Tryz.f108];refine Run.loopThen (fun(i:Nat) e H=>i<=n/\(∃d,qi e 5=some d/\Buf d H (QO i v))/\qi e 0=some (.int .u64 (v/256^i:Nat))/\qi e 1=some (.int .i64 n)/\qi e 6=some (.int .i64 i)) (fun i=>n-i) 0 ?_ ?_
 .simp[QO,Buf]
 rintro i e H ⟨hi,⟨d,r,f⟩,t,o,s⟩;by_cases w:i<n
 .have q:=zn w;have A:=qz ((i:Int)+1) ((i+1:Nat):Int);have b:=qph i v;have j:(QO i v).length<=8:=by simp;omega
  have m:v/256^i<18446744073709551616:=Nat.lt_of_le_of_lt (Nat.div_le_self _ _) k;have B:v/256^(i+1)=v/256^i/256:=by rw[qeD,Nat.div_div_eq_div_mul]
  generalize v/256^i=x at *
  have h:(x:Int).tmod 256=((x % 256:Nat):Int):=by
   rw[Int.tmod_eq_emod_of_nonneg (Int.natCast_nonneg _)];rfl
  have g:(x:Int).tdiv 256=((x/256:Nat):Int):=by
   rw[Int.tdiv_eq_ediv_of_nonneg (Int.natCast_nonneg _)];rfl
  have a:x % 256<256:=YM _ wH
  have u:IntKind.u8.wrap ((x % 256:Nat):Int)=((UInt8.ofNat (x % 256)).toNat:Int):=by
   rw[qfD a];clear k m;generalize x % 256=y at *;rw[qeJ];omega
  have z:IntKind.u64.wrap ((x/256:Nat):Int)=((x/256:Nat):Int):=by
   have:x/256<18446744073709551616:=Nat.lt_of_le_of_lt (Nat.div_le_self _ _) m;clear k m;generalize x/256=y at *;rw[qaF];omega
  generalize UInt8.ofNat (x % 256)=c at *;clear k m;generalize QO i v=l at *;have p:l.length+1<=140737488355328:=zI (Nat.add_le_add_right j 1) wH;rcases f with⟨rfl,rfl,rfl⟩|⟨rfl,rfl⟩
  .simp[r,t,o,s,q,A,h,g,u,z,qF,-Int.natCast_emod,-Int.natCast_ediv];clear p;exact⟨i+1,wC,wC,.inr (by simp[b,qf]),by rw[B],rfl⟩
  .simp[r,t,o,s,q,A,h,g,u,z,qF,p,-Int.natCast_emod,-Int.natCast_ediv];clear p;exact⟨i+1,wC,wC,.inr (by simp[b,qf]),by rw[B],rfl⟩
 .have q:=zq w;have E:i=n:=by omega
  subst E;have j:(QO i v).length=i:=qpi i v;generalize QO i v=l at *;rcases f with⟨rfl,rfl,rfl⟩|⟨rfl,rfl⟩
  .simp at j;omega
  .simp[r,t,o,s,j,qJ]
theorem qod(t:Int×Int×Int):jx (qbP t):=by
 obtain⟨x,y,z⟩:=t;exact qdV _
theorem qoZ:∀(n:Nat)(l:List UInt8)(t:Int×Int×Int),l.length<=n->jx (KT l t)
 |n,l,t,h=>by
  by_cases b:12<l.length
  .rw[qkw b];cases n with
   |zero=>omega
   |succ n=>exact qoZ n _ _ wv
  .by_cases a:l.length=0
   .rw[qkv a];exact qod _
   .obtain⟨⟨x,z,y⟩,c⟩:∃q,qe0 (JW l t)=q:=⟨_,rfl⟩;rw[qkx b a c];exact qod _
theorem q05(l:List UInt8):jx (qac l):=qoZ l.length _ _ (qA _)
theorem qka[MaxL][TxtC](a:Bool)(key:ID)(s:Sl UInt8)(b:s.l.length<1000000):∃q,call cx 102 [.bool a,.agg (qf key.l),(.vsl s.nil (qf s.l) s.l.length)] []=some q/\qgU q:=by
 cases a with
 |true=>
  obtain⟨q,h,x,hx,rfl⟩:=qxp key s b;refine⟨_,qC Tryz.func102 rfl ⟨rfl,rfl⟩ ?_,x,hx,rfl⟩;simp[Tryz.f102,h]
 |false=>
  have h:=qnv s wC;refine⟨_,qC Tryz.func102 rfl ⟨rfl,rfl⟩ ?_,qac s.l,q05 _,rfl⟩;simp[Tryz.f102,h]
def qvR(n:Nat)(q:D×qe):Prop:=∃s:List UInt8,s.length=n/\q=(.vsl (decide (n=0)) (qf s) n,[])
def q6T(n:Nat)(q:D×qe):Prop:=∃s:List UInt8,s.length=n/\q=(.osl 0 n 0 n 1,[some (qf s)])
def JD(cs:List D):Prop:=∀d,d∈cs->isU d
def q6U(d:D)(H:qe)(l:List UInt8):Prop:=(d=.vsl true [] 0/\l=[]/\H=[])\/(d=.osl 0 l.length 0 l.length 1/\H=[some (qf l)]/\l≠[])
def NumsA(cs:List D)(i:Nat)(l:List UInt8):Prop:=∀(j:Nat)(v:Nat),j<i->cs[j]?=some (.int .u64 (v:Int))->leN ((l.drop (8*j)).take 8)=v
theorem NumsA.app{cs:List D}{i:Nat}{l B:List UInt8}(h:NumsA cs i l)(d:l.length=8*i)(e:B.length=8)(b:∀v:Nat,cs[i]?=some (.int .u64 (v:Int))->leN B=v):NumsA cs (i+1) (l++B):=fun j v f a=>by
 by_cases c:j<i
 .rw[List.drop_append_of_le_length wC,List.take_append_of_le_length wv];exact h j v c a
 .have:j=i:=by omega
  subst this;rw[KH d,qJ wC];exact b v a
theorem qoq[MaxL][TxtC](n:Bool)(cs:List D)(J:JD cs)(I:n=true->cs=[])(N:cs.length<=100000)(F:1<=cs.length):∃q,call cx 109 [.vsl n cs cs.length] []=some q/\∃s:List UInt8,s.length=8*cs.length/\NumsA cs cs.length s/\q=(.osl 0 (8*cs.length) 0 (8*cs.length) 1,[some (qf s)]):=by
 refine Vp (X:=cx) (f:=109) (fun q=>∃s:List UInt8,s.length=8*cs.length/\NumsA cs cs.length s/\q=(.osl 0 (8*cs.length) 0 (8*cs.length) 1,[some (qf s)])) Tryz.func109 rfl ⟨rfl,rfl⟩ ?_;simp[Tryz.f109];refine Run.loopThen (fun(i:Nat) e H=>i<=cs.length/\qi e 0=some (.vsl n cs cs.length)/\qi e 4=some (.int .i64 i)/\∃d l,qi e 3=some d/\q6U d H l/\l.length=8*i/\NumsA cs i l) (fun i=>cs.length-i) 0 ?_ ?_
 .exact⟨vg _,wE,wE,_,[],wE,.inl ⟨rfl,rfl,rfl⟩,rfl,fun j v G=>absurd G (Nat.not_lt_zero _)⟩
 rintro i e H ⟨hi,r,p,d,l,o,C,a,t⟩;by_cases b:i<cs.length
 .have m:=zn b;have k:=qz ((i:Int)+1) ((i+1:Nat):Int);have L:n=false:=Bool.eq_false_iff.2 fun h=>by rw[I h] at b;simp at b
  subst L;obtain⟨v,x,y⟩:=J _ (vQ b);have A:cs.drop i=.int .u64 (v:Int)::cs.drop (i+1):=by rw[zZ b,x]
  have u:call cx 108 [.int .u64 v,.int .i64 8] []=some (.vsl false (qf (QO 8 v)) 8,[]):=qkt v 8 wC wC y;have c:(QO 8 v).length=8:=wE
  have g:NumsA cs (i+1) (l++QO 8 v):=t.app a wE fun w k=>by
   rw[qN b,x] at k;simp only[qy,D.int.injEq,true_and] at k;have:v=w:=wC;subst this;rw[qk0];exact qeE y
  generalize QO 8 v=B at *;rcases C with⟨rfl,rfl,rfl⟩|⟨rfl,rfl,z⟩
  .have M:i=0:=(by simp at a;omega);simp[r,o,p,m,A,u,k,qF,c];exact⟨i+1,wC,wC,wC,B,.inr ⟨by rw[c],wE,fun h=>by rw[h] at c;simp at c⟩,wC,xF⟩
  .have E:l.length+8<=140737488355328:=wC;simp[r,o,p,m,A,u,k,qF,c,E];exact⟨i+1,wC,wC,wC,l++B,.inr ⟨by simp[c],wW,by simp[z]⟩,by simp[c];omega,g⟩
 .have m:=zq b;have K:i=cs.length:=by omega
  subst K;rcases C with⟨rfl,rfl,rfl⟩|⟨rfl,rfl,z⟩
  .simp at a;omega
  .simp[r,o,p,m,a];exact⟨l,a,t,rfl⟩
theorem qdb[MaxL][TxtC](a:Bool)(cs:List D)(c:JD cs)(d:a=true->cs=[])(g:cs.length<=100000)(b:1<=cs.length):∃q,call cx 109 [.vsl a cs cs.length] []=some q/\q6T (8*cs.length) q:=by
 obtain⟨q,h,s,f,-,e⟩:=qoq a cs c d g b;exact⟨q,h,s,f,e⟩
def Q9(n:Nat):Nat:=(n+7)/8*8
theorem qnG[MaxL][TxtC](k:Nat)(O:1<=k/\k<=7)(r:Bool)(b:List UInt8)(_:r=true->b=[])(P:b.length<=1000000):∃q,call cx 155 [.int .i64 k,.vsl r (qf b) b.length] []=some q/\qvR (Q9 (16+b.length)) q:=by
 refine Vp (X:=cx) (f:=155) (qvR _) Tryz.func155 rfl ⟨rfl,rfl⟩ ?_;have G:¬(k:Int)<1:=wC
 have z:¬(7:Int)<(k:Int):=wC
 obtain⟨N,p⟩:∃N,N=16+b.length:=⟨_,rfl⟩;rw[<-p];have E:=qz (16+(b.length:Int)) (N:Int);have B:=zg (N:Int) (N:Int);obtain⟨c,hc⟩:∃c:UInt8,(k:Int) % 256=(c.toNat:Int):=⟨UInt8.ofNat k,by rw[qfD (by simp only[UInt8.size];omega)];omega⟩
 obtain⟨q,n,s,y,rfl⟩:=qdb false [.int .u64 (N:Int)] (by
  intro d I;rw[List.mem_singleton.1 I];exact⟨_,rfl,wC⟩) wE wE wE
 have a:s.length=8:=y;simp at n;have w:16+b.length<=140737488355328:=wC
 have C:IntKind.u8.wrap (k:Int)=(c.toNat:Int):=by
  rw[<-hc,qeJ]<;>omega
 have v:D.int IntKind.u8 0=D.int IntKind.u8 ((0:UInt8).toNat:Int):=rfl;simp[Tryz.f155,G,z,E,B,C,n,a,qF,w];refine Run.loopThen (fun(j:Nat) e H=>N<=j/\j<=Q9 N/\∃l t,l.length=j/\H=some (qf l)::t/\qi e 5=some (.osl 0 j 0 j 1)) (fun j=>Q9 N-j) N ?_ ?_
 .refine⟨qA _,xl,c::0::0::0::0::0::0::0::(s++b),_,by simp[a];omega,by simp[qf];exact rfl,?_⟩;simp[p]
 rintro j e H ⟨K,u,l,t,g,rfl,o⟩;have Q:Q9 N<=N+7:=xl
 have m:(j:Int).tmod 8=((j % 8:Nat):Int):=by
  rw[Int.tmod_eq_emod_of_nonneg (Int.natCast_nonneg _)];rfl
 by_cases F:j % 8=0
 .have h:j=Q9 N:=by unfold Q9 at u⊢;omega
  have R:Q9 N≠0:=wC
  have x:(j:Int) % 8=0:=wC
  simp[o,m,F,g];have M:List.take j (qf l)=qf l:=qJ wG;refine⟨l,wC,?_⟩;rw[<-h,decide_eq_false wC]
 .have J:j<Q9 N:=by unfold Q9 at u⊢;omega
  have i:¬(j:Int) % 8=0:=wC
  have A:j+1<=140737488355328:=wC
  simp[o,m,i,g,A,qF];exact⟨j+1,wC,wC,wC,l++[0],by simp[g],wW,rfl⟩
theorem qfl{x:D}(h:isU x):JD [x]:=fun d a=>by rw[List.mem_singleton.1 a];exact h
theorem qaZ{x:D}{l:List D}(h:isU x)(b:JD l):JD (x::l):=fun d a=>by
 rcases List.mem_cons.1 a with rfl|a
 .exact h
 .exact b d a
theorem q28:JD []:=fun d a=>by cases a
theorem qer{l:List D}(h:JD l):l.all idFree=true:=List.all_eq_true.2 fun d a=>by
 obtain⟨v,rfl,_⟩:=h d a;rfl
theorem qiJ(n:Nat):n<=Q9 n/\Q9 n<=n+7/\Q9 n % 8=0:=xl
theorem qmq{cs:List D}{n i:Nat}(d:JD cs)(k:cs.length=n*2)(hi:i<n):∃a b:Nat,a<18446744073709551616/\b<18446744073709551616/\cs.drop (i*2)=.int .u64 (a:Int):: .int .u64 (b:Int)::cs.drop (i*2+2):=by
 have e:i*2<cs.length:=wC
 have f:i*2+1<cs.length:=wC
 obtain⟨a,h,c⟩:=d _ (vQ e);obtain⟨b,j,g⟩:=d _ (vQ f);exact⟨a,b,c,g,by rw[zZ e,h,zZ f,j]⟩
theorem qot[MaxL][TxtC](a b:Nat)(e:a<18446744073709551616)(c:b<18446744073709551616):∃s:List UInt8,s.length=16/\call cx 109 [.vsl false [.int .u64 (a:Int),.int .u64 (b:Int)] 2] []=some (.osl 0 16 0 16 1,[some (qf s)]):=by
 obtain⟨q,h,s,d,rfl⟩:=qdb false [.int .u64 (a:Int),.int .u64 (b:Int)] (qaZ ⟨a,rfl,e⟩ (qfl ⟨b,rfl,c⟩)) wE wE wE;exact⟨s,d,h⟩
theorem qkb(s p:List UInt8):qf (s++p)=qf s++qf p:=wW
theorem qjO[MaxL][TxtC](k:Nat)(b:1<=k/\k<=7)(s p:List UInt8){n:Nat}(d:n=s.length+p.length)(h:n<=1000000):
  ∃t:List UInt8,t.length=Q9 (16+n)/\call cx 155 [.int .i64 k,.vsl false (qf s++qf p) n] []=some (.vsl false (qf t) t.length,[]):=by
 obtain⟨r,g,t,a,rfl⟩:=qnG k b false (s++p) wE wG;have c:(s++p).length=n:=by rw[zp,d]
 have e:=qiJ (16+n);rw[c] at g a;refine⟨t,a,?_⟩;rw[qkb] at g;rw[g,<-a,decide_eq_false wC]
def qeG(n:Nat)(q:D×qe):Prop:=∃s:List UInt8,s.length=n/\q=(.vsl false (qf s) s.length,[])
theorem qjl{s p:List UInt8}{n:Nat}(h:n=s.length+p.length):List.take n (qf s++qf p)=qf s++qf p:=qJ wG
theorem qyV[MaxL][TxtC](a b c d e f:Nat)(r:a<18446744073709551616)(x:b<18446744073709551616)(hc:c<18446744073709551616)(w:d<18446744073709551616)(o:e<18446744073709551616)(l:f<18446744073709551616)(v:Bool)(p:List UInt8)(y:p.length<=100000):
  ∃q,call cx 159 [.agg [.int .u64 a,.int .u64 b,.int .u64 c,.int .u64 d,.int .u64 e,.int .u64 f,.vsl v (qf p) p.length]] []=some q/\qeG (Q9 (64+p.length)) q:=by
 obtain⟨q,h,s,m,rfl⟩:=qdb false [.int .u64 (a:Int),.int .u64 (b:Int),.int .u64 (c:Int),.int .u64 (d:Int),.int .u64 (e:Int),.int .u64 (f:Int)] (qaZ ⟨_,rfl,r⟩ (qaZ ⟨_,rfl,x⟩ (qaZ ⟨_,rfl,hc⟩ (qaZ ⟨_,rfl,w⟩ (qaZ ⟨_,rfl,o⟩ (qfl ⟨_,rfl,l⟩)))))) wE wE wE;have i:s.length=48:=m;replace h:call cx 109 [.vsl false [.int .u64 (a:Int),.int .u64 (b:Int),.int .u64 (c:Int),.int .u64 (d:Int),.int .u64 (e:Int),.int .u64 (f:Int)] 6] []=some (.osl 0 48 0 48 1,[some (qf s)]):=h;obtain⟨t,j,g⟩:=qjO 1 wC s p (n:=48+p.length) wC wC;have u:48+p.length<=140737488355328:=wC
 have k:=qjl (s:=s) (p:=p) (n:=48+p.length) wC;replace g:call cx 155 [.int .i64 1,.vsl false (qf s++qf p) (48+p.length)] []=some (.vsl false (qf t) t.length,[]):=g;refine⟨(.vsl false (qf t) t.length,[]),qC Tryz.func159 rfl ⟨rfl,rfl⟩ ?_,t,by rw[j];congr 1;omega,rfl⟩;simp[Tryz.f159,h,i,qF,g,u,k]
theorem qyR[MaxL][TxtC](a b c:Nat)(j:a<18446744073709551616)(m:b<18446744073709551616)(hc:c<18446744073709551616)(l:Bool)(p:List UInt8)(o:p.length<=100000):
  ∃q,call cx 203 [.agg [.int .u64 a,.int .u64 b,.int .u64 c,.vsl l (qf p) p.length]] []=some q/\qeG (Q9 (40+p.length)) q:=by
 obtain⟨q,h,s,i,rfl⟩:=qdb false [.int .u64 (a:Int),.int .u64 (b:Int),.int .u64 (c:Int)] (qaZ ⟨_,rfl,j⟩ (qaZ ⟨_,rfl,m⟩ (qfl ⟨_,rfl,hc⟩))) wE wE wE;have d:s.length=24:=i;replace h:call cx 109 [.vsl false [.int .u64 (a:Int),.int .u64 (b:Int),.int .u64 (c:Int)] 3] []=some (.osl 0 24 0 24 1,[some (qf s)]):=h;obtain⟨t,e,g⟩:=qjO 2 wC s p (n:=24+p.length) wC wC;have k:24+p.length<=140737488355328:=wC
 have f:=qjl (s:=s) (p:=p) (n:=24+p.length) wC;replace g:call cx 155 [.int .i64 2,.vsl false (qf s++qf p) (24+p.length)] []=some (.vsl false (qf t) t.length,[]):=g;refine⟨(.vsl false (qf t) t.length,[]),qC Tryz.func203 rfl ⟨rfl,rfl⟩ ?_,t,by rw[e];congr 1;omega,rfl⟩;simp[Tryz.f203,h,d,qF,g,k,f]
theorem qzc[MaxL][TxtC](a:Nat)(u:a<18446744073709551616)(d:Bool)(cs:List D)(f:JD cs)(k:d=true->cs=[])(w:cs.length<=1000)(e:1<=cs.length):
  ∃q,call cx 166 [.agg [.int .u64 a,.vsl d cs cs.length]] []=some q/\qeG (24+8*cs.length) q:=by
 obtain⟨q,h,s,o,rfl⟩:=qdb false [.int .u64 (a:Int)] (qfl ⟨_,rfl,u⟩) wE wE wE;have b:s.length=8:=o;replace h:call cx 109 [.vsl false [.int .u64 (a:Int)] 1] []=some (.osl 0 8 0 8 1,[some (qf s)]):=h;obtain⟨x,r,p,i,rfl⟩:=qdb d cs f k wC e;obtain⟨t,j,g⟩:=qjO 6 wC s p (n:=8+8*cs.length) wC wC;have v:8+8*cs.length<=140737488355328:=wC
 have m:=qjl (s:=s) (p:=p) (n:=8+8*cs.length) wC;have l:List.take (8*cs.length) (qf p)=qf p:=qJ wG;have c:t.length=24+8*cs.length:=by rw[j];unfold Q9;omega
 replace g:call cx 155 [.int .i64 6,.vsl false (qf s++qf p) (8+8*cs.length)] []=some (.vsl false (qf t) t.length,[]):=g;refine⟨(.vsl false (qf t) t.length,[]),qC Tryz.func166 rfl ⟨rfl,rfl⟩ ?_,t,c,rfl⟩;simp[Tryz.f166,h,b,r,i,qF,g,v,m,l]
theorem qnF[MaxL][TxtC](k:Nat)(b:1<=k/\k<=7)(s:List UInt8){n:Nat}(c:n=s.length)(h:n<=1000000):
  ∃t:List UInt8,t.length=Q9 (16+n)/\call cx 155 [.int .i64 k,.vsl false (qf s) n] []=some (.vsl false (qf t) t.length,[]):=by
 obtain⟨r,g,t,a,rfl⟩:=qnG k b false s wE wC;have d:=qiJ (16+n);rw[<-c] at g a;exact⟨t,a,by rw[g,<-a,decide_eq_false wC]⟩
theorem qnN[MaxL][TxtC](k:Nat)(W:k=4\/k=5)(K:Bool)(cs:List D)(n:Nat)(R:JD cs)(N:cs.length=n*2)(O:K=true->n=0)(V:n<=1000)(Y:1<=n):∃q,call cx 97 [.int .i64 k,.vsl K cs n] []=some q/\qeG (16+16*n) q:=by
 have Q:K=false:=Bool.eq_false_iff.2 fun h=>by have:=O h;omega
 subst Q;have A:((k:Int)=4/\¬(k:Int)=5)\/(¬(k:Int)=4/\(k:Int)=5):=wC
 have B:1<=k/\k<=7:=wC
 have r:=qnF (k:=k) B;refine Vp (X:=cx) (f:=97) (qeG _) Tryz.func97 rfl ⟨rfl,rfl⟩ ?_;rcases A with⟨I,G⟩|⟨I,G⟩
 all_goals
  simp[Tryz.f97,I,G];refine Run.loopThen (fun(i:Nat) e H=>i<=n/\qi e 0=some (.int .i64 k)/\qi e 1=some (.vsl false cs n)/\qi e 6=some (.int .i64 i)/\∃l,l.length=16*i/\((i=0/\H=[]/\qi e 5=some (.vsl true [] 0))\/(i≠0/\∃p J H',H=p::J::some (qf l)::H'/\qi e 5=some (.osl 2 (16*i) 0 (16*i) 1))\/(i≠0/\∃H',H=some (qf l)::H'/\qi e 5=some (.osl 0 (16*i) 0 (16*i) 1)))) (fun i=>n-i) 0 ?_ ?_
  .refine⟨vg _,by simp[I,G],wE,wE,[],rfl,.inl ⟨rfl,rfl,wE⟩⟩
  rintro i e H ⟨hi,w,u,o,l,c,M⟩;by_cases C:i<n
  .have j:=zn C;have F:=qz ((i:Int)+1) ((i+1:Nat):Int);obtain⟨a,b,S,U,x⟩:=qmq R N C;obtain⟨s,v,d⟩:=qot a b S U
   have vn:List.drop (i*2+1) cs=.int .u64 (b:Int)::cs.drop (i*2+2):=by
    rw[<-ky,x];rfl
   have L:16*i+16<=140737488355328:=wC;rcases M with⟨m,rfl,g⟩|⟨m,p,J,H',rfl,g⟩|⟨m,H',rfl,g⟩
   .simp[w,u,g,o,j,x,d,F,qF,v];exact⟨i+1,wC,wC,wC,s,wC,wC,rfl,wC⟩
   .simp[w,u,g,o,j,x,d,F,qF,v,c,L];exact⟨i+1,wC,wC,wC,l++s,by simp[c,v];omega,wC,wW,wC⟩
   .simp[w,u,g,o,j,x,d,F,qF,v,c,L];exact⟨i+1,wC,wC,wC,l++s,by simp[c,v];omega,wC,wW,wC⟩
  .have j:=zq C;rcases M with⟨m,rfl,g⟩|⟨m,p,J,H',rfl,g⟩|⟨m,H',rfl,g⟩
   .omega
   .have T:i=n:=wC;obtain⟨t,z,y⟩:=r l (n:=16*i) wC wC;have P:List.take (16*i) (qf l)=qf l:=qJ wG;have E:Q9 (16+16*i)=16+16*n:=xl;simp[w,u,g,o,j,c,y];exact⟨t,by rw[z,E],rfl⟩
   .have T:i=n:=wC;obtain⟨t,z,y⟩:=r l (n:=16*i) wC wC;have P:List.take (16*i) (qf l)=qf l:=qJ wG;have E:Q9 (16+16*i)=16+16*n:=xl;simp[w,u,g,o,j,c,y];exact⟨t,by rw[z,E],rfl⟩
theorem qke[MaxL][TxtC](a:Nat)(c:a<18446744073709551616):∃s:List UInt8,s.length=8/\call cx 109 [.vsl false [.int .u64 (a:Int)] 1] []=some (.osl 0 8 0 8 1,[some (qf s)]):=by
 obtain⟨q,h,s,b,rfl⟩:=qdb false [.int .u64 (a:Int)] (qfl ⟨a,rfl,c⟩) wE wE wE;exact⟨s,b,h⟩
theorem qzN[MaxL][TxtC](a b c:Nat)(f:a<18446744073709551616)(d:b<18446744073709551616)(hc:c<18446744073709551616):∃s:List UInt8,s.length=24/\call cx 109 [.vsl false [.int .u64 (a:Int),.int .u64 (b:Int),.int .u64 (c:Int)] 3] []=some (.osl 0 24 0 24 1,[some (qf s)]):=by
 obtain⟨q,h,s,e,rfl⟩:=qdb false [.int .u64 (a:Int),.int .u64 (b:Int),.int .u64 (c:Int)] (qaZ ⟨a,rfl,f⟩ (qaZ ⟨b,rfl,d⟩ (qfl ⟨c,rfl,hc⟩))) wE wE wE;exact⟨s,e,h⟩
def qb1(a b c:Nat)(d:ID)(x:Nat)(e:Bool)(cs:List D)(n:Nat):List D:=[.int .u64 a,.int .u64 b,.int .u64 c]++(qf d.l++[.int .u64 x,.vsl e cs n])
theorem qyT[MaxL][TxtC](a b c:Nat)(d:ID)(x:Nat)(ha:a<18446744073709551616)(hb:b<18446744073709551616)(hc:c<18446744073709551616)(hx:x<18446744073709551616)(r:Bool)(cs:List D)(n:Nat)(V:JD cs)(hl:cs.length=n*2)(zG:r=true->n=0)(hn:n<=1000):
  ∃q,call cx 104 [.agg (qb1 a b c d x r cs n)] []=some q/\qeG (64+16*n) q:=by
 obtain⟨s3,B,Z⟩:=qzN a b c ha hb hc;obtain⟨s1,S,h1⟩:=qke x hx;have w:d.l.length=16:=d.h;have vN:=qer V;refine Vp (X:=cx) (f:=104) (qeG _) Tryz.func104 rfl ⟨rfl,rfl⟩ ?_;obtain⟨E,o⟩:∃E,E=qb1 a b c d x r cs n:=⟨_,rfl⟩;have e1:E.drop 19=[.int .u64 x,.vsl r cs n]:=by rw[o];simp[qb1,w]
 have e2:E.drop 20=[.vsl r cs n]:=by rw[o];simp[qb1,w,jf]
 have e3:(E.drop 3).take 16=qf d.l:=by rw[o];simp[qb1,w]
 have e4:E=.int .u64 a:: .int .u64 b:: .int .u64 c::E.drop 3:=by rw[o];simp[qb1]
 simp[Tryz.f104,qb1,Z,B,h1,S,w,qF];have e5:(D.int IntKind.u64 (a:Int)::D.int IntKind.u64 (b:Int)::D.int IntKind.u64 (c:Int)::(qf d.l++[D.int IntKind.u64 (x:Int),D.vsl r cs n]))=E:=by rw[o];simp[qb1]
 rw[e5]
 have F:(∀y,y∈E->idFree y=true)=True:=eq_true fun y z=>by
  rw[o] at z;simp[qb1] at z;rcases z with rfl|rfl|rfl|z|rfl|rfl
  .rfl
  .rfl
  .rfl
  .exact List.all_eq_true.1 wE y z
  .rfl
  .rfl
 have G:E.length=21:=by rw[o];simp[qb1,w]
 refine Run.loopThen (fun(i:Nat) e H=>i<=n/\qi e 1=some (.optr 0 21 0)/\qi e 4=some (.int .i64 i)/\∃l m,l.length=m/\m=48+16*i/\((∃p T,H=some E::p::some (qf l)::T/\qi e 3=some (.osl 2 m 0 m 1))\/(∃T,H=some E::some (qf l)::T/\qi e 3=some (.osl 1 m 0 m 1)))) (fun i=>n-i) 0 ?_ ?_
 .refine⟨vg _,wE,wE,s3++(d.l++s1),48,by simp[B,S,w],rfl,.inl ⟨_,_,by simp[qf];exact⟨rfl,rfl⟩,wE⟩⟩
 rintro i e H ⟨hi,J,I,l,m,g,hm,Q⟩;by_cases K:i<n
 .have A:=zn K;have W:=qz ((i:Int)+1) ((i+1:Nat):Int);have R:r=false:=Bool.eq_false_iff.2 fun h=>by have:=zG h;omega
  obtain⟨u,v,L,M,N⟩:=qmq V hl K;obtain⟨s,Y,j⟩:=qot u v L M
  have vn:List.drop (i*2+1) cs=.int .u64 (v:Int)::cs.drop (i*2+2):=by
   rw[<-ky,N];rfl
  have P:m+16<=140737488355328:=wC
  rcases Q with⟨p,T,rfl,k⟩|⟨T,rfl,k⟩
  .simp[J,k,I,A,R,N,j,W,qF,Y,g,P,F,G,e2];exact⟨i+1,wC,wC,wC,l++s,wG,wW,wG⟩
  .simp[J,k,I,A,R,N,j,W,qF,Y,g,P,F,G,e2];exact⟨i+1,wC,wC,wC,l++s,wG,wW,wG⟩
 .have A:=zq K;have Zh:i=n:=by omega
  obtain⟨t,O,C⟩:=qnF 3 wC l (n:=m) g.symm wC;have zV:List.take m (qf l)=qf l:=qJ wG;have U:Q9 (16+m)=64+16*n:=xl
  replace C:call cx 155 [.int .i64 3,.vsl false (qf l) m] []=some (.vsl false (qf t) t.length,[]):=C;rcases Q with⟨p,T,rfl,k⟩|⟨T,rfl,k⟩
  .simp[J,k,I,A,g,C,F,G,e2];exact⟨t,by rw[O,U],rfl⟩
  .simp[J,k,I,A,g,C,F,G,e2];exact⟨t,by rw[O,U],rfl⟩
def qkB(cs:List D):Prop:=∀d,d∈cs->∃s:Sl UInt8,d=(.vsl s.nil (qf s.l) s.l.length)/\s.l.length<1000000
theorem qwa[MaxL][TxtC](b:Bool)(cs:List D)(u:qkB cs)(k:b=true->cs=[])(x:cs.length<=100000):∃q,call cx 105 [.vsl b cs cs.length] []=some q/\qgU q:=by
 refine Vp (X:=cx) (f:=105) qgU Tryz.func105 rfl ⟨rfl,rfl⟩ ?_;simp[Tryz.f105];refine Run.loopThen (fun(i:Nat) e H=>i<=cs.length/\qi e 0=some (.vsl b cs cs.length)/\qi e 4=some (.int .i64 i)/\H=[]/\∃v,jx v/\qi e 3=some (.int .u64 v)) (fun i=>cs.length-i) 0 ?_ ?_
 .exact⟨vg _,wE,wE,rfl,0,by unfold jx;omega,wE⟩
 rintro i e H ⟨hi,j,d,rfl,v,m,g⟩;by_cases a:i<cs.length
 .have c:=zn a;have o:=qz ((i:Int)+1) ((i+1:Nat):Int);have r:b=false:=Bool.eq_false_iff.2 fun h=>by rw[k h] at a;simp at a
  subst r;obtain⟨s,n,w⟩:=u _ (vQ a);have t:cs.drop i=(.vsl s.nil (qf s.l) s.l.length)::cs.drop (i+1):=by rw[zZ a,n]
  have p:=qnv s wC;simp[j,g,d,c,t,p,o];exact⟨i+1,wC,wC,wC,qlZ _ _⟩
 .have c:=zq a;simp[j,g,d,c];exact⟨v,m,rfl⟩
theorem qku[MaxL][TxtC](v:Nat)(a:v<4294967296):∃s:List UInt8,s.length=4/\call cx 108 [.int .u64 v,.int .i64 4] []=some (.vsl false (qf s) 4,[]):=⟨QO 4 v,wE,qkt v 4 wC wC wC⟩
theorem qmn(z:Int):∃c:UInt8,IntKind.u8.wrap z=(c.toNat:Int):=by
 have h:0<=IntKind.u8.wrap z/\IntKind.u8.wrap z<256:=by
  simp only[IntKind.wrap,IntKind.signed,IntKind.bits];simp;omega
 refine⟨UInt8.ofNat (IntKind.u8.wrap z).toNat,?_⟩;rw[qfD (by simp only[UInt8.size];omega)];omega
theorem q6C{R:List D}(h:R.all idFree=true):(∀x,x∈R->idFree x=true)=True:=eq_true (List.all_eq_true.1 h)
def Kp(v0 v1:Nat)(st:Int)(ids:List UInt8)(a:List D)(b c d:Nat):List D:=.int .u32 (v0:Int):: .int .u32 (v1:Int):: .int .i64 st::(qf ids++(a++[.int .u32 (b:Int),.int .u32 (c:Int),.int .u64 (d:Int)]))
structure HdB (st:Int) (v1:Nat) (ns:List D) (s:List UInt8):Prop where
 len:s.length=272
 sign:s.take 8=signL
 inc:Jh s 12=v1
 st:((s.getD 16 0).toNat:Int)=IntKind.u8.wrap st
 n:∀(j v:Nat),j<20->ns[j]?=some (.int .u64 (v:Int))->qU s (88+8*j)=v
theorem q3j[MaxL][TxtC](v0 v1:Nat)(st:Int)(ids:List UInt8)(a:List D)(h g x F:Nat)(h0:v0<4294967296)(h1:v1<4294967296)(U:ids.length=64)(XH:JD a)(p:a.length=20)(h2:h<4294967296)(h3:g<4294967296)(h4:x<18446744073709551616)(I:F<18446744073709551616):
  ∃q,call cx 60 [.agg (Kp v0 v1 st ids a h g x),.int .u64 F] []=some q/\∃s:List UInt8,HdB st v1 a s/\q=(.osl 0 272 0 272 1,[some (qf s)]):=by
 obtain⟨N,d,e0⟩:=qku v0 h0;obtain⟨S,i,e1,f1⟩:∃s:List UInt8,s.length=4/\call cx 108 [.int .u64 v1,.int .i64 4] []=some (.vsl false (qf s) 4,[])/\leN s=v1:=⟨QO 4 v1,wE,qkt v1 4 wC wC wC,by rw[qk0];exact qeE h1⟩;obtain⟨P,l2,e2⟩:=qku h h2;obtain⟨L,l3,e3⟩:=qku g h3;obtain⟨G,Y,e4⟩:=qke x h4;obtain⟨H,ld,ed⟩:=qke F I;obtain⟨q,w,m,ln,an,rfl⟩:=qoq false a XH wE wC wC;rw[p] at w ln an;replace w:call cx 109 [.vsl false a 20] []=some (.osl 0 160 0 160 1,[some (qf m)]):=w;replace ln:m.length=160:=ln;obtain⟨c,hc⟩:=qmn st;have w0:=zg (v0:Int) (v0:Int);have w1:=zg (v1:Int) (v1:Int);have w2:=zg (h:Int) (h:Int);have w3:=zg (g:Int) (g:Int);have K:=qer XH;have fI:=q6C K;have fL:=zfl K;have fC:=zca K;obtain⟨R,hR⟩:∃R:List D,R=[.int .u32 (h:Int),.int .u32 (g:Int),.int .u64 (x:Int)]:=⟨_,rfl⟩;have W:(qf ids).length=64:=by simp[U]
 have y:List.drop 84 (qf ids++(a++R))=R:=by rw[show(84:Nat)=64+20 by rfl,<-ky,KH W,KH p]
 have T:List.drop 85 (qf ids++(a++R))=R.drop 1:=by rw[show(85:Nat)=84+1 by rfl,<-ky,y]
 have d2:List.drop 86 (qf ids++(a++R))=R.drop 2:=by rw[show(86:Nat)=84+2 by rfl,<-ky,y]
 have Z:List.drop 64 (qf ids++(a++R))=a++R:=KH W;have V:List.take 20 (a++R)=a:=List.take_left' p
 have t:∀k,k+16<=64->List.take 16 (List.drop k (qf ids++(a++R)))=qf ((ids.drop k).take 16):=by
  intro k hk;rw[List.drop_append_of_le_length wC,List.take_append_of_le_length wv];simp[qf]
 have A:=t 0 wC;have C:=t 16 wC;have M:=t 32 wC;have O:=t 48 wC;rw[List.drop_zero] at A;obtain⟨r,l⟩:∃b,b=(ids.drop 0).take 16:=⟨_,rfl⟩;obtain⟨u,JR⟩:∃b,b=(ids.drop 16).take 16:=⟨_,rfl⟩;obtain⟨z,vG⟩:∃b,b=(ids.drop 32).take 16:=⟨_,rfl⟩;obtain⟨o,n⟩:∃b,b=(ids.drop 48).take 16:=⟨_,rfl⟩;have Q:r.length=16:=by rw[l,jj,vr];omega
 have E:u.length=16:=by rw[JR,jj,vr];omega
 have J:z.length=16:=by rw[vG,jj,vr];omega
 have B:o.length=16:=by rw[n,jj,vr];omega
 rw[<-l] at A;rw[<-JR] at C;rw[<-vG] at M;rw[<-n] at O;rw[hR] at y T d2 Z V A C M O;refine Vp (X:=cx) (f:=60) (fun q=>∃s:List UInt8,HdB st v1 a s/\q=(.osl 0 272 0 272 1,[some (qf s)])) Tryz.func60 rfl ⟨rfl,rfl⟩ ?_;simp[Tryz.f60,Kp,U,p,w0,w1,w2,w3,e0,e1,e2,e3,e4,ed,w,d,i,l2,l3,Y,ld,ln,hc,qF,fI,fC,y,T,d2,Z,V,A,C,M,O,Q,E,J,B,qJ];refine⟨[76,80,75,83,72,72,82,72]++(N++(S++([c,0,0,0,0,0,0,0]++(r++(u++(z++(o++(m++(H++(P++(L++G))))))))))),⟨by simp[d,i,l2,l3,Y,ld,ln,Q,E,J,B],rfl,?_,?_,fun j v hj hv=>?_⟩,?_⟩
 .unfold Jh;rw[<-jY,KH xU,List.take_left' i,f1]
 .rw[<-jY,<-jY,jv,jn (by simp[d,i])];simp[d,i,hc]
 .have e:[76,80,75,83,72,72,82,72]++(N++(S++([c,0,0,0,0,0,0,0]++(r++(u++(z++(o++(m++(H++(P++(L++G)))))))))))=([76,80,75,83,72,72,82,72]++(N++(S++([c,0,0,0,0,0,0,0]++(r++(u++(z++o)))))))++(m++(H++(P++(L++G)))):=by simp
  unfold qU;rw[e,<-ky,KH (by simp[d,i,Q,E,J,B]),List.drop_append_of_le_length wC,List.take_append_of_le_length wv];exact an j v wC hv
 .simp[qf]
theorem jC{l:List D}{i:Nat}{x:D}(h:l[i]?=some x):l.drop i=x::l.drop (i+1):=by
 obtain⟨hi,hx⟩:=List.getElem?_eq_some_iff.1 h;rw[zZ hi,hx]
theorem QI(H:qe)(i:Nat)(x y:List D):qn (qn H i x) i y=qn H i y:=by
 unfold qn;rw[List.set_set]
theorem qdq{H:qe}{i:Nat}{x:List D}(h:qd H i=some x):qn H i x=H:=by
 unfold qn;have hi:=qx h;unfold qd at h;rw[qN hi] at h;apply List.ext_getElem
 .simp
 .intro j c b;rw[List.getElem_set];split
  .rename_i a;subst a;exact h.symm
  .rfl
theorem q1H{H:qe}{q:Nat}{m:Jm}(h:JmW H q m){b:List UInt8}(f:b.length=m.b.length):JmW (qn H m.bi (qf b)) q {m with b:=b}:=by
 have a:=h.nodup;have g:∀i,i∈m.names q->i≠m.bi->qd (qn H m.bi (qf b)) i=qd H i:=fun i _ hi=>zW hi
 have c:q≠m.bi:=by
  intro e;unfold Jm.names at a;rw[e] at a;simp at a
 have hD:∀i,i∈m.Ld->i∉[m.bi]:=by
  intro i hi e;rw[List.mem_singleton.1 e] at hi;unfold Jm.names at a;simp only[List.nodup_cons,jI,vj] at a;exact a.2.1 (.inl hi)
 have d:∀i,i∈m.Lf->i∉[m.bi]:=by
  intro i hi e;rw[List.mem_singleton.1 e] at hi;unfold Jm.names at a;simp only[List.nodup_cons,jI,vj] at a;exact a.2.1 (.inr hi)
 exact{h with
  root:=by rw[zW c];exact h.root
  c143:=by rw[h.c143];simp only;rw[f]
  bytes:=zk (qx h.bytes)
  rowD:=h.rowD.ext (Ext.set H m.bi _) hD
  rowF:=h.rowF.ext (Ext.set H m.bi _) d}
theorem q1z[MaxL][TxtC]{H:qe}{q:Nat}{m:Jm}(h:JmW H q m)(a v:Nat)(S:a+8<=m.b.length)(O:m.b.length<=1000000):
  ∃b,call cx 107 [.optr q 147 0,.int .u64 a,.int .u64 v] H=some (.tup [],qn H m.bi (qf b))/\b.length=m.b.length:=by
 have hc:=jC h.c143
 have F:q≠m.bi:=by
  intro e;have k:=h.nodup;unfold Jm.names at k;rw[e] at k;simp at k
 have L:∀x,qd (qn H m.bi x) q=some m.cs:=fun x=>by rw[zW F];exact h.root
 have A:∀x,qd (qn H m.bi x) m.bi=some x:=fun x=>zk (qx h.bytes);have w:=h.len
 obtain⟨r,E,b,rfl,j⟩:∃r,call cx 107 [.optr q 147 0,.int .u64 a,.int .u64 v] H=some r/\∃b:List UInt8,r=(.tup [],qn H m.bi (qf b))/\b.length=m.b.length:=by
  refine vz (X:=cx) (f:=107) _ Tryz.func107 rfl ⟨rfl,rfl⟩ ?_;simp[-qd,-qn,-qr,Tryz.f107];refine Run.loopThen (fun(i:Nat) e K=>i<=8/\qi e 0=some (.optr q 147 0)/\qi e 1=some (.int .u64 a)/\qi e 2=some (.int .u64 v)/\qi e 6=some (.int .i64 i)/\∃b:List UInt8,b.length=m.b.length/\K=qn H m.bi (qf b)) (fun i=>8-i) 0 ?_ ?_
  .exact⟨wC,wE,wE,wE,wE,m.b,rfl,(qdq h.bytes).symm⟩
  rintro i e K ⟨hi,t,p,s,o,b,j,rfl⟩;by_cases Q:i<8
  .have n:(i:Int)<8:=wC;have J:=qz ((i:Int)+1) ((i+1:Nat):Int);have C:=zg (i:Int) (i:Int);obtain⟨z,R⟩:∃z:Nat,z=8*i:=⟨_,rfl⟩;obtain⟨y,N⟩:∃y:Nat,y=a+i:=⟨_,rfl⟩;have I:=zg ((a:Int)+(i:Int)) (y:Int);have B:=qz (8*(i:Int)) (z:Int);have u:=zg (z:Int) (z:Int);have G:¬(z:Int)<0:=wC;have P:y<m.b.length:=wC;have d:(y:Int)<(m.b.length:Int):=wC;have M:¬(y:Int)<0:=wC;have g:y+1<=m.b.length:=wC;obtain⟨c,l⟩:=qmn ((v:Int).fdiv (2^min z IntKind.u64.bits));simp[-qd,-qn,-qr,t,p,s,o,n,J,C,I,B,u,G,L,A,w,hc,j,d,QI,l,g];exact⟨i+1,wC,wC,wC,b.take y++c::b.drop (y+1),wG,wW⟩
  .have n:¬(i:Int)<8:=wC;simp[-qd,-qn,-qr,t,p,s,o,n];exact⟨b,rfl,j⟩
 exact⟨b,E,j⟩
theorem qaX[MaxL][TxtC]{H:qe}{q:Nat}{m:Jm}(h:JmW H q m)(c:m.Ok)(a v:Nat)(e:a+8<=m.b.length):
  ∃T b,call cx 107 [.optr q 147 0,.int .u64 a,.int .u64 v] H=some (.tup [],T)/\b.length=m.b.length/\JmW T q {m with b:=b}/\Jm.Ok {m with b:=b}/\Ext [m.bi] H T/\T.length=H.length:=by
 obtain⟨b,hc,d⟩:=q1z h a v e c.bmax;refine⟨_,b,hc,d,q1H h d,?_,Ext.set H m.bi _,by simp[qn]⟩
 exact{c with
  bl:=by simp only;rw[d];exact c.bl
  bmod:=by simp only;rw[d];exact c.bmod
  bmax:=by simp only;rw[d];exact c.bmax
  da:=by simp only;rw[d];exact c.da
  fi:=by simp only;rw[d];exact c.fi
  main:=by simp only;rw[d];exact c.main}
theorem vu{l:List D}{i:Nat}{d:D}(h:i<l.length):List.take i l++d::List.drop (i+1) l=l.set i d:=by
 rw[qgW,if_pos h]
theorem qbG{l:List D}{i j:Nat}{d x:D}(a:i≠j)(h:l[j]?=some x):(l.set i d)[j]?=some x:=by rw[List.getElem?_set_ne a,h]
def qkU(i:Nat):Bool:=(decide (119<=i)&&decide (i<139)&& !([119,121,122,123,124,127,128].contains i))||decide (i=141)||decide (i=142)
theorem q3T{i:Nat}(h:qkU i=true):119<i/\i<143/\i≠121/\i≠122/\i≠123/\i≠124/\i≠127/\i≠128/\i≠139/\i≠140:=by
 unfold qkU at h;simp at h;omega
theorem KU{H:qe}{q:Nat}{m:Jm}(h:JmW H q m):m.bi≠q/\q∉m.Ld/\q∉m.Lf:=by
 have a:=h.nodup;unfold Jm.names at a;simp only[List.nodup_cons,jI,vj,not_or] at a;exact⟨fun e=>a.1.1 e.symm,a.1.2.1,a.1.2.2⟩
theorem XA{H:qe}{q:Nat}{m:Jm}(h:JmW H q m){i:Nat}(hi:qkU i=true){d:D}(n:isU d):JmW (qn H q (m.cs.set i d)) q {m with cs:=m.cs.set i d}:=by
 obtain⟨J,F,I,E,K,A,G,L,C,B⟩:=q3T hi;obtain⟨w,z,y⟩:=KU h;have p:i<m.cs.length:=xL
 have f:∀{j:Nat}{x:D},i≠j->m.cs[j]?=some x->(m.cs.set i d)[j]?=some x:=fun k hx=>qbG k hx
 exact{h with
  root:=zk (qx h.root)
  len:=xJ
  file:=xI
  c48:=f wC h.c48
  c49:=f wC h.c49
  c50:=f wC h.c50
  c51:=f wC h.c51
  c52:=f wC h.c52
  c53:=f wC h.c53
  c54:=f wC h.c54
  ids:=by
   obtain⟨a,b,c,e,t⟩:=h.ids;refine⟨a,b,c,e,?_⟩;simp only;rw[List.drop_set,if_neg wC,List.take_set_of_le wC];exact t
  c119:=f wC h.c119
  c121:=f wC h.c121
  c122:=f wC h.c122
  c123:=f wC h.c123
  c124:=f wC h.c124
  c127:=f wC h.c127
  c128:=f wC h.c128
  nums:=fun j s u=>by
   by_cases g:i=j
   .subst g;exact⟨d,yT,n⟩
   .obtain⟨x,hx,l⟩:=h.nums j s u;exact⟨x,f g hx,l⟩
  c139:=by obtain⟨v,o,r⟩:=h.c139;exact⟨v,f wC o,r⟩
  c140:=by obtain⟨v,o,r⟩:=h.c140;exact⟨v,f wC o,r⟩
  c141:=by
   by_cases g:i=141
   .subst g;exact⟨d,yT,n⟩
   .obtain⟨x,hx,l⟩:=h.c141;exact⟨x,f g hx,l⟩
  c142:=by
   by_cases g:i=142
   .subst g;exact⟨d,yT,n⟩
   .obtain⟨x,hx,l⟩:=h.c142;exact⟨x,f g hx,l⟩
  c143:=f wC h.c143
  c144:=f wC h.c144
  c145:=f wC h.c145
  c146:=f wC h.c146
  free:=qcz h.free (fun _=>qk8 n)
  bytes:=by rw[zW w];exact h.bytes
  rowD:=h.rowD.ext (Ext.set H q _) (fun j k e=>z yE)
  rowF:=h.rowF.ext (Ext.set H q _) (fun j k e=>y yE)}
theorem q1G{H:qe}{q:Nat}{m:Jm}(h:JmW H q m)(x:List UInt8){n:Nat}(A:n=m.b.length+x.length):JmW (qn (qn H m.bi (qf (m.b++x))) q (m.cs.set 143 (.osl m.bi n 0 n 1))) q {m with b:=m.b++x,cs:=m.cs.set 143 (.osl m.bi n 0 n 1)}:=by
 obtain⟨F,E,G⟩:=KU h;have g:=h.nodup;unfold Jm.names at g;simp only[List.nodup_cons,jI,vj,not_or] at g;have B:143<m.cs.length:=xL
 have f:∀{j:Nat}{y d:D},143≠j->m.cs[j]?=some y->(m.cs.set 143 d)[j]?=some y:=fun l i=>qbG l i;have I:m.bi<H.length:=qx h.bytes;have r:q<H.length:=qx h.root;have z:Ext [m.bi] H (qn H m.bi (qf (m.b++x))):=Ext.set H _ _;have e2:Ext [q] (qn H m.bi (qf (m.b++x))) (qn (qn H m.bi (qf (m.b++x))) q (m.cs.set 143 (.osl m.bi n 0 n 1))):=Ext.set _ _ _
 have w:∀{k:Nat}{v:D}{cs:List D}{L:List Nat},m.bi∉L->q∉L->RowA H k v cs L->RowA (qn (qn H m.bi (qf (m.b++x))) q (m.cs.set 143 (.osl m.bi n 0 n 1))) k v cs L:=fun p u r=>
  (r.ext z (fun j l e=>p xZ)).ext e2 (fun j l e=>u xZ)
 exact{h with
  root:=zk (by simp[qn];exact r)
  len:=xJ
  file:=xI
  c48:=f wC h.c48
  c49:=f wC h.c49
  c50:=f wC h.c50
  c51:=f wC h.c51
  c52:=f wC h.c52
  c53:=f wC h.c53
  c54:=f wC h.c54
  ids:=by
   obtain⟨a,b,c,e,C⟩:=h.ids;refine⟨a,b,c,e,?_⟩;simp only;rw[List.drop_set,if_neg wC,List.take_set_of_le wC];exact C
  c119:=f wC h.c119
  c121:=f wC h.c121
  c122:=f wC h.c122
  c123:=f wC h.c123
  c124:=f wC h.c124
  c127:=f wC h.c127
  c128:=f wC h.c128
  nums:=fun j p u=>by
   obtain⟨y,i,o⟩:=h.nums j p u;exact⟨y,f wC i,o⟩
  c139:=by obtain⟨v,s,t⟩:=h.c139;exact⟨v,f wC s,t⟩
  c140:=by obtain⟨v,s,t⟩:=h.c140;exact⟨v,f wC s,t⟩
  c141:=by obtain⟨y,i,o⟩:=h.c141;exact⟨y,f wC i,o⟩
  c142:=by obtain⟨y,i,o⟩:=h.c142;exact⟨y,f wC i,o⟩
  c143:=by simp only;rw[List.getElem?_set_self B,A,zp]
  c144:=f wC h.c144
  c145:=f wC h.c145
  c146:=f wC h.c146
  free:=qcz h.free (fun hi=>wC)
  bytes:=by rw[zW F];exact zk I
  rowD:=w g.2.1.1 E h.rowD
  rowF:=w g.2.1.2 G h.rowF}
theorem q1L{m:Jm}(h:m.Ok){x:List UInt8}{cs:List D}(f:x.length % 8=0)(e:m.b.length+x.length<=1000000):Jm.Ok {m with b:=m.b++x,cs:=cs}:=by
 have d:(m.b++x).length=m.b.length+x.length:=zp;have a:m.b.length<=(m.b++x).length:=wC
 have:=h.bl;have:=h.bmod
 exact{h with
  bl:=wJ
  bmod:=wJ
  bmax:=wJ
  da:=fun k c=>(h.da k c).mono a
  fi:=fun k c=>(h.fi k c).mono a
  main:=h.main.mono a}
theorem qhQ[MaxL][TxtC]{H:qe}{q:Nat}{m:Jm}(h:JmW H q m)(I:m.Ok)(x:List UInt8)(P:x.length % 8=0)(S:m.b.length+x.length<=1000000):
  ∃T cs,call cx 103 [.optr q 147 0,.vsl false (qf x) x.length] H=some (.int .u64 (m.b.length:Nat),T)/\JmW T q {m with b:=m.b++x,cs:=cs}/\Jm.Ok {m with b:=m.b++x,cs:=cs}/\Ext [q,m.bi] H T/\T.length=H.length:=by
 obtain⟨n,c⟩:∃n,n=m.b.length+x.length:=⟨_,rfl⟩;have M:=q1G h x c;have W:isU (.int .u64 ((m.b.length:Nat):Int)):=⟨_,rfl,wC⟩;have k:=XA M (i:=125) rfl W;obtain⟨z,Kp,f,rfl,R⟩:=k.nums 126 wC wC
 have E:isU (.int .u64 (IntKind.u64.wrap ((f:Int)+1))):=by
  have v:=qdV ((f:Int)+1);unfold jx at v;exact⟨(IntKind.u64.wrap ((f:Int)+1)).toNat,by rw[Int.toNat_of_nonneg v.1],wC⟩
 have w3:=XA k (i:=126) rfl E;simp only[QI] at k w3 Kp;obtain⟨Q,q2,Z⟩:=KU h;have t:=h.len;have hc:=jC h.c143;have j:=qx h.root;have o:=qx h.bytes;have u:=h.root;have U:=h.bytes;have g:qf m.b++qf x=qf (m.b++x):=wW
 obtain⟨d,r⟩:∃C,C=m.cs.set 143 (.osl m.bi n 0 n 1):=⟨_,rfl⟩;have X:List.take 143 m.cs++D.osl m.bi n 0 n 1::List.drop 144 m.cs=d:=by rw[r];exact vu wC
 have y:d.length=147:=by rw[r,vI];exact t
 obtain⟨e,s⟩:∃C,C=d.set 125 (.int .u64 ((m.b.length:Nat):Int)):=⟨_,rfl⟩;have O:List.take 125 d++D.int .u64 ((m.b.length:Nat):Int)::List.drop 126 d=e:=by rw[s];exact vu wC
 have N:e.length=147:=by rw[s,vI];exact y
 obtain⟨p,w⟩:∃C,C=e.set 126 (.int .u64 (IntKind.u64.wrap ((f:Int)+1))):=⟨_,rfl⟩;have J:List.take 126 e++D.int .u64 (IntKind.u64.wrap ((f:Int)+1))::List.drop 127 e=p:=by rw[w];exact vu wC
 rw[<-r] at w3 Kp;rw[<-s] at w3 Kp;rw[<-w] at w3;have z:=jC Kp;obtain⟨B,V⟩:∃B,B=qf (m.b++x):=⟨_,rfl⟩;rw[<-V] at g w3;obtain⟨K,a⟩:∃K,K=qn H m.bi B:=⟨_,rfl⟩;have F:qd K q=some m.cs:=by rw[a,zW Q.symm];exact u
 have L:∀C,qd (qn K q C) q=some C:=fun C=>zk (by rw[a];simpa[qn] using j);rw[<-a] at w3;have A:=zg ((m.b.length:Nat):Int) ((m.b.length:Nat):Int);have l:m.bi<K.length:=by rw[a];simpa[qn] using o
 have G:n<=140737488355328:=wC
 have Y:m.b.length+x.length<=140737488355328:=wC
 refine⟨qn K q p,p,jy Tryz.func103 rfl ⟨rfl,rfl⟩ ?_,w3,q1L I P S,?_,by rw[a];simp[qn]⟩
 .simp[-qd,-qn,-qr,Tryz.f103,u,U,t,hc,g,c.symm,a.symm,F,L,X,O,J,y,N,z,A,G,qF,QI,l]
 .refine⟨by rw[a];simp[qn],fun i hi c=>?_⟩;simp only[jI,List.not_mem_nil,or_false,not_or] at c;rw[zW c.1,a,zW c.2]
theorem qdh{l:List Kn}{i:Nat}(hi:i<l.length):∃(k:Kn)(r:List D),k∈l/\(qt l).drop (i*5)=.str k.text:: .int .u64 (k.at_:Nat):: .int .i64 (k.slot:Nat):: .int .i64 (k.cnt:Nat):: .vsl k.nil (qP .u64 k.arrs) k.arrs.length::r/\l[i]?=some k/\(qt l).drop (i*5+1)=.int .u64 (k.at_:Nat):: .int .i64 (k.slot:Nat):: .int .i64 (k.cnt:Nat):: .vsl k.nil (qP .u64 k.arrs) k.arrs.length::r/\(qt l).drop (i*5+2)=.int .i64 (k.slot:Nat):: .int .i64 (k.cnt:Nat):: .vsl k.nil (qP .u64 k.arrs) k.arrs.length::r:=by
 have h:=XW (n:=5) (α:=Kn) rfl hi;rw[Kn.cells] at h;refine⟨l[i],_,vQ hi,h,qN hi,?_,?_⟩
 .rw[<-ky,h];rfl
 .rw[<-ky,h];rfl
theorem qs0[MaxL][TxtC]{H:qe}{q:Nat}{m:Jm}(h:JmW H q m)(Y:m.Ok){v:D}{ks:List Kn}{L:List Nat}(w:RowA H 5 v (qt ks) L)(ae:∀k,k∈ks->k.at_+40<=m.b.length)(aj:ks.length<=1000)
  (A at_ p:Nat) (ht:A+16*p+16<=m.b.length) (_:at_<18446744073709551616):
  ∃T b r,call cx 160 [.optr q 147 0,v,.int .u64 A,.int .u64 at_,.int .i64 p] H=some (.int .u64 (r:Nat),T)/\r<18446744073709551616/\b.length=m.b.length/\JmW T q {m with b:=b}/\Jm.Ok {m with b:=b}/\Ext [m.bi] H T/\T.length=H.length:=by
 have kF:=Y.bmax
 suffices hs:∃r,call cx 160 [.optr q 147 0,v,.int .u64 A,.int .u64 at_,.int .i64 p] H=some r/\∃(n:Nat)(T:qe)(b:List UInt8),r=(.int .u64 (n:Nat),T)/\n<18446744073709551616/\b.length=m.b.length/\JmW T q {m with b:=b}/\Jm.Ok {m with b:=b}/\Ext [m.bi] H T/\T.length=H.length by
  obtain⟨r,hc,n,T,b,rfl,h1,h2,h3,h4,h5,h6⟩:=hs;exact⟨T,b,n,hc,h1,h2,h3,h4,h5,h6⟩
 refine vz (X:=cx) (f:=160) _ Tryz.func160 rfl ⟨rfl,rfl⟩ ?_;simp[-qd,-qn,-qr,Tryz.f160];refine Run.loopThen (fun(i:Nat) e K=>i<=ks.length/\qi e 0=some (.optr q 147 0)/\qi e 1=some v/\qi e 2=some (.int .u64 A)/\qi e 3=some (.int .u64 at_)/\qi e 4=some (.int .i64 p)/\qi e 13=some (.int .i64 i)/\K=H/\∃n last:Nat,n<=i/\(0<n->last+40<=m.b.length)/\qi e 11=some (.int .u64 n)/\qi e 12=some (.int .u64 last)) (fun i=>ks.length-i) 0 ?_ ?_
 .exact⟨vg _,wE,wE,wE,wE,wE,wE,rfl,0,0,qA _,fun h=>absurd h wC,wE,wE⟩
 rintro i e K ⟨hi,N,I,M,C,G,l,rfl,n,last,hn,a,g,j⟩;by_cases W:i<ks.length
 .have J:=zn W;have hw:=qz ((i:Int)+1) ((i+1:Nat):Int);obtain⟨k,r,Kk,vF,vC,Zw,vn⟩:=qdh W;have ag:=ae k Kk;have qQ:qt ks≠[]:=fun e0=>by rw[e0] at vF;simp at vF
  obtain⟨ro,V,rfl,B,R,rfl⟩:=w.own qQ
  have ji:V=ks.length:=by
   have:=ZZ ks;rw[this] at B;simp at B;omega
  subst ji;have zA:(qt ks).length=ks.length*5:=wE
  have aa:=zg ((n:Int)+1) ((n+1:Nat):Int);by_cases kv:k.slot=p
  .simp[-qd,-qn,-qr,N,I,M,C,G,g,j,l,J,hw,aa,R,zA,Zw,vn,kv];exact⟨i+1,wC,wC,wC,n+1,wC,k.at_,fun _=>ag,wC,rfl⟩
  .have E:¬(k.slot:Int)=(p:Int):=wC;simp[-qd,-qn,-qr,N,I,M,C,G,g,j,l,J,hw,R,zA,vn,E];exact⟨i+1,wC,wC,wC,n,wC,last,a,rfl,rfl⟩
 .have J:=zq W;obtain⟨y,hy⟩:∃y:Nat,y=A+16*p:=⟨_,rfl⟩;obtain⟨x,hx⟩:∃x:Nat,x=16*p:=⟨_,rfl⟩;have w1:=qz (16*(p:Int)) (x:Int);have S:=zg (x:Int) (x:Int);have w3:=zg ((A:Int)+(x:Int)) (y:Int);obtain⟨y8,ai⟩:∃z:Nat,z=y+8:=⟨_,rfl⟩;have Q:=zg ((y:Int)+8) (y8:Int);obtain⟨s,ah⟩:∃z:Nat,z=last+24:=⟨_,rfl⟩
  have w5:0<n->IntKind.u64.wrap ((last:Int)+24)=(s:Int):=fun d=>by
   have:=a d;rw[qaF]<;>omega
  have o:∃t u a1,a1=(if n=0 then y else s)/\call cx 107 [.optr q 147 0,.int .u64 (a1:Nat),.int .u64 at_] K=some (.tup [],t)/\u.length=m.b.length/\JmW t q {m with b:=u}/\Jm.Ok {m with b:=u}/\Ext [m.bi] K t/\t.length=K.length:=by
   by_cases d:n=0
   .obtain⟨t,u,Z⟩:=qaX h Y y at_ wC
    exact⟨t,u,y,by rw[if_pos d],Z⟩
   .have:=a wC;obtain⟨t,u,Z⟩:=qaX h Y s at_ wC
    exact⟨t,u,s,by rw[if_neg d],Z⟩
  obtain⟨t,u,a1,c,U,JR,W1,O1,E1,L1⟩:=o;obtain⟨T2,b2,c2,vG,W2,O,P,L2⟩:=qaX W1 O1 y8 at_ wJ
  simp only at W2 O P vG;rcases w with⟨rfl,V7,rfl⟩|⟨ro,V,rfl,B,R,rfl⟩
  .have F:¬(i:Int)<0:=by omega
   have h0:ks.length=0:=by
    have:=ZZ ks;rw[V7] at this;simp at this;omega
   by_cases d:n=0
   .rw[if_pos d] at c;subst d c;simp[-qd,-qn,-qr,N,I,M,C,G,g,j,l,w1,S,w3,Q,U,c2,F];exact⟨0,T2,⟨rfl,rfl⟩,wC,b2,wC,W2,O,E1.trans P (NewL.refl _ _),wC⟩
   .omega
  .have ji:V=ks.length:=by
    have:=ZZ ks;rw[this] at B;simp at B;omega
   subst ji;by_cases d:n=0
   .rw[if_pos d] at c;subst d c;simp[-qd,-qn,-qr,N,I,M,C,G,g,j,l,J,w1,S,w3,Q,U,c2];exact⟨0,T2,⟨rfl,rfl⟩,wC,b2,wC,W2,O,E1.trans P (NewL.refl _ _),wC⟩
   .rw[if_neg d] at c;subst c;have vi:¬(n:Int)=0:=wC;have ac:=w5 wC;simp[-qd,-qn,-qr,N,I,M,C,G,g,j,l,J,w1,S,w3,Q,ac,U,c2,d];exact⟨n,T2,⟨rfl,rfl⟩,wC,b2,wC,W2,O,E1.trans P (NewL.refl _ _),wC⟩
theorem q1J{H T:qe}{q:Nat}{m:Jm}(h:JmW H q m)(k:Kn){v:D}{L:List Nat}(B:RowA T 5 v (qt (m.fi++[k])) L)(p:Ext m.Lf H T)(t:NewL m.Lf L H.length):JmW (qn T q (m.cs.set 145 v)) q {m with fi:=m.fi++[k],fv:=v,Lf:=L,cs:=m.cs.set 145 v}:=by
 obtain⟨C,E,P⟩:=KU h;have o:=h.nodup;unfold Jm.names at o;simp only[List.nodup_cons,jI,vj,not_or,List.nodup_append] at o;obtain⟨n1,n2,n3,n4,n5⟩:=o;have G:145<m.cs.length:=xL
 have f:∀{j:Nat}{y d:D},145≠j->m.cs[j]?=some y->(m.cs.set 145 d)[j]?=some y:=fun l g=>qbG l g;have I:=qx h.root;have O:=qx h.bytes;have z:q<T.length:=p.lt I;have A:q∉L:=fun hc=>(t q hc).elim P wC;have J:m.bi∉L:=fun hc=>(t _ hc).elim n2.2 wC;have e2:Ext [q] T (qn T q (m.cs.set 145 v)):=Ext.set _ _ _;have S:∀i,i∈m.Ld->i∉L:=fun i hi hc=>(t i hc).elim (fun Q=>n5 i hi i Q rfl) (fun U=>absurd (h.rowD.lt hi) wC);have K:∀i,i∈m.Ld->i∉m.Lf:=fun i hi hc=>n5 i hi i hc rfl
 have x:L.Nodup:=by
  rcases B with⟨_,_,rfl⟩|⟨r,n,_,_,_,rfl⟩
  .simp
  .simp
 exact{h with
  root:=zk z
  len:=xJ
  file:=xI
  ids:=by
   obtain⟨a,b,c,e,p⟩:=h.ids;refine⟨a,b,c,e,?_⟩;simp only;rw[List.drop_set,if_neg wC,List.take_set_of_le wC];exact p
  nums:=fun j F M=>by
   obtain⟨y,g,s⟩:=h.nums j F M;exact⟨y,f wC g,s⟩
  c139:=by obtain⟨v,u,w⟩:=h.c139;exact⟨v,f wC u,w⟩
  c140:=by obtain⟨v,u,w⟩:=h.c140;exact⟨v,f wC u,w⟩
  c141:=by obtain⟨y,g,s⟩:=h.c141;exact⟨y,f wC g,s⟩
  c142:=by obtain⟨y,g,s⟩:=h.c142;exact⟨y,f wC g,s⟩
  c48:=f wC h.c48
  c49:=f wC h.c49
  c50:=f wC h.c50
  c51:=f wC h.c51
  c52:=f wC h.c52
  c53:=f wC h.c53
  c54:=f wC h.c54
  c119:=f wC h.c119
  c121:=f wC h.c121
  c122:=f wC h.c122
  c123:=f wC h.c123
  c124:=f wC h.c124
  c127:=f wC h.c127
  c128:=f wC h.c128
  c143:=f wC h.c143
  c144:=f wC h.c144
  c145:=by simp only;rw[List.getElem?_set_self G]
  c146:=f wC h.c146
  free:=qcz h.free (fun hi=>wC)
  bytes:=by rw[zW C];exact p.get h.bytes n2.2
  rowF:=B.ext e2 (fun j l e=>A xZ)
  rowD:=(h.rowD.ext p (fun j l=>K j l)).ext e2 (fun j l e=>E xZ)
  nodup:=by
   unfold Jm.names;simp only[List.nodup_cons,jI,vj,not_or,List.nodup_append];exact⟨⟨fun e=>C e.symm,E,A⟩,⟨n2.1,J⟩,n3,x,fun a N b R e=>S a N (by rw[e];exact R)⟩}
theorem q1K{H T:qe}{q:Nat}{m:Jm}(h:JmW H q m)(k:Kn){v:D}{L:List Nat}(B:RowA T 5 v (qt (m.da++[k])) L)(p:Ext m.Ld H T)(t:NewL m.Ld L H.length):JmW (qn T q (m.cs.set 144 v)) q {m with da:=m.da++[k],dv:=v,Ld:=L,cs:=m.cs.set 144 v}:=by
 obtain⟨C,R,E⟩:=KU h;have o:=h.nodup;unfold Jm.names at o;simp only[List.nodup_cons,jI,vj,not_or,List.nodup_append] at o;obtain⟨n1,n2,n3,n4,n5⟩:=o;have G:144<m.cs.length:=xL
 have f:∀{j:Nat}{y d:D},144≠j->m.cs[j]?=some y->(m.cs.set 144 d)[j]?=some y:=fun l g=>qbG l g;have I:=qx h.root;have O:=qx h.bytes;have z:q<T.length:=p.lt I;have A:q∉L:=fun hc=>(t q hc).elim R wC;have J:m.bi∉L:=fun hc=>(t _ hc).elim n2.1 wC;have e2:Ext [q] T (qn T q (m.cs.set 144 v)):=Ext.set _ _ _;have S:∀i,i∈m.Lf->i∉L:=fun i hi hc=>(t i hc).elim (fun P=>n5 i P i hi rfl) (fun U=>absurd (h.rowF.lt hi) wC);have K:∀i,i∈m.Lf->i∉m.Ld:=fun i hi hc=>n5 i hc i hi rfl
 have x:L.Nodup:=by
  rcases B with⟨_,_,rfl⟩|⟨r,n,_,_,_,rfl⟩
  .simp
  .simp
 exact{h with
  root:=zk z
  len:=xJ
  file:=xI
  ids:=by
   obtain⟨a,b,c,e,p⟩:=h.ids;refine⟨a,b,c,e,?_⟩;simp only;rw[List.drop_set,if_neg wC,List.take_set_of_le wC];exact p
  nums:=fun j F M=>by
   obtain⟨y,g,s⟩:=h.nums j F M;exact⟨y,f wC g,s⟩
  c139:=by obtain⟨v,u,w⟩:=h.c139;exact⟨v,f wC u,w⟩
  c140:=by obtain⟨v,u,w⟩:=h.c140;exact⟨v,f wC u,w⟩
  c141:=by obtain⟨y,g,s⟩:=h.c141;exact⟨y,f wC g,s⟩
  c142:=by obtain⟨y,g,s⟩:=h.c142;exact⟨y,f wC g,s⟩
  c48:=f wC h.c48
  c49:=f wC h.c49
  c50:=f wC h.c50
  c51:=f wC h.c51
  c52:=f wC h.c52
  c53:=f wC h.c53
  c54:=f wC h.c54
  c119:=f wC h.c119
  c121:=f wC h.c121
  c122:=f wC h.c122
  c123:=f wC h.c123
  c124:=f wC h.c124
  c127:=f wC h.c127
  c128:=f wC h.c128
  c143:=f wC h.c143
  c144:=by simp only;rw[List.getElem?_set_self G]
  c145:=f wC h.c145
  c146:=f wC h.c146
  free:=qcz h.free (fun hi=>wC)
  bytes:=by rw[zW C];exact p.get h.bytes n2.1
  rowD:=B.ext e2 (fun j l e=>A xZ)
  rowF:=(h.rowF.ext p (fun j l=>K j l)).ext e2 (fun j l e=>E xZ)
  nodup:=by
   unfold Jm.names;simp only[List.nodup_cons,jI,vj,not_or,List.nodup_append];exact⟨⟨fun e=>C e.symm,A,E⟩,⟨J,n2.2⟩,x,n4,fun a N b Q e=>S b Q (by rw[<-e];exact N)⟩}
structure JGrow (H T:qe) (q:Nat) (m m':Jm):Prop where
 w:JmW T q m'
 ok:m'.Ok
 ext:Ext (m.names q) H T
 new:NewL (m.names q) (m'.names q) H.length
 ds:m'.ds=m.ds
 fs:m'.fs=m.fs
 key:m'.key=m.key
 file:m'.file=m.file
 ft:m'.ft=m.ft
 ne:m'.ne=m.ne
 tl:m'.tl=m.tl
 mn:m'.mn=m.mn
 main:m'.main=m.main
 bl:m.b.length<=m'.b.length
theorem JGrow.refl{H:qe}{q:Nat}{m:Jm}(h:JmW H q m)(a:m.Ok):JGrow H H q m m:=⟨h,a,Ext.refl _ _,NewL.refl _ _,rfl,rfl,rfl,rfl,rfl,rfl,rfl,rfl,rfl,qA _⟩
theorem X9{H T:qe}{q:Nat}{m:Jm}(h:JmW H q m)(a:Ext [] H T):JmW T q m:=
 {h with
  root:=a.get h.root wE
  bytes:=a.get h.bytes wE
  rowD:=h.rowD.ext a (fun _ _=>wE)
  rowF:=h.rowF.ext a (fun _ _=>wE)}
theorem VV{m:Jm}{q:Nat}:q∈m.names q:=by simp[Jm.names]
theorem KR{m:Jm}{q:Nat}:m.bi∈m.names q:=by simp[Jm.names]
theorem qo1{m:Jm}{q i:Nat}(h:i∈m.Lf):i∈m.names q:=by simp[Jm.names,h]
theorem qhB{m:Jm}{q i:Nat}(h:i∈m.Ld):i∈m.names q:=by simp[Jm.names,h]
theorem q1Q[MaxL][TxtC]{H:qe}{q:Nat}{m:Jm}(h:JmW H q m)(Y:m.Ok)(name:List UInt8)(hn:name.length<=1000)(kF:m.b.length+2000<=1000000)(vK:m.fi.length<1000):
  ∃T t a,call cx 161 [.optr q 147 0,.str name] H=some (.int .u64 (a:Nat),T)/\JGrow H T q m t/\a+40<=t.b.length/\t.b.length<=m.b.length+(47+name.length)/\t.da=m.da/\t.fi.length<=m.fi.length+1:=by
 suffices hs:∃r,call cx 161 [.optr q 147 0,.str name] H=some r/\∃(a:Nat)(T:qe)(t:Jm),r=(.int .u64 (a:Nat),T)/\JGrow H T q m t/\a+40<=t.b.length/\t.b.length<=m.b.length+(47+name.length)/\t.da=m.da/\t.fi.length<=m.fi.length+1 by
  obtain⟨r,hc,a,T,t,rfl,U⟩:=hs;exact⟨T,t,a,hc,U⟩
 refine vz (X:=cx) (f:=161) _ Tryz.func161 rfl ⟨rfl,rfl⟩ ?_;have r0:=h.root;have qE:=h.len;have c5:=jC h.c145
 have az:qK Tryz.prog 135 m.fv=some (.int .i64 m.fi.length):=by
  have zA:=ZZ m.fi;rcases h.rowF with⟨hv,V7,_⟩|⟨ro,nn,hv,Q2,_,_⟩
  .rw[V7] at zA;have:m.fi.length=0:=(by simp at zA;omega);rw[hv,this];simp
  .have:nn=m.fi.length:=by
    rw[zA] at Q2;simp at Q2;omega
   rw[hv,this];simp
 simp[-qd,-qn,-qr,-qK,-qG,Tryz.f161];refine Run.loopThen (fun(i:Nat) e K=>i<=m.fi.length/\qi e 0=some (.optr q 147 0)/\qi e 1=some (.str name)/\qi e 5=some (.int .i64 i)/\K=H) (fun i=>m.fi.length-i) 0 ?_ ?_
 .exact⟨vg _,wE,wE,wE,rfl⟩
 rintro i e K ⟨hi,p0,p1,p5,rfl⟩;by_cases qg:i<m.fi.length
 .have qo:=zn qg;have hw:=qz ((i:Int)+1) ((i+1:Nat):Int);obtain⟨k,r,Kk,vF,vC,Zw,vn⟩:=qdh qg;have aJ:=Y.fi k Kk;have qQ:qt m.fi≠[]:=fun e0=>by rw[e0] at vF;simp at vF
  obtain⟨ro,nn,ay,vy,ZW,bj⟩:=h.rowF.own qQ
  have ji:nn=m.fi.length:=by
   have:=ZZ m.fi;rw[this] at vy;simp at vy;omega
  have zA:(qt m.fi).length=m.fi.length*5:=by rw[vy,ji]
  rw[ji] at ay;rw[ay] at c5;by_cases ht:k.text=name
  .simp[-qd,-qn,-qr,-Kn.ea,p0,p1,p5,r0,qE,c5,qo,ZW,zA,vF,Zw,ht];exact⟨k.at_,K,⟨rfl,rfl⟩,m,JGrow.refl h Y,aJ.at_,wC,rfl,wC⟩
  .simp[-qd,-qn,-qr,-Kn.ea,p0,p1,p5,r0,qE,c5,qo,hw,ZW,zA,vF,ht];exact⟨i+1,wC,wC,wC⟩
 .have qo:=zq qg;have bn:=Y.fs;have bp:=Y.ft;have jS:=Y.bl;obtain⟨qh,Xe,xh,JG,rfl⟩:=qka m.key m.file (Sl.mk false name wE) wJ;unfold jx at JG;obtain⟨O,rfl⟩:∃O:Nat,xh=(O:Int):=⟨xh.toNat,wC⟩;have aL:O<18446744073709551616:=by omega
  replace Xe:call cx 102 [.bool m.key,.agg (qf m.file.l),.vsl false (qf name) name.length] []=some (.int .u64 (O:Int),[]):=Xe;obtain⟨qp,ai,tb,bk,rfl⟩:=qyR O 0 0 aL wC wC false name wC;replace ai:call cx 203 [.agg [.int .u64 (O:Int),.int .u64 0,.int .u64 0,.vsl false (qf name) name.length]] []=some (.vsl false (qf tb) tb.length,[]):=ai;have bm:=qiJ (40+name.length);obtain⟨K0,vD⟩:=ql (qr K (qf name));have g0:=js vD;obtain⟨K1,jb⟩:=ql (jT K0 [K.length])
  have x1:Ext [] K K1:=by
   refine⟨?_,fun j hj _=>?_⟩
   .rw[<-jb,QE,<-vD,jg];omega
   .rw[<-jb,VB wG,<-vD,vw hj]
  have w1:=X9 h x1;obtain⟨K2,c,aM,N,o2,x2,l2⟩:=qhQ w1 Y tb wC wC;obtain⟨o,p⟩:∃x,x=({m with b:=m.b++tb,cs:=c}:Jm):=⟨_,rfl⟩;rw[<-p] at N o2;have bf:o.b.length=m.b.length+tb.length:=by rw[p];simp
  have G:o.fi=m.fi:=xH
  have J:o.fv=m.fv:=xH
  have g:o.cs=c:=xH
  have aa:o.fs=m.fs:=xH
  have aR:o.ft=m.ft:=xH
  obtain⟨u,kv⟩:∃s,s=O % m.fs:=⟨_,rfl⟩;have aB:u<m.fs:=by rw[kv];exact YM _ wC
  obtain⟨Z,b3,r,aA,hr,bo,w3,o3,x3,l3⟩:=qs0 N o2 (v:=o.fv) (ks:=o.fi) N.rowF (fun k JL=>by
   rw[G] at JL;have:=(Y.fi k JL).at_;omega) (by rw[G];omega) m.ft m.b.length u wC wC
  rw[J] at aA;have aW:qd K2 q=some c:=by rw[<-g];exact N.root
  have aP:c.length=147:=by rw[<-g];exact N.len
  have aH:=jC N.c49;have E:=w3.c142;have R:=jC N.c123;have Q:=jC N.c145;rw[g,aa] at aH;rw[g,aR] at R;rw[g,J] at Q;simp only[g] at E;obtain⟨_,ag,dv,rfl,bg⟩:=E;have ak:=jC ag;have aD:qd Z q=some c:=by rw[<-g];exact w3.root
  have aX:∀C,qd (qn Z q C) q=some C:=fun C=>zk (qx aD);obtain⟨mx,XK⟩:∃z:Nat,z=max dv r:=⟨_,rfl⟩
  have aZ:(if(dv:Int)<(r:Int) then(r:Int) else(dv:Int))=(mx:Int):=by
   rw[XK];split<;>omega
  have aC:(if dv<r then(r:Int) else(dv:Int))=(mx:Int):=by
   rw[XK];split<;>omega
  have w4:=XA w3 (i:=142) rfl (d:=.int .u64 (mx:Int)) ⟨mx,rfl,wC⟩;simp only[g] at w4;obtain⟨C4,Xo⟩:∃C,C=c.set 142 (.int .u64 (mx:Int)):=⟨_,rfl⟩;have aG:List.take 142 c++D.int .u64 (mx:Int)::List.drop 143 c=C4:=by rw[Xo];exact vu wC
  rw[<-Xo] at w4;have l4:C4.length=147:=w4.len;obtain⟨_,am,ah,rfl,bb⟩:=w4.nums 135 wC wC;have S:=jC am;simp only at S;have V:=qdV ((ah:Int)+1);unfold jx at V;obtain⟨M,hz⟩:∃z:Nat,IntKind.u64.wrap ((ah:Int)+1)=(z:Int):=⟨(IntKind.u64.wrap ((ah:Int)+1)).toNat,by rw[Int.toNat_of_nonneg V.1]⟩;have w5:=XA w4 (i:=135) rfl (d:=.int .u64 (M:Int)) ⟨M,rfl,wC⟩;simp only[QI] at w5;obtain⟨I,Vo⟩:∃C,C=C4.set 135 (.int .u64 (M:Int)):=⟨_,rfl⟩;have aw:List.take 135 C4++D.int .u64 (M:Int)::List.drop 136 C4=I:=yL
  rw[<-Vo] at w5;have l5:I.length=147:=w5.len;have w:=jC w5.c145;simp only[J] at w;obtain⟨K5,kR⟩:=ql (qn Z q I);rw[kR] at w5;have aV:qd K5 q=some I:=w5.root;obtain⟨K6,Qk⟩:=ql (qr K5 [.str name,.int .u64 (m.b.length:Nat),.int .i64 (u:Nat),.int .i64 0,.vsl true [] 0]);have x6:=zJ Qk;have w6:=X9 w5 x6;have g6:=js Qk;have aN:qd K6 q=some I:=w6.root;obtain⟨p6,aF⟩:=ql (K5.length);rw[aF] at g6;have W:=w6.rowF;simp only[G,J] at W;have F:=ZZ m.fi;simp only[Kn.size] at F;obtain⟨v',K7,L7,hA,ac,x7,n7⟩:=W.append (P:=Tryz.prog) (st:=135) (xt:=135) (e:=204) (x:=.osl p6 5 0 1 5) (xs:=[.str name,.int .u64 (m.b.length:Nat),.int .i64 (u:Nat),.int .i64 0,.vsl true [] 0]) (m:=1) wE wE (by simp[-qd,g6]) wE wC wE wC (by rw[F];simp[qF];omega) (by rw[F];simp[qF];omega);obtain⟨kn,Qi⟩:∃k:Kn,k=⟨name,m.b.length,u,0,true,[]⟩:=⟨_,rfl⟩
  have ao:qt (m.fi++[kn])=qt m.fi++[.str name,.int .u64 (m.b.length:Nat),.int .i64 (u:Nat),.int .i64 0,.vsl true [] 0]:=by
   rw[qc3,Qi];rfl
  rw[<-ao] at ac;have ae:Ext o.Lf K6 K7:=x7;have w8:=q1J w6 kn (v:=v') (L:=L7) (by simp only[G];exact ac) ae n7;simp only[G] at w8
  have aQ:qd K7 q=some I:=ae.get aN (by
   have:=(KU w6).2.2;exact this)
  obtain⟨r7,k7,av,-,aO,bq⟩:=ac.own (by rw[ao];simp);obtain⟨z7,aS⟩:∃z,z=(qt (m.fi++[kn])).length:=⟨_,rfl⟩;rw[<-aS] at av;have au:r7<K7.length:=qx aO;subst av;obtain⟨C8,aE⟩:∃C,C=I.set 145 (D.osl r7 z7 0 k7 5):=⟨_,rfl⟩;have ax:List.take 145 I++D.osl r7 z7 0 k7 5::List.drop 146 I=C8:=by rw[aE];exact vu wC
  rw[<-aE] at w8;have e1:=jC h.c51;have e2:=h.file;have aK:=zg (m.fs:Int) (m.fs:Int);have ba:¬(m.fs:Int)=0:=wC
  have aq:¬m.fs=0:=wC
  have aj:K2.length<=Z.length:=wC
  have aI:(O:Int).tmod (m.fs:Int)=(u:Int):=by
   rw[kv,Int.tmod_eq_emod_of_nonneg (Int.natCast_nonneg _)];rfl
  have aU:=qz (u:Int) (u:Int);have bc:=zg (u:Int) (u:Int);have aY:List.set K0 K.length none=K1:=jb;simp[-qd,-qn,-qr,-qK,-qG,-Kn.ea,p0,p1,p5,r0,qE,c5,az,qo,e1,e2,Xe,vD,g0,aY,ai,aM,aW,aP,aH,aK,aq,aI,aU,Q,R,ak,aA,aD,aX,aC,aG,l4,S,hz,aw,l5,w,QI,kR,aV,Qk,aF,hA,aQ,au,ax,aj];have n:∀{A B:qe}{L:List Nat},Ext L A B->(∀i,i∈L->i∈m.names q)->Ext (m.names q) A B:=fun hh hm=>hh.mono hm;have y1:=n x1 (fun _ hi=>wV)
  have y2:=n x2 (fun i hi=>by
   simp only[jI,List.not_mem_nil,or_false] at hi;rcases hi with rfl|rfl
   .exact VV
   .exact KR)
  have y3:=n x3 (fun i hi=>by
   have:o.bi=m.bi:=xH;rw[List.mem_singleton.1 hi,this];exact KR)
  have y5:Ext (m.names q) Z K5:=kR▸n (Ext.set Z q I) (fun i hi=>yF);have y6:=n x6 (fun _ hi=>wV)
  have y7:=n ae (fun i hi=>by
   have:o.Lf=m.Lf:=xH;rw[this] at hi;exact qo1 hi)
  have y8:=n (Ext.set K7 q C8) (fun i hi=>yF);have y:=(((((y1.trans y2 (NewL.refl _ _)).trans y3 (NewL.refl _ _)).trans y5 (NewL.refl _ _)).trans y6 (NewL.refl _ _)).trans y7 (NewL.refl _ _)).trans y8 (NewL.refl _ _);refine⟨m.b.length,_,⟨rfl,rfl⟩,_,⟨w8,?_,y,?_,?_,?_,?_,?_,?_,?_,?_,?_,?_,?_⟩,?_,?_,?_,?_⟩
  .exact{o3 with
    fi:=fun k JL=>by
     rcases List.mem_append.1 JL with U|U
     .have z:=(Y.fi k U).mono (show m.b.length<=b3.length from wC);exact⟨z.at_,by simp only[aa];exact z.slot⟩
     .rw[List.mem_singleton.1 U,Qi];exact⟨wJ,by simp only[aa];exact aB⟩
    nfi:=by simp only;rw[zp,List.length_singleton];omega}
  .intro i hi;have b1:o.bi=m.bi:=xH;have b2:o.Ld=m.Ld:=xH;have b4:o.Lf=m.Lf:=xH;have aT:=x1.len;simp only[Jm.names,b1,b2,jI,vj] at hi⊢;rcases hi with hi|hi|hi|hi
   .exact .inl (.inl hi)
   .exact .inl (.inr (.inl hi))
   .exact .inl (.inr (.inr (.inl hi)))
   .rcases n7 i hi with U|U
    .exact .inl (.inr (.inr (.inr (by rw[<-b4];exact U))))
    .have:=x6.len;have bh:K5.length=Z.length:=(by rw[<-kR];simp[qn]);exact .inr wC
  all_goals first
   |(subst p;rfl)
   |(simp only;omega)
   |(simp only;rw[p])
   |(simp only;rw[zp,List.length_singleton];omega)
theorem q3A[MaxL][TxtC](b:List UInt8)(a:Nat)(J:a+8<=b.length)(F:b.length<=1000000):∃v:Nat,v<18446744073709551616/\call cx 162 [.vsl false (qf b) b.length,.int .i64 a,.int .i64 8] []=some (.tup [.int .u64 (v:Int),.bool true],[]):=by
 suffices q:∃r,call cx 162 [.vsl false (qf b) b.length,.int .i64 a,.int .i64 8] []=some r/\∃v:Int,jx v/\r=(.tup [.int .u64 v,.bool true],[]) by
  obtain⟨r,hc,v,d,rfl⟩:=q;unfold jx at d;exact⟨v.toNat,wC,by rw[hc,Int.toNat_of_nonneg d.1]⟩
 refine Vp (X:=cx) (f:=162) _ Tryz.func162 rfl ⟨rfl,rfl⟩ ?_;have B:¬(a:Int)<0:=wC
 have w:¬(b.length:Int)<(a:Int):=wC
 have h:=qz ((b.length:Int)-(a:Int)) ((b.length-a:Nat):Int);obtain⟨z,s⟩:∃z,z=b.length-a:=⟨_,rfl⟩;rw[<-s] at h;have u:¬(z:Int)<8:=wC
 simp[Tryz.f162,B,w,h,u];refine Run.loopThen (fun(k:Nat) e H=>k<=8/\qi e 0=some (.vsl false (qf b) b.length)/\qi e 1=some (.int .i64 a)/\qi e 9=some (.int .i64 ((k:Int)-1))/\H=[]/\∃v,jx v/\qi e 8=some (.int .u64 v)) (fun k=>k) 8 ?_ ?_
 .exact⟨wC,wE,wE,wE,rfl,0,by unfold jx;omega,wE⟩
 rintro k e H ⟨I,m,l,g,rfl,v,d,i⟩;by_cases C:k=0
 .subst C;simp[m,l,i,g];exact d
 .obtain⟨j,rfl⟩:∃j,k=j+1:=⟨k-1,wC⟩;replace g:qi e 9=some (.int .i64 (j:Int)):=by rw[g];congr 3;omega
  have G:¬(j:Int)<0:=wC
  have p:(0:Int)<=(j:Int):=wC
  obtain⟨y,E⟩:∃y,y=a+j:=⟨_,rfl⟩;have t:=qz ((a:Int)+(j:Int)) (y:Int);have n:=qz ((j:Int)-1) (((j:Nat):Int)-1);have o:y<b.length:=wC
  have x:(y:Int)<(b.length:Int):=wC
  have A:(qf b).drop y=.int .u8 (b[y].toNat:Int)::(qf b).drop (y+1):=by
   rw[zZ (by simpa using o)];simp[qf]
  generalize b[y]=c at *;simp[m,l,i,g,p,t,n,x,A];exact⟨j,wC,wC,rfl,qdV _⟩
theorem JGrow.trans{H T U:qe}{q:Nat}{m c b:Jm}(h:JGrow H T q m c)(a:JGrow T U q c b):JGrow H U q m b:=
 ⟨a.w,a.ok,h.ext.trans a.ext h.new,h.new.trans a.new h.ext.len,a.ds.trans h.ds,a.fs.trans h.fs,a.key.trans h.key,a.file.trans h.file,a.ft.trans h.ft,a.ne.trans h.ne,a.tl.trans h.tl,a.mn.trans h.mn,a.main.trans h.main,zI h.bl a.bl⟩
theorem qde{H:qe}{q:Nat}{m:Jm}(h:JmW H q m){i:Nat}(hi:i∈m.names q):i<H.length:=by
 simp only[Jm.names,jI,vj] at hi;rcases hi with rfl|rfl|hi|hi
 .exact qx h.root
 .exact qx h.bytes
 .exact h.rowD.lt hi
 .exact h.rowF.lt hi
theorem qnU{p:Pr}:(KO p).length=p.name.length+1+p.value.length:=by unfold KO;simp;omega
theorem q2x[MaxL][TxtC]{H:qe}{q:Nat}{m:Jm}(h0:JmW H q m)(hk:m.Ok)(p:Pr)(kL:p.name.length<=300)(Js:p.value.length<=300)(kF:m.b.length+5000<=1000000)(vK:m.fi.length<1000)(bP:m.da.length<1000):
  ∃T t i,call cx 101 [.optr q 147 0,.agg (Enc.cells p)] H=some (.int .i64 (i:Nat),T)/\JGrow H T q m t/\i<t.da.length/\t.b.length<=m.b.length+(119+2*p.name.length+p.value.length)/\t.da.length<=m.da.length+1/\t.fi.length<=m.fi.length+1/\m.da.length<=t.da.length/\∀k,k∈t.da->k∈m.da\/k.cnt=0:=by
 suffices hs:∃r,call cx 101 [.optr q 147 0,.agg (Enc.cells p)] H=some r/\∃(i:Nat)(T:qe)(t:Jm),r=(.int .i64 (i:Nat),T)/\JGrow H T q m t/\i<t.da.length/\t.b.length<=m.b.length+(119+2*p.name.length+p.value.length)/\t.da.length<=m.da.length+1/\t.fi.length<=m.fi.length+1/\m.da.length<=t.da.length/\∀k,k∈t.da->k∈m.da\/k.cnt=0 by
  obtain⟨r,hc,a,T,t,rfl,g⟩:=hs;exact⟨T,t,a,hc,g⟩
 refine vz (X:=cx) (f:=101) _ Tryz.func101 rfl ⟨rfl,rfl⟩ ?_;obtain⟨name,F⟩:=ql (KO p)
 have hn:name.length<=1000:=by
  have:=qnU (p:=p);rw[F] at this;omega
 have Ki:name.length=p.name.length+1+p.value.length:=by rw[<-F];exact qnU
 have O:=qhz p wC wC;rw[F] at O;have aJ:(Enc.cells p:List D)=[.str p.name,.str p.value]:=rfl;rw[aJ] at O;obtain⟨H1,ao⟩:=ql (qr H [.str p.name,.str p.value]);have xb:=zJ ao;have gb:=js ao;have h:=X9 h0 xb;have bb:JGrow H H1 q m m:=⟨h,hk,xb.mono (fun _ hi=>wV),NewL.refl _ _,rfl,rfl,rfl,rfl,rfl,rfl,rfl,rfl,rfl,qA _⟩;have r0:=h.root;have qE:=h.len;have c5:=jC h.c144
 have aN:qK Tryz.prog 135 m.dv=some (.int .i64 m.da.length):=by
  have zA:=ZZ m.da;rcases h.rowD with⟨hv,V7,_⟩|⟨ro,nn,hv,Q2,_,_⟩
  .rw[V7] at zA;have:m.da.length=0:=(by simp at zA;omega);rw[hv,this];simp
  .have:nn=m.da.length:=by
    rw[zA] at Q2;simp at Q2;omega
   rw[hv,this];simp
 simp[-qd,-qn,-qr,-qK,-qG,Tryz.f101,aJ,ao,O,gb];obtain⟨pb,bo⟩:∃x,x=H.length:=⟨_,rfl⟩;rw[<-bo] at gb⊢;refine Run.loopThen (fun(i:Nat) e K=>i<=m.da.length/\qi e 0=some (.optr q 147 0)/\qi e 3=some (.optr pb 2 0)/\qi e 5=some (.str name)/\qi e 6=some (.int .i64 i)/\K=H1) (fun i=>m.da.length-i) 0 ?_ ?_
 .exact⟨vg _,wE,wE,wE,wE,rfl⟩
 rintro i e K ⟨hi,p0,p3,p5,aA,rfl⟩;by_cases qg:i<m.da.length
 .have qo:=zn qg;have hw:=qz ((i:Int)+1) ((i+1:Nat):Int);obtain⟨k,r,Kk,vF,vC,Zw,vn⟩:=qdh qg;have qQ:qt m.da≠[]:=fun e0=>by rw[e0] at vF;simp at vF
  obtain⟨ro,nn,U,vy,ZW,bZ⟩:=h.rowD.own qQ
  have ji:nn=m.da.length:=by
   have:=ZZ m.da;rw[this] at vy;simp at vy;omega
  have zA:(qt m.da).length=m.da.length*5:=by rw[vy,ji]
  rw[ji] at U;rw[U] at c5;by_cases ht:k.text=name
  .simp[-qd,-qn,-qr,-Kn.ea,p0,p3,p5,aA,r0,qE,c5,qo,ZW,zA,vF,ht];exact⟨i,K,⟨rfl,rfl⟩,m,bb,qg,wC,wC,wC,qA _,fun k h=>.inl h⟩
  .simp[-qd,-qn,-qr,-Kn.ea,p0,p3,p5,aA,r0,qE,c5,qo,hw,ZW,zA,vF,ht];exact⟨i+1,wC,wC,wC⟩
 .have qo:=zq qg;have cu:=hk.ds;have cp:=hk.ft;have jS:=hk.bl;obtain⟨qh,Xe,xh,JG,rfl⟩:=qka m.key m.file (Sl.mk false name wE) wJ;unfold jx at JG;obtain⟨xn,rfl⟩:∃xn:Nat,xh=(xn:Int):=⟨xh.toNat,wC⟩;have bp:xn<18446744073709551616:=by omega
  replace Xe:call cx 102 [.bool m.key,.agg (qf m.file.l),.vsl false (qf name) name.length] []=some (.int .u64 (xn:Int),[]):=Xe;obtain⟨qp,ay,tb,ce,rfl⟩:=qyV xn 0 0 0 0 0 bp wC wC wC wC wC false name wC;replace ay:call cx 159 [.agg (.int .u64 (xn:Int)::VH [.int .u64 0,.vsl false (qf name) name.length])] []=some (.vsl false (qf tb) tb.length,[]):=ay;have ch:=qiJ (64+name.length);obtain⟨K0,vD⟩:=ql (qr K (qf name));have g0:=js vD;obtain⟨K1,jb⟩:=ql (jT K0 [K.length])
  have x1:Ext [] K K1:=by
   refine⟨?_,fun j hj _=>?_⟩
   .rw[<-jb,QE,<-vD,jg];omega
   .rw[<-jb,VB wG,<-vD,vw hj]
  have w1:=X9 h x1;obtain⟨K2,n,br,w2,o2,x2,l2⟩:=qhQ w1 hk tb wC wC;obtain⟨J,G⟩:∃x,x=({m with b:=m.b++tb,cs:=n}:Jm):=⟨_,rfl⟩;rw[<-G] at w2 o2;have bV:J.b.length=m.b.length+tb.length:=by rw[G];simp
  have u:J.da=m.da:=by rw[G]
  have I:J.dv=m.dv:=by rw[G]
  have o:J.cs=n:=by rw[G]
  have aj:J.ds=m.ds:=by rw[G]
  obtain⟨S,kv⟩:∃s,s=xn % m.ds:=⟨_,rfl⟩;have aQ:S<m.ds:=by rw[kv];exact YM _ wC
  obtain⟨K3,b3,r,aP,hr,cj,w3,o3,x3,l3⟩:=qs0 w2 o2 (v:=J.dv) (ks:=J.da) w2.rowD (fun k JL=>by
   rw[u] at JL;have:=(hk.da k JL).at_;omega) (by rw[u];omega) 288 m.b.length S wC wC
  rw[I,show((288:Nat):Int)=288 from rfl] at aP;have bI:qd K2 q=some n:=by rw[<-o];exact w2.root
  have bA:n.length=147:=by rw[<-o];exact w2.len
  have ba:=jC w2.c48;have ai:=jC w2.c121;have ae:=jC w2.c144;rw[o,aj] at ba;rw[o] at ai;rw[o,I] at ae;obtain⟨_,R,dv,rfl,bX⟩:=w3.nums 138 wC wC;simp only[o] at R;have aM:=jC R;have aS:qd K3 q=some n:=by rw[<-o];exact w3.root
  have bK:∀C,qd (qn K3 q C) q=some C:=fun C=>zk (qx aS);obtain⟨mx,XK⟩:∃z:Nat,z=max dv r:=⟨_,rfl⟩
  have bN:(if(dv:Int)<(r:Int) then(r:Int) else(dv:Int))=(mx:Int):=by
   rw[XK];split<;>omega
  have aR:(if dv<r then(r:Int) else(dv:Int))=(mx:Int):=by
   rw[XK];split<;>omega
  have w4:=XA w3 (i:=138) rfl (d:=.int .u64 (mx:Int)) ⟨mx,rfl,wC⟩;simp only[o] at w4;obtain⟨C4,Xo⟩:∃C,C=n.set 138 (.int .u64 (mx:Int)):=⟨_,rfl⟩;have aO:List.take 138 n++D.int .u64 (mx:Int)::List.drop 139 n=C4:=by rw[Xo];exact vu wC
  rw[<-Xo] at w4;have l4:C4.length=147:=w4.len;obtain⟨_,aD,ax,rfl,bR⟩:=w4.nums 134 wC wC;have ac:=jC aD;simp only at ac;have ag:=qdV ((ax:Int)+1);unfold jx at ag;obtain⟨aa,hz⟩:∃z:Nat,IntKind.u64.wrap ((ax:Int)+1)=(z:Int):=⟨(IntKind.u64.wrap ((ax:Int)+1)).toNat,by rw[Int.toNat_of_nonneg ag.1]⟩;have w5:=XA w4 (i:=134) rfl (d:=.int .u64 (aa:Int)) ⟨aa,rfl,wC⟩;simp only[QI] at w5;obtain⟨Y,Vo⟩:∃C,C=C4.set 134 (.int .u64 (aa:Int)):=⟨_,rfl⟩;have aL:List.take 134 C4++D.int .u64 (aa:Int)::List.drop 135 C4=Y:=yL
  rw[<-Vo] at w5;have l5:Y.length=147:=w5.len;have Q:=jC w5.c144;simp only[I] at Q;obtain⟨K5,kR⟩:=ql (qn K3 q Y);rw[kR] at w5;have bH:qd K5 q=some Y:=w5.root;obtain⟨K6,Qk⟩:=ql (qr K5 [.str name,.int .u64 (m.b.length:Nat),.int .i64 (S:Nat),.int .i64 0,.vsl true [] 0]);have x6:=zJ Qk;have w6:=X9 w5 x6;have g6:=js Qk;have bu:qd K6 q=some Y:=w6.root;obtain⟨p6,aZ⟩:=ql (K5.length);rw[aZ] at g6;have ah:=w6.rowD;simp only[u,I] at ah;have W:=ZZ m.da;simp only[Kn.size] at W;obtain⟨v',K7,L7,hA,ak,x7,n7⟩:=ah.append (P:=Tryz.prog) (st:=135) (xt:=135) (e:=204) (x:=.osl p6 5 0 1 5) (xs:=[.str name,.int .u64 (m.b.length:Nat),.int .i64 (S:Nat),.int .i64 0,.vsl true [] 0]) (m:=1) wE wE (by simp[-qd,g6]) wE wC wE wC (by rw[W];simp[qF];omega) (by rw[W];simp[qF];omega);obtain⟨kn,Qi⟩:∃k:Kn,k=⟨name,m.b.length,S,0,true,[]⟩:=⟨_,rfl⟩
  have aF:qt (m.da++[kn])=qt m.da++[.str name,.int .u64 (m.b.length:Nat),.int .i64 (S:Nat),.int .i64 0,.vsl true [] 0]:=by
   rw[qc3,Qi];rfl
  rw[<-aF] at ak;have am:Ext J.Ld K6 K7:=x7;have w8:=q1K w6 kn (v:=v') (L:=L7) (by simp only[u];exact ak) am n7;simp only[u] at w8
  have bB:qd K7 q=some Y:=am.get bu (by
   have:=(KU w6).2.1;exact this)
  obtain⟨r7,k7,aI,-,bv,cB⟩:=ak.own (by rw[aF];simp);obtain⟨z7,bC⟩:∃z,z=(qt (m.da++[kn])).length:=⟨_,rfl⟩;rw[<-bC] at aI;have aH:r7<K7.length:=qx bv;subst aI;obtain⟨C8,aV⟩:∃C,C=Y.set 144 (D.osl r7 z7 0 k7 5):=⟨_,rfl⟩;have aK:List.take 144 Y++D.osl r7 z7 0 k7 5::List.drop 145 Y=C8:=by rw[aV];exact vu wC
  rw[<-aV] at w8;have e1:=jC h.c51;have e2:=h.file;have bg:=zg (m.ds:Int) (m.ds:Int);have bO:¬(m.ds:Int)=0:=wC
  have aG:¬m.ds=0:=wC
  have bG:K2.length<=K3.length:=wC
  have bf:(xn:Int).tmod (m.ds:Int)=(S:Int):=by
   rw[kv,Int.tmod_eq_emod_of_nonneg (Int.natCast_nonneg _)];rfl
  have bE:=qz (S:Int) (S:Int);have bU:=zg (S:Int) (S:Int);have bM:List.set K0 K.length none=K1:=jb;have E:∀{A B:qe}{L:List Nat},Ext L A B->(∀i,i∈L->i∈m.names q)->Ext (m.names q) A B:=fun hh hm=>hh.mono hm;have y1:=E x1 (fun _ hi=>wV)
  have y2:=E x2 (fun i hi=>by
   simp only[jI,List.not_mem_nil,or_false] at hi;rcases hi with rfl|rfl
   .exact VV
   .exact KR)
  have y3:=E x3 (fun i hi=>by
   have:J.bi=m.bi:=(by rw[G]);rw[List.mem_singleton.1 hi,this];exact KR)
  have y5:Ext (m.names q) K3 K5:=kR▸E (Ext.set K3 q Y) (fun i hi=>yF);have y6:=E x6 (fun _ hi=>wV)
  have y7:=E am (fun i hi=>by
   have:J.Ld=m.Ld:=(by rw[G]);rw[this] at hi;exact qhB hi)
  have y8:=E (Ext.set K7 q C8) (fun i hi=>yF);have y:=(((((y1.trans y2 (NewL.refl _ _)).trans y3 (NewL.refl _ _)).trans y5 (NewL.refl _ _)).trans y6 (NewL.refl _ _)).trans y7 (NewL.refl _ _)).trans y8 (NewL.refl _ _)
  obtain⟨K8,m8,Ks,gr8,YC,N,aW⟩:∃(K8:qe)(m8:Jm),qn K7 q C8=K8/\JGrow K K8 q m m8/\m8.b.length=m.b.length+tb.length/\m8.da=m.da++[kn]/\m8.fi=m.fi:=by
   refine⟨_,_,rfl,⟨w8,?_,y,?_,?_,?_,?_,?_,?_,?_,?_,?_,?_,?_⟩,?_,?_,?_⟩
   .exact{o3 with
     da:=fun k JL=>by
      rcases List.mem_append.1 JL with g|g
      .have z:=(hk.da k g).mono (show m.b.length<=b3.length from wC);exact⟨z.at_,by simp only[aj];exact z.slot,z.arr,z.nil,z.txt⟩
      .rw[List.mem_singleton.1 g,Qi];exact⟨wJ,by simp only[aj];exact aQ,ArrOk.zero _,fun _=>rfl,by simp only;exact hn⟩
     cn:=fun k JL=>by
      rcases List.mem_append.1 JL with g|g
      .have:=hk.cn k g;simp only[G];exact this
      .rw[List.mem_singleton.1 g,Qi];exact vg _
     nda:=by simp only;rw[zp,List.length_singleton];omega}
   .intro i hi;have b1:J.bi=m.bi:=(by rw[G]);have b2:J.Ld=m.Ld:=(by rw[G]);have b4:J.Lf=m.Lf:=(by rw[G]);have bD:=x1.len;simp only[Jm.names,b1,jI,vj] at hi⊢;rcases hi with hi|hi|hi|hi
    .exact .inl (.inl hi)
    .exact .inl (.inr (.inl hi))
    rotate_left
    .exact .inl (.inr (.inr (.inr (by rw[<-b4];exact hi))))
    .rcases n7 i hi with g|g
     .exact .inl (.inr (.inr (.inl (by rw[<-b2];exact g))))
     .have:=x6.len;have bY:K5.length=K3.length:=(by rw[<-kR];simp[qn]);exact .inr wC
   all_goals first
    |(subst G;rfl)
    |(simp only;omega)
    |(simp only;rw[G])
    |(simp only;rw[zp,List.length_singleton];omega)
  have gx:=bb.trans gr8;obtain⟨K9,m9,a,bc,c,cA,cq,M,bh⟩:=q1Q gr8.w gr8.ok p.name wC wC (by rw[aW];exact vK);obtain⟨V,bQ⟩:∃z,z=a+32:=⟨_,rfl⟩;obtain⟨aT,bT⟩:∃z,z=m.b.length+32:=⟨_,rfl⟩;have ck:=c.bl;have bF:=c.ok.bmax;obtain⟨v,hv,aw⟩:=q3A m9.b V wC bF;obtain⟨aX,bW,av,aU,bn,bt,bj,cg⟩:=qaX c.w c.ok aT v wC;obtain⟨aE,cw,az,aC,Z,bm,bJ,ci⟩:=qaX bn bt V m.b.length wJ
  have bq:qd K8 pb=some [.str p.name,.str p.value]:=gr8.ext.get gb (fun hi=>by
   have:=qde h0 hi;omega)
  have e9:=c.w.root;have l9:=c.w.len;have c9:=jC c.w.c143;have y9:=c.w.bytes;have wA:=zg ((a:Int)+32) (V:Int);have bz:=qz (V:Int) (V:Int);have wB:=zg ((m.b.length:Int)+32) (aT:Int);have aY:=Z.root;have aB:=jC Z.c144;simp only at aY aB
  have au:qt m9.da≠[]:=fun e0=>by
   have:=ZZ m9.da;rw[e0,M,N] at this;simp at this
  obtain⟨ro,nn,U,vy,ZW,cC⟩:=Z.rowD.own au;simp only at U vy
  have ji:nn=m.da.length+1:=by
   have g:=ZZ m9.da;rw[g,M,N] at vy;simp at vy;omega
  rw[U,ji] at aB;have bk:∀x,qK Tryz.prog 135 (.osl ro x 0 (m.da.length+1) 5)=some (.int .i64 ((m.da.length:Int)+1)):=fun x=>by simp
  have wN:=qz (m.da.length:Int) (m.da.length:Int);simp[-qd,-qn,-qr,-qK,-qG,-Kn.ea,p0,p3,p5,aA,r0,qE,c5,aN,qo,e1,e2,Xe,vD,g0,bM,ay,br,bI,bA,ba,bg,aG,bf,bE,ae,ai,aM,aP,aS,bK,aR,aO,l4,ac,hz,aL,l5,Q,QI,kR,bH,Qk,aZ,hA,bB,aH,aK,Ks,bq,bc,e9,l9,c9,y9,aw,wA,bz,wB,av,az,aY,aB,bk,wN];dsimp only at aU aC;refine⟨m.da.length,aE,⟨rfl,rfl⟩,_,(gx.trans c).trans ⟨Z,bm,?_,?_,rfl,rfl,rfl,rfl,rfl,rfl,rfl,rfl,rfl,?_⟩,?_,?_,?_,?_,?_,?_⟩
  .have z1:Ext (m9.names q) K9 aX:=bj.mono fun i hi=>by rw[List.mem_singleton.1 hi];exact KR
   have z2:Ext (m9.names q) aX aE:=bJ.mono fun i hi=>by rw[List.mem_singleton.1 hi];exact KR
   exact z1.trans z2 (NewL.refl _ _)
  .exact NewL.refl _ _
  .simp only;omega
  .simp only;rw[M,N];simp
  .simp only;omega
  .simp only;rw[M,N];simp
  .simp only;rw[aW] at bh;omega
  .simp only;rw[M,N];simp
  .intro k aq;simp only at aq;rw[M,N] at aq;rcases List.mem_append.1 aq with g|g
   .exact .inl g
   .rw[List.mem_singleton.1 g,Qi];exact .inr rfl
theorem qnt[MaxL][TxtC](i:Nat)(hi:i<=1000):call cx 165 [.int .i64 i] []=some (.int .i64 (Jj i:Nat),[]):=by
 by_cases h:i<=6
 .have:i=0\/i=1\/i=2\/i=3\/i=4\/i=5\/i=6:=by omega
  rcases this with rfl|rfl|rfl|rfl|rfl|rfl|rfl<;>
  .refine qC Tryz.func165 rfl ⟨rfl,rfl⟩ ?_;simp[Tryz.f165,Jj]
   try decide
 .have a:(6:Int)<(i:Int):=by omega
  have c:¬(i:Int)<0:=wC
  have b:¬i<6:=wC
  have d:6<i:=wC
  refine qC Tryz.func165 rfl ⟨rfl,rfl⟩ ?_;simp[Tryz.f165,Jj,a,c,b]
theorem qiH{c:Nat}{a:List Nat}{n:Nat}(h:ArrOk c a n):a.length<=n:=by
 cases b:a.length with
 |zero=>omega
 |succ j=>
  have e:=h.lo j b
  have:∀k,k<=vt k:=fun k=>by
   induction k with
   |zero=>exact qA _
   |succ k d=>
    have:=qjn (j:=k);omega
  have:=this j;omega
theorem qwK(k:Nat):vt k<=256*k:=by
 induction k with
 |zero=>exact qA _
 |succ k a=>
  have:=qht k;simp only[vt];omega
theorem qfj{H T:qe}{q:Nat}{m:Jm}{L:List Nat}(h:JmW H q m)(b:Ext L H T)(a:∀i,i∈m.names q->i∉L):JmW T q m:=
 {h with
  root:=b.get h.root (a _ VV)
  bytes:=b.get h.bytes (a _ KR)
  rowD:=h.rowD.ext b (fun i hi=>a i (qhB hi))
  rowF:=h.rowF.ext b (fun i hi=>a i (qo1 hi))}
theorem quc(H:qe)(i:Nat):Ext [i] H (jT H [i]):=⟨by rw[QE];exact qA _,fun j _ a=>VB a⟩
theorem q33(K:qe)(j:Bool)(b:List Nat)(a:Nat)(I:j=true->b=[])(S:b.length<=1000):
  ∃d c y T2 r,qG Tryz.prog (qr K []) 98 98 (.osl K.length 0 0 0 1) (.vsl j (qP .u64 b) b.length)=some (d,c)/\qG Tryz.prog (qr c [.int .u64 (a:Nat)]) 98 98 d (.osl c.length 1 0 1 1)=some (.osl r (b.length+1) 0 (b.length+1) 1,T2)/\qd T2 r=some (qP .u64 (b++[a]))/\Ext [] K T2/\K.length<=r/\y=r:=by
 have T:=Ext.new K [];have s:qd (qr K []) K.length=some []:=by rw[zo]
 have u:RowA (qr K []) 1 (.osl K.length 0 0 0 1) [] [K.length]:=RowA.of wE s
 obtain⟨d,c,l,F,Q,w,M⟩:∃d c l,qG Tryz.prog (qr K []) 98 98 (.osl K.length 0 0 0 1) (.vsl j (qP .u64 b) b.length)=some (d,c)/\RowA c 1 d (qP .u64 b) l/\Ext [K.length] (qr K []) c/\NewL [K.length] l (qr K []).length:=by
  by_cases t:b=[]
  .subst t;exact⟨.osl K.length 0 0 0 1,qr K [],[K.length],by simp[-qr,-qd,qP,s];exact qdq s,u,Ext.refl _ _,NewL.refl _ _⟩
  .have B:b.length≠0:=fun h=>t (List.length_eq_zero_iff.1 h)
   have E:j=false:=by
    cases j with
    |false=>rfl
    |true=>exact absurd (I rfl) t
   subst E;exact u.append (P:=Tryz.prog) (st:=98) (xt:=98) (e:=38) (x:=.vsl false (qP .u64 b) b.length) (xs:=qP .u64 b) (m:=b.length) wE wE (by simp[-qd]) wE B wE wC wM wM
 have G:qd (qr c [.int .u64 (a:Nat)]) c.length=some [.int .u64 (a:Nat)]:=by rw[zo]
 have R:=Q.ext (Ext.new c [.int .u64 (a:Nat)]) (fun _ _=>wE);obtain⟨y,T2,C,q,f,g,p⟩:=R.append (P:=Tryz.prog) (st:=98) (xt:=98) (e:=38) (x:=.osl c.length 1 0 1 1) (xs:=[.int .u64 (a:Nat)]) (m:=1) wE wE (by simp[-qd,-qr,G]) wE wC wE wC wM wM;have e2:qP .u64 b++[.int .u64 (a:Nat)]=qP .u64 (b++[a]):=by rw[qki];rfl
 rw[e2] at f;obtain⟨r,n,rfl,v,O,J⟩:=f.own (by rw[<-e2];simp);rw[qkh] at v q;have H:n=b.length+1:=by simp at v;omega
 subst H;rw[zp,List.length_singleton] at q
 have A:∀i,i∈l->K.length<=i:=fun i hi=>by
  rcases M i hi with h|h
  .rw[List.mem_singleton.1 h];exact qA _
  .rw[jg] at h;omega
 have k:Ext [] K c:=by
  refine⟨by have:=w.len;rw[jg] at this;omega,fun i hi _=>?_⟩;rw[w.out i wX wG,vw hi]
 have N:Ext [] K T2:=by
  have z:=g.len;rw[jg] at z;refine⟨by have:=k.len;omega,fun i hi _=>?_⟩;have L:i<c.length:=vh hi k.len;rw[g.out i wX (fun hc=>by have:=A i hc;omega),vw L,k.out i hi wE]
 refine⟨d,c,r,T2,r,F,q,O,N,?_,rfl⟩;have o:r∈C:=by rw[J];simp
 rcases p r o with h|h
 .exact A r h
 .rw[jg] at h;have:=k.len;omega
theorem qsz[MaxL][TxtC]{H:qe}{q:Nat}{m:Jm}(h:JmW H q m)(hk:m.Ok)(N:Bool)(c:List Nat)(n a0 v:Nat)(zG:N=true->c=[])(ha:ArrOk m.b.length c n)(hn:n<=1000)(YE:a0+8<=m.b.length)(_:v<18446744073709551616)(kF:m.b.length+5000<=1000000):
  ∃T k g z,call cx 106 [.optr q 147 0,.vsl N (qP .u64 c) c.length,.int .i64 n,.int .u64 a0,.int .u64 v] H=some (.tup [.vsl false (qP .u64 g) g.length,.int .i64 (z:Nat)],T)/\z<=256/\JGrow H T q m k/\ArrOk k.b.length g (n+1)/\k.b.length<=m.b.length+(24+8*Jj c.length)/\k.da=m.da/\k.fi=m.fi:=by
 suffices hs:∃r,call cx 106 [.optr q 147 0,.vsl N (qP .u64 c) c.length,.int .i64 n,.int .u64 a0,.int .u64 v] H=some r/\∃(T:qe)(k:Jm)(g:List Nat)(z:Nat),r=(.tup [.vsl false (qP .u64 g) g.length,.int .i64 (z:Nat)],T)/\z<=256/\JGrow H T q m k/\ArrOk k.b.length g (n+1)/\k.b.length<=m.b.length+(24+8*Jj c.length)/\k.da=m.da/\k.fi=m.fi by
  obtain⟨r,hc,T,k,g,z,rfl,h1⟩:=hs;exact⟨T,k,g,z,hc,h1⟩
 refine vz (X:=cx) (f:=106) _ Tryz.func106 rfl ⟨rfl,rfl⟩ ?_;have Zj:=qiH ha;simp[-qd,-qn,-qr,-qK,-qG,Tryz.f106];refine Run.loopThen (fun(i:Nat) e K=>i<=c.length/\qi e 0=some (.optr q 147 0)/\qi e 1=some (.vsl N (qP .u64 c) c.length)/\qi e 2=some (.int .i64 n)/\qi e 3=some (.int .u64 a0)/\qi e 4=some (.int .u64 v)/\qi e 12=some (.int .i64 (vt (i-1):Nat))/\qi e 13=some (.int .i64 (vt i:Nat))/\qi e 14=some (.int .i64 i)/\K=H) (fun i=>c.length-i) 0 ?_ ?_
 .exact⟨vg _,wE,wE,wE,wE,wE,by simp[vt],by simp[vt],wE,rfl⟩
 rintro i e K ⟨hi,p0,p1,p2,p3,p4,A,J,L,rfl⟩;by_cases qg:i<c.length
 .have qo:=zn qg;have hw:=qz ((i:Int)+1) ((i+1:Nat):Int);have hr:=qnt i wC;have h1:=qwK i;have h2:=qht i
  have zT:IntKind.i64.wrap ((vt i:Int)+(Jj i:Int))=((vt (i+1):Nat):Int):=by
   simp only[vt];rw[wrap_i64]<;>omega
  simp[-qd,-qn,-qr,p0,p1,p2,p3,p4,A,J,L,qo,hw,hr,zT];exact⟨i+1,wC,wC,wE,wE,wE⟩
 .have qo:=zq qg;have Zh:i=c.length:=by omega
  subst Zh;by_cases Ko:n=vt c.length
  .obtain⟨r,hr⟩:∃r,r=Jj c.length:=⟨_,rfl⟩;have aF:=qj6 c.length;have vB:=qht c.length;have U:=qnt c.length wC;rw[<-hr] at U;have e0:(n:Int)=(vt c.length:Int):=wC;obtain⟨zs,u⟩:∃z:List D,z=List.replicate r (.int .u64 0):=⟨_,rfl⟩;have Qw:zs.length=r:=(by rw[u];simp);obtain⟨qp,QR,tb,ax,rfl⟩:=qzc 0 wC false zs (fun d hd=>by rw[u] at hd;rw[List.eq_of_mem_replicate hd];exact⟨0,rfl,wC⟩) wE wC wC;rw[Qw] at QR ax;replace QR:call cx 166 [.agg [.int .u64 0,.vsl false zs r]] []=some (.vsl false (qf tb) tb.length,[]):=QR
   have ac:8*(r:Int)<=(qF:Int)/\r<=qF:=by
    simp only[qF];omega
   have vN:∀x,x∈zs->idFree x=true:=fun d hd=>by
    rw[u] at hd;rw[List.eq_of_mem_replicate hd];rfl
   have Qj:idFree.idFreeL zs=true:=(by rw[Qv];exact List.all_eq_true.2 vN);have ak:List.take r zs=zs:=(by rw[<-Qw];exact List.take_length);obtain⟨K0,vD⟩:=ql (qr K zs);have g0:=js vD;obtain⟨K1,jb⟩:=ql (jT K0 [K.length]);have au:List.set K0 K.length none=K1:=jb
   have x1:Ext [] K K1:=by
    refine⟨?_,fun j G _=>?_⟩
    .rw[<-jb,QE,<-vD,jg];omega
    .rw[<-jb,VB wG,<-vD,vw G]
   have aw:=hk.bmax;have w1:=X9 h x1;obtain⟨K2,V,aj,w2,o2,x2,l2⟩:=qhQ w1 hk tb wC wC;have r2:=w2.root;have W:=w2.len;obtain⟨_,y,w,rfl,av⟩:=w2.nums 137 wC wC;simp only at r2 W y;have P:=jC y;have R:=qdV ((w:Int)+1);unfold jx at R;obtain⟨M,hz⟩:∃z:Nat,IntKind.u64.wrap ((w:Int)+1)=(z:Int):=⟨(IntKind.u64.wrap ((w:Int)+1)).toNat,by rw[Int.toNat_of_nonneg R.1]⟩;have w5:=XA w2 (i:=137) rfl (d:=.int .u64 (M:Int)) ⟨M,rfl,wC⟩;simp only at w5;obtain⟨C5,Vo⟩:∃C,C=V.set 137 (.int .u64 (M:Int)):=⟨_,rfl⟩;have S:List.take 137 V++D.int .u64 (M:Int)::List.drop 138 V=C5:=yL;rw[<-Vo] at w5;obtain⟨K5,kR⟩:=ql (qn K2 q C5);rw[kR] at w5
   obtain⟨pa,aD,ay⟩:∃pa,pa+8<=m.b.length/\((c.length=0/\pa=a0)\/(∃j a,c.length=j+1/\c[j]?=some a/\pa=a+16)):=by
    cases hl:c.length with
    |zero=>exact⟨a0,YE,.inl ⟨rfl,rfl⟩⟩
    |succ j=>
     have F:j<c.length:=wC;have h9:=ha.at_ j c[j] (qN F);exact⟨c[j]+16,wC,.inr ⟨j,c[j],rfl,qN F,rfl⟩⟩
   obtain⟨m5,l⟩:∃x,x=({m with b:=m.b++tb,cs:=C5}:Jm):=⟨_,rfl⟩;rw[<-l] at w5;have o5:m5.Ok:=(by rw[l];exact{o2 with});have aL:m5.b.length=m.b.length+tb.length:=(by rw[l];simp);obtain⟨K6,b6,t,aH,w6,o6,x6,l6⟩:=qaX w5 o5 pa m.b.length wC;obtain⟨d1,T1,d2,T2,o,ag,Xp,Z,xg,aI,-⟩:=q33 K6 N c m.b.length zG wC;obtain⟨aK,s⟩:=ql (qr T1 [.int .u64 (m.b.length:Nat)]);rw[s] at Xp;have w7:=X9 w6 xg;obtain⟨I,aB⟩:∃p,p=m.b.length+24:=⟨_,rfl⟩;obtain⟨T8,b8,B,YC,w8,o8,x8,l8⟩:=qaX w7 o6 I v wJ;have aC:m5.bi<K6.length:=qx w6.bytes;have g8:qd T8 o=some (qP .u64 (c++[m.b.length])):=x8.get Z (by simp only[qfG];omega);have wl:=qz (c.length:Int) (c.length:Int)
   have ah:(qP .u64 (c++[m.b.length])).drop c.length=[.int .u64 (m.b.length:Nat)]:=by
    rw[qki];simp[qP]
   have ai:(c.length:Int)<(c.length:Int)+1:=wC;have wb:=zg ((m.b.length:Int)+24) (I:Int);have am:=zg (I:Int) (I:Int);have wz:IntKind.i64.wrap 0=0:=rfl;have ae:IntKind.u64.wrap 0=0:=rfl;obtain⟨T9,ao⟩:=ql (jT T8 [o]);have O:List.set T8 o none=T9:=ao;dsimp only at YC;have aE:b8.length=m.b.length+tb.length:=wC;have z1:Ext (m.names q) K K1:=x1.mono fun i hi=>by simp at hi
   have z2:Ext (m.names q) K1 K2:=x2.mono fun i hi=>by
    simp only[jI,List.not_mem_nil,or_false] at hi;rcases hi with rfl|rfl
    .exact VV
    .exact KR
   have z5:Ext (m.names q) K2 K5:=kR▸(Ext.set K2 q C5).mono fun i hi=>by rw[List.mem_singleton.1 hi];exact VV
   have b5:m5.bi=m.bi:=(by rw[l]);have z6:Ext (m.names q) K5 K6:=x6.mono fun i hi=>by rw[List.mem_singleton.1 hi,b5];exact KR
   have z7:Ext (m.names q) K6 T2:=xg.mono fun i hi=>by simp at hi
   have z8:Ext (m.names q) T2 T8:=x8.mono fun i hi=>by
    simp only[qfG] at hi;rw[hi,b5];exact KR
   have z9:Ext [o] T8 T9:=ao▸quc T8 o;have y8:=((((z1.trans z2 (NewL.refl _ _)).trans z5 (NewL.refl _ _)).trans z6 (NewL.refl _ _)).trans z7 (NewL.refl _ _)).trans z8 (NewL.refl _ _)
   have az:K.length<=o:=by
    have:=(((z1.trans z2 (NewL.refl _ _)).trans z5 (NewL.refl _ _)).trans z6 (NewL.refl _ _)).len;omega
   have y9:Ext (m.names q) K T9:=y8.trans z9 fun i hi=>.inr (by rw[List.mem_singleton.1 hi];exact az)
   have w9:=qfj w8 z9 (fun i hi hc=>by
    have:=qde w6 hi;rw[List.mem_singleton.1 hc] at this;omega)
   have Z9:=ArrOk.new (Ko▸ha) (bl':=b8.length) (a:=m.b.length) wC wC;have zV:List.take (c.length+1) (qP .u64 (c++[m.b.length]))=qP .u64 (c++[m.b.length]):=qJ wE
   have Q:∃(T:qe)(k:Jm)(g:List Nat)(z:Nat),(((List.take (c.length+1) (qP .u64 (c++[m.b.length]))=qP .u64 g/\c.length+1=g.length)/\(1:Int)=z)/\T9=T)/\z<=256/\JGrow K T q m k/\ArrOk k.b.length g (vt c.length+1)/\k.b.length<=m.b.length+(24+8*Jj c.length)/\k.da=m.da/\k.fi=m.fi:=by
    refine⟨T9,_,c++[m.b.length],1,⟨⟨⟨zV,wE⟩,rfl⟩,rfl⟩,wC,⟨w9,o8,y9,?_,?_,?_,?_,?_,?_,?_,?_,?_,?_,?_⟩,Z9,?_,?_,?_⟩
    .subst l;exact NewL.refl _ _
    all_goals first
     |(subst l;rfl)
     |(simp only;omega)
   rcases ay with⟨aq,rfl⟩|⟨j,a,G,E,XG⟩
   .have ea:c=[]:=List.length_eq_zero_iff.1 aq;have ez:((c.length:Int)==0)=true:=(by rw[aq];rfl);simp[-qd,-qn,-qr,-qG,p0,p1,p2,p3,p4,A,J,L,qo,Ko,U,ac,<-u,eq_true vN,Qw,vD,g0,QR,Qj,ak,au,aj,r2,W,P,hz,S,kR,t,ag,s,Xp,Z,wl,ai,ah,wb,wz,ae,am,B,g8,O,ez];exact Q
   .have vK:N=false:=by
     cases N with
     |false=>rfl
     |true=>rw[zG rfl] at G;simp at G
    subst vK;have F:j<c.length:=wC
    have Y:(qP .u64 c).drop j=.int .u64 (a:Nat)::qP .u64 (c.drop (j+1)):=by
     rw[qeo F];rw[qN F] at E;injection E with E;rw[E]
    have ea:c≠[]:=fun h0=>by rw[h0] at G;simp at G
    have ez:((c.length:Int)==0)=false:=(by simp[ea]);have e1:=qz ((c.length:Int)-1) (j:Int);have h9:=ha.at_ j a E;have e2:=zg ((a:Int)+16) (pa:Int);simp[-qd,-qn,-qr,-qG,p0,p1,p2,p3,p4,A,J,L,qo,Ko,U,ac,<-u,eq_true vN,Qw,vD,g0,QR,Qj,ak,au,aj,r2,W,P,hz,S,kR,t,ag,s,Xp,Z,wl,ai,ah,wb,wz,ae,am,B,g8,O,ez,F,Y,e1,e2];exact Q
  .obtain⟨j,a,G,E,kl,aJ,YD,aA⟩:=ha.more Ko;have aw:=hk.bmax
   have vK:N=false:=by
    cases N with
    |false=>rfl
    |true=>rw[zG rfl] at G;simp at G
   subst vK;have F:j<c.length:=wC
   have Y:(qP .u64 c).drop j=.int .u64 (a:Nat)::qP .u64 (c.drop (j+1)):=by
    rw[qeo F];rw[qN F] at E;injection E with E;rw[E]
   obtain⟨d,hd⟩:∃d,d=n-vt j:=⟨_,rfl⟩;obtain⟨T,b,aa,jS,w1,o1,x1,l1⟩:=qaX h hk (a+24+8*d) v wC;have e0:¬(n:Int)=(vt c.length:Int):=wC;have e1:=qz ((c.length:Int)-1) (j:Int);have e2:=zg ((a:Int)+24) ((a+24:Nat):Int);have Xi:vt (c.length-1)=vt j:=(by rw[G];rfl);have e3:=qz ((n:Int)-(vt j:Int)) (d:Int);have e4:=qz (8*(d:Int)) ((8*d:Nat):Int);have e5:=zg ((8*d:Nat):Int) ((8*d:Nat):Int);have e6:=zg (((a+24:Nat):Int)+((8*d:Nat):Int)) ((a+24+8*d:Nat):Int);have e7:=qz ((d:Int)+1) ((d+1:Nat):Int);rw[Xi] at A;simp[-qd,-qn,-qr,-Int.natCast_add,-Int.natCast_mul,p0,p1,p2,p3,p4,A,J,L,qo,e0,e1,e2,e3,e4,e5,e6,e7,aa,F,Y];have aG:=qht j;refine⟨T,_,c,d+1,⟨⟨⟨rfl,rfl⟩,rfl⟩,rfl⟩,wC,⟨w1,o1,x1.mono fun i hi=>by rw[List.mem_singleton.1 hi];exact KR,NewL.refl _ _,rfl,rfl,rfl,rfl,rfl,rfl,rfl,rfl,rfl,?_⟩,?_,?_,rfl,rfl⟩
   .simp only;omega
   .simp only;rw[jS];exact aA
   .simp only;omega
theorem qsy{H:qe}{q:Nat}{m:Jm}(h:JmW H q m){n:Nat}(g:H.length<=n):∀x,x∈m.cs->closed n x=true:=by
 intro x hx;obtain⟨i,a⟩:=List.getElem?_of_mem hx
 have f:i<147:=by
  have:=(List.getElem?_eq_some_iff.1 a).1;rw[h.len] at this;exact this
 have row:∀{v:D}{cs:List D}{L:List Nat},RowA H 5 v cs L->closed n v=true:=fun c=>by
  rcases c with⟨b,_⟩|⟨r,k,b,_,e,_⟩
  .rw[b];simp[closed]
  .rw[b];have:=qx e;simp[closed];omega
 by_cases d:i<143
 .exact Vj x (h.free i x d a)
 .have:i=143\/i=144\/i=145\/i=146:=by omega
  rcases this with rfl|rfl|rfl|rfl
  .rw[h.c143] at a;injection a with a;subst a;have:=qx h.bytes;simp[closed];omega
  .rw[h.c144] at a;injection a with a;subst a;exact row h.rowD
  .rw[h.c145] at a;injection a with a;subst a;exact row h.rowF
  .rw[h.c146] at a;injection a with a;subst a;exact Vj _ xC
theorem q6r{b:Nat}{a:List Nat}{ne:Nat}(h:ArrW b a ne):a.length<=ne+1:=by
 obtain⟨n,d,c⟩:=h;exact zI (qiH c) d
theorem quA(K:qe)(b:Bool)(a:List Nat)(s:b=true->a=[])(y:a.length<=1000):
  ∃r n T,qG Tryz.prog (qr K []) 98 98 (.osl K.length 0 0 0 1) (.vsl b (qP .u64 a) a.length)=some (.osl r n 0 n 1,T)/\Ext [] K T/\r<T.length:=by
 have d:qd (qr K []) K.length=some []:=by rw[zo]
 have p:RowA (qr K []) 1 (.osl K.length 0 0 0 1) [] [K.length]:=RowA.of wE d;by_cases c:a=[]
 .subst c;exact⟨K.length,0,qr K [],by simp[-qr,-qd,qP,d];exact qdq d,Ext.new K [],wX⟩
 .have k:a.length≠0:=fun h=>c (List.length_eq_zero_iff.1 h)
  have l:b=false:=by
   cases b with
   |false=>rfl
   |true=>exact absurd (s rfl) c
  subst l;obtain⟨w,t,z,o,v,g,A⟩:=p.append (P:=Tryz.prog) (st:=98) (xt:=98) (e:=38) (x:=.vsl false (qP .u64 a) a.length) (xs:=qP .u64 a) (m:=a.length) wE wE (by simp[-qd]) wE k wE wC wM wM;obtain⟨r,j,f,q,u,_⟩:=v.own yZ;rw[q,Nat.mul_one] at f;refine⟨r,j,t,by rw[o,f],⟨by have:=g.len;rw[jg] at this;omega,fun i hi _=>?_⟩,qx u⟩;rw[g.out i wX wG,vw hi]
theorem q4M(K:qe){b:List UInt8}{bi:Nat}(d:qd K bi=some (qf b))(c:b≠[])(z:b.length<=1000000):
  ∃r n T,qG Tryz.prog (qr K []) 63 63 (.osl K.length 0 0 0 1) (.osl bi b.length 0 b.length 1)=some (.osl r n 0 n 1,T)/\Ext [] K T/\r<T.length:=by
 have l:qd (qr K []) K.length=some []:=by rw[zo]
 have q:RowA (qr K []) 1 (.osl K.length 0 0 0 1) [] [K.length]:=RowA.of wE l;have k:qd (qr K []) bi=some (qf b):=by rw[vw (qx d)];exact d
 have g:b.length≠0:=fun h=>c (List.length_eq_zero_iff.1 h);obtain⟨v,t,w,o,s,f,y⟩:=q.append (P:=Tryz.prog) (st:=63) (xt:=63) (e:=5) (x:=.osl bi b.length 0 b.length 1) (xs:=qf b) (m:=b.length) wE wE (by simp[-qd,-qr,k]) wE g wE wC wM wM;obtain⟨r,j,a,u,p,_⟩:=s.own yZ;rw[u,Nat.mul_one] at a;refine⟨r,j,t,by rw[o,a],⟨by have:=f.len;rw[jg] at this;omega,fun i hi _=>?_⟩,qx p⟩;rw[f.out i wX wG,vw hi]
theorem q6w{H:qe}{x:D}{cs:List D}{L:List Nat}(h:RowA H 5 x cs L)(v:cs.length<=5000):
  ∃d T,qG Tryz.prog H 135 135 (.vsl true [] 0) x=some (d,T)/\Ext [] H T/\(d=.vsl true [] 0\/∃r z k,d=.osl r z 0 k 5/\r<T.length):=by
 rcases h with⟨rfl,rfl,rfl⟩|⟨r,n,rfl,a,b,rfl⟩
 .exact⟨.vsl true [] 0,H,wE,Ext.refl _ _,.inl rfl⟩
 .by_cases c:n=0
  .subst c;have q:cs=[]:=List.length_eq_zero_iff.1 wC;subst q;exact⟨.vsl true [] 0,H,by simp[-qd,b],Ext.refl _ _,.inl rfl⟩
  .obtain⟨d,T,t,i,o,l,u⟩:=(RowA.nil H 5).append (P:=Tryz.prog) (st:=135) (xt:=135) (e:=204) (x:=.osl r cs.length 0 n 5) (xs:=cs) (m:=n) wE wE (by simp[-qd,b,a];exact qJ wC) wE c a wC wM wM;obtain⟨f,j,g,w,p,_⟩:=o.own (by intro s;have:=congrArg List.length s;simp at this;rw[this] at a;simp at a;omega);exact⟨d,T,i,l,.inr ⟨f,_,j,g,qx p⟩⟩
theorem qdr(H:qe)(a b:List D):qn (qr H a) H.length b=qr H b:=by simp[qn,qr]
theorem q2y[MaxL][TxtC]{H:qe}{q:Nat}{m:Jm}(h:JmW H q m)(l:m.Ok):
  ∃T p,call cx 100 [.optr q 147 0] H=some (.optr p 147 0,T)/\Ext [] H T:=by
 suffices hs:∃r,call cx 100 [.optr q 147 0] H=some r/\∃(T:qe)(p:Nat),r=(.optr p 147 0,T)/\Ext [] H T by
  obtain⟨r,hc,T,p,rfl,h1⟩:=hs;exact⟨T,p,hc,h1⟩
 refine vz (X:=cx) (f:=100) _ Tryz.func100 rfl ⟨rfl,rfl⟩ ?_;have r0:=h.root;have qE:=h.len;have aw:=jC h.c143;have d:=jC h.c144;have zV:List.take 147 m.cs=m.cs:=qJ wC;have av:∀n,H.length<=n->(∀x,x∈m.cs->closed n x=true)=True:=fun n hn=>eq_true (qsy h hn);have aB:∀a,H.length<=(qr H a).length:=fun a=>by rw[jg];omega
 have jS:=l.bl;have aA:=l.bmax;have aG:m.b≠[]:=fun h0=>by rw[h0] at jS;simp at jS;have:=l.ft;omega
 obtain⟨K0,vD⟩:=ql (qr H m.cs);have x0:=zJ vD;have aE:=js vD;have w0:=X9 h x0;have q1:qd (qr K0 []) q=some m.cs:=by rw[vw (qx w0.root)];exact w0.root
 obtain⟨a1,n1,K1,aD,x1,aM⟩:=q4M K0 w0.bytes aG aA;have p1:qd K1 H.length=some m.cs:=x1.get aE wE;obtain⟨R,V8⟩:∃C,C=m.cs.set 143 (.osl a1 n1 0 n1 1):=⟨_,rfl⟩;have s1:List.take 143 m.cs++D.osl a1 n1 0 n1 1::List.drop 144 m.cs=R:=by rw[V8];exact vu wC
 have l1:R.length=147:=by rw[V8,vI];exact qE
 obtain⟨K2,zN⟩:=ql (qn K1 H.length R);have hq:q<H.length:=qx h.root;have y2:=vZ zN
 have z2:Ext [] H K2:=⟨by have:=x0.len;have:=x1.len;have:=y2.len;omega,fun i hi _=>by
  rw[y2.out i (by have:=x0.len;have:=x1.len;omega) wG,x1.out i (by have:=x0.len;omega) wE,x0.out i hi wE]⟩
 have w2:=X9 h z2;have q3:qd (qr K2 []) q=some m.cs:=by rw[vw (qx w2.root)];exact w2.root
 have ag:=jC h.c146;obtain⟨a3,n3,K3,aJ,x3,ay⟩:=quA K2 m.mn m.main l.mn (by have:=q6r l.main;have:=l.ne;omega);have p2:=kc zN p1;have p3:qd K3 H.length=some R:=x3.get p2 wE;obtain⟨V,JS⟩:∃C,C=R.set 146 (.osl a3 n3 0 n3 1):=⟨_,rfl⟩;have s3:List.take 146 R++D.osl a3 n3 0 n3 1::List.drop 147 R=V:=by rw[JS];exact vu wC
 have l3:V.length=147:=by rw[JS,vI];exact l1
 obtain⟨K4,Xn⟩:=ql (qn K3 H.length V);have p4:=kc Xn p3;obtain⟨W,Vo⟩:∃C,C=V.set 144 (.vsl true [] 0):=⟨_,rfl⟩;have s5:List.take 144 V++D.vsl true [] 0::List.drop 145 V=W:=yL
 have l5:W.length=147:=by rw[Vo,vI];exact l3
 obtain⟨K5,kR⟩:=ql (qn K4 H.length W);have p5:=kc kR p4;obtain⟨C6,t⟩:∃C,C=W.set 145 (.vsl true [] 0):=⟨_,rfl⟩;have s6:List.take 145 W++D.vsl true [] 0::List.drop 146 W=C6:=by rw[t];exact vu wC
 have l6:C6.length=147:=by rw[t,vI];exact l5
 obtain⟨K6,Qk⟩:=ql (qn K5 H.length C6);have p6:=kc Qk p5
 have own:∀{A B:qe}{C:List D},Ext [] H A->qn A H.length C=B->Ext [] H B:=fun{A B C} ha hb=>by
  have y:=vZ hb;exact⟨by have:=ha.len;have:=y.len;omega,fun i hi _=>by rw[y.out i (by have:=ha.len;omega) wG,ha.out i hi wE]⟩
 have z6:Ext [] H K6:=own (own (own (z2.trans x3 (NewL.refl _ _)) Xn) kR) Qk;have aN:=l.nda;simp[-qd,-qn,-qr,-qK,-qG,Tryz.f100,r0,qE,zV,av,aB,zo,qdr,aw,vD,q1,aD,p1,aM,s1,l1,zN,q3,ag,aJ,p3,ay,s3,l3,Xn,p4,s5,kR,p5,l5,s6,Qk];refine Run.loopThen (fun(i:Nat) e K=>i<=m.da.length/\qi e 0=some (.optr q 147 0)/\qi e 3=some (.optr H.length 147 0)/\qi e 4=some (.int .i64 i)/\Ext [] H K/\∃C v cs L,qd K H.length=some C/\C.length=147/\C[144]?=some v/\C[145]?=some (.vsl true [] 0)/\RowA K 5 v cs L/\cs.length=i*5/\(∀j,j∈L->H.length<j)) (fun i=>m.da.length-i) 0 ?_ ?_
 .exact⟨vg _,wE,wE,wE,z6,C6,.vsl true [] 0,[],[],p6,l6,by rw[t,List.getElem?_set_ne wC,Vo,List.getElem?_set_self wC],by rw[t,List.getElem?_set_self wC],RowA.nil _ _,rfl,wE⟩
 rintro i e K ⟨hi,k0,k3,k4,zK,C,v,cs,L,gC,lC,aq,G,hR,O,I⟩;have wK:=X9 h zK;have rK:=wK.root;by_cases qg:i<m.da.length
 .have qo:=zn qg;have hw:=qz ((i:Int)+1) ((i+1:Nat):Int);obtain⟨k,r,Kk,vF,vC,Zw,vn⟩:=qdh qg;have qQ:qt m.da≠[]:=fun e0=>by rw[e0] at vF;simp at vF
  obtain⟨ro,nn,ao,vy,ZW,aQ⟩:=wK.rowD.own qQ
  have ji:nn=m.da.length:=by
   have:=ZZ m.da;rw[this] at vy;simp at vy;omega
  have zA:(qt m.da).length=m.da.length*5:=by rw[vy,ji]
  rw[ji] at ao;rw[ao] at d;have ai:=l.da k Kk;have aT:=l.cn k Kk;have Qi:=l.ne;have aS:=qiH ai.arr;obtain⟨Ka,QV⟩:=ql (qr K [.str k.text,.int .u64 (k.at_:Nat),.int .i64 (k.slot:Nat),.int .i64 (k.cnt:Nat),.vsl k.nil (qP .u64 k.arrs) k.arrs.length]);have xa:=zJ QV;have ta:=js QV;have aI:qd (qr Ka []) K.length=some [.str k.text,.int .u64 (k.at_:Nat),.int .i64 (k.slot:Nat),.int .i64 (k.cnt:Nat),.vsl k.nil (qP .u64 k.arrs) k.arrs.length]:=by rw[vw (qx ta)];exact ta
  obtain⟨ab,nb,Kb,aF,xb,aK⟩:=quA Ka k.nil k.arrs ai.nil wC;have tb:qd Kb K.length=some [.str k.text,.int .u64 (k.at_:Nat),.int .i64 (k.slot:Nat),.int .i64 (k.cnt:Nat),.vsl k.nil (qP .u64 k.arrs) k.arrs.length]:=xb.get ta wE;obtain⟨s,N⟩:∃c:List D,c=[.str k.text,.int .u64 (k.at_:Nat),.int .i64 (k.slot:Nat),.int .i64 (k.cnt:Nat),.osl ab nb 0 nb 1]:=⟨_,rfl⟩;obtain⟨Kc,Zk⟩:=ql (qn Kb K.length s);have tc:=kc Zk tb;have yc:=vZ Zk;have aR:H.length<K.length:=qx gC;have pC:qd Kc H.length=some C:=yc.get (xb.get (xa.get gC wE) wE) wG;have Jv:=jC aq;have g:s.length=5:=by rw[N];rfl
  have Z:List.take 5 s=s:=qJ wC;obtain⟨Kd,Q⟩:=ql (qr Kc s);have xd:=zJ Q;have td:=js Q;obtain⟨pc,ak⟩:∃p,p=Kc.length:=⟨_,rfl⟩
  have aP:(∀x,x∈s->closed pc x=true)=True:=eq_true (fun x hx=>by
   have YD:ab<pc:=(by have:=yc.len;omega);rw[N] at hx;simp only[jI,List.not_mem_nil,or_false] at hx;rcases hx with rfl|rfl|rfl|rfl|rfl
   .rfl
   .rfl
   .rfl
   .rfl
   .simp[closed];exact YD)
  rw[<-ak] at td
  have ax:Kc≠[]:=fun h0=>by
   have:=qx tc;rw[h0] at this;simp at this
  have rd:=(((hR.ext xa (fun _ _=>wE)).ext xb (fun _ _=>wE)).ext yc (fun j S hc=>by
   have:=hR.lt S;rw[List.mem_singleton.1 hc] at this;omega)).ext xd (fun _ _=>wE)
  obtain⟨v',M,L',aL,ae,xe,ne⟩:=rd.append (P:=Tryz.prog) (st:=135) (xt:=135) (e:=204) (x:=.osl pc 5 0 1 5) (xs:=s) (m:=1) wE wE (by simp[-qd,td,g,Z]) wE wC (by rw[g]) wC (by rw[O];simp[qF];omega) (by rw[O];simp[qF];omega)
  have aa:cs++s≠[]:=fun h0=>by
   have:=congrArg List.length h0;simp at this;rw[this.2] at g;simp at g
  obtain⟨re,je,ah,aU,jE,aV⟩:=ae.own aa;obtain⟨ze,aH⟩:∃z,z=(cs++s).length:=⟨_,rfl⟩;rw[<-aH] at ah;have am:re<M.length:=qx jE;subst ah;have pD:qd Kd H.length=some C:=xd.get pC wE;have pE:qd M H.length=some C:=xe.get pD (fun hc=>Nat.lt_irrefl _ (I _ hc));obtain⟨Y,u⟩:∃Y,Y=C.set 144 (D.osl re ze 0 je 5):=⟨_,rfl⟩;have aj:List.take 144 C++D.osl re ze 0 je 5::List.drop 145 C=Y:=by rw[u];exact vu wC
  obtain⟨Kf,w⟩:=ql (qn M H.length Y);simp[-qd,-qn,-qr,-qG,-Kn.ea,k0,k3,k4,rK,qE,d,qo,hw,ZW,zA,vF,zo,qdr,QV,aI,aF,tb,aK,<-N,Zk,tc,pC,lC,Jv,g,Z,<-ak,Q,ax,aL,pE,am,aj,w];have J:H.length<M.length:=qx pE
  have zE:Ext [] H M:=by
   refine⟨wC,fun j S _=>?_⟩;have e1:=zK.len;have e2:=xa.len;have e3:=xb.len;have e4:=yc.len;have e5:=xd.len;rw[xe.out j wC (fun hc=>by have:=I j hc;omega),xd.out j wC wE,yc.out j wC wG,xb.out j wC wE,xa.out j wC wE,zK.out j S wE]
  have au:∀j,j∈L'->H.length<j:=fun j S=>by
   rcases ne j S with h1|h1
   .exact I j h1
   .have:=qx pD;omega
  have rf:=ae.ext (w▸Ext.set M H.length Y:Ext [H.length] M Kf) (fun j S hc=>by
   have:=au j S;rw[List.mem_singleton.1 hc] at this;omega)
  exact⟨i+1,wC,wC,rfl,own zE w,Y,by rw[<-w];exact zk J,by rw[u,vI];exact lC,_,by rw[u];exact List.getElem?_set_self wC,by rw[u,List.getElem?_set_ne wC];exact G,cs++s,L',rf,by rw[zp,O,g];omega,au⟩
 .have qo:=zq qg
  have o:qK Tryz.prog 135 m.dv=some (.int .i64 m.da.length):=by
   have zA:=ZZ m.da;rcases h.rowD with⟨hv,V7,_⟩|⟨ro,nn,hv,Q2,_,_⟩
   .rw[V7] at zA;have:m.da.length=0:=(by simp at zA;omega);rw[hv,this];simp
   .have:nn=m.da.length:=by
     rw[zA] at Q2;simp at Q2;omega
    rw[hv,this];simp
  have F:=jC h.c145;have E:=jC G;have aO:=l.nfi;obtain⟨dv,Kg,ac,xg,az⟩:=q6w wK.rowF (by rw[ZZ];simp;omega);have pg:qd Kg H.length=some C:=xg.get gC wE;obtain⟨Cg,aC⟩:∃X,X=C.set 145 dv:=⟨_,rfl⟩;have sg:List.take 145 C++dv::List.drop 146 C=Cg:=by rw[aC];exact vu wC
  obtain⟨Kh,U⟩:=ql (qn Kg H.length Cg);have zh:Ext [] H Kh:=own (zK.trans xg (NewL.refl _ _)) U;rcases az with rfl|⟨r,z,k,rfl,hr⟩
  .simp[-qd,-qn,-qr,-qK,-qG,k0,k3,k4,rK,qE,d,F,E,qo,o,gC,lC,ac,pg,sg,U];exact zh
  .simp[-qd,-qn,-qr,-qK,-qG,k0,k3,k4,rK,qE,d,F,E,qo,o,gC,lC,ac,pg,sg,U,hr];exact zh
theorem qk5[MaxL][TxtC]{H:qe}{q:Nat}{m:Jm}(h:JmW H q m):call cx 57 [.optr q 147 0] H=some (.int .u64 (m.tl:Nat),H):=by
 refine vz (X:=cx) (f:=57) (fun r=>r=(.int .u64 (m.tl:Nat),H)) Tryz.func57 rfl ⟨rfl,rfl⟩ ?_|>.elim fun r a=>by rw[a.1,a.2]
 have d:=h.root;have b:=h.len;have c:=jC h.c128;simp[-qd,-qn,-qr,Tryz.f57,d,b,c]
theorem q3s(v0 v1:Nat)(st:Int)(ids:List UInt8)(a:List D)(e b c:Nat)(d:JD a):idFree.idFreeL (Kp v0 v1 st ids a e b c)=true:=by
 rw[Qv];unfold Kp;have:=qer d;simp only[Vc,List.all_append,this];simp[idFree]
theorem q1F{H:qe}{q:Nat}{m:Jm}(h:JmW H q m):∃(ids:List UInt8)(e:List D)(u r s:Nat),ids.length=64/\JD e/\e.length=20/\u<4294967296/\r<4294967296/\s<18446744073709551616/\(∀i,i<20->e[i]?=m.cs[119+i]?)/\List.take 90 (List.drop 52 m.cs)=Kp 2 (if m.key then 4 else 0) 1 ids e u r s:=by
 have N:=h.len;have F:=jC h.c52;have A:=jC h.c53;have C:=jC h.c54;obtain⟨a,b,c,d,p⟩:=h.ids;obtain⟨u,g,O⟩:=h.c139;obtain⟨r,o,E⟩:=h.c140;obtain⟨_,v,s,rfl,B⟩:=h.c141;have j:=jC g;have t:=jC o;have n:=jC v;obtain⟨e,w⟩:∃e,e=List.take 20 (List.drop 119 m.cs):=⟨_,rfl⟩
 have z:List.drop 55 m.cs=List.take 64 (List.drop 55 m.cs)++List.drop 119 m.cs:=by
  have:=(ZK 64 (List.drop 55 m.cs)).symm
  rwa [ky] at this
 have k:List.drop 119 m.cs=e++List.drop 139 m.cs:=by
  have:=(ZK 20 (List.drop 119 m.cs)).symm;rw[ky] at this;rw[w];exact this
 have J:e.length=20:=by rw[w,jj,vr,N];rfl
 have K:=a.h;have I:=b.h;have G:=c.h;have L:=d.h;refine⟨a.l++(b.l++(c.l++d.l)),e,u,r,s,by simp[K,I,G,L],fun x hx=>?_,J,O,E,B,fun i hi=>by rw[w,List.getElem?_take_of_lt hi,kX],?_⟩
 .obtain⟨i,f⟩:=List.getElem?_of_mem hx
  have hi:i<20:=by
   have:=(List.getElem?_eq_some_iff.1 f).1;omega
  rw[w] at f;rw[List.getElem?_take_of_lt hi,kX] at f;obtain⟨y,M,P⟩:=h.nums (119+i) wC wC;rw[M] at f;injection f with f;exact f▸P
 .have Q:List.drop 52 m.cs=Kp 2 (if m.key then 4 else 0) 1 (a.l++(b.l++(c.l++d.l))) e u r s++List.drop 142 m.cs:=by
   rw[F,A,C,z,p,k,j,t,n];unfold Kp;cases m.key<;>simp[qf]
  rw[Q];exact List.take_left' (by unfold Kp;simp[J,K,I,G,L])
theorem q3i{a r:List UInt8}{key:Bool}{b:List D}{z ds fs j ne n:Nat}(d:HdB 1 (if key then 4 else 0) b a)(n0:b[0]?=some (.int .u64 272))(n1:b[1]?=some (.int .u64 (z:Nat)))(n2:b[2]?=some (.int .u64 288))(n3:b[3]?=some (.int .u64 (16*ds:Nat)))(n4:b[4]?=some (.int .u64 (j:Nat)))(n5:b[5]?=some (.int .u64 (16*fs:Nat)))(w:b[8]?=some (.int .u64 (ne:Nat)))
  (E:1<=ds) (J:1<=fs) (C:j=288+16*ds+16) (q:(a++r).length=n) (G:j+16*fs<=n) (H:n % 8=0) (I:z=n-272) (F:n<1000001):vx (a++r)=0/\(qH (a++r)).ents=ne:=by
 have o:=d.len
 have c:∀(i v:Nat),i<20->b[i]?=some (.int .u64 (v:Int))->(qH (a++r)).g i=v:=fun i v hi s=>by
  rw[qtt _ wC,<-d.n i v hi s];unfold qU;rw[List.drop_append_of_le_length wC,List.take_append_of_le_length wv]
 have l:=c 0 272 wC n0;have e:=c 1 _ wC n1;have t:=c 2 288 wC n2;have m:=c 3 _ wC n3;have y:=c 4 _ wC n4;have B:=c 5 _ wC n5;have p:=c 8 _ wC w;refine⟨?_,p⟩
 have k:(qH (a++r)).incompat=if key then 4 else 0:=by
  rw[<-d.inc];show Jh (a++r) 12=_;unfold Jh;rw[List.drop_append_of_le_length wC,List.take_append_of_le_length wv]
 have st:(qH (a++r)).state=1:=by
  have h:(((a++r).getD 16 0).toNat:Int)=1:=by
   rw[jv,vJ wC,<-jv,d.st];rfl
  show((a++r).getD 16 0).toNat=1;omega
 have x:qe9 .u32 ((qH (a++r)).incompat:Nat) 4=0:=by
  rw[k];cases key<;>rfl
 have A:(a++r).take 8=signL:=by rw[List.take_append_of_le_length wC,d.sign]
 have u:(qH (a++r)).endN=n:=by
  unfold HdP.endN;rw[l,e,if_pos wC];omega
 have f:(qH (a++r)).endC=true:=by
  unfold HdP.endC;rw[l,e,decide_eq_true wC]
 unfold vx;rw[q,if_neg wC,if_neg (by rw[A];simp)];unfold hdC;rw[if_neg (by rw[x];simp),if_neg (by rw[st];omega),l,e,t,m,y,B,u,f,if_neg wC,if_neg wE,if_neg]
 .unfold qbE;rw[if_neg wC,if_neg wC,if_neg wC]
 .unfold qbE;rw[if_neg wC,if_neg wC,if_neg wC];simp
theorem q1M[MaxL][TxtC]{H:qe}{q:Nat}{m:Jm}(h:JmW H q m)(A:m.Ok):
  ∃T s,call cx 28 [.optr q 147 0,.int .i64 1] H=some (.vsl false (qf s) s.length,T)/\Ext [] H T/\s.length=m.b.length/\vx s=0/\(qH s).ents=m.ne:=by
 suffices hs:∃r,call cx 28 [.optr q 147 0,.int .i64 1] H=some r/\∃(T:qe)(s:List UInt8),r=(.vsl false (qf s) s.length,T)/\Ext [] H T/\s.length=m.b.length/\vx s=0/\(qH s).ents=m.ne by
  obtain⟨r,hc,T,s,rfl,y⟩:=hs;exact⟨T,s,hc,y⟩
 refine vz (X:=cx) (f:=28) _ Tryz.func28 rfl ⟨rfl,rfl⟩ ?_;have r0:=h.root;have qE:=h.len;obtain⟨J,t⟩:∃c,c=List.take 90 (List.drop 52 m.cs):=⟨_,rfl⟩;have O:J.length=90:=by rw[t,jj,vr,qE];rfl
 have ax:List.take 90 J=J:=qJ wC;have V:∀n,H.length<=n->(∀x,x∈J->closed n x=true)=True:=fun n hn=>eq_true (fun x hx=>qsy h hn x (by rw[t] at hx;exact Z0 (QZ hx)));have aa:∀a,H.length<=(qr H a).length:=fun a=>by rw[jg];omega
 have hq:q<H.length:=qx h.root;have Y:=jC h.c143;obtain⟨_,I,dp,rfl,am⟩:=h.c142;have M:=jC I;have jS:=A.bl;have au:=A.bmax;have aw:=A.ft;obtain⟨U,jK⟩:∃C,C=J.set 2 (.int .i64 1):=⟨_,rfl⟩;have s2:List.take 2 J++D.int .i64 1::List.drop 3 J=U:=by rw[jK];exact vu wC
 have l2:U.length=90:=by rw[jK,vI];exact O
 obtain⟨z,hz⟩:∃z,z=m.b.length-272:=⟨_,rfl⟩;have w1:=qz ((m.b.length:Int)-272) (z:Int);have w2:=zg (z:Int) (z:Int);obtain⟨v,JS⟩:∃C,C=U.set 68 (.int .u64 (z:Nat)):=⟨_,rfl⟩;have s3:List.take 68 U++D.int .u64 (z:Nat)::List.drop 69 U=v:=by rw[JS];exact vu wC
 have l3:v.length=90:=by rw[JS,vI];exact l2
 have t3:List.take 90 v=v:=qJ wC;have gq:∀a,qd (qr H a) q=some m.cs:=fun a=>by rw[vw hq];exact r0
 have R:(272:Int)<=(m.b.length:Int):=wC
 have F:272<m.b.length:=wC
 obtain⟨ids,ns,v2,v3,v4,ZV,XH,zG,jD,ao,ak,qS,hH⟩:=q1F h
 have E:JD (ns.set 1 (.int .u64 (z:Nat))):=fun d hd=>by
  rcases qcH hd with y|y
  .exact XH d y
  .exact⟨z,y,wC⟩
 have B:v=Kp 2 (if m.key then 4 else 0) 1 ids (ns.set 1 (.int .u64 (z:Nat))) v2 v3 v4:=by
  rw[JS,jK,t,hH];unfold Kp;simp[ZV,zG]
 obtain⟨_,u,o,hB,rfl⟩:=q3j 2 (if m.key then 4 else 0) 1 ids (ns.set 1 (.int .u64 (z:Nat))) v2 v3 v4 dp wC (by split<;>omega) ZV E (by rw[vI];exact zG) jD ao ak am;have G:=hB.len;rw[<-B] at u;have ac:idFree.idFreeL v=true:=by rw[B];exact q3s _ _ _ _ _ _ _ _ E
 replace u:call cx 60 [.agg v,.int .u64 dp] []=some (.osl 0 272 0 272 1,[some (qf o)]):=u;obtain⟨K1,jb⟩:=ql (qr H v);obtain⟨K,zN⟩:∃T:qe,K1++[some (qf o)]=T:=⟨_,rfl⟩;have w:qr K1 (qf o)=K:=zN;have t1:=js jb;have q1:qd K1 q=some m.cs:=by rw[<-jb];exact gq _
 have x1:=zJ jb;have x2:=zJ w;have l:=x1.trans x2 (NewL.refl _ _);have q2:qd K q=some m.cs:=l.get r0 wE;have b2:qd K m.bi=some (qf m.b):=l.get h.bytes wE;obtain⟨p1,kL⟩:∃p,p=K1.length:=⟨_,rfl⟩;have g1:qd K p1=some (qf o):=by rw[<-w,kL,zo]
 have N:RowA K 1 (.osl p1 272 0 272 1) (qf o) [p1]:=by
  have:=RowA.of (H:=K) (k:=1) (n:=272) (cs:=qf o) (by simp[G]) g1;rw[qaT,G] at this;exact this
 have ae:((qf m.b).drop 272).length=z:=wG
 obtain⟨d,T,L,hA,hR,hX,hN⟩:=N.append (P:=Tryz.prog) (st:=63) (xt:=63) (e:=5) (x:=.osl m.bi m.b.length 272 z 1) (xs:=(qf m.b).drop 272) (m:=z) wE wE (by have ht:List.take z (List.drop 272 (qf m.b))=List.drop 272 (qf m.b):=qJ wC;have hb:272+z<=m.b.length:=wC;simp[-qd,b2,ht,hb]) wE wC (by rw[ae];omega) wC wM wM;have W:qf o++(qf m.b).drop 272=qf (o++m.b.drop 272):=wW
 rw[W] at hR;have Q:(o++m.b.drop 272).length=m.b.length:=by simp[G];omega
 obtain⟨S,hS⟩:∃S,S=o++m.b.drop 272:=⟨_,rfl⟩;rw[<-hS] at hR Q;obtain⟨r,j,rfl,hj,ag,hL⟩:=hR.own (by intro h0;have:=congrArg List.length h0;simp at this;rw[this] at Q;simp at Q;omega);rw[qaT,Nat.mul_one] at hj;subst hj;rw[qaT] at hA;simp[-qd,-qn,-qr,-qG,Tryz.f28,r0,qE,zo,qdr,<-t,O,V,aa,Y,M,s2,l2,w1,w2,s3,l3,t3,gq,ac,u,R,F,<-hz,jb,zN,t1,q1,q2,<-kL,hA,ag]
 have av:H.length<=r:=by
  rcases hN r (by rw[hL];simp) with y|y
  .rw[List.mem_singleton.1 y,kL];exact x1.len
  .have:=l.len;omega
 have aq:H.length<=p1:=by rw[kL];exact x1.len
 have zc:=quc T r;have ai:=A.ds;have ah:=A.fs;have g:∀i,i<20->i≠1->(ns.set 1 (.int .u64 (z:Nat)))[i]?=m.cs[119+i]?:=fun i hi hn=>by rw[List.getElem?_set_ne (Ne.symm hn),qS i hi]
 have aj:(ns.set 1 (.int .u64 (z:Nat)))[1]?=some (.int .u64 (z:Nat)):=by rw[List.getElem?_set_self wC]
 have Z:=q3i (r:=m.b.drop 272) (key:=m.key) hB ((g 0 wC wC).trans h.c119) aj ((g 2 wC wC).trans h.c121) ((g 3 wC wC).trans h.c122) ((g 4 wC wC).trans h.c123) ((g 5 wC wC).trans h.c124) ((g 8 wC wC).trans h.c127) ai.1 ah.1 A.ft (n:=m.b.length) (by rw[<-hS];exact Q) A.bl A.bmod wC wC;rw[<-hS] at Z;refine⟨_,S,⟨⟨rfl,rfl⟩,rfl⟩,⟨?_,fun i hi _=>?_⟩,Q,Z⟩
 .have e1:=l.len;have e2:=hX.len;have e3:=zc.len;exact zI e1 (zI e2 e3)
 .have e1:=l.len;have e2:=hX.len;have e4:=zc.out i wC wG;have e5:=hX.out i wC wG;have e6:=l.out i hi wE;exact e4.trans (e5.trans e6)
theorem q1C{H:qe}{q:Nat}{m:Jm}(h:JmW H q m)(v:Nat)(g:v<18446744073709551616):JmW (qn H q (m.cs.set 127 (.int .u64 (v:Nat)))) q {m with cs:=(m.cs.set 127 (.int .u64 (v:Nat))),ne:=v}:=by
 obtain⟨o,u,t⟩:=KU h;have l:127<m.cs.length:=xL
 have d:∀{j:Nat}{x:D},127≠j->m.cs[j]?=some x->(m.cs.set 127 (.int .u64 (v:Nat)))[j]?=some x:=fun i hx=>qbG i hx
 exact{h with
  root:=zk (qx h.root)
  len:=xJ
  file:=xI
  ids:=by
   obtain⟨a,b,c,e,r⟩:=h.ids;refine⟨a,b,c,e,?_⟩;simp only;rw[List.drop_set,if_neg wC,List.take_set_of_le wC];exact r
  c48:=d wC h.c48
  c49:=d wC h.c49
  c50:=d wC h.c50
  c51:=d wC h.c51
  c52:=d wC h.c52
  c53:=d wC h.c53
  c54:=d wC h.c54
  c119:=d wC h.c119
  c121:=d wC h.c121
  c122:=d wC h.c122
  c123:=d wC h.c123
  c124:=d wC h.c124
  c127:=xY
  c128:=d wC h.c128
  c143:=d wC h.c143
  c144:=d wC h.c144
  c145:=d wC h.c145
  c146:=d wC h.c146
  nums:=fun j s p=>by
   by_cases n:127=j
   .subst n;exact⟨_,xY,v,rfl,g⟩
   .obtain⟨x,hx,f⟩:=h.nums j s p;exact⟨x,d n hx,f⟩
  c139:=by obtain⟨v,g,k⟩:=h.c139;exact⟨v,d wC g,k⟩
  c140:=by obtain⟨v,g,k⟩:=h.c140;exact⟨v,d wC g,k⟩
  c141:=xy
  c142:=yA
  free:=qcz h.free (fun _=>rfl)
  bytes:=by rw[zW o];exact h.bytes
  rowD:=h.rowD.ext (Ext.set H q _) (fun j i e=>u xf)
  rowF:=h.rowF.ext (Ext.set H q _) (fun j i e=>t xf)}
theorem q1A{H:qe}{q:Nat}{m:Jm}(h:JmW H q m)(v:Nat)(g:v<18446744073709551616):JmW (qn H q (m.cs.set 128 (.int .u64 (v:Nat)))) q {m with cs:=(m.cs.set 128 (.int .u64 (v:Nat))),tl:=v}:=by
 obtain⟨o,u,t⟩:=KU h;have l:128<m.cs.length:=xL
 have d:∀{j:Nat}{x:D},128≠j->m.cs[j]?=some x->(m.cs.set 128 (.int .u64 (v:Nat)))[j]?=some x:=fun i hx=>qbG i hx
 exact{h with
  root:=zk (qx h.root)
  len:=xJ
  file:=xI
  ids:=by
   obtain⟨a,b,c,e,r⟩:=h.ids;refine⟨a,b,c,e,?_⟩;simp only;rw[List.drop_set,if_neg wC,List.take_set_of_le wC];exact r
  c48:=d wC h.c48
  c49:=d wC h.c49
  c50:=d wC h.c50
  c51:=d wC h.c51
  c52:=d wC h.c52
  c53:=d wC h.c53
  c54:=d wC h.c54
  c119:=d wC h.c119
  c121:=d wC h.c121
  c122:=d wC h.c122
  c123:=d wC h.c123
  c124:=d wC h.c124
  c127:=d wC h.c127
  c128:=xY
  c143:=d wC h.c143
  c144:=d wC h.c144
  c145:=d wC h.c145
  c146:=d wC h.c146
  nums:=fun j s p=>by
   by_cases n:128=j
   .subst n;exact⟨_,xY,v,rfl,g⟩
   .obtain⟨x,hx,f⟩:=h.nums j s p;exact⟨x,d n hx,f⟩
  c139:=by obtain⟨v,g,k⟩:=h.c139;exact⟨v,d wC g,k⟩
  c140:=by obtain⟨v,g,k⟩:=h.c140;exact⟨v,d wC g,k⟩
  c141:=xy
  c142:=yA
  free:=qcz h.free (fun _=>rfl)
  bytes:=by rw[zW o];exact h.bytes
  rowD:=h.rowD.ext (Ext.set H q _) (fun j i e=>u xf)
  rowF:=h.rowF.ext (Ext.set H q _) (fun j i e=>t xf)}
theorem q19{H:qe}{q:Nat}{m:Jm}(h:JmW H q m)(v:Nat)(i:v<4294967296):JmW (qn H q (m.cs.set 139 (.int .u32 (v:Nat)))) q {m with cs:=(m.cs.set 139 (.int .u32 (v:Nat)))}:=by
 obtain⟨k,t,s⟩:=KU h;have l:139<m.cs.length:=xL
 have d:∀{j:Nat}{x:D},139≠j->m.cs[j]?=some x->(m.cs.set 139 (.int .u32 (v:Nat)))[j]?=some x:=fun g hx=>qbG g hx
 exact{h with
  root:=zk (qx h.root)
  len:=xJ
  file:=xI
  ids:=by
   obtain⟨a,b,c,e,o⟩:=h.ids;refine⟨a,b,c,e,?_⟩;simp only;rw[List.drop_set,if_neg wC,List.take_set_of_le wC];exact o
  c48:=d wC h.c48
  c49:=d wC h.c49
  c50:=d wC h.c50
  c51:=d wC h.c51
  c52:=d wC h.c52
  c53:=d wC h.c53
  c54:=d wC h.c54
  c119:=d wC h.c119
  c121:=d wC h.c121
  c122:=d wC h.c122
  c123:=d wC h.c123
  c124:=d wC h.c124
  c127:=d wC h.c127
  c128:=d wC h.c128
  c143:=d wC h.c143
  c144:=d wC h.c144
  c145:=d wC h.c145
  c146:=d wC h.c146
  nums:=fun j r n=>by
   obtain⟨x,hx,f⟩:=h.nums j r n;exact⟨x,d wC hx,f⟩
  c139:=⟨v,xY,i⟩
  c140:=by obtain⟨v,i,p⟩:=h.c140;exact⟨v,d wC i,p⟩
  c141:=xy
  c142:=yA
  free:=qcz h.free (fun _=>rfl)
  bytes:=by rw[zW k];exact h.bytes
  rowD:=h.rowD.ext (Ext.set H q _) (fun j g e=>t yG)
  rowF:=h.rowF.ext (Ext.set H q _) (fun j g e=>s yG)}
theorem q16{H:qe}{q:Nat}{m:Jm}(h:JmW H q m)(v:Nat)(i:v<4294967296):JmW (qn H q (m.cs.set 140 (.int .u32 (v:Nat)))) q {m with cs:=(m.cs.set 140 (.int .u32 (v:Nat)))}:=by
 obtain⟨k,t,s⟩:=KU h;have l:140<m.cs.length:=xL
 have d:∀{j:Nat}{x:D},140≠j->m.cs[j]?=some x->(m.cs.set 140 (.int .u32 (v:Nat)))[j]?=some x:=fun g hx=>qbG g hx
 exact{h with
  root:=zk (qx h.root)
  len:=xJ
  file:=xI
  ids:=by
   obtain⟨a,b,c,e,o⟩:=h.ids;refine⟨a,b,c,e,?_⟩;simp only;rw[List.drop_set,if_neg wC,List.take_set_of_le wC];exact o
  c48:=d wC h.c48
  c49:=d wC h.c49
  c50:=d wC h.c50
  c51:=d wC h.c51
  c52:=d wC h.c52
  c53:=d wC h.c53
  c54:=d wC h.c54
  c119:=d wC h.c119
  c121:=d wC h.c121
  c122:=d wC h.c122
  c123:=d wC h.c123
  c124:=d wC h.c124
  c127:=d wC h.c127
  c128:=d wC h.c128
  c143:=d wC h.c143
  c144:=d wC h.c144
  c145:=d wC h.c145
  c146:=d wC h.c146
  nums:=fun j r n=>by
   obtain⟨x,hx,f⟩:=h.nums j r n;exact⟨x,d wC hx,f⟩
  c139:=by obtain⟨v,i,p⟩:=h.c139;exact⟨v,d wC i,p⟩
  c140:=⟨v,xY,i⟩
  c141:=xy
  c142:=yA
  free:=qcz h.free (fun _=>rfl)
  bytes:=by rw[zW k];exact h.bytes
  rowD:=h.rowD.ext (Ext.set H q _) (fun j g e=>t yG)
  rowF:=h.rowF.ext (Ext.set H q _) (fun j g e=>s yG)}
theorem q1D{H:qe}{q:Nat}{m:Jm}(h:JmW H q m)(d:List Nat):JmW (qn H q (m.cs.set 146 (.vsl false (qP .u64 d) d.length))) q {m with cs:=(m.cs.set 146 (.vsl false (qP .u64 d) d.length)),mn:=false,main:=d}:=by
 obtain⟨n,u,t⟩:=KU h;have o:146<m.cs.length:=xL
 have f:∀{j:Nat}{x:D},146≠j->m.cs[j]?=some x->(m.cs.set 146 (.vsl false (qP .u64 d) d.length))[j]?=some x:=fun i hx=>qbG i hx
 exact{h with
  root:=zk (qx h.root)
  len:=xJ
  file:=xI
  ids:=by
   obtain⟨a,b,c,e,r⟩:=h.ids;refine⟨a,b,c,e,?_⟩;simp only;rw[List.drop_set,if_neg wC,List.take_set_of_le wC];exact r
  c48:=f wC h.c48
  c49:=f wC h.c49
  c50:=f wC h.c50
  c51:=f wC h.c51
  c52:=f wC h.c52
  c53:=f wC h.c53
  c54:=f wC h.c54
  c119:=f wC h.c119
  c121:=f wC h.c121
  c122:=f wC h.c122
  c123:=f wC h.c123
  c124:=f wC h.c124
  c127:=f wC h.c127
  c128:=f wC h.c128
  c143:=f wC h.c143
  c144:=f wC h.c144
  c145:=f wC h.c145
  c146:=by simp only;rw[List.getElem?_set_self o]
  nums:=fun j s p=>by
   obtain⟨x,hx,g⟩:=h.nums j s p;exact⟨x,f wC hx,g⟩
  c139:=by obtain⟨v,k,l⟩:=h.c139;exact⟨v,f wC k,l⟩
  c140:=by obtain⟨v,k,l⟩:=h.c140;exact⟨v,f wC k,l⟩
  c141:=by obtain⟨x,hx,g⟩:=h.c141;exact⟨x,f wC hx,g⟩
  c142:=by obtain⟨x,hx,g⟩:=h.c142;exact⟨x,f wC hx,g⟩
  free:=qcz h.free (fun hi=>wC)
  bytes:=by rw[zW n];exact h.bytes
  rowD:=h.rowD.ext (Ext.set H q _) (fun j i e=>u xf)
  rowF:=h.rowF.ext (Ext.set H q _) (fun j i e=>t xf)}
theorem q1I{H:qe}{q:Nat}{m:Jm}(h:JmW H q m)(o:ID):JmW (qn H q (List.take 87 m.cs++(qf o.l++List.drop 103 m.cs))) q {m with cs:=(List.take 87 m.cs++(qf o.l++List.drop 103 m.cs))}:=by
 obtain⟨z,F,E⟩:=KU h;have n:(List.take 87 m.cs).length=87:=by rw[jj,h.len];rfl
 have f:∀{j:Nat}{x:D},j<87\/103<=j->m.cs[j]?=some x->(List.take 87 m.cs++(qf o.l++List.drop 103 m.cs))[j]?=some x:=fun{j x} k hx=>by
  rcases k with k|k
  .rw[vJ (by rw[n];exact k),List.getElem?_take_of_lt k,hx]
  .rw[jn (by rw[n];omega),n,jn (by rw[qaT,o.h];omega),qaT,o.h,kX,show 103+(j-87-16)=j from wC,hx]
 exact{h with
  root:=zk (qx h.root)
  len:=by simp only[zp,jj,vr,qaT,o.h,h.len];rfl
  file:=by simp only;rw[List.take_append_of_le_length (by rw[jj,h.len];omega),List.take_take];exact h.file
  ids:=by
   obtain⟨a,b,c,e,g⟩:=h.ids;have u:=a.h;have s:=b.h;have A:=c.h;have G:=e.h;refine⟨a,b,o,e,?_⟩
   have C:List.drop 55 (List.take 87 m.cs)=qf a.l++qf b.l:=by
    have:=congrArg (List.take 32) g;rw[List.take_take] at this;rw[List.drop_take,show 87-55=min 32 64 from rfl,this];simp[Zp,u,s,qJ]
   have e2:List.take 16 (List.drop 103 m.cs)=qf e.l:=by
    have:=congrArg (List.drop 48) g;rw[List.drop_take,ky] at this;rw[show 16=64-48 from rfl,show 103=55+48 from rfl,this];simp[jf,u,s,A,List.drop_of_length_le]
   simp only;have n:(List.take 87 m.cs).length=87:=(by rw[jj,h.len];rfl);rw[List.drop_append_of_le_length wC,C]
   have B:List.take 64 ((qf a.l++qf b.l)++(qf o.l++List.drop 103 m.cs))=(qf a.l++qf b.l)++(qf o.l++List.take 16 (List.drop 103 m.cs)):=by
    simp[Zp,u,s,o.h,qJ]
   rw[B,e2,jY]
  c48:=f wC h.c48
  c49:=f wC h.c49
  c50:=f wC h.c50
  c51:=f wC h.c51
  c52:=f wC h.c52
  c53:=f wC h.c53
  c54:=f wC h.c54
  c119:=f wC h.c119
  c121:=f wC h.c121
  c122:=f wC h.c122
  c123:=f wC h.c123
  c124:=f wC h.c124
  c127:=f wC h.c127
  c128:=f wC h.c128
  c143:=f wC h.c143
  c144:=f wC h.c144
  c145:=f wC h.c145
  c146:=f wC h.c146
  nums:=fun j r y=>by
   obtain⟨x,hx,p⟩:=h.nums j r y;exact⟨x,f wC hx,p⟩
  c139:=by obtain⟨v,t,w⟩:=h.c139;exact⟨v,f wC t,w⟩
  c140:=by obtain⟨v,t,w⟩:=h.c140;exact⟨v,f wC t,w⟩
  c141:=by obtain⟨x,hx,p⟩:=h.c141;exact⟨x,f wC hx,p⟩
  c142:=by obtain⟨x,hx,p⟩:=h.c142;exact⟨x,f wC hx,p⟩
  free:=fun i d hi g=>by
   simp only at g;by_cases r:i<87
   .rw[vJ (by rw[n];exact r),List.getElem?_take_of_lt r] at g;exact h.free i d hi g
   .rw[jn (by rw[n];omega),n] at g;by_cases y:i<103
    .rw[vJ (by rw[qaT,o.h];omega)] at g;obtain⟨c,_,rfl⟩:=List.mem_map.1 (jH g);rfl
    .rw[jn (by rw[qaT,o.h];omega),qaT,o.h,kX] at g;exact h.free i d hi (by rw[show i=103+(i-87-16) from wC];exact g)
  bytes:=by rw[zW z];exact h.bytes
  rowD:=h.rowD.ext (Ext.set H q _) (fun j k e=>F yE)
  rowF:=h.rowF.ext (Ext.set H q _) (fun j k e=>E yE)}
theorem XV:∀(l:List Kn)(j:Nat)(k:Kn),j<l.length->qt (l.set j k)=List.take (j*5) (qt l)++(Enc.cells k++List.drop (j*5+5) (qt l))
 |[],j,k,h=>by simp at h
 |a::l,0,k,_=>by
  have b:(Enc.cells a).length=5:=rfl;simp only[List.set_cons_zero,Nat.zero_mul,List.take_zero,QY,J3];show Enc.cells k++qt l=Enc.cells k++List.drop 5 (Enc.cells a++qt l);rw[KH b]
 |a::l,j+1,k,h=>by
  have b:(Enc.cells a).length=5:=rfl;have c:=XV l j k wQ;simp only[List.set_cons_succ];show Enc.cells a++qt (l.set j k)=List.take ((j+1)*5) (Enc.cells a++qt l)++(Enc.cells k++List.drop ((j+1)*5+5) (Enc.cells a++qt l));rw[c,Zp,jf,b,qJ (l:=Enc.cells a) wC,List.drop_of_length_le (l:=Enc.cells a) wC,show(j+1)*5-5=j*5 from wC,show(j+1)*5+5-5=j*5+5 from wC];simp
theorem q1B{H:qe}{q:Nat}{m:Jm}(h:JmW H q m){j:Nat}(k:Kn){r:Nat}(c:m.Ld=[r])(g:m.dv=.osl r (m.da.length*5) 0 m.da.length 5)(l:(qd H r).isSome=true):JmW (qn H r (qt (m.da.set j k))) q {m with da:=m.da.set j k}:=by
 obtain⟨n,f,o⟩:=KU h;have a:=h.nodup;unfold Jm.names at a;simp only[List.nodup_cons,jI,vj,not_or,List.nodup_append] at a;obtain⟨n1,n2,n3,n4,n5⟩:=a;rw[c] at f n2 n5;obtain⟨ds,b⟩:=Option.isSome_iff_exists.1 l;have d:(qt (m.da.set j k)).length=m.da.length*5:=by rw[ZZ,vI];rfl
 exact{h with
  root:=by rw[zW (fun e=>f (by rw[e];simp))];exact h.root
  bytes:=by rw[zW (fun e=>n2.1 (by rw[e];simp))];exact h.bytes
  rowD:=.inr ⟨r,m.da.length,by simp only;rw[d];exact g,by rw[d],zk (qx b),c⟩
  rowF:=h.rowF.ext (Ext.set H r _) (fun i hi e=>n5 r wE i hi (List.mem_singleton.1 e).symm)}
theorem qfX{H:qe}{r n:Nat}{cs xs:List D}{t e:TypeId}{x:D}(i:qd H r=some cs)(d:Tryz.prog.underlying t=some (.slice e))(f:qw Tryz.prog e=1)(g:bytesOf Tryz.prog e<=100)(b:(VI Tryz.prog e 0).isSome=true)(j:qcS Tryz.prog H e t x=some (xs,n))(a:xs.length=n){c:Nat}(hc:cs.length=c)(h:c+n<=1000000):
  qG Tryz.prog H t t (.osl r c 0 c 1) x=some (.osl r (c+n) 0 (c+n) 1,qn H r (cs++xs)):=by
 obtain⟨z,b⟩:=Option.isSome_iff_exists.1 b;have k:(c+n)*bytesOf Tryz.prog e<=1000000*100:=Nat.mul_le_mul h g;unfold qG;simp only[d,j,b,i,f];rw[if_pos ⟨hc,trivial,Nat.mul_one _,xX,xX⟩,a]
theorem q2C(K:qe)(f:Bool)(w:List Nat)(a k:Nat)(u:a<=w.length)(v:w.length<=1000):
  ∃d T2 j,qG Tryz.prog (qr K []) 23 23 (.osl K.length 0 0 0 1) (.vsl f (List.take a (qP .i64 w)) a)=some (.osl K.length a 0 a 1,d)/\qG Tryz.prog d 23 23 (.osl K.length a 0 a 1) (.vsl false [.int .i64 (k:Nat)] 1)=some (.osl K.length (a+1) 0 (a+1) 1,T2)/\qG Tryz.prog T2 23 23 (.osl K.length (a+1) 0 (a+1) 1) (.vsl f (List.drop a (qP .i64 w)) (w.length-a))=some (.osl K.length (w.length+1) 0 (w.length+1) 1,j)/\qd j K.length=some (qP .i64 (w.take a++k::w.drop a))/\Ext [] K j/\d.length=K.length+1:=by
 have p:qd (qr K []) K.length=some []:=by rw[zo]
 have l:(List.take a (qP .i64 w)).length=a:=wG
 have s:(List.drop a (qP .i64 w)).length=w.length-a:=wE
 have h:=qfX (t:=23) (e:=3) (n:=a) (x:=.vsl f (List.take a (qP .i64 w)) a) (xs:=List.take a (qP .i64 w)) p wE wE wE wE wG l rfl (c:=0) wC;simp only[J3,QY] at h;obtain⟨d,b⟩:=ql (qn (qr K []) K.length (List.take a (qP .i64 w)));rw[b] at h;have o:qd d K.length=some (List.take a (qP .i64 w)):=by rw[<-b];exact zk (qx p)
 have n1:d.length=K.length+1:=by rw[<-b,kK,jg]
 have m:=qfX (t:=23) (e:=3) (n:=1) (x:=.vsl false [.int .i64 (k:Nat)] 1) (xs:=[.int .i64 (k:Nat)]) o wE wE wE wE wE rfl l wC;obtain⟨T2,g⟩:=ql (qn d K.length (List.take a (qP .i64 w)++[.int .i64 (k:Nat)]));rw[g] at m;have q:=kc g o;have r:=qfX (t:=23) (e:=3) (n:=w.length-a) (x:=.vsl f (List.drop a (qP .i64 w)) (w.length-a)) (xs:=List.drop a (qP .i64 w)) q wE wE wE wE wE s (c:=a+1) (by simp<;>omega) wC;rw[show a+1+(w.length-a)=w.length+1 from wC] at r;refine⟨d,T2,_,h,m,r,?_,⟨?_,fun i hi _=>?_⟩,n1⟩
 .rw[zk (qx q)];simp[qP]
 .rw[kK,<-g,kK];omega
 .rw[zW wC,<-g,zW wC,<-b,zW wC,vw hi]
theorem qm8{H:qe}{x y:D}{l:List Nat}(hx:j8 H 9 x=some (y,l)):∀{a:List D},a.all idFree=true->kg (j8 H 9) (a++[x])=some (a++[y],l)
 |[],_=>by simp only[QY,kg,hx,Jd]
 |d::a,b=>by
  simp only[Vc,zX] at b
  have c:j8 H 9 d=some (d,[]):=by
   unfold j8;rw[if_pos b.1]
  simp only[kC,kg,c,qm8 hx b.2,QY]
theorem qyW(K:qe){C:D}{a:List D}{d:List Nat}(E:RowA K 1 C a d)(H:a.all idFree=true)(s:List UInt8)(U:a.length<=100):
  ∃r b t,qG Tryz.prog (qr (qr K (qf s)) [.osl K.length s.length 0 s.length 1]) 199 199 C (.osl (qr K (qf s)).length 1 0 1 1)=some (.osl r (a.length+1) 0 (a.length+1) 1,b)/\ZO b r=some t/\qd t r=some (a++[.vsl false (qf s) s.length])/\Ext d K t/\(r∈d\/K.length<=r):=by
 obtain⟨g,o⟩:=ql (qr K (qf s));have n2:g.length=K.length+1:=by rw[<-o,jg]
 have v:=zJ o;have L:=js o;rw[o];obtain⟨B,k⟩:=ql (qr g [.osl K.length s.length 0 s.length 1]);have l:=zJ k;have G:=js k;rw[k];have Q:=(E.ext v (fun _ _=>wE)).ext l (fun _ _=>wE);obtain⟨T,b,N,I,z,y,n4⟩:=Q.append (P:=Tryz.prog) (st:=199) (xt:=199) (e:=63) (x:=.osl g.length 1 0 1 1) (xs:=[.osl K.length s.length 0 s.length 1]) (m:=1) wE wE (by simp[-qd,G]) wE wC wE wC wM wM;obtain⟨r,n,rfl,j,f,q⟩:=z.own wE;have J:n=a.length+1:=by simp at j;omega
 subst J;have F:∀i,i∈d->i<K.length:=fun i hi=>E.lt hi;have p:r∈N:=by rw[q];simp
 have u:r∈d\/B.length<=r:=n4 r p;have n3:B.length=g.length+1:=by rw[<-k,jg]
 have R:qd b K.length=some (qf s):=y.get (l.get L wE) (fun hc=>by have:=F _ hc;omega)
 have O:K.length≠r:=fun e=>by
  rcases u with h|h
  .have:=F _ h;omega
  .omega
 have A:j8 b 9 (.osl K.length s.length 0 s.length 1)=some (.vsl false (qf s) s.length,[K.length]):=by
  unfold j8;rw[if_neg xC];simp only[R];rw[if_pos ⟨wE,wC⟩,if_pos (by rw[Qv];simp[qf,idFree])];simp
 have M:¬(a++[D.osl K.length s.length 0 s.length 1]).all idFree=true:=xC
 have c:ZO b r=some (qn (jT b [K.length]) r (a++[.vsl false (qf s) s.length])):=by
  unfold ZO;simp only[f];rw[if_neg M,qm8 A H];simp only;rw[if_neg (by simp only[qfG];exact fun e=>O e.symm)]
 refine⟨r,b,_,?_,c,?_,⟨?_,fun i hi j=>?_⟩,?_⟩
 .rw[I];simp
 .exact zk (by rw[QE];exact qx f)
 .rw[kK,QE];have S:=v.len;have e2:=l.len;have V:=y.len;omega
 .have w:i≠r:=fun e=>by
   rcases u with h|h
   .exact j (e▸h)
   .omega
  rw[zW w,VB (by simp only[qfG];omega),y.out i wC j,l.out i wC wE,v.out i hi wE]
 .rcases u with h|h
  .exact .inl h
  .exact .inr wC
def jz(cf ids:List D)(v0 v1:Nat)(st:Int)(n0 n2 n3 n4 n5 n6 n7 n9:Nat)(bd:D):List D:=
 cf++(.int .u32 v0:: .int .u32 v1:: .int .i64 st::(ids++(.int .u64 n0::.int .u64 0::.int .u64 n2::.int .u64 n3::.int .u64 n4::.int .u64 n5::.int .u64 n6::.int .u64 n7::.int .u64 0::.int .u64 n9::ku [.int .u32 0,.int .u32 0,.int .u64 0,.int .u64 0,bd,.vsl true [] 0,.vsl true [] 0,.vsl true [] 0])))
section
variable {cf ids:List D} (hc:cf.length=52) (hi:ids.length=64) (v0 v1:Nat) (st:Int) (n0 n2 n3 n4 n5 n6 n7 n9:Nat) (bd:D)
include hc hi
theorem QP:(jz cf ids v0 v1 st n0 n2 n3 n4 n5 n6 n7 n9 bd).length=147:=by simp[jz,hc,hi]
theorem qk4(x:D):List.take 143 (jz cf ids v0 v1 st n0 n2 n3 n4 n5 n6 n7 n9 bd)++x::List.drop 144 (jz cf ids v0 v1 st n0 n2 n3 n4 n5 n6 n7 n9 bd)=jz cf ids v0 v1 st n0 n2 n3 n4 n5 n6 n7 n9 x:=by
 rw[vu xD];simp[jz,hc,hi]
theorem q1y(x:Nat):List.take 119 (jz cf ids v0 v1 st n0 n2 n3 n4 n5 n6 n7 n9 bd)++D.int .u64 x::List.drop 120 (jz cf ids v0 v1 st n0 n2 n3 n4 n5 n6 n7 n9 bd)=jz cf ids v0 v1 st x n2 n3 n4 n5 n6 n7 n9 bd:=by
 rw[vu xD];simp[jz,hc,hi]
theorem q1x(x:Nat):List.take 121 (jz cf ids v0 v1 st n0 n2 n3 n4 n5 n6 n7 n9 bd)++D.int .u64 x::List.drop 122 (jz cf ids v0 v1 st n0 n2 n3 n4 n5 n6 n7 n9 bd)=jz cf ids v0 v1 st n0 x n3 n4 n5 n6 n7 n9 bd:=by
 rw[vu xD];simp[jz,hc,hi]
theorem q1w(x:Nat):List.take 122 (jz cf ids v0 v1 st n0 n2 n3 n4 n5 n6 n7 n9 bd)++D.int .u64 x::List.drop 123 (jz cf ids v0 v1 st n0 n2 n3 n4 n5 n6 n7 n9 bd)=jz cf ids v0 v1 st n0 n2 x n4 n5 n6 n7 n9 bd:=by
 rw[vu xD];simp[jz,hc,hi]
theorem q1v(x:Nat):List.take 123 (jz cf ids v0 v1 st n0 n2 n3 n4 n5 n6 n7 n9 bd)++D.int .u64 x::List.drop 124 (jz cf ids v0 v1 st n0 n2 n3 n4 n5 n6 n7 n9 bd)=jz cf ids v0 v1 st n0 n2 n3 x n5 n6 n7 n9 bd:=by
 rw[vu xD];simp[jz,hc,hi]
theorem q1u(x:Nat):List.take 124 (jz cf ids v0 v1 st n0 n2 n3 n4 n5 n6 n7 n9 bd)++D.int .u64 x::List.drop 125 (jz cf ids v0 v1 st n0 n2 n3 n4 n5 n6 n7 n9 bd)=jz cf ids v0 v1 st n0 n2 n3 n4 x n6 n7 n9 bd:=by
 rw[vu xD];simp[jz,hc,hi]
theorem q1t(x:Nat):List.take 125 (jz cf ids v0 v1 st n0 n2 n3 n4 n5 n6 n7 n9 bd)++D.int .u64 x::List.drop 126 (jz cf ids v0 v1 st n0 n2 n3 n4 n5 n6 n7 n9 bd)=jz cf ids v0 v1 st n0 n2 n3 n4 n5 x n7 n9 bd:=by
 rw[vu xD];simp[jz,hc,hi]
theorem q1s(x:Nat):List.take 126 (jz cf ids v0 v1 st n0 n2 n3 n4 n5 n6 n7 n9 bd)++D.int .u64 x::List.drop 127 (jz cf ids v0 v1 st n0 n2 n3 n4 n5 n6 n7 n9 bd)=jz cf ids v0 v1 st n0 n2 n3 n4 n5 n6 x n9 bd:=by
 rw[vu xD];simp[jz,hc,hi]
theorem q1r(x:Nat):List.take 128 (jz cf ids v0 v1 st n0 n2 n3 n4 n5 n6 n7 n9 bd)++D.int .u64 x::List.drop 129 (jz cf ids v0 v1 st n0 n2 n3 n4 n5 n6 n7 n9 bd)=jz cf ids v0 v1 st n0 n2 n3 n4 n5 n6 n7 x bd:=by
 rw[vu xD];simp[jz,hc,hi]
theorem q1q(x:Nat):List.take 53 (jz cf ids v0 v1 st n0 n2 n3 n4 n5 n6 n7 n9 bd)++D.int .u32 x::List.drop 54 (jz cf ids v0 v1 st n0 n2 n3 n4 n5 n6 n7 n9 bd)=jz cf ids v0 x st n0 n2 n3 n4 n5 n6 n7 n9 bd:=by
 rw[vu xD];simp[jz,hc]
end
theorem q1E{T:qe}{q bi:Nat}{A B S:ID}{ds fs n1 aft:Nat}{key:Bool}{b:List UInt8}{cf I:List D}(k:cf=qf A.l++(qf B.l++(qf S.l++[.int .i64 (ds:Nat),.int .i64 (fs:Nat),.int .i64 32768,.bool key])))(y:I=qf A.l++(qf B.l++(qf (List.replicate 16 0)++qf S.l)))
  (hq:qd T q=some (jz cf I 2 (if key then 4 else 0) 1 272 288 (16*ds) (n1+16) (16*fs) n1 2 aft (.osl bi b.length 0 b.length 1))) (hb:qd T bi=some (qf b)) (qQ:q≠bi) (aa:aft<18446744073709551616) (vi:n1<1000000) (ae:ds<=64) (ac:fs<=64):
  JmW T q ⟨jz cf I 2 (if key then 4 else 0) 1 272 288 (16*ds) (n1+16) (16*fs) n1 2 aft (.osl bi b.length 0 b.length 1),b,[],[],ds,fs,key,A,n1+16,0,aft,true,[],.vsl true [] 0,.vsl true [] 0,bi,[],[]⟩:=by
 have m:=A.h;have n:=B.h;have o:=S.h;have f:cf.length=52:=by rw[k];simp[m,n,o]
 have g:I.length=64:=by rw[y];simp[m,n,o]
 have hz:(ID.mk (List.replicate 16 0) wE).l=List.replicate 16 0:=rfl
 exact{
  root:=hq
  len:=QP f g ..
  file:=by simp only[jz];rw[List.take_append_of_le_length wC,k];simp[m]
  c48:=yC
  c49:=yC
  c50:=yC
  c51:=yC
  c52:=wZ
  c53:=by cases key<;>simp[jz,f,g]
  c54:=wZ
  ids:=by
   refine⟨A,B,⟨List.replicate 16 0,wE⟩,S,?_⟩;rw[hz,<-y];simp[jz,jf,List.drop_of_length_le,f,g]
  c119:=wZ
  c121:=wZ
  c122:=wZ
  c123:=wZ
  c124:=wZ
  c127:=wZ
  c128:=wZ
  nums:=fun i h1 h2=>by
   obtain⟨j,rfl⟩:∃j,i=119+j:=⟨i-119,wC⟩;have hj:j<20:=wC
   have e:∀(l:List D),(cf++(.int .u32 ((2:Nat):Int):: .int .u32 ((if key then 4 else 0:Nat):Int):: .int .i64 1::(I++l)))[119+j]?=l[j]?:=fun l=>by
    rw[jn wC,f,show 119+j-52=64+j+1+1+1 from wC,qeF,qeF,qeF,jn wC,g,show 64+j-64=j from wC]
   simp only[jz];rw[e];have w:j=0\/j=1\/j=2\/j=3\/j=4\/j=5\/j=6\/j=7\/j=8\/j=9\/j=10\/j=11\/j=12\/j=13\/j=14\/j=15\/j=16\/j=17\/j=18\/j=19:=wC;rcases w with rfl|rfl|rfl|rfl|rfl|rfl|rfl|rfl|rfl|rfl|rfl|rfl|rfl|rfl|rfl|rfl|rfl|rfl|rfl|rfl<;>first|exact⟨_,rfl,0,rfl,wH⟩|exact⟨_,rfl,272,rfl,wH⟩|exact⟨_,rfl,288,rfl,wH⟩|exact⟨_,rfl,2,rfl,wH⟩|exact⟨_,rfl,_,rfl,wC⟩
  c139:=⟨0,wZ,wC⟩
  c140:=⟨0,wZ,wC⟩
  c141:=⟨_,wZ,0,rfl,wC⟩
  c142:=⟨_,wZ,0,rfl,wC⟩
  c143:=wZ
  c144:=wZ
  c145:=wZ
  c146:=by simp[jz,f,g,qP]
  bytes:=hb
  rowD:=RowA.nil _ _
  rowF:=RowA.nil _ _
  nodup:=by simp[Jm.names,qQ]
  free:=fun i d hi s=>by
   simp only[jz] at s;by_cases h1:i<52
   .rw[vJ wC] at s;have:=jH s;rw[k] at this;simp only[vj,jI,List.not_mem_nil,or_false,qf,ZM] at this;rcases this with⟨_,_,rfl⟩|⟨_,_,rfl⟩|⟨_,_,rfl⟩|rfl|rfl|rfl|rfl<;>rfl
   .rw[jn wC,f] at s;by_cases h2:i<143
    .have hm:∃X,(.int .u32 ((2:Nat):Int):: .int .u32 ((if key then 4 else 0:Nat):Int):: .int .i64 1::(I++(D.int .u64 ((272:Nat):Int)::.int .u64 0::.int .u64 ((288:Nat):Int)::.int .u64 ((16*ds:Nat):Int)::.int .u64 ((n1+16:Nat):Int)::.int .u64 ((16*fs:Nat):Int)::.int .u64 (n1:Int)::.int .u64 ((2:Nat):Int)::.int .u64 0::.int .u64 (aft:Int)::.int .u64 0::.int .u64 0::.int .u64 0::.int .u64 0::.int .u64 0::.int .u64 0::.int .u64 0::.int .u64 0::.int .u64 0::.int .u64 0::[.int .u32 0,.int .u32 0,.int .u64 0,.int .u64 0])))=X/\X.length=91:=⟨_,rfl,by simp[g]⟩;obtain⟨X,x,lX⟩:=hm
     have z:X[i-52]?=some d:=by
      rw[<-s,<-x];have:=lX;rw[<-x] at this;have v:∀(l r:List D),(.int .u32 ((2:Nat):Int):: .int .u32 ((if key then 4 else 0:Nat):Int):: .int .i64 1::(I++(l++r)):List D)=(.int .u32 ((2:Nat):Int):: .int .u32 ((if key then 4 else 0:Nat):Int):: .int .i64 1::(I++l))++r:=fun l r=>by simp
      rw[show∀a b c C P O J M U d7 N H:D,∀F e2 v E Z Q L Y V t u p K R G W:D,[a,b,c,C,P,O,J,M,U,d7,N,H,F,e2,v,E,Z,Q,L,Y,V,t,u,p,K,R,G,W]=[a,b,c,C,P,O,J,M,U,d7,N,H,F,e2,v,E,Z,Q,L,Y,V,t,u,p]++[K,R,G,W] from by intros;rfl,v,vJ wC]
     have:=jH z;rw[<-x] at this;simp only[vj,jI,List.not_mem_nil,or_false] at this;rw[y] at this;simp only[vj,qf,ZM] at this;rcases this with rfl|rfl|rfl|(⟨_,_,rfl⟩|⟨_,_,rfl⟩|⟨_,_,rfl⟩|⟨_,_,rfl⟩)|h
     all_goals first
      |rfl
      |(repeat' (first|(rcases h with rfl|h;· rfl)|(subst h;rfl)))
    .omega}
theorem q15[MaxL][TxtC](H:qe)(A B S:ID)(ds fs:Nat)(cZ:1<=ds/\ds<=64)(cS:1<=fs/\fs<=64)(key:Bool)(aft:Nat)(bR:aft<18446744073709551616):
  ∃T q m,call cx 54 [.agg (qf A.l++(qf B.l++(qf S.l++[.int .i64 (ds:Nat),.int .i64 (fs:Nat),.int .i64 32768,.bool key]))),.int .u64 aft] H=some (.optr q 147 0,T)/\JmW T q m/\m.Ok/\Ext [] H T/\(∀i,i∈m.names q->H.length<=i)/\m.ne=0/\m.tl=aft/\m.b.length=304+16*ds+16*fs/\m.da=[]/\m.fi=[]/\m.main=[]:=by
 suffices hs:∃r,call cx 54 [.agg (qf A.l++(qf B.l++(qf S.l++[.int .i64 (ds:Nat),.int .i64 (fs:Nat),.int .i64 32768,.bool key]))),.int .u64 aft] H=some r/\∃(T:qe)(q:Nat)(m:Jm),r=(.optr q 147 0,T)/\JmW T q m/\m.Ok/\Ext [] H T/\(∀i,i∈m.names q->H.length<=i)/\m.ne=0/\m.tl=aft/\m.b.length=304+16*ds+16*fs/\m.da=[]/\m.fi=[]/\m.main=[] by
  obtain⟨r,hc,T,q,m,rfl,h1⟩:=hs;exact⟨T,q,m,hc,h1⟩
 refine vz (X:=cx) (f:=54) _ Tryz.func54 rfl ⟨rfl,rfl⟩ ?_;obtain⟨cf,QU⟩:∃c,c=qf A.l++(qf B.l++(qf S.l++[.int .i64 (ds:Nat),.int .i64 (fs:Nat),.int .i64 32768,.bool key])):=⟨_,rfl⟩;have la:=A.h;have lb:=B.h;have ls:=S.h;have a:cf.length=52:=by rw[QU];simp[la,lb,ls]
 rw[<-QU];obtain⟨g,jb⟩:=ql (qr H cf);have g1:=js jb;have bE:cf.all idFree=true:=by rw[QU];simp[qf,idFree]
 have cD:=zca bE;have df:∀X,qd (qr g X) H.length=some cf:=fun X=>by rw[vw (qx g1)];exact g1
 obtain⟨v,zN⟩:=ql (qr g (qM (qM (qM (qM (qM (qM (qM (qM (qM (qM (qM (qM (qM (qM (qM (qM (qM []))))))))))))))))))
 have g2:qd v g.length=some (qf (List.replicate 272 0)):=by
  rw[<-zN,zo];rfl
 have x1:=zJ jb;have x2:=zJ zN;have cY:qd v H.length=some cf:=x2.get g1 wE;have aQ:(272:Int)<=(qF:Int):=wH
 have bM:List.take 52 cf=cf:=qJ wC;obtain⟨Zm,ah⟩:∃Z,Z=(D.int .u32 0::.int .u32 0::.int .i64 0::qM (qM (qM (qM (ku (ku [.int .u32 0,.int .u32 0,.int .u64 0,.int .u64 0,.vsl true [] 0,.vsl true [] 0,.vsl true [] 0,.vsl true [] 0])))))):=⟨_,rfl⟩;have cX:Zm.all idFree=true:=by rw[ah];simp[idFree]
 have bY:Zm.length=95:=by rw[ah];rfl
 have fA:∀x,x∈cf++Zm->∀n,closed n x=true:=fun x hx n=>Vj x (by
  rcases List.mem_append.1 hx with h|h
  .exact List.all_eq_true.1 bE x h
  .exact List.all_eq_true.1 cX x h)
 have ct:∀n k,(∀x,x∈List.take k (cf++Zm)->closed n x=true)=True:=fun n k=>eq_true fun x hx=>fA x (QZ hx) n;have cd:∀n k,(∀x,x∈List.drop k (cf++Zm)->closed n x=true)=True:=fun n k=>eq_true fun x hx=>fA x (Z0 hx) n;obtain⟨I0,cP⟩:∃I,I=qf (List.replicate 64 0):=⟨_,rfl⟩;have y:I0.length=64:=by rw[cP];rfl
 have ez:cf++Zm=jz cf I0 0 0 0 0 0 0 0 0 0 0 0 (.vsl true [] 0):=by rw[ah,cP];rfl
 have s1:=qk4 a y 0 0 0 0 0 0 0 0 0 0 0 (.vsl true [] 0) (.osl g.length 272 0 272 1);rw[<-ez] at s1;obtain⟨C1,V8⟩:=ql (jz cf I0 0 0 0 0 0 0 0 0 0 0 0 (.osl g.length 272 0 272 1));rw[V8] at s1;obtain⟨K3,ZF⟩:=ql (qr v C1);have cQ:g.length<v.length:=qx g2;have bt:C1.length=147:=by rw[<-V8];exact QP a y ..
 have cp:(∀x,x∈C1->closed v.length x=true)=True:=eq_true fun x hx=>by
  rw[<-s1] at hx;rcases List.mem_append.1 hx with h|h
  .exact fA x (QZ h) _
  .rcases List.mem_cons.1 h with rfl|h
   .simp[closed];exact cQ
   .exact fA x (Z0 h) _
 have g3:=js ZF;have x3:=zJ ZF;have bn:qd K3 H.length=some cf:=x3.get cY wE;have R:∀{v1:Nat}{st:Int}{v0:Nat}{n0 n2 n3 n4 n5 n6 n7 n9:Nat}{bd:D}{ids:List D},ids.length=64->List.drop 143 (jz cf ids v0 v1 st n0 n2 n3 n4 n5 n6 n7 n9 bd)=bd::List.drop 144 (jz cf ids v0 v1 st n0 n2 n3 n4 n5 n6 n7 n9 bd):=fun h=>by simp[jz,jf,List.drop_of_length_le,a,h]
 have ag:=R (v1:=0) (st:=0) (v0:=0) (n0:=0) (n2:=0) (n3:=0) (n4:=0) (n5:=0) (n6:=0) (n7:=0) (n9:=0) (bd:=.osl g.length 272 0 272 1) y;rw[V8] at ag;have bA:List.drop 48 cf=.int .i64 (ds:Nat)::List.drop 49 cf:=yB
 have bW:List.drop 49 cf=.int .i64 (fs:Nat)::List.drop 50 cf:=yB
 obtain⟨B0,cH⟩:∃b:List UInt8,b=List.replicate 272 0:=⟨_,rfl⟩;have bU:B0.length=272:=by rw[cH];simp
 rw[<-cH] at g2;have ce:qd K3 g.length=some (qf B0):=x3.get g2 wE;have aC:=g3;have bN:=bn;have dg:H.length<g.length:=qx g1;obtain⟨za,aB⟩:=ql ((List.replicate ds [D.int .u64 0,D.int .u64 0]).flatten);have bp:za.length=ds*2:=by rw[<-aB];simp
 have bb:JD za:=fun d N=>by
  rw[<-aB] at N;obtain⟨l,hl,N⟩:=List.mem_flatten.1 N;rw[(List.mem_replicate.1 hl).2] at N;simp only[jI,List.not_mem_nil,or_false,or_self] at N;exact⟨0,N,wC⟩
 have cG:idFree.idFreeL za=true:=by rw[Qv];exact qer bb
 have cj:(∀x,x∈za->idFree x=true)=True:=eq_true fun x hx=>qk8 (bb x hx);have bB:List.take (ds*2) za=za:=qJ wC;have aN:16*(ds:Int)<=(qF:Int)/\ds<=qF:=xX
 obtain⟨K4,Xn⟩:=ql (qr K3 za);have bQ:=js Xn;obtain⟨K5,kR⟩:=ql (jT K4 [K3.length]);have aJ:List.set K4 K3.length none=K5:=kR
 have P:Ext [] K3 K5:=by
  refine⟨?_,fun j hj _=>?_⟩
  .rw[<-kR,QE,<-Xn,jg];omega
  .rw[<-kR,VB wG,<-Xn,vw hj]
 obtain⟨_,aF,tb,de,rfl⟩:=qnN 4 (.inl rfl) false za ds bb bp wE wC wC;replace aF:call cx 97 [.int .i64 4,.vsl false za ds] []=some (.vsl false (qf tb) tb.length,[]):=aF;have av:qd K5 g.length=some (qf B0):=P.get ce wE;have au:=qfX (t:=63) (e:=5) (n:=tb.length) (x:=.vsl false (qf tb) tb.length) (xs:=qf tb) av wE wE wE wE wE wE (c:=272) (by simp[bU]) wC;obtain⟨n1,vi⟩:=ql (272+tb.length);obtain⟨B1,cw⟩:∃b,b=B0++tb:=⟨_,rfl⟩;have bV:B1.length=n1:=by rw[cw,zp,bU,vi]
 rw[<-qkb,<-cw,vi] at au;obtain⟨K6,Qk⟩:=ql (qn K5 g.length (qf B1));rw[Qk] at au;have aj:=vZ Qk;have bo:qd K6 v.length=some C1:=aj.get (P.get aC wE) wG;have cC:g.length<K6.length:=aj.lt (P.lt (qx ce));have cq:qd K6 H.length=some cf:=aj.get (P.get bN wE) wG;have aw:=qk4 a y 0 0 0 0 0 0 0 0 0 0 0 (.osl g.length 272 0 272 1) (.osl g.length n1 0 n1 1);rw[V8] at aw;obtain⟨C2,jK⟩:=ql (jz cf I0 0 0 0 0 0 0 0 0 0 0 0 (.osl g.length n1 0 n1 1));rw[jK] at aw;have cO:C2.length=147:=by rw[<-jK];exact QP a y ..
 have aY:=R (v1:=0) (st:=0) (v0:=0) (n0:=0) (n2:=0) (n3:=0) (n4:=0) (n5:=0) (n6:=0) (n7:=0) (n9:=0) (bd:=.osl g.length n1 0 n1 1) y;rw[jK] at aY;obtain⟨K7,aD⟩:=ql (qn K6 v.length C2);have bc:=vZ aD;have L:=kc aD bo;have bI:qd K7 g.length=some (qf B1):=bc.get (by rw[<-Qk];exact zk (qx av)) wG;have W:qd K7 H.length=some cf:=bc.get cq wG;obtain⟨zb,aE⟩:=ql ((List.replicate fs [D.int .u64 0,D.int .u64 0]).flatten);have bh:zb.length=fs*2:=by rw[<-aE];simp
 have aV:JD zb:=fun d N=>by
  rw[<-aE] at N;obtain⟨l,hl,N⟩:=List.mem_flatten.1 N;rw[(List.mem_replicate.1 hl).2] at N;simp only[jI,List.not_mem_nil,or_false,or_self] at N;exact⟨0,N,wC⟩
 have cK:idFree.idFreeL zb=true:=by rw[Qv];exact qer aV
 have cN:(∀x,x∈zb->idFree x=true)=True:=eq_true fun x hx=>qk8 (aV x hx);have bu:List.take (fs*2) zb=zb:=qJ wC;have aI:16*(fs:Int)<=(qF:Int)/\fs<=qF:=xX
 obtain⟨K8,Ks⟩:=ql (qr K7 zb);have cg:=js Ks;obtain⟨K9,Xm⟩:=ql (jT K8 [K7.length]);have bG:List.set K8 K7.length none=K9:=Xm
 have O:Ext [] K7 K9:=by
  refine⟨?_,fun j hj _=>?_⟩
  .rw[<-Xm,QE,<-Ks,jg];omega
  .rw[<-Xm,VB wG,<-Ks,vw hj]
 obtain⟨_,aA,tc,dc,rfl⟩:=qnN 5 (.inr rfl) false zb fs aV bh wE wC wC;replace aA:call cx 97 [.int .i64 5,.vsl false zb fs] []=some (.vsl false (qf tc) tc.length,[]):=aA;have ay:qd K9 g.length=some (qf B1):=O.get bI wE;have J:=qfX (t:=63) (e:=5) (n:=tc.length) (x:=.vsl false (qf tc) tc.length) (xs:=qf tc) ay wE wE wE wE wE wE (c:=n1) (by simp[bV]) wC;obtain⟨n2,jR⟩:=ql (n1+tc.length);obtain⟨B2,bJ⟩:∃b,b=B1++tc:=⟨_,rfl⟩;have cR:B2.length=n2:=by rw[bJ,zp,bV,jR]
 rw[<-qkb,<-bJ,jR] at J;obtain⟨az,ac⟩:=ql (qn K9 g.length (qf B2));rw[ac] at J;have K:=vZ ac;have U:qd az v.length=some C2:=K.get (O.get L wE) wG;have aS:g.length<az.length:=K.lt (O.lt (qx bI));have ba:qd az H.length=some cf:=K.get (O.get W wE) wG;have aq:=qk4 a y 0 0 0 0 0 0 0 0 0 0 0 (.osl g.length n1 0 n1 1) (.osl g.length n2 0 n2 1);rw[jK] at aq;obtain⟨C3,JS⟩:=ql (jz cf I0 0 0 0 0 0 0 0 0 0 0 0 (.osl g.length n2 0 n2 1));rw[JS] at aq;have bF:C3.length=147:=by rw[<-JS];exact QP a y ..
 have cT:=R (v1:=0) (st:=0) (v0:=0) (n0:=0) (n2:=0) (n3:=0) (n4:=0) (n5:=0) (n6:=0) (n7:=0) (n9:=0) (bd:=.osl g.length n2 0 n2 1) y;rw[JS] at cT;obtain⟨z,G⟩:=ql (qn az v.length C3);have aa:=vZ G;have ae:=kc G U;have bP:qd z g.length=some (qf B2):=aa.get (by rw[<-ac];exact zk (qx ay)) wG;have E:qd z H.length=some cf:=aa.get ba wG;have aP:K4.length<=K5.length:=by rw[<-kR,QE];exact qA _
 have cJ:qd K4 v.length=some C1:=by rw[<-Xn,vw (qx aC)];exact aC
 have br:qd K5 v.length=some C1:=P.get aC wE;have aU:K8.length<=K9.length:=by rw[<-Xm,QE];exact qA _
 have cu:qd K8 v.length=some C2:=by rw[<-Ks,vw (qx L)];exact L
 have cE:qd K9 v.length=some C2:=O.get L wE;have tA:List.take 16 cf=qf A.l:=by rw[QU];simp[la]
 have tB:List.take 16 (List.drop 16 cf)=qf B.l:=by rw[QU];simp[la,lb]
 have tS:List.take 16 (List.drop 32 cf)=qf S.l:=yB
 have eD:List.drop 32 (qf A.l++(qM (qM (qM (ku (ku [.int .u32 0,.int .u32 0,.int .u64 0]))))))=(qM (qM (ku (ku [.int .u32 0,.int .u32 0,.int .u64 0])))):=by simp[jf,List.drop_of_length_le,la]
 have cL:List.take 48 (qf A.l++(qf B.l++(qM (qM (ku (ku [.int .u32 0,.int .u32 0,.int .u64 0]))))))=qf A.l++(qf B.l++(qM [])):=by simp[Zp,qJ,la,lb]
 have bz:List.drop 64 (qf A.l++(qf B.l++(qM (qM (ku (ku [.int .u32 0,.int .u32 0,.int .u64 0]))))))=(ku (ku [.int .u32 0,.int .u32 0,.int .u64 0])):=by simp[jf,List.drop_of_length_le,la,lb]
 obtain⟨I1,bf⟩:∃I,I=qf A.l++(qf B.l++(qf (List.replicate 16 0)++qf S.l)):=⟨_,rfl⟩;have o:I1.length=64:=by rw[bf];simp[la,lb,ls]
 obtain⟨C4,Xo⟩:=ql (jz cf I1 2 0 1 0 0 0 0 0 0 0 0 (.osl g.length n2 0 n2 1))
 have s4:List.take 52 C3++D.int .u32 2::D.int .u32 0::D.int .i64 1::(qf A.l++(qf B.l++D.int .u8 0::D.int .u8 0::D.int .u8 0::D.int .u8 0::D.int .u8 0::D.int .u8 0::D.int .u8 0::D.int .u8 0::D.int .u8 0::D.int .u8 0::D.int .u8 0::D.int .u8 0::D.int .u8 0::D.int .u8 0::D.int .u8 0::D.int .u8 0::(qf S.l++D.int .u64 0::D.int .u64 0::D.int .u64 0::D.int .u64 0::D.int .u64 0::D.int .u64 0::D.int .u64 0::D.int .u64 0::D.int .u64 0::D.int .u64 0::D.int .u64 0::D.int .u64 0::D.int .u64 0::D.int .u64 0::D.int .u64 0::D.int .u64 0::D.int .u64 0::D.int .u64 0::D.int .u64 0::D.int .u64 0::D.int .u32 0::D.int .u32 0::D.int .u64 0::List.drop 142 C3)))=C4:=by
  rw[<-JS,<-Xo,bf];simp[jz,jf,List.drop_of_length_le,a,y,qf]
 have cW:C4.length=147:=by rw[<-Xo];exact QP a o ..
 have gS:∀C,qd (qn z v.length C) v.length=some C:=fun C=>zk (qx ae);have cB:∀C,qd (qn z v.length C) H.length=some cf:=fun C=>by rw[zW wC];exact E
 have bS:∀C,qd (qn z v.length C) g.length=some (qf B2):=fun C=>by rw[zW wC];exact bP
 have ax:List.drop 51 cf=[.bool key]:=yB
 obtain⟨v1,bg⟩:∃v1:Nat,v1=if key then 4 else 0:=⟨_,rfl⟩;obtain⟨p,bX⟩:∃x,x=16*ds:=⟨_,rfl⟩;obtain⟨s,bO⟩:∃x,x=16*fs:=⟨_,rfl⟩;obtain⟨u,bZ⟩:∃x,x=n1+16:=⟨_,rfl⟩;have ci:=zg (n1:Int) (n1:Int);have wx:=qz (16*(ds:Int)) (p:Int);have cA:=zg (p:Int) (p:Int);have wy:=qz (16*(fs:Int)) (s:Int);have bC:=zg (s:Int) (s:Int);have wn:=zg ((n1:Int)+16) (u:Int);obtain⟨C5,Vo⟩:=ql (jz cf I1 2 v1 1 0 0 0 0 0 0 0 0 (.osl g.length n2 0 n2 1))
 have s5:key=true->List.take 53 C4++D.int .u32 4::List.drop 54 C4=C5:=fun hk=>by
  have:=q1q a o 2 0 1 0 0 0 0 0 0 0 0 (.osl g.length n2 0 n2 1) 4;rw[Xo] at this;rw[show D.int .u32 4=D.int .u32 ((4:Nat):Int) from rfl,this,<-Vo,bg,hk];rfl
 have e5:key=false->C4=C5:=fun hk=>by rw[<-Xo,<-Vo,bg,hk];rfl
 have bv:C5.length=147:=by rw[<-Vo];exact QP a o ..
 obtain⟨C6,aX⟩:=ql (jz cf I1 2 v1 1 272 0 0 0 0 0 0 0 (.osl g.length n2 0 n2 1))
 have ch:List.take 119 C5++D.int .u64 272::List.drop 120 C5=C6:=by
  have:=q1y a o 2 v1 1 0 0 0 0 0 0 0 0 (.osl g.length n2 0 n2 1) 272;rw[Vo,aX] at this;exact this
 have cM:C6.length=147:=by rw[<-aX];exact QP a o ..
 obtain⟨C7,bj⟩:=ql (jz cf I1 2 v1 1 272 288 0 0 0 0 0 0 (.osl g.length n2 0 n2 1))
 have bK:List.take 121 C6++D.int .u64 288::List.drop 122 C6=C7:=by
  have:=q1x a o 2 v1 1 272 0 0 0 0 0 0 0 (.osl g.length n2 0 n2 1) 288;rw[aX,bj] at this;exact this
 have bq:C7.length=147:=by rw[<-bj];exact QP a o ..
 obtain⟨C8,bm⟩:=ql (jz cf I1 2 v1 1 272 288 p 0 0 0 0 0 (.osl g.length n2 0 n2 1))
 have ck:List.take 122 C7++D.int .u64 (p:Nat)::List.drop 123 C7=C8:=by
  have:=q1w a o 2 v1 1 272 288 0 0 0 0 0 0 (.osl g.length n2 0 n2 1) p;rw[bj,bm] at this;exact this
 have cF:C8.length=147:=by rw[<-bm];exact QP a o ..
 obtain⟨C9,aW⟩:=ql (jz cf I1 2 v1 1 272 288 p u 0 0 0 0 (.osl g.length n2 0 n2 1))
 have bT:List.take 123 C8++D.int .u64 (u:Nat)::List.drop 124 C8=C9:=by
  have:=q1v a o 2 v1 1 272 288 p 0 0 0 0 0 (.osl g.length n2 0 n2 1) u;rw[bm,aW] at this;exact this
 have bD:C9.length=147:=by rw[<-aW];exact QP a o ..
 obtain⟨ak,Q⟩:=ql (jz cf I1 2 v1 1 272 288 p u s 0 0 0 (.osl g.length n2 0 n2 1))
 have aG:List.take 124 C9++D.int .u64 (s:Nat)::List.drop 125 C9=ak:=by
  have:=q1u a o 2 v1 1 272 288 p u 0 0 0 0 (.osl g.length n2 0 n2 1) s;rw[aW,Q] at this;exact this
 have aK:ak.length=147:=by rw[<-Q];exact QP a o ..
 obtain⟨am,ai⟩:=ql (jz cf I1 2 v1 1 272 288 p u s n1 0 0 (.osl g.length n2 0 n2 1))
 have aR:List.take 125 ak++D.int .u64 (n1:Nat)::List.drop 126 ak=am:=by
  have:=q1t a o 2 v1 1 272 288 p u s 0 0 0 (.osl g.length n2 0 n2 1) n1;rw[Q,ai] at this;exact this
 have aT:am.length=147:=by rw[<-ai];exact QP a o ..
 obtain⟨ao,V⟩:=ql (jz cf I1 2 v1 1 272 288 p u s n1 2 0 (.osl g.length n2 0 n2 1))
 have aM:List.take 126 am++D.int .u64 2::List.drop 127 am=ao:=by
  have:=q1s a o 2 v1 1 272 288 p u s n1 0 0 (.osl g.length n2 0 n2 1) 2;rw[ai,V] at this;exact this
 have aH:ao.length=147:=by rw[<-V];exact QP a o ..
 obtain⟨M,Y⟩:=ql (jz cf I1 2 v1 1 272 288 p u s n1 2 aft (.osl g.length n2 0 n2 1))
 have aL:List.take 128 ao++D.int .u64 (aft:Nat)::List.drop 129 ao=M:=by
  have:=q1r a o 2 v1 1 272 288 p u s n1 2 0 (.osl g.length n2 0 n2 1) aft;rw[V,Y] at this;exact this
 have db:M.length=147:=by rw[<-Y];exact QP a o ..
 have aO:∃(T:qe)(q:Nat),(v.length=q/\qn z v.length M=T)/\∃(m:Jm),JmW T q m/\m.Ok/\Ext [] H T/\(∀i,i∈m.names q->H.length<=i)/\m.ne=0/\m.tl=aft/\m.b.length=304+16*ds+16*fs/\m.da=[]/\m.fi=[]/\m.main=[]:=by
  have w:=q1E (T:=qn z v.length M) (q:=v.length) (bi:=g.length) (b:=B2) (n1:=n1) (aft:=aft) QU bf (by rw[gS,cR,<-bX,<-bZ,<-bO,<-bg,Y]) (bS M) wC bR wC wC wC;refine⟨_,_,⟨rfl,rfl⟩,_,w,?_,?_,fun i hi=>?_,rfl,rfl,wJ,rfl,rfl,rfl⟩
  .exact⟨cZ,cS,wJ,wJ,wJ,wJ,fun k hk=>by simp at hk,fun k hk=>by simp at hk,⟨0,wJ,ArrOk.zero _⟩,fun _=>rfl,bR,wJ,wE,wE,fun k hk=>by simp at hk⟩
  .have bH:NewL [] [g.length] H.length:=fun i hi=>.inr (by rw[List.mem_singleton.1 hi];omega);have bk:NewL [] [v.length] H.length:=fun i hi=>.inr (by rw[List.mem_singleton.1 hi];omega);exact(((((((((x1.trans x2 (NewL.refl _ _)).trans x3 (NewL.refl _ _)).trans P (NewL.refl _ _)).trans aj bH).trans bc bk).trans O (NewL.refl _ _)).trans K bH).trans aa bk).trans (Ext.set z v.length M) bk)
  .simp only[Jm.names,jI,List.not_mem_nil,or_false,Jd] at hi;rcases hi with rfl|rfl<;>omega
 cases F:key with
 |true=>
  have aZ:=s5 F;rw[F] at ax;simp[-qd,-qn,-qr,-qG,Tryz.f54,jb,g1,a,cD,zN,aQ,bM,<-ah,bY,s1,ZF,bt,cp,g3,bn,ag,bA,bW,aB,bp,cG,cj,bB,aN,Xn,bQ,aJ,aF,av,au,cC,bo,aw,cO,aY,aD,L,W,aE,bh,cK,cN,bu,aI,Ks,cg,bG,aA,ay,J,aS,U,aq,bF,G,ae,E,aP,cJ,br,aU,cu,cE,tA,tB,tS,eD,cL,bz,s4,cW,gS,cB,ax,QI,ci,wx,cA,wy,bC,wn,bv,ch,cM,bK,bq,ck,cF,bT,bD,aG,aK,aR,aT,aM,aH,aL,aZ];exact aO
 |false=>
  have aZ:=e5 F;rw[F] at ax;simp[-qd,-qn,-qr,-qG,Tryz.f54,jb,g1,a,cD,zN,aQ,bM,<-ah,bY,s1,ZF,bt,cp,g3,bn,ag,bA,bW,aB,bp,cG,cj,bB,aN,Xn,bQ,aJ,aF,av,au,cC,bo,aw,cO,aY,aD,L,W,aE,bh,cK,cN,bu,aI,Ks,cg,bG,aA,ay,J,aS,U,aq,bF,G,ae,E,aP,cJ,br,aU,cu,cE,tA,tB,tS,eD,cL,bz,s4,gS,cB,ax,QI,ci,wx,cA,wy,bC,wn,bv,ch,cM,bK,bq,ck,cF,bT,bD,aG,aK,aR,aT,aM,aH,aL,aZ];exact aO
end Go.Ev.S
namespace Go.Ev.S
open Go Go.Proofs Go.Ev
theorem qhk{H:qe}{v:D}{cs:List D}{L:List Nat}(h:RowA H 1 v cs L)(b:cs.all idFree=true):∃a,j8 H 9 v=some (.vsl a cs cs.length,L)/\(a=true->cs=[]):=by
 rcases h with⟨rfl,rfl,rfl⟩|⟨r,n,rfl,e,c,rfl⟩
 .exact⟨true,rfl,fun _=>rfl⟩
 .have d:n=cs.length:=by omega
  subst d;refine⟨false,?_,fun h=>wI⟩;unfold j8;simp only[idFree,kZ,if_false,c];rw[if_pos ⟨trivial,wC⟩,if_pos (by rw[Qv];exact b)];simp
theorem qha{H:qe}(L:List Nat):Ext L H (jT H L):=⟨by rw[QE];exact qA _,fun _ _ h=>VB h⟩
@[simp] theorem qjg (l:List (List UInt8)):(jN l).length=l.length:=by simp[jN]
theorem qw0(l:List (List UInt8)):(jN l).all idFree=true:=by
 rw[qgX];intro d a;simp only[jN,ZM] at a;obtain⟨s,_,rfl⟩:=a;rfl
theorem qxk[MaxL][TxtC]{H:qe}{c:D}{l:List (List UInt8)}{L:List Nat}(h:RowA H 1 c (jN l) L)(g:l.length<1000000):
  ∃T,call cx 39 [c] H=some (.tup [],T)/\RowA T 1 c (jN (kh l)) L/\Ext L H T:=by
 rcases h with⟨rfl,b,rfl⟩|⟨r,n,rfl,b,e,rfl⟩
 .have d:l=[]:=by
   cases l with
   |nil=>rfl
   |cons a l=>simp[jN] at b
  subst d;refine⟨H,qe8 ?_,.inl ⟨rfl,by simp[kh,jN],rfl⟩,Ext.refl _ _⟩;rfl
 .have f:n=l.length:=by simpa using b.symm
  subst f;refine⟨qn H r (jN (kh l)),qe8 ?_,.inr ⟨r,l.length,wE,wE,zk (qx e),rfl⟩,Ext.set H r _⟩;rw[qvb,qjg];simp only[qgD,e,qm1];rw[if_pos ⟨trivial,trivial,wC⟩]
def Zn(s:Fs):List (List UInt8):=if s.off then[] else(s.nodes.filter (·.there)).map (·.name)
theorem q3M[MaxL][TxtC]{H:qe}{q:Nat}{s:Fs}{v:FSv}(h:FSw H q s v)(hn:s.nodes.length<100000):
  ∃T c,call cx 15 [.optr q 5 0] H=some (.vsl c (jN (kh (Zn s))) (Zn s).length,T)/\Ext [] H T/\(c=true->Zn s=[]):=by
 obtain⟨N,M⟩:=ql (Zn s)
 have ag:N.length<=s.nodes.length:=by
  rw[<-M];unfold Zn;split
  .simp
  .rw[List.length_map];exact List.length_filter_le _ _
 rw[M];have y:=h.root;simp only[Fs.cells] at y
 suffices S:∃r,call cx 15 [.optr q 5 0] H=some r/\∃c T,r=(.vsl c (jN (kh N)) N.length,T)/\Ext [] H T/\(c=true->N=[]) by
  obtain⟨_,G,c,T,rfl,h2,h3⟩:=S;exact⟨T,c,G,h2,h3⟩
 have fin:∀(d:D)(H':qe)(L:List Nat),RowA H' 1 d (jN N) L->Ext [] H H'->(∀j,j∈L->H.length<=j)->
   ∃t c,call cx 39 [d] H'=some (.tup [],t)/\j8 t 9 d=some (.vsl c (jN (kh N)) N.length,L)/\Ext [] H (jT t L)/\(c=true->N=[]):=by
  intro d H' L g hx R;obtain⟨t,a1,J,a3⟩:=qxk g wC;obtain⟨c,b1,b2⟩:=qhk J (qw0 _);have Z9:NewL [] L H.length:=fun i hi=>.inr (R i hi);refine⟨t,c,a1,by simpa using b1,(hx.trans a3 Z9).trans (qha L) Z9,fun Q=>?_⟩;have:=congrArg List.length (b2 Q);simp at this;exact this
 rcases h.row with⟨X,hp,R⟩|⟨b,n,X,C,zR,R⟩
 .have hl:=h.len;have:v.nd=[]:=by simpa[FSv.ptrs] using hp
  rw[this] at hl;have S:s.nodes=[]:=List.length_eq_zero_iff.1 hl.symm;rw[X] at y;have p:N=[]:=by rw[<-M];simp[Zn,S]
  obtain⟨t,c,W,f2,I,f4⟩:=fin (.vsl true [] 0) H [] (.inl ⟨rfl,by rw[p];rfl,rfl⟩) (Ext.refl _ _) wE;refine vz _ Tryz.func15 rfl ⟨rfl,rfl⟩ ?_;simp[-qd,Tryz.f15,y];refine qfW ?_;simp[W];exact⟨t,⟨⟨by rw[p];simp[kh,jN],by rw[p];rfl⟩,rfl⟩,I,p⟩
 .rw[X] at y;have ae:v.ptrs.length=v.nd.length:=by simp[FSv.ptrs]
  have Q:n=s.nodes.length:=by have:=h.len;omega
  subst Q;refine vz _ Tryz.func15 rfl ⟨rfl,rfl⟩ ?_;simp[-qd,Tryz.f15,y];refine Run.loopThen (fun(k:Nat) e H'=>k<=s.nodes.length/\∃d L,RowA H' 1 d (jN (if s.off then[] else((s.nodes.take k).filter (·.there)).map (·.name))) L/\Ext [] H H'/\(∀j,j∈L->H.length<=j)/\qi e 0=some (.optr q 5 0)/\qi e 3=some d/\qi e 9=some (.osl b v.ptrs.length 0 s.nodes.length 1)/\qi e 10=some (.int .i64 s.nodes.length)/\qi e 11=some (.int .i64 k)) (fun k=>s.nodes.length-k) 0 ?_ ?_
  .exact⟨wC,.vsl true [] 0,[],.inl ⟨rfl,by simp[jN],rfl⟩,Ext.refl _ _,wE,rfl,rfl,rfl,rfl,rfl⟩
  rintro k e H' ⟨hk,d,L,g,hx,f,F,K,O,o,l⟩;by_cases z:k<s.nodes.length
  .have B:=zn z;have Z:=qz ((k:Int)+1) ((k+1:Nat):Int);have A:k<v.nd.length:=(by rw[h.len];exact z);obtain⟨vi,jR⟩:=h.node k _ _ (qN z) (Yn A);have w:=hx.get vi wE;have a:=hx.get y wE;have vG:=hx.get zR wE;simp only[Nd.cells] at w;have u:=qjP A;have zV:s.nodes.take (k+1)=s.nodes.take k++[s.nodes[k]]:=(by rw[List.take_add_one,qN z];rfl);cases E:s.nodes[k].there with
   |false=>
    rw[E] at w;simp[-qd,F,K,O,o,l,B,Z,vG,u,w];refine⟨k+1,wC,wC,d,L,?_,hx,f,rfl,wC⟩;rw[zV,List.filter_append];simpa[E] using g
   |true=>
    rw[E] at w;cases ho:s.off with
    |true=>
     rw[ho] at a g;simp[-qd,F,K,O,o,l,B,Z,vG,u,w,a];exact⟨k+1,wC,wC,d,L,xF,hx,f,rfl,wC⟩
    |false=>
     rw[ho] at a g;simp only[kZ,if_false] at g;obtain⟨H2,e2⟩:=ql (qr H' [.str s.nodes[k].name]);obtain⟨J,l2⟩:=ql (H'.length);have Y:Ext [] H' H2:=e2▸Ext.new H' _;have g2:qd H2 J=some [.str s.nodes[k].name]:=by rw[<-e2,<-l2,zo]
     have C:(((s.nodes.take k).filter (·.there)).map (·.name)).length<=k:=by
      rw[List.length_map];refine zI (List.length_filter_le _ _) ?_;rw[jj];omega
     have hB:bytesOf Tryz.prog 9=16:=wE;obtain⟨V,H3,L3,hA,aa,x3,n3⟩:=(g.ext Y fun _ _=>wE).append (P:=Tryz.prog) (st:=29) (xt:=29) (e:=9) (x:=.osl J 1 0 1 1) (xs:=[.str s.nodes[k].name]) (m:=1) wE wE (by simp[-qd,g2]) wE wC wE wC (by rw[hB,qjg];simp only[qF];omega) (by rw[qjg];simp only[qF];omega);have ac:Ext [] H H3:=(hx.trans Y (NewL.refl _ _)).trans x3 fun i hi=>.inr (f i hi);simp[-qd,-qr,-qG,F,K,O,o,l,B,Z,vG,u,w,a,e2,l2,hA,qkg a];refine⟨k+1,wC,wC,V,L3,?_,ac,fun j hj=>?_,rfl,wC⟩
     .rw[zV,List.filter_append];simpa[E,jN] using aa
     .have:=Y.len;have:=hx.len;rcases n3 j hj with G|G
      .exact f j G
      .omega
  .have B:=zq z;have Xh:k=s.nodes.length:=wC;have U:(if s.off then[] else((s.nodes.take k).filter (·.there)).map (·.name))=N:=(by rw[Xh,List.take_length,<-M];rfl);rw[U] at g;obtain⟨t,c,W,f2,I,f4⟩:=fin d H' L g hx f;simp[-qd,-j8,F,K,O,o,l,B,W,f2];cases c with
   |false=>exact .inl ⟨_,⟨rfl,rfl⟩,I⟩
   |true=>exact .inr ⟨_,⟨rfl,rfl⟩,I,f4 rfl⟩
theorem qx2[MaxL][TxtC]{H:qe}{b:Nat}{x y:Sl UInt8}(h:qd H b=some [(.vsl x.nil (qf x.l) x.l.length),(.vsl y.nil (qf y.l) y.l.length)])(hx:x.l.length<=1000000):
  ∃T a,call cx 41 [.optr b 2 0] H=some (.vsl a (qf x.l) x.l.length,T)/\Ext [] H T/\(a=true->x.l=[]):=by
 obtain⟨p,j,n,k⟩:=qlB x hx;obtain⟨d,g,e,c⟩:=k H;obtain⟨r,f⟩:=ql (shift H.length p);obtain⟨o,e2⟩:=ql (H++j);rw[f,e2] at g;rw[e2] at e c;obtain⟨a,m,q⟩:=qjo g;refine⟨jT o d,a,jy Tryz.func41 rfl ⟨rfl,rfl⟩ ?_,e.trans (qha d) fun i hi=>.inr (by have:=c i hi;omega),q⟩;simp[-qd,-qn,-qr,-j8,Tryz.f41,h,n,f,e2,m]
def jG(s:Fs)(name:List UInt8):List UInt8:=if Q3 s name≠0 then[] else match(Q5 s.nodes name).bind (s.nodes[·]?) with|some n=>n.b.l|none=>[]
theorem q3Q[MaxL][TxtC]{H:qe}{q:Nat}{s:Fs}{v:FSv}(h:FSw H q s v)(G:s.nodes.length<100000)(E:∀n,n∈s.nodes->n.b.l.length<=1000000)(name:List UInt8)(x:name.length<1000000):
  ∃T e,call cx 16 [.optr q 5 0,.str name] H=some (.tup [.vsl e (qf (jG s name)) (jG s name).length,.int .i64 (Q3 s name)],T)/\Ext [] H T/\(e=true->jG s name=[]):=by
 obtain⟨r,p⟩:=ql (qr H [.str name]);have f:=zJ p;have z:FSw r q s v:=h.ext f fun _ _=>by simp
 have a:=qkR h wC name x;rw[p] at a;by_cases d:Q3 s name=0
 rotate_left
 .have A:¬((Q3 s name:Nat):Int)=0:=by omega
  have g:jG s name=[]:=by simp[jG,d]
  rw[g];refine⟨r,true,jy Tryz.func16 rfl ⟨rfl,rfl⟩ ?_,f,fun _=>rfl⟩;simp[-qd,-qn,-qr,Tryz.f16,a,d];try rfl
 obtain⟨m,i,c⟩:=qtD d;obtain⟨hi,u,F⟩:=qtE c;have hiv:i<v.nd.length:=by rw[h.len];exact hi
 obtain⟨t,o⟩:=z.node i _ _ (qN hi) (Yn hiv);have j:=E _ (vQ hi);have w:s.nodes[i]?=some s.nodes[i]:=qN hi;simp only[Nd.cells] at t;simp only[Nd.data] at o;have k:qfq s v name=.optr (Zc v i) 3 0:=by simp[qfq,m,c]
 rw[d,k] at a;have g:jG s name=s.nodes[i].b.l:=by simp[jG,d,c,w]
 obtain⟨T,e,C,y,B⟩:=qx2 o j;rw[g,d];refine⟨T,e,jy Tryz.func16 rfl ⟨rfl,rfl⟩ ?_,f.trans y (NewL.refl _ _),B⟩;simp[-qd,-qn,-qr,Tryz.f16,a,t,C]
theorem q3K[MaxL][TxtC]{H:qe}{q:Nat}{s:Fs}{v:FSv}(h:FSw H q s v):call cx 29 [.optr q 5 0] H=some (.bool s.off,H):=by
 have a:=h.root;simp only[Fs.cells] at a;refine jy Tryz.func29 rfl ⟨rfl,rfl⟩ ?_;simp[-qd,Tryz.f29,a]
theorem JGrow.side{H K T:qe}{q:Nat}{m a:Jm}{L:List Nat}(g:JGrow H K q m a)(x:Ext L K T)(c:∀i,i∈L->H.length<=i)(b:∀i,i∈a.names q->i∉L):JGrow H T q m a:=
 {g with w:=qfj g.w x b,ext:=g.ext.trans x (fun i hi=>.inr (c i hi))}
structure ApA (H:qe) (q:Nat) (m:Jm) (o:ID) (i:Nat) (K:qe) (m':Jm) (w:List Nat) (wD pD:D) (pc:List D) (Lw Lp:List Nat):Prop where
 g:JGrow H K q m m'
 da:m'.da.length<=m.da.length+i
 fi:m'.fi.length<=m.fi.length+i
 bl:m'.b.length<=m.b.length+171*i
 cn:∀k,k∈m'.da->k.cnt<=4*m.ne
 id:qd K H.length=some (qf o.l)
 idN:H.length∉m'.names q
 wR:RowA K 1 wD (qP .i64 w) Lw
 pR:RowA K 1 pD pc Lp
 wl:w.length=i
 pl:pc.length=i
 wb:∀j,j∈w->j<m'.da.length
 ps:qkB pc
 wN:∀j,j∈Lw->j∉m'.names q/\H.length<j
 pN:∀j,j∈Lp->j∉m'.names q/\H.length<j/\j∉Lw
theorem qsD{cs:List D}(h:qkB cs):cs.all idFree=true:=List.all_eq_true.2 fun d a=>by
 obtain⟨s,rfl,_⟩:=h d a;rfl
theorem ApA.next{H K G F C A:qe}{q:Nat}{m p f:Jm}{o:ID}{i:Nat}{w:List Nat}{X pD:D}{v:List D}{u t:List Nat}(h:ApA H q m o i K p w X pD v u t)(gr:JGrow K G q p f)
  {kk:Nat} (Xh:kk<f.da.length) (hb:f.b.length<=p.b.length+171) (S:f.da.length<=p.da.length+1) (l:p.da.length<=f.da.length) (hf:f.fi.length<=p.fi.length+1) (O:∀k,k∈f.da->k∈p.da\/k.cnt=0)
  {s:List UInt8} (hs:s.length<=1000) {r:Nat} (x:qd F r=some (v++[.vsl false (qf s) s.length])) (N:Ext t G F) (L:r∈t\/G.length<=r) (E:Ext u F C) (I:Ext [] C A) {a:Nat} (ha:a<=w.length)
  (W:qd A C.length=some (qP .i64 (w.take a++kk::w.drop a))):
  ApA H q m o (i+1) A f (w.take a++kk::w.drop a) (.osl C.length (w.length+1) 0 (w.length+1) 1) (.osl r (v.length+1) 0 (v.length+1) 1) (v++[.vsl false (qf s) s.length]) [C.length] [r]:=by
 have n1:∀j,j<K.length->j∉p.names q->j∉f.names q:=fun j c U hc=>(gr.new j hc).elim U (fun jE=>wC);have M:H.length<K.length:=qx h.id;have J:∀j,j∈t->j<K.length:=fun j c=>h.pR.lt c;have R:∀j,j∈u->j<K.length:=fun j c=>h.wR.lt c;have l1:=gr.ext.len;have l5:=N.len;have l6:=E.len;have l7:=I.len;have y:∀j,j∈f.names q->j<G.length:=fun j c=>qde gr.w c;have z:∀j,j∈f.names q->j∉t:=fun j c hc=>n1 j (J j hc) (h.pN j hc).1 c;have P:∀j,j∈f.names q->j∉u:=fun j c hc=>n1 j (R j hc) (h.wN j hc).1 c
 have Q:r∉u:=fun hc=>by
  rcases L with e|e
  .exact(h.pN r e).2.2 hc
  .have:=R r hc;omega
 have aa:r<F.length:=qx x;have Z:=(((h.g.trans gr).side N (fun j c=>by have:=(h.pN j c).2.1;omega) z).side E (fun j c=>by have:=(h.wN j c).2;omega) P).side I (fun j c=>by simp at c) (fun j _=>wE);have B:H.length∉t/\H.length∉u:=⟨fun hc=>by have:=(h.pN _ hc).2.1;omega,fun hc=>by have:=(h.wN _ hc).2;omega⟩;refine⟨Z,by have:=h.da;omega,by have:=h.fi;omega,by have:=h.bl;omega,fun k V=>?_,?_,n1 _ M h.idN,?_,?_,?_,?_,?_,?_,?_,?_⟩
 .rcases O k V with e|e
  .exact h.cn k e
  .omega
 .exact I.get (E.get (N.get (gr.ext.get h.id h.idN) B.1) B.2) wE
 .have:=RowA.of (H:=A) (k:=1) (n:=w.length+1) (cs:=qP .i64 (w.take a++kk::w.drop a)) wG W;have T:(qP .i64 (w.take a++kk::w.drop a)).length=w.length+1:=by simp;omega
  rw[T] at this;exact this
 .have Y:=I.get (E.get x Q) wE;have:=RowA.of (H:=A) (k:=1) (n:=v.length+1) wE Y;rw[zp,List.length_singleton] at this;exact this
 .have:=h.wl;simp;omega
 .rw[zp,h.pl];rfl
 .intro j c;simp only[vj,jI] at c;rcases c with c|rfl|c
  .exact vh (h.wb j (QZ c)) l
  .exact Xh
  .exact vh (h.wb j (Z0 c)) l
 .intro d S;rcases List.mem_append.1 S with e|e
  .exact h.ps d e
  .exact⟨Sl.mk false s wE,List.mem_singleton.1 e,wJ⟩
 .intro j c;rw[List.mem_singleton.1 c];exact⟨fun hc=>by have:=y _ hc;omega,wC⟩
 .intro j c;rw[List.mem_singleton.1 c];refine⟨fun hc=>?_,?_,wG⟩
  .rcases L with e|e
   .exact z r hc e
   .have:=y _ hc;omega
  .rcases L with e|e
   .exact(h.pN r e).2.1
   .omega
theorem qwX{H:qe}{v:D}{cs:List D}{L:List Nat}{k n:Nat}(h:RowA H k v cs L)(d:cs.all idFree=true)(j:cs.length=n*k)(c:0<k):∃a,j8 H 9 v=some (.vsl a cs n,L)/\(a=true->n=0):=by
 rcases h with⟨rfl,rfl,rfl⟩|⟨r,f,rfl,l,e,rfl⟩
 .have i:n*k=0:=by simpa using j.symm
  have b:n=0:=(Nat.mul_eq_zero.1 i).resolve_right wC;subst b;exact⟨true,by simp[j8,idFree],fun _=>rfl⟩
 .have g:f=n:=Nat.eq_of_mul_eq_mul_right c wC;subst g;refine⟨false,?_,fun h=>wP⟩;unfold j8;rw[if_neg xC];simp only[e];rw[if_pos ⟨trivial,wC⟩,if_pos (by rw[Qv];exact d),List.drop_zero,qJ wC]
structure ApE (H T:qe) (q:Nat) (m m':Jm):Prop where
 w:JmW T q m'
 ok:m'.Ok
 main:ArrOk m'.b.length m'.main m'.ne
 cn:∀k,k∈m'.da->k.cnt<=4*m'.ne
 ext:Ext (m.names q) H T
 new:NewL (m.names q) (m'.names q) H.length
 ne:m'.ne=m.ne+1
 tl:m'.tl=m.tl+1
 bl:m'.b.length<=m.b.length+2200
 da:m'.da.length<=m.da.length+4
 fi:m'.fi.length<=m.fi.length+4
structure ApC (H:qe) (q:Nat) (m:Jm) (o:ID) (i:Nat) (K:qe) (m':Jm) (itD:D) (ic:List D) (Li:List Nat):Prop where
 g:JGrow H K q m m'
 id:qd K H.length=some (qf o.l)
 iR:RowA K 2 itD ic Li
 il:ic.length=i*2
 iu:JD ic
 iN:∀j,j∈Li->j∉m'.names q/\H.length<j
def apJ(q:Nat)(H:qe)(m k:Jm)(o:ID)(w:List Nat)(c:List D)(j b:Bool)(h g p:Nat)(i:Nat)(e:qu)(K:qe):Prop:=
 i<=w.length/\qi e 0=some (.optr q 147 0)/\qi e 2=some (.int .u64 h)/\qi e 3=some (.int .u64 g)/\qi e 9=some (.optr H.length 16 0)/\qi e 14=some (.optr p 147 0)/\qi e 16=some (.vsl j (qP .i64 w) w.length)/\qi e 17=some (.vsl b c c.length)/\qi e 21=some (.int .i64 i)/\∃a f d,qi e 15=some a/\ApC H q m o i K k a f d
structure ApD (H:qe) (q:Nat) (m:Jm) (o:ID) (dl:Nat) (i:Nat) (K:qe) (m5:Jm):Prop where
 w:JmW K q m5
 ok:m5.Ok
 ext:Ext (m.names q) H K
 new:NewL (m.names q) (m5.names q) H.length
 ne:m5.ne=m.ne
 tl:m5.tl=m.tl
 main:ArrOk m5.b.length m5.main (m.ne+1)
 bl:m5.b.length<=m.b.length+(1000+280*i)
 dl:m5.da.length=dl
 da:m5.da.length<=m.da.length+4
 fi:m5.fi.length<=m.fi.length+4
 cn:∀k,k∈m5.da->k.cnt<=4*m.ne+i
 id:qd K H.length=some (qf o.l)
 idN:H.length∉m5.names q
def apK(q:Nat)(H:qe)(m:Jm)(o:ID)(w:List Nat)(f:Bool)(d c p seq a g:Nat)(i:Nat)(e:qu)(K:qe):Prop:=
 i<=w.length/\qi e 0=some (.optr q 147 0)/\qi e 2=some (.int .u64 d)/\qi e 3=some (.int .u64 c)/\qi e 9=some (.optr H.length 16 0)/\qi e 14=some (.optr p 147 0)/\qi e 16=some (.vsl f (qP .i64 w) w.length)/\qi e 23=some (.int .u64 seq)/\qi e 24=some (.int .u64 a)/\qi e 26=some (.int .i64 m.ne)/\qi e 27=some (.int .i64 i)/\∃b,ApD H q m o g i K b
theorem qwJ{j k:Nat}(h:j<=k):vt j<=vt k:=by
 induction h with
 |refl=>exact qA _
 |step _ a=>have:=@qjn;exact zI a (qfF qjn)
theorem qvy{c:Nat}{a:List Nat}{n:Nat}(h:ArrOk c a n){k:Nat}(d:n<=vt k):a.length<=k:=by
 cases b:a.length with
 |zero=>omega
 |succ j=>
  have f:=h.lo j b;by_cases e:j<k
  .omega
  .have:=qwJ (show k<=j from wC);omega
theorem qns{a k:Nat}(h:a<=k)(b:k<=5):Jj a<=4*2^k:=by
 unfold Jj;rw[if_pos wC];exact Nat.mul_le_mul_left _ (qfE wC h)
def apI(q:Nat)(H:qe)(m:Jm)(o:ID)(out:List Pr)(g f p:Nat)(i:Nat)(e:qu)(K:qe):Prop:=
 i<=out.length/\qi e 0=some (.optr q 147 0)/\qi e 2=some (.int .u64 g)/\qi e 3=some (.int .u64 f)/\qi e 9=some (.optr H.length 16 0)/\qi e 12=some (.vsl false (qt out) out.length)/\qi e 14=some (.optr p 147 0)/\qi e 15=some (.vsl true [] 0)/\qi e 18=some (.int .i64 i)/\∃j w a b c h d,qi e 16=some a/\qi e 17=some b/\ApA H q m o i K j w a b c h d
theorem q21[MaxL][TxtC]{H:qe}{q:Nat}{m:Jm}(h:JmW H q m)(hk:m.Ok)(cP:ArrOk m.b.length m.main m.ne)(gg:∀k,k∈m.da->k.cnt<=4*m.ne)(ps:List Pr)(kL:1<=ps.length)(fw:ps.length<=4)(gk:∀p∈ps,VW p=true)(rt mo:Nat)(db:rt<18446744073709551616)(eO:mo<18446744073709551616)(o:ID)(qQ:m.ne<=5)(jS:m.b.length<=25000)(XC:m.tl<1000000)(ii:m.da.length<=500)(iq:m.fi.length<=500):
  ∃T G,call cx 58 [.optr q 147 0,.vsl false (qt ps) ps.length,.int .u64 rt,.int .u64 mo,.agg (qf o.l)] H=some (.tup [.int .u64 (m.tl+1:Nat),.int .i64 0],T)/\ApE H T q m G:=by
 suffices hs:∃r,call cx 58 [.optr q 147 0,.vsl false (qt ps) ps.length,.int .u64 rt,.int .u64 mo,.agg (qf o.l)] H=some r/\∃(T:qe)(G:Jm),r=(.tup [.int .u64 (m.tl+1:Nat),.int .i64 0],T)/\ApE H T q m G by
  obtain⟨r,hc,T,G,rfl,t⟩:=hs;exact⟨T,G,hc,t⟩
 refine vz (X:=cx) (f:=58) _ Tryz.func58 rfl ⟨rfl,rfl⟩ ?_;obtain⟨K1,jb⟩:=ql (qr H (qf o.l));have x1:=zJ jb;have dE:=js jb;obtain⟨_,cZ,out,ig,iE,gp,rfl⟩:=qpb ps kL fw gk;have g1:=(JGrow.refl h hk).side x1 (fun i hi=>wV) (fun i _=>wE);have di:=qk5 g1.w;obtain⟨K2,p,fp,x2⟩:=q2y g1.w hk;have g2:=g1.side x2 (fun i hi=>wV) (fun i _=>wE);have eZ:qd K2 H.length=some (qf o.l):=x2.get dE wE;have fy:¬(m.tl:Int)=18446744073709551615:=wC
 have gF:¬m.tl=18446744073709551615:=wC
 have lo:=o.h
 have co:(∀x,x∈qf o.l->closed H.length x=true)=True:=eq_true fun x hx=>by
  simp only[qf,ZM] at hx;obtain⟨_,_,rfl⟩:=hx;rfl
 simp[-qd,-qn,-qr,-qG,-j8,-ZO,Tryz.f58,lo,jb,cZ,di,fy,fp];refine JC (apI q H m o out rt mo p) (fun i=>out.length-i) 0 (fun ex e K=>ex=.exit 0/\apI q H m o out rt mo p out.length e K) ?_ ?_ ?_
 .refine⟨vg _,wE,wE,wE,wE,wE,wE,wE,wE,m,[],.vsl true [] 0,.vsl true [] 0,[],[],[],wE,wE,g2,wC,wC,wC,gg,eZ,?_,RowA.nil _ _,RowA.nil _ _,rfl,rfl,fun j y=>xR,fun d hd=>by simp at hd,fun j y=>xR,fun j y=>xR⟩;intro hc;have:=qde h hc;omega
 .rintro i e K ⟨hi,p0,W,V,Y,aa,E,O,ac,G,w,wD,pD,pc,Lw,Lp,F,M,A⟩;by_cases qg:i<out.length
  .have qo:=zn qg;have hw:=qz ((i:Int)+1) ((i+1:Nat):Int);have hp:=q0p (gp _ (vQ qg));have iw:=A.da;have Xp:=A.fi;have iO:=A.bl;have iM:=A.wl;have iK:=A.pl;obtain⟨bH,m1,kk,fh,gr,Xh,JR,Zw,gv,aK,dA⟩:=q2x A.g.w A.g.ok out[i] wC wC wC wC wC;have iD:(Enc.cells out[i]:List D)=[.str out[i].name,.str out[i].value]:=rfl
   have aj:qt m1.da≠[]:=fun e0=>by
    have:=ZZ m1.da;rw[e0] at this;simp at this;omega
   obtain⟨ro,nn,aY,vy,ZW,cN⟩:=gr.w.rowD.own aj
   have ji:nn=m1.da.length:=by
    have:=ZZ m1.da;rw[this] at vy;simp at vy;omega
   subst ji;have zA:(qt m1.da).length=m1.da.length*5:=vy;have aA:=gr.w.root;have aw:=gr.w.len;have R:=jC gr.w.c144;rw[aY,zA] at R;obtain⟨k,r0,Kk,vF,vC,aH,ck⟩:=qdh Xh;have Y4:=(gr.ok.da k Kk).txt;have bu:(kk:Int)<(m1.da.length:Int):=wC;obtain⟨r,K4,K5,aV,fS,g5,x5,hr⟩:=qyW bH (A.pR.ext gr.ext (fun j y=>(A.pN j y).1)) (qsD A.ps) k.text wC;obtain⟨Ka,QV⟩:=ql (qr bH (qf k.text));rw[QV] at aV;have dc:bH.length<Ka.length:=(by rw[<-QV,jg];omega);have eN:Ka≠[]:=fun e0=>by rw[e0] at dc;simp at dc
   obtain⟨Kb,Jz⟩:=ql (qr Ka [.osl bH.length k.text.length 0 k.text.length 1]);rw[Jz] at aV;have fN:=(A.wR.ext gr.ext (fun j y=>(A.wN j y).1)).ext x5 (fun j y hc=>(A.pN j hc).2.2 y);obtain⟨nl,VY,zG⟩:=qhk fN (by simp[qP,idFree]);rw[qkh] at VY;obtain⟨K6,Qk⟩:=ql (jT K5 Lw);have x6:Ext Lw K5 K6:=Qk▸qha Lw
   have eA:∀j,j∈m1.names q->j∉Lp:=fun j y hc=>by
    have:=A.pR.lt hc;rcases gr.new j y with t|t
    .exact(A.pN j hc).1 t
    .omega
   have dI:∀j,j∈m1.names q->j∉Lw:=fun j y hc=>by
    have:=A.wR.lt hc;rcases gr.new j y with t|t
    .exact(A.wN j hc).1 t
    .omega
   have dY:qd K6 q=some m1.cs:=x6.get (x5.get aA (eA _ VV)) (dI _ VV);have eh:ro∈m1.names q:=qhB (by rw[cN];simp);have ep:qd K6 ro=some (qt m1.da):=x6.get (x5.get ZW (eA _ eh)) (dI _ eh);simp[-qd,-qn,-qr,-qG,-j8,-ZO,-jT,-Kn.ea,p0,W,V,Y,aa,E,O,F,M,ac,qg,qo,fh,aA,aw,R,bu,ZW,zA,vF,QV,Jz,eN,aV,fS,VY,Qk];clear p0 W V Y aa E O F M ac;obtain⟨IB,de⟩:∃I:Nat->qu->qe->Prop,I=fun(a:Nat)(e:qu)(J:qe)=>a<=w.length/\qi e 0=some (.optr q 147 0)/\qi e 2=some (.int .u64 rt)/\qi e 3=some (.int .u64 mo)/\qi e 9=some (.optr H.length 16 0)/\qi e 12=some (.vsl false (qt out) out.length)/\qi e 14=some (.optr p 147 0)/\qi e 15=some (.vsl true [] 0)/\qi e 18=some (.int .i64 i)/\qi e 16=some (.vsl nl (qP .i64 w) w.length)/\qi e 17=some (.osl r (pc.length+1) 0 (pc.length+1) 1)/\qi e 19=some (.int .i64 kk)/\qi e 20=some (.int .i64 a)/\J=K6:=⟨_,rfl⟩;refine JC IB (fun a=>a) w.length (fun ex e J=>ex=.exit 2/\∃a,IB a e J) ?_ ?_ ?_
   .rw[de];exact⟨qA _,wE,wE,wE,wE,wE,wE,wE,wE,wE,wE,wE,wE,rfl⟩
   .rw[de];rintro a e J ⟨ha,p0,W,V,Y,aa,E,O,ac,F,M,bq,aZ,rfl⟩;by_cases YE:a=0
    .subst YE;simp[-qd,-qn,-qr,p0,W,V,Y,aa,E,O,F,M,ac,bq,aZ];exact⟨0,wC,rfl⟩
    .obtain⟨b,rfl⟩:∃b,a=b+1:=⟨a-1,wC⟩;have jS:b<w.length:=wC;have bO:(b:Int)<(w.length:Int):=wC;have im:=qz ((b:Int)+1-1) (b:Int);have aT:=qz (b:Int) (b:Int);have Zu:(0:Int)<(b:Int)+1:=wC;have qS:=qeo (k:=.i64) jS;obtain⟨j1,ZD⟩:=ql (w[b]);rw[ZD] at qS;have V5:j1<m1.da.length:=vh (A.wb j1 (ZD▸vQ jS)) aK;have ae:(j1:Int)<(m1.da.length:Int):=wC;obtain⟨k2,r2,gZ,iL,gQ,cp,gP⟩:=qdh V5
     have vK:nl=false:=by
      cases bh:nl with
      |false=>rfl
      |true=>
       have h0:w=[]:=(by simpa[qP] using zG bh);rw[h0] at jS;simp at jS
     subst vK;by_cases ff:k.at_<k2.at_
     .have aS:=zn ff;simp[-qd,-qn,-qr,-Kn.ea,p0,W,V,Y,aa,E,O,F,M,ac,bq,aZ,bO,aT,Zu,qS,ae,dY,aw,R,ep,zA,cp,aH,bu,aS];exact⟨b,wC,wC,rfl⟩
     .have aS:=zq ff;simp[-qd,-qn,-qr,-Kn.ea,p0,W,V,Y,aa,E,O,F,M,ac,bq,aZ,bO,aT,Zu,qS,ae,dY,aw,R,ep,zA,cp,aH,bu,aS];exact⟨b+1,ha,wC⟩
   .rw[de];rintro ex e J ⟨rfl,a,ha,p0,W,V,Y,aa,E,O,ac,F,M,bq,aZ,rfl⟩;obtain⟨T1,T2,T3,i1,i2,i3,g7,x7,iJ⟩:=q2C J nl w a kk ha wC;obtain⟨K7,dM⟩:=ql (qr J []);rw[dM] at i1;have XP:(a:Int)<=(w.length:Int):=wC;have fq:List.take (w.length-a) (List.drop a (qP .i64 w))=List.drop a (qP .i64 w):=qJ wE;have XJ:qr [] [D.int .i64 (kk:Nat)]=[some [.int .i64 (kk:Nat)]]:=rfl;simp[-qd,-qn,-qr,-qG,p0,W,V,Y,aa,E,O,F,M,ac,bq,aZ,XP,dM,i1,i2,i3,hw,XJ,fq];exact⟨i+1,wC,wC,wE,wE,wE,wE,wE,wE,wE,wE,m1,w.take a++kk::w.drop a,.osl J.length (w.length+1) 0 (w.length+1) 1,.osl r (pc.length+1) 0 (pc.length+1) 1,_,_,_,wE,wE,A.next gr Xh wC Zw aK gv dA Y4 g5 x5 hr x6 x7 ha g7⟩
  .have qo:=zq qg;have Zh:i=out.length:=wC;subst Zh;simp[-qd,-qn,-qr,p0,W,V,Y,aa,E,O,F,M,ac];exact⟨qA _,wE,wE,wE,wE,wE,wE,wE,wE,G,w,wD,pD,pc,Lw,Lp,wE,wE,A⟩
 .rintro ex e K ⟨rfl,-,p0,W,V,Y,aa,E,O,ac,G,w,wD,pD,pc,Lw,Lp,F,M,A⟩;have QH:=A.wl;have iy:=A.pl;have gL:=A.bl;have eP:(qP .i64 w).all idFree=true:=by simp
  obtain⟨nl,VY,zG⟩:=qhk A.wR eP;obtain⟨cR,ee,bh⟩:=qhk A.pR (qsD A.ps);rw[qkh] at VY;obtain⟨K8,Ks⟩:=ql (jT K (Lw++Lp));have x8:Ext (Lw++Lp) K K8:=Ks▸qha _
  have g8:=A.g.side x8 (fun j y=>by
   rcases List.mem_append.1 y with t|t
   .have:=(A.wN j t).2;omega
   .have:=(A.pN j t).2.1;omega) (fun j y hc=>by
   rcases List.mem_append.1 hc with t|t
   .exact(A.wN j t).1 y
   .exact(A.pN j t).1 y)
  have dN:qd K8 H.length=some (qf o.l):=x8.get A.id (fun hc=>by
   rcases List.mem_append.1 hc with t|t
   .have:=(A.wN _ t).2;omega
   .have:=(A.pN _ t).2.1;omega)
  simp[-qd,-qn,-qr,-qG,-j8,-ZO,-jT,p0,W,V,Y,E,O,F,M,VY,ee,Ks];refine JC (apJ q H m G o w pc nl cR rt mo p) (fun i=>w.length-i) 0 (fun ex e K=>ex=.exit 4/\apJ q H m G o w pc nl cR rt mo p w.length e K) ?_ ?_ ?_
  .exact⟨vg _,wE,wE,wE,wE,wE,wE,wE,wE,.vsl true [] 0,[],[],wE,g8,dN,RowA.nil _ _,rfl,q28,fun j y=>xR⟩
  .clear p0 W V Y aa E O F M ac;rintro i e J ⟨hi,p0,W,V,Y,E,F,M,bJ,eC,ic,Li,O,C⟩;by_cases qg:i<w.length
   .have qo:=zn qg;have hw:=qz ((i:Int)+1) ((i+1:Nat):Int)
    have vK:nl=false:=by
     cases az:nl with
     |false=>rfl
     |true=>
      have h0:w=[]:=(by simpa[qP] using zG az);rw[h0] at qg;simp at qg
    subst vK;have qS:=qeo (k:=.i64) qg;obtain⟨j1,ZD⟩:=ql (w[i]);rw[ZD] at qS;have V5:j1<G.da.length:=A.wb j1 (ZD▸vQ qg);have ae:(j1:Int)<(G.da.length:Int):=wC;obtain⟨k,r0,Kk,vF,vC,aH,ck⟩:=qdh V5;have aj:qt G.da≠[]:=fun e0=>by rw[e0] at vF;simp at vF
    obtain⟨ro,nn,aY,vy,ZW,cN⟩:=C.g.w.rowD.own aj
    have ji:nn=G.da.length:=by
     have:=ZZ G.da;rw[this] at vy;simp at vy;omega
    subst ji;have zA:(qt G.da).length=G.da.length*5:=vy;have aA:=C.g.w.root;have aw:=C.g.w.len;have R:=jC C.g.w.c144;rw[aY,zA] at R;have fm:=jC C.g.w.c51;have cS:=C.g.w.file;have Y4:=(C.g.ok.da k Kk).txt;have fP:=(C.g.ok.da k Kk).at_;have fF:=C.g.ok.bmax;obtain⟨Ka,QV⟩:=ql (qr J [.str k.text,.int .u64 (k.at_:Nat),.int .i64 (k.slot:Nat),.int .i64 (k.cnt:Nat),.vsl k.nil (qP .u64 k.arrs) k.arrs.length]);have xa:Ext [] J Ka:=QV▸Ext.new J _;have ga:qd Ka J.length=some [.str k.text,.int .u64 (k.at_:Nat),.int .i64 (k.slot:Nat),.int .i64 (k.cnt:Nat),.vsl k.nil (qP .u64 k.arrs) k.arrs.length]:=(by rw[<-QV,zo]);have gw:qd Ka q=some G.cs:=xa.get aA wE;obtain⟨qh,Xe,xh,JG,rfl⟩:=qka G.key G.file (Sl.mk false k.text wE) wJ;unfold jx at JG;obtain⟨xn,rfl⟩:∃xn:Nat,xh=(xn:Int):=⟨xh.toNat,wC⟩;have fJ:xn<18446744073709551616:=wC;replace Xe:call cx 102 [.bool G.key,.agg (qf G.file.l),.vsl false (qf k.text) k.text.length] []=some (.int .u64 (xn:Int),[]):=Xe;obtain⟨Kb,Jz⟩:=ql (qr Ka (qf k.text));have xb:=zJ Jz;have gb:qd Kb Ka.length=some (qf k.text):=(by rw[<-Jz,zo]);obtain⟨Kc,Zk⟩:=ql (qr Kb [.int .u64 (k.at_:Nat),.int .u64 (xn:Nat)]);have xc:=zJ Zk;have gc:qd Kc Kb.length=some [.int .u64 (k.at_:Nat),.int .u64 (xn:Nat)]:=(by rw[<-Zk,zo]);have dc:J.length<Ka.length:=qx ga;have ij:Ka.length<Kb.length:=qx gb;have gh:List.take k.text.length (qf k.text)=qf k.text:=qJ wE;have km:=C.il;obtain⟨dT,Kd,gu,hA,fX,xd,nd⟩:=(((C.iR.ext xa (fun _ _=>wE)).ext xb (fun _ _=>wE)).ext xc (fun _ _=>wE)).append (P:=Tryz.prog) (st:=198) (xt:=198) (e:=207) (x:=.osl Kb.length 2 0 1 2) (xs:=[.int .u64 (k.at_:Nat),.int .u64 (xn:Nat)]) (m:=1) wE wE (by simp[-qd,gc]) wE wC wE wC wM wM;simp[-qd,-qn,-qr,-qG,-Kn.ea,p0,W,V,Y,E,O,F,M,bJ,qo,qS,hw,ae,aA,aw,R,ZW,zA,vF,zo,qdr,QV,ga,gw,fm,cS,Xe,Jz,gb,Zk,hA,gh];have fg:H.length∉Li:=fun hc=>by have:=(C.iN _ hc).2;omega
    refine⟨i+1,wC,wC,wE,wE,wE,wE,wE,wE,wE,wE,dT,ic++[.int .u64 (k.at_:Nat),.int .u64 (xn:Nat)],gu,wE,?_,?_,fX,?_,?_,fun j y=>?_⟩
    .exact(((C.g.side xa (fun j y=>xR) (fun j _=>wE)).side xb (fun j y=>xR) (fun j _=>wE)).side xc (fun j y=>xR) (fun j _=>wE)).side xd (fun j y=>by have:=(C.iN j y).2;omega) (fun j y hc=>(C.iN j hc).1 y)
    .exact xd.get (xc.get (xb.get (xa.get C.id wE) wE) wE) fg
    .rw[zp,km];simp;omega
    .intro d hd;rcases List.mem_append.1 hd with t|t
     .exact C.iu d t
     .simp only[jI,List.not_mem_nil,or_false] at t;rcases t with rfl|rfl
      .exact⟨_,rfl,wC⟩
      .exact⟨_,rfl,fJ⟩
    .rcases nd j y with t|t
     .exact C.iN j t
     .have e1:=xa.len;have e2:=xb.len;have e3:=xc.len;have e4:=qx C.id;exact⟨fun hc=>by have:=qde C.g.w hc;omega,wC⟩
   .have qo:=zq qg;have Zh:i=w.length:=wC;subst Zh;simp[-qd,-qn,-qr,p0,W,V,Y,E,O,F,M,bJ];exact⟨qA _,wE,wE,wE,wE,wE,wE,wE,wE,eC,ic,Li,wE,C⟩
  .clear p0 W V Y aa E O F M ac;rintro ex e J ⟨rfl,-,p0,W,V,Y,E,F,M,bJ,eC,ic,Li,O,C⟩;obtain⟨bD,dF,az⟩:=qwX C.iR (qer C.iu) C.il wC;obtain⟨K9,Xm⟩:=ql (jT J Li);have x9:Ext Li J K9:=Xm▸qha _;have g9:=C.g.side x9 (fun j y=>by have:=(C.iN j y).2;omega) (fun j y hc=>(C.iN j hc).1 y);have bB:qd K9 H.length=some (qf o.l):=x9.get C.id (fun hc=>by have:=(C.iN _ hc).2;omega);have aI:=qk5 g9.w;rw[g9.tl] at aI;obtain⟨seq,dK⟩:∃s,s=m.tl+1:=⟨_,rfl⟩;have fT:=zg ((m.tl:Int)+1) (seq:Int);obtain⟨_,cA,xx,gy,rfl⟩:=qwa cR pc A.ps bh wC;unfold jx at gy;obtain⟨xm,rfl⟩:∃xm:Nat,xx=(xm:Int):=⟨xx.toNat,wC⟩;have fx:xm<18446744073709551616:=wC;obtain⟨_,XG,te,iH,rfl⟩:=qyT seq rt mo o xm wC db eO fx bD ic w.length C.iu C.il az wC;replace XG:call cx 104 [.agg (.int .u64 (seq:Nat):: .int .u64 (rt:Nat):: .int .u64 (mo:Nat)::(qf o.l++[.int .u64 (xm:Nat),.vsl bD ic w.length]))] []=some (.vsl false (qf te) te.length,[]):=XG;have gO:=g9.ok.bmod;obtain⟨dJ,cq,bX,aR,dW,fG,iF⟩:=qhQ g9.w g9.ok te wC wC;obtain⟨aE,ah⟩:∃x,x=({G with b:=G.b++te,cs:=cq}:Jm):=⟨_,rfl⟩;rw[<-ah] at aR dW;have gV:aE.b.length=G.b.length+te.length:=(by rw[ah];simp);have gG:aE.cs=cq:=(by rw[ah]);have cX:aE.mn=G.mn:=(by rw[ah]);have dh:aE.main=G.main:=(by rw[ah]);have aD:aE.ne=m.ne:=(by rw[ah];exact g9.ne);have dC:=aR.root;have ei:=aR.len;have cg:=jC aR.c127;have bW:=jC aR.c146;rw[cX,dh] at bW;rw[aD] at cg;have gt:=qz (m.ne:Int) (m.ne:Int)
   have eG:ArrOk aE.b.length G.main m.ne:=by
    rw[g9.main];exact cP.mono (by have:=g9.bl;omega)
   have ix:=g9.ok.ft;have gY:=g9.ok.bl;obtain⟨aP,ax,u,z,ao,hz,L,ag,gD,em,eR⟩:=qsz aR dW G.mn G.main m.ne 176 G.b.length g9.ok.mn eG wC wC wC wC
   have cG:∃al Q,u=al::Q:=by
    cases dZ:u with
    |nil=>exact absurd (ag.nil dZ) wC
    |cons al Q=>exact⟨al,Q,rfl⟩
   have eg:jT K9 []=K9:=rfl;obtain⟨al,Q,rfl⟩:=cG;obtain⟨u,aq⟩:∃a,a=al::Q:=⟨_,rfl⟩;rw[<-aq] at ao ag;rw[show((176:Nat):Int)=176 from rfl] at ao;have gW:=qiH ag;have iI:u.length=Q.length+1:=(by rw[aq];rfl);have dO:qP .u64 u=.int .u64 (al:Nat)::qP .u64 Q:=(by rw[aq];rfl);have dL:Q.length<u.length:=wC;have cH:=qeo (k:=.u64) dL;obtain⟨lv,dP⟩:=ql (u[Q.length]);rw[dP] at cH;have dU:(Q.length:Int)<(u.length:Int):=wC;have iC:(0:Int)<(u.length:Int):=wC;have eq:0<u.length:=wC;have dS:=qz ((u.length:Int)-1) (Q.length:Int);have cD:=L.w.root;have eJ:=L.w.len;have bo:=q1D L.w u;obtain⟨bm,ce⟩:∃C,C=ax.cs.set 146 (.vsl false (qP .u64 u) u.length):=⟨_,rfl⟩;have ew:List.take 146 ax.cs++D.vsl false (qP .u64 u) u.length::List.drop 147 ax.cs=bm:=(by rw[ce];exact vu wC);rw[<-ce] at bo;have gS:∀C,qd (qn aP q C) q=some C:=fun C=>zk (qx cD);have fB:bm.length=147:=bo.len;have aU:=jC bo.c146;simp only at aU
   have fZ:∀a,a∈u->a<18446744073709551616:=fun a ha=>by
    obtain⟨j,y⟩:=List.getElem?_of_mem ha;have:=ag.at_ j a y;have:=L.ok.bmax;omega
   have Zj:al<18446744073709551616:=fZ al (by rw[aq];simp);have aL:=XA bo (i:=130) rfl (d:=.int .u64 (al:Nat)) ⟨al,rfl,Zj⟩;simp only[QI] at aL;obtain⟨bk,ci⟩:∃C,C=bm.set 130 (.int .u64 (al:Nat)):=⟨_,rfl⟩;have fU:List.take 130 bm++D.int .u64 (al:Nat)::List.drop 131 bm=bk:=(by rw[ci];exact vu wC);rw[<-ci] at aL;have fH:bk.length=147:=aL.len;have aC:=jC aL.c146;simp only at aC;have gJ:=ag.at_ Q.length lv (by rw[qN dL,dP]);have fu:=L.ok.bmax;obtain⟨bc,cT⟩:∃v,v=lv:=⟨_,rfl⟩;have dk:bc<4294967296:=wC;have dV:IntKind.u32.wrap (lv:Int)=(bc:Int):=(by rw[cT,qjb];omega);have ej:=qdT (z:Int) (z:Int);have bp:=q19 aL bc dk;simp only[QI] at bp;obtain⟨bA,bZ⟩:∃C,C=bk.set 139 (.int .u32 (bc:Nat)):=⟨_,rfl⟩;have fY:List.take 139 bk++D.int .u32 (bc:Nat)::List.drop 140 bk=bA:=(by rw[bZ];exact vu wC);rw[<-bZ] at bp;have fM:bA.length=147:=bp.len;have aO:=q16 bp z wC;simp only[QI] at aO;obtain⟨aX,cB⟩:∃C,C=bA.set 140 (.int .u32 (z:Nat)):=⟨_,rfl⟩;have fz:List.take 140 bA++D.int .u32 (z:Nat)::List.drop 141 bA=aX:=(by rw[cB];exact vu wC);rw[<-cB] at aO;have iB:aX.length=147:=aO.len;rw[dO] at ew aU aC cH;have dH:List.drop 17 (qf o.l++[D.int .u64 0,.vsl true [] 0])=[.vsl true [] 0]:=(by simp[jf,List.drop_of_length_le,lo]);have gA:List.take 17 (qf o.l++[D.int .u64 (xm:Nat),.vsl true [] 0])=qf o.l++[D.int .u64 (xm:Nat)]:=(by simp[Zp,qJ,lo]);have fV:List.drop 18 (qf o.l++[D.int .u64 (xm:Nat),.vsl true [] 0])=[]:=(by simp[lo]);have iA:ic.all idFree=true:=qer C.iu
   have dQ:j8 K9 9 (.agg (.int .u64 (seq:Nat):: .int .u64 (rt:Nat):: .int .u64 (mo:Nat)::(qf o.l++[.int .u64 (xm:Nat),.vsl bD ic w.length])))=some (.agg (.int .u64 (seq:Nat):: .int .u64 (rt:Nat):: .int .u64 (mo:Nat)::(qf o.l++[.int .u64 (xm:Nat),.vsl bD ic w.length])),[]):=by
    unfold j8;rw[if_pos (by simp[idFree,Qv,qf])]
   simp[-qd,-qn,-qr,-qG,-j8,-jT,p0,W,V,Y,E,O,F,M,dF,Xm,bB,aI,fT,cA,XG,bX,dC,ei,cg,bW,gt,ao,lo,dH,gA,fV,dQ,eg,cD,eJ,ew,gS,fB,aU,dO,eq,fU,QI,fH,aC,dS,dU,cH,dV,ej,fY,fM,fz,kK];have eQ:=qvy eG (k:=2) (by rw[show vt 2=12 from rfl];omega);have ip:=qns eQ wC;obtain⟨bM,ba⟩:=ql (qn aP q aX);rw[ba] at aO⊢;obtain⟨aF,ai⟩:∃x,x=({ax with mn:=false,main:=u,cs:=aX}:Jm):=⟨_,rfl⟩;have ef:JmW bM q aF:=(by rw[ai];exact aO);have br:aE.names q=G.names q:=(by rw[ah];rfl);have cE:aF.names q=ax.names q:=(by rw[ai];rfl);have iG:H.length<K9.length:=qx bB;have bT:H.length∉G.names q:=A.idN
   have cL:H.length∉ax.names q:=fun hc=>by
    rcases L.new _ hc with t|t
    .rw[br] at t;exact bT t
    .omega
   have cj:Ext (G.names q) K9 dJ:=fG.mono fun i hi=>by
    simp only[jI,List.not_mem_nil,or_false] at hi;rcases hi with rfl|rfl
    .exact VV
    .exact KR
   have bP:Ext (G.names q) dJ aP:=(by rw[<-br];exact L.ext);have ch:Ext (G.names q) aP bM:=(ba▸Ext.set aP q aX:Ext [q] aP bM).mono fun i hi=>by rw[List.mem_singleton.1 hi];exact VV
   have bb:=(cj.trans bP (NewL.refl _ _)).trans ch (NewL.refl _ _);have aJ:aF.da=G.da:=(by rw[ai];simp only;rw[em,ah]);have bR:aF.fi=G.fi:=(by rw[ai];simp only;rw[eR,ah]);have gX:aF.b.length=ax.b.length:=by rw[ai]
   have D0:ApD H q m o G.da.length 0 bM aF:=by
    refine⟨ef,?_,g9.ext.trans bb g9.new,?_,?_,?_,?_,?_,by rw[aJ],by rw[aJ];have:=A.da;omega,by rw[bR];have:=A.fi;omega,by rw[aJ];exact A.cn,bb.get bB bT,by rw[cE];exact cL⟩
    .rw[ai]
     exact{L.ok with
      main:=⟨ax.ne+1,wJ,by simp only;rw[L.ne,aD];exact ag⟩
      mn:=fun h=>by simp at h}
    .rw[cE];intro i hi;rcases L.new i hi with t|t
     .rw[br] at t;exact g9.new i t
     .exact .inr wC
    .rw[ai];simp only;rw[L.ne,aD]
    .rw[ai];simp only;rw[L.tl,ah];exact g9.tl
    .rw[ai];exact ag
    .omega
   have aT:∀j,j∈w->j<G.da.length:=A.wb;obtain⟨dl,zY⟩:∃d,d=G.da.length:=⟨_,rfl⟩;obtain⟨av,eb⟩:∃a,a=G.b.length:=⟨_,rfl⟩;rw[<-zY] at D0 aT;rw[<-eb];have cw:av<18446744073709551616:=(by have:=g9.ok.bmax;omega);have Ys:w.length<=4:=wC;have eB:nl=true->w=[]:=fun h=>by simpa[qP] using zG h
   clear ai ba Xm bX ao XG cA aJ bR dQ p0 W V Y E O F M bJ bb cj bP ch L aO bp aL bo A C;refine JC (apK q H m o w nl rt mo p seq av dl) (fun i=>w.length-i) 0 (fun ex e K=>ex=.exit 6/\apK q H m o w nl rt mo p seq av dl w.length e K) ?_ ?_ ?_
   .exact⟨vg _,wE,wE,wE,wE,wE,wE,wE,wE,wE,wE,aF,D0⟩
   .rintro i e J ⟨hi,p0,W,V,Y,E,F,aM,aN,aQ,bF,S,B⟩;by_cases qg:i<w.length
    .have qo:=zn qg;have hw:=qz ((i:Int)+1) ((i+1:Nat):Int)
     have vK:nl=false:=by
      cases az:nl with
      |false=>rfl
      |true=>
       rw[eB az] at qg;simp at qg
     subst vK;have qS:=qeo (k:=.i64) qg;obtain⟨j1,ZD⟩:=ql (w[i]);rw[ZD] at qS;have V5:j1<S.da.length:=(by rw[B.dl];exact aT j1 (ZD▸vQ qg));have ae:(j1:Int)<(S.da.length:Int):=wC;obtain⟨k,r0,Kk,vF,vC,aH,ck⟩:=qdh V5;have aj:qt S.da≠[]:=fun e0=>by rw[e0] at vF;simp at vF
     obtain⟨ro,nn,aY,vy,ZW,cN⟩:=B.w.rowD.own aj
     have ji:nn=S.da.length:=by
      have:=ZZ S.da;rw[this] at vy;simp at vy;omega
     subst ji;have zA:(qt S.da).length=S.da.length*5:=vy;have aA:=B.w.root;have aw:=B.w.len;have R:=jC B.w.c144;rw[aY,zA] at R;have Z:=B.ok.da k Kk;have fP:=Z.at_;have ik:=B.cn k Kk;have fF:=B.ok.bmax;have fQ:=B.bl;have gM:=B.ne;obtain⟨Ka,QV⟩:=ql (qr J [.str k.text,.int .u64 (k.at_:Nat),.int .i64 (k.slot:Nat),.int .i64 (k.cnt:Nat),.vsl k.nil (qP .u64 k.arrs) k.arrs.length]);have xa:Ext [] J Ka:=QV▸Ext.new J _;have ga:qd Ka J.length=some [.str k.text,.int .u64 (k.at_:Nat),.int .i64 (k.slot:Nat),.int .i64 (k.cnt:Nat),.vsl k.nil (qP .u64 k.arrs) k.arrs.length]:=(by rw[<-QV,zo]);have wa:=X9 B.w xa;have eo:∀j,j∈S.names q->j<J.length:=fun j y=>qde B.w y;obtain⟨eY,gU⟩:∃x,x=k.at_+40:=⟨_,rfl⟩;obtain⟨eM,gE⟩:∃x,x=k.at_+48:=⟨_,rfl⟩;obtain⟨dq,ie⟩:∃x,x=k.at_+56:=⟨_,rfl⟩;obtain⟨c1,Kq⟩:∃x,x=k.cnt-1:=⟨_,rfl⟩;obtain⟨c2,Q2⟩:∃x,x=k.cnt+1:=⟨_,rfl⟩;have fk:=zg ((k.at_:Int)+40) (eY:Int);have fD:=zg ((k.at_:Int)+48) (eM:Int);have er:=zg ((k.at_:Int)+56) (dq:Int);have fe:=qz ((k.cnt:Int)+1) (c2:Int);have bQ:=zg (c2:Int) (c2:Int);have dB:j1*5+5<=S.da.length*5:=wC
     have key:∀(Kb:qe)(m6:Jm)(nk:Bool)(ar:List Nat),JGrow Ka Kb q S m6->m6.da=S.da->m6.fi=S.fi->m6.b.length<=S.b.length+280->ArrOk m6.b.length ar (c2-1)->(nk=true->ar=[])->
       ∃Kd T m7 U,call cx 107 [.optr q 147 0,.int .u64 dq,.int .u64 c2] (qn Kb J.length [.str k.text,.int .u64 (k.at_:Nat),.int .i64 (k.slot:Nat),.int .i64 (c2:Nat),.vsl nk (qP .u64 ar) ar.length])=some (.tup [],Kd)
        /\qd Kb J.length=some [.str k.text,.int .u64 (k.at_:Nat),.int .i64 (k.slot:Nat),.int .i64 (k.cnt:Nat),.vsl k.nil (qP .u64 k.arrs) k.arrs.length]
        /\qd Kd q=some m6.cs/\m6.cs.length=147/\List.drop 144 m6.cs=.osl U (S.da.length*5) 0 S.da.length 5::List.drop 145 m6.cs
        /\qd Kd J.length=some [.str k.text,.int .u64 (k.at_:Nat),.int .i64 (k.slot:Nat),.int .i64 (c2:Nat),.vsl nk (qP .u64 ar) ar.length]
        /\qd Kd U=some (qt S.da)
        /\qn Kd U (qt (List.take j1 S.da)++(.str k.text:: .int .u64 (k.at_:Nat):: .int .i64 (k.slot:Nat):: .int .i64 (c2:Nat):: .vsl nk (qP .u64 ar) ar.length::List.drop (j1*5+5) (qt S.da)))=T
        /\ApD H q m o dl (i+1) T m7:=by
      intro Kb m6 nk ar g6 au bn fK dg fW;have io:Ka.length=J.length+1:=(by rw[<-QV,jg]);have gb:qd Kb J.length=some [.str k.text,.int .u64 (k.at_:Nat),.int .i64 (k.slot:Nat),.int .i64 (k.cnt:Nat),.vsl k.nil (qP .u64 k.arrs) k.arrs.length]:=g6.ext.get ga (fun hc=>by have:=eo _ hc;omega)
      have nb:∀j,j∈m6.names q->j≠J.length:=fun j y e=>by
       rcases g6.new j y with t|t
       .have:=eo j t;omega
       .omega
      obtain⟨bK,bt⟩:∃c:List D,c=[.str k.text,.int .u64 (k.at_:Nat),.int .i64 (k.slot:Nat),.int .i64 (c2:Nat),.vsl nk (qP .u64 ar) ar.length]:=⟨_,rfl⟩;rw[<-bt];obtain⟨Kc,Zk⟩:=ql (qn Kb J.length bK);have xc:=vZ Zk;have gc:qd Kc J.length=some bK:=(by rw[<-Zk];exact zk (qx gb));have wc:=qfj g6.w xc (fun j y hc=>nb j y (List.mem_singleton.1 hc));have gH:=g6.bl;obtain⟨Kd,b7,dz,df,wd,cJ,xd,ld⟩:=qaX wc g6.ok dq c2 wC;rw[Zk];have eX:qt m6.da≠[]:=(by rw[au];exact aj);obtain⟨U,n2,ay,aB,am,bf⟩:=wd.rowD.own eX;simp only at ay aB am bf;rw[au] at ay aB am;have jR:n2=S.da.length:=(by rw[zA] at aB;omega);subst jR;rw[zA] at ay;have N:=jC wd.c144;simp only at N;rw[ay] at N;have aW:m6.bi∈m6.names q:=KR;have bY:U∈m6.names q:=qhB (by rw[bf];simp);have gd:qd Kd J.length=some bK:=xd.get gc (fun hc=>nb _ aW (List.mem_singleton.1 hc).symm);obtain⟨k',bN⟩:∃x:Kn,x=⟨k.text,k.at_,k.slot,c2,nk,ar⟩:=⟨_,rfl⟩;have fo:(Enc.cells k':List D)=bK:=(by rw[bN,bt];rfl);have we:=q1B (j:=j1) wd k' (by simp only;exact bf) (by simp only;rw[au];exact ay) (by rw[am];rfl);simp only at we;have bz:=XV S.da j1 k' V5;rw[qa2 (n:=5) rfl,fo] at bz;obtain⟨T,hT⟩:=ql (qn Kd U (qt (S.da.set j1 k')));rw[au,hT] at we;refine⟨Kd,T,_,U,dz,gb,wd.root,wd.len,N,gd,am,by rw[<-hT,bz,bt];rfl,we,?_,?_,?_,?_,?_,?_,?_,?_,?_,?_,?_,?_,?_⟩
      .exact{cJ with
        da:=fun x hx=>by
         simp only at hx⊢;rcases qcH hx with t|t
         .exact cJ.da x (by simp only;rw[au];exact t)
         .rw[t,bN];have e7:b7.length=m6.b.length:=df;exact⟨wJ,by simp only;rw[g6.ds];exact Z.slot,by simp only;rw[e7];exact dg,by simp only;exact fW,by simp only;exact Z.txt⟩
        nda:=by
         have:=B.ok.nda;simp only;rw[vI];exact this
        cn:=fun x hx=>by
         simp only at hx⊢;rcases qcH hx with t|t
         .exact cJ.cn x (by simp only;rw[au];exact t)
         .have:=g6.ne;rw[t,bN];simp only;omega}
      .have eH:=B.ext.len;have n6:NewL (m.names q) (m6.names q) H.length:=B.new.trans g6.new (by have:=xa.len;omega);have z1:=B.ext.trans xa (fun j y=>xR);have z2:=z1.trans g6.ext B.new;have z3:=z2.trans xc (fun j y=>.inr (by rw[List.mem_singleton.1 y];exact eH));have z4:=z3.trans xd (fun j y=>by rw[List.mem_singleton.1 y];exact n6 _ aW);exact z4.trans (hT▸Ext.set Kd U _:Ext [U] Kd T) (fun j y=>by rw[List.mem_singleton.1 y];exact n6 _ bY)
      .exact B.new.trans g6.new (by have:=xa.len;have:=B.ext.len;omega)
      .exact g6.ne.trans B.ne
      .exact g6.tl.trans B.tl
      .simp only;rw[g6.main];exact B.main.mono (by rw[df];exact g6.bl)
      .simp only;rw[df];omega
      .simp only;rw[vI];exact B.dl
      .simp only;rw[vI];exact B.da
      .simp only;rw[bn];exact B.fi
      .intro x hx;simp only at hx;rcases qcH hx with t|t
       .have:=B.cn x t;omega
       .rw[t,bN];simp only;omega
      .have ZV:=B.id;have e1:=qx ZV;have g1:=g6.ext.get (xa.get ZV wE) B.idN
       have cC:H.length∉m6.names q:=fun hc=>by
        rcases g6.new _ hc with t|t
        .exact B.idN t
        .omega
       have g2:=xd.get (xc.get g1 wG) (fun hc=>cC (by rw[List.mem_singleton.1 hc];exact aW));exact(hT▸Ext.set Kd U _:Ext [U] Kd T).get g2 (fun hc=>cC (by rw[List.mem_singleton.1 hc];exact bY))
      .intro hc;have e1:=qx B.id;rcases g6.new _ hc with t|t
       .exact B.idN t
       .omega
     by_cases cM:k.cnt=0
     .have cu:((k.cnt:Int)==0)=true:=(by rw[cM];rfl);have gK:=eq_true cM;obtain⟨Kb,b1,cY,JR,wb,fE,xb,lb⟩:=qaX wa B.ok eY av wC;have g6:JGrow Ka Kb q S {S with b:=b1}:=⟨wb,fE,xb.mono (fun i hi=>by rw[List.mem_singleton.1 hi];exact KR),NewL.refl _ _,rfl,rfl,rfl,rfl,rfl,rfl,rfl,rfl,rfl,wJ⟩;obtain⟨Kd,T,m7,U,aG,gb,bE,cQ,N,gd,cK,hT,A6⟩:=key Kb _ k.nil k.arrs g6 rfl rfl wJ (by simp only;rw[JR,show c2-1=k.cnt-1 from wC];exact Z.arr) Z.nil;simp only at N bE cQ
      have dX:U=ro:=by
       rw[R] at N;injection N with t _;injection t with h2 _ _ _ _;exact h2.symm
      subst dX;have cO:∀X,qd (qn Kb J.length X) J.length=some X:=fun X=>zk (qx gb);simp[-qd,-qn,-qr,-qG,-Kn.ea,p0,W,V,Y,E,F,aM,aN,aQ,bF,qo,qS,hw,ae,aA,aw,R,ZW,zA,vF,zo,qdr,QV,ga,cu,fk,cY,cO,gb,fe,er,bQ,aG,bE,gd,cK,hT,dB];exact⟨i+1,wC,wC,wE,wE,wE,wE,wE,wE,wE,wE,wE,wE,m7,A6⟩
     .have cu:¬(k.cnt:Int)=0:=wC;have fO:=qz ((k.cnt:Int)-1) (c1:Int);have du:=qvy (Kq▸Z.arr) (k:=3) (by rw[show vt 3=28 from rfl];omega);have gI:=qns du wC;obtain⟨Kb,m6,ar,z2,bI,Qx,g6,dg,fK,au,bn⟩:=qsz wa B.ok k.nil k.arrs c1 eM av Z.nil (Kq▸Z.arr) wC wC cw wC;obtain⟨Kd,T,m7,U,aG,gb,bE,cQ,N,gd,cK,hT,A6⟩:=key Kb m6 false ar g6 au bn wC (by rw[show c2-1=c1+1 from wC];exact dg) (fun h=>wP);have cO:∀X,qd (qn Kb J.length X) J.length=some X:=fun X=>zk (qx gb);simp[-qd,-qn,-qr,-qG,-Kn.ea,p0,W,V,Y,E,F,aM,aN,aQ,bF,qo,qS,hw,ae,aA,aw,R,ZW,zA,vF,zo,qdr,QV,ga,cO,cM,fD,fO,bI,gb,fe,er,bQ,aG,bE,cQ,N,gd,cK,hT,QI,dB];exact⟨i+1,wC,wC,wE,wE,wE,wE,wE,wE,wE,wE,wE,wE,m7,A6⟩
    .have qo:=zq qg;have Zh:i=w.length:=wC;subst Zh;simp[-qd,-qn,-qr,p0,W,V,Y,E,F,aM,aN,aQ,bF];exact⟨qA _,wE,wE,wE,wE,wE,wE,wE,wE,wE,wE,S,B⟩
   .rintro ex e J ⟨rfl,-,p0,W,V,Y,E,F,aM,aN,aQ,bF,S,B⟩;have bC:=B.w.root;have cW:=B.w.len;have bU:=jC B.w.c143;have eE:=jC B.w.c50;have fQ:=B.bl;have bg:¬(32768:Int)<(S.b.length:Int):=wC;have fj:¬32768<S.b.length:=by omega
    have ir:∀n,(∀x,x∈qf o.l->closed n x=true)=True:=fun n=>eq_true fun x hx=>by
     simp only[qf,ZM] at hx;obtain⟨_,_,rfl⟩:=hx;rfl
    obtain⟨bG,aj⟩:∃n,n=m.ne+1:=⟨_,rfl⟩;have cF:=zg ((m.ne:Int)+1) (bG:Int);have eW:∀C,qd (qn J q C) q=some C:=fun C=>zk (qx bC)
    have bV:∀C,qd (qn J q C) H.length=some (qf o.l):=fun C=>by
     rw[zW (fun e=>B.idN (by rw[e];exact VV))];exact B.id
    have bv:seq<18446744073709551616:=wC
    have fin:∀C2,JmW (qn J q C2) q {S with cs:=C2}->∃C3 C4 C5 C6 C7 C8,List.drop 127 C2=.int .u64 (m.ne:Nat)::List.drop 128 C2/\C2.length=147
      /\List.take 127 C2++D.int .u64 (bG:Nat)::List.drop 128 C2=C3/\C3.length=147
      /\List.take 128 C3++D.int .u64 (seq:Nat)::List.drop 129 C3=C4/\C4.length=147
      /\List.take 132 C4++D.int .u64 (rt:Nat)::List.drop 133 C4=C5/\C5.length=147
      /\List.take 133 C5++D.int .u64 (mo:Nat)::List.drop 134 C5=C6/\C6.length=147
      /\List.take 87 C6++(qf o.l++List.drop 103 C6)=C7/\C7.length=147
      /\List.take 141 C7++D.int .u64 (av:Nat)::List.drop 142 C7=C8
      /\∃G,ApE H (qn J q C8) q m G:=by
     intro C2 w2;have l2:C2.length=147:=w2.len;have ak:=jC w2.c127;simp only[B.ne] at ak;have w3:=q1C w2 bG wC;simp only[QI] at w3;have w4:=q1A w3 seq bv;simp only[QI] at w4;have w5:=XA w4 (i:=132) rfl (d:=.int .u64 (rt:Nat)) ⟨rt,rfl,db⟩;simp only[QI] at w5;have w6:=XA w5 (i:=133) rfl (d:=.int .u64 (mo:Nat)) ⟨mo,rfl,eO⟩;simp only[QI] at w6;have w7:=q1I w6 o;simp only[QI] at w7;have w8:=XA w7 (i:=141) rfl (d:=.int .u64 (av:Nat)) ⟨av,rfl,cw⟩;simp only[QI] at w8;have l3:=w3.len;have l4:=w4.len;have l5:=w5.len;have l6:=w6.len;have l7:=w7.len;simp only at l3 l4 l5 l6 l7;refine⟨_,_,_,_,_,_,ak,l2,vu wC,l3,vu wC,l4,vu wC,l5,vu wC,l6,rfl,l7,vu wC,_,w8,?_,?_,?_,?_,?_,?_,?_,?_,?_,?_⟩
     .exact{B.ok with
       tl:=wJ
       ne:=wJ
       main:=⟨bG,wJ,by simp only;rw[aj];exact B.main⟩
       cn:=fun x hx=>by have:=B.cn x hx;simp only;omega}
     .simp only;rw[aj];exact B.main
     .intro x hx;have:=B.cn x hx;simp only;omega
     .exact B.ext.trans (Ext.set J q _) (fun j y=>.inl (by rw[List.mem_singleton.1 y];exact VV))
     .exact B.new
     .exact aj
     .exact dK
     .simp only;omega
     .exact B.da
     .exact B.fi
    by_cases Xa:m.ne=0
    .have bj:((m.ne:Int)==0)=true:=(by rw[Xa];rfl);have dD:=eq_true Xa;have w1:=XA B.w (i:=129) rfl (d:=.int .u64 (seq:Nat)) ⟨seq,rfl,bv⟩;have w2:=XA w1 (i:=131) rfl (d:=.int .u64 (rt:Nat)) ⟨rt,rfl,db⟩;simp only[QI] at w2;have l1:(S.cs.set 129 (.int .u64 (seq:Nat))).length=147:=(by rw[vI];exact cW);obtain⟨C1,V8⟩:∃C,C=S.cs.set 129 (.int .u64 (seq:Nat)):=⟨_,rfl⟩;have s1:List.take 129 S.cs++D.int .u64 (seq:Nat)::List.drop 130 S.cs=C1:=(by rw[V8];exact vu wC);rw[<-V8] at w2 l1;obtain⟨C2,jK⟩:∃C,C=C1.set 131 (.int .u64 (rt:Nat)):=⟨_,rfl⟩;have s2:List.take 131 C1++D.int .u64 (rt:Nat)::List.drop 132 C1=C2:=(by rw[jK];exact vu wC);rw[<-jK] at w2;obtain⟨C3,C4,C5,C6,C7,C8,ak,l2,s3,l3,s4,l4,s5,l5,s6,l6,s7,l7,s8,mE,hE⟩:=fin C2 w2;simp[-qd,-qn,-qr,-qG,p0,W,V,Y,E,aM,aN,aQ,bC,cW,bU,eE,bg,bj,s1,eW,l1,s2,QI,ak,l2,s3,l3,s4,l4,s5,l5,s6,l6,lo,s7,l7,s8,bV,cF];exact⟨_,⟨wC,rfl⟩,mE,hE⟩
    .have bj:((m.ne:Int)==0)=false:=(by simp[Xa]);have dD:=eq_false Xa;obtain⟨C3,C4,C5,C6,C7,C8,ak,l2,s3,l3,s4,l4,s5,l5,s6,l6,s7,l7,s8,mE,hE⟩:=fin S.cs (by rw[qdq bC];exact B.w);simp[-qd,-qn,-qr,-qG,p0,W,V,Y,E,aM,aN,aQ,bC,cW,bU,eE,bg,bj,eW,QI,ak,s3,l3,s4,l4,s5,l5,s6,l6,lo,s7,l7,s8,bV,cF];exact⟨_,⟨wC,rfl⟩,mE,hE⟩
def q6O(n:Nat)(r:Rec):Prop:=r.seq=n/\r.Ok/\1<=r.fields.l.length/\r.fields.l.length<=4/\∀p∈r.fields.l,VW p=true
theorem qjf{n:Nat}(h:n<18446744073709551616):jx (n:Int):=by
 unfold jx;omega
theorem q0h[MaxL][TxtC](nil:Bool)(zs:List Int)(d:nil=true->zs=[])(c:zs.length<=1000000)(k:Nat)(n:Nat)(t:n<18446744073709551616):
  ∃(r:Rec)(k':Nat),q6O n r/\call cx 56 [.optr 0 2 0,.int .u64 n] [some (jU nil zs k)]=some (.agg (Enc.cells r),[some (jU nil zs k')]):=by
 obtain⟨q,s,l,E,v,e,m,rfl⟩:=q0j nil zs d c k;obtain⟨q,K,out,f,g,u,rfl⟩:=qpb l v e m;obtain⟨x,w,hx,-,p⟩:=KS nil zs d c E 40 wH wH;obtain⟨y,A,M,-,C⟩:=KS nil zs d c w 9 wH wH;obtain⟨z,G,o,-,H⟩:=KS nil zs d c A 3 wH wH;have I:=qoH (j:=z) wC;refine⟨⟨n,x,y,idN z,.of out⟩,G,⟨rfl,⟨qjf t,qjf wC,qjf wC⟩,f,g,u⟩,?_⟩;have B:=qeS nil zs;have N:=qeR nil zs;have F:=qeT nil zs;have a:=zg (x:Int) (x:Int);have b:=zg (y:Int) (y:Int);have hi:=(idN z).h;generalize idN z=i at *;have L:List.take 16 (qf i.l)=qf i.l:=qJ wE;have J:List.drop 17 (qf i.l++[D.vsl true [] 0])=[]:=Jc wE;refine qC Tryz.func56 rfl ⟨rfl,rfl⟩ ?_;simp[Tryz.f56,s,K,p,C,H,I,B,F,a,b,Rec.cells,hi,J,Zp]
end Go.Ev.S
