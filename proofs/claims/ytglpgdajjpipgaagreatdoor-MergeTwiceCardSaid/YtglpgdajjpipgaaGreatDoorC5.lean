import Derived.Test.YtglpgdajjpipgaaGreatDoorC4
import Derived.Shelf.LaysM
import Derived.Shelf.Strconv.Clone
import Derived.Shelf.Strings.Search2
import Derived.Shelf.Strings.Repeat
import Derived.Test.YtglpgdajjpipgaaGreatDoorProg
import Derived.Shelf.SlLaysNS
import Derived.Tactics
import Derived.Tactics2
import Derived.Defers
import Derived.Recover
import Derived.Laws.Pointers
import Derived.WalkLawsBesides
set_option maxHeartbeats 8000000
set_option maxRecDepth 100000
namespace Go.Ev.S
open Go Go.Proofs Go.Ev
theorem qlQ[MaxL][TxtC](s:Sl UInt8)(b:s.l.length<=140737488355328):
  call cx 93 [(.vsl s.nil (qf s.l) s.l.length)] []=if s.nil then some (.vsl true [] 0,[]) else some (.osl 0 s.l.length 0 s.l.length 1,[some (qf s.l)]):=by
 obtain⟨nil,l,c⟩:=s;simp only at b⊢;cases nil with
 |true=>
  have a:=c rfl;subst a;rw[if_pos rfl];refine qC Tryz.func93 rfl ⟨rfl,rfl⟩ ?_;simp[Tryz.f93]
 |false=>
  rw[if_neg wH];refine qC Tryz.func93 rfl ⟨rfl,rfl⟩ ?_;simp[Tryz.f93,qF,b]
def Buf(d:D)(H:qe)(l:List UInt8):Prop:=(d=.vsl true [] 0/\l=[]/\H=[])\/(d=.osl 0 l.length 0 l.length 1/\H=[some (qf l)])
end Go.Ev.S
namespace Go.Ev
open Go Go.Proofs
@[simp] theorem ID.ta (i:ID) (r:List D):(qf i.l++r).take 16=qf i.l:=wE
@[simp] theorem ID.da (i:ID) (r:List D):(qf i.l++r).drop 16=r:=wE
theorem qeB:∀(x y:List UInt8),zn y x= -zn x y
 |[],[]=>rfl
 |[],_::_=>rfl
 |_::_,[]=>rfl
 |a::x,b::y=>by
  simp only[zn];by_cases h:a=b
  .subst h;simp[qeB x y]
  .have d:¬b=a:=fun e=>h e.symm;rw[if_neg h,if_neg d];by_cases c:a<b
   .have:¬b<a:=UInt8.not_lt.2 (UInt8.le_of_lt c);rw[if_pos c,if_neg this];rfl
   .have:b<a:=UInt8.lt_of_le_of_ne (UInt8.not_lt.1 c) d;rw[if_neg c,if_pos this]
theorem qgL:∀{x y:List UInt8},zn x y=0->x=y
 |[],[],_=>rfl
 |[],_::_,h=>by simp[zn] at h
 |_::_,[],h=>by simp[zn] at h
 |a::x,b::y,h=>by
  simp only[zn] at h;by_cases e:a=b
  .rw[if_pos e] at h;rw[e,qgL h]
  .rw[if_neg e] at h;split at h<;>simp at h
theorem qgK:∀(x y:List UInt8),zn x y= -1\/zn x y=0\/zn x y=1
 |[],[]=>by simp[zn]
 |[],_::_=>by simp[zn]
 |_::_,[]=>by simp[zn]
 |a::x,b::y=>by
  simp only[zn];split
  .exact qgK x y
  .split<;>simp
theorem qf5:∀{x y z:List UInt8},zn x y<0->zn y z<0->zn x z<0
 |[],[],_,h,_=>by simp[zn] at h
 |[],_::_,[],_,h=>by simp[zn] at h
 |[],_::_,_::_,_,_=>by simp[zn]
 |_::_,[],_,h,_=>by simp[zn] at h
 |_::_,_::_,[],_,h=>by simp[zn] at h
 |a::x,b::y,c::z,e,d=>by
  simp only[zn] at e d⊢;by_cases f:a=b
  .subst f;rw[if_pos rfl] at e;by_cases e2:a=c
   .subst e2;rw[if_pos rfl] at d⊢;exact qf5 e d
   .rw[if_neg e2] at d⊢;exact d
  .rw[if_neg f] at e
   have g:a<b:=by
    by_cases l:a<b
    .exact l
    .rw[if_neg l] at e;simp at e
   by_cases e2:b=c
   .subst e2;rw[if_neg f,if_pos g];decide
   .rw[if_neg e2] at d
    have j:b<c:=by
     by_cases l:b<c
     .exact l
     .rw[if_neg l] at d;simp at d
    have i:a<c:=UInt8.lt_trans g j;rw[if_neg (UInt8.ne_of_lt i),if_pos i];decide
theorem qkK{a b:ID}(h:zn a.l b.l=0):a=b:=ID.ext' (qgL h)
def vT(k:Nat):UInt8:=if k<10 then UInt8.ofNat (48+k) else UInt8.ofNat (87+k)
def ZY:Nat->Nat->List UInt8
 |0,_=>[]
 |f+1,v=>if v<16 then[vT v] else ZY f (v/16)++[vT (v % 16)]
def hx(v:Nat):List UInt8:=ZY 16 v
def Xo:List UInt8:=[48,49,50,51,52,53,54,55,56,57,97,98,99,100,101,102]
def qly:List UInt8:=[48,49,50,51,52,53,54,55,56,57,97,98,99,100,101,102,103,104,105,106,107,108,109,110,111,112,113,114,115,116,117,118,119,120,121,122]
theorem quX:∀k,k<16->qly[k]?=some (vT k):=wH
theorem quW:∀k,k<16->Xo[k]?=some (vT k):=wH
theorem quV:∀k,k<16->QG (vT k) Xo 0=(k:Int):=wH
theorem qtt:∀(f v:Nat),(ZY f v).length<=f
 |0,_=>qA _
 |f+1,v=>by
  rw[ZY];split
  .simp
  .have:=qtt f (v/16);simp;omega
theorem qtj(v:Nat):(hx v).length<=16:=qtt 16 v
theorem qif:∀k,k<16->vT k≠59/\vT k≠61/\vT k≠45:=wH
theorem qts:∀(f v:Nat),∀x∈ZY f v,x≠59/\x≠61/\x≠45
 |0,_=>by simp[ZY]
 |f+1,v=>by
  rw[ZY];split
  .intro x hx;rw[List.mem_singleton.1 hx];exact qif v (by assumption)
  .intro x hx;rcases List.mem_append.1 hx with h|h
   .exact qts f _ x h
   .rw[List.mem_singleton.1 h];exact qif _ (YA _ wH)
theorem q3z(v:Nat):∀x∈hx v,x≠59/\x≠61/\x≠45:=qts 16 v
def ju:List UInt8->List UInt8
 |[]=>[]
 |b::l=>vT (b.toNat/16)::vT (b.toNat % 16)::ju l
theorem qe0:∀(l:List UInt8),(ju l).length=2*l.length
 |[]=>rfl
 |b::l=>by simp[ju,qe0 l];omega
theorem qtq:∀(a b:List UInt8),ju (a++b)=ju a++ju b
 |[],_=>rfl
 |x::a,b=>by simp[ju,qtq a b]
theorem qtp:∀(l:List UInt8),∀x∈ju l,x≠59/\x≠61/\x≠45
 |[]=>by simp[ju]
 |b::l=>by
  intro x hx;simp only[ju,jC] at hx;have a:=b.toNat_lt;rcases hx with rfl|rfl|hx
  .exact qif _ wC
  .exact qif _ wC
  .exact qtp l x hx
def Qt(v:Nat):List UInt8:=List.replicate (16-(hx v).length) 48++hx v
theorem qfx(v:Nat):(Qt v).length=16:=by
 have:=qtj v;simp[Qt];omega
def X7:List UInt8->Nat->List UInt8->Option (List UInt8)
 |[],_,st=>some st
 |c::l,i,st=>if QG c Xo 0<0 then none else X7 l (i+1) (st.set (i/2) ((st.getD (i/2) 0<<<4)|||UInt8.ofNat (QG c Xo 0).toNat))
def zero16:List UInt8:=List.replicate 16 0
def KR(s:List UInt8):Option (List UInt8):=if s.length=32 then X7 s 0 zero16 else none
theorem qtf:∀(s:List UInt8)(i:Nat)(st r:List UInt8),X7 s i st=some r->r.length=st.length
 |[],_,st,r,h=>by simp only[X7,qy] at h;rw[h]
 |c::l,i,st,r,h=>by
  simp only[X7] at h;split at h
  .cases h
  .have:=qtf l _ _ r h;simpa using this
theorem q3t{s r:List UInt8}(h:KR s=some r):r.length=16:=by
 unfold KR at h;split at h
 .have:=qtf _ _ _ _ h;simpa[zero16] using this
 .cases h
theorem qsV(c:UInt8):∀(l:List UInt8)(n:Nat),QG c l n= -1\/∃k,k<l.length/\QG c l n=((n+k:Nat):Int)
 |[],_=>.inl rfl
 |b::l,n=>by
  unfold QG;split
  .exact .inr ⟨0,wE,wE⟩
  .rcases qsV c l (n+1) with h|⟨k,d,a⟩
   .exact .inl h
   .exact .inr ⟨k+1,wG,by rw[a];omega⟩
theorem q0k:∀n,n<256->(((0:UInt8)<<<4|||UInt8.ofNat (n/16))<<<4)|||UInt8.ofNat (n % 16)=UInt8.ofNat n:=by decide+kernel
theorem q0l(b:UInt8):(((0:UInt8)<<<4|||UInt8.ofNat (b.toNat/16))<<<4)|||UInt8.ofNat (b.toNat % 16)=b:=by
 rw[q0k b.toNat b.toNat_lt,UInt8.ofNat_toNat]
theorem qtg:∀(l done:List UInt8),X7 (ju l) (2*done.length) (done++List.replicate l.length 0)=some (done++l)
 |[],done=>by simp[ju,X7]
 |b::l,done=>by
  have m:=b.toNat_lt;have h:=quV (b.toNat/16) wC;have e:=quV (b.toNat % 16) wC;simp only[ju,X7,h,e];rw[if_neg wC,if_neg wC];have j:2*done.length/2=done.length:=wC
  have e2:(2*done.length+1)/2=done.length:=wC
  have k:2*done.length+1+1=2*(done++[b]).length:=wG
  have a:(done++List.replicate (b::l).length 0).getD done.length 0=(0:UInt8):=by
   simp[List.getD,qdT]
  rw[j,e2,k,a]
  have f:∀x:UInt8,(done++List.replicate (b::l).length (0:UInt8)).set done.length x=done++x::List.replicate l.length 0:=by
   intro x;simp[qdT]
  rw[f]
  have d:∀x:UInt8,(done++x::List.replicate l.length (0:UInt8)).getD done.length 0=x:=by
   intro x;simp[List.getD]
  rw[d]
  have c:∀x y:UInt8,(done++x::List.replicate l.length (0:UInt8)).set done.length y=(done++[y])++List.replicate l.length 0:=by
   intro x y;simp
  have i:((((b.toNat/16:Nat):Int)).toNat)=b.toNat/16:=wC
  have g:((((b.toNat % 16:Nat):Int)).toNat)=b.toNat % 16:=wC
  rw[c,i,g,q0l b,qtg l (done++[b])];simp
theorem q3u{l:List UInt8}(h:l.length=16):KR (ju l)=some l:=by
 unfold KR;rw[if_pos (by rw[qe0,h])];have:=qtg l [];simpa[zero16,h] using this
theorem qxJ:∀n:Nat,n<256->∀k:Nat,k<16->Vs .u8 (IntKind.u8.wrap ((n:Int)*16)) (k:Int)=((UInt8.ofNat n<<<4|||UInt8.ofNat k).toNat:Int):=by decide+kernel
theorem qxI(a:UInt8)(k:Nat)(b:k<16):Vs .u8 (IntKind.u8.wrap ((a.toNat:Int)*16)) (k:Int)=((a<<<4|||UInt8.ofNat k).toNat:Int):=by
 rw[qxJ a.toNat a.toNat_lt k b,UInt8.ofNat_toNat]
theorem q6P{n:Nat}(h:n<18446744073709551616):Y7 .u64 (n:Int) 15=((n % 16:Nat):Int):=by
 unfold Y7
 have e:(BitVec.ofInt IntKind.u64.bits (n:Int)&&&BitVec.ofInt IntKind.u64.bits 15).toNat=n % 16:=by
  show(BitVec.ofInt 64 (n:Int)&&&BitVec.ofInt 64 ((15:Nat):Int)).toNat=n % 16;rw[qiX,qiX,BitVec.toNat_and,qiW,qiW,qeJ (show n<2^64 from wC)];exact Nat.and_two_pow_sub_one_eq_mod n 4
 rw[e,qcC];omega
theorem q6N:∀n:Nat,n<256->Y7 .u8 (n:Int) 15=((n % 16:Nat):Int):=by decide+kernel
theorem q6O(b:UInt8):Y7 .u8 (b.toNat:Int) 15=((b.toNat % 16:Nat):Int):=q6N b.toNat b.toNat_lt
theorem quq(n:Nat):Int.fdiv (n:Int) 16=((n/16:Nat):Int):=by
 rw[Int.fdiv_eq_ediv_of_nonneg _ wC];omega
theorem q46(i:Nat)(s:List UInt8)(c:UInt8):zT (List.replicate (i+1) (D.int .u8 0)++qf s) i [.int .u8 c.toNat]=List.replicate i (.int .u8 0)++qf (c::s):=by
 unfold zT;have h:(List.replicate (i+1) (D.int .u8 0)++qf s).drop (i+1)=qf s:=VD wE
 have a:(List.replicate (i+1) (D.int .u8 0)++qf s).take i=List.replicate i (D.int .u8 0):=by
  rw[List.take_append_of_le_length wE,List.take_replicate];congr 1;omega
 rw[a,List.length_singleton,h];simp[qf]
def zA(x:Int)(k:Nat):Int:=Vs .u32 (IntKind.u32.wrap (x*2^k)) (x.fdiv (2^(32-k)))
def vo(a b:Int):Int:=IntKind.u32.wrap (a+b)
def ji(a b:Int):Int:=IntKind.u32.wrap (a-b)
def J5(k:Nat):Int×Int×Int->Int×Int×Int
 |(a,b,c)=>(b,vo c b,qK .u32 (ji a c) (zA c k))
def qeu(t:Int×Int×Int):Int×Int×Int:=J5 4 (J5 19 (J5 16 (J5 8 (J5 6 (J5 4 t)))))
def Z0(k:Nat):Int×Int×Int->Int×Int×Int
 |(p,q,r)=>(r,ji (qK .u32 p q) (zA q k),q)
def qe5:Int×Int×Int->Int×Int×Int
 |(x,y,z)=>Z0 24 (Z0 14 (Z0 4 (Z0 16 (Z0 25 (Z0 11 (Z0 14 (z,y,x)))))))
theorem qoJ{x y z i c h b j d g a e f l k q n r p m o:Int}
  (R:ji x z=q) (L:qK .u32 q (zA z 4)=i) (u:vo z y=c)
  (H:ji y i=n) (J:qK .u32 n (zA i 6)=h) (O:vo i c=b)
  (E:ji c h=r) (N:qK .u32 r (zA h 8)=j) (s:vo h b=d)
  (t:ji b j=p) (K:qK .u32 p (zA j 16)=g) (Q:vo j d=a)
  (B:ji d g=m) (M:qK .u32 m (zA g 19)=e) (G:vo g a=f)
  (F:ji a e=o) (w:qK .u32 o (zA e 4)=l) (S:vo e f=k):qeu (x,y,z)=(f,k,l):=by
 unfold qeu;have I:J5 4 (x,y,z)=(y,c,i):=by simp only[J5,R,L,u]
 have e2:J5 6 (y,c,i)=(c,b,h):=by simp only[J5,H,J,O]
 have A:J5 8 (c,b,h)=(b,d,j):=by simp only[J5,E,N,s]
 have P:J5 16 (b,d,j)=(d,a,g):=by simp only[J5,t,K,Q]
 have C:J5 19 (d,a,g)=(a,f,e):=by simp only[J5,B,M,G]
 have v:J5 4 (a,f,e)=(f,k,l):=by simp only[J5,F,w,S]
 rw[I,e2,A,P,C,v]
theorem quj{x y z m c j b n a l d h e k f i g:Int}
  (K:qK .u32 z y=m) (E:ji m (zA y 14)=c)
  (p:qK .u32 x c=j) (w:ji j (zA c 11)=b)
  (B:qK .u32 y b=n) (H:ji n (zA b 25)=a)
  (u:qK .u32 c a=l) (G:ji l (zA a 16)=d)
  (o:qK .u32 b d=h) (C:ji h (zA d 4)=e)
  (J:qK .u32 a e=k) (s:ji k (zA e 14)=f)
  (F:qK .u32 d f=i) (v:ji i (zA f 24)=g):qe5 (x,y,z)=(e,g,f):=by
 unfold qe5;have A:Z0 14 (z,y,x)=(x,c,y):=by simp only[Z0,K,E]
 have e2:Z0 11 (x,c,y)=(y,b,c):=by simp only[Z0,p,w]
 have r:Z0 25 (y,b,c)=(c,a,b):=by simp only[Z0,B,H]
 have I:Z0 16 (c,a,b)=(b,d,a):=by simp only[Z0,u,G]
 have t:Z0 4 (b,d,a)=(a,e,d):=by simp only[Z0,o,C]
 have q:Z0 14 (a,e,d)=(d,f,e):=by simp only[Z0,J,s]
 have L:Z0 24 (d,f,e)=(e,g,f):=by simp only[Z0,F,v]
 simp only[A,e2,r,I,t,q,L]
def vh(l:List UInt8)(a:Nat):Nat:=leN ((l.drop a).take 4)
theorem qea(l:List UInt8)(a:Nat):vh l a<4294967296:=by
 refine vd (qfl _) ?_;have:((l.drop a).take 4).length<=4:=wu
 exact zJ (qfI wH this) wH
def JW(l:List UInt8):Int×Int×Int->Int×Int×Int
 |(x,y,z)=>(vo x (vh l 0:Nat),vo y (vh l 4:Nat),vo z (vh l 8:Nat))
def qbF:Int×Int×Int->Int
 |(_,y,z)=>Vs .u64 (IntKind.u64.wrap (IntKind.u64.wrap z*4294967296)) (IntKind.u64.wrap y)
def KM(l:List UInt8)(t:Int×Int×Int):Int:=
 if 12<l.length then KM (l.drop 12) (qeu (JW l t)) else if l.length=0 then qbF t else match qe5 (JW l t) with|(_,z,y)=>qbF (0,y,z)
termination_by l.length
decreasing_by simp;omega
def YR(l:List UInt8):Int:=KM l (vo 3735928559 (IntKind.u32.wrap (l.length:Nat)),vo 3735928559 (IntKind.u32.wrap (l.length:Nat)),vo 3735928559 (IntKind.u32.wrap (l.length:Nat)))
theorem qky{l:List UInt8}(h:12<l.length)(t:Int×Int×Int):KM l t=KM (l.drop 12) (qeu (JW l t)):=by
 rw[KM,if_pos h]
theorem qkz{l:List UInt8}(h:¬12<l.length)(b:l.length≠0){t:Int×Int×Int}{x y z:Int}(a:qe5 (JW l t)=(x,z,y)):KM l t=qbF (0,y,z):=by
 rw[KM,if_neg h,if_neg b,a]
theorem qkx{l:List UInt8}(a:l.length=0)(t:Int×Int×Int):KM l t=qbF t:=by
 rw[KM,if_neg wC,if_pos a]
theorem q6M:∀k:Nat,k<32->Y7 .u64 (k:Int) 31=(k:Int):=wH
abbrev Q4:=Int×Int×Int×Int
def JX(a b:Int):Int:=IntKind.u64.wrap (a+b)
def kJ(x:Int)(k:Nat):Int:=Vs .u64 (IntKind.u64.wrap (x*2^k)) (x.fdiv (2^(64-k)))
def qj7:Q4->Q4
 |(p,q,r,s)=>
  let e:=JX p q
  let c:=qK .u64 (kJ q 13) e
  let d:=JX r s
  let b:=qK .u64 (kJ s 16) d
  let a:=JX (kJ e 32) b
  let f:=JX d c
  (a,qK .u64 (kJ c 17) f,kJ f 32,qK .u64 (kJ b 21) a)
theorem qnw{p q r s c l b k e g a d m j f h n i:Int}(G:JX p q=c)(A:kJ q 13=l)(u:qK .u64 l c=b)(x:kJ c 32=k)(y:JX r s=e)(E:kJ s 16=g)(w:qK .u64 g e=a)
  (C:JX k a=d) (o:kJ a 21=m) (t:qK .u64 m d=j) (z:JX e b=f) (F:kJ b 17=h) (v:qK .u64 h f=n) (B:kJ f 32=i):qj7 (p,q,r,s)=(d,n,i,j):=by
 simp only[qj7,G,A,u,x,y,E,w,C,o,t,z,F,v,B]
def VO:Nat->Q4->Q4
 |0,t=>t
 |n+1,t=>VO n (qj7 t)
def YI(m:Int):Q4->Q4
 |(p,q,r,s)=>match VO 2 (p,q,r,qK .u64 s m) with
  |(p,q,r,s)=>(qK .u64 p m,q,r,s)
def qef:Q4->Int
 |(p,q,r,s)=>match VO 4 (p,q,qK .u64 r 255,s) with
  |(p,q,r,s)=>qK .u64 (qK .u64 (qK .u64 p q) r) s
def YH(l:List UInt8)(t:Q4):Q4:=if 8<=l.length then YH (l.drop 8) (YI (leN (l.take 8):Nat) t) else t
termination_by l.length
decreasing_by simp;omega
theorem qxB{l:List UInt8}(h:8<=l.length)(t:Q4):YH l t=YH (l.drop 8) (YI (leN (l.take 8):Nat) t):=by
 rw[YH,if_pos h]
theorem qmT{l:List UInt8}(h:¬8<=l.length)(t:Q4):YH l t=t:=by
 rw[YH,if_neg h]
def qmU(l:List UInt8):Nat:=leN (l.drop (l.length/8*8))+l.length % 256*72057594037927936
def qmV(k l:Int):Q4:=(qK .u64 k 8317987319222330741,qK .u64 l 7237128888997146477,qK .u64 k 7816392313619706465,qK .u64 l 8387220255154660723)
def qho(key l:List UInt8):Int:=qef (YI (qmU l:Nat) (YH l (qmV (leN (key.take 8):Nat) (leN ((key.drop 8).take 8):Nat))))
def qe1(a:Bool)(key l:List UInt8):Int:=if a then qho key l else YR l
@[simp] theorem q81:qf []=[]:=rfl
theorem XU{x y s:List UInt8}(e:s=x++y)(h:x.length+y.length<=100000):strD .add x y=some (.str s):=by
 simp only[strD,e];rw[if_pos wC]
section
variable {H:Type} {enc:TypeId×Value->H} {P:Program} {W:World} {base n:Nat} {t e:TypeId} {v:Value} {d:DataW H} {ps:List MemPlace}
end
end Go.Ev
namespace Go.Ev
open Go Go.Proofs
def YF(c:UInt8):Nat->List UInt8->List (List UInt8)
 |0,s=>[s]
 |n+1,s=>if JG [c] s 0= -1 then[s] else s.take (JG [c] s 0).toNat::YF c n (s.drop ((JG [c] s 0).toNat+1))
def Jj(c:UInt8)(s:List UInt8):List (List UInt8):=YF c (s.count c) s
def qhY(s:List UInt8):ID:=⟨(KR s).getD zero16,by
 cases h:KR s with
 |none=>rfl
 |some r=>exact q3t h⟩
theorem qsX(c:UInt8):∀(A B:List UInt8)(n:Nat),(∀x∈A,x≠c)->JG [c] (A++c::B) n=((n+A.length:Nat):Int)
 |[],B,n,_=>by simp[JG,List.isPrefixOf]
 |x::A,B,n,h=>by
  have hx:=h x wE;have a:(c==x)=false:=by simpa using Ne.symm hx
  rw[Qc,JG,if_neg (by simp[List.isPrefixOf,a]),qsX c A B (n+1) fun y b=>h y (by simp[b])];simp;omega
theorem qmM{c:UInt8}{A:List UInt8}(h:∀x∈A,x≠c)(B:List UInt8):Jj c (A++c::B)=A::Jj c B:=by
 have b:A.count c=0:=List.count_eq_zero.2 fun a=>h c a rfl
 have hc:(A++c::B).count c=B.count c+1:=by
  rw[List.count_append,b,List.count_cons_self];omega
 unfold Jj;rw[hc,YF,qsX c A B 0 h,J3,if_neg wC];have e:((A.length:Nat):Int).toNat=A.length:=wC
 rw[e,List.take_left];congr 1;rw[<-kz,List.drop_left];rfl
theorem qxw{c:UInt8}{A:List UInt8}(h:∀x∈A,x≠c):Jj c A=[A]:=by
 have b:A.count c=0:=List.count_eq_zero.2 fun a=>h c a rfl;unfold Jj;rw[b,YF]
theorem q3v(i:ID):qhY (ju i.l)=i:=ID.ext' (by show(KR (ju i.l)).getD zero16=i.l;rw[q3u i.h];rfl)
def Jo(c:UInt8):Bool:=(decide (65<=c.toNat)&&decide (c.toNat<=90))||(decide (48<=c.toNat)&&decide (c.toNat<=57))||decide (c.toNat=95)
def XT(c:UInt8):Bool:=decide (48<=c.toNat)&&decide (c.toNat<=57)
def JC:List UInt8->Bool
 |[]=>false
 |c::l=>decide ((c::l).length<=64)&& !XT c&&(c::l).all Jo
def qgf(p:Pr):Bool:=JC p.name&&decide (p.value.length<=256)
def Qw(b:List UInt8)(a:Nat):Nat:=vX b a 1 48 1
def qf3(b:List UInt8)(a:Nat):Nat:=qT (qN b a) 0
def Qv(b:List UInt8)(a:Nat):List UInt8:=(qN b a).drop 48
def vP(x:List UInt8):List (Nat×Nat):=(List.range ((x.length-48)/16)).map fun i=>(qT x (48+16*i),qT x (56+16*i))
def qaA:List (Nat×Nat)->Bool
 |a::b::l=>decide (a.1<b.1)&&qaA (b::l)
 |_=>true
def JU(b:List UInt8)(a:Nat):Nat:=
 if vX b a 3 48 16≠0 then vX b a 3 48 16
 else if qT (qN b a) 0=0 then 13
 else if qaA (vP (qN b a)) then 0 else 11
def QB(p:List UInt8):List UInt8:=p.takeWhile fun c=>c !=61
def qa7(p:List UInt8):List UInt8:=p.drop ((QB p).length+1)
def Vo(p:List UInt8):Nat:=
 if(QB p).length<p.length/\JC (QB p)=true then(if 256<(qa7 p).length then 21 else 0) else 20
def qfn(h:HdP):Bool:=decide (h.incompat&&&4≠0)
def Yc(b:List UInt8)(h:HdP)(a:Nat):Nat:=
 if a<h.siz\/b.length<=a then 2
 else if Qw b a≠0 then Qw b a
 else if(qf3 b a:Int)≠qe1 (qfn h) h.file.l (Qv b a) then 9 else 0
def qbI(b:List UInt8)(h:HdP):List (Nat×Nat)->Nat
 |[]=>0
 |x::l=>if Yc b h x.1≠0 then Yc b h x.1
  else if qf3 b x.1≠x.2 then 9
  else if Vo (Qv b x.1)≠0 then Vo (Qv b x.1)
  else qbI b h l
def qjb(b:List UInt8):List (Nat×Nat)->Int->Int
 |[],v=>v
 |x::l,v=>qjb b l (qK .u64 v (YR (Qv b x.1)))
def Qf(b:List UInt8)(h:HdP)(a:Nat):Nat:=
 if a<h.siz\/b.length<=a then 2
 else if JU b a≠0 then JU b a
 else if 16<(vP (qN b a)).length then 21
 else if qbI b h (vP (qN b a))≠0 then qbI b h (vP (qN b a))
 else if(qT (qN b a) 40:Int)≠qjb b (vP (qN b a)) 0 then 10 else 0
def qh1(p:List UInt8):Pr:=⟨QB p,qa7 p⟩
def Ya(b:List UInt8)(a:Nat):Rec:=
 ⟨qT (qN b a) 0,qT (qN b a) 8,qT (qN b a) 16,qey (qN b a) 24,.of ((vP (qN b a)).map fun x=>qh1 (Qv b x.1))⟩
def XN(b:List UInt8)(h:HdP):List Nat->Nat->Nat->List Nat
 |[],_,_=>[]
 |a::l,i,last=>if Qf b h a=0/\last<qT (qN b a) 0 then i::XN b h l (i+1) (qT (qN b a) 0) else XN b h l (i+1) last
end Go.Ev
namespace Go.Ev.S
open Go Go.Proofs Go.Ev
def KB(b:List UInt8)(a:Nat):List Nat:=(jU (qN b a)).take 6
def qeA(b:List UInt8)(a:Nat):List D:=zg (KB b a)++[.vsl false (qf (Qv b a)) (Qv b a).length]
def ql2:List D:=(VF [.int .u64 0,.int .u64 0,.vsl true [] 0])
def ql3(b:List UInt8)(a:Nat):D:=.agg (if Qw b a=0 then qeA b a else ql2)
theorem qgB{b:List UInt8}{a:Nat}(h:Qw b a=0):kU b a=0/\qar b a=1/\64<ZZ b a/\(qN b a).length=ZZ b a-16/\a+ZZ b a<=b.length:=by
 unfold Qw vX at h;split at h
 · omega
 split at h
 · omega
 split at h
 · omega
 rename_i e f d;have c:kU b a=0:=wC
 exact⟨c,wC,wC,qfB c,(qe3 c).2.2.2.2.2⟩
theorem qzB[MaxL][TxtC](s:Sl UInt8)(hl:s.l.length<=1000000)(a:Nat)(ha:a<18446744073709551616):
  call cx 283 [(.vsl s.nil (qf s.l) s.l.length),.int .u64 a,.int .i64 1,.int .i64 6] []=some (if Qw s.l a=0 then .tup [.vsl false (zg (KB s.l a)) 6,.vsl false (qf (Qv s.l a)) (Qv s.l a).length,.int .i64 0] else .tup [.vsl true [] 0,.vsl true [] 0,.int .i64 (Qw s.l a:Nat)],[]):=by
 have f:=qos s hl a ha;refine qC Tryz.func283 rfl ⟨rfl,rfl⟩ ?_;by_cases r:kU s.l a≠0
 .have m:Qw s.l a=kU s.l a:=by unfold Qw vX;rw[if_pos r]
  have F:JT s.l a=.agg [.int .i64 0,.int .i64 0,.int .u64 0]:=by unfold JT;rw[if_neg r]
  rw[F] at f;have h:(((kU s.l a:Nat):Int) !=0)=true:=VH;rw[m,if_neg r];obtain⟨C,N⟩:=ql (kU s.l a);rw[N] at f h⊢;simp[Tryz.f283,f,h]
 have h:kU s.l a=0:=wC
 obtain⟨f1,f2,f3,f4,f5,f6⟩:=qe3 h;have F:JT s.l a=.agg [.int .i64 (qar s.l a:Nat),.int .i64 0,.int .u64 (ZZ s.l a:Nat)]:=by unfold JT;rw[if_pos h]
 rw[F,h] at f;obtain⟨K,y⟩:=ql (qar s.l a);obtain⟨S,t⟩:=ql (ZZ s.l a);rw[y,t] at f;rw[y] at f3 f4;rw[t] at f5 f6;by_cases Y:K=1
 rotate_left
 .have m:Qw s.l a=4:=by unfold Qw vX;rw[if_neg r,y,if_pos Y]
  have jK:((K:Int) !=1)=true:=VH;rw[m];simp[Tryz.f283,f,jK]
 subst Y;by_cases h2:S<=64
 .have m:Qw s.l a=5:=by unfold Qw vX;rw[if_neg r,y,if_neg wE,t,if_pos (.inl h2)]
  have R:(S:Int)<=64:=wC
  rw[m];simp[Tryz.f283,f,R]
 have R:¬(S:Int)<=64:=wC
 have m:Qw s.l a=0:=by unfold Qw vX;rw[if_neg r,y,if_neg wE,t,if_neg wC]
 rw[if_pos m];have jR:=qfB h;rw[t] at jR;have X:s.nil=false:=Sl.nn (i:=a) wC;have Q:=zf ((a:Int)+16) ((a:Int)+16);have O:=zf ((a:Int)+(S:Int)) ((a:Int)+(S:Int));have q1:(0:Int)<=(a:Int)+(S:Int)/\(a:Int)+(S:Int)<=(s.l.length:Int)/\(0:Int)<=(a:Int)+16/\(a:Int)+16<=(a:Int)+(S:Int):=wC
 have n1:((a:Int)+16).toNat=a+16:=wC
 have n2:((a:Int)+(S:Int)).toNat=a+S:=wC
 have V:List.take (a+S-(a+16)) (List.drop (a+16) (qf s.l))=qf (qN s.l a):=by
  unfold qN;rw[t,show a+S-(a+16)=S-16 from wC,qcW,qep]
 have I:a+S-(a+16)=(qN s.l a).length:=wC
 have G:48<(qN s.l a).length:=wC
 unfold KB Qv;obtain⟨p,hp⟩:=ql (qN s.l a);rw[hp] at V I G⊢;have w:List.take p.length (List.drop (a+16) (qf s.l))=qf p:=by rw[<-I,V]
 rw[X] at f;have E:=qlQ (Sl.mk false (p.drop 48) wE) (by simp only[vg];omega);simp only[Qd,if_false] at E;simp[Tryz.f283,f,R,X,Q,O,q1,n1,n2,I];refine Run.loopThen (fun(k:Nat) e H=>k<=6/\(∃d,qi e 14=some d/\qiV d H (zg ((jU p).take k)))/\qi e 13=some (.vsl false (qf p) p.length)/\qi e 3=some (.int .i64 6)/\qi e 49=some (.int .i64 6)/\qi e 50=some (.int .i64 k)) (fun k=>6-k) 0 (by simp[qiV,zg,w]) ?_;rintro k e H ⟨hk,⟨d,g,u⟩,n,L,o,q⟩;by_cases qg:k<6
 .have T:(k:Int)<6:=by omega
  have W:=qz ((k:Int)+1) ((k+1:Nat):Int);have z:=qz (8*(k:Int)) (8*(k:Int));have A:8*k+8<=p.length:=wC
  have P:=qbH (Sl.mk false p wE) (8*k) A wJ (x:=8*(k:Int)) wC;have j:=qkk ((jU p).take k) (qT p (8*k));rw[<-qov wC] at j;have hL:(zg ((jU p).take k)).length<=1000:=wG
  have U:=qkj ((jU p).take k);simp only at P;generalize zg ((jU p).take k)=l at *;generalize qT p (8*k)=c at *;have Z:(l.length+1)*8<=140737488355328:=wC
  have XG:l.length+1<=140737488355328:=wC
  rcases u with⟨rfl,rfl,rfl⟩|⟨rfl,rfl,qQ⟩
  .simp[n,g,L,o,q,T,W,z,P,qF];exact⟨k+1,wC,wC,.inr (by simp[j]),wC⟩
  .simp[n,g,L,o,q,T,W,z,P,qF,Z,XG,U];exact⟨k+1,wC,wC,.inr (by simp[j]),wC⟩
 .have B:k=6:=by omega
  subst B;have b:(zg ((jU p).take 6)).length=6:=wG
  rcases u with⟨rfl,zB,rfl⟩|⟨rfl,rfl,qQ⟩
  .rw[zB] at b;simp at b
  .have U:=qkj ((jU p).take 6);rw[b] at g;have v:List.drop 48 (qf p)=qf (p.drop 48):=qcW _ _;have Xk:(48:Int)<=(p.length:Int):=wC;simp only[vg] at E;have J:idFree.idFreeL (zg ((jU p).take 6))=true:=(by rw[Q0];exact qlW _);have M:List.take 6 (zg ((jU p).take 6))=zg ((jU p).take 6):=qH wC;generalize zg ((jU p).take 6)=l at *;simp[n,g,L,o,q,E,v,Xk,b,J,M]
theorem qzY[MaxL][TxtC](s:Sl UInt8)(f:s.l.length<=1000000)(a:Nat)(h:a<18446744073709551616):
  call cx 275 [(.vsl s.nil (qf s.l) s.l.length),.int .u64 a] []=some (.tup [ql3 s.l a,.int .i64 (Qw s.l a:Nat)],[]):=by
 have d:=qzB s f a h;refine qC Tryz.func275 rfl ⟨rfl,rfl⟩ ?_;unfold ql3;by_cases b:Qw s.l a=0
 .rw[if_pos b] at d;rw[if_pos b,b];obtain⟨q,m,j,o,r⟩:=qgB b;have g:(KB s.l a).length=6:=by unfold KB;rw[jc,qcY];omega
  unfold qeA;generalize KB s.l a=l at *;generalize Qv s.l a=p at *
  match l,g with
  |[n,t,u,k,i,v],_=>
   simp only[zg,List.map] at d⊢;simp[Tryz.f275,d]
 .rw[if_neg b] at d;rw[if_neg b];have e:(((Qw s.l a:Nat):Int) !=0)=true:=VH;generalize Qw s.l a=c at *;simp[Tryz.f275,d,e,ql2]
theorem qj8:∀(l:List (Nat×Nat)),qaA l=true↔∀j(h:j+1<l.length),(l[j]).1<(l[j+1]).1
 |[]=>by simp[qaA]
 |[a]=>by simp[qaA]
 |a::b::l=>by
  rw[qaA,zY,decide_eq_true_iff,qj8 (b::l)];constructor
  .rintro⟨e,d⟩ j c;cases j with
   |zero=>exact e
   |succ j=>exact d j wo
  .intro h;refine⟨h 0 wE,fun j c=>?_⟩;exact h (j+1) wo
def kh:List (Nat×Nat)->List D
 |[]=>[]
 |x::l=>.int .u64 (x.1:Nat):: .int .u64 (x.2:Nat)::kh l
theorem qgv:∀l:List (Nat×Nat),(kh l).length=2*l.length
 |[]=>rfl
 |x::l=>by simp only[kh,jJ,qgv l];omega
theorem qsG:∀(l m:List (Nat×Nat)),kh (l++m)=kh l++kh m
 |[],_=>rfl
 |x::l,m=>by simp only[Qc,kh,qsG l m]
theorem qhQ:∀l:List (Nat×Nat),(kh l).all idFree=true
 |[]=>rfl
 |x::l=>by simp only[kh,Va,qhQ l];rfl
theorem qfq:∀(l:List (Nat×Nat))(i:Nat)(h:i<l.length),(kh l).drop (2*i)=.int .u64 ((l[i]).1:Nat):: .int .u64 ((l[i]).2:Nat)::(kh l).drop (2*i+2)
 |x::l,0,_=>rfl
 |x::l,i+1,h=>by
  have:=qfq l i wQ;rw[show 2*(i+1)=2*i+2 from wC];simpa[kh] using this
def qfz(x:List UInt8)(d:D):List D:=.int .u64 (qT x 0:Nat):: .int .u64 (qT x 8:Nat):: .int .u64 (qT x 16:Nat)::(qf ((x.drop 24).take 16)++[.int .u64 (qT x 40:Nat),d])
def V7:List D:=(.int .u64 0::.int .u64 0::.int .u64 0::qI [.int .u64 0,.vsl true [] 0])
def qgA(b:List UInt8)(a:Nat):D:=.agg (if JU b a=0 then qfz (qN b a) (.vsl false (kh (vP (qN b a))) (vP (qN b a)).length) else V7)
theorem qfp(x:List UInt8):(vP x).length=(x.length-48)/16:=by simp[vP]
theorem qhP{x:List UInt8}{k:Nat}(h:k<(vP x).length):(vP x)[k]=(qT x (48+16*k),qT x (56+16*k)):=by simp[vP]
theorem q2P{x:List UInt8}{k:Nat}(h:k<(vP x).length):(vP x).take (k+1)=(vP x).take k++[(qT x (48+16*k),qT x (56+16*k))]:=by
 rw[Ky h,qhP h]
theorem qpi(l:List UInt8)(h:l.length=16):∃r m g j i k n q o p f a d b e c:UInt8,l=[r,m,g,j,i,k,n,q,o,p,f,a,d,b,e,c]:=by
 match l,h with
 |[r,m,g,j,i,k,n,q,o,p,f,a,d,b,e,c],_=>exact⟨r,m,g,j,i,k,n,q,o,p,f,a,d,b,e,c,rfl⟩
theorem q0d{p:List UInt8}(t:48<=p.length)(s:(p.length-48) % 16=0):(zg (jU p)).drop 6=kh (vP p):=by
 apply List.ext_getElem
 .rw[vg,qaI,qcY,qgv,qfp];omega
 .intro i q m;rw[qgv,qfp] at m;have e:i/2<(vP p).length:=by rw[qfp];omega
  have d:=qfq (vP p) (i/2) e;rw[qhP e] at d;rw[List.getElem_drop]
  have o:∀j(k:j<(zg (jU p)).length),(zg (jU p))[j]=.int .u64 (qT p (8*j):Nat):=by
   intro j k;simp[zg,jU]
  rw[o]
  have n:∀{l r:List D}{j:Nat}{x y:D}(_:l.drop j=x::y::r),l[j]?=some x/\l[j+1]?=some y:=by
   intro l r j x y h;have f:=congrArg (fun l=>l[0]?) h;have c:=congrArg (fun l=>l[1]?) h;simp only[Qa,Nat.add_zero,Qb,qeK] at f c;exact⟨f,c⟩
  obtain⟨a,b⟩:=n d;rcases Nat.mod_two_eq_zero_or_one i with g|g
  .have hi:2*(i/2)=i:=wC;rw[hi] at a;rw[(List.getElem?_eq_some_iff.1 a).2,show 8*(6+i)=48+16*(i/2) from wC]
  .have hi:2*(i/2)+1=i:=wC;rw[hi] at b;rw[(List.getElem?_eq_some_iff.1 b).2,show 8*(6+i)=56+16*(i/2) from wC]
theorem q0e{p:List UInt8}(h:48<p.length)(d:(p.length-48) % 16=0):∃e c:D,zg (jU p)=.int .u64 (qT p 0:Nat):: .int .u64 (qT p 8:Nat):: .int .u64 (qT p 16:Nat)::e::c:: .int .u64 (qT p 40:Nat)::kh (vP p):=by
 rw[<-q0d wC d];have g:(zg (jU p)).length=p.length/8:=by rw[qaI,qcY]
 have a:∀j,j<p.length/8->(zg (jU p)).drop j=.int .u64 (qT p (8*j):Nat)::(zg (jU p)).drop (j+1):=by
  intro j f;rw[jo (by rw[g];exact f)];simp[zg,jU]
 refine⟨.int .u64 (qT p 24:Nat),.int .u64 (qT p 32:Nat),?_⟩;have b:=a 0 wC;rw[List.drop_zero] at b;rw[<-a 5 wC,<-a 4 wC,<-a 3 wC,<-a 2 wC,<-a 1 wC];exact b
theorem q4N[MaxL][TxtC](s:Sl UInt8)(hl:s.l.length<=1000000)(a:Nat)(ha:a<18446744073709551616):call cx 260 [(.vsl s.nil (qf s.l) s.l.length),.int .u64 a] []=some (.tup [qgA s.l a,.int .i64 (JU s.l a:Nat)],[]):=by
 have hb:call cx 258 [(.vsl s.nil (qf s.l) s.l.length),.int .u64 a,.int .i64 3,.int .i64 48,.int .i64 16] []=some (.tup [ZG s.l a 3 48 16,.int .i64 (vX s.l a 3 48 16)],[]):=quP s hl a ha 3 48 16 wC wC wC;refine qC Tryz.func260 rfl ⟨rfl,rfl⟩ ?_;by_cases h0:vX s.l a 3 48 16≠0
 .have hC:JU s.l a=vX s.l a 3 48 16:=by unfold JU;rw[if_pos h0]
  have W:ZG s.l a 3 48 16=.vsl true [] 0:=by unfold ZG;rw[if_neg h0]
  have hD:qgA s.l a=.agg V7:=by unfold qgA;rw[hC,if_neg h0]
  have y:(((vX s.l a 3 48 16:Nat):Int) !=0)=true:=VH;rw[hD,hC];rw[W] at hb;generalize vX s.l a 3 48 16=C at *;simp[Tryz.f260,hb,y,V7]
 have y:vX s.l a 3 48 16=0:=wC
 have W:ZG s.l a 3 48 16=.vsl false (qf (qN s.l a)) (qN s.l a).length:=by unfold ZG;rw[if_pos y]
 have hf:kU s.l a=0/\64<ZZ s.l a/\(ZZ s.l a-64) % 16=0:=by
  unfold vX at y;split at y
  · omega
  split at y
  · omega
  split at y
  · omega
  omega
 have jR:=qfB hf.1;have aP:=qe3 hf.1;rw[W,y] at hb;unfold qgA;have av:JU s.l a=if qT (qN s.l a) 0=0 then 13 else if qaA (vP (qN s.l a)) then 0 else 11:=by unfold JU;rw[if_neg h0]
 rw[av];have t:48<(qN s.l a).length/\((qN s.l a).length-48) % 16=0/\(qN s.l a).length % 8=0/\(qN s.l a).length<=1000000:=wC
 obtain⟨p,hp⟩:=ql (qN s.l a);rw[hp] at hb t⊢;have B:=quF (Sl.mk false p wE) t.2.2.2 t.2.2.1;unfold qeq at B;have ax:¬p.length=0:=wC
 simp only[ax,decide_false] at B;obtain⟨x3,x4,hU⟩:=q0e (p:=p) t.1 t.2.1;have Ko:(jU p).length=p.length/8:=qcY p;simp only[qfz];obtain⟨V,c1,X,S,R,c5,Y,c7,Z,P,g,d,f,n,o,q,W⟩:=qpi ((p.drop 24).take 16) wG;have ak:List.take 16 (List.drop 24 (qf p))=qf [V,c1,X,S,R,c5,Y,c7,Z,P,g,d,f,n,o,q]:=by rw[qcW,qep,W]
 rw[W];have ag:qf [V,c1,X,S,R,c5,Y,c7,Z,P,g,d,f,n,o,q]=(qay V c1 X S R c5 Y c7 Z P g d f n o q []):=rfl;rw[ag] at ak⊢;have aH:(40:Int)<=(p.length:Int):=wC
 have q0:0<p.length/8:=wC
 have q1:1<p.length/8:=wC
 have q2:2<p.length/8:=wC
 have q5:5<p.length/8:=wC
 have ai:(0:Int)<((p.length/8:Nat):Int):=wC
 have N:(1:Int)<((p.length/8:Nat):Int):=wC
 have L:(2:Int)<((p.length/8:Nat):Int):=wC
 have F:(5:Int)<((p.length/8:Nat):Int):=wC
 rw[Ko,hU] at B;have az:=qfp p;have aj:=fun{k} h=>q2P (x:=p) (k:=k) h;have aF:=fun{k} h=>qhP (x:=p) (k:=k) h;obtain⟨M,hM⟩:=ql (p.length/8);rw[hM] at B q0 q1 q2 q5 ai N L F;obtain⟨I,hI⟩:=ql (vP p);rw[hI] at az aj aF B⊢;have aN:M=6+2*I.length:=wC
 obtain⟨E,J⟩:=ql (qT p 0);obtain⟨T,Jr⟩:=ql (qT p 8);obtain⟨U,Qk⟩:=ql (qT p 16);obtain⟨Q,XB⟩:=ql (qT p 40);rw[J,Jr,Qk,XB] at B;rw[J,Jr,Qk,XB];simp[Tryz.f260,hb,B,q0,N,L,F,aH,ak,zT];clear B hb q0 q1 q2 q5 ai N L F aj J Jr Qk XB hU;have aE:=qhQ I
 refine Run.loopThen (fun(k:Nat) e H=>k<=I.length/\qi e 4=some (.optr 0 21 0)/\qi e 9=some (.optr 1 21 0)/\qi e 8=some (.vsl false (.int .u64 (E:Nat):: .int .u64 (T:Nat):: .int .u64 (U:Nat)::x3::x4:: .int .u64 (Q:Nat)::kh I) M)/\qi e 10=some (.int .i64 ((6+2*k:Nat):Int))/\
   ((k=0/\H=[some V7,some (.int .u64 (E:Nat):: .int .u64 (T:Nat):: .int .u64 (U:Nat)::((qay V c1 X S R c5 Y c7 Z P g d f n o q [])++[.int .u64 (Q:Nat),.vsl true [] 0]))])\/
   (0<k/\H=[some V7,some (.int .u64 (E:Nat):: .int .u64 (T:Nat):: .int .u64 (U:Nat)::((qay V c1 X S R c5 Y c7 Z P g d f n o q [])++[.int .u64 (Q:Nat),.osl 2 (2*k) 0 k 2])),some (kh (I.take k))]))) (fun k=>I.length-k) 0 ?_ ?_
 .exact⟨wC,wE,wE,wE,wE,.inl ⟨rfl,by simp[V7]⟩⟩
 rintro k e H ⟨hk,k4,k9,k8,r,hH⟩;obtain⟨j,hj⟩:∃j:Nat,6+2*k=j:=⟨_,rfl⟩;rw[hj] at r;by_cases qg:k<I.length
 .have aI:j<M:=by omega
  have c:(j:Int)<(M:Int):=wC
  have aK:j+1<M:=wC
  have u:(j:Int)+1<(M:Int):=wC
  have jM:=qz ((j:Int)+1) ((j:Int)+1);have zR:=qz ((j:Int)+2) ((j+2:Nat):Int);have w:((j:Int)+1).toNat=j+1:=wC
  have aL:¬(j:Int)+1<0:=wC
  have z:(0:Int)<=(j:Int)+1:=wC
  have qR:=qfq I k qg
  have O:List.drop j (.int .u64 (E:Nat):: .int .u64 (T:Nat):: .int .u64 (U:Nat)::x3::x4:: .int .u64 (Q:Nat)::kh I)=.int .u64 ((I[k]).1:Nat):: .int .u64 ((I[k]).2:Nat)::(kh I).drop (2*k+2):=by
   rw[<-hj,show 6+2*k=2*k+6 from wC];simpa using qR
  have v:List.drop (j+1) (.int .u64 (E:Nat):: .int .u64 (T:Nat):: .int .u64 (U:Nat)::x3::x4:: .int .u64 (Q:Nat)::kh I)=.int .u64 ((I[k]).2:Nat)::(kh I).drop (2*k+2):=by
   have:=congrArg (List.drop 1) O;rw[kz] at this;simpa using this
  have aa:kh (I.take (k+1))=kh (I.take k)++[.int .u64 ((I[k]).1:Nat),.int .u64 ((I[k]).2:Nat)]:=by
   rw[Ky qg,qsG];rfl
  have aA:=qhQ (I.take k);have ao:=zfl aA;have kD:(kh (I.take k)).length=2*k:=by rw[qgv,jc];omega
  generalize (I[k]).1=y1 at *;generalize (I[k]).2=y2 at *;rcases hH with⟨rfl,rfl⟩|⟨Z8,rfl⟩
  .simp[k4,k8,k9,r,c,u,jM,zR,w,z,O,v,qF,V7];exact⟨1,wC,wC,wC,wC,⟨rfl,rfl⟩,by simpa[kh] using aa.symm⟩
  .have qQ:¬k=0:=wC;have kG:(k+1)*16<=140737488355328:=wC;have XG:k+1<=140737488355328:=wC;have aG:k*2=2*k:=wC;simp[k4,k8,k9,r,c,u,jM,zR,w,z,O,v,qF,V7,kD,kG,XG,aG,ao];exact⟨k+1,wC,wC,wC,wC,⟨wC,rfl⟩,aa.symm⟩
 .have aI:¬j<M:=by omega
  have c:¬(j:Int)<(M:Int):=wC
  have Qm:k=I.length:=wC
  subst Qm;have kM:0<I.length:=wC
  rcases hH with⟨h0,rfl⟩|⟨Z8,rfl⟩
  .omega
  rw[List.take_length];by_cases hz:E=0
  .subst hz;simp[k4,k8,k9,r,c,V7]
  have aO:¬(E:Int)=0:=wC
  have aB:=zfl aE;have G:=qgv I;simp[k4,k8,k9,r,c,hz,V7]
  refine Run.loopThen (fun(i:Nat) e H=>1<=i/\i<=I.length/\qi e 4=some (.optr 0 21 0)/\qi e 9=some (.optr 1 21 0)/\qi e 11=some (.int .i64 (i:Int))/\(∀j(h:j+1<I.length),j+1<i->(I[j]).1<(I[j+1]).1)/\
   H=[some V7,some (.int .u64 (E:Nat)::.int .u64 (T:Nat)::.int .u64 (U:Nat)::qay V c1 X S R c5 Y c7 Z P g d f n o q [.int .u64 (Q:Nat),.osl 2 (2*I.length) 0 I.length 2]),some (kh I)]) (fun i=>I.length-i) 1 ?_ ?_
  .exact⟨wC,wC,wE,wE,wE,fun j _ h=>wC,by simp[V7]⟩
  rintro i e H ⟨Yt,hi,r4,r9,K,hR,rfl⟩;by_cases vJ:i<I.length
  .obtain⟨m,rfl⟩:∃m,i=m+1:=⟨i-1,wC⟩;have b:(m:Int)+1<(I.length:Int):=wC;have hm:m<I.length:=wC;have ae:(m:Int)<(I.length:Int):=wC;have VW:=qz ((m:Int)+1-1) (m:Int);have A:=qz (m:Int) (m:Int);have Yl:=qz ((m:Int)+1+1) ((m+1+1:Nat):Int);have a1:=qfq I (m+1) vJ;have a2:=qfq I m hm;rw[Nat.mul_comm] at a1 a2;have KW:=hR;have am:(0:Int)<=(m:Int)+1:=wC;have aM:¬(m:Int)+1<0:=wC;have aq:((m:Int)+1).toNat=m+1:=by omega
   have aC:(I[m]).1<(I[m+1]).1->∀j(h:j+1<I.length),j+1<m+1+1->(I[j]).1<(I[j+1]).1:=by
    intro ah j Z9 aQ;by_cases au:j=m
    .subst au;exact ah
    .exact hR j Z9 wC
   have aD:¬(I[m]).1<(I[m+1]).1->qaA I=false:=by
    intro hn;cases hh:qaA I with
    |false=>rfl
    |true=>exact absurd ((qj8 I).1 hh m vJ) hn
   generalize (I[m]).1=y0 at *;generalize (I[m+1]).1=y1 at *;by_cases ac:y0<y1
   .have Yp:¬(y1:Int)<=(y0:Int):=wC;simp[r4,r9,K,b,ae,A,Yl,a1,a2,am,aq,G,Yp,V7];exact⟨m+1+1,wC,wC,wC,wC,aC ac⟩
   .have Yp:(y1:Int)<=(y0:Int):=wC;have aw:=aD ac;simp[r4,r9,K,b,ae,A,a1,a2,am,aq,G,Yp,aw,V7]
  .have b:=zw vJ;have hr:qaA I=true:=(qj8 I).2 fun j hj=>hR j hj wC;have ht:List.take (I.length*2) (kh I)=kh I:=qH wC;have aJ:¬I.length=0:=wC;have ay:I.length*2<=2*I.length:=wC;simp[r4,r9,K,b,hr,G,aB,ht,ay,V7]
end Go.Ev.S
namespace Go.Proofs
open Go.Shelf
def Tryz.laysM316_ren:Go.Shelf.Ren:=⟨fun|316=>254|n=>n,fun|9=>9|3=>3|4=>4|37=>63|0=>0|127=>307|5=>5|n=>n,fun|n=>n⟩
theorem Tryz.laysM316:Go.Proofs.LaysM.n316 Tryz.prog Tryz.laysM316_ren:={
 mixed:=wF
 f316:=Tryz.func254.trans (congrArg some wF)
 t0:=Tryz.underlying0
 a0:=Tryz.isAgg0
 z0:=Tryz.sizeOf0
 v0:=Tryz.zeroValue0
 t3:=Tryz.underlying3
 a3:=Tryz.isAgg3
 z3:=Tryz.sizeOf3
 v3:=Tryz.zeroValue3
 t4:=Tryz.underlying4
 a4:=Tryz.isAgg4
 z4:=Tryz.sizeOf4
 v4:=Tryz.zeroValue4
 t9:=Tryz.underlying9
 a9:=Tryz.isAgg9
 z9:=Tryz.sizeOf9
 v9:=Tryz.zeroValue9
 t37:=Tryz.underlying63
 a37:=Tryz.isAgg63
 z37:=Tryz.sizeOf63
 v37:=Tryz.zeroValue63
 t127:=Tryz.underlying307
 a127:=Tryz.isAgg307
 z127:=Tryz.sizeOf307
 v127:=Tryz.zeroValue307
 t5:=Tryz.underlying5
 a5:=Tryz.isAgg5
 z5:=Tryz.sizeOf5
 v5:=Tryz.zeroValue5
 i0:=wF
 i3:=wF
 i4:=wF
 i5:=wF
 i9:=wF
 i37:=wF
 i127:=by kernel_rfl}
def Tryz.lays219_ren:Go.Shelf.Ren:=⟨fun|219=>211|217=>171|225=>251|224=>252|267=>253|266=>212|314=>272|n=>n,fun|9=>9|3=>3|4=>4|5=>5|46=>184|146=>303|51=>50|n=>n,fun|1=>0|n=>n⟩
theorem Tryz.lays219:Go.Proofs.Lays.n219 Tryz.prog Tryz.lays219_ren:={
 mixed:=wF
 f217:=Tryz.func171.trans (congrArg some wF)
 f219:=Tryz.func211.trans (congrArg some wF)
 f224:=Tryz.func252.trans (congrArg some wF)
 f225:=Tryz.func251.trans (congrArg some wF)
 f266:=Tryz.func212.trans (congrArg some wF)
 f267:=Tryz.func253.trans (congrArg some wF)
 f314:=Tryz.func272.trans (congrArg some wF)
 t3:=Tryz.underlying3
 a3:=Tryz.isAgg3
 z3:=Tryz.sizeOf3
 v3:=Tryz.zeroValue3
 t4:=Tryz.underlying4
 a4:=Tryz.isAgg4
 z4:=Tryz.sizeOf4
 v4:=Tryz.zeroValue4
 t5:=Tryz.underlying5
 a5:=Tryz.isAgg5
 z5:=Tryz.sizeOf5
 v5:=Tryz.zeroValue5
 t9:=Tryz.underlying9
 a9:=Tryz.isAgg9
 z9:=Tryz.sizeOf9
 v9:=Tryz.zeroValue9
 t46:=Tryz.underlying184
 a46:=Tryz.isAgg184
 z46:=Tryz.sizeOf184
 v46:=Tryz.zeroValue184
 t51:=Tryz.underlying50
 a51:=Tryz.isAgg50
 z51:=Tryz.sizeOf50
 v51:=Tryz.zeroValue50
 t146:=Tryz.underlying303
 a146:=Tryz.isAgg303
 z146:=Tryz.sizeOf303
 v146:=Tryz.zeroValue303
 g1:=by kernel_rfl}
def Tryz.lays105_ren:Go.Shelf.Ren:=⟨fun|105=>95|212=>148|99=>149|165=>150|166=>151|170=>152|169=>153|263=>196|264=>197|206=>167|240=>198|241=>199|276=>247|277=>248|n=>n,fun|9=>9|3=>3|4=>4|20=>20|0=>0|46=>184|109=>252|5=>5|72=>256|76=>258|51=>50|146=>303|53=>38|148=>305|70=>254|37=>63|75=>220|127=>307|164=>354|80=>260|n=>n,fun|n=>n⟩
theorem Tryz.lays105:Go.Proofs.Lays.n105 Tryz.prog Tryz.lays105_ren:={
 mixed:=wF
 f99:=Tryz.func149.trans (congrArg some wF)
 f105:=Tryz.func95.trans (congrArg some wF)
 f165:=Tryz.func150.trans (congrArg some wF)
 f166:=Tryz.func151.trans (congrArg some wF)
 f169:=Tryz.func153.trans (congrArg some wF)
 f170:=Tryz.func152.trans (congrArg some wF)
 f206:=Tryz.func167.trans (congrArg some wF)
 f212:=Tryz.func148.trans (congrArg some wF)
 f240:=Tryz.func198.trans (congrArg some wF)
 f241:=Tryz.func199.trans (congrArg some wF)
 f263:=Tryz.func196.trans (congrArg some wF)
 f264:=Tryz.func197.trans (congrArg some wF)
 f276:=Tryz.func247.trans (congrArg some wF)
 f277:=Tryz.func248.trans (congrArg some wF)
 t0:=Tryz.underlying0
 a0:=Tryz.isAgg0
 z0:=Tryz.sizeOf0
 v0:=Tryz.zeroValue0
 t3:=Tryz.underlying3
 a3:=Tryz.isAgg3
 z3:=Tryz.sizeOf3
 v3:=Tryz.zeroValue3
 t4:=Tryz.underlying4
 a4:=Tryz.isAgg4
 z4:=Tryz.sizeOf4
 v4:=Tryz.zeroValue4
 t5:=Tryz.underlying5
 a5:=Tryz.isAgg5
 z5:=Tryz.sizeOf5
 v5:=Tryz.zeroValue5
 t9:=Tryz.underlying9
 a9:=Tryz.isAgg9
 z9:=Tryz.sizeOf9
 v9:=Tryz.zeroValue9
 t20:=Tryz.underlying20
 a20:=Tryz.isAgg20
 z20:=Tryz.sizeOf20
 v20:=Tryz.zeroValue20
 t37:=Tryz.underlying63
 a37:=Tryz.isAgg63
 z37:=Tryz.sizeOf63
 v37:=Tryz.zeroValue63
 t46:=Tryz.underlying184
 a46:=Tryz.isAgg184
 z46:=Tryz.sizeOf184
 v46:=Tryz.zeroValue184
 t51:=Tryz.underlying50
 a51:=Tryz.isAgg50
 z51:=Tryz.sizeOf50
 v51:=Tryz.zeroValue50
 t53:=Tryz.underlying38
 a53:=Tryz.isAgg38
 z53:=Tryz.sizeOf38
 v53:=Tryz.zeroValue38
 t70:=Tryz.underlying254
 a70:=Tryz.isAgg254
 z70:=Tryz.sizeOf254
 v70:=Tryz.zeroValue254
 t72:=Tryz.underlying256
 a72:=Tryz.isAgg256
 z72:=Tryz.sizeOf256
 v72:=Tryz.zeroValue256
 t75:=Tryz.underlying220
 a75:=Tryz.isAgg220
 z75:=Tryz.sizeOf220
 v75:=Tryz.zeroValue220
 t76:=Tryz.underlying258
 a76:=Tryz.isAgg258
 z76:=Tryz.sizeOf258
 v76:=Tryz.zeroValue258
 t109:=Tryz.underlying252
 a109:=Tryz.isAgg252
 z109:=Tryz.sizeOf252
 v109:=Tryz.zeroValue252
 t127:=Tryz.underlying307
 a127:=Tryz.isAgg307
 z127:=Tryz.sizeOf307
 v127:=Tryz.zeroValue307
 t146:=Tryz.underlying303
 a146:=Tryz.isAgg303
 z146:=Tryz.sizeOf303
 v146:=Tryz.zeroValue303
 t148:=Tryz.underlying305
 a148:=Tryz.isAgg305
 z148:=Tryz.sizeOf305
 v148:=Tryz.zeroValue305
 t164:=Tryz.underlying354
 a164:=Tryz.isAgg354
 z164:=Tryz.sizeOf354
 v164:=Tryz.zeroValue354}
theorem Tryz.Builder_Extra_105:Builder.Extra Tryz.prog Tryz.lays105_ren:={
 sizeBuilder:=wF
 liesBuilder:=wF
 t5:=Tryz.underlying5
 a5:=Tryz.isAgg5
 z5:=Tryz.sizeOf5
 v5:=Tryz.zeroValue5
 infoByte:=wF
 cellsByte:=wF
 sizeByte:=wF
 neB5:=by decide}
def Tryz.laysN54_ren:Go.Shelf.Ren:=⟨fun|54=>39|64=>90|65=>89|78=>144|79=>145|80=>135|81=>136|82=>137|83=>138|84=>139|85=>140|61=>141|86=>142|87=>143|93=>186|89=>187|90=>188|94=>189|95=>190|69=>191|97=>242|n=>n,fun|25=>29|26=>9|3=>3|51=>184|0=>0|67=>50|69=>38|4=>4|61=>245|60=>244|44=>236|5=>5|9=>9|75=>293|79=>296|83=>349|84=>115|n=>n,fun n=>n⟩
theorem Tryz.laysN54:SlLaysN.n54 Tryz.prog Tryz.laysN54_ren:={
 mixed:=wF
 f54:=⟨"slices.Sort[[]string,string]",wH,Tryz.func39.trans (congrArg some wF)⟩
 f61:=⟨"cmp.Less[string]",wH,Tryz.func141.trans (congrArg some wF)⟩
 f64:=Tryz.func90.trans (congrArg some wF)
 f65:=⟨"slices.pdqsortOrdered[string]",wH,Tryz.func89.trans (congrArg some wF)⟩
 f69:=⟨"cmp.isNaN[string]",wH,Tryz.func191.trans (congrArg some wF)⟩
 f78:=Tryz.func144.trans (congrArg some wF)
 f79:=Tryz.func145.trans (congrArg some wF)
 f80:=⟨"slices.insertionSortOrdered[string]",wH,Tryz.func135.trans (congrArg some wF)⟩
 f81:=⟨"slices.heapSortOrdered[string]",wH,Tryz.func136.trans (congrArg some wF)⟩
 f82:=⟨"slices.breakPatternsOrdered[string]",wH,Tryz.func137.trans (congrArg some wF)⟩
 f83:=⟨"slices.choosePivotOrdered[string]",wH,Tryz.func138.trans (congrArg some wF)⟩
 f84:=⟨"slices.reverseRangeOrdered[string]",wH,Tryz.func139.trans (congrArg some wF)⟩
 f85:=⟨"slices.partialInsertionSortOrdered[string]",wH,Tryz.func140.trans (congrArg some wF)⟩
 f86:=⟨"slices.partitionEqualOrdered[string]",wH,Tryz.func142.trans (congrArg some wF)⟩
 f87:=⟨"slices.partitionOrdered[string]",wH,Tryz.func143.trans (congrArg some wF)⟩
 f89:=Tryz.func187.trans (congrArg some wF)
 f90:=Tryz.func188.trans (congrArg some wF)
 f93:=⟨"slices.siftDownOrdered[string]",wH,Tryz.func186.trans (congrArg some wF)⟩
 f94:=⟨"slices.medianAdjacentOrdered[string]",wH,Tryz.func189.trans (congrArg some wF)⟩
 f95:=⟨"slices.medianOrdered[string]",wH,Tryz.func190.trans (congrArg some wF)⟩
 f97:=⟨"slices.order2Ordered[string]",wH,Tryz.func242.trans (congrArg some wF)⟩
 t0:=Tryz.underlying0
 a0:=Tryz.isAgg0
 z0:=Tryz.sizeOf0
 v0:=Tryz.zeroValue0
 t3:=Tryz.underlying3
 a3:=Tryz.isAgg3
 z3:=Tryz.sizeOf3
 v3:=Tryz.zeroValue3
 t4:=Tryz.underlying4
 a4:=Tryz.isAgg4
 z4:=Tryz.sizeOf4
 v4:=Tryz.zeroValue4
 t5:=Tryz.underlying5
 a5:=Tryz.isAgg5
 z5:=Tryz.sizeOf5
 v5:=Tryz.zeroValue5
 t9:=Tryz.underlying9
 a9:=Tryz.isAgg9
 z9:=Tryz.sizeOf9
 v9:=Tryz.zeroValue9
 t25:=Tryz.underlying29
 a25:=Tryz.isAgg29
 z25:=Tryz.sizeOf29
 v25:=Tryz.zeroValue29
 t26:=Tryz.underlying9
 a26:=Tryz.isAgg9
 z26:=Tryz.sizeOf9
 v26:=Tryz.zeroValue9
 t44:=Tryz.underlying236
 a44:=Tryz.isAgg236
 z44:=Tryz.sizeOf236
 v44:=Tryz.zeroValue236
 t51:=Tryz.underlying184
 a51:=Tryz.isAgg184
 z51:=Tryz.sizeOf184
 v51:=Tryz.zeroValue184
 t60:=Tryz.underlying244
 a60:=Tryz.isAgg244
 z60:=Tryz.sizeOf244
 v60:=Tryz.zeroValue244
 t61:=Tryz.underlying245
 a61:=Tryz.isAgg245
 z61:=Tryz.sizeOf245
 v61:=Tryz.zeroValue245
 t67:=Tryz.underlying50
 a67:=Tryz.isAgg50
 z67:=Tryz.sizeOf50
 v67:=Tryz.zeroValue50
 t69:=Tryz.underlying38
 a69:=Tryz.isAgg38
 z69:=Tryz.sizeOf38
 v69:=Tryz.zeroValue38
 t75:=Tryz.underlying293
 a75:=Tryz.isAgg293
 z75:=Tryz.sizeOf293
 v75:=Tryz.zeroValue293
 t79:=Tryz.underlying296
 a79:=Tryz.isAgg296
 z79:=Tryz.sizeOf296
 v79:=Tryz.zeroValue296
 t83:=Tryz.underlying349
 a83:=Tryz.isAgg349
 z83:=Tryz.sizeOf349
 v83:=Tryz.zeroValue349
 t84:=Tryz.underlying115
 a84:=Tryz.isAgg115
 z84:=Tryz.sizeOf115
 v84:=Tryz.zeroValue115}
end Go.Proofs
namespace Go.Ev.S
open Go Go.Proofs Go.Ev
theorem qzU[MaxL][TxtC]:Yd cx 0 40=true:=wF
theorem qzN[MaxL][TxtC]:Yd cx 40 40=true:=wF
theorem qzM[MaxL][TxtC]:Yd cx 80 40=true:=wF
theorem qzT[MaxL][TxtC]:Yd cx 120 40=true:=wF
theorem qzS[MaxL][TxtC]:Yd cx 160 40=true:=wF
theorem qzR[MaxL][TxtC]:Yd cx 200 40=true:=wF
theorem qzQ[MaxL][TxtC]:Yd cx 240 40=true:=wF
theorem qzP[MaxL][TxtC]:Yd cx 280 40=true:=wF
theorem qzO[MaxL][TxtC]:Yd cx 320 13=true:=wF
theorem qtJ:Tryz.prog.funcs.size=333:=wF
theorem qvO[MaxL][TxtC](f:Nat)(h:f<333):qgi cx f=true:=by
 rcases Kx f 40 with e|e
 .exact qaG qzU wC wC
 rcases Kx f 80 with c|c
 .exact qaG qzN wC wC
 rcases Kx f 120 with b|b
 .exact qaG qzM wC wC
 rcases Kx f 160 with a|a
 .exact qaG qzT wC wC
 rcases Kx f 200 with i|i
 .exact qaG qzS wC wC
 rcases Kx f 240 with j|j
 .exact qaG qzR wC wC
 rcases Kx f 280 with g|g
 .exact qaG qzQ wC wC
 rcases Kx f 320 with d|d
 .exact qaG qzP wC wC
 exact qaG qzO wC wC
theorem good[MaxL][TxtC](q:qlX):Good cx where
 mixed:=wF
 okc f fn c b hc hb:=(qom (qvO f (by rw[<-qtJ];exact(Array.getElem?_eq_some_iff.1 b).1)) b).2 c hc hb
 ng f fn b:=(qom (qvO f (by rw[<-qtJ];exact(Array.getElem?_eq_some_iff.1 b).1)) b).1
 ext f fn args d b hn h ok w ι H vs hs hv:=by
  by_cases l:f=121
  .subst l;rw[quv] at h;have a:=Tryz.func121;rw[show cx.P.funcs[121]?=Tryz.prog.funcs[121]? from rfl,a] at b;injection b with b;subst b;exact q5R (P:=cx.P) a rfl wF wF wF h hv
  by_cases e:f=212
  .subst e;rw[qut] at h;have a:=Tryz.func212;rw[show cx.P.funcs[212]?=Tryz.prog.funcs[212]? from rfl,a] at b;injection b with b;subst b;exact q3r (P:=cx.P) a rfl wF wF wF h hv
  by_cases g:f=210
  .subst g;rw[quu] at h;have a:=Tryz.func210;rw[show cx.P.funcs[210]?=Tryz.prog.funcs[210]? from rfl,a] at b;injection b with b;subst b;exact q5O (P:=cx.P) a rfl wF wF wF h hv
  by_cases k:f=292
  .subst k;rw[qus] at h;have a:=Tryz.func292;rw[show cx.P.funcs[292]?=Tryz.prog.funcs[292]? from rfl,a] at b;injection b with b;subst b;exact q3q (P:=cx.P) a rfl wF wF wF h hv
  .have:cx.ext f args=none:=by
    show qlf f args=none;unfold qlf;split
    .exact absurd rfl l
    .exact absurd rfl e
    .exact absurd rfl g
    .exact absurd rfl k
    .rfl
   rw[this] at h;cases h
 con f args H r H' h ok w ι vs hs hv:=by
  by_cases j:f=211
  .subst j;rw[qvv] at h;exact q5w (X:=cx) (m:=MaxL.m) Tryz.lays219 rfl h hs hv
  by_cases n:f=254
  .subst n;rw[qvu] at h;exact q5x (X:=cx) Tryz.laysM316 h hs hv
  by_cases p:f=95
  .subst p;rw[qvs] at h;exact q5v (X:=cx) Tryz.lays105 Tryz.Builder_Extra_105 h hs hv
  by_cases i:f=179
  .subst i;rw[q5N] at h;exact q (f:=179) h hs hv
  by_cases o:f=39
  .subst o;rw[qvt] at h;exact q5u (X:=cx) Tryz.laysN54 (Go.Proofs.enters_of rfl rfl rfl) h hs hv
  .have:cx.con f args H=none:=by
    show ql6 f args H=none;unfold ql6;split
    .exact absurd rfl j
    .exact absurd rfl n
    .exact absurd rfl p
    .exact absurd rfl i
    .exact absurd rfl o
    .rfl
   rw[this] at h;cases h
theorem q3V[MaxL][TxtC]{W:World}(h:laidMet Tryz.prog YtglpgdajjpipgaaGreatDoor.Rows.mergeWholeRow.laid W)(VZ:W.cell? ⟨0,0,none⟩=some (.int .i64 MaxL.m)):∀g cs,cx.glob g=some cs->Rep (· <W.heap.size) W jA [] (.vptr cs) (.pointer (some ⟨g,0,none⟩)):=by
 unfold YtglpgdajjpipgaaGreatDoor.Rows.mergeWholeRow at h;have t6:=qjD (g:=6) (zs:=gz6) (Lib.tabIs_of_head (g:=6) (t:=389) (e:=5) (n:=32) (k:=.u8) wF wF wF wF wF wF h) wF;replace h:=h.tail;have t7:=qjD (g:=7) (zs:=gz7) (Lib.tabIs_of_head (g:=7) (t:=390) (e:=5) (n:=64) (k:=.u8) wF wF wF wF wF wF h) wF;replace h:=h.tail;have t1:=qjD (g:=1) (zs:=gz1) (Lib.tabIs_of_head (g:=1) (t:=132) (e:=38) (n:=20) (k:=.u64) wF wF wF wF wF wF h) wF;replace h:=h.tail;replace h:=h.tail;have t3:=qn5 (g:=3) (text:=gs3) wF (laid_sentinel (g:=3) (ti:=220) (tp:=375) (te:=377) (ts:=9) h wF wF Tryz.underlying220 (qu5 (base:= "errors.errorString") wH wF wF wH) Tryz.underlying375 Tryz.underlying377 rfl rfl wF wF wF);replace h:=h.tail;have t2:=qn5 (g:=2) (text:=gs2) wF (laid_sentinel (g:=2) (ti:=220) (tp:=375) (te:=377) (ts:=9) h wF wF Tryz.underlying220 (qu5 (base:= "errors.errorString") wH wF wF wH) Tryz.underlying375 Tryz.underlying377 rfl rfl wF wF wF);replace h:=h.tail;intro g cs hg;have Xc:qkR g=some cs:=hg;unfold qkR at Xc;split at Xc
 .cases Xc;exact t1
 .cases Xc;exact t2
 .cases Xc;exact t3
 .cases Xc;exact t6
 .cases Xc;exact t7
 .cases Xc;exact qyJ VZ
 .cases Xc
theorem q08[MaxL][TxtC](n b:Int):call cx 17 [.int .i64 n,.int .i64 b] []=some (.int .i64 (if b<1 then 0 else(IntKind.i64.wrap (n.tmod b+b)).tmod b),[]):=by
 refine qC Tryz.func17 rfl ⟨rfl,rfl⟩ ?_;by_cases a:b<1
 .simp[Tryz.f17,a]
 .have c:b≠0:=by omega
  simp[Tryz.f17,a,c]
theorem q0h[MaxL][TxtC](n:Int)(b:Nat)(g:1<=b)(f:b<=1000000):∃x:Nat,x<b/\call cx 17 [.int .i64 n,.int .i64 b] []=some (.int .i64 x,[]):=by
 have e:n.tmod b<b:=Int.tmod_lt_of_pos _ wC
 have d:-(b:Int)<n.tmod b:=by
  have:=Int.tmod_lt_of_pos (-n) (show(0:Int)<b from wC);rw[Int.neg_tmod] at this;omega
 have h:=q08 n b;rw[if_neg wC] at h;generalize n.tmod b=x at *;have a:=qz (x+b) (x+b);rw[a] at h;have c:0<=x+b:=wC
 have i:=Int.tmod_nonneg (b:Int) c;have j:=Int.tmod_lt_of_pos (x+b) (show(0:Int)<b from wC);refine⟨((x+b).tmod b).toNat,wC,?_⟩;rw[h];congr 3;omega
def jT(nil:Bool)(zs:List Int)(k:Nat):List D:=[.vsl nil (Zb .i64 zs) zs.length,.int .i64 k]
theorem qkD{k:IntKind}{l:List Int}{i:Nat}(h:i<l.length):(Zb k l).drop i=.int k l[i]::Zb k (l.drop (i+1)):=by
 unfold Zb;rw[<-List.map_drop,jo h];rfl
@[simp] theorem q9V (k:IntKind) (l:List Int):(Zb k l).length=l.length:=by simp[Zb]
theorem qeW(nil:Bool)(zs:List Int)(k:Nat):(∀x,x∈jT nil zs k->idFree x=true)=True:=eq_true (by
 unfold jT;simp)
theorem qeV(nil:Bool)(zs:List Int)(k:Nat):(jT nil zs k).length=2:=rfl
theorem qeX(nil:Bool)(zs:List Int)(k n:Nat):(∀x,x∈jT nil zs k->closed n x=true)=True:=eq_true (by
 unfold jT;simp)
theorem q06[MaxL][TxtC](nil:Bool)(zs:List Int)(k:Nat):call cx 55 [.optr 0 2 0] [some (jT nil zs k)]=some (.bool (decide (k<zs.length)),[some (jT nil zs k)]):=by
 refine qC Tryz.func55 rfl ⟨rfl,rfl⟩ ?_;unfold jT;by_cases h:k<zs.length
 .have a:=zq h;simp[Tryz.f55,h,a]
 .have a:=zw h;simp[Tryz.f55,h,a]
theorem qfi[MaxL][TxtC](n b:Int)(e:1<=b)(d:b<=1000000):∃x:Nat,(x:Int)<b/\call cx 17 [.int .i64 n,.int .i64 b] []=some (.int .i64 x,[]):=by
 obtain⟨x,c,a⟩:=q0h n b.toNat wC wC;rw[show((b.toNat:Nat):Int)=b from wC] at a;exact⟨x,wC,a⟩
theorem KK[MaxL][TxtC](nil:Bool)(zs:List Int)(e:nil=true->zs=[])(n:zs.length<=1000000)(k:Nat)(b:Int)(l:1<=b)(i:b<=1000000):
  ∃x k':Nat,(x:Int)<b/\(k<zs.length->k<k')/\call cx 25 [.optr 0 2 0,.int .i64 b] [some (jT nil zs k)]=some (.int .i64 x,[some (jT nil zs k')]):=by
 unfold jT;by_cases a:k<zs.length
 .have m:nil=false:=by
   cases nil with
   |false=>rfl
   |true=>rw[e rfl] at a;simp at a
  subst m;have c:¬(zs.length:Int)<=(k:Int):=wC
  have d:=zq a;have f:=qz ((k:Int)+1) ((k+1:Nat):Int);have o:=qz (((k+1:Nat):Int)-1) (k:Int);have g:=qz (k:Int) (k:Int);obtain⟨x,hx,j⟩:=qfi zs[k] b l i;refine⟨x,k+1,hx,fun _=>Nat.lt_succ_self k,?_⟩;refine qC Tryz.func25 rfl ⟨rfl,rfl⟩ ?_;simp[Tryz.f25,c,f,d,g,qkD a,j]
 .have c:(zs.length:Int)<=(k:Int):=by omega
  refine⟨0,k,wC,fun h=>absurd h a,?_⟩;refine qC Tryz.func25 rfl ⟨rfl,rfl⟩ ?_;simp[Tryz.f25,c]
def namesL:List (List UInt8):=[[65],[66],[77,69,83,83,65,71,69],[95,80,73,68],[88,95,49],[80,82,73,79,82,73,84,89]]
def valuesL:List (List UInt8):=[[],[48],[49],[50,50],[97,61,98],[111,110,101,10,116,119,111],[0,255],[116,97,98,9,104,101,114,101],[108,111,110,103,32,108,111,110,103,32,108,111,110,103,32,108,111,110,103,32,108,111,110,103,32,108,111,110,103,32,108,111,110,103],[126,127,128]]
def strD(l:List (List UInt8)):List D:=l.map D.str
theorem qm8{l:List (List UInt8)}{i:Nat}(h:i<l.length):(strD l).drop i=.str l[i]::strD (l.drop (i+1)):=by
 unfold strD;rw[<-List.map_drop,jo h];rfl
theorem q0u[MaxL][TxtC]:call cx 201 [] []=some (.vsl false (strD namesL) 6,[]):=by
 refine call_some.2 ⟨60,?_⟩;kernel_rfl
theorem qwA[MaxL][TxtC]:call cx 202 [] []=some (.vsl false (strD valuesL) 10,[]):=by
 refine call_some.2 ⟨60,?_⟩;kernel_rfl
def VT(p:Pr):Bool:=qgf p&&(decide (p.name.length<=8)&&decide (p.value.length<=36))
theorem qko{p:Pr}(h:VT p=true):qgf p=true:=by
 unfold VT at h;rw[zY] at h;exact h.1
theorem q0A{p:Pr}(h:VT p=true):p.name.length<=8/\p.value.length<=36:=by
 unfold VT at h;simp only[zY,decide_eq_true_eq] at h;exact h.2
theorem qz8:∀n∈namesL,∀v∈valuesL,VT ⟨n,v⟩=true:=wH
theorem q05[MaxL][TxtC](nil:Bool)(zs:List Int)(c:nil=true->zs=[])(e:zs.length<=1000000)(k:Nat):
  ∃(p:Pr)(k':Nat),VT p=true/\call cx 158 [.optr 0 2 0] [some (jT nil zs k)]=some (.agg (Enc.cells p),[some (jT nil zs k')]):=by
 obtain⟨x,m,hx,-,f⟩:=KK nil zs c e k 6 wH wH;obtain⟨y,i,l,-,d⟩:=KK nil zs c e m 10 wH wH;have b:x<namesL.length:=by show x<6;omega
 have a:y<valuesL.length:=by show y<10;omega
 have h:=q0u;have j:=qwA;refine⟨⟨namesL[x],valuesL[y]⟩,i,qz8 _ (vC b) _ (vC a),?_⟩;have o:=qm8 b;have g:=qm8 a;generalize namesL[x]=n at *;generalize valuesL[y]=v at *;generalize strD namesL=N at *;generalize strD valuesL=V at *;refine qC Tryz.func158 rfl ⟨rfl,rfl⟩ ?_;unfold jT at f d⊢;simp[Tryz.f158,f,d,h,j,o,g,hx,l,Pr.cells]
def idN(j:Nat):ID:=⟨[94,0,0,0,0,0,0,0,0,0,0,0,0,0,0,UInt8.ofNat j],rfl⟩
theorem qhD[MaxL][TxtC](n:Int):∃j:Nat,j<5/\call cx 24 [.int .i64 n] []=some (.agg (qf (idN j).l),[]):=by
 obtain⟨x,hx,a⟩:=qfi n 5 wH wH;refine⟨x,wC,?_⟩;refine qC Tryz.func24 rfl ⟨rfl,rfl⟩ ?_;have h:x=0\/x=1\/x=2\/x=3\/x=4:=wC
 rcases h with rfl|rfl|rfl|rfl|rfl<;>simp[Tryz.f24,a]<;>rfl
theorem qoN[MaxL][TxtC]{j:Nat}(a:j<5):call cx 24 [.int .i64 j] []=some (.agg (qf (idN j).l),[]):=by
 have h:j=0\/j=1\/j=2\/j=3\/j=4:=wC
 refine call_some.2 ⟨60,?_⟩;rcases h with rfl|rfl|rfl|rfl|rfl<;>kernel_rfl
def q7r{α:Type}[Enc α](S:List D)(sz:Nat)(l:List α)(d:D)(H:qe):Prop:=
 (l=[]/\d=.vsl true [] 0/\H=[some S])\/(l≠[]/\∃n k t,n=l.length*sz/\k=l.length/\((d=.osl 2 n 0 k sz/\H=[some S,some t,some (qt l)])\/(d=.osl 1 n 0 k sz/\H=[some S,some (qt l),some t])))
def qvW(nil:Bool)(zs:List Int)(q:D×qe):Prop:=∃(l:List Pr)(k':Nat),1<=l.length/\l.length<=4/\(∀p∈l,VT p=true)/\q=(.vsl false (qt l) l.length,[some (jT nil zs k')])
theorem q04[MaxL][TxtC](nil:Bool)(zs:List Int)(F:nil=true->zs=[])(E:zs.length<=1000000)(k:Nat):
  ∃q,call cx 99 [.optr 0 2 0,.int .i64 4] [some (jT nil zs k)]=some q/\qvW nil zs q:=by
 obtain⟨x,N,hx,-,O⟩:=KK nil zs F E k 4 wH wH;refine Vk (X:=cx) (f:=99) (args:=[.optr 0 2 0,.int .i64 4]) (H:=[some (jT nil zs k)]) (qvW nil zs) Tryz.func99 rfl ⟨rfl,rfl⟩ ?_;have L:=qz ((x:Int)+1) ((x+1:Nat):Int);have o:=qeW nil zs;have R:=qeV nil zs;have s:=qeX nil zs;simp[Tryz.f99,O,o];refine Run.loopThen (fun(q:List Pr×Nat×Nat) e H'=>q.1.length+q.2.1=x+1/\(∀p∈q.1,VT p=true)/\qi e 0=some (.optr 0 2 0)/\qi e 6=some (.int .i64 (q.2.1:Nat))/\∃d,qi e 5=some d/\q7r (jT nil zs q.2.2) 2 q.1 d H') (fun q=>q.2.1) ([],x+1,N) ?_ ?_
 .exact⟨wE,wE,wE,by simp[L],_,wE,.inl ⟨rfl,rfl,rfl⟩⟩
 rintro⟨l,i,B⟩ e H' ⟨hi,j,v,c,d,r,b⟩;simp only at hi j c b;obtain⟨p,z,A,C⟩:=q05 nil zs F E B;rcases b with⟨rfl,rfl,rfl⟩|⟨y,n,m,t,S,M,b⟩
 .have a:0<i:=by simp at hi;omega
  have u:IntKind.i64.wrap ((i:Int)-1)=((i-1:Nat):Int):=by rw[wrap_i64]<;>(simp at hi;omega)
  simp[v,r,c,a,C,o,s,u,Pr.cells,qF];exact⟨[p],i-1,wC,by simp at hi⊢;omega,by simp[A],rfl,z,.inr ⟨wE,2,1,_,rfl,rfl,.inl ⟨rfl,rfl⟩⟩⟩
 .have I:(m+1)*32<=140737488355328:=by omega
  have P:m+1<=140737488355328:=wC
  have g:l.length=m:=M.symm;have w:m*2=n:=wC
  have G:List.take n (qt l)=qt l:=qH wG;by_cases a:0<i
  .have u:=qz ((i:Int)-1) ((i-1:Nat):Int);rcases b with⟨rfl,rfl⟩|⟨rfl,rfl⟩
   all_goals
    simp[v,r,c,a,C,o,s,u,Pr.cells,qF,g,w,I,P];refine⟨l++[p],i-1,wC,wG,fun q K=>?_,rfl,z,.inr ⟨wE,n+2,m+1,_,wG,by simp[g],.inr ⟨rfl,by rw[qe8];rfl⟩⟩⟩;rcases List.mem_append.1 K with h|h
    .exact j q h
    .rw[List.mem_singleton.1 h];exact A
  .have Q:l.isEmpty=false:=by simpa using y
   have J:1<=l.length:=by
    cases l with
    |nil=>exact absurd rfl y
    |cons=>simp
   rcases b with⟨rfl,rfl⟩|⟨rfl,rfl⟩
   all_goals
    simp[v,r,c,a,s,g,w,G];exact⟨l,B,J,wC,j,by rw[g]⟩
end Go.Ev.S
namespace Go.Ev
open Go Go.Proofs
def fxN:Nat->Nat->List UInt8
 |0,_=>[]
 |n+1,v=>fxN n (v/16)++[vT (v % 16)]
theorem qtC:∀(n:Nat),fxN n 0=List.replicate n 48
 |0=>rfl
 |n+1=>by
  rw[fxN,Nat.zero_div,qtC n,Nat.zero_mod];have:vT 0=48:=wH
  rw[this,List.replicate_succ']
theorem qtD:∀(f n v:Nat),v<16^f->1<=f->f<=n->List.replicate (n-(ZY f v).length) 48++ZY f v=fxN n v
 |0,_,_,_,h,_=>by omega
 |f+1,0,_,_,_,h=>by omega
 |f+1,n+1,v,h,_,e=>by
  rw[ZY,fxN];by_cases a:v<16
  .rw[if_pos a,show v/16=0 from wC,qtC,qeJ a];rfl
  .rw[if_neg a]
   have b:1<=f:=by
    rcases f with _|f
    .simp at h;omega
    .omega
   have d:=qtD f n (v/16) (by rw[qeI] at h;omega) b wC
   have c:n+1-(ZY f (v/16)++[vT (v % 16)]).length=n-(ZY f (v/16)).length:=by
    rw[zo];simp
   rw[c,<-jX,d]
theorem qub{v:Nat}(h:v<18446744073709551616):Qt v=fxN 16 v:=qtD 16 16 v wC wC wC
end Go.Ev
namespace Go.Ev.S
open Go Go.Proofs Go.Ev
def KE(p:Pr):List UInt8:=(p.name++[61])++p.value
theorem qhy[MaxL][TxtC](p:Pr)(e:p.name.length<1000000)(d:p.value.length<1000000):call cx 157 [.agg (Enc.cells p)] []=some (.str (KE p),[]):=by
 refine qC Tryz.func157 rfl ⟨rfl,rfl⟩ ?_;have a:p.name.length+1<=4611686018427387904:=wC
 have b:p.name.length+1+p.value.length<=4611686018427387904:=wC
 have c:p.name.length+(p.value.length+1)<=4611686018427387904:=wC
 unfold KE;simp[Tryz.f157,Pr.cells,a,b]
def qaJ:List UInt8->Nat->Bool
 |[],_=>true
 |c::l,k=>(Jo c&&(decide (0<k)|| !XT c))&&qaJ l (k+1)
theorem qo9:∀(l:List UInt8)(k:Nat),0<k->qaJ l k=l.all Jo
 |[],_,_=>rfl
 |c::l,k,h=>by rw[qaJ,qo9 l (k+1) wC];simp[h]
theorem q0x(s:List UInt8):JC s=(qaJ s 0&&(decide (1<=s.length)&&decide (s.length<=64))):=by
 cases s with
 |nil=>rfl
 |cons c l=>
  rw[JC,qaJ,qo9 l 1 wC,Va];simp;cases Jo c<;>cases XT c<;>cases l.all Jo<;>simp
theorem qy6[MaxL][TxtC](s:List UInt8)(_:s.length<=9223372036854775807):call cx 200 [.str s] []=some (.bool (JC s),[]):=by
 refine qC Tryz.func200 rfl ⟨rfl,rfl⟩ ?_;rw[q0x];obtain⟨r,y⟩:=ql ((qaJ s 0&&(decide (1<=s.length)&&decide (s.length<=64))));rw[y];simp[Tryz.f200];refine Run.loopThen (fun(k:Nat) e H'=>k<=s.length/\(qaJ (s.drop k) k&&(decide (1<=s.length)&&decide (s.length<=64)))=r/\qi e 0=some (.str s)/\qi e 3=some (.int .i64 k)/\H'=[]) (fun k=>s.length-k) 0 ?_ ?_
 .simpa using y
 rintro k e H' ⟨H,a,n,i,rfl⟩;by_cases o:k<s.length
 .have d:=zq o;have E:=qz ((k:Int)+1) ((k+1:Nat):Int);have x:s[k]?=some s[k]:=qM o;rw[jo o,qaJ] at a;generalize s[k]=c at *;have F:(Jo c&&(decide (0<k)|| !XT c))=true->∃j:Nat,s.length-j<s.length-k/\j<=s.length/\(qaJ (s.drop j) j&&(decide (1<=s.length)&&decide (s.length<=64)))=r/\(j:Int)=(k:Int)+1:=fun h=>⟨k+1,wC,wC,by rw[h,YB] at a;exact a,wC⟩;have B:(Jo c&&(decide (0<k)|| !XT c))=false->r=false:=fun h=>by rw[h,qdW,qdW] at a;exact a.symm
  cases q:(Jo c&&(decide (0<k)|| !XT c)) with
  |true=>
   obtain⟨j,C,z,A,G⟩:=F q;simp[Jo,XT] at q;by_cases b:(48:Int)<=(c.toNat:Int)<;>by_cases f:(c.toNat:Int)<=57<;>rcases(show((k=0)=True/\(0<k)=False)\/((k=0)=False/\(0<k)=True) from yU) with⟨g,l⟩|⟨g,l⟩<;>by_cases t:(65:Int)<=(c.toNat:Int)<;>by_cases u:(c.toNat:Int)<=90<;>by_cases v:(c.toNat:Int)=95<;>try(exfalso;simp at g;omega)
   all_goals simp[n,i,d,x,E,b,f,l,t,u,v]
   all_goals exact⟨j,C,z,A,wC⟩
  |false=>
   have:=B q;subst this;simp[Jo,XT] at q;by_cases b:(48:Int)<=(c.toNat:Int)<;>by_cases f:(c.toNat:Int)<=57<;>rcases(show((k=0)=True/\(0<k)=False)\/((k=0)=False/\(0<k)=True) from yU) with⟨g,l⟩|⟨g,l⟩<;>by_cases t:(65:Int)<=(c.toNat:Int)<;>by_cases u:(c.toNat:Int)<=90<;>by_cases v:(c.toNat:Int)=95<;>try(exfalso;simp at g;omega)
   all_goals simp[n,i,d,x,b,f,l,t,u,v]
 .have d:=zw o;rw[Vn wC,qaJ,YB] at a;by_cases b:1<=s.length
  .have p:(1:Int)<=(s.length:Int):=wC;by_cases f:s.length<=64
   .have w:(s.length:Int)<=64:=wC;simp only[b,f,decide_true,Bool.and_self] at a;subst a;simp[n,i,d,p,w]
   .have w:¬(s.length:Int)<=64:=wC;simp only[b,f,decide_true,decide_false,Bool.and_false] at a;subst a;simp[n,i,d,p,w]
  .have p:¬(1:Int)<=(s.length:Int):=wC;simp only[b,decide_false,qdW] at a;subst a;simp[n,i,d,p]
theorem qy7[MaxL][TxtC](s:List UInt8)(a:s.length<1000000):call cx 200 [.str s] []=some (.bool (JC s),[]):=qy6 s wC
theorem q0w{n:List UInt8}(h:JC n=true):n.length<=64:=by
 unfold JC at h;split at h
 .cases h
 .simp only[zY,decide_eq_true_eq] at h;exact h.1.1
theorem qjQ{p:Pr}(h:qgf p=true):JC p.name=true/\p.name.length<=64/\p.value.length<=256:=by
 unfold qgf at h;simp only[zY,decide_eq_true_eq] at h;exact⟨h.1,q0w h.1,h.2⟩
theorem q1S[MaxL][TxtC](p:Pr)(h:qgf p=true):call cx 156 [.agg (Enc.cells p)] []=some (.tup [.vsl false (qf (KE p)) (KE p).length,.int .i64 0],[]):=by
 obtain⟨d,i,f⟩:=qjQ h;have a:=qy7 p.name wC;rw[d] at a;have c:=qhy p wC wC;have b:¬(256:Int)<(p.value.length:Int):=wC
 refine qC Tryz.func156 rfl ⟨rfl,rfl⟩ ?_;rw[Pr.cells] at c⊢;have g:(KE p).length<=321:=by unfold KE;simp;omega
 have j:(KE p).length≠0:=by unfold KE;simp
 generalize KE p=w at *;have e:w.length<=140737488355328:=wC
 simp[Tryz.f156,a,c,b]
theorem Vv{X:Cx}{f nt n0:Nat}{Q:Ex->qu->qe->Prop}{fs:List Fr}{c:Code}{σ:Type}(I:σ->qu->qe->Prop)(m:σ->Nat)(s:σ)(J:Ex->qu->qe->Prop){e:qu}{H:qe}(h:I s e H)
  (a:∀s e H,I s e H->Run X f nt n0 (fun ex g H'=>match ex with| .normal=>∃b,m b<m s/\I b g H'|ex=>J ex g H') [] (zk X f nt n0 c e H))
  (done:∀ex e H,J ex e H->Run X f nt n0 Q fs (some (ex,e,H))):Run X f nt n0 Q fs (zk X f nt n0 (.loop c) e H):=by
 refine Run.loopThen I m s h fun s e H hi=>Run.mono (a s e H hi) fun ex e H d=>?_;rw[KC];cases ex with
 |normal=>exact d
 |_=>exact done _ _ _ d
def LsM(L:List Pr)(d:D)(H:qe):Prop:=
 ∃n k t,n=L.length*2/\k=L.length/\((d=.osl 1 n 0 k 2/\H=[some t,some (qt L)])\/(d=.osl 0 n 0 k 2/\H=[some (qt L),some t])\/(d=.osl 0 n 0 k 2/\H=[some (qt L)]))
def LsH(out:List Pr)(d:D)(H:qe):Prop:=
 (out=[]/\d=.vsl true [] 0/\H=[])\/(out≠[]/\LsM out d H)
def LsQ(q:D×qe):Prop:=∃out:List Pr,1<=out.length/\out.length<=4/\(∀p∈out,VT p=true)/\q=(.tup [.vsl false (qt out) out.length,.int .i64 0],[])
theorem qpg[MaxL][TxtC](l:List Pr)(T:1<=l.length)(h4:l.length<=4)(kY:∀p∈l,VT p=true):∃q,call cx 98 [.vsl false (qt l) l.length] []=some q/\LsQ q:=by
 refine Vk (X:=cx) (f:=98) (args:=[.vsl false (qt l) l.length]) (H:=[]) LsQ Tryz.func98 rfl ⟨rfl,rfl⟩ ?_;have G:¬l.length=0:=wC
 simp[Tryz.f98,G];refine Run.loopThen (fun(q:Nat×List Pr) e H'=>q.1<=l.length/\q.2.length<=q.1/\(1<=q.1->1<=q.2.length)/\(∀p∈q.2,VT p=true)/\qi e 0=some (.vsl false (qt l) l.length)/\qi e 5=some (.int .i64 (q.1:Nat))/\∃d,qi e 4=some d/\LsH q.2 d H') (fun q=>l.length-q.1) (0,[]) ?_ ?_
 .exact⟨wE,wE,wE,wE,wE,wE,_,wE,.inl ⟨rfl,rfl,rfl⟩⟩
 rintro⟨i,out⟩ e H' ⟨hi,ho,M,C,g,b,d,c,A⟩;simp only at hi ho M C b A;by_cases r:i<l.length
 .have u:=zq r;have hj:=q1S l[i] (qko (kY _ (vC r)));have B:=kY _ (vC r);obtain⟨-,aq,kx⟩:=qjQ (qko B);have E:=qz ((i:Int)+1) ((i+1:Nat):Int);rw[Pr.cells] at hj;rcases A with⟨rfl,rfl,rfl⟩|⟨qQ,n,k,t,hn,S,A⟩
  .simp[g,c,b,r,u,hj,Pr.cells];refine Vb ?_;simp[qF];refine Vb ?_;simp[r,u,Pr.cells,E];exact⟨i+1,wC,wC,[l[i]],wE,fun _=>wE,by simp[B],wE,.inr ⟨wE,2,1,_,rfl,rfl,.inl ⟨rfl,rfl⟩⟩⟩
  have zS:List.take n (qt out)=qt out:=qH wG;have v:out.length=k:=S.symm;have y:k*2=n:=wC
  have Y:(k+1)*32<=140737488355328:=wC
  have zU:k+1<=140737488355328:=wC
  have U:=qz (k:Int) (k:Int);rcases A with⟨rfl,rfl⟩|⟨rfl,rfl⟩|⟨rfl,rfl⟩
  all_goals
   simp[g,c,b,r,u,hj,Pr.cells]
   refine Vv (fun(z:Nat) e H'=>z<=k/\qi e 0=some (.vsl false (qt l) l.length)/\qi e 4=some (.osl 0 n 0 k 2)/\qi e 5=some (.int .i64 (i:Nat))/\qi e 8=some (.int .i64 (z:Nat))/\H'=[some (qt out)]) (fun z=>k-z) 0
    (fun O e H'=>O=.exit 2/\∃z,z<=k/\qi e 0=some (.vsl false (qt l) l.length)/\qi e 4=some (.osl 0 n 0 k 2)/\qi e 5=some (.int .i64 (i:Nat))/\qi e 8=some (.int .i64 (z:Nat))/\H'=[some (qt out)]) ⟨vp _,wE,wE,wE,wE,rfl⟩ ?_ ?_
   .clear g c b;rintro z e H' ⟨G,g,c,b,o,rfl⟩;have ak:=qz ((z:Int)+1) ((z+1:Nat):Int);by_cases Q:z<k
    .have F:z<out.length:=wC;obtain⟨-,c1,c2⟩:=qjQ (qko (C _ (vC F)));have p1:=qhy out[z] wC wC;have p2:=qhy l[i] wC wC;rw[Pr.cells] at p1 p2;generalize KE out[z]=w1 at *;generalize KE l[i]=w2 at *;cases hb:Op.bytesLess w1 w2 with
     |true=>
      simp[g,c,b,o,Q,r,u,Pr.cells,p1,p2,hb,ak,v,y];exact⟨z+1,wC,wC,rfl⟩
     |false=>
      simp[g,c,b,o,Q,r,u,Pr.cells,p1,p2,hb,v,y];exact⟨z,G,rfl⟩
    .simp[g,c,b,o,Q];exact⟨z,G,rfl⟩
   .clear g c b;rintro O e H' ⟨rfl,z,G,g,c,b,o,rfl⟩
    have Z:(∃h:z<out.length,out[z].name=l[i].name/\out[z].value=l[i].value)\/(∃h:z<out.length,¬out[z].name=l[i].name)\/(∃h:z<out.length,out[z].name=l[i].name/\¬out[z].value=l[i].value)\/¬z<k:=by
     by_cases h:z<out.length
     .by_cases T:out[z].name=l[i].name
      .by_cases h2:out[z].value=l[i].value
       .exact .inl ⟨h,T,h2⟩
       .exact .inr (.inr (.inl ⟨h,T,h2⟩))
      .exact .inr (.inl ⟨h,T⟩)
     .exact .inr (.inr (.inr wC))
    have V:=fun(h:z<out.length)=>(show z<k from wC);rcases Z with⟨F,K,e2⟩|⟨F,K⟩|⟨F,K,e2⟩|Q
    .simp[g,c,b,o,V F,r,u,Pr.cells,K,e2,v,y,E];exact⟨i+1,wC,wC,out,wC,fun _=>wC,C,wE,.inr ⟨qQ,n,k,t,hn,S,.inr (.inr ⟨rfl,rfl⟩)⟩⟩
    all_goals
     first
      |simp[g,c,b,o,V F,r,u,Pr.cells,K,e2,v,y,U,Y,zU,qF]
      |simp[g,c,b,o,V F,r,u,Pr.cells,K,v,y,U,Y,zU,qF]
      |simp[g,c,b,o,Q,v,y,U,Y,zU,qF]
     refine Vv (fun(q:Nat×List Pr) e H'=>z<=q.1/\q.1<=k/\q.2.length=k+1/\(∀x(h:x<q.2.length),x≠q.1->VT q.2[x]=true)/\qi e 0=some (.vsl false (qt l) l.length)/\qi e 4=some (.osl 0 (n+2) 0 (k+1) 2)/\qi e 5=some (.int .i64 (i:Nat))/\qi e 8=some (.int .i64 (z:Nat))/\qi e 9=some (.int .i64 (q.1:Nat))/\H'=[some (qt q.2),some [.str [],.str []]]) (fun q=>q.1-z) (k,out++[⟨[],[]⟩])
      (fun O e H'=>O=.exit 4/\∃L:List Pr,L.length=k+1/\(∀x(h:x<L.length),x≠z->VT L[x]=true)/\qi e 0=some (.vsl false (qt l) l.length)/\qi e 4=some (.osl 0 (n+2) 0 (k+1) 2)/\qi e 5=some (.int .i64 (i:Nat))/\qi e 8=some (.int .i64 (z:Nat))/\H'=[some (qt L),some [.str [],.str []]]) ?_ ?_ ?_
     .refine⟨G,qA _,by simp[v],fun x h hx=>?_,wE,wE,wE,wE,wE,by rw[qe8];rfl⟩;have J:x<out.length:=(by simp at h;omega);simp only[List.getElem_append_left J];exact C _ (vC J)
     .clear g c b o;rintro⟨j,L⟩ e H' ⟨aa,Vz,m,s,g,c,b,o,k9,rfl⟩;simp only at aa Vz m s k9;by_cases N:z<j
      .obtain⟨a,rfl⟩:∃a,j=a+1:=⟨j-1,wC⟩;have au:=qz (((a+1:Nat):Int)-1) (a:Int);have av:=qz ((a:Int)+1-1) (a:Int);have ai:=qz (a:Int) (a:Int);have ah:a<k:=wC;have aj:(a:Int)<(k:Int)+1:=wC;have ac:(z:Int)<(a:Int)+1:=wC;have ao:z<a+1:=N;have W:(0:Int)<=(a:Int)+1:=wC;have P:(a+1)*2<=n:=wC;have R:a<L.length:=wC;have am:a+1<L.length:=wC;have w:L.length*2=n+2:=wC;simp[g,c,b,o,k9,ai,ah,aj,R,am,w,ac,W,P];refine⟨a,wC,wC,wC,_,by simp[m],fun x h hx=>?_,rfl,rfl⟩;rw[List.getElem_set];split
       .exact s a R wC
       .exact s x wQ wC
      .simp[g,c,b,o,k9,N];exact⟨L,m,fun x h hx=>s x h wC,rfl⟩
     .clear g c b o;rintro O e H' ⟨rfl,L,m,s,g,c,b,o,rfl⟩;have I:z<L.length:=wC;have ag:(z:Int)<(k:Int)+1:=wC;have kB:z*2<=n:=wC;have w:L.length*2=n+2:=wC;simp[g,c,b,o,I,r,u,E,ag,kB,w];refine⟨i+1,wC,wC,L.set z l[i],by simp[m];omega,fun _=>by simp[m],fun p C=>?_,wE,.inr ⟨fun h=>?_,n+2,k+1,_,by simp[w],by simp[m],.inr (.inl ⟨rfl,rfl⟩)⟩⟩
      .obtain⟨x,hx,rfl⟩:=List.mem_iff_getElem.1 C;rw[List.getElem_set];split
       .exact B
       .exact s x wY wC
      .have:=congrArg List.length h;simp[m] at this
 .have u:=zw r;have ae:=M wC;rcases A with⟨rfl,rfl,rfl⟩|⟨qQ,n,k,t,hn,S,A⟩
  .simp at ae
  have Y4:¬(16:Int)<(k:Int):=wC
  have zS:List.take n (qt out)=qt out:=qH wG;have v:out.length=k:=S.symm;have y:k*2=n:=wC
  rcases A with⟨rfl,rfl⟩|⟨rfl,rfl⟩|⟨rfl,rfl⟩
  all_goals
   simp[g,c,b,u,Y4,zS,v,y];exact⟨out,wC,wC,C,by rw[v]⟩
theorem qoA(c:UInt8):(Jo c=true/\((65<=c.toNat/\c.toNat<=90)\/(¬(65<=c.toNat/\c.toNat<=90)/\48<=c.toNat/\c.toNat<=57)\/c.toNat=95))\/(Jo c=false/\¬(65<=c.toNat/\c.toNat<=90)/\¬(48<=c.toNat/\c.toNat<=57)/\c.toNat≠95):=by
 cases h:Jo c with
 |true=>
  simp[Jo] at h;exact .inl ⟨rfl,wC⟩
 |false=>
  simp[Jo] at h;exact .inr ⟨rfl,wC,wC,wC⟩
theorem q4s[MaxL][TxtC](s:List UInt8):call cx 264 [.str s] []=some (.bool (JC s),[]):=by
 refine qC Tryz.func264 rfl ⟨rfl,rfl⟩ ?_;cases s with
 |nil=>simp[Tryz.f264,JC]
 |cons c l=>
  have E:¬(l.length:Int)+1<1:=wC
  by_cases T:64<l.length+1
  .have h:(64:Int)<(l.length:Int)+1:=wC;have B:JC (c::l)=false:=(by simp[JC];omega);rw[B];simp[Tryz.f264,E,h]
  .have h:¬(64:Int)<(l.length:Int)+1:=wC;have R:(c::l).length<1000000:=by simp;omega
   have B:JC (c::l)=(!XT c&&(c::l).all Jo):=by
    simp only[JC];rw[decide_eq_true wG,YB]
   rw[B];by_cases M:48<=c.toNat/\c.toNat<=57
   .have Zu:(48:Int)<=(c.toNat:Int):=wC;have vk:(c.toNat:Int)<=57:=wC;have v:XT c=true:=(by simp[XT,M.1,M.2]);rw[v];simp[Tryz.f264,E,h,Zu,vk]
   .have v:XT c=false:=(by simp[XT];omega);rw[v];have u:(¬(48:Int)<=(c.toNat:Int))\/((48:Int)<=(c.toNat:Int)/\¬(c.toNat:Int)<=57):=wC;obtain⟨r,C⟩:=ql ((c::l).all Jo);rw[C];obtain⟨S,z⟩:∃S,S=c::l:=⟨_,rfl⟩;have F:(l.length:Int)+1=(S.length:Int):=(by rw[z];simp);rw[<-z] at C R;rcases u with H|⟨H,G⟩
    .have A:¬48<=c.toNat:=wC;simp[Tryz.f264,E,h,H];rw[F,<-z];clear z F B;refine Run.loopThen (fun(k:Nat) e H'=>k<=S.length/\(S.drop k).all Jo=r/\qi e 0=some (.str S)/\qi e 24=some (.int .i64 S.length)/\qi e 25=some (.int .i64 k)/\H'=[]) (fun k=>S.length-k) 0 ?_ ?_
     .simpa using C
     rintro k e H' ⟨O,d,j,a,b,rfl⟩;by_cases p:k<S.length
     .have g:=zq p;have y:=qz ((k:Int)+1) ((k+1:Nat):Int);have m:S[k]?=some S[k]:=qM p;rw[jo p,Va] at d;generalize S[k]=x at *;rcases qoA x with⟨hx,q|⟨q,K⟩|q⟩|⟨hx,q,K,N⟩
      .rw[hx,YB] at d;have f:(65:Int)<=(x.toNat:Int):=wC;have n:(x.toNat:Int)<=90:=wC;simp[j,a,b,g,m,y,f,n];exact⟨k+1,wC,wC,xB,wC⟩
      .rw[hx,YB] at d;have f:(48:Int)<=(x.toNat:Int):=wC;have n:(x.toNat:Int)<=57:=wC;have i:¬(65:Int)<=(x.toNat:Int):=wC;have o:¬65<=x.toNat:=wC;simp[j,a,b,g,m,y,f,n,i];exact⟨k+1,wC,wC,xB,wC⟩
      .rw[hx,YB] at d;have f:(x.toNat:Int)=95:=wC;simp[j,a,b,g,m,y,q];exact⟨k+1,wC,wC,xB,wC⟩
      .rw[hx,qdW] at d;subst d;have w:¬(x.toNat:Int)=95:=wC;by_cases Q:65<=x.toNat
       .have f:(65:Int)<=(x.toNat:Int):=wC;have n:¬(x.toNat:Int)<=90:=wC;have J:¬x.toNat<=90:=wC;have i:(48:Int)<=(x.toNat:Int):=wC;have I:48<=x.toNat:=wC;have o:¬(x.toNat:Int)<=57:=wC;have t:¬x.toNat<=57:=wC;simp[j,a,b,g,m,w,f,n,i,o]
       .have f:¬(65:Int)<=(x.toNat:Int):=wC;by_cases P:48<=x.toNat
        .have i:(48:Int)<=(x.toNat:Int):=wC;have o:¬(x.toNat:Int)<=57:=wC;have t:¬x.toNat<=57:=wC;simp[j,a,b,g,m,w,f,i,o]
        .have i:¬(48:Int)<=(x.toNat:Int):=wC;simp[j,a,b,g,m,w,f,i]
     .have g:=zw p;rw[Vn wC] at d;have:r=true:=d.symm;subst this;simp[j,a,b,g]
    .have A:48<=c.toNat:=wC;have L:¬c.toNat<=57:=wC;simp[Tryz.f264,E,h,H,G];rw[F,<-z];clear z F B;refine Run.loopThen (fun(k:Nat) e H'=>k<=S.length/\(S.drop k).all Jo=r/\qi e 0=some (.str S)/\qi e 24=some (.int .i64 S.length)/\qi e 25=some (.int .i64 k)/\H'=[]) (fun k=>S.length-k) 0 ?_ ?_
     .simpa using C
     rintro k e H' ⟨O,d,j,a,b,rfl⟩;by_cases p:k<S.length
     .have g:=zq p;have y:=qz ((k:Int)+1) ((k+1:Nat):Int);have m:S[k]?=some S[k]:=qM p;rw[jo p,Va] at d;generalize S[k]=x at *;rcases qoA x with⟨hx,q|⟨q,K⟩|q⟩|⟨hx,q,K,N⟩
      .rw[hx,YB] at d;have f:(65:Int)<=(x.toNat:Int):=wC;have n:(x.toNat:Int)<=90:=wC;simp[j,a,b,g,m,y,f,n];exact⟨k+1,wC,wC,xB,wC⟩
      .rw[hx,YB] at d;have f:(48:Int)<=(x.toNat:Int):=wC;have n:(x.toNat:Int)<=57:=wC;have i:¬(65:Int)<=(x.toNat:Int):=wC;have o:¬65<=x.toNat:=wC;simp[j,a,b,g,m,y,f,n,i];exact⟨k+1,wC,wC,xB,wC⟩
      .rw[hx,YB] at d;have f:(x.toNat:Int)=95:=wC;simp[j,a,b,g,m,y,q];exact⟨k+1,wC,wC,xB,wC⟩
      .rw[hx,qdW] at d;subst d;have w:¬(x.toNat:Int)=95:=wC;by_cases Q:65<=x.toNat
       .have f:(65:Int)<=(x.toNat:Int):=wC;have n:¬(x.toNat:Int)<=90:=wC;have J:¬x.toNat<=90:=wC;have i:(48:Int)<=(x.toNat:Int):=wC;have I:48<=x.toNat:=wC;have o:¬(x.toNat:Int)<=57:=wC;have t:¬x.toNat<=57:=wC;simp[j,a,b,g,m,w,f,n,i,o]
       .have f:¬(65:Int)<=(x.toNat:Int):=wC;by_cases P:48<=x.toNat
        .have i:(48:Int)<=(x.toNat:Int):=wC;have o:¬(x.toNat:Int)<=57:=wC;have t:¬x.toNat<=57:=wC;simp[j,a,b,g,m,w,f,i,o]
        .have i:¬(48:Int)<=(x.toNat:Int):=wC;simp[j,a,b,g,m,w,f,i]
     .have g:=zw p;rw[Vn wC] at d;have:r=true:=d.symm;subst this;simp[j,a,b,g]
theorem qtb(c:UInt8):∀(l:List UInt8)(n:Nat),QG c l n=if(l.takeWhile fun x=>x !=c).length<l.length then((n+(l.takeWhile fun x=>x !=c).length:Nat):Int) else-1
 |[],n=>by simp[QG]
 |b::l,n=>by
  unfold QG;by_cases h:b=c
  .subst h;simp
  .have d:(b !=c)=true:=xM;rw[if_neg h,qtb c l (n+1),List.takeWhile_cons,d,if_pos rfl,jJ,jJ];by_cases a:(l.takeWhile fun x=>x !=c).length<l.length
   .rw[if_pos a,if_pos wC];omega
   .rw[if_neg a,if_neg wC]
theorem q65[MaxL][TxtC](s:Sl UInt8)(c:Nat):call cx 285 [(.vsl s.nil (qf s.l) s.l.length),.int .u8 c] []=some (.int .i64 (QG (UInt8.ofNat c) s.l 0),[]):=by
 have a:call cx 292 [(.vsl s.nil (qf s.l) s.l.length),.int .u8 c] []=some (.int .i64 (QG (UInt8.ofNat c) s.l 0),[]):=by
  rw[qiC (X:=cx) (f:=292) rfl Tryz.func292 rfl,qus,q3p s.nil s.l s.h c];rfl
 refine qC Tryz.func285 rfl ⟨rfl,rfl⟩ ?_;simp[Tryz.f285,a]
theorem qxy(l:List UInt8):l.take (QB l).length=QB l:=(List.prefix_iff_eq_take.1 (List.takeWhile_prefix _)).symm
theorem q67[MaxL][TxtC](s:Sl UInt8)(m:s.l.length<=1000000):call cx 263 [(.vsl s.nil (qf s.l) s.l.length),.vsl false [.int .u8 61] 1] []=some (.tup (if(QB s.l).length<s.l.length then[.vsl s.nil (qf (QB s.l)) (QB s.l).length,.vsl s.nil (qf (qa7 s.l)) (qa7 s.l).length,.bool true] else[(.vsl s.nil (qf s.l) s.l.length),.vsl true [] 0,.bool false]),[]):=by
 have b:=q65 s 61
 have d:QG (UInt8.ofNat 61) s.l 0=if(QB s.l).length<s.l.length then((QB s.l).length:Int) else-1:=by
  rw[qtb,J3];rfl
 rw[d] at b
 have hi:call cx 277 [(.vsl s.nil (qf s.l) s.l.length),.vsl false [.int .u8 61] 1] []=some (.int .i64 (if(QB s.l).length<s.l.length then((QB s.l).length:Int) else-1),[]):=by
  generalize (if(QB s.l).length<s.l.length then((QB s.l).length:Int) else-1)=r at *;refine qC Tryz.func277 rfl ⟨rfl,rfl⟩ ?_;have g:call cx 285 [(.vsl s.nil (qf s.l) s.l.length),.int .u8 61] []=some (.int .i64 r,[]):=b;simp[Tryz.f277,g]
 refine qC Tryz.func263 rfl ⟨rfl,rfl⟩ ?_;by_cases h:(QB s.l).length<s.l.length
 .rw[if_pos h] at hi⊢;unfold qa7;have a:=qxy s.l;obtain⟨k,j⟩:=ql ((QB s.l).length);rw[j] at hi h a⊢;have c:=qz ((k:Int)+1) ((k:Int)+1);have f:(0:Int)<=(k:Int)/\(k:Int)<=(s.l.length:Int)/\(0:Int)<=(k:Int)+1/\(k:Int)+1<=(s.l.length:Int):=by omega
  have e:((k:Int)+1).toNat=k+1:=wC
  have i:List.take k (qf s.l)=qf (QB s.l):=by rw[qep,a]
  have e2:List.drop (k+1) (qf s.l)=qf (s.l.drop (k+1)):=qcW _ _;simp[Tryz.f263,hi,c,f,e,i,e2]
 .rw[if_neg h] at hi⊢;simp[Tryz.f263,hi]
def qhk(p:List UInt8):D:=if Vo p=0 then .agg [.str (QB p),.str (qa7 p)] else .agg [.str [],.str []]
theorem q4h[MaxL][TxtC](s:Sl UInt8)(i:s.l.length<=1000000):call cx 231 [(.vsl s.nil (qf s.l) s.l.length)] []=some (.tup [qhk s.l,.int .i64 (Vo s.l:Nat)],[]):=by
 have hc:=q67 s i;have b:=q4s (QB s.l);refine qC Tryz.func231 rfl ⟨rfl,rfl⟩ ?_;unfold qhk;by_cases h:(QB s.l).length<s.l.length
 .rw[if_pos h] at hc;by_cases d:JC (QB s.l)=true
  .rw[d] at b;by_cases g:256<(qa7 s.l).length
   .have e:(256:Int)<((qa7 s.l).length:Int):=wC;have a:Vo s.l=21:=(by unfold Vo;rw[if_pos ⟨h,d⟩,if_pos g]);rw[a];simp[Tryz.f231,hc,b,e]
   .have e:¬(256:Int)<((qa7 s.l).length:Int):=wC;have a:Vo s.l=0:=(by unfold Vo;rw[if_pos ⟨h,d⟩,if_neg g]);rw[a];simp[Tryz.f231,hc,b,e]
  .have a:Vo s.l=20:=(by unfold Vo;rw[if_neg (fun c=>d c.2)]);rw[a];have f:JC (QB s.l)=false:=(by cases c:JC (QB s.l)<;>simp_all);rw[f] at b;simp[Tryz.f231,hc,b]
 .rw[if_neg h] at hc;have a:Vo s.l=20:=by unfold Vo;rw[if_neg (fun c=>h c.1)]
  rw[a];simp[Tryz.f231,hc]
theorem qhL:∀(l:List UInt8)(k:Nat),leN (l++List.replicate k 0)=leN l
 |[],0=>rfl
 |[],k+1=>by
  have h:=qhL [] k;simp only[QW] at h⊢;rw[qdT,leN.eq_2];rw[h];rfl
 |c::l,k=>by rw[Qc,leN,leN,qhL l k]
theorem qwx(l:List UInt8)(k a:Nat):vh (l++List.replicate k 0) a=vh l a:=by
 unfold vh;rw[jd,Zk,List.drop_replicate,List.take_replicate,qhL]
theorem q7d(l:List UInt8)(k:Nat)(t:Int×Int×Int):JW (l++List.replicate k 0) t=JW l t:=by
 obtain⟨x,y,z⟩:=t;simp only[JW,qwx]
theorem Xx[MaxL][TxtC]{x r:Int}{k:Nat}(i:k<32)(e:zA x k=r){kk:Int}(f:kk=k):call cx 207 [.int .u32 x,.int .u64 kk] []=some (.int .u32 r,[]):=by
 rw[f,<-e];have a:=zf (32-(k:Int)) ((32-k:Nat):Int);have h:min k 32=k:=wC
 have d:¬(k:Int)<0:=wC
 refine qC Tryz.func207 rfl ⟨rfl,rfl⟩ ?_;unfold zA;obtain⟨j,c⟩:∃j,j=32-k:=⟨_,rfl⟩;rw[<-c] at a⊢;have b:min j 32=j:=wC
 have g:¬(j:Int)<0:=wC
 simp[Tryz.f207,a,IntKind.bits,h,b,d,g]
theorem bits32:2^IntKind.u32.bits=4294967296:=by simp only[IntKind.bits]
theorem qww(x y:Nat)(a:y<256)(hx:x*256+y<4294967296):Vs .u32 ((x:Int)*256) (y:Int)=((x*256+y:Nat):Int):=by
 have d:x*256<2^IntKind.u32.bits:=Nat.lt_of_lt_of_eq (Nat.lt_of_le_of_lt (Nat.le_add_right _ _) hx) bits32.symm;have b:y<2^IntKind.u32.bits:=Nat.lt_of_lt_of_eq (vd a wH) bits32.symm;have c:(x:Int)*256=((x*256:Nat):Int):=wC
 rw[c,qjU rfl d b,qoh x y a]
theorem qcD[MaxL][TxtC](b:Bool)(l:List UInt8)(z:b=true->l=[])(a:Nat)(K:a<5611686018427387904)(_:l.length<4611686018427387904){at_:Int}(n:at_=a):call cx 206 [.vsl b (qf l) l.length,.int .i64 at_] []=some (.int .u32 (vh l a:Nat),[]):=by
 subst n;refine qC Tryz.func206 rfl ⟨rfl,rfl⟩ ?_;simp[Tryz.f206];refine Run.loopThen (fun(k:Nat) e H=>k<=4/\H=[]/\qi e 0=some (.vsl b (qf l) l.length)/\qi e 1=some (.int .i64 a)/\qi e 5=some (.int .u32 (leN ((l.drop (a+k)).take (4-k)):Nat))/\qi e 6=some (.int .i64 ((k:Int)-1))) (fun k=>k) 4 (by simp[leN]) ?_;rintro k e H ⟨J,rfl,i,s,g,h⟩;cases k with
 |zero=>
  simp[i,s,g,h];rfl
 |succ j=>
  have x:(0:Int)<=(j:Int):=wC
  have B:((j+1:Nat):Int)-1=(j:Int):=wC
  rw[B] at h;have w:=qz ((j:Int)-1) ((j:Int)-1);have c:=qz ((a:Int)+(j:Int)) ((a+j:Nat):Int);have d:(2:Int)^min 8 IntKind.u32.bits=256:=wH
  have m:leN ((l.drop (a+(j+1))).take (4-(j+1)))<256^3:=by
   refine vd (qfl _) (qfI wH ?_);rw[jc];omega
  obtain⟨v,q⟩:=ql (leN ((l.drop (a+(j+1))).take (4-(j+1))));rw[q] at g m;have r:=qdX ((v:Int)*256) ((v:Int)*256);by_cases f:a+j<l.length
  .have A:((a+j:Nat):Int)<(l.length:Int):=by omega
   have C:b=false:=by
    cases E:b with
    |false=>rfl
    |true=>rw[z E] at f;simp at f
   have I:(l.drop (a+j)).take (4-j)=l[a+j]::(l.drop (a+(j+1))).take (4-(j+1)):=by
    rw[jo f,show 4-j=(4-(j+1))+1 from wC,List.take_succ_cons,qiQ]
   have G:=l[a+j].toNat_lt;have o:=qww v l[a+j].toNat G wC;have t:=qdX (l[a+j].toNat:Int) (l[a+j].toNat:Int);have y:(0:Int)<=(a:Int)+(j:Int):=wC;have p:(a:Int)+(j:Int)<(l.length:Int):=wC;have F:((a:Int)+(j:Int)).toNat=a+j:=wC;have n:=ke f;simp[i,s,g,h,x,c,w,t,C,y,p,F,n,d,r,o];exact⟨j,wC,wC,by rw[I,leN,q];omega,rfl⟩
  .have A:¬((a+j:Nat):Int)<(l.length:Int):=wC;have p:¬(a:Int)+(j:Int)<(l.length:Int):=by omega
   have u:v=0:=by
    rw[<-q,Vn wC];simp[leN]
   subst u;simp[i,s,g,h,x,c,w,p,d];exact⟨j,wC,wC,by rw[Vn wC];simp[leN],rfl⟩
theorem qmk(l:List UInt8)(a k:Nat):vh (l.drop a) k=vh l (a+k):=by
 unfold vh;rw[kz]
theorem qnx[MaxL][TxtC](s:Sl UInt8)(Y:s.l.length<4611686018427387904):call cx 164 [(.vsl s.nil (qf s.l) s.l.length)] []=some (.int .u64 (YR s.l),[]):=by
 refine qC Tryz.func164 rfl ⟨rfl,rfl⟩ ?_;have hN:YR s.l=KM s.l (vo 3735928559 (IntKind.u32.wrap (s.l.length:Nat)),vo 3735928559 (IntKind.u32.wrap (s.l.length:Nat)),vo 3735928559 (IntKind.u32.wrap (s.l.length:Nat))):=rfl;obtain⟨n,o⟩:=ql (IntKind.u32.wrap (3735928559+IntKind.u32.wrap (s.l.length:Nat)));have jQ:vo 3735928559 (IntKind.u32.wrap (s.l.length:Nat))=n:=o;rw[jQ] at hN;clear jQ;have r:(2:Int)^min 32 IntKind.u64.bits=4294967296:=wH
 generalize YR s.l=ai at *;by_cases h0:s.l.length=0
 .have zl:(s.l.length:Int)=0:=by omega
  rw[qkx h0] at hN;subst hN;rw[h0] at o;replace o:IntKind.u32.wrap (3735928559+IntKind.u32.wrap (0:Int))=n:=o;have kM:n=3735928559:=by rw[<-o];decide
  subst kM;simp[Tryz.f164,h0,qbF,r]
 have zl:¬(s.l.length:Int)=0:=wC
 simp[Tryz.f164,o,h0];refine Run.loopThen (fun(q:Nat×Int×Int×Int) e H'=>q.1<s.l.length/\KM (s.l.drop q.1) q.2=ai/\qi e 0=some (.vsl s.nil (qf s.l) s.l.length)/\qi e 3=some (.int .u32 q.2.1)/\qi e 4=some (.int .u32 q.2.2.1)/\qi e 5=some (.int .u32 q.2.2.2)/\qi e 6=some (.int .i64 q.1)/\H'=[]) (fun q=>s.l.length-q.1) (0,n,n,n) ?_ ?_
 .simp[hN];omega
 rintro⟨at_,x,y,z⟩ e H' ⟨qR,J,k0,k3,k4,k5,k6,rfl⟩;simp only at qR J k3 k4 k5 k6;have t:=qz ((s.l.length:Int)-(at_:Int)) ((s.l.length-at_:Nat):Int);have jv:(s.l.drop at_).length=s.l.length-at_:=vg
 by_cases vL:12<s.l.length-at_
 .have m:(12:Int)<((s.l.length-at_:Nat):Int):=by omega
  rw[qky wC,kz] at J;have w0:=qcD s.nil s.l s.h (at_+0) wC Y (at_:=(at_:Int)) wC;obtain⟨u,H⟩:=ql (vo x (vh s.l (at_+0):Nat));have w4:=qcD s.nil s.l s.h (at_+4) wC Y (at_:=(at_:Int)+4) wC;obtain⟨d,C⟩:=ql (vo y (vh s.l (at_+4):Nat));have w8:=qcD s.nil s.l s.h (at_+8) wC Y (at_:=(at_:Int)+8) wC;obtain⟨k,M⟩:=ql (vo z (vh s.l (at_+8):Nat));have ha:JW (s.l.drop at_) (x,y,z)=(u,d,k):=by simp only[JW,qmk,H,C,M]
  have c0:IntKind.u32.wrap (x+(vh s.l (at_+0):Nat))=u:=H;generalize vh s.l (at_+0)=u0 at *;have c4:IntKind.u32.wrap (y+(vh s.l (at_+4):Nat))=d:=C;generalize vh s.l (at_+4)=u4 at *;have c8:IntKind.u32.wrap (z+(vh s.l (at_+8):Nat))=k:=M;generalize vh s.l (at_+8)=u8 at *;clear H C M;have i4:=qz ((at_:Int)+4) ((at_:Int)+4);have i8:=qz ((at_:Int)+8) ((at_:Int)+8);rw[ha] at J;obtain⟨E,V⟩:=ql (ji u k);have e0:IntKind.u32.wrap (u-k)=E:=V;obtain⟨r0,Q⟩:=ql (zA k 4);have e1:=Xx wC Q (kk:=4) rfl;obtain⟨b,W⟩:=ql (qK .u32 E r0);have h2:qK .u32 E (zA k 4)=b:=by rw[Q];exact W
  obtain⟨i,h3⟩:=ql (vo k d);have e2:IntKind.u32.wrap (k+d)=i:=h3;obtain⟨S,X⟩:=ql (ji d b);have e3:IntKind.u32.wrap (d-b)=S:=X;obtain⟨r1,L⟩:=ql (zA b 6);have e4:=Xx wC L (kk:=6) rfl;obtain⟨a,T⟩:=ql (qK .u32 S r1);have h5:qK .u32 S (zA b 6)=a:=by rw[L];exact T
  obtain⟨f,h6⟩:=ql (vo b i);have e5:IntKind.u32.wrap (b+i)=f:=h6;obtain⟨A,Z⟩:=ql (ji i a);have e6:IntKind.u32.wrap (i-a)=A:=Z;obtain⟨r2,v⟩:=ql (zA a 8);have e7:=Xx wC v (kk:=8) rfl;obtain⟨c,f2⟩:=ql (qK .u32 A r2);have h8:qK .u32 A (zA a 8)=c:=by rw[v];exact f2
  obtain⟨g,h9⟩:=ql (vo a f);have e8:IntKind.u32.wrap (a+f)=g:=h9;obtain⟨N,g1⟩:=ql (ji f c);have e9:IntKind.u32.wrap (f-c)=N:=g1;obtain⟨r3,F⟩:=ql (zA c 16);have ah:=Xx wC F (kk:=16) rfl;obtain⟨O,f3⟩:=ql (qK .u32 N r3);have g2:qK .u32 N (zA c 16)=O:=by rw[F];exact f3
  obtain⟨p,g3⟩:=ql (vo c g);have G:IntKind.u32.wrap (c+g)=p:=g3;obtain⟨I,g4⟩:=ql (ji g O);have am:IntKind.u32.wrap (g-O)=I:=g4;obtain⟨r4,w⟩:=ql (zA O 19);have P:=Xx wC w (kk:=19) rfl;obtain⟨R,f4⟩:=ql (qK .u32 I r4);have g5:qK .u32 I (zA O 19)=R:=by rw[w];exact f4
  obtain⟨x4,g6⟩:=ql (vo O p);have aa:IntKind.u32.wrap (O+p)=x4:=g6;obtain⟨K,g7⟩:=ql (ji p R);have ae:IntKind.u32.wrap (p-R)=K:=g7;obtain⟨r5,B⟩:=ql (zA R 4);have ak:=Xx wC B (kk:=4) rfl;obtain⟨z4,U⟩:=ql (qK .u32 K r5);have g8:qK .u32 K (zA R 4)=z4:=by rw[B];exact U
  obtain⟨y4,g9⟩:=ql (vo R x4);have aj:IntKind.u32.wrap (R+x4)=y4:=g9;have hm:=qoJ V h2 h3 X h5 h6 Z h8 h9 g1 g2 g3 g4 g5 g6 g7 g8 g9;rw[hm] at J;clear g9 g8 g7 g6 g5 g4 g3 g2 g1 h9 h8 Z h6 h5 X h3 h2 V hm Q L v F w B;have ag:=qz ((at_:Int)+12) ((at_+12:Nat):Int);clear ha hN;generalize ac:s.l.length-at_=j at *
  simp[k0,k3,k4,k5,k6,t,m,ag,w0,w4,w8,c0,c4,c8,i4,i8,e0,e1,W,e2,e3,e4,T,e5,e6,e7,f2,e8,e9,ah,f3,G,am,P,f4,aa,ae,ak,U,aj];exact⟨at_+12,wC,wC,_,_,_,J,wC,rfl,rfl,wC⟩
 .have m:¬(12:Int)<((s.l.length-at_:Nat):Int):=by omega
  have w0:=qcD s.nil s.l s.h (at_+0) wC Y (at_:=(at_:Int)) wC;obtain⟨u,H⟩:=ql (vo x (vh s.l (at_+0):Nat));have w4:=qcD s.nil s.l s.h (at_+4) wC Y (at_:=(at_:Int)+4) wC;obtain⟨d,C⟩:=ql (vo y (vh s.l (at_+4):Nat));have w8:=qcD s.nil s.l s.h (at_+8) wC Y (at_:=(at_:Int)+8) wC;obtain⟨k,M⟩:=ql (vo z (vh s.l (at_+8):Nat));have ha:JW (s.l.drop at_) (x,y,z)=(u,d,k):=by simp only[JW,qmk,H,C,M]
  have c0:IntKind.u32.wrap (x+(vh s.l (at_+0):Nat))=u:=H;generalize vh s.l (at_+0)=u0 at *;have c4:IntKind.u32.wrap (y+(vh s.l (at_+4):Nat))=d:=C;generalize vh s.l (at_+4)=u4 at *;have c8:IntKind.u32.wrap (z+(vh s.l (at_+8):Nat))=k:=M;generalize vh s.l (at_+8)=u8 at *;clear H C M;have i4:=qz ((at_:Int)+4) ((at_:Int)+4);have i8:=qz ((at_:Int)+8) ((at_:Int)+8);obtain⟨E,V⟩:=ql (qK .u32 k d);obtain⟨r0,Q⟩:=ql (zA d 14);have e1:=Xx wC Q (kk:=14) rfl;obtain⟨i,W⟩:=ql (ji E r0);have d0:IntKind.u32.wrap (E-r0)=i:=W;have h2:ji E (zA d 14)=i:=by rw[Q];exact W
  obtain⟨S,h3⟩:=ql (qK .u32 u i);obtain⟨r1,L⟩:=ql (zA i 11);have e3:=Xx wC L (kk:=11) rfl;obtain⟨b,T⟩:=ql (ji S r1);have d1:IntKind.u32.wrap (S-r1)=b:=T;have X:ji S (zA i 11)=b:=by rw[L];exact T
  obtain⟨A,h5⟩:=ql (qK .u32 d b);obtain⟨r2,v⟩:=ql (zA b 25);have e5:=Xx wC v (kk:=25) rfl;obtain⟨a,f2⟩:=ql (ji A r2);have d2:IntKind.u32.wrap (A-r2)=a:=f2;have h6:ji A (zA b 25)=a:=by rw[v];exact f2
  obtain⟨N,Z⟩:=ql (qK .u32 i a);obtain⟨r3,F⟩:=ql (zA a 16);have e7:=Xx wC F (kk:=16) rfl;obtain⟨c,f3⟩:=ql (ji N r3);have d3:IntKind.u32.wrap (N-r3)=c:=f3;have h8:ji N (zA a 16)=c:=by rw[F];exact f3
  obtain⟨I,g1⟩:=ql (qK .u32 b c);obtain⟨r4,w⟩:=ql (zA c 4);have e9:=Xx wC w (kk:=4) rfl;obtain⟨f,f4⟩:=ql (ji I r4);have d4:IntKind.u32.wrap (I-r4)=f:=f4;have g2:ji I (zA c 4)=f:=by rw[w];exact f4
  obtain⟨K,g3⟩:=ql (qK .u32 a f);obtain⟨r5,B⟩:=ql (zA f 14);have G:=Xx wC B (kk:=14) rfl;obtain⟨g,U⟩:=ql (ji K r5);have d5:IntKind.u32.wrap (K-r5)=g:=U;have g4:ji K (zA f 14)=g:=by rw[B];exact U
  obtain⟨a7,g5⟩:=ql (qK .u32 c g);obtain⟨r6,q6⟩:=ql (zA g 24);have P:=Xx wC q6 (kk:=24) rfl;obtain⟨p,f6⟩:=ql (ji a7 r6);have d6:IntKind.u32.wrap (a7-r6)=p:=f6;have g6:ji a7 (zA g 24)=p:=by rw[q6];exact f6
  have o:=quj V h2 h3 X h5 h6 Z h8 g1 g2 g3 g4 g5 g6;clear g6 g4 g2 h8 h6 X h2 W Q T L f2 v f3 F f4 w U B f6 q6;rw[qkz wC wC (x:=f) (y:=g) (z:=p) (by rw[ha];exact o)] at J;subst J;clear ha o;generalize ac:s.l.length-at_=j at *
  simp[k0,k3,k4,k5,k6,t,m,qbF,r,w0,w4,w8,c0,c4,c8,i4,i8,V,e1,d0,h3,e3,d1,h5,e5,d2,Z,e7,d3,g1,e9,d4,g3,G,d5,g5,P,d6]
theorem qwB[MaxL][TxtC](x:Int)(k:Nat)(g:k<64):call cx 249 [.int .u64 x,.int .u64 k] []=some (.int .u64 (kJ x k),[]):=by
 have a:=zf (64-(k:Int)) ((64-k:Nat):Int);have f:min k 64=k:=wC
 have d:¬(k:Int)<0:=wC
 refine qC Tryz.func249 rfl ⟨rfl,rfl⟩ ?_;unfold kJ;obtain⟨j,c⟩:∃j,j=64-k:=⟨_,rfl⟩;rw[<-c] at a⊢;have b:min j 64=j:=wC
 have e:¬(j:Int)<0:=wC
 simp[Tryz.f249,a,IntKind.bits,f,b,d,e]
theorem qeP[MaxL][TxtC]{x r:Int}{k:Nat}(b:k<64)(e:kJ x k=r){kk:Int}(a:kk=k):call cx 249 [.int .u64 x,.int .u64 kk] []=some (.int .u64 r,[]):=by
 rw[a,<-e];exact qwB x k b
def q4D:Q4->List D
 |(p,q,r,s)=>[.int .u64 p,.int .u64 q,.int .u64 r,.int .u64 s]
theorem qy3[MaxL][TxtC](t:Q4)(n:Nat)(hn:n<=100):call cx 205 [.agg (q4D t),.int .i64 n] []=some (.agg (q4D (VO n t)),[]):=by
 obtain⟨R,x⟩:=ql (VO n t);rw[x];obtain⟨p0,q0,V,W⟩:=t;refine qC Tryz.func205 rfl ⟨rfl,rfl⟩ ?_;simp[Tryz.f205,q4D];refine Run.loopThen (fun(k:Nat) e H'=>k<=n/\∃p q r s:Int,VO (n-k) (p,q,r,s)=R/\qi e 1=some (.int .i64 n)/\qi e 9=some (.int .i64 k)/\qi e 5=some (.int .u64 p)/\qi e 6=some (.int .u64 q)/\qi e 7=some (.int .u64 r)/\qi e 8=some (.int .u64 s)/\qi e 4=some (.optr 1 4 0)/\∃Z,H'=[Z,some (VF [])]) (fun k=>n-k) 0 ?_ ?_
 .exact⟨wC,p0,q0,V,W,by simpa using x,wE,wE,wE,wE,wE,wE,wE,_,rfl⟩
 rintro k e H ⟨hk,p,q,r,s,a,O,v,u,K,M,w,o,Z,rfl⟩;by_cases A:k<n
 .have b:=zq A;have hw:=qz ((k:Int)+1) ((k+1:Nat):Int);rw[show n-k=(n-(k+1))+1 from wC,VO] at a;obtain⟨F,i⟩:=ql (JX p q);obtain⟨c,G⟩:=ql (kJ q 13);obtain⟨C,m⟩:=ql (qK .u64 c F);obtain⟨p2,E⟩:=ql (kJ F 32);obtain⟨P,d⟩:=ql (JX r s);obtain⟨h,J⟩:=ql (kJ s 16);obtain⟨y,B⟩:=ql (qK .u64 h P);obtain⟨N,g⟩:=ql (JX p2 y);obtain⟨s2,j⟩:=ql (kJ y 21);obtain⟨s3,l⟩:=ql (qK .u64 s2 N);obtain⟨Q,f⟩:=ql (JX P C);obtain⟨X,L⟩:=ql (kJ C 17);obtain⟨q3,z⟩:=ql (qK .u64 X Q);obtain⟨Y,I⟩:=ql (kJ Q 32);rw[qnw i G m E d J B g j l f L z I] at a;have T:=qeP (k:=13) wH G (kk:=13) rfl;have U:=qeP (k:=32) wH E (kk:=32) rfl;have S:=qeP (k:=16) wH J (kk:=16) rfl;have u9:=qeP (k:=21) wH j (kk:=21) rfl;have v3:=qeP (k:=17) wH L (kk:=17) rfl;have v5:=qeP (k:=32) wH I (kk:=32) rfl;unfold JX at i d g f;simp[O,v,u,K,M,w,o,b,hw,i,T,m,U,d,S,B,g,u9,l,f,v3,z,v5];exact⟨k+1,wC,wC,N,q3,Y,s3,a,wC,rfl,rfl,rfl,rfl⟩
 .have b:=zw A;rw[show n-k=0 from wC,VO] at a;subst a;simp[O,v,u,K,M,w,o,b]
theorem qzD(x y:Nat)(h:y<4294967296):y|||(x*4294967296)=x*4294967296+y:=by
 have:=Nat.shiftLeft_add_eq_or_of_lt (b:=y) (i:=32) wQ x;rw[Nat.shiftLeft_eq] at this;rw[Nat.or_comm];simpa using this.symm
theorem q5i(_:List UInt8)(_:Nat)(u v:Nat)(b:u<4294967296)(c:v<4294967296):Vs .u64 (u:Nat) (IntKind.u64.wrap ((v:Int)*4294967296))=((v*4294967296+u:Nat):Int):=by
 have a:=zf ((v:Int)*4294967296) ((v*4294967296:Nat):Int);rw[a,qjU rfl (Nat.lt_of_lt_of_eq wC bits64.symm) (Nat.lt_of_lt_of_eq wC bits64.symm),qzD v u b]
theorem q1h(l:List UInt8)(a:Nat):leN ((l.drop a).take 8)=vh l (a+4)*4294967296+vh l a:=by
 unfold vh;rw[show(8:Nat)=4+4 by rfl,List.take_add,qhM,kz];by_cases h:4<=(l.drop a).length
 .have:((l.drop a).take 4).length=4:=by rw[jc];omega
  rw[this];omega
 .have:(l.drop (a+4)).take 4=[]:=by
   rw[List.drop_of_length_le (by rw[vg] at h;omega)];rfl
  rw[this];simp[leN]
theorem qlv[MaxL][TxtC](s:Sl UInt8)(a:Nat)(m:a<1000000000)(k:s.l.length<1000000000){x:Int}(hx:x=a):call cx 204 [(.vsl s.nil (qf s.l) s.l.length),.int .i64 x] []=some (.int .u64 (leN ((s.l.drop a).take 8):Nat),[]):=by
 subst hx;have c:=qcD s.nil s.l s.h a wC wC (at_:=a) rfl;have g:=qcD s.nil s.l s.h (a+4) wC wC (at_:=(a:Int)+4) wC;have b:=qz ((a:Int)+4) ((a:Int)+4);have e:=q5i s.l a _ _ (qea s.l a) (qea s.l (a+4));have f:=qea s.l a;have d:=qea s.l (a+4);rw[q1h];generalize vh s.l a=u at *;generalize vh s.l (a+4)=v at *;refine qC Tryz.func204 rfl ⟨rfl,rfl⟩ ?_;simp[Tryz.f204,c,g,b];have i:=zf (u:Int) (u:Int);have e2:=zf (v:Int) (v:Int);have j:min 32 IntKind.u64.bits=32:=rfl;rw[i,e2,j];simpa using e
theorem qff[MaxL][TxtC]{x r:Int}{k:Nat}(n:k<64)(e:kJ x k=r){kk:Int}(i:kk=k):call cx 296 [.int .u64 x,.int .i64 kk] []=some (.int .u64 r,[]):=by
 rw[i,<-e];have c:=zf (k:Int) (k:Int)
 have a:Y7 .u64 (k:Int) 63=(k:Int):=by
  have g:∀j:Nat,j<64->Y7 .u64 (j:Int) 63=(j:Int):=wH
  exact g k n
 have b:=zf (64-(k:Int)) ((64-k:Nat):Int);have m:min k 64=k:=wC
 have h:¬(k:Int)<0:=wC
 refine qC Tryz.func296 rfl ⟨rfl,rfl⟩ ?_;unfold kJ;obtain⟨j,f⟩:∃j,j=64-k:=⟨_,rfl⟩;rw[<-f] at b⊢;have d:min j 64=j:=wC
 have l:¬(j:Int)<0:=wC
 simp[Tryz.f296,c,a,b,IntKind.bits,m,d,h,l]
abbrev vz(a b c d:Int)(n:Nat)(r:D):List D:=[.int .u64 a,.int .u64 b,.int .u64 c,.int .u64 d,.int .i64 n,r]
theorem qnQ[MaxL][TxtC]{H:qe}{q:Nat}{a b c d:Int}{n:Nat}{r:D}(j:qd H q=some (vz a b c d n r))(m:Nat)(hm:m<=100){C z E t:Int}(hR:VO m (a,b,c,d)=(C,z,E,t)){x:Int}(hx:x=m):
  call cx 295 [.optr q 6 0,.int .i64 x] H=some (.tup [],qn H q (vz C z E t n r)):=by
 subst hx;refine j6 Tryz.func295 rfl ⟨rfl,rfl⟩ ?_;simp only[vz] at j⊢;simp[-qd,-qn,Tryz.f295,j];refine Run.loopThen (fun(k:Nat) e H'=>H'=H/\k<=m/\∃p q' g s:Int,VO (m-k) (p,q',g,s)=(C,z,E,t)/\qi e 0=some (.optr q 6 0)/\qi e 24=some (.int .i64 m)/\qi e 25=some (.int .i64 k)/\qi e 4=some (.int .u64 p)/\qi e 5=some (.int .u64 q')/\qi e 6=some (.int .u64 g)/\qi e 7=some (.int .u64 s)) (fun k=>m-k) 0 ?_ ?_
 .exact⟨rfl,wC,a,b,c,d,by simpa using hR,wE,wE,wE,wE,wE,wE,wE⟩
 rintro k e K ⟨rfl,hk,p,q',g,s,f,k0,h,i,M,N,Z,k7⟩;by_cases Q:k<m
 .have l:=zq Q;have hw:=qz ((k:Int)+1) ((k+1:Nat):Int);rw[show m-k=(m-(k+1))+1 from wC,VO] at f;obtain⟨U,F⟩:=ql (JX p q');obtain⟨o,W⟩:=ql (kJ q' 13);obtain⟨S,L⟩:=ql (qK .u64 o U);obtain⟨p2,T⟩:=ql (kJ U 32);obtain⟨r1,u⟩:=ql (JX g s);obtain⟨G,Y⟩:=ql (kJ s 16);obtain⟨O,R⟩:=ql (qK .u64 G r1);obtain⟨p3,y⟩:=ql (JX p2 O);obtain⟨s2,I⟩:=ql (kJ O 21);obtain⟨s3,J⟩:=ql (qK .u64 s2 p3);obtain⟨r2,v⟩:=ql (JX r1 S);obtain⟨q2,g3⟩:=ql (kJ S 17);obtain⟨q3,P⟩:=ql (qK .u64 q2 r2);obtain⟨r3,X⟩:=ql (kJ r2 32);rw[qnw F W L T u Y R y I J v g3 P X] at f;have u2:=qff (k:=13) wH W (kk:=13) rfl;have u4:=qff (k:=32) wH T (kk:=32) rfl;have u6:=qff (k:=16) wH Y (kk:=16) rfl;have u9:=qff (k:=21) wH I (kk:=21) rfl;have v3:=qff (k:=17) wH g3 (kk:=17) rfl;have v5:=qff (k:=32) wH X (kk:=32) rfl;unfold JX at F u y v;simp[-qd,-qn,k0,h,i,M,N,Z,k7,l,hw,F,u2,L,u4,u,u6,R,y,u9,J,v,v3,P,v5];exact⟨k+1,wC,wC,p3,q3,r3,s3,f,wC,rfl,rfl,rfl,rfl⟩
 .have l:=zw Q;rw[show m-k=0 from wC,VO] at f;obtain⟨e1,f⟩:=Prod.mk.inj f;obtain⟨e2,f⟩:=Prod.mk.inj f;obtain⟨e3,e4⟩:=Prod.mk.inj f;subst e1;subst e2;subst e3;subst e4;obtain⟨H1,A⟩:=ql (qn K q [.int .u64 p,.int .u64 b,.int .u64 c,.int .u64 d,.int .i64 n,r]);have V:qd H1 q=some [.int .u64 p,.int .u64 b,.int .u64 c,.int .u64 d,.int .i64 n,r]:=by rw[<-A];exact zj (qx j)
  obtain⟨H2,B⟩:=ql (qn H1 q [.int .u64 p,.int .u64 q',.int .u64 c,.int .u64 d,.int .i64 n,r]);have y2:qd H2 q=some [.int .u64 p,.int .u64 q',.int .u64 c,.int .u64 d,.int .i64 n,r]:=by rw[<-B];exact zj (qx V)
  obtain⟨H3,w⟩:=ql (qn H2 q [.int .u64 p,.int .u64 q',.int .u64 g,.int .u64 d,.int .i64 n,r]);have y3:=vV w y2
  have x4:qn K q [.int .u64 p,.int .u64 q',.int .u64 g,.int .u64 s,.int .i64 n,r]=qn H3 q [.int .u64 p,.int .u64 q',.int .u64 g,.int .u64 s,.int .i64 n,r]:=by
   rw[<-w,<-B,<-A];unfold qn;simp only[List.set_set]
  rw[x4];simp[-qd,-qn,k0,h,i,M,N,Z,k7,l,j,A,V,B,y2,w,y3]
theorem qnG[MaxL][TxtC]{H:qe}{q:Nat}{a b c d:Int}{n:Nat}{r:D}(s:qd H q=some (vz a b c d n r))(m:Nat){e j l h:Int}(t:YI (m:Nat) (a,b,c,d)=(e,j,l,h)):
  call cx 294 [.optr q 6 0,.int .u64 m] H=some (.tup [],qn H q (vz e j l h n r)):=by
 obtain⟨u,f,i,g,v⟩:∃e j l h,VO 2 (a,b,c,qK .u64 d m)=(e,j,l,h):=⟨_,_,_,_,rfl⟩;simp only[YI,v,zi] at t;obtain⟨B,rfl,rfl,rfl⟩:=t;obtain⟨y,k⟩:=ql (qn H q (vz a b c (qK .u64 d m) n r));have o:qd y q=some (vz a b c (qK .u64 d m) n r):=by rw[<-k];exact zj (qx s)
 have hc:=qnQ o 2 wC v (x:=2) rfl;obtain⟨w,p⟩:=ql (qn y q (vz u f i g n r));have z:qd w q=some (vz u f i g n r):=by rw[<-p];exact zj (qx o)
 rw[p] at hc
 have A:qn H q (vz e f i g n r)=qn w q (vz e f i g n r):=by
  rw[<-p,<-k];unfold qn;simp only[List.set_set]
 rw[A];refine j6 Tryz.func294 rfl ⟨rfl,rfl⟩ ?_;simp only[vz] at s k o z hc⊢;simp[-qd,-qn,Tryz.f294,s,k,hc,z,B]
theorem qy4[MaxL][TxtC](x:Int)(k:Nat)(i:k<32):call cx 288 [.int .u32 x,.int .i64 k] []=some (.int .u32 (zA x k),[]):=by
 have h:=q6M k i;have b:=zf (k:Int) (k:Int);have a:=zf (32-(k:Int)) ((32-k:Nat):Int);have g:min k 32=k:=wC
 have e:¬(k:Int)<0:=wC
 refine qC Tryz.func288 rfl ⟨rfl,rfl⟩ ?_;unfold zA;obtain⟨j,d⟩:∃j,j=32-k:=⟨_,rfl⟩;rw[<-d] at a⊢;have c:min j 32=j:=wC
 have f:¬(j:Int)<0:=wC
 simp[Tryz.f288,h,b,a,IntKind.bits,g,c,e,f]
theorem Xz[MaxL][TxtC]{x r:Int}{k:Nat}(b:k<32)(e:zA x k=r){kk:Int}(a:kk=k):call cx 288 [.int .u32 x,.int .i64 kk] []=some (.int .u32 r,[]):=by
 rw[a,<-e];exact qy4 x k b
theorem q0B[MaxL][TxtC](x y z:Int)(R:qe)(hR:R=[]\/R=[none]):call cx 279 [.optr 0 3 0] (some [.int .u32 x,.int .u32 y,.int .u32 z]::R)=some (.tup [],some [.int .u32 (qeu (x,y,z)).1,.int .u32 (qeu (x,y,z)).2.1,.int .u32 (qeu (x,y,z)).2.2]::R):=by
 obtain⟨S,Y⟩:=ql (ji x z);have e0:IntKind.u32.wrap (x-z)=S:=Y;obtain⟨r0,W⟩:=ql (zA z 4);have e1:=Xz wC W (kk:=4) rfl;obtain⟨d,G⟩:=ql (qK .u32 S r0);have h2:qK .u32 S (zA z 4)=d:=by rw[W];exact G
 obtain⟨o,t⟩:=ql (vo z y);have e2:IntKind.u32.wrap (z+y)=o:=t;obtain⟨C,M⟩:=ql (ji y d);have e3:IntKind.u32.wrap (y-d)=C:=M;obtain⟨r1,K⟩:=ql (zA d 6);have e4:=Xz wC K (kk:=6) rfl;obtain⟨c,u⟩:=ql (qK .u32 C r1);have h5:qK .u32 C (zA d 6)=c:=by rw[K];exact u
 obtain⟨m,P⟩:=ql (vo d o);have e5:IntKind.u32.wrap (d+o)=m:=P;obtain⟨X,H⟩:=ql (ji o c);have e6:IntKind.u32.wrap (o-c)=X:=H;obtain⟨r2,E⟩:=ql (zA c 8);have e7:=Xz wC E (kk:=8) rfl;obtain⟨e,A⟩:=ql (qK .u32 X r2);have h8:qK .u32 X (zA c 8)=e:=by rw[E];exact A
 obtain⟨q,r⟩:=ql (vo c m);have e8:IntKind.u32.wrap (c+m)=q:=r;obtain⟨N,s⟩:=ql (ji m e);have e9:IntKind.u32.wrap (m-e)=N:=s;obtain⟨r3,U⟩:=ql (zA e 16);have f:=Xz wC U (kk:=16) rfl;obtain⟨b,w⟩:=ql (qK .u32 N r3);have g2:qK .u32 N (zA e 16)=b:=by rw[U];exact w
 obtain⟨h,T⟩:=ql (vo e q);have p:IntKind.u32.wrap (e+q)=h:=T;obtain⟨v,I⟩:=ql (ji q b);have n:IntKind.u32.wrap (q-b)=v:=I;obtain⟨r4,O⟩:=ql (zA b 19);have l:=Xz wC O (kk:=19) rfl;obtain⟨a,Q⟩:=ql (qK .u32 v r4);have g5:qK .u32 v (zA b 19)=a:=by rw[O];exact Q
 obtain⟨B,L⟩:=ql (vo b h);have g:IntKind.u32.wrap (b+h)=B:=L;obtain⟨F,J⟩:=ql (ji h a);have i:IntKind.u32.wrap (h-a)=F:=J;obtain⟨r5,Z⟩:=ql (zA a 4);have k:=Xz wC Z (kk:=4) rfl;obtain⟨z4,V⟩:=ql (qK .u32 F r5);have g8:qK .u32 F (zA a 4)=z4:=by rw[Z];exact V
 obtain⟨y4,g9⟩:=ql (vo a B);have j:IntKind.u32.wrap (a+B)=y4:=g9;have hm:=qoJ Y h2 t M h5 P H h8 r s g2 T I g5 L J g8 g9;rw[hm];clear g9 g8 J L g5 I T g2 s r h8 H P h5 M t h2 Y hm W K E U O Z;rcases hR with rfl|rfl
 .refine qC Tryz.func279 rfl ⟨rfl,rfl⟩ ?_;simp[Tryz.f279,e0,e1,G,e2,e3,e4,u,e5,e6,e7,A,e8,e9,f,w,p,n,l,Q,g,i,k,V,j]
 .refine qC Tryz.func279 rfl ⟨rfl,rfl⟩ ?_;simp[Tryz.f279,e0,e1,G,e2,e3,e4,u,e5,e6,e7,A,e8,e9,f,w,p,n,l,Q,g,i,k,V,j]
theorem q1j[MaxL][TxtC](x y z:Int){S Q z':Int}(hm:qe5 (x,y,z)=(S,z',Q))(R:qe)(hR:R=[]\/R=[none]):call cx 280 [.optr 0 3 0] (some [.int .u32 x,.int .u32 y,.int .u32 z]::R)=some (.tup [],some [.int .u32 S,.int .u32 Q,.int .u32 z']::R):=by
 obtain⟨I,O⟩:=ql (qK .u32 z y);obtain⟨Y,K⟩:=ql (zA y 14);have e1:=Xz wC K (kk:=14) rfl;obtain⟨c,v⟩:=ql (ji I Y);have W:IntKind.u32.wrap (I-Y)=c:=v;have h2:ji I (zA y 14)=c:=by rw[K];exact v
 obtain⟨t,l⟩:=ql (qK .u32 x c);obtain⟨r1,B⟩:=ql (zA c 11);have X:=Xz wC B (kk:=11) rfl;obtain⟨b,m⟩:=ql (ji t r1);have d1:IntKind.u32.wrap (t-r1)=b:=m;have h4:ji t (zA c 11)=b:=by rw[B];exact m
 obtain⟨N,C⟩:=ql (qK .u32 y b);obtain⟨r2,u⟩:=ql (zA b 25);have e5:=Xz wC u (kk:=25) rfl;obtain⟨a,q⟩:=ql (ji N r2);have d2:IntKind.u32.wrap (N-r2)=a:=q;have h6:ji N (zA b 25)=a:=by rw[u];exact q
 obtain⟨E,w⟩:=ql (qK .u32 c a);obtain⟨r3,L⟩:=ql (zA a 16);have V:=Xz wC L (kk:=16) rfl;obtain⟨d,p⟩:=ql (ji E r3);have T:IntKind.u32.wrap (E-r3)=d:=p;have h8:ji E (zA a 16)=d:=by rw[L];exact p
 obtain⟨n,k⟩:=ql (qK .u32 b d);obtain⟨r4,F⟩:=ql (zA d 4);have U:=Xz wC F (kk:=4) rfl;obtain⟨f,H⟩:=ql (ji n r4);have d4:IntKind.u32.wrap (n-r4)=f:=H;have g2:ji n (zA d 4)=f:=by rw[F];exact H
 obtain⟨A,J⟩:=ql (qK .u32 a f);obtain⟨r5,P⟩:=ql (zA f 14);have h:=Xz wC P (kk:=14) rfl;obtain⟨i,M⟩:=ql (ji A r5);have d5:IntKind.u32.wrap (A-r5)=i:=M;have g4:ji A (zA f 14)=i:=by rw[P];exact M
 obtain⟨s,G⟩:=ql (qK .u32 d i);obtain⟨Z,r⟩:=ql (zA i 24);have e:=Xz wC r (kk:=24) rfl;obtain⟨z3,o⟩:=ql (ji s Z);have d6:IntKind.u32.wrap (s-Z)=z3:=o;have g6:ji s (zA i 24)=z3:=by rw[r];exact o
 have j:=quj O h2 l h4 C h6 w h8 k g2 J g4 G g6;rw[hm] at j;clear hm;obtain⟨ve,j⟩:=Prod.mk.inj j;obtain⟨jQ,g⟩:=Prod.mk.inj j;clear g6 g4 g2 h8 h6 h4 h2 v K m B q u p L H F M P o r;rw[ve,jQ,g];clear ve jQ g;rcases hR with rfl|rfl
 .refine qC Tryz.func280 rfl ⟨rfl,rfl⟩ ?_;simp[Tryz.f280,O,e1,W,l,X,d1,C,e5,d2,w,V,T,k,U,d4,J,h,d5,G,e,d6]
 .refine qC Tryz.func280 rfl ⟨rfl,rfl⟩ ?_;simp[Tryz.f280,O,e1,W,l,X,d1,C,e5,d2,w,V,T,k,U,d4,J,h,d5,G,e,d6]
theorem qkT[MaxL][TxtC](l:List UInt8)(b:l.length=12)(a:Nat)(f:a<=8){at_:Int}(g:at_=a):call cx 221 [.vsl false (qf l) 12,.int .i64 at_,.int .i64 4] []=some (.tup [.int .u64 (vh l a:Nat),.bool true],[]):=by
 have h:=qk1 (Sl.of l) at_ 4 wC (by show l.length<_;omega)
 have e:YS l at_ 4=some (vh l a):=by
  unfold YS;rw[if_pos ⟨wH,wC,wC⟩];have d:at_.toNat=a:=wC
  rw[d];rfl
 have e2:(Sl.of l).l=l:=rfl;rw[e2,e] at h;have c:(Sl.of l).nil=false:=rfl;rw[c,b] at h;exact h
theorem qvS[MaxL][TxtC](l:List UInt8)(e:l.length=12)(x y z:Int){i g h:Int}(d:JW l (x,y,z)=(i,g,h))(R:qe)(q:R=[]\/R=[none]):
  call cx 278 [.optr 0 3 0,.vsl false (qf l) 12] (some [.int .u32 x,.int .u32 y,.int .u32 z]::R)=some (.tup [],some [.int .u32 i,.int .u32 g,.int .u32 h]::R):=by
 have j:=qkT l e 0 wC (at_:=0) rfl;have o:=qkT l e 4 wC (at_:=4) rfl;have m:=qkT l e 8 wC (at_:=8) rfl;have s:=qea l 0;have r:=qea l 4;have t:=qea l 8;unfold JW vo at d;obtain⟨p,d⟩:=Prod.mk.inj d;obtain⟨e2,k⟩:=Prod.mk.inj d;generalize vh l 0=a at *;generalize vh l 4=b at *;generalize vh l 8=c at *;have v0:=qdX (a:Int) a;have f:=qdX (b:Int) b;have n:=qdX (c:Int) c;rcases q with rfl|rfl
 .refine qC Tryz.func278 rfl ⟨rfl,rfl⟩ ?_;simp[Tryz.f278,j,o,m,v0,f,n,p,e2,k]
 .refine qC Tryz.func278 rfl ⟨rfl,rfl⟩ ?_;simp[Tryz.f278,j,o,m,v0,f,n,p,e2,k]
theorem qoZ[MaxL][TxtC](s:Sl UInt8)(_:s.l.length<4611686018427387904):call cx 265 [(.vsl s.nil (qf s.l) s.l.length)] []=some (.int .u64 (YR s.l),[]):=by
 refine qC Tryz.func265 rfl ⟨rfl,rfl⟩ ?_;have J:YR s.l=KM s.l (vo 3735928559 (IntKind.u32.wrap (s.l.length:Nat)),vo 3735928559 (IntKind.u32.wrap (s.l.length:Nat)),vo 3735928559 (IntKind.u32.wrap (s.l.length:Nat))):=rfl;obtain⟨n,N⟩:=ql (IntKind.u32.wrap (3735928559+IntKind.u32.wrap (s.l.length:Nat)));have K:vo 3735928559 (IntKind.u32.wrap (s.l.length:Nat))=n:=N;rw[K] at J;clear K;generalize YR s.l=C at *;simp[Tryz.f265,N];refine Run.loopThen (fun(q:List UInt8×Int×Int×Int) e H'=>q.1.length<=s.l.length/\(s.nil=true->q.1=[])/\KM q.1 q.2=C/\qi e 0=some (.vsl s.nil (qf q.1) q.1.length)/\qi e 4=some (.optr 0 3 0)/\H'=[some [.int .u32 q.2.1,.int .u32 q.2.2.1,.int .u32 q.2.2.2]]) (fun q=>q.1.length) (s.l,n,n,n) ?_ ?_
 .simp[J];exact s.h
 rintro⟨l,x,y,z⟩ e H' ⟨S,w,c,d,r,rfl⟩;simp only at S w c d r;by_cases u:12<l.length
 .have a:(12:Int)<(l.length:Int):=by omega
  have i:s.nil=false:=by
   cases G:s.nil with
   |false=>rfl
   |true=>rw[w G] at u;simp at u
  rw[i] at d;rw[qky u] at c;obtain⟨⟨j,g,k⟩,m⟩:∃t,JW (l.take 12) (x,y,z)=t:=⟨_,rfl⟩;have H:=qvS (l.take 12) wu x y z m [] (.inl rfl)
  have I:JW l (x,y,z)=(j,g,k):=by
   rw[<-m];simp only[JW,vh,List.drop_take,List.take_take];rfl
  rw[I] at c;have U:=q0B j g k [] (.inl rfl);have B:List.take 12 (qf l)=qf (l.take 12):=by simp[qf,List.map_take]
  have E:List.drop 12 (qf l)=qf (l.drop 12):=by simp[qf,List.map_drop]
  have o:(12:Int)<=(l.length:Int):=wC
  have X:(l.drop 12).length=l.length-12:=vg;have v:List.take (l.length-12) (qf (l.drop 12))=qf (l.drop 12):=qH wE;generalize l.take 12=p at *;generalize l.drop 12=Q at *;simp[d,r,a,H,U,o,B,E,v];exact⟨Q,wC,wC,by simp[i],_,_,_,c,⟨i,rfl,wC⟩,rfl,rfl,rfl⟩
 .have a:¬(12:Int)<(l.length:Int):=by omega
  by_cases f:l.length=0
  .have P:¬(0:Int)<(l.length:Int):=wC;rw[qkx f] at c;subst c;have b:(2:Int)^min 32 IntKind.u64.bits=4294967296:=wH;simp[d,r,f,qbF,b]
  .have P:(0:Int)<(l.length:Int):=by omega
   have i:s.nil=false:=by
    cases G:s.nil with
    |false=>rfl
    |true=>rw[w G] at f;simp at f
   rw[i] at d;have M:(l++List.replicate (12-l.length) 0).length=12:=(by rw[zo,List.length_replicate];omega);have O:=q7d l (12-l.length) (x,y,z);obtain⟨⟨j,g,k⟩,m⟩:∃t,JW l (x,y,z)=t:=⟨_,rfl⟩;rw[m] at O;obtain⟨⟨T,W,V⟩,L⟩:∃t,qe5 (j,g,k)=t:=⟨_,rfl⟩;rw[qkz u f (x:=T) (y:=V) (z:=W) (by rw[m];exact L)] at c;subst c;have H:=qvS _ M x y z O [none] (.inr rfl);have R:=q1j j g k L [none] (.inr rfl);have b:(2:Int)^min 32 IntKind.u64.bits=4294967296:=wH;have A:0<l.length:=wC;have F:min l.length 12=l.length:=wC
   have qn:zT (zb8 [D.int .u8 0,D.int .u8 0,D.int .u8 0,D.int .u8 0]) 0 (qf l)=qf (l++List.replicate (12-l.length) 0):=by
    show zT (List.replicate 12 (D.int .u8 0)) 0 (qf l)=_;unfold zT;rw[List.take_zero,J3,qaH,List.drop_replicate];simp[qf]
   have v:List.take l.length (qf l)=qf l:=qH wE;generalize l++List.replicate (12-l.length) 0=p at *;simp[-qeg,d,r,a,A,H,R,qbF,b,F,qn,v,M]
def RestT(T:qe)(q:Nat)(d:D)(c:List UInt8):Prop:=
 (d=.vsl true [] 0/\c=[])\/∃r st ds,d=.osl r st 0 c.length 1/\qd T r=some ds/\ds.length=st/\ds.take c.length=qf c/\c.length<=st/\r≠q/\0<st
theorem RestT.of{T:qe}{q r:Nat}{c:List UInt8}(h:qd T r=some (qf c))(a:r≠q)(hc:0<c.length):RestT T q (.osl r c.length 0 c.length 1) c:=
 .inr ⟨r,c.length,qf c,rfl,h,wV,qH wV,qA _,a,hc⟩
theorem qz9[MaxL][TxtC]{H:qe}{q:Nat}{a b c d:Int}(hq:qd H q=some (vz a b c d 0 (.vsl true [] 0)))(s:Sl UInt8)(hs:s.l.length<1000000):
  ∃T,call cx 290 [.optr q 6 0,(.vsl s.nil (qf s.l) s.l.length)] H=some (.tup [],T)/\∃p q' g j n,YH s.l (a,b,c,d)=(p,q',g,j)/\qd T q=some (vz p q' g j s.l.length n)/\RestT T q n (s.l.drop (s.l.length/8*8)):=by
 obtain⟨R,hR⟩:=ql (YH s.l (a,b,c,d));obtain⟨W,hW⟩:=ql (s.l.drop (s.l.length/8*8));rw[hR,hW];obtain⟨N,hN⟩:=ql (s.l.length);have aw:∀x,qd (qn H q x) q=some x:=fun x=>zj (qx hq);have aj:=qz (s.l.length:Int) (s.l.length:Int)
 obtain⟨⟨x,T⟩,h1,y,p,q',g,j,n,u,Z,h4,h5,rfl⟩:∃r,call cx 290 [.optr q 6 0,(.vsl s.nil (qf s.l) s.l.length)] H=some r/\r.1=.tup []/\∃p q' g j n u,R=(p,q',g,j)/\qd r.2 q=some (vz p q' g j s.l.length n)/\RestT r.2 q n u/\u=W:=by
  refine vx (X:=cx) (f:=290) _ Tryz.func290 rfl ⟨rfl,rfl⟩ ?_;simp only[vz] at hq⊢;simp[-qd,-qn,-qr,-qJ,-JQ,Tryz.f290,hq,aj];refine Run.loopThen (fun(l:List UInt8) e K=>l.length<=s.l.length/\qi e 0=some (.optr q 6 0)/\qi e 1=some (.vsl s.nil (qf l) l.length)/\(s.nil=true->l=[])/\∃p q' g j n u,qd K q=some (vz p q' g j s.l.length n)/\RestT K q n u/\((u=[]/\YH l (p,q',g,j)=R/\l.drop (l.length/8*8)=W)\/(l=[]/\u=W/\(p,q',g,j)=R))) (fun l=>l.length) s.l ?_ ?_
  .exact⟨qA _,wE,wE,s.h,a,b,c,d,_,[],aw _,.inl ⟨rfl,rfl⟩,.inl ⟨rfl,hR,hW⟩⟩
  rintro l e K ⟨hl,k0,k1,zB,p,q',g,j,n,u,w,hT,hC⟩;by_cases h0:l=[]
  .subst h0
   have v:(p,q',g,j)=R/\u=W:=by
    rcases hC with⟨h1,y,Z⟩|⟨_,y,Z⟩
    .rw[qmT wE] at y;exact⟨y,by rw[h1];simpa using Z⟩
    .exact⟨Z,y⟩
   simp[-qd,-qn,-qr,-qJ,-JQ,k0,k1];exact⟨p,q',g,j,v.1.symm,n,w,by rw[<-v.2];exact hT⟩
  .have ZS:0<l.length:=List.length_pos_iff.2 h0;have av:(0:Int)<(l.length:Int):=by omega
   have jh:s.nil=false:=by
    cases h:s.nil with
    |false=>rfl
    |true=>exact absurd (zB h) h0
   rw[jh] at k1
   obtain⟨rfl,hE,ZB⟩:u=[]/\YH l (p,q',g,j)=R/\l.drop (l.length/8*8)=W:=by
    rcases hC with h|⟨h,_⟩
    .exact h
    .exact absurd h h0
   obtain⟨k,hk⟩:=ql ((if l.length<8 then l.length else 8));have ai:k<=l.length/\0<k/\k<=8:=by split at hk<;>omega
   have ae:(if(l.length:Int)<8 then(l.length:Int) else 8)=(k:Int):=by
    split at hk
    .rw[if_pos wC];omega
    .rw[if_neg wC];omega
   have ak:(0:Int)<=(k:Int)/\(k:Int)<=(l.length:Int):=wC;have Z8:¬k=0:=wC;have zS:List.take k (qf l)=qf (l.take k):=qep _ _;have ag:List.drop k (qf l)=qf (l.drop k):=qcW _ _;have U:(l.take k).length=k:=wu
   obtain⟨z,G,aa,hz,o,O⟩:∃(z:Nat)(G:qe),qJ Tryz.prog K 63 63 n (.vsl false (qf (l.take k)) k)=some (.osl z k 0 k 1,G)/\qd G z=some (qf (l.take k))/\z≠q/\qd G q=some (vz p q' g j s.l.length n):=by
    have M:=qx w;rcases hT with⟨rfl,_⟩|⟨r,st,ds,rfl,g1,g2,g3,g4,g5,g6⟩
    .refine⟨K.length,qr K (qf (l.take k)),?_,zF,wC,by rw[vv M];exact w⟩;simp[-qd,-qr,U,Z8,qF];omega
    .refine⟨K.length,qr (JQ K r) (qf (l.take k)),?_,by rw[<-qaM (H:=K) (i:=r)];exact zF,wC,by rw[vv (by rw[qaM];exact M),qtm (fun e=>g5 e.symm)];exact w⟩;have g7:¬0=st:=wC;simp[-qd,-qr,-JQ,U,qF,g1,g2,g6,g7];omega
   have ah:=qx O;have Q1:=qx hz;have ax:z<G.length:=Q1;obtain⟨K2,E⟩:=ql (qn G q (vz p q' g j s.l.length (.osl z k 0 k 1)));have L:qd K2 q=some (vz p q' g j s.l.length (.osl z k 0 k 1)):=(by rw[<-E];exact zj ah);have kB:qd K2 z=some (qf (l.take k)):=by rw[<-E,zV o];exact hz
   have t:qO Tryz.prog 63 n=some (.int .i64 0):=by
    rcases hT with⟨rfl,_⟩|⟨r,st,ds,rfl,_⟩<;>simp
   have Jt:qO Tryz.prog 63 (.vsl false (qf l) l.length)=some (.int .i64 l.length):=wE;have jv:IntKind.i64.wrap 8=8:=wH;by_cases h8:k=8
   .subst h8;have jF:8<=l.length:=ai.1;have P:min 8 l.length=8:=wC;have V:(8:Int)<=(l.length:Int):=wC;have B:=qbH (Sl.mk false (l.take 8) wE) 0 (by simp only[U];omega) (by simp only[U];omega) (x:=0) rfl;simp only[U] at B;obtain⟨m,hm⟩:=ql (leN (l.take 8))
    have aq:qT (l.take 8) 0=m:=by
     unfold qT;rw[List.drop_zero,List.take_take];exact hm
    rw[aq] at B;rw[qxB jF,hm] at hE;obtain⟨J,I,F,C,hB⟩:∃J I F C,YI (m:Nat) (p,q',g,j)=(J,I,F,C):=⟨_,_,_,_,rfl⟩;rw[hB] at hE;have A:=qnG L m hB;obtain⟨K3,x3⟩:=ql (qn K2 q (vz J I F C s.l.length (.osl z 8 0 8 1)));have Vg:qd K3 q=some (vz J I F C s.l.length (.osl z 8 0 8 1)):=(by rw[<-x3];exact zj (qx L));have Y:qd K3 z=some (qf (l.take 8)):=(by rw[<-x3,zV o];exact kB);rw[x3] at A;obtain⟨K4,x4⟩:=ql (qn K3 q (vz J I F C s.l.length (.osl z 8 0 0 1)));have ac:qd K4 q=some (vz J I F C s.l.length (.osl z 8 0 0 1)):=(by rw[<-x4];exact zj (qx Vg));have am:qd K4 z=some (qf (l.take 8)):=(by rw[<-x4,zV o];exact Y);have Q:=qx Y;simp only[vz] at w O E L A Vg x4 ac;have XI:qO Tryz.prog 63 (.osl z 8 0 8 1)=some (.int .i64 8):=wE;simp[-qd,-qn,-qr,-qJ,-JQ,-qO,k0,k1,ZS,w,t,Jt,XI,ae,zS,aa,O,Q1,E,L,kB,B,A,Vg,Q,x4,ag,jv,V,P];refine⟨l.drop 8,wG,wG,⟨jh,rfl,wE⟩,(fun h=>absurd h (by rw[jh];decide)),_,_,_,_,_,ac,[],?_,.inl ⟨rfl,hE,?_⟩⟩
    .exact .inr ⟨z,8,_,rfl,am,by simp[qf,P],wV,wE,o,wC⟩
    .rw[<-ZB,vg,kz,show 8+(l.length-8)/8*8=l.length/8*8 from wC]
   .have au:¬(k:Int)=8:=wC;have kD:l.length=k:=(by split at hk<;>omega);have XI:qO Tryz.prog 63 (.osl z k 0 k 1)=some (.int .i64 k):=wE;simp only[vz] at w O E L;simp[-qd,-qn,-qr,-qJ,-JQ,-qO,k0,k1,ZS,w,t,Jt,XI,ae,ak,zS,aa,O,Q1,E,L,ag,jv,au];have ao:l.drop k=[]:=List.drop_of_length_le wC;have Z6:l.length/8=0:=wC;rw[qmT wC] at hE;rw[Z6] at ZB;refine⟨[],by simpa using ZS,wE,⟨jh,by rw[ao],wG⟩,fun _=>rfl,_,_,_,_,_,⟨rfl,rfl,rfl,rfl,rfl⟩,l,?_,.inr ⟨rfl,by simpa using ZB,hE⟩⟩;have S:l.take k=l:=qH wC;rw[S] at kB;rw[<-kD];exact RestT.of kB o ZS
 exact⟨T,by rw[h1];simp only at y;rw[y],p,q',g,j,n,Z,h4,h5⟩
theorem qyU[MaxL][TxtC]{H:qe}{q:Nat}{a b c d:Int}{n:Nat}{E:D}{W:List UInt8}(hq:qd H q=some (vz a b c d n E))(hT:RestT H q E W)(hW:W.length<8)(_:n<1000000):
  ∃T,call cx 291 [.optr q 6 0] H=some (.int .u64 (qef (YI (leN W+n % 256*72057594037927936:Nat) (a,b,c,d))),T):=by
 obtain⟨m,hm⟩:=ql (leN W+n % 256*72057594037927936);rw[hm];have ac:=qx hq;obtain⟨Z,V⟩:∃Z:List UInt8,Z=List.replicate 8 0:=⟨_,rfl⟩;obtain⟨z,hz⟩:=ql (H.length);obtain⟨J,S⟩:=ql (qr H (zb8 []));simp only[vz] at hq
 suffices hs:∃r,call cx 291 [.optr q 6 0] H=some r/\r.1=.int .u64 (qef (YI (m:Nat) (a,b,c,d))) by
  obtain⟨⟨r,T⟩,h1,h2⟩:=hs;exact⟨T,by rw[h1];simp only at h2;rw[h2]⟩
 refine vx (X:=cx) (f:=291) _ Tryz.func291 rfl ⟨rfl,rfl⟩ ?_;have kw:qd J q=some [.int .u64 a,.int .u64 b,.int .u64 c,.int .u64 d,.int .i64 n,E]:=by rw[<-S,vv ac];exact hq
 have u:qd J z=some (qf Z):=by rw[<-S,<-hz,zF,V];rfl
 have L:z≠q:=wC
 have ae:Z.length=8:=by rw[V];rfl
 obtain⟨k,j⟩:∃k:List UInt8,k=W++List.replicate (8-W.length) 0:=⟨_,rfl⟩;have h:k.length=8:=by rw[j];simp;omega
 obtain⟨O,N⟩:=ql (qn J z (qf k))
 have o:∃v,qcv Tryz.prog J 63 63 (.osl z 8 0 8 1) E=some (v,O):=by
  rcases hT with⟨rfl,rfl⟩|⟨r,st,ds,rfl,g1,g2,g3,g4,g5,g6⟩
  .refine⟨.int .i64 0,?_⟩;rw[<-N,j];simp[-qd,-qn,u,zT,V]
  .have ai:qd J r=some ds:=(by rw[<-S,vv (qx g1)];exact g1);refine⟨.int .i64 (W.length:Nat),?_⟩;have gd:W.length<=ds.length:=wC;have mn:min W.length 8=W.length:=wC;rw[<-N,j];simp[-qd,-qn,u,ae,ai,g2,g3,g4,mn,zT];rw[qcW,V,List.drop_replicate];simp[qf]
 obtain⟨v,o⟩:=o;have jP:qd O q=some [.int .u64 a,.int .u64 b,.int .u64 c,.int .u64 d,.int .i64 n,E]:=by rw[<-N,zV (fun e=>L e.symm)];exact kw
 have kB:qd O z=some (qf k):=by rw[<-N];exact zj (qx u)
 obtain⟨i,s⟩:∃i:List UInt8,i=k.take 7++[UInt8.ofNat (n % 256)]:=⟨_,rfl⟩;have g:i.length=8:=by rw[s];simp[h]
 obtain⟨P,x3⟩:=ql (qn O z (qf i));have Vg:qd P q=some [.int .u64 a,.int .u64 b,.int .u64 c,.int .u64 d,.int .i64 n,E]:=by rw[<-x3,zV (fun e=>L e.symm)];exact jP
 have ah:qd P z=some (qf i):=by rw[<-x3];exact zj (qx kB)
 have aa:IntKind.u8.wrap (n:Int)=((UInt8.ofNat (n % 256)).toNat:Int):=by
  rw[qfH yV];simp only[IntKind.wrap,IntKind.signed,IntKind.bits];simp
 have ag:List.take 7 (qf k)++ .int .u8 (IntKind.u8.wrap (n:Int))::List.drop 8 (qf k)=qf i:=by
  rw[List.drop_of_length_le (by simp[qf,h]),aa,s];simp[qf]
 have I:List.take 8 (qf i)=qf i:=qH (by simp[qf,g]);have C:=qbH (Sl.mk false i wE) 0 (by simp only[g];omega) (by simp only[g];omega) (x:=0) rfl;simp only[g] at C
 have hu:qT i 0=m:=by
  have e1:i=W++(List.replicate (7-W.length) 0++[UInt8.ofNat (n % 256)]):=by
   rw[s,j,Zk,qH wC,List.take_replicate,jX,Nat.min_eq_left wC]
  unfold qT;rw[List.drop_zero,qH wC,<-hm,e1,qhM,qhM]
  have z0:leN (List.replicate (7-W.length) 0)=0:=by
   have:=qhL [] (7-W.length);simpa[leN] using this
  have hx:(UInt8.ofNat (n % 256)).toNat=n % 256:=by
   rw[qfH yV]
  have hp:256^W.length*256^(7-W.length)=72057594037927936:=by
   rw[<-Nat.pow_add,show W.length+(7-W.length)=7 from wC]
  rw[z0,J3,List.length_replicate,<-Nat.mul_assoc,hp];simp only[leN,hx];omega
 rw[hu] at C;obtain⟨K,G⟩:=ql (qr P (VF [.int .i64 0,.vsl true [] 0]));obtain⟨y,hy⟩:=ql (P.length);have l:qd K y=some (VF [.int .i64 0,.vsl true [] 0]):=by rw[<-G,<-hy,zF]
 obtain⟨H4,x4⟩:=ql (qn K y (vz a b c d 0 (.vsl true [] 0)));have p:qd H4 y=some (vz a b c d 0 (.vsl true [] 0)):=by rw[<-x4];exact zj (qx l)
 obtain⟨Q,R,U,M,hB⟩:∃p1 q1 r1 s1,YI (m:Nat) (a,b,c,d)=(p1,q1,r1,s1):=⟨_,_,_,_,rfl⟩;rw[hB];have w:=qnG p m hB;obtain⟨H5,x5⟩:=ql (qn H4 y (vz Q R U M 0 (.vsl true [] 0)));have B:=vV x5 p;rw[x5] at w;obtain⟨H6,Y⟩:=ql (qn H5 y (vz Q R (qK .u64 U 255) M 0 (.vsl true [] 0)));have A:=vV Y B;obtain⟨a2,b2,c2,d2,hr⟩:∃p1 q1 r1 s1,VO 4 (Q,R,qK .u64 U 255,M)=(p1,q1,r1,s1):=⟨_,_,_,_,rfl⟩;have t:=qnQ A 4 wC hr (x:=4) rfl;obtain⟨H7,x7⟩:=ql (qn H6 y (vz a2 b2 c2 d2 0 (.vsl true [] 0)));have F:=vV x7 A;rw[x7] at t;have hS:qef (Q,R,U,M)=qK .u64 (qK .u64 (qK .u64 a2 b2) c2) d2:=by simp only[qef,hr]
 rw[hS];simp only[vz,Int.natCast_zero] at w t x4 Y p B A F;simp[-qd,-qn,-qr,-qcv,-qO,Tryz.f291,S,hz,kw,o,jP,kB,h,g,I,ag,x3,ah,C,Vg,G,hy,l,x4,w,B,Y,t,F]
theorem qzf[MaxL][TxtC](key:ID){K L:Nat}(f:leN (key.l.take 8)=K)(e:leN ((key.l.drop 8).take 8)=L):call cx 289 [.agg (qf key.l)] []=some (.optr 0 6 0,[some (vz (qK .u64 K 8317987319222330741) (qK .u64 L 7237128888997146477) (qK .u64 K 7816392313619706465) (qK .u64 L 8387220255154660723) 0 (.vsl true [] 0))]):=by
 have a:key.l.length=16:=key.h;have b:=qbH (Sl.mk false key.l wE) 0 yN yN (x:=0) rfl;have c:=qbH (Sl.mk false key.l wE) 8 yN yN (x:=8) rfl;unfold qT at b c;simp only[a,List.drop_zero,f,e] at b c;have d:List.take 16 (qf key.l)=qf key.l:=qH (by simp[qf,a]);refine qC Tryz.func289 rfl ⟨rfl,rfl⟩ ?_;simp[Tryz.f289,b,c,a,d]
theorem qza[MaxL][TxtC](key:ID)(s:Sl UInt8)(n:s.l.length<1000000):call cx 284 [.agg (qf key.l),(.vsl s.nil (qf s.l) s.l.length)] []=some (.int .u64 (qho key.l s.l),[]):=by
 obtain⟨K,g⟩:=ql (leN (key.l.take 8));obtain⟨L,i⟩:=ql (leN ((key.l.drop 8).take 8));have j:=qzf key g i;have d:key.l.length=16:=key.h;have o:qd [some (qf key.l),some (vz (qK .u64 K 8317987319222330741) (qK .u64 L 7237128888997146477) (qK .u64 K 7816392313619706465) (qK .u64 L 8387220255154660723) 0 (.vsl true [] 0))] 1=some (vz (qK .u64 K 8317987319222330741) (qK .u64 L 7237128888997146477) (qK .u64 K 7816392313619706465) (qK .u64 L 8387220255154660723) 0 (.vsl true [] 0)):=rfl;obtain⟨T,f,p,q',e,c,t,r,m,a⟩:=qz9 o s n;obtain⟨T2,k⟩:=qyU m a xA wC
 have b:qho key.l s.l=qef (YI ((leN (s.l.drop (s.l.length/8*8))+s.l.length % 256*72057594037927936:Nat):Int) (p,q',e,c)):=by
  unfold qho qmU;rw[g,i];unfold qmV;rw[r]
 rw[b];generalize qef (YI ((leN (s.l.drop (s.l.length/8*8))+s.l.length % 256*72057594037927936:Nat):Int) (p,q',e,c))=R at *;simp only[vz,Int.natCast_zero] at j f;have q:List.take 16 (qf key.l)=qf key.l:=qH (by simp[qf,d]);refine qC Tryz.func284 rfl ⟨rfl,rfl⟩ ?_;simp[Tryz.f284,j,f,k,d,q]
theorem qze[MaxL][TxtC](a:Bool)(key:ID)(s:Sl UInt8)(d:s.l.length<1000000):call cx 276 [.bool a,.agg (qf key.l),(.vsl s.nil (qf s.l) s.l.length)] []=some (.int .u64 (qe1 a key.l s.l),[]):=by
 have b:key.l.length=16:=key.h;have c:List.take 16 (qf key.l)=qf key.l:=qH (by simp[qf,b]);cases a with
 |true=>
  have h:=qza key s d;refine qC Tryz.func276 rfl ⟨rfl,rfl⟩ ?_;simp[Tryz.f276,h,qe1,b,c]
 |false=>
  have h:=qoZ s wC;refine qC Tryz.func276 rfl ⟨rfl,rfl⟩ ?_;simp[Tryz.f276,h,qe1,b]
end Go.Ev.S
namespace Go.Ev.S
open Go Go.Proofs Go.Ev Go.RowKit
theorem q5Z(p:Addr)(w:World):CallsD Tryz.prog 228 #[.pointer (some p)] .returning w fun e b w'=>e=.returned (.tuple #[])/\b=.returning/\w'=w:=by
 refine callsD_of_wpS Tryz.func228 rfl fun c cs a=>?_;apply wpS_seq;apply wpS_region;simp[wpOpsS,go_sem,recoverD,a,Tryz.ntmps228,Exit.thenS];apply wpS_seq;apply wpS_region;simp[wpOpsS,go_sem,Exit.thenS];refine wpS_cond (t:=false) yT ?_;simp only[Qd,if_false];refine wpS_of_wp (wp_skip ?_);cases c
 simp_all[bodyPostS,results,Tryz.results228]
theorem qxX(v:Value)(w:World):(Instr.typeAssert (.iface 333 v) 20 333 true).run Tryz.prog w=.ok (.tuple #[v,.bool true]) w:=by
 simp[Instr.typeAssert,go_sem]
theorem q5Y(p:Addr)(x:Int)(c:Int)(a:List PanicEntry)(w:World)(hc:w.cell? p=some (.int .i64 x))(h:w.frozen? p=false):
  CallsD Tryz.prog 228 #[.pointer (some p)] (.panicking ({v:=.iface 333 (.agg #[.int .i64 c]),recovered:=false}::a)) w fun e j w'=>
   e=.returned (.tuple #[])/\j=.panicking ({v:=.iface 333 (.agg #[.int .i64 c]),recovered:=true}::a)/\∃o,w'=(w.alloc o).setCell p (.int .i64 c):=by
 refine callsD_of_wpS Tryz.func228 rfl fun k cs g=>?_;apply wpS_seq;apply wpS_region;simp[wpOpsS,go_sem,recoverD,g,Tryz.ntmps228,Exit.thenS];apply wpS_seq;apply wpS_region;simp[wpOpsS,go_sem,Exit.thenS];refine wpS_cond (t:=true) yT ?_;simp only[if_true];refine wpS_of_wp ?_;have d:=qxX (.agg #[.int .i64 c]) w;refine wp_seq ?_;refine wp_region_list ?_;simp only[wpList,Oper.wp];simp[go_sem,d,Exit.then]
 iterate 8 apply Or.inl
 refine wp_seq (wp_seq ?_);refine wp_region_list ?_;simp only[wpList,Oper.wp];simp[go_sem,Exit.then]
 iterate 2 apply Or.inl
 refine wp_cond (t:=false) yT ?_;simp only[Qd,if_false];refine wp_skip ?_;simp only[Exit.then];refine wp_region_list ?_;simp only[wpList,Oper.wp];have f:=qf6 hc;have i:(w.alloc (.cells #[.int .i64 c] 333)).cell? p=some (.int .i64 x):=by rw[World.cell?_of_block (heap_alloc_old w _ f)];exact hc
 have b:(w.alloc (.cells #[.int .i64 c] 333)).frozen? p=false:=by rw[World.frozen?_of_block (heap_alloc_old w _ f)];exact h
 simp[go_sem,i,b]
 iterate 3 apply Or.inl
 simp[bodyPostS,results,Tryz.results228];exact⟨_,rfl⟩
noncomputable def qbu(X:Cx)(T:Nat):List D->qe->Option (D×qe)
 |[.fn g a],H=>if(X.gr g&&X.byRef g)=true then none else match call X g a H with
  |some (_,H')=>some (.int .i64 0,H')
  |none=>match YO X g a H with
   |some (.iface t (.agg [.int .i64 c]),H')=>if t=T then kW false H.length H' (.int .i64 c) else none
   |_=>none
 |_,_=>none
theorem qvD{X:Cx}{ok ok2:Nat->Prop}{w c w3:World}{ι ι2:qU}{H f:qe}{o:Obj}(l:Sim X ok w ι H)(g:Sim X ok2 c ι2 f)(k:Evol H.length ok (w.alloc o) ι H ok2 c ι2 f)(m:qa1 c w3)(p:c.heap.size<=w3.heap.size)
  (n:∀b,b<c.heap.size->b≠w.heap.size->w3.heap[b]?=c.heap[b]?):Sim X ok2 w3 ι2 f/\Evol H.length ok w ι H ok2 w3 ι2 f:=by
 have a:Below w.heap.size w (w.alloc o):=(Below.refl _ w).alloc (qA _) o;have v:Evol H.length ok w ι H ok (w.alloc o) ι H:=qlS (qA _) a;have e2:=v.trans k;have y:(w.alloc o).heap.size=w.heap.size+1:=wE
 have n1:¬ok2 w.heap.size:=by
  intro q;rcases k.okN _ q wC with h|⟨i,ds,s,d,hi⟩
  .have:=l.okS _ h;omega
  .have:=l.lt d hi;omega
 have n2:∀i ds s,qd f i=some ds->ι2 i≠some (w.heap.size,s):=by
  intro i ds s d hi;obtain⟨j,z,x,r,u⟩:=k.own i ds _ s d hi wC;have:=l.lt r u;omega
 refine⟨qmX g p (fun b a=>n b (g.okS b a) fun e=>n1 (e▸a)) (fun i ds b s d hi=>n b (g.lt d hi) fun e=>n2 i ds s d (e▸hi)),?_⟩;exact⟨by rw[m.1,e2.os],by rw[m.2.1,e2.tape],by rw[m.2.2,e2.output],zJ e2.size p,fun b a t=>by rw[n b (vd a e2.size) wC,e2.frame b a t],e2.okU,e2.okN,e2.nle,e2.heap,e2.own⟩
theorem qwN[MaxL][TxtC](hG:Good cx){args:List D}{H H':qe}{r:D}{ok:Nat->Prop}{w:World}{ι:qU}{vs:List Value}(h:qbu cx 333 args H=some (r,H'))(I:Sim cx ok w ι H)(V:RepL ok w ι H args vs):
  Goes cx.P (callFunc 179 vs.toArray) w (CallPost cx ok w ι H r H'):=by
 unfold qbu at h;split at h
 .rename_i H0 g u;split at h
  .cases h
  rename_i Q;obtain⟨v,us,rfl,a1,a2⟩:=J7 V;cases qcO a2;cases a1 with
  | @fn _ _ _ _ cv T hh=>
  have Xe:(callFunc 179 [Value.func (.func g) #[] cv].toArray).run cx.P w=.ok (.enter 179 [Value.func (.func g) #[] cv].toArray) w:=Go.Proofs.enters_of (P:=cx.P) Tryz.func179 rfl rfl _ _;unfold Goes;rw[Xe];simp only;refine calls_of_wp_defers (P:=cx.P) Tryz.func179 rfl ?_;obtain⟨z,A⟩:=ql (w.alloc (.cells #[.int .i64 0] 3));refine wp_seq (wp_region_list ?_);simp only[wpList,Oper.wp];simp[go_sem,Exit.then,Tryz.ntmps179,A];apply Or.inl;refine wp_seq (wp_region_list ?_);simp only[wpList,Oper.wp];have aa:∀(fn:Fn)(first C:Array Value)(w:World),(Instr.makeFunc fn first C).run Tryz.prog w=.ok (.func fn first C) w:=fun _ _ _ _=>rfl;simp[go_sem,Exit.then]
  iterate 2 apply Or.inl
  refine wp_seq (wp_region_list ?_);simp only[wpList,Oper.wp];simp[go_sem,Exit.then]
  iterate 2 apply Or.inl
  have K:Below w.heap.size w z:=A▸(Below.refl _ w).alloc (qA _) _;have s1:Sim cx ok z ι H:=qvE I K
  have v1:RepL ok z ι H u cv.toList:=⟨by simpa using T,fun j d hj=>by
   have:=(hh j d hj).same fun b zQ=>K.block b (I.okS b zQ);rw[jy,Array.getElem?_toList];rw[j8] at this;exact this⟩
  have Y:z.heap[w.heap.size]?=some (.cells #[.int .i64 0] 3 (0,0)):=by rw[<-A];exact heap_alloc_new w _
  have jM:z.heap.size=w.heap.size+1:=by rw[<-A];simp
  have y:∀{ok2:Nat->Prop}{l:World}{ι2:qU}{X:qe},Evol H.length ok z ι H ok2 l ι2 X->l.heap[w.heap.size]?=some (.cells #[.int .i64 0] 3 (0,0)):=by
   intro ok2 l ι2 X k;rw[k.frame _ wC fun i ds s hd hi=>by have:=I.lt hd hi;omega];exact Y
  cases n:call cx g u H with
  |some q=>
   obtain⟨r0,N⟩:=q;rw[n] at h;simp only[qy,zi] at h;obtain⟨rfl,rfl⟩:=h;have p:=qlL hG g u H r0 N ok z ι cv.toList n s1 v1;simp only[Array.toArray_toList] at p;refine Goes.upon (p.mono fun v l R=>?_);obtain⟨ι2,ok2,Z,k2,F,k4⟩:=R;have B:=y F;have E:l.cell? ⟨w.heap.size,0,none⟩=some (.int .i64 0):=(by rw[Y6 B];rfl);have S:l.frozen? ⟨w.heap.size,0,none⟩=false:=(by rw[qij B];rfl);refine wp_seq (wp_region_list ?_);simp only[wpList,Oper.wp];simp[go_sem,Exit.then,E,S];apply Or.inl;refine wp_ret ?_;refine leaves_cons (f:=228) (args:= #[.pointer (some ⟨w.heap.size,0,none⟩)]) wE (by simp[go_sem]) ((q5Z ⟨w.heap.size,0,none⟩ _).mono ?_);rintro e u' U ⟨rfl,rfl,rfl⟩;have qn:(l.setCell ⟨w.heap.size,0,none⟩ (.int .i64 0)).cell? ⟨w.heap.size,0,none⟩=some (.int .i64 0):=World.cell?_setCell_same' _ _ _ (by rw[E];rfl);simp[Leaves,settle,results,Tryz.results179,go_sem,qn];have a:Below 0 l (l.setCell ⟨w.heap.size,0,none⟩ (.int .i64 0)):=(Below.refl 0 l).setCell (vp _) _;obtain⟨L,J⟩:=qvD (o:=.cells #[.int .i64 0] 3) (w3:=l.setCell ⟨w.heap.size,0,none⟩ (.int .i64 0)) I Z (by rw[A];exact F) ⟨a.os,a.tape,a.output⟩ a.size (fun b _ O=>Below.heap_setCell _ _ _ _ O);exact⟨ι2,ok2,L,.int _ _,J,k4 (by simpa using Q)⟩
  |none=>
   rw[n] at h;simp only at h;split at h
   .rename_i t c X G;split at h
    .rename_i ht;subst ht;have p:=qzu hG (qzz G) s1 v1;simp only[Array.toArray_toList] at p;refine GoesP.upon (p.mono fun v l R=>?_);obtain⟨ι2,ok2,Z,k2,F⟩:=R;have B:=y F;have E:l.cell? ⟨w.heap.size,0,none⟩=some (.int .i64 0):=(by rw[Y6 B];rfl);have S:l.frozen? ⟨w.heap.size,0,none⟩=false:=by rw[qij B];rfl
     have V:v=.iface 333 (.agg #[.int .i64 c]):=by
      cases k2 with
      |iface hr=>
       cases hr with
       |agg T hc h=>
        rename_i us;have h0:=h 0 (.int .i64 c) rfl;have Jr:us.size=1:=by simpa using T
        have hu:us= #[us.getD 0 undef]:=by
         apply Array.ext
         .simp[Jr]
         .intro i h1 h2;have:i=0:=wC;subst this;simp[Jr]
        generalize us.getD 0 undef=x at h0 hu;cases h0;rw[hu]
     subst V;simp only[Exit.then];refine leaves_cons (f:=228) (args:= #[.pointer (some ⟨w.heap.size,0,none⟩)]) wE (by simp[go_sem]) ((q5Y ⟨w.heap.size,0,none⟩ 0 c [] l E S).mono ?_);rintro e u' U ⟨rfl,rfl,o,rfl⟩;have M:(l.alloc o).cell? ⟨w.heap.size,0,none⟩=some (.int .i64 0):=(by rw[World.cell?_of_block (heap_alloc_old l _ (Array.getElem?_eq_some_iff.1 B).1)];exact E);have qn:((l.alloc o).setCell ⟨w.heap.size,0,none⟩ (.int .i64 c)).cell? ⟨w.heap.size,0,none⟩=some (.int .i64 c):=World.cell?_setCell_same' _ _ _ (by rw[M];rfl);simp[Leaves,settle,results,Tryz.results179,go_sem,qn];have a:Below l.heap.size l (l.alloc o):=(Below.refl _ l).alloc (qA _) o;have m:Below 0 (l.alloc o) ((l.alloc o).setCell ⟨w.heap.size,0,none⟩ (.int .i64 c)):=(Below.refl 0 _).setCell (vp _) _;obtain⟨L,J⟩:=qvD (o:=.cells #[.int .i64 0] 3) (w3:=(l.alloc o).setCell ⟨w.heap.size,0,none⟩ (.int .i64 c)) I Z (by rw[A];exact F) ⟨by rw[m.os,a.os],by rw[m.tape,a.tape],by rw[m.output,a.output]⟩ (zJ a.size m.size) (fun b K O=>by rw[Below.heap_setCell _ _ _ _ O,a.block b K]);obtain⟨W,ι3,p1,p2,p3,p4⟩:=qoa J.nle.2 L (Rep.int .i64 c) h;exact⟨ι3,W,p1,p2,J.trans p3,p4⟩
    .cases h
   .cases h
 .cases h
end Go.Ev.S
namespace Go.Ev
open Go Go.Proofs Go.RowKit
section
variable {X:Cx} {f nt n0:Nat} {e:qu} {H:qe}
theorem qel{α:Type}{a b:Option α}(h:∀x,a=some x↔b=some x):a=b:=by
 cases a with
 |none=>cases b with
  |none=>rfl
  |some y=>exact(h y).2 rfl
 |some x=>exact((h x).1 rfl).symm
theorem qe6{c:Code}{r:D×qe}:¬evP X 0 f nt n0 c e H=some r:=by intro h;simp[evP] at h
theorem q54{c:Operand}{a b:Code}:jL X f nt n0 (.cond c a b) e H=match qY X e c with
  |some (.bool t)=>jL X f nt n0 (if t then a else b) e H
  |_=>none:=by
 apply qel;intro r;constructor
 .intro h;obtain⟨n,d⟩:=codeP_some.1 h;cases n with
  |zero=>exact(qe6 d).elim
  |succ n=>
   rw[evP.eq_def] at d;simp only at d;split at d
   .rename_i t hc;rw[hc];exact codeP_some.2 ⟨n,d⟩
   .cases d
 .intro h;split at h
  .rename_i t hc;exact q5C hc h
  .cases h
theorem q55{id:Nat}{c:Code}:jL X f nt n0 (.block id c) e H=jL X f nt n0 c e H:=by
 apply qel;intro r;constructor
 .intro h;obtain⟨n,a⟩:=codeP_some.1 h;cases n with
  |zero=>exact(qe6 a).elim
  |succ n=>rw[evP.eq_def] at a;exact codeP_some.2 ⟨n,a⟩
 .exact q5D
theorem q50{c:Code}:jL X f nt n0 (.scope c) e H=jL X f nt n0 c e H:=by
 apply qel;intro r;constructor
 .intro h;obtain⟨n,a⟩:=codeP_some.1 h;cases n with
  |zero=>exact(qe6 a).elim
  |succ n=>rw[evP.eq_def] at a;exact codeP_some.2 ⟨n,a⟩
 .exact q58
theorem q5z{a b:Code}:jL X f nt n0 (.seq a b) e H=match zk X f nt n0 a e H with
  |some (.normal,d,g)=>jL X f nt n0 b d g
  |some _=>none
  |none=>jL X f nt n0 a e H:=by
 apply qel;intro r;constructor
 .intro h;obtain⟨n,c⟩:=codeP_some.1 h;cases n with
  |zero=>exact(qe6 c).elim
  |succ n=>
   rw[evP.eq_def] at c;simp only at c;split at c
   .rename_i hc;rw[hc];exact codeP_some.2 ⟨n,c⟩
   .cases c
   .rename_i hc;rw[hc];exact codeP_some.2 ⟨n,c⟩
 .intro h;split at h
  .rename_i hc;exact q56 hc h
  .cases h
  .exact q57 h
theorem q52{c:Code}:jL X f nt n0 (.loop c) e H=match zk X f nt n0 c e H with
  |some (.normal,b,d)=>jL X f nt n0 (.loop c) b d
  |some _=>none
  |none=>jL X f nt n0 c e H:=by
 apply qel;intro r;constructor
 .intro h;obtain⟨n,a⟩:=codeP_some.1 h;cases n with
  |zero=>exact(qe6 a).elim
  |succ n=>
   rw[evP.eq_def] at a;simp only at a;split at a
   .rename_i hc;rw[hc];exact codeP_some.2 ⟨n,a⟩
   .cases a
   .rename_i hc;rw[hc];exact codeP_some.2 ⟨n,a⟩
 .intro h;split at h
  .rename_i hc;exact q5A hc h
  .cases h
  .exact q5B h
theorem qz2{n:Nat}{g:Nat}{args:List D}{d:D}(h:Vr X (evP X n) g args=some d):QE X g args=some d:=qnY (fun _ _ _ _ _ _ _ a=>codeP_some.2 ⟨n,a⟩) h
theorem q51{id:Nat}{a:Array Oper}:jL X f nt n0 (.region id a false) e H=match enter X f n0 id e H with
  |some (i,d)=>QZ X (QE X) nt (YM X f id false a) a a.toList i d
  |none=>none:=by
 apply qel;intro r;constructor
 .intro h;obtain⟨n,b⟩:=codeP_some.1 h;cases n with
  |zero=>exact(qe6 b).elim
  |succ n=>
   rw[evP.eq_def] at b;simp only at b;split at b
   .rename_i c;rw[c];exact qh5 (fun _ _ _ g=>qz2 g) b
   .cases b
 .intro h;split at h
  .rename_i c;exact q59 c h
  .cases h
theorem q53{id:Nat}{a:Array Oper}:jL X f nt n0 (.region id a true) e H=none:=by
 apply qel;intro r;constructor
 .intro h;obtain⟨n,b⟩:=codeP_some.1 h;cases n with
  |zero=>exact(qe6 b).elim
  |succ n=>rw[evP.eq_def] at b;cases b
 .intro h;cases h
inductive OutC where
 |fin (ex:Ex) (e:qu) (H:qe)
 |pan (d:D) (H:qe)
noncomputable def jB(X:Cx)(f nt n0:Nat)(c:Code)(e:qu)(H:qe):Option OutC:=
 match zk X f nt n0 c e H with
 |some (a,e,H)=>some (.fin a e H)
 |none=>(jL X f nt n0 c e H).map fun p=>.pan p.1 p.2
theorem q5F{a b:Code}:jB X f nt n0 (.seq a b) e H=match jB X f nt n0 a e H with
  |some (.fin .normal d c)=>jB X f nt n0 b d c
  |o=>o:=by
 unfold jB;rw[ql7,q5z];cases h:zk X f nt n0 a e H with
 |none=>cases jL X f nt n0 a e H<;>rfl
 |some q=>
  obtain⟨g,d,c⟩:=q;cases g with
  |normal=>simp only
  |exit i=>rfl
  |ret=>rfl
theorem q5I{c:Code}:jB X f nt n0 (.loop c) e H=match jB X f nt n0 c e H with
  |some (.fin .normal d b)=>jB X f nt n0 (.loop c) d b
  |o=>o:=by
 have h:jB X f nt n0 (.loop c) e H=match zk X f nt n0 (.loop c) e H with
  |some (a,e,H)=>some (.fin a e H)
  |none=>(jL X f nt n0 (.loop c) e H).map fun p=>.pan p.1 p.2:=rfl
 rw[h,qgI,q52]
 have g:jB X f nt n0 c e H=match zk X f nt n0 c e H with
  |some (a,e,H)=>some (.fin a e H)
  |none=>(jL X f nt n0 c e H).map fun p=>.pan p.1 p.2:=rfl
 rw[g];cases j:zk X f nt n0 c e H with
 |none=>cases jL X f nt n0 c e H<;>rfl
 |some q=>
  obtain⟨a,d,b⟩:=q;cases a with
  |normal=>simp only;rfl
  |exit i=>rfl
  |ret=>rfl
theorem q5L{c:Operand}{a b:Code}:jB X f nt n0 (.cond c a b) e H=match qY X e c with
  |some (.bool t)=>jB X f nt n0 (if t then a else b) e H
  |_=>none:=by
 unfold jB;rw[ql9,q54];cases qY X e c with
 |none=>rfl
 |some d=>cases d<;>rfl
theorem q5M{id:Nat}{c:Code}:jB X f nt n0 (.block id c) e H=match jB X f nt n0 c e H with
  |some (.fin (.exit i) b a)=>if i=id then some (.fin .normal b a) else some (.fin (.exit i) b a)
  |o=>o:=by
 unfold jB;rw[qlA,q55];cases g:zk X f nt n0 c e H with
 |none=>cases jL X f nt n0 c e H<;>rfl
 |some q=>
  obtain⟨d,b,a⟩:=q;cases d with
  |normal=>rfl
  |exit i=>by_cases hi:i=id<;>simp[hi]
  |ret=>rfl
theorem q5G{c:Code}:jB X f nt n0 (.scope c) e H=jB X f nt n0 c e H:=by
 unfold jB;rw[ql8,q50]
theorem q5E:jB X f nt n0 .skip e H=some (.fin .normal e H):=by unfold jB;rw[qvn]
theorem q5J{l:Nat}:jB X f nt n0 (.label l) e H=some (.fin .normal e H):=by unfold jB;rw[qvp]
theorem q5K{i:Nat}:jB X f nt n0 (.exit i) e H=some (.fin (.exit i) e H):=by unfold jB;rw[qvq]
theorem q5H:jB X f nt n0 .ret e H=some (.fin .ret e H):=by unfold jB;rw[qvo]
variable {Q:Ex->qu->qe->Prop} {P:D->qe->Prop} {fs:List Fr}
def RunO(X:Cx)(f nt n0:Nat)(Q:Ex->qu->qe->Prop)(P:D->qe->Prop):List Fr->Option OutC->Prop
 |_,none=>False
 |_,some (.pan d H)=>P d H
 |[],some (.fin a e H)=>Q a e H
 | .seq b::fs,some (.fin .normal e H)=>RunO X f nt n0 Q P fs (jB X f nt n0 b e H)
 | .seq _::fs,some (.fin a e H)=>RunO X f nt n0 Q P fs (some (.fin a e H))
 | .block id::fs,some (.fin (.exit i) e H)=>if i=id then RunO X f nt n0 Q P fs (some (.fin .normal e H)) else RunO X f nt n0 Q P fs (some (.fin (.exit i) e H))
 | .block _::fs,some (.fin a e H)=>RunO X f nt n0 Q P fs (some (.fin a e H))
variable {a b c:Code}
theorem qa9:RunO X f nt n0 Q P fs none=False:=by unfold RunO;rfl
theorem qb7{d:D}:RunO X f nt n0 Q P fs (some (.pan d H))=P d H:=by unfold RunO;rfl
theorem qcN{a:Ex}:RunO X f nt n0 Q P [] (some (.fin a e H))=Q a e H:=by unfold RunO;rfl
theorem qnj:RunO X f nt n0 Q P (.seq b::fs) (some (.fin .normal e H))=RunO X f nt n0 Q P fs (jB X f nt n0 b e H):=by rw[RunO]
theorem qnk{i:Nat}:RunO X f nt n0 Q P (.seq b::fs) (some (.fin (.exit i) e H))=RunO X f nt n0 Q P fs (some (.fin (.exit i) e H)):=by rw[RunO];intro h;cases h
theorem qni:RunO X f nt n0 Q P (.seq b::fs) (some (.fin .ret e H))=RunO X f nt n0 Q P fs (some (.fin .ret e H)):=by rw[RunO];intro h;cases h
theorem qnm{id:Nat}:RunO X f nt n0 Q P (.block id::fs) (some (.fin .normal e H))=RunO X f nt n0 Q P fs (some (.fin .normal e H)):=by rw[RunO];intro i h;cases h
theorem qnl{id:Nat}:RunO X f nt n0 Q P (.block id::fs) (some (.fin .ret e H))=RunO X f nt n0 Q P fs (some (.fin .ret e H)):=by rw[RunO];intro i h;cases h
theorem qnn{id i:Nat}:RunO X f nt n0 Q P (.block id::fs) (some (.fin (.exit i) e H))=if i=id then RunO X f nt n0 Q P fs (some (.fin .normal e H)) else RunO X f nt n0 Q P fs (some (.fin (.exit i) e H)):=by rw[RunO]
theorem qyh:RunO X f nt n0 Q P fs (jB X f nt n0 (.seq a b) e H)=RunO X f nt n0 Q P (.seq b::fs) (jB X f nt n0 a e H):=by
 rw[q5F];cases h:jB X f nt n0 a e H with
 |none=>simp[qa9]
 |some q=>
  cases q with
  |pan d c=>simp[qb7]
  |fin g j c=>
   cases g with
   |normal=>rw[qnj]
   |exit i=>rw[qnk]
   |ret=>rw[qni]
theorem qyl{id:Nat}:RunO X f nt n0 Q P fs (jB X f nt n0 (.block id c) e H)=RunO X f nt n0 Q P (.block id::fs) (jB X f nt n0 c e H):=by
 rw[q5M];cases h:jB X f nt n0 c e H with
 |none=>simp[qa9]
 |some q=>
  cases q with
  |pan d a=>simp[qb7]
  |fin b g a=>
   cases b with
   |normal=>rw[qnm]
   |exit i=>rw[qnn];by_cases hi:i=id<;>simp[hi]
   |ret=>rw[qnl]
theorem qyi:RunO X f nt n0 Q P fs (jB X f nt n0 (.scope c) e H)=RunO X f nt n0 Q P fs (jB X f nt n0 c e H):=by rw[q5G]
theorem RunO.mono{o:Option OutC}{R:Ex->qu->qe->Prop}(h:RunO X f nt n0 R P [] o)(c:∀a e H,R a e H->RunO X f nt n0 Q P fs (some (.fin a e H))):RunO X f nt n0 Q P fs o:=by
 cases o with
 |none=>rw[qa9] at h;exact h.elim
 |some q=>
  cases q with
  |pan d b=>rw[qb7] at h⊢;exact h
  |fin a g b=>
   rw[qcN] at h;exact c _ _ _ h
theorem RunO.loop{σ:Type}(I:σ->qu->qe->Prop)(m:σ->Nat)
  (step:∀s e H,I s e H->RunO X f nt n0 (fun ex l H'=>match ex with| .normal=>∃b,m b<m s/\I b l H'|ex=>Q ex l H') P [] (jB X f nt n0 c e H)):
  ∀s e H,I s e H->RunO X f nt n0 Q P [] (jB X f nt n0 (.loop c) e H):=by
 suffices h:∀k s e H,m s<k->I s e H->RunO X f nt n0 Q P [] (jB X f nt n0 (.loop c) e H) from
  fun s e H hi=>h (m s+1) s e H (Nat.lt_succ_self _) hi
 intro k
 induction k with
 |zero=>intro s e H h;omega
 |succ k n=>
  intro s e H t hi;have a:=step s e H hi;rw[q5I];cases j:jB X f nt n0 c e H with
  |none=>rw[j,qa9] at a;exact a.elim
  |some q=>
   rw[j] at a;cases q with
   |pan d g=>rw[qb7] at a;simp only[qb7];exact a
   |fin ex p g=>
    rw[qcN] at a;cases ex with
    |normal=>
     obtain⟨b,r,o⟩:=a;exact n b p g wC o
    |exit i=>simp only[qcN];exact a
    |ret=>simp only[qcN];exact a
theorem RunO.loopThen{σ:Type}(I:σ->qu->qe->Prop)(m:σ->Nat)(s:σ){e:qu}{H:qe}(g:I s e H)
  (step:∀s e H,I s e H->RunO X f nt n0 (fun ex b H'=>match ex with| .normal=>∃d,m d<m s/\I d b H'|ex=>RunO X f nt n0 Q P fs (some (.fin ex b H'))) P [] (jB X f nt n0 c e H)):
  RunO X f nt n0 Q P fs (jB X f nt n0 (.loop c) e H):=by
 have h:=RunO.loop (Q:=fun ex e H=>ex≠.normal/\RunO X f nt n0 Q P fs (some (.fin ex e H))) I m (fun s e H hi=>by
  refine RunO.mono (step s e H hi) ?_;intro ex b H' a;rw[qcN];cases ex with
  |normal=>exact a
  |exit i=>exact⟨wE,a⟩
  |ret=>exact⟨wE,a⟩) s e H g
 exact RunO.mono h fun ex e H a=>a.2
noncomputable def qbG(X:Cx)(P:Nat->List D->Option D)(nt:Nat)(bw:Bool):List SOp->qu->qe->Option (D×qe)
 |[],_,_=>none
 |o::l,e,H=>match km nt o.dst,Kq e o.g with
  |true,some true=>match qZ X (call X) bw o.op e H with
   |some (d,H')=>qbG X P nt bw l (jN e o.dst d) H'
   |none=>(Z4 X P o.op e).map (·,H)
  |true,some false=>qbG X P nt bw l (jN e o.dst (.tup [])) H
  |_,_=>none
theorem qoi{b:Nat->List D->Option D}{bw:Bool}(a:Array Oper):∀(l:List Oper)(e:qu)(H:qe),QZ X b nt bw a l e H=qbG X b nt bw (Zl a l) e H
 |[],e,H=>rfl
 |o::l,e,H=>by
  have c:Kq e (qcI a o).g=vM a e o.guard:=(qkN a e o.guard).symm;rw[QZ];show _=qbG X b nt bw (qcI a o::Zl a l) e H;rw[qbG,c];simp only[qoi a l];rfl
def JZ(X:Cx)(f nt n0:Nat)(Q:Ex->qu->qe->Prop)(P:D->qe->Prop)(fs:List Fr)(a:Bool)(l:List SOp)(e:qu)(H:qe):Prop:=
 match XP X (call X) nt a l e H with
 |some (c,b)=>RunO X f nt n0 Q P fs (some (.fin .normal c b))
 |none=>match qbG X (QE X) nt a l e H with
  |some (d,b)=>P d b
  |none=>False
def qc3(X:Cx)(f nt n0:Nat)(Q:Ex->qu->qe->Prop)(P:D->qe->Prop)(fs:List Fr)(a:Bool)(l:List SOp)(e:qu)(H:qe)(dst:Option Tmp)(op:Op):Option (D×qe)->Prop
 |none=>match Z4 X (QE X) op e with
  |some d=>P d H
  |none=>False
 |some (d,H)=>JZ X f nt n0 Q P fs a l (jN e dst d) H
def qc4(X:Cx)(f nt n0:Nat)(Q:Ex->qu->qe->Prop)(P:D->qe->Prop)(fs:List Fr)(a:Bool)(dst:Option Tmp)(op:Op)(c:Bool)(l:List SOp)(e:qu)(H:qe):Option D->Prop
 |some (.bool b)=>if b=c then qc3 X f nt n0 Q P fs a l e H dst op (qZ X (call X) a op e H) else JZ X f nt n0 Q P fs a l (jN e dst (.tup [])) H
 |some (.tup [])=>JZ X f nt n0 Q P fs a l (jN e dst (.tup [])) H
 |_=>False
theorem qyo{a:Bool}:JZ X f nt n0 Q P fs a [] e H=RunO X f nt n0 Q P fs (some (.fin .normal e H)):=rfl
theorem qyp{a:Bool}{dst:Option Tmp}{op:Op}{l:List SOp}{d:D}{H':qe}:qc3 X f nt n0 Q P fs a l e H dst op (some (d,H'))=JZ X f nt n0 Q P fs a l (jN e dst d) H':=rfl
theorem qyq{a:Bool}{dst:Option Tmp}{op:Op}{l:List SOp}:qc3 X f nt n0 Q P fs a l e H dst op none=match Z4 X (QE X) op e with
  |some d=>P d H
  |none=>False:=rfl
theorem qys{a:Bool}{dst:Option Tmp}{op:Op}{l:List SOp}{c b:Bool}:qc4 X f nt n0 Q P fs a dst op c l e H (some (.bool b))=
  if b=c then qc3 X f nt n0 Q P fs a l e H dst op (qZ X (call X) a op e H) else JZ X f nt n0 Q P fs a l (jN e dst (.tup [])) H:=rfl
theorem qyr{a:Bool}{dst:Option Tmp}{op:Op}{l:List SOp}{b:Bool}:qc4 X f nt n0 Q P fs a dst op b l e H (some (.tup []))=JZ X f nt n0 Q P fs a l (jN e dst (.tup [])) H:=rfl
theorem qyn{a:Bool}{dst:Option Tmp}{op:Op}{l:List SOp}:JZ X f nt n0 Q P fs a (⟨dst,op,none⟩::l) e H=
  (km nt dst=true/\qc3 X f nt n0 Q P fs a l e H dst op (qZ X (call X) a op e H)):=by
 unfold JZ;simp only[XP,qbG,Kq];cases km nt dst with
 |false=>simp
 |true=>
  cases qZ X (call X) a op e H with
  |none=>cases b:Z4 X (QE X) op e<;>simp[qc3,b]
  |some q=>simp[qc3,JZ]
theorem qym{c:Bool}{dst:Option Tmp}{op:Op}{l:List SOp}{t:Tmp}{a:Bool}:JZ X f nt n0 Q P fs c (⟨dst,op,some (some t,a)⟩::l) e H=
  (km nt dst=true/\qc4 X f nt n0 Q P fs c dst op a l e H (qi e t)):=by
 unfold JZ;simp only[XP,qbG,Kq];cases km nt dst with
 |false=>simp
 |true=>
  cases qi e t with
  |none=>simp[qc4]
  |some d=>
   cases d with
   |bool b=>
    by_cases g:b=a
    .subst g;simp only[beq_self_eq_true,qc4,if_true,true_and];cases qZ X (call X) c op e H with
     |none=>cases h:Z4 X (QE X) op e<;>simp[qc3,h]
     |some q=>simp[qc3,JZ]
    .have:(b==a)=false:=xD;simp[qc4,g,this,JZ]
   |tup cs=>
    cases cs with
    |nil=>simp[qc4,JZ]
    |cons=>simp[qc4]
   |_=>simp[qc4]
def qiP(X:Cx)(f nt n0:Nat)(Q:Ex->qu->qe->Prop)(P:D->qe->Prop)(fs:List Fr)(a:Bool)(l:List SOp):Option (qu×qe)->Prop
 |none=>False
 |some (e,H)=>JZ X f nt n0 Q P fs a l e H
theorem qyt{a:Bool}{l:List SOp}:qiP X f nt n0 Q P fs a l (some (e,H))=JZ X f nt n0 Q P fs a l e H:=rfl
theorem qyk{id:Nat}{a:Array Oper}:RunO X f nt n0 Q P fs (jB X f nt n0 (.region id a false) e H)=qiP X f nt n0 Q P fs (X.cv f id) (Zl a a.toList) (enter X f n0 id e H):=by
 unfold jB;rw[qi6,q51];cases enter X f n0 id e H with
 |none=>simp[qa9,qiP]
 |some q=>
  simp only[qiP,JZ,Jz,qis,qoi,YM];cases XP X (call X) nt (X.cv f id) (Zl a a.toList) q.1 q.2 with
  |some r=>simp
  |none=>
   simp only[Option.map_none];cases qbG X (QE X) nt (X.cv f id) (Zl a a.toList) q.1 q.2 with
   |none=>simp[qa9]
   |some p=>simp[qb7]
theorem qyj{id:Nat}{a:Array Oper}:RunO X f nt n0 Q P fs (jB X f nt n0 (.region id a true) e H)=Run X f nt n0 (fun b e H=>RunO X f nt n0 Q P fs (some (.fin b e H))) [] (zk X f nt n0 (.region id a true) e H):=by
 unfold jB;rw[q53];cases zk X f nt n0 (.region id a true) e H with
 |none=>simp[qa9]
 |some q=>obtain⟨b,d,c⟩:=q;simp
theorem qzv{a:Nat->List D->Option D}{x:Operand}:Z4 X a (.panic x) e=match qY X e x with
  |some (.iface t d)=>if idFree d&&vFree d then some (.iface t d) else none
  |_=>none:=rfl
theorem qzy{b:Nat->List D->Option D}{g:Operand}{args:Array Operand}{ts:Array TypeId}:Z4 X b (.call {callee:=.value g,args:=args,argTypes:=ts}) e=match vO X e args.toList with
  |some vs=>match qY X e g with
   |some (.fn f a)=>b f (vs++a)
   |_=>none
  |none=>none:=by
 unfold Z4;simp only;cases vO X e args.toList<;>rfl
theorem q4K{F:zG}{x:Operand}:zI X F (.panic x) e H=none:=rfl
theorem qf7{fn:Func}{args:List D}{r:D×qe}{d:D}(C:Prop)(i:X.P.funcs[f]?=some fn)(k:fn.body.isSome=true)(a:X.bad f=false/\X.con f args []=none)(m:args.all idFree=true)(o:idFree d=true/\vFree d=true)
  (h:RunO X f fn.ntmps ([]:qe).length (fun j e H=>Fin X (X.fzr f) fn.results.toList ([]:qe).length r j e H/\C) (fun d' _=>d'=d/\¬C) [] (jB X f fn.ntmps ([]:qe).length (vi (Zx fn)) (kr 0 args) [])) (l:(X.gr f&&X.byRef f)=false:=by rfl):
  (C->call X f args []=some r)/\(¬C->call X f args []=none/\QE X f args=some d):=by
 unfold jB at h;cases hc:zk X f fn.ntmps ([]:qe).length (vi (Zx fn)) (kr 0 args) [] with
 |some q=>
  obtain⟨j,t,s⟩:=q;rw[hc] at h;simp only[qcN] at h;exact⟨fun _=>qC i k a (by rw[hc,KC];exact h.1) l,fun g=>absurd h.2 g⟩
 |none=>
  rw[hc] at h;simp only at h;cases c:jL X f fn.ntmps ([]:qe).length (vi (Zx fn)) (kr 0 args) [] with
  |none=>rw[c] at h;simp[qa9] at h
  |some p=>
   rw[c] at h;simp only[jn,qb7] at h;obtain⟨rfl,g⟩:=h;have b:=qz4 i k a m o (H':=p.2) c;exact⟨fun n=>absurd n g,fun _=>⟨qz5 b,b⟩⟩
theorem qlM{fn:Func}{args:List D}{r p:D×qe}(C:Prop)(g:X.P.funcs[f]?=some fn)(j:fn.body.isSome=true)(a:X.bad f=false/\X.con f args H=none)
  (h:RunO X f fn.ntmps H.length (fun i e H'=>Fin X (X.fzr f) fn.results.toList H.length r i e H'/\C) (fun d' H'=>(d',H')=p/\¬C) [] (jB X f fn.ntmps H.length (vi (Zx fn)) (kr 0 args) H)) (k:(X.gr f&&X.byRef f)=false:=by rfl):
  (C->call X f args H=some r)/\(¬C->call X f args H=none/\YO X f args H=some p):=by
 unfold jB at h;cases hc:zk X f fn.ntmps H.length (vi (Zx fn)) (kr 0 args) H with
 |some q=>
  obtain⟨i,o,n⟩:=q;rw[hc] at h;simp only[qcN] at h;exact⟨fun _=>qC g j a (by rw[hc,KC];exact h.1) k,fun d=>absurd h.2 d⟩
 |none=>
  rw[hc] at h;simp only at h;cases c:jL X f fn.ntmps H.length (vi (Zx fn)) (kr 0 args) H with
  |none=>rw[c] at h;simp[qa9] at h
  |some m=>
   rw[c] at h;simp only[jn,qb7] at h;obtain⟨rfl,d⟩:=h;have b:=qz0 g j a.1 (r:=m) c;exact⟨fun l=>absurd l d,fun _=>⟨qz1 a.2 b,b⟩⟩
end
attribute [simp] q5E q5J q5K q5H q5L qa9 qb7 qcN qnj qnk qni qnm qnl qnn qyh qyl qyi qyo qyn qym qyp qyq qys qyr qyt qyk qyj qzv qzy q4K
end Go.Ev
namespace Go.Ev.S
open Go Go.Proofs Go.Ev
def Qe(c:Nat):D:=.iface 333 (.agg [.int .i64 (c:Nat)])
theorem qhA[MaxL][TxtC](c:Nat):(c=0->call cx 227 [.int .i64 (c:Nat)] []=some (.tup [],[]))/\(¬c=0->call cx 227 [.int .i64 (c:Nat)] []=none/\QE cx 227 [.int .i64 (c:Nat)]=some (Qe c)):=by
 refine qf7 (c=0) Tryz.func227 rfl ⟨rfl,rfl⟩ xE xY ?_;by_cases h:c=0
 .subst h;simp[Tryz.f227,Qe]
 .have a:((c:Int) !=0)=true:=VH;simp[Tryz.f227,Qe,h,a]
def qV(b:Sl UInt8)(h:HdP):List D:=(.vsl b.nil (qf b.l) b.l.length)::Enc.cells h
theorem qg0(h:HdP):(Enc.cells h).drop 67=.int .u64 (h.siz:Nat)::(Enc.cells h).drop 68:=h.dn (i:=0) wC
theorem qjf[MaxL][TxtC](b:Sl UInt8)(h:HdP)(k:b.l.length<=1000000)(a:Nat)(_:a<18446744073709551616):
  (¬(a<h.siz\/b.l.length<=a)->call cx 225 [.vptr (qV b h),.int .u64 a] []=some (.tup [],[]))/\
  (¬¬(a<h.siz\/b.l.length<=a)->call cx 225 [.vptr (qV b h),.int .u64 a] []=none/\QE cx 225 [.vptr (qV b h),.int .u64 a]=some (Qe 2)):=by
 have c:call cx 177 [.vptr (qV b h)] []=some (.int .u64 b.l.length,[]):=by
  refine qC Tryz.func177 rfl ⟨rfl,rfl⟩ ?_;have j:=zf (b.l.length:Int) (b.l.length:Int);simp[Tryz.f177,qV,j]
 refine qf7 _ Tryz.func225 rfl ⟨rfl,rfl⟩ xr xY ?_;have d:=qg0 h;by_cases e:a<h.siz
 .have f:=zq e;simp[Tryz.f225,Qe,d,e,f,qV]
 have f:=zw e;by_cases i:b.l.length<=a
 .have g:(b.l.length:Int)<=(a:Int):=by omega
  simp only[qV] at c⊢;simp[Tryz.f225,Qe,d,e,f,c,i,g]
 .have g:¬(b.l.length:Int)<=(a:Int):=by omega
  simp only[qV] at c⊢;simp[Tryz.f225,Qe,d,e,f,c,i,g]
def qgR(b:List UInt8)(a:Nat):List D:=[.int .u64 ((kp b a).headD 0:Nat),.vsl false (zg (kp b a).tail) (kp b a).tail.length]
theorem qw9[MaxL][TxtC](b:Sl UInt8)(h:HdP)(g:b.l.length<=1000000)(a:Nat)(s:a<18446744073709551616):
  (Q9 b.l h.siz a=0->call cx 224 [.optr 0 1 0,.optr 1 1 0,.optr 2 2 0] [some [.vptr (qV b h)],some [.int .u64 a],some [.int .u64 0,.vsl true [] 0]]=
   some (.tup [],[some [.vptr (qV b h)],some [.int .u64 a],some (qgR b.l a)]))/\
  (¬Q9 b.l h.siz a=0->call cx 224 [.optr 0 1 0,.optr 1 1 0,.optr 2 2 0] [some [.vptr (qV b h)],some [.int .u64 a],some [.int .u64 0,.vsl true [] 0]]=none/\
   ∃L,YO cx 224 [.optr 0 1 0,.optr 1 1 0,.optr 2 2 0] [some [.vptr (qV b h)],some [.int .u64 a],some [.int .u64 0,.vsl true [] 0]]=
   some (Qe (Q9 b.l h.siz a),[some [.vptr (qV b h)],some [.int .u64 a],some [.int .u64 0,.vsl true [] 0]]++L)):=by
 obtain⟨y,z⟩:=qjf b h g a s;obtain⟨v,u⟩:=qhA (Xq b.l a);have d:=qyO b g a s;by_cases e:a<h.siz\/b.l.length<=a
 .have i:Q9 b.l h.siz a=2:=by unfold Q9;rw[if_pos e]
  obtain⟨w3,q⟩:=z (fun n=>n e);rw[i];refine⟨wC,fun _=>?_⟩;have key:=qlM (X:=cx) (f:=224) (H:=[some [.vptr (qV b h)],some [.int .u64 a],some [.int .u64 0,.vsl true [] 0]]) (args:=[.optr 0 1 0,.optr 1 1 0,.optr 2 2 0]) (r:=(.tup [],[])) (p:=(Qe 2,[some [.vptr (qV b h)],some [.int .u64 a],some [.int .u64 0,.vsl true [] 0]])) False Tryz.func224 rfl ⟨rfl,rfl⟩ ?_
  .obtain⟨k,j⟩:=key.2 id;exact⟨k,[],by rw[J4];exact j⟩
  .simp only[qV] at w3 q⊢;simp[Tryz.f224,w3,q]
 have i:Q9 b.l h.siz a=Xq b.l a:=by unfold Q9;rw[if_neg e]
 have w3:=y e;rw[i];by_cases c:Xq b.l a=0
 .have o:=v c;rw[c] at d o;have w:call cx 227 [.int .i64 0] []=some (.tup [],[]):=o;have m:qc0 b.l a=.agg (qgR b.l a):=by unfold qc0;rw[if_pos c];rfl
  rw[m] at d;refine⟨fun _=>?_,fun n=>absurd c n⟩;refine qC Tryz.func224 rfl ⟨rfl,rfl⟩ ?_;simp only[qV,qgR] at w3 d⊢;obtain⟨x,hx⟩:=ql ((kp b.l a).headD 0);obtain⟨l,g⟩:=ql ((kp b.l a).tail);rw[hx,g] at d⊢;simp[Tryz.f224,w3,d,w]
 .obtain⟨A,t⟩:=u c;refine⟨fun h=>absurd h c,fun _=>?_⟩;have m:qc0 b.l a=.agg [.int .u64 0,.vsl true [] 0]:=by unfold qc0;rw[if_neg c]
  rw[m] at d;have key:=qlM (X:=cx) (f:=224) (H:=[some [.vptr (qV b h)],some [.int .u64 a],some [.int .u64 0,.vsl true [] 0]]) (args:=[.optr 0 1 0,.optr 1 1 0,.optr 2 2 0]) (r:=(.tup [],[])) (p:=(Qe (Xq b.l a),[some [.vptr (qV b h)],some [.int .u64 a],some [.int .u64 0,.vsl true [] 0]]++[some [.int .u64 0,.vsl true [] 0]])) False Tryz.func224 rfl ⟨rfl,rfl⟩ ?_
  .obtain⟨k,j⟩:=key.2 id;exact⟨k,_,j⟩
  .simp only[qV] at w3⊢;simp[Tryz.f224,w3,d,A,t]
@[instance_reducible] def qb2:TxtC:=⟨fun _ _ _=>none⟩
theorem qwH[MaxL]:@qlX _ qb2:=fun h=>by cases h
noncomputable instance txt1 [MaxL]:TxtC:=⟨fun f=>if f=179 then qbu (@cx _ qb2) 333 else fun _ _=>none⟩
theorem qwG[MaxL]:qlX:=by
 intro f args H r H' h ok w ι vs b d;replace h:(if f=179 then qbu (@cx _ qb2) 333 else fun _ _=>none) args H=some (r,H'):=h;by_cases c:f=179
 .rw[if_pos c] at h;subst c;have:=@qwN _ qb2 (@good _ qb2 qwH) args H H' r ok w ι vs h ⟨b.okS,b.glob,b.inj,b.blk⟩ d;refine this.mono ?_;rintro v w' ⟨ι',ok',a,e,i,g⟩;exact⟨ι',ok',⟨a.okS,a.glob,a.inj,a.blk⟩,e,i,g⟩
 .rw[if_neg c] at h;cases h
theorem qvi{X:Cx}{T g:Nat}{a:List D}{H H':qe}{r:D}(b:(X.gr g&&X.byRef g)=false)(h:call X g a H=some (r,H')):qbu X T [.fn g a] H=some (.int .i64 0,H'):=by
 simp only[qbu,b,h];rfl
theorem qvh{X:Cx}{T g:Nat}{a:List D}{H H':qe}{c:Int}(d:(X.gr g&&X.byRef g)=false)(h:call X g a H=none)(b:YO X g a H=some (.iface T (.agg [.int .i64 c]),H')):qbu X T [.fn g a] H=kW false H.length H' (.int .i64 c):=by
 simp only[qbu,d,h,b];simp
def qfF(b:List UInt8)(sz a:Nat):D:=if Q9 b sz a=0 then .agg (qgR b a) else .agg [.int .u64 0,.vsl true [] 0]
theorem qw8[MaxL](b:Sl UInt8)(h:HdP)(n:b.l.length<=1000000)(a:Nat)(p:a<18446744073709551616):
  call cx 178 [.vptr (qV b h),.int .u64 a] []=some (.tup [qfF b.l h.siz a,.int .i64 (Q9 b.l h.siz a:Nat)],[]):=by
 obtain⟨m,j⟩:=@qw9 _ qb2 b h n a p;have r:idFree (.fn 224 [.optr 0 1 0,.optr 1 1 0,.optr 2 2 0])=false:=xE
 have o:∃(x:Nat)(e:Bool)(l:List Nat),qfF b.l h.siz a=.agg [.int .u64 (x:Nat),.vsl e (zg l) l.length]/\qbu (@cx _ qb2) 333 [.fn 224 [.optr 0 1 0,.optr 1 1 0,.optr 2 2 0]] [some [.vptr (qV b h)],some [.int .u64 a],some [.int .u64 0,.vsl true [] 0]]=
   some (.int .i64 (Q9 b.l h.siz a:Nat),[some [.vptr (qV b h)],some [.int .u64 a],some [.int .u64 (x:Nat),.vsl e (zg l) l.length]]):=by
  by_cases d:Q9 b.l h.siz a=0
  .refine⟨_,_,_,by unfold qfF;rw[if_pos d];rfl,?_⟩;rw[d];exact qvi rfl (m d)
  .obtain⟨q,L,k⟩:=j d;refine⟨0,true,[],by unfold qfF;rw[if_neg d];rfl,?_⟩;rw[qvh rfl q k];simp[kW,qbE,qV]
 obtain⟨x,e,l,i,g⟩:=o;rw[i];have c:=qeE (X:=cx) (f:=179) (show cx.con 179 [.fn 224 [.optr 0 1 0,.optr 1 1 0,.optr 2 2 0]] [some [.vptr (qV b h)],some [.int .u64 a],some [.int .u64 0,.vsl true [] 0]]=_ from g);refine qC Tryz.func178 rfl ⟨rfl,rfl⟩ ?_;simp only[qV] at c⊢;simp[Tryz.f178,c]
def J8(l:List (List UInt8)):List D:=l.map fun p=>.vsl false (qf p) p.length
def xrP:List (List UInt8)->Int->Int
 |[],v=>v
 |p::l,v=>xrP l (qK .u64 v (YR p))
theorem qmg(b:List UInt8):∀(l:List (Nat×Nat))(v:Int),qjb b l v=xrP (l.map fun x=>Qv b x.1) v
 |[],_=>rfl
 |_::l,_=>qmg b l _
theorem qzi{l:List (List UInt8)}{i:Nat}(h:i<l.length):(J8 l).drop i=.vsl false (qf l[i]) l[i].length::(J8 l).drop (i+1):=by
 rw[jo (by simpa[J8] using h)];simp[J8]
theorem q4B[MaxL][TxtC](l:List (List UInt8))(b:Bool)(q:b=true->l=[])(t:l.length<=1000)(o:∀p,p∈l->p.length<=1000000):call cx 232 [.vsl b (J8 l) l.length] []=some (.int .u64 (xrP l 0),[]):=by
 refine qC Tryz.func232 rfl ⟨rfl,rfl⟩ ?_;obtain⟨R,m⟩:=ql (xrP l 0);rw[m];simp[Tryz.f232];refine Run.loopThen (fun(k:Nat) e H=>k<=l.length/\H=[]/\qi e 6=some (.vsl b (J8 l) l.length)/\qi e 7=some (.int .i64 l.length)/\qi e 8=some (.int .i64 k)/\∃v,qi e 3=some (.int .u64 v)/\xrP (l.drop k) v=R) (fun k=>l.length-k) 0 ?_ ?_
 .exact⟨wC,rfl,wE,wE,wE,0,wE,by simpa using m⟩
 rintro k e H ⟨u,rfl,i,f,j,v,g,c⟩;by_cases a:k<l.length
 .have d:=zq a;have n:=qz ((k:Int)+1) ((k+1:Nat):Int);have s:=qzi a;have h:=qoZ (Sl.mk false l[k] wE) (by have:=o _ (vC a);simp only;omega);rw[jo a,xrP] at c;simp only at h
  have r:b=false:=by
   cases b with
   |false=>rfl
   |true=>rw[q rfl] at a;simp at a
  subst r;generalize l[k]=p at *;simp[g,i,f,j,d,n,s,h];exact⟨k+1,wC,wC,wC,c⟩
 .have d:=zw a;rw[List.drop_of_length_le wC,xrP] at c;subst c;simp[g,i,f,j,d]
theorem q6L(n:Nat)(h:n<4294967296):(Y7 .u32 (n:Int) 4 !=0)=decide (n&&&4≠0):=by
 have b:(4:Int)=((4:Nat):Int):=rfl;rw[b,q6K rfl (by simpa[IntKind.bits] using h) wH];have c:n&&&4<=4:=Nat.and_le_right;by_cases a:n&&&4=0
 .simp[a]
 .have:((n&&&4:Nat):Int)≠0:=by omega
  simp[a]
theorem qw3[MaxL][TxtC](b:Sl UInt8)(h:HdP)(hi:h.incompat<4294967296)(s:Sl UInt8)(d:s.l.length<1000000):call cx 262 [.vptr (qV b h),(.vsl s.nil (qf s.l) s.l.length)] []=some (.int .u64 (qe1 (qfn h) h.file.l s.l),[]):=by
 have e:=qze (qfn h) h.file s d;have a:=q6L h.incompat hi;have g:decide (h.incompat&&&4≠0)=qfn h:=rfl;rw[g] at a;have f:=h.d1;have c:=h.d3;have i:(qf h.file.l).length=16:=by simp[qf,h.file.h]
 refine qC Tryz.func262 rfl ⟨rfl,rfl⟩ ?_;simp[Tryz.f262,qV,f,c,a,e]
def Xw(b:List UInt8)(h:HdP)(a:Nat):Nat:=if a<h.siz\/b.length<=a then 2 else Qw b a
theorem qw6[MaxL][TxtC](b:Sl UInt8)(h:HdP)(m:b.l.length<=1000000)(a:Nat)(n:a<18446744073709551616):
  (Xw b.l h a=0->call cx 261 [.vptr (qV b h),.int .u64 a] []=some (.agg (qeA b.l a),[]))/\
  (¬Xw b.l h a=0->call cx 261 [.vptr (qV b h),.int .u64 a] []=none/\QE cx 261 [.vptr (qV b h),.int .u64 a]=some (Qe (Xw b.l h a))):=by
 obtain⟨t,u⟩:=qjf b h m a n;obtain⟨r,q⟩:=qhA (Qw b.l a);have d:=qzY b m a n;unfold ql3 at d;refine qf7 _ Tryz.func261 rfl ⟨rfl,rfl⟩ xr xY ?_;by_cases f:a<h.siz\/b.l.length<=a
 .have g:Xw b.l h a=2:=by unfold Xw;rw[if_pos f]
  obtain⟨w3,k⟩:=u (fun i=>i f);rw[g];simp only[qV] at w3 k⊢;simp[Tryz.f261,w3,k]
 have g:Xw b.l h a=Qw b.l a:=by unfold Xw;rw[if_neg f]
 have w3:=t f;rw[g];by_cases e:Qw b.l a=0
 .have j:=r e;rw[if_pos e] at d;rw[e] at d j⊢;have s:call cx 227 [.int .i64 0] []=some (.tup [],[]):=j;obtain⟨y,x,G,B,H⟩:=qgB e;have i:(KB b.l a).length=6:=by unfold KB;rw[jc,qcY];omega
  unfold qeA at d⊢;generalize KB b.l a=l at *;generalize Qv b.l a=p at *;simp only[qV] at w3⊢
  match l,i with
  |[A,C,E,z,w,F],_=>
   simp only[zg,List.map] at d⊢;simp[Tryz.f261,w3,d,s]
 .obtain⟨v,o⟩:=q e;rw[if_neg e] at d;simp only[qV,ql2] at w3 d⊢;generalize Qw b.l a=c at *;simp[Tryz.f261,w3,d,v,o,e]
theorem qmS{b:List UInt8}{a:Nat}(h:Qw b a=0):KB b a=[qf3 b a,qT (qN b a) 8,qT (qN b a) 16,qT (qN b a) 24,qT (qN b a) 32,qT (qN b a) 40]:=by
 obtain⟨m,g,e,k,l⟩:=qgB h;have d:(KB b a).length=6:=by unfold KB;rw[jc,qcY];omega
 apply List.ext_getElem
 .rw[d];rfl
 .intro i j f;have hi:i<6:=by omega
  have c:(KB b a)[i]=qT (qN b a) (8*i):=by simp[KB,jU]
  rw[c]
  match i,hi with
  |0,_=>rfl
  |1,_=>rfl
  |2,_=>rfl
  |3,_=>rfl
  |4,_=>rfl
  |5,_=>rfl
theorem qw2[MaxL][TxtC](b:Sl UInt8)(h:HdP)(hi:h.incompat<4294967296)(r:b.l.length<=1000000)(a:Nat)(v:a<18446744073709551616):
  (Yc b.l h a=0->call cx 230 [.vptr (qV b h),.int .u64 a] []=some (.agg (qeA b.l a),[]))/\
  (¬Yc b.l h a=0->call cx 230 [.vptr (qV b h),.int .u64 a] []=none/\QE cx 230 [.vptr (qV b h),.int .u64 a]=some (Qe (Yc b.l h a))):=by
 obtain⟨t,u⟩:=qw6 b h r a v;refine qf7 _ Tryz.func230 rfl ⟨rfl,rfl⟩ xr xY ?_
 have s:Yc b.l h a=if Xw b.l h a≠0 then Xw b.l h a else if(qf3 b.l a:Int)≠qe1 (qfn h) h.file.l (Qv b.l a) then 9 else 0:=by
  unfold Yc Xw;by_cases e:a<h.siz\/b.l.length<=a
  .rw[if_pos e,if_pos e];rfl
  .rw[if_neg e,if_neg e]
 rw[s];by_cases d:Xw b.l h a=0
 .rw[if_neg xR];have w3:=t d
  have k:Qw b.l a=0:=by
   unfold Xw at d;split at d
   .omega
   .exact d
  obtain⟨y,x,F,A,G⟩:=qgB k;have i:(Qv b.l a).length<1000000:=by unfold Qv;rw[vg];omega
  have f:=qw3 b h hi (Sl.mk false (Qv b.l a) wE) i;unfold qeA at w3⊢;rw[qmS k] at w3⊢;simp only at f;generalize Qv b.l a=p at *;generalize qf3 b.l a=n at *;generalize qT (qN b.l a) 8=B at *;generalize qT (qN b.l a) 16=C at *;generalize qT (qN b.l a) 24=z at *;generalize qT (qN b.l a) 32=w at *;generalize qT (qN b.l a) 40=E at *;generalize qe1 (qfn h) h.file.l p=o at *;simp only[qV,zg,List.map] at w3 f⊢;by_cases g:(n:Int)=o
  .subst g;simp[Tryz.f230,w3,f]
  .have j:((n:Int) !=o)=true:=(by simp only[bne_iff_ne,ne_eq];exact g);simp[Tryz.f230,w3,f,g,j,Qe]
 .obtain⟨q,m⟩:=u d;rw[if_pos d];simp only[qV] at q m⊢;generalize Xw b.l h a=c at *;simp[Tryz.f230,q,m,d]
def KA(b:List UInt8)(h:HdP)(a:Nat):Nat:=if a<h.siz\/b.length<=a then 2 else JU b a
def qct(b:List UInt8)(a:Nat):List D:=qfz (qN b a) (.vsl false (kh (vP (qN b a))) (vP (qN b a)).length)
theorem quI{b:List UInt8}{a:Nat}(h:JU b a=0):kU b a=0/\48<(qN b a).length/\((qN b a).length-48) % 16=0/\(qN b a).length<=b.length:=by
 unfold JU at h;split at h
 · omega
 rename_i g;have c:vX b a 3 48 16=0:=wC
 unfold vX at c;split at c
 · omega
 rename_i f;have d:kU b a=0:=wC
 have i:=qfB d;have e:=qe3 d;split at c
 · omega
 split at c
 · omega
 refine⟨d,wC,wC,wC⟩
theorem q5c{b:List UInt8}{a:Nat}(h:JU b a=0):(qct b a).length=21:=by
 obtain⟨d,c,f,e⟩:=quI h;unfold qct qfz;simp[qf];omega
theorem q5d(b:List UInt8)(a:Nat):idFree.idFreeL (qct b a)=true:=by
 have d:idFree.idFreeL (qf (((qN b a).drop 24).take 16))=true:=by
  rw[Q0,qgV];intro x hx;obtain⟨c,_,rfl⟩:=List.mem_map.1 hx;rfl
 unfold qct qfz;rw[Q0] at d⊢;simp only[Va,List.all_append,d,idFree];rfl
theorem qw4[MaxL][TxtC](b:Sl UInt8)(h:HdP)(p:b.l.length<=1000000)(a:Nat)(q:a<18446744073709551616):
  (KA b.l h a=0->call cx 229 [.vptr (qV b h),.int .u64 a] []=some (.agg (qct b.l a),[]))/\
  (¬KA b.l h a=0->call cx 229 [.vptr (qV b h),.int .u64 a] []=none/\QE cx 229 [.vptr (qV b h),.int .u64 a]=some (Qe (KA b.l h a))):=by
 obtain⟨y,A⟩:=qjf b h p a q;obtain⟨v,u⟩:=qhA (JU b.l a);have f:=q4N b p a q;unfold qgA at f;refine qf7 _ Tryz.func229 rfl ⟨rfl,rfl⟩ xr xY ?_;by_cases i:a<h.siz\/b.l.length<=a
 .have j:KA b.l h a=2:=by unfold KA;rw[if_pos i]
  obtain⟨w3,o⟩:=A (fun z=>z i);rw[j];simp only[qV] at w3 o⊢;simp[Tryz.f229,w3,o]
 have j:KA b.l h a=JU b.l a:=by unfold KA;rw[if_neg i]
 have w3:=y i;rw[j];by_cases d:JU b.l a=0
 .have n:=v d;rw[if_pos d] at f;have k:=q5c d;have e:=q5d b.l a;have g:call cx 260 [(.vsl b.nil (qf b.l) b.l.length),.int .u64 a] []=some (.tup [.agg (qct b.l a),.int .i64 (JU b.l a:Nat)],[]):=f;rw[d] at g n⊢;have x:call cx 227 [.int .i64 0] []=some (.tup [],[]):=n;have w:call cx 260 [(.vsl b.nil (qf b.l) b.l.length),.int .u64 a] []=some (.tup [.agg (qct b.l a),.int .i64 0],[]):=g;generalize qct b.l a=C at *;have r:=zsh e;have s:List.take 21 C=C:=qH wC;have E:List.drop 21 C=[]:=List.drop_of_length_le wC;have m:=zcb e;simp only[qV] at w3⊢;simp[Tryz.f229,w3,w,x,k,e,s,m]
 .obtain⟨B,t⟩:=u d;rw[if_neg d] at f;simp only[qV,V7] at w3 f⊢;generalize JU b.l a=c at *;simp[Tryz.f229,w3,f,B,t,d]
theorem q2Q(x:List UInt8){k:Nat}(h:k<(vP x).length):(vP x)[k].1<18446744073709551616/\(vP x)[k].2<18446744073709551616:=by
 rw[qhP h];exact⟨qeQ _ _,qeQ _ _⟩
def Jn(b:List UInt8)(l:List (Nat×Nat)):List Pr:=l.map fun x=>qh1 (Qv b x.1)
def Zn(b:List UInt8)(l:List (Nat×Nat)):List (List UInt8):=l.map fun x=>Qv b x.1
theorem qw7{b:List UInt8}{h:HdP}{a:Nat}(c:Yc b h a=0):Qw b a=0:=by
 unfold Yc at c;split at c
 · omega
 split at c
 .omega
 .rename_i d;omega
theorem qnU(l:List (List UInt8)):idFree.idFreeL (J8 l)=true:=by
 rw[Q0,qgV];intro x hx;obtain⟨c,_,rfl⟩:=List.mem_map.1 hx;simp[idFree]
theorem qw0[MaxL][TxtC](b:Sl UInt8)(h:HdP)(hi:h.incompat<4294967296)(hl:b.l.length<=1000000)(a:Nat)(ha:a<18446744073709551616):
  (Qf b.l h a=0->call cx 181 [.vptr (qV b h),.int .u64 a] []=some (.agg (Enc.cells (Ya b.l a)),[]))/\
  (¬Qf b.l h a=0->call cx 181 [.vptr (qV b h),.int .u64 a] []=none/\QE cx 181 [.vptr (qV b h),.int .u64 a]=some (Qe (Qf b.l h a))):=by
 obtain⟨w1,w2⟩:=qw4 b h hl a ha;have aa:=fun a ha=>qw2 b h hi hl a ha;have B:=fun c=>qhA c;refine qf7 _ Tryz.func181 rfl ⟨rfl,rfl⟩ xr xY ?_
 have E:Qf b.l h a=if KA b.l h a≠0 then KA b.l h a else if 16<(vP (qN b.l a)).length then 21
   else if qbI b.l h (vP (qN b.l a))≠0 then qbI b.l h (vP (qN b.l a))
   else if(qT (qN b.l a) 40:Int)≠xrP (Zn b.l (vP (qN b.l a))) 0 then 10 else 0:=by
  unfold Qf KA;rw[qmg];by_cases jZ:a<h.siz\/b.l.length<=a
  .rw[if_pos jZ,if_pos jZ];rfl
  .rw[if_neg jZ,if_neg jZ];rfl
 obtain⟨V,hV⟩:=ql (qV b h);have aO:idFree.idFreeL V=true:=by rw[<-hV];simp[qV,idFree.idFreeL,idFree]
 rw[hV] at w1 w2 aa⊢;rw[E];by_cases h0:KA b.l h a≠0
 .obtain⟨o,m4⟩:=w2 h0;rw[if_pos h0];generalize KA b.l h a=c at *;simp[Tryz.f181,o,m4,h0]
 have zl:KA b.l h a=0:=wC
 rw[if_neg h0];have w3:=w1 zl
 have aw:JU b.l a=0:=by
  unfold KA at zl;split at zl
  .omega
  .exact zl
 obtain⟨f1,f2,f3,f4⟩:=quI aw;unfold qct qfz at w3
 have hR:Enc.cells (Ya b.l a)=.int .u64 (qT (qN b.l a) 0:Nat):: .int .u64 (qT (qN b.l a) 8:Nat):: .int .u64 (qT (qN b.l a) 16:Nat)::(qf (((qN b.l a).drop 24).take 16)++[.vsl false (qt (Jn b.l (vP (qN b.l a)))) (Jn b.l (vP (qN b.l a))).length]):=by
  rw[Rec.cells];unfold Ya;simp only;rw[qgy wC];rfl
 rw[hR];have qg:=fun{k} hk=>q2Q (qN b.l a) (k:=k) hk;have qR:=fun k hk=>qfq (vP (qN b.l a)) k hk;obtain⟨c0,c1,c2,c3,c4,c5,c6,c7,c8,c9,u,r,s,v,w,y,hB⟩:=qpi (((qN b.l a).drop 24).take 16) wG;have Z:qf [c0,c1,c2,c3,c4,c5,c6,c7,c8,c9,u,r,s,v,w,y]=(qay c0 c1 c2 c3 c4 c5 c6 c7 c8 c9 u r s v w y []):=rfl;rw[hB,Z] at w3⊢;have ae:=qfp (qN b.l a);obtain⟨I,hI⟩:=ql (vP (qN b.l a));obtain⟨s0,am⟩:=ql (qT (qN b.l a) 0);obtain⟨s1,Jr⟩:=ql (qT (qN b.l a) 8);obtain⟨s2,Qk⟩:=ql (qT (qN b.l a) 16);obtain⟨s5,XB⟩:=ql (qT (qN b.l a) 40);rw[hI,am,Jr,Qk,XB] at w3;rw[hI] at qg qR ae;rw[hI,am,Jr,Qk,XB];clear hR Z hB E h0 w1 w2;have aP:idFree.idFreeL (kh I)=true:=by rw[Q0];exact qhQ I
 by_cases Y4:16<I.length
 .have G:(16:Int)<(I.length:Int):=by omega
  rw[if_pos Y4];simp[Tryz.f181,w3,G,Qe]
 have G:¬(16:Int)<(I.length:Int):=wC
 rw[if_neg Y4];obtain⟨T,hT⟩:=ql (qbI b.l h I);obtain⟨R,z⟩:=ql ((if T≠0 then T else if(s5:Int)≠xrP (Zn b.l I) 0 then 10 else 0));rw[hT,z];simp[Tryz.f181,w3,G]
 refine RunO.loopThen (fun(k:Nat) e H=>k<=I.length/\qi e 0=some (.vptr V)/\qi e 4=some (.optr 0 20 0)/\qi e 5=some (.optr 1 21 0)/\qi e 6=some (.optr 2 20 0)/\qi e 32=some (.vsl false (kh I) I.length)/\qi e 33=some (.int .i64 I.length)/\qi e 34=some (.int .i64 k)/\qbI b.l h (I.drop k)=T/\
  ((k=0/\qi e 7=some (.vsl true [] 0)/\H=[some (.int .u64 0::.int .u64 0::.int .u64 0::qI [.vsl true [] 0]),some (.int .u64 (s0:Nat)::.int .u64 (s1:Nat)::.int .u64 (s2:Nat)::qay c0 c1 c2 c3 c4 c5 c6 c7 c8 c9 u r s v w y [.int .u64 (s5:Nat),.vsl false (kh I) I.length]),some (.int .u64 (s0:Nat)::.int .u64 (s1:Nat)::.int .u64 (s2:Nat)::qay c0 c1 c2 c3 c4 c5 c6 c7 c8 c9 u r s v w y [.vsl true [] 0])])\/
  (0<k/\qi e 7=some (.osl 3 k 0 k 1)/\H=[some (.int .u64 0::.int .u64 0::.int .u64 0::qI [.vsl true [] 0]),some (.int .u64 (s0:Nat)::.int .u64 (s1:Nat)::.int .u64 (s2:Nat)::qay c0 c1 c2 c3 c4 c5 c6 c7 c8 c9 u r s v w y [.int .u64 (s5:Nat),.vsl false (kh I) I.length]),some (.int .u64 (s0:Nat)::.int .u64 (s1:Nat)::.int .u64 (s2:Nat)::qay c0 c1 c2 c3 c4 c5 c6 c7 c8 c9 u r s v w y [.osl 4 (2*k) 0 k 2]),some (J8 (Zn b.l (I.take k))),some (qt (Jn b.l (I.take k)))]))) (fun k=>I.length-k) 0 ?_ ?_
 .exact⟨wC,wE,wE,wE,wE,wE,wE,wE,by simpa using hT,.inl ⟨rfl,wE,wE⟩⟩
 rintro k e H ⟨hk,L,M,N,O,i,g,d,n,hH⟩;by_cases kD:k<I.length
 .have m:=zq kD;have hw:=qz ((k:Int)+1) ((k+1:Nat):Int);have f:=qR k kD;rw[Nat.mul_comm] at f;have q:=qR k kD;obtain⟨l1,l2⟩:=qg kD
  have J:Zn b.l (I.take (k+1))=Zn b.l (I.take k)++[Qv b.l (I[k]).1]:=by
   unfold Zn;rw[Ky kD,List.map_append];rfl
  have C:Jn b.l (I.take (k+1))=Jn b.l (I.take k)++[qh1 (Qv b.l (I[k]).1)]:=by
   unfold Jn;rw[Ky kD,List.map_append];rfl
  rw[jo kD,qbI] at n;obtain⟨t,aF⟩:=ql ((I[k]).1);obtain⟨y2,aB⟩:=ql ((I[k]).2);rw[aF] at n l1 f q J C;rw[aB] at n l2 f q;obtain⟨p1,p2⟩:=aa t l1;by_cases Y:Yc b.l h t≠0
  .obtain⟨o,m4⟩:=p2 Y;rw[if_pos Y] at n;subst n;rw[if_pos Y] at z;subst z;generalize Yc b.l h t=c at *;rcases hH with⟨Q,j,rfl⟩|⟨Q,j,rfl⟩
   .simp[L,M,N,O,j,i,g,d,m,f,o,m4,Y]
   .simp[L,M,N,O,j,i,g,d,m,f,o,m4,Y]
  have au:Yc b.l h t=0:=wC
  rw[if_neg Y] at n;have o:=p1 au;have vF:=qw7 au;obtain⟨q1,q2,q3,q4,q5⟩:=qgB vF;have ak:(Qv b.l t).length<=1000000:=by unfold Qv;rw[vg];omega
  have K:=q4h (Sl.mk false (Qv b.l t) wE) ak;simp only at K;unfold qeA at o;rw[qmS vF] at o;simp only[zg,List.map] at o;clear p1 p2 q1 q2 q3 q4 q5;obtain⟨x0,ax⟩:=ql (qf3 b.l t);obtain⟨P,hP⟩:=ql (Qv b.l t);rw[ax] at o n;rw[hP] at o n K J C ak;generalize qT (qN b.l t) 8=x1 at *;generalize qT (qN b.l t) 16=x2 at *;generalize qT (qN b.l t) 24=x3 at *;generalize qT (qN b.l t) 32=x4 at *;generalize qT (qN b.l t) 40=x5 at *;by_cases hh:x0≠y2
  .rw[if_pos hh] at n;subst n;rw[if_pos wC] at z;subst z;have ao:((x0:Int) !=(y2:Int))=true:=VH;have aQ:¬x0=y2:=hh;have aN:¬(x0:Int)=(y2:Int):=wC;rcases hH with⟨Q,j,rfl⟩|⟨Q,j,rfl⟩
   .simp[L,M,N,O,j,i,g,d,m,f,o,ao,Qe]
   .simp[L,M,N,O,j,i,g,d,m,f,o,ao,Qe]
  rw[if_neg hh] at n;have ay:x0=y2:=wC
  subst ay;by_cases hs:Vo P≠0
  .obtain⟨m5,m6⟩:=(B (Vo P)).2 hs;rw[if_pos hs] at n;subst n;rw[if_pos hs] at z;subst z;unfold qhk at K;rw[if_neg hs] at K;generalize Vo P=c at *;rcases hH with⟨Q,j,rfl⟩|⟨Q,j,rfl⟩
   .simp[L,M,N,O,j,i,g,d,m,f,o,K,m5,m6,hs]
   .simp[L,M,N,O,j,i,g,d,m,f,o,K,m5,m6,hs]
  have aj:Vo P=0:=wC
  rw[if_neg hs] at n;have m5:call cx 227 [.int .i64 0] []=some (.tup [],[]):=(B 0).1 rfl;unfold qhk at K;rw[if_pos aj,aj] at K
  have W:qt (Jn b.l (I.take (k+1)))=qt (Jn b.l (I.take k))++[.str (QB P),.str (qa7 P)]:=by
   rw[C];simp[qt,qh1,Pr.cells]
  have S:J8 (Zn b.l (I.take (k+1)))=J8 (Zn b.l (I.take k))++[.vsl false (qf P) P.length]:=by
   rw[J];simp[J8]
  have ag:(qt (Jn b.l (I.take k))).length=2*k:=by
   rw[Pr.el];simp[Jn];omega
  have U:(J8 (Zn b.l (I.take k))).length=k:=by
   simp[J8,Zn];omega
  have ah:=qnU (Zn b.l (I.take k));have ac:idFree.idFreeL (qt (Jn b.l (I.take k)))=true:=wE
  have aA:(k+1)*32<=140737488355328:=wC
  have aK:(k+1)*24<=140737488355328:=wC
  have aG:k+1<=140737488355328:=wC
  have aJ:k*2=2*k:=wC
  rcases hH with⟨Q,j,rfl⟩|⟨Q,j,rfl⟩
  .have aI:qt (Jn b.l (I.take k))=[]:=List.length_eq_zero_iff.1 wC;have aD:J8 (Zn b.l (I.take k))=[]:=List.length_eq_zero_iff.1 wC;rw[aI,QW] at W;rw[aD,QW] at S;simp[L,M,N,O,j,i,g,d,m,f,o,K,m5,hw,qF];have e1:k+1=1:=wC;rw[e1] at n W S;exact⟨1,wC,wC,wC,n,wC,rfl,⟨rfl,rfl⟩,S.symm,W.symm⟩
  .generalize qt (Jn b.l (I.take k))=F at *;generalize J8 (Zn b.l (I.take k))=A at *;have qQ:¬k=0:=wC;simp[L,M,N,O,j,i,g,d,m,q,o,K,m5,hw,qF,ag,U,ah,ac,aA,aK,aG,aJ];exact⟨k+1,wC,wC,wC,n,wC,wC,⟨wC,rfl⟩,S.symm,W.symm⟩
 .have Qm:k=I.length:=by omega
  subst Qm;have m:¬(I.length:Int)<(I.length:Int):=wC
  have kM:0<I.length:=wC
  rcases hH with⟨Q,j,rfl⟩|⟨Q,j,rfl⟩
  .omega
  rw[List.drop_of_length_le (qA _),qbI] at n;subst n;rw[if_neg wE] at z;rw[List.take_length]
  have az:∀p,p∈Zn b.l I->p.length<=1000000:=by
   intro p Y;obtain⟨x,_,rfl⟩:=List.mem_map.1 Y;unfold Qv qN;simp only[vg,jc];omega
  have aE:(Zn b.l I).length=I.length:=by simp[Zn]
  have hx:=q4B (Zn b.l I) false wE wC az;have ah:=qnU (Zn b.l I);have U:(J8 (Zn b.l I)).length=I.length:=by simp[J8,Zn]
  have ai:=zfb ah
  have ag:(qt (Jn b.l I)).length=2*I.length:=by
   rw[Pr.el];simp[Jn];omega
  have ac:idFree.idFreeL (qt (Jn b.l I))=true:=wE
  have aL:(Jn b.l I).length=I.length:=by simp[Jn]
  rw[aL];rw[aE] at hx;generalize qt (Jn b.l I)=F at *;generalize J8 (Zn b.l I)=A at *;generalize xrP (Zn b.l I) 0=X at *;have aq:List.take I.length A=A:=qH wC;have aH:List.take (I.length*2) F=F:=qH wC;have aC:I.length*2<=2*I.length:=wC
  have aM:¬I.length=0:=wC
  by_cases hX:(s5:Int)=X
  .rw[if_neg (by simp[hX])] at z;subst z;simp[L,M,N,O,j,i,g,d,hx,hX,ag,U,ai,ac,aq,aH,aC]
  .rw[if_pos hX] at z;subst z;have av:((s5:Int) !=X)=true:=(by simp only[bne_iff_ne,ne_eq];exact hX);simp[L,M,N,O,j,i,g,d,hx,av,U,ai,aq,Qe]
theorem qw5[MaxL](b:Sl UInt8)(h:HdP)(c:b.l.length<=1000000):call cx 177 [.vptr (qV b h)] []=some (.int .u64 b.l.length,[]):=by
 refine qC Tryz.func177 rfl ⟨rfl,rfl⟩ ?_;have a:=zf (b.l.length:Int) (b.l.length:Int);simp[Tryz.f177,qV,a]
theorem qmn[MaxL](b:Sl UInt8)(h:HdP):call cx 38 [.vptr (qV b h)] []=some (.agg (Enc.cells h),[]):=by
 refine qC Tryz.func38 rfl ⟨rfl,rfl⟩ ?_;simp[Tryz.f38,qV]
theorem q0j[MaxL](b:Sl UInt8)(h:HdP)(e:b.l.length<=1000000)(a:Nat):call cx 118 [.vptr (qV b h),.int .u64 a] []=some (.bool (Yg b.l a),[]):=by
 have c:=qw5 b h e;refine qC Tryz.func118 rfl ⟨rfl,rfl⟩ ?_;simp only[qV] at c⊢;unfold Yg;by_cases d:a=0
 .subst d;simp[Tryz.f118]
 .have f:¬(a:Int)=0:=by omega
  simp[Tryz.f118,c,d]
def X4(d:D)(a b:Nat):List D:=[d,.int .u64 (a:Nat),.int .u64 (b:Nat)]
theorem q2R[MaxL]{H:qe}{q:Nat}{d:D}{a b:Nat}{out:List Nat}{L:List Nat}(R:qd H q=some (X4 d a b))(A:RowA H 1 d (zg out) L)(U:q∉L)(x:Nat)(V:out.length<=1000000):
  ∃T,call cx 120 [.optr q 3 0,.int .u64 (x:Nat)] H=some (.int .i64 (if 0<out.length/\x<=out.getLastD 0 then 13 else 0:Nat),T)/\Ext (q::L) H T/\((0<out.length/\x<=out.getLastD 0)->T=H)/\
   (¬(0<out.length/\x<=out.getLastD 0)->∃d' o,qd T q=some (X4 d' a b)/\RowA T 1 d' (zg (out++[x])) o/\q∉o/\NewL (q::L) (q::o) H.length):=by
 have j:=R;simp only[X4] at j;obtain⟨I,v⟩:=ql (qr H [.int .u64 (x:Nat)]);have w:=zL v;have W:qd I H.length=some [.int .u64 (x:Nat)]:=by rw[<-v,zF]
 have r1:RowA I 1 d (zg out) L:=A.ext w fun _ _=>by simp
 obtain⟨d',l,N,t,u,Q,n2⟩:=r1.append (P:=Tryz.prog) (st:=98) (xt:=98) (e:=38) (x:=.osl H.length 1 0 1 1) (xs:=[.int .u64 (x:Nat)]) (m:=1) wE wE (by simp[-qd,W]) wE wC wE wC wM wM;have ac:q<H.length:=qx R;have kw:qd I q=some [d,.int .u64 (a:Nat),.int .u64 (b:Nat)]:=w.get j wE;have s:qd l q=some [d,.int .u64 (a:Nat),.int .u64 (b:Nat)]:=Q.get kw U;obtain⟨r,n,hv,B,Z,aa⟩:=u.own wE;subst hv;obtain⟨T,g⟩:=ql (qn l q [.osl r (zg out++[D.int .u64 (x:Nat)]).length 0 n 1,.int .u64 (a:Nat),.int .u64 (b:Nat)]);have E:r<l.length:=qx Z
 have k:q∉N:=fun hc=>by
  rcases n2 q hc with h|h
  .exact U h
  .have:=w.len;omega
 have f:∀c:call cx 120 [.optr q 3 0,.int .u64 (x:Nat)] H=some (.int .i64 0,T),¬(0<out.length/\x<=out.getLastD 0)->∃T,call cx 120 [.optr q 3 0,.int .u64 (x:Nat)] H=some (.int .i64 (if 0<out.length/\x<=out.getLastD 0 then 13 else 0:Nat),T)/\Ext (q::L) H T/\((0<out.length/\x<=out.getLastD 0)->T=H)/\
   (¬(0<out.length/\x<=out.getLastD 0)->∃d' o,qd T q=some (X4 d' a b)/\RowA T 1 d' (zg (out++[x])) o/\q∉o/\NewL (q::L) (q::o) H.length):=by
  intro c hc;refine⟨T,by rw[if_neg hc];exact c,?_,fun h=>absurd h hc,fun _=>⟨.osl r (zg out++[D.int .u64 (x:Nat)]).length 0 n 1,N,?_,?_,k,?_⟩⟩
  .refine(w.mono (M:=q::L) fun i hi=>wU).trans (M:=q::L) ?_ (NewL.refl _ _);refine(Q.mono (M:=q::L) fun i hi=>vy _ hi).trans (M:=q::L) ?_ (NewL.refl _ _);exact(g▸Ext.set l q _:Ext [q] l T).mono fun i hi=>by rw[List.mem_singleton.1 hi];simp
  .rw[<-g];exact zj (qx s)
  .rw[qkk];exact u.ext (g▸Ext.set l q _:Ext [q] l T) fun i hi hc=>k (List.mem_singleton.1 hc▸hi)
  .intro i hi;rcases List.mem_cons.1 hi with rfl|hi
   .exact .inl wE
   .rcases n2 i hi with h|h
    .exact .inl xM
    .exact .inr (zJ w.len h)
 rcases Nat.eq_zero_or_pos out.length with p|p
 .have vu:out=[]:=List.length_eq_zero_iff.1 p;subst vu;refine f ?_ wE;refine j6 Tryz.func120 rfl ⟨rfl,rfl⟩ ?_;rcases A with⟨rfl,X,rfl⟩|⟨r',G,rfl,F,y,rfl⟩
  .simp only[qo4,QW,List.length_singleton] at t g;simp[-qd,-qn,-qr,-qJ,Tryz.f120,j,v,t,s,g,E]
  .have hz:G=0:=(by simp at F;omega);subst hz;simp only[qo4,QW,List.length_singleton,kt] at t g j s;simp[-qd,-qn,-qr,-qJ,Tryz.f120,j,v,t,s,g,E]
 .obtain⟨r',G,rfl,F,y,rfl⟩:=A.own (by intro h;have Y:=congrArg List.length h;rw[qaI,kt] at Y;omega);have ZT:G=out.length:=by simp at F;omega
  subst ZT;have c1:(0:Int)<(out.length:Int):=wC
  have S:=qz ((out.length:Int)-1) ((out.length:Int)-1)
  have O:(zg out).drop (out.length-1)=[.int .u64 (out.getLastD 0:Nat)]:=by
   have K:out.length-1<out.length:=wC;rw[jo (by simpa using K),List.drop_of_length_le wG]
   have:out.getLastD 0=out[out.length-1]:=by
    rw[List.getLastD_eq_getLast?,List.getLast?_eq_getElem?,qM K];rfl
   rw[this];simp[zg]
  have J:(1:Int)<=(out.length:Int)/\(out.length:Int)-1<(out.length:Int):=wC
  simp only[zo,qaI,List.length_singleton] at t g j s;have n1:((out.length:Int)-1).toNat=out.length-1:=wC
  have c2:(0:Int)<=(out.length:Int)-1:=wC
  by_cases hc:x<=out.getLastD 0
  .refine⟨H,?_,Ext.refl _ _,fun _=>rfl,fun h=>absurd ⟨p,hc⟩ h⟩;rw[if_pos ⟨p,hc⟩];refine j6 Tryz.func120 rfl ⟨rfl,rfl⟩ ?_;have C:(x:Int)<=(out.getLastD 0:Nat):=wC;generalize out.getLastD 0=z at *;simp[-qd,-qn,-qr,-qJ,Tryz.f120,j,y,S,O,n1,p,C,J]
  .refine f ?_ fun h=>hc h.2;refine j6 Tryz.func120 rfl ⟨rfl,rfl⟩ ?_;have C:¬(x:Int)<=(out.getLastD 0:Nat):=wC;generalize out.getLastD 0=z at *;simp[-qd,-qn,-qr,-qJ,Tryz.f120,j,y,S,O,n1,p,C,v,t,s,g,E,J]
def qfE(b:List UInt8)(sz a:Nat):Nat:=if Q9 b sz a=0 then(kp b a).headD 0 else 0
def qdN(b:List UInt8)(sz a:Nat):List Nat:=if Q9 b sz a=0 then(kp b a).tail else[]
theorem q6B(b:List UInt8)(sz a:Nat):qfF b sz a=.agg [.int .u64 (qfE b sz a:Nat),.vsl (decide (¬Q9 b sz a=0)) (zg (qdN b sz a)) (qdN b sz a).length]:=by
 unfold qfF qfE qdN;by_cases h:Q9 b sz a=0
 .rw[if_pos h,if_pos h,if_pos h];simp[h,qgR]
 .rw[if_neg h,if_neg h,if_neg h];simp[h]
theorem q1k[MaxL]{H:qe}{q:Nat}{d:D}{a c:Nat}(v:qd H q=some (X4 d a c))(b:Sl UInt8)(h:HdP)(L:b.l.length<=1000000)(N:a<18446744073709551616)(K:c<a):
  ∃T,call cx 119 [.optr q 3 0,.vptr (qV b h)] H=some (.tup [.vsl (decide (¬Q9 b.l h.siz a=0)) (zg (qdN b.l h.siz a)) (qdN b.l h.siz a).length,.int .i64 (Q9 b.l h.siz a:Nat)],T)/\qd T q=some (X4 d (qfE b.l h.siz a) a)/\Ext [q] H T:=by
 have w:=qw8 b h L a N;rw[q6B] at w;generalize decide (¬Q9 b.l h.siz a=0)=k at *;generalize qdN b.l h.siz a=l at *;generalize qfE b.l h.siz a=x at *;generalize Q9 b.l h.siz a=C at *;have m:=v;simp only[X4] at m;have j:¬(a:Int)<=(c:Int):=wC
 obtain⟨p,o⟩:=ql (H.length);obtain⟨z,t⟩:=ql (qr H [.int .u64 0,.vsl true [] 0]);have u:=zL t;have J:=u.get m wE;have e:qd z p=some [.int .u64 0,.vsl true [] 0]:=by rw[<-t,<-o,zF]
 obtain⟨g,n⟩:=ql (qn z p [.int .u64 (x:Nat),.vsl k (zg l) l.length]);have A:q<p:=o▸qx v;have B:Ext [] H g:=⟨by rw[<-n,kL];exact u.len,fun i hi _=>by rw[<-n,zV wC];exact u.out i hi wE⟩;have F:=B.get m wE;have y:qd g p=some [.int .u64 (x:Nat),.vsl k (zg l) l.length]:=by rw[<-n];exact zj (qx e)
 obtain⟨f,e2⟩:=ql (qn g q [d,.int .u64 (x:Nat),.int .u64 (c:Nat)]);have G:q<p:=o▸qx v;have E:=vV e2 F;have I:qd f p=some [.int .u64 (x:Nat),.vsl k (zg l) l.length]:=by rw[<-e2,zV wC];exact y
 obtain⟨T,r⟩:=ql (qn f q [d,.int .u64 (x:Nat),.int .u64 (a:Nat)]);have s:qd T p=some [.int .u64 (x:Nat),.vsl k (zg l) l.length]:=by rw[<-r,zV wC];exact I
 refine⟨T,j6 Tryz.func119 rfl ⟨rfl,rfl⟩ ?_,?_,?_⟩
 .simp only[qV] at w⊢;simp[-qd,-qn,-qr,Tryz.f119,m,j,w,o,t,e,n,F,y,e2,E,r,s]
 .rw[<-r];exact zj (qx E)
 .refine(B.mono (M:=[q]) fun i hi=>wU).trans (M:=[q]) ?_ (NewL.refl _ _);exact(e2▸Ext.set g q _:Ext [q] g f).trans (r▸Ext.set f q _:Ext [q] f T) (NewL.refl _ _)
def Vc:List D:=(.int .u64 0::.int .u64 0::.int .u64 0::qI [.vsl true [] 0])
theorem qw1[MaxL][TxtC](b:Sl UInt8)(h:HdP)(hi:h.incompat<4294967296)(m:b.l.length<=1000000)(a:Nat)(o:a<18446744073709551616):
  (Qf b.l h a=0->call cx 180 [.optr 0 1 0,.optr 1 1 0,.optr 2 20 0] [some [.vptr (qV b h)],some [.int .u64 a],some Vc]=
   some (.tup [],[some [.vptr (qV b h)],some [.int .u64 a],some (Enc.cells (Ya b.l a))]))/\
  (¬Qf b.l h a=0->call cx 180 [.optr 0 1 0,.optr 1 1 0,.optr 2 20 0] [some [.vptr (qV b h)],some [.int .u64 a],some Vc]=none/\
   ∃L,YO cx 180 [.optr 0 1 0,.optr 1 1 0,.optr 2 20 0] [some [.vptr (qV b h)],some [.int .u64 a],some Vc]=
   some (Qe (Qf b.l h a),[some [.vptr (qV b h)],some [.int .u64 a],some Vc]++L)):=by
 obtain⟨d,g⟩:=qw0 b h hi m a o;obtain⟨V,e⟩:=ql (qV b h);have i:idFree.idFreeL V=true:=by rw[<-e];simp[qV,idFree.idFreeL,idFree]
 rw[e] at d g⊢;by_cases c:Qf b.l h a=0
 .refine⟨fun _=>?_,fun n=>absurd c n⟩;have w3:=d c;refine qC Tryz.func180 rfl ⟨rfl,rfl⟩ ?_;simp[Tryz.f180,w3,Vc]
 .refine⟨fun h=>absurd h c,fun _=>?_⟩;obtain⟨q,s⟩:=g c;have key:=qlM (X:=cx) (f:=180) (H:=[some [.vptr V],some [.int .u64 a],some Vc]) (args:=[.optr 0 1 0,.optr 1 1 0,.optr 2 20 0]) (r:=(.tup [],[])) (p:=(Qe (Qf b.l h a),[some [.vptr V],some [.int .u64 a],some Vc])) False Tryz.func180 rfl ⟨rfl,rfl⟩ ?_
  .obtain⟨k,j⟩:=key.2 id;exact⟨k,[],by rw[J4];exact j⟩
  .simp[Tryz.f180,q,s]
def ZM(b:List UInt8)(h:HdP)(a:Nat):List D:=if Qf b h a=0 then Enc.cells (Ya b a) else Vc
theorem qjJ(b:List UInt8)(h:HdP)(a:Nat):(ZM b h a).length=20:=by
 unfold ZM;split
 .simp
 .rfl
theorem qjK(b:List UInt8)(h:HdP)(a:Nat):idFree.idFreeL (ZM b h a)=true:=by
 unfold ZM;split
 .simp
 .rfl
theorem qwz[MaxL](b:Sl UInt8)(h:HdP)(hi:h.incompat<4294967296)(u:b.l.length<=1000000)(a:Nat)(v:a<18446744073709551616):
  call cx 124 [.vptr (qV b h),.int .u64 a] []=some (.tup [.agg (ZM b.l h a),.int .i64 (Qf b.l h a:Nat)],[]):=by
 obtain⟨s,p⟩:=@qw1 _ qb2 b h hi u a v
 have k:qbu (@cx _ qb2) 333 [.fn 180 [.optr 0 1 0,.optr 1 1 0,.optr 2 20 0]] [some [.vptr (qV b h)],some [.int .u64 a],some Vc]=
   some (.int .i64 (Qf b.l h a:Nat),[some [.vptr (qV b h)],some [.int .u64 a],some (ZM b.l h a)]):=by
  unfold ZM;by_cases g:Qf b.l h a=0
  .rw[if_pos g,g];exact qvi rfl (s g)
  .obtain⟨w,L,r⟩:=p g;rw[if_neg g,qvh rfl w r];simp[kW,qbE,qV,Vc]
 have d:=qeE (X:=cx) (f:=179) (show cx.con 179 [.fn 180 [.optr 0 1 0,.optr 1 1 0,.optr 2 20 0]] [some [.vptr (qV b h)],some [.int .u64 a],some Vc]=_ from k);have j:=qjJ b.l h a;have e:=qjK b.l h a;generalize ZM b.l h a=R at *;generalize Qf b.l h a=c at *;obtain⟨V,m⟩:=ql (qV b h);have o:idFree.idFreeL V=true:=by rw[<-m];simp[qV,idFree.idFreeL,idFree]
 rw[m] at d⊢;have n:=zsh e;have q:List.take 20 R=R:=qH wC;have t:List.drop 20 R=[]:=List.drop_of_length_le wC;have i:=zcb e;simp only[Vc] at d;refine qC Tryz.func124 rfl ⟨rfl,rfl⟩ ?_;simp[Tryz.f124,d,j,e,q,t,i]
def VR(l:List Nat):D:=.vsl (decide (l=[])) (zg l) l.length
def XQ(b:List UInt8)(h:HdP):List Nat×Nat:=qat b h.siz h.ents (b.length+1) [] h.arr 0
theorem q3B(h:HdP):(Enc.cells h).drop 78=.int .u64 (h.arr:Nat)::(Enc.cells h).drop 79:=h.dn (i:=11) wC
theorem q3A(h:HdP):(Enc.cells h).drop 75=.int .u64 (h.ents:Nat)::(Enc.cells h).drop 76:=h.dn (i:=8) wC
theorem qfD{l r:List D}{i:Nat}{x:D}(h:l.drop i=x::r)(hi:i<l.length):l[i]=x:=by
 have:=congrArg (fun l=>l[0]?) h;simp only[Qa,Nat.add_zero,Qb] at this;exact(List.getElem?_eq_some_iff.1 this).2
structure LstI (b:List UInt8) (H:qe) (out:List Nat) (a c:Nat):Prop where
 ex:∃d L,qd H 0=some (X4 d a c)/\RowA H 1 d (zg out) L/\0∉L/\(out=[]->d=.vsl true [] 0)
 len:out.length<=out.getLastD 0
 last:out.getLastD 0<=b.length
theorem qku{H:qe}{d:D}{L:List Nat}{out:List Nat}(a:RowA H 1 d (zg out) L)(e:out=[]->d=.vsl true [] 0)(C:Int):kW true 0 H (.tup [d,.int .i64 C])=some (.tup [VR out,.int .i64 C],[]):=by
 by_cases b:out=[]
 .rw[e b,b];simp[VR,kW,qbE]
 .obtain⟨r,n,rfl,g,f,rfl⟩:=a.own (by intro h;have c:=congrArg List.length h;rw[qaI,kt] at c;exact b (List.length_eq_zero_iff.1 c));have:n=out.length:=by rw[qaI] at g;omega
  subst this;simp[-qd,VR,kW,qbE,f,b]
theorem q5a[MaxL](b:Sl UInt8)(h:HdP)(hl:b.l.length<=1000000)(he:h.ents<18446744073709551616)(ha:h.arr<18446744073709551616):
  call cx 68 [.vptr (qV b h)] []=some (.tup [VR (XQ b.l h).1,.int .i64 ((XQ b.l h).2:Nat)],[]):=by
 have Xb:=qmn b h;have jg:=q0j b h hl;obtain⟨R,hR⟩:=ql (XQ b.l h);obtain⟨most,hm⟩:=ql (h.ents);rw[hR];refine qC Tryz.func68 rfl ⟨rfl,rfl⟩ ?_;have h1:=qfD (q3B h) wE;have h2:=qfD (q3A h) wE;rw[hm] at h2 he;have ak:qat b.l h.siz most (b.l.length+1) [] h.arr 0=R:=by rw[<-hm];exact hR
 obtain⟨V,hV⟩:=ql (qV b h);rw[hV] at Xb jg⊢;have N:=fun{H:qe}{q:Nat}{d:D}{a c:Nat}(Q:qd H q=some (X4 d a c))=>q1k Q b h hl;rw[hV] at N;simp[Tryz.f68,Xb,h1,h2];refine Run.loopThen (fun(n:Nat) e H=>∃(out:List Nat)(a c:Nat),LstI b.l H out a c/\a<18446744073709551616/\c<=b.l.length/\b.l.length<n+c/\qat b.l h.siz most n out a c=R/\qi e 0=some (.vptr V)/\qi e 4=some (.int .u64 (most:Nat))/\qi e 5=some (.optr 0 3 0)) (fun n=>n) (b.l.length+1) ?_ ?_
 .refine⟨[],h.arr,0,⟨⟨.vsl true [] 0,[],?_,RowA.nil _ _,wE,fun _=>rfl⟩,wE,wE⟩,ha,wC,wC,ak,?_⟩
  .simp[X4,qd]
  .simp
 rintro n e H ⟨out,a,c,u,Y,qE,ax,j,z,A,B⟩;obtain⟨d,L,Q,g,K,qX⟩:=u.ex;have t:=Q;simp only[X4] at t;have ag:out.length<=b.l.length:=zJ u.len u.last
 have M:qO Tryz.prog 98 d=some (.int .i64 out.length):=by
  rcases g with⟨rfl,X,rfl⟩|⟨r,n,rfl,h2,h3,rfl⟩
  .have:out.length=0:=(by have:=congrArg List.length X;rw[qaI] at this;exact this);rw[this];simp
  .have:n=out.length:=(by rw[qaI] at h2;omega);subst this;simp
 have F:=zf (out.length:Int) (out.length:Int);obtain⟨n,rfl⟩:∃m,n=m+1:=⟨n-1,wC⟩;rw[qat] at j;have p:=qku g qX;by_cases c1:most<=out.length
 .rw[if_pos c1] at j;have s:¬(out.length:Int)<(most:Int):=by omega
  subst j;simp[-qd,-qO,z,A,B,t,M,F,s,-kW];exact p _
 rw[if_neg c1] at j;have s:(out.length:Int)<(most:Int):=wC
 have w:=jg a;by_cases c2:Yg b.l a=true
 .rw[if_pos c2] at j;rw[c2] at w;subst j;simp[-qd,-qO,z,A,B,t,M,F,s,w,-kW];exact p _
 rw[if_neg c2] at j;have S:Yg b.l a=false:=by simpa using c2
 rw[S] at w;by_cases c3:a<=c
 .rw[if_pos c3] at j;subst j;have aq:(a:Int)<=(c:Int):=by omega
  have Y:call cx 119 [.optr 0 3 0,.vptr V] H=some (.tup [.vsl true [] 0,.int .i64 12],H):=by
   refine j6 Tryz.func119 rfl ⟨rfl,rfl⟩ ?_;simp[-qd,Tryz.f119,t,aq]
  simp[-qd,-qO,z,A,B,t,M,F,s,w,Y,-kW];exact p _
 rw[if_neg c3] at j;obtain⟨T,o,YY,xT⟩:=N Q Y wC;have E:=YY;simp only[X4] at E;have aa:RowA T 1 d (zg out) L:=g.ext xT fun i hi hc=>K (List.mem_singleton.1 hc▸hi);have P:=qku aa qX;by_cases c4:Q9 b.l h.siz a≠0
 .rw[if_pos c4] at j;have v:(((Q9 b.l h.siz a:Nat):Int) !=0)=true:=VH;subst j;generalize Q9 b.l h.siz a=C at *;generalize decide (¬C=0)=nl at *;simp[-qd,-qO,z,A,B,t,M,F,s,w,o,v,E,-kW];exact P _
 rw[if_neg c4] at j;have v:Q9 b.l h.siz a=0:=wC
 have hx:qfE b.l h.siz a=(kp b.l a).headD 0:=by unfold qfE;rw[if_pos v]
 have hL:qdN b.l h.siz a=(kp b.l a).tail:=by unfold qdN;rw[if_pos v]
 have zB:decide (¬Q9 b.l h.siz a=0)=false:=by simp[v]
 rw[hL,zB,v] at o;rw[hx] at YY
 have W:(kp b.l a).headD 0<18446744073709551616:=by
  cases hh:kp b.l a with
  |nil=>simp
  |cons y r=>exact qow (l:=qN b.l a) (by show y∈kp b.l a;rw[hh];simp)
 have JN:∀y,y∈(kp b.l a).tail->y<18446744073709551616:=fun y hy=>qow (l:=qN b.l a) (List.mem_of_mem_tail hy);obtain⟨x,ao⟩:=ql ((kp b.l a).headD 0);obtain⟨l,ae⟩:=ql ((kp b.l a).tail);obtain⟨IR,ah⟩:=ql (KO b.l most l out);rw[ao] at YY W j;rw[ae] at o JN j;rw[ah] at j;have O:call cx 119 [.optr 0 3 0,.vptr V] H=some (.tup [.vsl false (zg l) l.length,.int .i64 0],T):=o
 have Zg:a<b.l.length:=by
  unfold Yg at S;simp at S;omega
 have au:l.length<=1000000:=by
  have h0:(kp b.l a).length<=1000000:=by
   unfold kp;rw[qcY];have:(qN b.l a).length<=b.l.length:=(by unfold qN;simp;omega);omega
  rw[<-ae,List.length_tail];omega
 have aj:qO Tryz.prog 98 (.vsl false (zg l) l.length)=some (.int .i64 l.length):=wE
 simp[-qd,-qO,z,A,B,t,M,aj,F,s,w,O,-kW];refine Run.loopThen (fun(k:Nat) e H=>∃(out:List Nat),LstI b.l H out x a/\k<=l.length/\KO b.l most (l.drop k) out=IR/\qi e 0=some (.vptr V)/\qi e 4=some (.int .u64 (most:Nat))/\qi e 5=some (.optr 0 3 0)/\qi e 40=some (.vsl false (zg l) l.length)/\qi e 41=some (.int .i64 l.length)/\qi e 42=some (.int .i64 k)) (fun k=>l.length-k) 0 ?_ ?_
 .refine⟨out,⟨⟨d,L,YY,aa,K,qX⟩,u.len,u.last⟩,wC,ah,?_⟩;simp
 clear Q g K qX t M F ag s u w o O YY E aa p P xT z A B c1;rintro k e H ⟨f,u,hk,hD,z,A,B,J,I,G⟩;obtain⟨d,L,Q,g,K,qX⟩:=u.ex;have t:=Q;simp only[X4] at t;have ag:f.length<=b.l.length:=zJ u.len u.last
 have M:qO Tryz.prog 98 d=some (.int .i64 f.length):=by
  rcases g with⟨rfl,X,rfl⟩|⟨r,n,rfl,h2,h3,rfl⟩
  .have:f.length=0:=(by have:=congrArg List.length X;rw[qaI] at this;exact this);rw[this];simp
  .have:n=f.length:=(by rw[qaI] at h2;omega);subst this;simp
 have F:=zf (f.length:Int) (f.length:Int);have p:=qku g qX;by_cases qg:k<l.length
 rotate_left
 .have qo:=zw qg;rw[Vn wC,KO] at hD;subst hD;simp[-qd,-qO,z,A,B,J,I,G,qo,-kW];exact⟨n,wC,f,x,a,u,W,wC,wC,j⟩
 have qo:=zq qg
 have qR:(zg l).drop k=.int .u64 (l[k]:Nat)::zg (l.drop (k+1)):=by
  unfold zg;rw[<-List.map_drop,jo qg];rfl
 have jM:=qz ((k:Int)+1) ((k+1:Nat):Int);have kD:=JN _ (vC qg);rw[jo qg,KO] at hD;generalize l[k]=y at *;have w:=jg y;by_cases d1:f.length=most
 .rw[if_pos d1] at hD;subst hD;subst d1;simp[-qd,-qO,z,A,B,J,I,G,qo,qR,t,M,F,-kW];exact⟨n,wC,f,x,a,u,W,wC,wC,j⟩
 rw[if_neg d1] at hD;have ac:¬(f.length:Int)=(most:Int):=wC
 by_cases d2:Yg b.l y=true
 .rw[if_pos d2] at hD;rw[d2] at w;subst hD;subst j;simp[-qd,-qO,z,A,B,J,I,G,qo,qR,t,M,F,ac,w,-kW];exact p _
 rw[if_neg d2] at hD;have Z:Yg b.l y=false:=by simpa using d2
 rw[Z] at w;obtain⟨T2,kl,av,U,ai⟩:=q2R Q g K y wC;by_cases d3:0<f.length/\y<=f.getLastD 0
 .rw[if_pos d3] at hD kl;subst hD;subst j;have U:=U d3;subst U;simp[-qd,-qO,z,A,B,J,I,G,qo,qR,t,M,F,ac,w,kl,-kW];exact p _
 .rw[if_neg d3] at hD kl;obtain⟨d',L',jP,JK,jQ,aw⟩:=ai d3
  have hy:1<=y/\y<b.l.length:=by
   unfold Yg at Z;simp at Z;omega
  have Xc:(f++[y]).getLastD 0=y:=wE
  have am:LstI b.l T2 (f++[y]) x a:=⟨⟨d',L',jP,JK,jQ,wE⟩,by rw[Xc,zo,List.length_singleton];have:=u.len;omega,by rw[Xc];omega⟩;simp[-qd,-qO,z,A,B,J,I,G,qo,qR,t,M,F,ac,w,kl,jM,-kW];exact⟨k+1,wC,f++[y],am,wC,hD,wC⟩
theorem qil[MaxL](b:Sl UInt8)(f:b.l.length<=1000000)(a:Nat)(d:a+4<=b.l.length){x:Int}(hx:x=a):call cx 220 [.int .i64 x,.vptr [(.vsl b.nil (qf b.l) b.l.length)]] []=some (.int .u32 (Ji b.l a:Nat),[]):=by
 have e:=q1b b a d wC hx;refine qC Tryz.func220 rfl ⟨rfl,rfl⟩ ?_;have:=qmt b.l a;have c:=qdX (Ji b.l a:Int) (Ji b.l a:Int);simp[Tryz.f220,e,c]
def qbi(b:List UInt8):List D:=[.int .u32 (Ji b 8:Nat),.int .u32 (Ji b 12:Nat),.int .i64 ((b.getD 16 0).toNat:Nat)]
def Zu(b:List UInt8)(k:Nat):List D:=(qbi b++qf ((b.drop 24).take (16*k)))++(qf (List.replicate (64-16*k) 0)++(List.replicate 21 (.int .u64 0)++[.int .u32 0,.int .u32 0,.int .u64 0]))
theorem qt1(b:List UInt8)(a:272<=b.length){k:Nat}(c:k<=4):(Zu b k).length=91:=by
 simp[Zu,qbi];omega
def hdIds:List D:=[.optr 2 91 3,.optr 2 91 19,.optr 2 91 35,.optr 2 91 51]
def hdNums:List D:=(List.range 21).map fun i=>.optr 2 91 (67+i)
def vk(b:List UInt8)(k:Nat):List D:=(qbi b++qf ((b.drop 24).take 64)++(qP .u64 ((List.range k).map fun i=>qT b (88+8*i))))++(List.replicate (21-k) (.int .u64 0)++[.int .u32 0,.int .u32 0,.int .u64 0])
theorem q32[MaxL]{H:qe}{q:Nat}{C:List D}(b:qd H q=some C)(_:C.length=91):call cx 222 [.optr q 91 0] H=some (.osl H.length 4 0 4 1,qr H [.optr q 91 3,.optr q 91 19,.optr q 91 35,.optr q 91 51]):=by
 refine j6 Tryz.func222 rfl ⟨rfl,rfl⟩ ?_;have a:=qx b;have c:¬H=[]:=by intro h;rw[h] at a;simp at a
 simp[-qd,-qr,Tryz.f222,c]
theorem q31[MaxL]{H:qe}{q:Nat}{C:List D}(d:qd H q=some C)(_:C.length=91):call cx 223 [.optr q 91 0] H=some (.osl H.length 21 0 21 1,qr H ((List.range 21).map fun i=>.optr q 91 (67+i))):=by
 refine j6 Tryz.func223 rfl ⟨rfl,rfl⟩ ?_;have a:=qx d;have c:¬H=[]:=by intro h;rw[h] at a;simp at a
 have b:((List.range 21).map fun i=>D.optr q 91 (67+i))=[.optr q 91 67,.optr q 91 68,.optr q 91 69,.optr q 91 70,.optr q 91 71,.optr q 91 72,.optr q 91 73,.optr q 91 74,.optr q 91 75,.optr q 91 76,.optr q 91 77,.optr q 91 78,.optr q 91 79,.optr q 91 80,.optr q 91 81,.optr q 91 82,.optr q 91 83,.optr q 91 84,.optr q 91 85,.optr q 91 86,.optr q 91 87]:=rfl;rw[b];simp[-qd,-qr,Tryz.f223,c]
def qkM:List D:=.int .u32 0:: .int .u32 0:: .int .i64 0::(qf (List.replicate 64 0)++(List.replicate 21 (.int .u64 0)++[.int .u32 0,.int .u32 0,.int .u64 0]))
theorem q3H{k:Nat}(h:k<4):hdIds.drop k=.optr 2 91 (3+16*k)::hdIds.drop (k+1):=by
 match k,h with
 |0,_=>rfl
 |1,_=>rfl
 |2,_=>rfl
 |3,_=>rfl
theorem q3G{k:Nat}(h:k<21):hdNums.drop k=.optr 2 91 (67+k)::hdNums.drop (k+1):=by
 unfold hdNums;rw[<-List.map_drop,jo wQ];simp
theorem qnc{A B C a:List D}{n:Nat}(b:A.length=n)(h:B.length=a.length):zT (A++(B++C)) n a=A++(a++C):=by
 subst b;unfold zT;rw[List.take_left' rfl,jd,jd];rw[List.drop_of_length_le wC,List.drop_of_length_le (show B.length<=A.length+a.length-A.length from wC),QW,QW,show A.length+a.length-A.length-B.length=0 from wC,List.drop_zero,jX]
theorem q3M(b:List UInt8)(c:272<=b.length){k:Nat}(d:k<4):zT (Zu b k) (3+16*k) (qf ((b.drop (24+16*k)).take 16))=Zu b (k+1):=by
 have a:qf (List.replicate (64-16*k) 0)=qf (List.replicate 16 0)++qf (List.replicate (64-16*(k+1)) 0):=by
  rw[<-qfh,List.replicate_append_replicate];congr 2;omega
 have e2:qf ((b.drop 24).take (16*(k+1)))=qf ((b.drop 24).take (16*k))++qf ((b.drop (24+16*k)).take 16):=by
  rw[<-qfh,<-kz];congr 1;rw[show 16*(k+1)=16*k+16 from wC,List.take_add]
 unfold Zu;rw[a,e2,jX (qf (List.replicate 16 0)),qnc]
 .simp only[jX]
 .simp[qbi];omega
 .simp;omega
theorem q3K(b:List UInt8)(a:272<=b.length){k:Nat}(c:k<=21):(vk b k).length=91:=by
 simp[vk,qbi];omega
theorem q3N(b:List UInt8):Zu b 4=vk b 0:=by
 simp[Zu,vk,qP,qf]
theorem q3J(b:List UInt8)(c:272<=b.length){k:Nat}(d:k<21):zT (vk b k) (67+k) [.int .u64 (qT b (88+8*k):Nat)]=vk b (k+1):=by
 have a:List.replicate (21-k) (D.int .u64 0)=[D.int .u64 0]++List.replicate (21-(k+1)) (D.int .u64 0):=by
  rw[show 21-k=(21-(k+1))+1 from wC,qdT];rfl
 have e2:qP .u64 ((List.range (k+1)).map fun i=>qT b (88+8*i))=qP .u64 ((List.range k).map fun i=>qT b (88+8*i))++[.int .u64 (qT b (88+8*k):Nat)]:=by
  rw[List.range_succ,List.map_append,qki];rfl
 unfold vk;rw[a,e2,jX [D.int .u64 0],qnc]
 .simp only[jX]
 .simp[qbi];omega
 .rfl
theorem q3L(b:List UInt8)(c:272<=b.length):∃a,vk b 21=a++[.int .u32 0,.int .u32 0,.int .u64 0]/\a.length=88/\Enc.cells (qG b)=a++[.int .u32 (Ji b 256:Nat),.int .u32 (Ji b 260:Nat),.int .u64 (qT b 264:Nat)]:=by
 refine⟨qbi b++qf ((b.drop 24).take 64)++(qP .u64 ((List.range 21).map fun i=>qT b (88+8*i))),by simp[vk],by simp[qbi];omega,?_⟩
 have e:qf ((b.drop 24).take 64)=qf (qG b).file.l++(qf (qG b).machine.l++(qf (qG b).boot.l++qf (qG b).seq.l)):=by
  simp only[qG];rw[qgy wC,qgy wC,qgy wC,qgy wC,<-qfh,<-qfh,<-qfh];congr 1;rw[show(64:Nat)=16+(16+(16+16)) by rfl,List.take_add,List.take_add,List.take_add];simp only[kz]
 rw[e,HdP.cells];simp only[qbi,jX,Qc,QW];rfl
theorem qzp[MaxL](b:Sl UInt8)(G:b.l.length<=1000000)(u:272<=b.l.length):call cx 175 [(.vsl b.nil (qf b.l) b.l.length)] []=some (.agg (Enc.cells (qG b.l)),[]):=by
 have V:=qil b G 8 wC (x:=8) rfl;have S:=qil b G 12 wC (x:=12) rfl;have c:b.nil=false:=Sl.nn (i:=0) wC;rw[c] at V S;refine qC Tryz.func175 rfl ⟨rfl,rfl⟩ ?_;have Y:(16:Int)<(b.l.length:Int):=wC
 have Q:16<b.l.length:=wC
 have o1:=ke Q;have y:IntKind.i64.wrap ((b.l[16]).toNat:Int)=((b.l[16]).toNat:Int):=by have:=b.l[16].toNat_lt;rw[wrap_i64];omega
 simp[Tryz.f175,c,Y,o1,V,S,y];rw[q32 rfl rfl];simp;refine Run.loopThen (fun(k:Nat) e H=>k<=4/\(∃Z:List D,Z.length=91/\H=[some [(.vsl b.nil (qf b.l) b.l.length)],some Z,some (Zu b.l k),some hdIds])/\qi e 1=some (.optr 0 1 0)/\qi e 2=some (.optr 1 91 0)/\qi e 3=some (.optr 2 91 0)/\qi e 4=some (.fn 220 [.optr 0 1 0])/\qi e 5=some (.int .i64 (24+16*(k:Int)))/\qi e 22=some (.osl 3 4 0 4 1)/\qi e 23=some (.int .i64 4)/\qi e 24=some (.int .i64 k)) (fun k=>4-k) 0 ?_ ?_
 .refine⟨wC,⟨qkM,by simp[qkM],?_⟩,?_⟩
  .simp[c,qkM,Zu,qbi,hdIds,qf,List.replicate,Q]
  .simp
 rintro k e H ⟨R,⟨Z,W,rfl⟩,t,s,q,m,n,j,h,g⟩;by_cases o:k<4
 .have p:(k:Int)<4:=by omega
  have P:=q3H o;have r:=q3M b.l u o;have a:=qt1 b.l u (k:=k) wC;have M:=qz ((k:Int)+1) ((k+1:Nat):Int);have K:hdIds.length=4:=rfl;have c1:3+16*k<=75:=wC
  have c2:(0:Int)<=24+16*(k:Int)/\24+16*(k:Int)<=(b.l.length:Int):=wC
  have n2:(24+16*(k:Int)).toNat=24+16*k:=wC
  simp[t,s,q,m,n,j,h,g,p,P,K,c,a,c1,c2,n2];have N:min (b.l.length-(24+16*k)) 16=16:=wC
  have d:(qf ((b.l.drop (24+16*k)).take 16)).length=16:=wG
  unfold zT at r;rw[d] at r
  have X:List.take 16 (List.take (b.l.length-(24+16*k)) (List.drop (24+16*k) (qf b.l)))=qf ((b.l.drop (24+16*k)).take 16):=by
   rw[List.take_take,Nat.min_eq_left wC];simp[qf,List.map_take,List.map_drop]
  rw[N,X];have J:=qz (24+16*(k:Int)+((16:Nat):Int)) (24+16*((k+1:Nat):Int));exact⟨k+1,wC,wC,⟨Z,W,rfl,by simpa only[jX] using r⟩,J,M⟩
 .have p:¬(k:Int)<4:=by omega
  have O:k=4:=wC
  subst O;simp[t,s,q,m,n,j,h,g,c];rw[q31 (C:=Zu b.l 4) rfl (qt1 b.l u wC),q3N b.l];simp;clear t s q m n j h g p o R;refine Run.loopThen (fun(k:Nat) e H=>k<=21/\H=[some [(.vsl b.nil (qf b.l) b.l.length)],some Z,some (vk b.l k),some hdIds,some hdNums]/\qi e 1=some (.optr 0 1 0)/\qi e 2=some (.optr 1 91 0)/\qi e 3=some (.optr 2 91 0)/\qi e 4=some (.fn 220 [.optr 0 1 0])/\qi e 5=some (.int .i64 (88+8*(k:Int)))/\qi e 38=some (.osl 4 21 0 21 1)/\qi e 39=some (.int .i64 21)/\qi e 40=some (.int .i64 k)) (fun k=>21-k) 0 ?_ ?_
  .refine⟨wC,?_,?_⟩
   .rw[c];rfl
   .simp
  rintro k e H ⟨R,rfl,t,s,q,m,n,w,A,z⟩;by_cases o:k<21
  .have p:(k:Int)<21:=wC;have P:=q3G o;have K:hdNums.length=21:=rfl;have r:=q3J b.l u o;have a:=q3K b.l u (k:=k) wC;have M:=qz ((k:Int)+1) ((k+1:Nat):Int);have J:=qz (88+8*(k:Int)+8) (88+8*((k+1:Nat):Int));have F:=qbH b (88+8*k) wC wC (x:=88+8*(k:Int)) wC;have jm:67+k+1<=91:=wC;rw[c] at F;simp[t,s,q,m,n,w,A,z,p,P,K,c,a,F,M,J,jm];unfold zT at r;exact⟨k+1,wC,wC,by simpa only[jX,Qc,QW,List.length_singleton] using r,wC,wC⟩
  .have p:¬(k:Int)<21:=wC;have v:k=21:=wC;subst v;obtain⟨PP,hP,E,B⟩:=q3L b.l u;rw[hP];have T:=qil b G 256 wC (x:=256) rfl;have U:=qil b G 260 wC (x:=260) rfl;have F:=qbH b 264 wC wC (x:=264) rfl;rw[c] at T U F;simp[t,s,q,m,n,w,A,z,c,E,T,U,F,Zk,jd,List.drop_of_length_le,qH,W,B];have f:=Enc.free (qG b.l);rw[B,List.all_append,zY] at f;have aa:=zfa f.1;have L:=zca f.1;have I:=zfl f.1;simp[L,I,E,qH]
theorem q66[MaxL](a b:Sl UInt8)(_:a.l.length<1000000)(_:b.l.length<1000000):call cx 219 [(.vsl a.nil (qf a.l) a.l.length),(.vsl b.nil (qf b.l) b.l.length)] []=some (.bool (a.l==b.l),[]):=by
 refine qC Tryz.func219 rfl ⟨rfl,rfl⟩ ?_;have c:List.take a.l.length (qf a.l)=qf a.l:=qH wE;have d:List.take b.l.length (qf b.l)=qf b.l:=qH wE;simp[Tryz.f219]
theorem q62[MaxL](s:Sl UInt8)(p:List UInt8)(m:s.l.length<=1000000)(c:p.length<1000000)(k:1<=p.length):call cx 174 [(.vsl s.nil (qf s.l) s.l.length),.vsl false (qf p) p.length] []=some (.bool (s.l.take p.length==p),[]):=by
 refine qC Tryz.func174 rfl ⟨rfl,rfl⟩ ?_;by_cases g:p.length<=s.l.length
 .have b:(p.length:Int)<=(s.l.length:Int):=by omega
  have f:s.nil=false:=Sl.nn (i:=0) wC;have a:=q66 (.of (s.l.take p.length)) (.of p) wG c;simp only[Sl.of_l,Sl.of_nil] at a;have d:List.take p.length (qf s.l)=qf (s.l.take p.length):=qep _ _;have j:(s.l.take p.length).length=p.length:=wG
  rw[j] at a;simp[Tryz.f174,b,f,d,a]
 .have b:¬(p.length:Int)<=(s.l.length:Int):=by omega
  have h:(s.l.take p.length==p)=false:=by
   refine beq_eq_false_iff_ne.2 fun e=>?_;have:=congrArg List.length e;simp at this;omega
  rw[h];simp[Tryz.f174,b]
theorem qt0(h:HdP):(Enc.cells h).drop 68=.int .u64 (h.arena:Nat)::(Enc.cells h).drop 69:=h.dn (i:=1) wC
theorem qtu[MaxL](h:HdP)(l:h.g 0<18446744073709551616)(k:h.g 1<18446744073709551616):call cx 117 [.agg (Enc.cells h)] []=some (.tup [.int .u64 (h.endN:Nat),.bool h.endC],[]):=by
 refine qC Tryz.func117 rfl ⟨rfl,rfl⟩ ?_;have i:=qfD (qg0 h) wE;have j:=qfD (qt0 h) wE;have b:=qg0 h;have d:=qt0 h;rw[show h.siz=h.g 0 from rfl] at i b;rw[show h.arena=h.g 1 from rfl] at j d;unfold HdP.endN HdP.endC;generalize h.g 0=a at *;generalize h.g 1=c at *;by_cases hc:a+c<18446744073709551616
 .have e:=zf ((a:Int)+(c:Int)) ((a:Int)+(c:Int));have f:¬(a:Int)+(c:Int)<(a:Int):=by omega
  simp[Tryz.f117,b,d,e,f,hc]
 .have e:IntKind.u64.wrap ((a:Int)+(c:Int))=(a:Int)+(c:Int)-18446744073709551616:=by
   simp only[IntKind.wrap,IntKind.signed,IntKind.bits];simp;omega
  have f:(a:Int)+(c:Int)-18446744073709551616<(a:Int):=wC
  simp[Tryz.f117,b,d,e,f,hc]
theorem qtk[MaxL](h:HdP)(A:h.g 0<18446744073709551616)(a b c:Nat)(E:a<18446744073709551616)(C:b<18446744073709551616)(B:c<18446744073709551616):
  call cx 176 [.agg (Enc.cells h),.int .u64 a,.int .u64 b,.int .u64 c] []=some (.int .i64 (qb4 (h.g 0) a b c:Nat),[]):=by
 refine qC Tryz.func176 rfl ⟨rfl,rfl⟩ ?_;have x:=qfD (qg0 h) wE;have i:=qg0 h;rw[show h.siz=h.g 0 from rfl] at x i;unfold qb4;generalize h.g 0=f at *;have t:(a:Int).tmod 8=((a % 8:Nat):Int):=rfl;have o:(b:Int).tmod 16=((b % 16:Nat):Int):=rfl;by_cases u:a % 8≠0
 .have d:((a:Int).tmod 8 !=0)=true:=by rw[t];simp only[bne_iff_ne,ne_eq];omega
  rw[if_pos u];simp[Tryz.f176,d]
 have d:((a:Int).tmod 8 !=0)=false:=by rw[t];simp only[bne_eq_false_iff_eq];omega
 rw[if_neg u];by_cases m:b=0
 .rw[if_pos (.inl m)];subst m;simp[Tryz.f176,d]
 have w:¬(b:Int)=0:=wC
 by_cases v:b % 16≠0
 .rw[if_pos (.inr v)];have e:((b:Int).tmod 16 !=0)=true:=by rw[o];simp only[bne_iff_ne,ne_eq];omega
  simp[Tryz.f176,d,m,e]
 rw[if_neg wC];have e:((b:Int).tmod 16 !=0)=false:=by rw[o];simp only[bne_eq_false_iff_eq];omega
 by_cases s:a<f
 .rw[if_pos (.inl s)];have j:=zq s;simp[Tryz.f176,d,m,e,i,j]
 have j:=zw s;have q:=zf ((a:Int)-(f:Int)) ((a:Int)-(f:Int));by_cases y:a-f<16
 .rw[if_pos (.inr (.inl y))];have k:(a:Int)-(f:Int)<16:=by omega
  simp[Tryz.f176,d,m,e,i,j,q,k]
 have k:¬(a:Int)-(f:Int)<16:=wC
 by_cases r:c<a
 .rw[if_pos (.inr (.inr (.inl r)))];have l:=zq r;simp[Tryz.f176,d,m,e,i,j,q,k,l]
 have l:=zw r;have p:=zf ((c:Int)-(a:Int)) ((c:Int)-(a:Int));by_cases z:c-a<b
 .rw[if_pos (.inr (.inr (.inr z)))];have n:(c:Int)-(a:Int)<(b:Int):=by omega
  simp[Tryz.f176,d,m,e,i,j,q,k,l,p,n]
 .rw[if_neg wC];have n:¬(c:Int)-(a:Int)<(b:Int):=by omega
  simp[Tryz.f176,d,m,e,i,j,q,k,l,p,n]
end Go.Ev.S
