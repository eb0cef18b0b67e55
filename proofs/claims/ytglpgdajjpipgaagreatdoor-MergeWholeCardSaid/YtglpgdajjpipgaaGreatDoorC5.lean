import Derived.Test.YtglpgdajjpipgaaGreatDoorC4
import Derived.Shelf.LaysM
import Derived.Shelf.Strconv.Clone
import Derived.Shelf.Strings.Search2
import Derived.Shelf.Strings.Repeat
import Derived.Test.YtglpgdajjpipgaaGreatDoorProg
import Derived.Shelf.SlLaysNS
import Derived.Tactics
import Derived.Tactics2
import Derived.Defers
import Derived.Recover
import Derived.Laws.Pointers
import Derived.WalkLawsBesides
set_option maxHeartbeats 8000000
set_option maxRecDepth 100000
namespace Go.Ev.S
open Go Go.Proofs Go.Ev
def qen(l:List UInt8):D:=.vsl (decide (l.length=0)) (zi (jV l)) (jV l).length
theorem qu1[MaxL][TxtC](s:Sl UInt8)(A:s.l.length<=1000000)(E:s.l.length % 8=0):call cx 259 [(.vsl s.nil (qf s.l) s.l.length)] []=some (qen s.l,[]):=by
 refine qC Tryz.func259 rfl ⟨rfl,rfl⟩ ?_;simp[Tryz.f259,-qeh];refine Run.loopThen (fun(k:Nat) e H=>8*k<=s.l.length/\(∃d,qi e 3=some d/\qiT d H (zi ((jV s.l).take k)))/\qi e 0=some (.vsl s.nil (qf s.l) s.l.length)/\qi e 4=some (.int .i64 (8*(k:Int)))) (fun k=>s.l.length-8*k) 0 (by simp[qiT,zi]) ?_;rintro k e H ⟨C,⟨d,m,b⟩,f,n⟩;by_cases u:8*k<s.l.length
 .have j:8*(k:Int)<(s.l.length:Int):=by omega
  have t:=qz (8*(k:Int)+8) (8*((k+1:Nat):Int));have q:=qbR s (8*k) wC wC (x:=8*(k:Int)) wC;have a:=qkk ((jV s.l).take k) (qU s.l (8*k));rw[<-qor wC] at a;have B:(zi ((jV s.l).take k)).length<=1000000:=wG
  have g:s.nil=false:=Sl.nn (i:=8*k) u;rw[g] at q f;have z:=qkj ((jV s.l).take k);generalize zi ((jV s.l).take k)=l at *;generalize qU s.l (8*k)=c at *;have w:(l.length+1)*8<=140737488355328:=wC
  have v:l.length+1<=140737488355328:=wC
  rcases b with⟨rfl,rfl,rfl⟩|⟨rfl,rfl,r⟩
  .simp[f,m,n,j,t,q,qF];exact⟨k+1,wC,wC,.inr xA,g,wC⟩
  .simp[f,m,n,j,t,q,qF,w,v,z];exact⟨k+1,wC,wC,.inr xA,g,wC⟩
 .have j:¬8*(k:Int)<(s.l.length:Int):=by omega
  have y:(jV s.l).take k=jV s.l:=qJ wG;rw[y] at b;rcases b with⟨rfl,g,rfl⟩|⟨rfl,rfl,r⟩
  .have p:s.l.length=0:=by
    have:=congrArg List.length g;simp at this;omega
   have o:s.l=[]:=List.length_eq_zero_iff.1 p;have hD:qen s.l=.vsl true [] 0:=(by simp[qen,o,jV]);rw[hD];simp[f,m,n,j]
  .have p:¬s.l=[]:=fun h=>r (by rw[h];rfl);simp[f,m,n,j,qen,p]
def qc9(b:List UInt8)(a:Nat):D:=if Xv b a=0 then .agg [.int .u64 ((kp b a).headD 0:Nat),.vsl false (zi (kp b a).tail) (kp b a).tail.length] else .agg [.int .u64 0,.vsl true [] 0]
theorem qy5[MaxL][TxtC](s:Sl UInt8)(o:s.l.length<=1000000)(a:Nat)(n:a<18446744073709551616):call cx 226 [(.vsl s.nil (qf s.l) s.l.length),.int .u64 a] []=some (.tup [qc9 s.l a,.int .i64 (Xv s.l a)],[]):=by
 have c:call cx 258 [(.vsl s.nil (qf s.l) s.l.length),.int .u64 a,.int .i64 6,.int .i64 8,.int .i64 8] []=some (.tup [ZJ s.l a 6 8 8,.int .i64 (ke s.l a 6 8 8)],[]):=quB s o a n 6 8 8 wC wC wC;refine qC Tryz.func226 rfl ⟨rfl,rfl⟩ ?_;have d:ke s.l a 6 8 8=Xv s.l a:=rfl;by_cases i:Xv s.l a≠0
 .have b:(((Xv s.l a:Nat):Int) !=0)=true:=VJ;have g:ZJ s.l a 6 8 8=.vsl true [] 0:=by unfold ZJ;rw[d,if_neg i]
  have e2:qc9 s.l a=.agg [.int .u64 0,.vsl true [] 0]:=by unfold qc9;rw[if_neg i]
  rw[g,d] at c;rw[e2];obtain⟨C,j⟩:=ql (Xv s.l a);rw[j] at c b⊢;simp[Tryz.f226,c,b]
 have b:Xv s.l a=0:=wC
 have g:ZJ s.l a 6 8 8=.vsl false (qf (qR s.l a)) (qR s.l a).length:=by unfold ZJ;rw[d,if_pos b]
 have e2:qc9 s.l a=.agg [.int .u64 ((kp s.l a).headD 0:Nat),.vsl false (zi (kp s.l a).tail) (kp s.l a).tail.length]:=by unfold qc9;rw[if_pos b]
 have h:kV s.l a=0:=by
  unfold Xv ke at b;split at b
  .omega
  .omega
 have r:¬(ZY s.l a<=16+8\/(ZY s.l a-(16+8)) % 8≠0):=by
  unfold Xv ke at b;rw[if_neg wC] at b;split at b
  .omega
  split at b
  .omega
  .assumption
 have q:=qf7 h;have k:=qez h;have f:=qu1 (Sl.mk false (qR s.l a) wE) wJ wJ;simp only at f;have m:(jV (qR s.l a)).length≠0:=by rw[qdc];omega
 have hD:qen (qR s.l a)=.vsl false (zi (kp s.l a)) (kp s.l a).length:=by
  unfold qen;rw[decide_eq_false wC];rfl
 rw[hD] at f;have e:(kp s.l a).length≠0:=m;rw[e2,b];rw[g,d,b] at c;generalize kp s.l a=l at *;cases l with
 |nil=>simp at e
 |cons x l=>
  have p:(1:Int)<=(l.length:Int)+1:=wC
  simp[Tryz.f226,c,f,qzZ,p]
theorem qlK[MaxL][TxtC](s:Sl UInt8)(b:s.l.length<=140737488355328):
  call cx 93 [(.vsl s.nil (qf s.l) s.l.length)] []=if s.nil then some (.vsl true [] 0,[]) else some (.osl 0 s.l.length 0 s.l.length 1,[some (qf s.l)]):=by
 obtain⟨nil,l,c⟩:=s;simp only at b⊢;cases nil with
 |true=>
  have a:=c rfl;subst a;rw[if_pos rfl];refine qC Tryz.func93 rfl ⟨rfl,rfl⟩ ?_;simp[Tryz.f93]
 |false=>
  rw[if_neg wH];refine qC Tryz.func93 rfl ⟨rfl,rfl⟩ ?_;simp[Tryz.f93,qF,b]
def Buf(d:D)(H:qe)(l:List UInt8):Prop:=(d=.vsl true [] 0/\l=[]/\H=[])\/(d=.osl 0 l.length 0 l.length 1/\H=[some (qf l)])
end Go.Ev.S
namespace Go.Ev
open Go Go.Proofs
@[simp] theorem ID.ta (i:ID) (r:List D):(qf i.l++r).take 16=qf i.l:=wE
@[simp] theorem ID.da (i:ID) (r:List D):(qf i.l++r).drop 16=r:=wE
theorem qgJ:∀(x:List UInt8),qI x x=0
 |[]=>rfl
 |a::x=>by simp[qI,qgJ x]
theorem qe5:∀(x y:List UInt8),qI y x= -qI x y
 |[],[]=>rfl
 |[],_::_=>rfl
 |_::_,[]=>rfl
 |a::x,b::y=>by
  simp only[qI];by_cases h:a=b
  .subst h;simp[qe5 x y]
  .have d:¬b=a:=fun e=>h e.symm;rw[if_neg h,if_neg d];by_cases c:a<b
   .have:¬b<a:=UInt8.not_lt.2 (UInt8.le_of_lt c);rw[if_pos c,if_neg this];rfl
   .have:b<a:=UInt8.lt_of_le_of_ne (UInt8.not_lt.1 c) d;rw[if_neg c,if_pos this]
theorem qgL:∀{x y:List UInt8},qI x y=0->x=y
 |[],[],_=>rfl
 |[],_::_,h=>by simp[qI] at h
 |_::_,[],h=>by simp[qI] at h
 |a::x,b::y,h=>by
  simp only[qI] at h;by_cases e:a=b
  .rw[if_pos e] at h;rw[e,qgL h]
  .rw[if_neg e] at h;split at h<;>simp at h
theorem qgK:∀(x y:List UInt8),qI x y= -1\/qI x y=0\/qI x y=1
 |[],[]=>by simp[qI]
 |[],_::_=>by simp[qI]
 |_::_,[]=>by simp[qI]
 |a::x,b::y=>by
  simp only[qI];split
  .exact qgK x y
  .split<;>simp
theorem qf1:∀{x y z:List UInt8},qI x y<0->qI y z<0->qI x z<0
 |[],[],_,h,_=>by simp[qI] at h
 |[],_::_,[],_,h=>by simp[qI] at h
 |[],_::_,_::_,_,_=>by simp[qI]
 |_::_,[],_,h,_=>by simp[qI] at h
 |_::_,_::_,[],_,h=>by simp[qI] at h
 |a::x,b::y,c::z,e,d=>by
  simp only[qI] at e d⊢;by_cases f:a=b
  .subst f;rw[if_pos rfl] at e;by_cases e2:a=c
   .subst e2;rw[if_pos rfl] at d⊢;exact qf1 e d
   .rw[if_neg e2] at d⊢;exact d
  .rw[if_neg f] at e
   have g:a<b:=by
    by_cases l:a<b
    .exact l
    .rw[if_neg l] at e;simp at e
   by_cases e2:b=c
   .subst e2;rw[if_neg f,if_pos g];decide
   .rw[if_neg e2] at d
    have j:b<c:=by
     by_cases l:b<c
     .exact l
     .rw[if_neg l] at d;simp at d
    have i:a<c:=UInt8.lt_trans g j;rw[if_neg (UInt8.ne_of_lt i),if_pos i];decide
theorem qfm{a b:ID}(h:qI a.l b.l=0):a=b:=ID.ext' (qgL h)
def vV(k:Nat):UInt8:=if k<10 then UInt8.ofNat (48+k) else UInt8.ofNat (87+k)
def ZX:Nat->Nat->List UInt8
 |0,_=>[]
 |f+1,v=>if v<16 then[vV v] else ZX f (v/16)++[vV (v % 16)]
def hx(v:Nat):List UInt8:=ZX 16 v
def Xt:List UInt8:=[48,49,50,51,52,53,54,55,56,57,97,98,99,100,101,102]
def qlt:List UInt8:=[48,49,50,51,52,53,54,55,56,57,97,98,99,100,101,102,103,104,105,106,107,108,109,110,111,112,113,114,115,116,117,118,119,120,121,122]
theorem quI:∀k,k<16->qlt[k]?=some (vV k):=wH
theorem quH:∀k,k<16->Xt[k]?=some (vV k):=wH
theorem quG:∀k,k<16->QF (vV k) Xt 0=(k:Int):=wH
theorem qtn:∀(f v:Nat),(ZX f v).length<=f
 |0,_=>qA _
 |f+1,v=>by
  rw[ZX];split
  .simp
  .have:=qtn f (v/16);simp;omega
theorem qtd(v:Nat):(hx v).length<=16:=qtn 16 v
theorem qig:∀k,k<16->vV k≠59/\vV k≠61/\vV k≠45:=wH
theorem qtm:∀(f v:Nat),∀x∈ZX f v,x≠59/\x≠61/\x≠45
 |0,_=>by simp[ZX]
 |f+1,v=>by
  rw[ZX];split
  .intro x hx;rw[List.mem_singleton.1 hx];exact qig v (by assumption)
  .intro x hx;rcases List.mem_append.1 hx with h|h
   .exact qtm f _ x h
   .rw[List.mem_singleton.1 h];exact qig _ (YM _ wH)
theorem q2W(v:Nat):∀x∈hx v,x≠59/\x≠61/\x≠45:=qtm 16 v
def jF:List UInt8->List UInt8
 |[]=>[]
 |b::l=>vV (b.toNat/16)::vV (b.toNat % 16)::jF l
theorem qev:∀(l:List UInt8),(jF l).length=2*l.length
 |[]=>rfl
 |b::l=>by simp[jF,qev l];omega
theorem qtk:∀(a b:List UInt8),jF (a++b)=jF a++jF b
 |[],_=>rfl
 |x::a,b=>by simp[jF,qtk a b]
theorem qtj:∀(l:List UInt8),∀x∈jF l,x≠59/\x≠61/\x≠45
 |[]=>by simp[jF]
 |b::l=>by
  intro x hx;simp only[jF,jI] at hx;have a:=b.toNat_lt;rcases hx with rfl|rfl|hx
  .exact qig _ wC
  .exact qig _ wC
  .exact qtj l x hx
def Qo(v:Nat):List UInt8:=List.replicate (16-(hx v).length) 48++hx v
theorem qfs(v:Nat):(Qo v).length=16:=by
 have:=qtd v;simp[Qo];omega
def XB:List UInt8->Nat->List UInt8->Option (List UInt8)
 |[],_,st=>some st
 |c::l,i,st=>if QF c Xt 0<0 then none else XB l (i+1) (st.set (i/2) ((st.getD (i/2) 0<<<4)|||UInt8.ofNat (QF c Xt 0).toNat))
def zero16:List UInt8:=List.replicate 16 0
def KY(s:List UInt8):Option (List UInt8):=if s.length=32 then XB s 0 zero16 else none
theorem qsZ:∀(s:List UInt8)(i:Nat)(st r:List UInt8),XB s i st=some r->r.length=st.length
 |[],_,st,r,h=>by simp only[XB,qy] at h;rw[h]
 |c::l,i,st,r,h=>by
  simp only[XB] at h;split at h
  .cases h
  .have:=qsZ l _ _ r h;simpa using this
theorem q2Q{s r:List UInt8}(h:KY s=some r):r.length=16:=by
 unfold KY at h;split at h
 .have:=qsZ _ _ _ _ h;simpa[zero16] using this
 .cases h
theorem qsO(c:UInt8):∀(l:List UInt8)(n:Nat),QF c l n= -1\/∃k,k<l.length/\QF c l n=((n+k:Nat):Int)
 |[],_=>.inl rfl
 |b::l,n=>by
  unfold QF;split
  .exact .inr ⟨0,wE,wE⟩
  .rcases qsO c l (n+1) with h|⟨k,d,a⟩
   .exact .inl h
   .exact .inr ⟨k+1,wG,by rw[a];omega⟩
theorem qzR:∀n,n<256->(((0:UInt8)<<<4|||UInt8.ofNat (n/16))<<<4)|||UInt8.ofNat (n % 16)=UInt8.ofNat n:=by decide+kernel
theorem qzS(b:UInt8):(((0:UInt8)<<<4|||UInt8.ofNat (b.toNat/16))<<<4)|||UInt8.ofNat (b.toNat % 16)=b:=by
 rw[qzR b.toNat b.toNat_lt,UInt8.ofNat_toNat]
theorem qta:∀(l done:List UInt8),XB (jF l) (2*done.length) (done++List.replicate l.length 0)=some (done++l)
 |[],done=>by simp[jF,XB]
 |b::l,done=>by
  have m:=b.toNat_lt;have f:=quG (b.toNat/16) wC;have k:=quG (b.toNat % 16) wC;simp only[jF,XB,f,k];rw[if_neg wC,if_neg wC];have e:2*done.length/2=done.length:=wC
  have e2:(2*done.length+1)/2=done.length:=wC
  have c:2*done.length+1+1=2*(done++[b]).length:=wG
  have h:(done++List.replicate (b::l).length 0).getD done.length 0=(0:UInt8):=by
   simp[List.getD,qdS]
  rw[e,e2,c,h]
  have j:∀x:UInt8,(done++List.replicate (b::l).length (0:UInt8)).set done.length x=done++x::List.replicate l.length 0:=by
   intro x;simp[qdS]
  rw[j]
  have d:∀x:UInt8,(done++x::List.replicate l.length (0:UInt8)).getD done.length 0=x:=by
   intro x;simp[List.getD]
  rw[d]
  have g:∀x y:UInt8,(done++x::List.replicate l.length (0:UInt8)).set done.length y=(done++[y])++List.replicate l.length 0:=by
   intro x y;simp
  have a:((((b.toNat/16:Nat):Int)).toNat)=b.toNat/16:=wC
  have i:((((b.toNat % 16:Nat):Int)).toNat)=b.toNat % 16:=wC
  rw[g,a,i,qzS b,qta l (done++[b])];simp
theorem q2R{l:List UInt8}(h:l.length=16):KY (jF l)=some l:=by
 unfold KY;rw[if_pos (by rw[qev,h])];have:=qta l [];simpa[zero16,h] using this
theorem qxx:∀n:Nat,n<256->∀k:Nat,k<16->Vx .u8 (IntKind.u8.wrap ((n:Int)*16)) (k:Int)=((UInt8.ofNat n<<<4|||UInt8.ofNat k).toNat:Int):=by decide+kernel
theorem qxw(a:UInt8)(k:Nat)(b:k<16):Vx .u8 (IntKind.u8.wrap ((a.toNat:Int)*16)) (k:Int)=((a<<<4|||UInt8.ofNat k).toNat:Int):=by
 rw[qxx a.toNat a.toNat_lt k b,UInt8.ofNat_toNat]
theorem q65{n:Nat}(h:n<18446744073709551616):YK .u64 (n:Int) 15=((n % 16:Nat):Int):=by
 unfold YK
 have e:(BitVec.ofInt IntKind.u64.bits (n:Int)&&&BitVec.ofInt IntKind.u64.bits 15).toNat=n % 16:=by
  show(BitVec.ofInt 64 (n:Int)&&&BitVec.ofInt 64 ((15:Nat):Int)).toNat=n % 16;rw[qiV,qiV,BitVec.toNat_and,qiU,qiU,qeE (show n<2^64 from wC)];exact Nat.and_two_pow_sub_one_eq_mod n 4
 rw[e,qaF];omega
theorem q63:∀n:Nat,n<256->YK .u8 (n:Int) 15=((n % 16:Nat):Int):=by decide+kernel
theorem q64(b:UInt8):YK .u8 (b.toNat:Int) 15=((b.toNat % 16:Nat):Int):=q63 b.toNat b.toNat_lt
theorem qub(n:Nat):Int.fdiv (n:Int) 16=((n/16:Nat):Int):=by
 rw[Int.fdiv_eq_ediv_of_nonneg _ wC];omega
theorem q4k(i:Nat)(s:List UInt8)(c:UInt8):zU (List.replicate (i+1) (D.int .u8 0)++qf s) i [.int .u8 c.toNat]=List.replicate i (.int .u8 0)++qf (c::s):=by
 unfold zU;have h:(List.replicate (i+1) (D.int .u8 0)++qf s).drop (i+1)=qf s:=KH wE
 have a:(List.replicate (i+1) (D.int .u8 0)++qf s).take i=List.replicate i (D.int .u8 0):=by
  rw[List.take_append_of_le_length wE,List.take_replicate];congr 1;omega
 rw[a,List.length_singleton,h];simp[qf]
def zB(x:Int)(k:Nat):Int:=Vx .u32 (IntKind.u32.wrap (x*2^k)) (x.fdiv (2^(32-k)))
def vp(a b:Int):Int:=IntKind.u32.wrap (a+b)
def jk(a b:Int):Int:=IntKind.u32.wrap (a-b)
def J4(k:Nat):Int×Int×Int->Int×Int×Int
 |(a,b,c)=>(b,vp c b,qO .u32 (jk a c) (zB c k))
def qep(t:Int×Int×Int):Int×Int×Int:=J4 4 (J4 19 (J4 16 (J4 8 (J4 6 (J4 4 t)))))
def Z2(k:Nat):Int×Int×Int->Int×Int×Int
 |(p,q,r)=>(r,jk (qO .u32 p q) (zB q k),q)
def qe0:Int×Int×Int->Int×Int×Int
 |(x,y,z)=>Z2 24 (Z2 14 (Z2 4 (Z2 16 (Z2 25 (Z2 11 (Z2 14 (z,y,x)))))))
theorem qoD{x y z f c g b e d i a h j k l r p q m o n:Int}
  (A:jk x z=r) (S:qO .u32 r (zB z 4)=f) (u:vp z y=c)
  (K:jk y f=p) (M:qO .u32 p (zB f 6)=g) (O:vp f c=b)
  (I:jk c g=q) (L:qO .u32 q (zB g 8)=e) (N:vp g b=d)
  (B:jk b e=m) (F:qO .u32 m (zB e 16)=i) (t:vp e d=a)
  (P:jk d i=o) (R:qO .u32 o (zB i 19)=h) (H:vp i a=j)
  (G:jk a h=n) (w:qO .u32 n (zB h 4)=k) (E:vp h j=l):qep (x,y,z)=(j,l,k):=by
 unfold qep;have v:J4 4 (x,y,z)=(y,c,f):=by simp only[J4,A,S,u]
 have e2:J4 6 (y,c,f)=(c,b,g):=by simp only[J4,K,M,O]
 have C:J4 8 (c,b,g)=(b,d,e):=by simp only[J4,I,L,N]
 have s:J4 16 (b,d,e)=(d,a,i):=by simp only[J4,B,F,t]
 have Q:J4 19 (d,a,i)=(a,j,h):=by simp only[J4,P,R,H]
 have J:J4 4 (a,j,h)=(j,l,k):=by simp only[J4,G,w,E]
 rw[v,e2,C,s,Q,J]
theorem qtV{x y z n d k b m c h a j e i f l g:Int}
  (s:qO .u32 z y=n) (L:jk n (zB y 14)=d)
  (q:qO .u32 x d=k) (E:jk k (zB d 11)=b)
  (G:qO .u32 y b=m) (H:jk m (zB b 25)=c)
  (B:qO .u32 d c=h) (F:jk h (zB c 16)=a)
  (t:qO .u32 b a=j) (v:jk j (zB a 4)=e)
  (p:qO .u32 c e=i) (I:jk i (zB e 14)=f)
  (K:qO .u32 a f=l) (A:jk l (zB f 24)=g):qe0 (x,y,z)=(e,g,f):=by
 unfold qe0;have r:Z2 14 (z,y,x)=(x,d,y):=by simp only[Z2,s,L]
 have e2:Z2 11 (x,d,y)=(y,b,d):=by simp only[Z2,q,E]
 have u:Z2 25 (y,b,d)=(d,c,b):=by simp only[Z2,G,H]
 have o:Z2 16 (d,c,b)=(b,a,c):=by simp only[Z2,B,F]
 have J:Z2 4 (b,a,c)=(c,e,a):=by simp only[Z2,t,v]
 have C:Z2 14 (c,e,a)=(a,f,e):=by simp only[Z2,p,I]
 have w:Z2 24 (a,f,e)=(e,g,f):=by simp only[Z2,K,A]
 simp only[r,e2,u,o,J,C,w]
def vk(l:List UInt8)(a:Nat):Nat:=leN ((l.drop a).take 4)
theorem qdW(l:List UInt8)(a:Nat):vk l a<4294967296:=by
 refine vh (qfg _) ?_;have:((l.drop a).take 4).length<=4:=wu
 exact zI (qfE wH this) wH
def JW(l:List UInt8):Int×Int×Int->Int×Int×Int
 |(x,y,z)=>(vp x (vk l 0:Nat),vp y (vk l 4:Nat),vp z (vk l 8:Nat))
def qbP:Int×Int×Int->Int
 |(_,y,z)=>Vx .u64 (IntKind.u64.wrap (IntKind.u64.wrap z*4294967296)) (IntKind.u64.wrap y)
def KT(l:List UInt8)(t:Int×Int×Int):Int:=
 if 12<l.length then KT (l.drop 12) (qep (JW l t)) else if l.length=0 then qbP t else match qe0 (JW l t) with|(_,z,y)=>qbP (0,y,z)
termination_by l.length
decreasing_by simp;omega
def qac(l:List UInt8):Int:=KT l (vp 3735928559 (IntKind.u32.wrap (l.length:Nat)),vp 3735928559 (IntKind.u32.wrap (l.length:Nat)),vp 3735928559 (IntKind.u32.wrap (l.length:Nat)))
theorem qkw{l:List UInt8}(h:12<l.length)(t:Int×Int×Int):KT l t=KT (l.drop 12) (qep (JW l t)):=by
 rw[KT,if_pos h]
theorem qkx{l:List UInt8}(h:¬12<l.length)(b:l.length≠0){t:Int×Int×Int}{x y z:Int}(a:qe0 (JW l t)=(x,z,y)):KT l t=qbP (0,y,z):=by
 rw[KT,if_neg h,if_neg b,a]
theorem qkv{l:List UInt8}(a:l.length=0)(t:Int×Int×Int):KT l t=qbP t:=by
 rw[KT,if_neg wC,if_pos a]
theorem q62:∀k:Nat,k<32->YK .u64 (k:Int) 31=(k:Int):=wH
abbrev Q4:=Int×Int×Int×Int
def JX(a b:Int):Int:=IntKind.u64.wrap (a+b)
def kJ(x:Int)(k:Nat):Int:=Vx .u64 (IntKind.u64.wrap (x*2^k)) (x.fdiv (2^(64-k)))
def qj7:Q4->Q4
 |(p,q,r,s)=>
  let d:=JX p q
  let a:=qO .u64 (kJ q 13) d
  let f:=JX r s
  let e:=qO .u64 (kJ s 16) f
  let b:=JX (kJ d 32) e
  let c:=JX f a
  (b,qO .u64 (kJ a 17) c,kJ c 32,qO .u64 (kJ e 21) b)
theorem qnu{p q r s c g d l f i e a k h b n m j:Int}(u:JX p q=c)(y:kJ q 13=g)(t:qO .u64 g c=d)(z:kJ c 32=l)(B:JX r s=f)(E:kJ s 16=i)(x:qO .u64 i f=e)
  (A:JX l e=a) (C:kJ e 21=k) (v:qO .u64 k a=h) (w:JX f d=b) (o:kJ d 17=n) (F:qO .u64 n b=m) (G:kJ b 32=j):qj7 (p,q,r,s)=(a,m,j,h):=by
 simp only[qj7,u,y,t,z,B,E,x,A,C,v,w,o,F,G]
def VQ:Nat->Q4->Q4
 |0,t=>t
 |n+1,t=>VQ n (qj7 t)
def YS(m:Int):Q4->Q4
 |(p,q,r,s)=>match VQ 2 (p,q,r,qO .u64 s m) with
  |(p,q,r,s)=>(qO .u64 p m,q,r,s)
def qdZ:Q4->Int
 |(p,q,r,s)=>match VQ 4 (p,q,qO .u64 r 255,s) with
  |(p,q,r,s)=>qO .u64 (qO .u64 (qO .u64 p q) r) s
def YR(l:List UInt8)(t:Q4):Q4:=if 8<=l.length then YR (l.drop 8) (YS (leN (l.take 8):Nat) t) else t
termination_by l.length
decreasing_by simp;omega
theorem qxq{l:List UInt8}(h:8<=l.length)(t:Q4):YR l t=YR (l.drop 8) (YS (leN (l.take 8):Nat) t):=by
 rw[YR,if_pos h]
theorem qmN{l:List UInt8}(h:¬8<=l.length)(t:Q4):YR l t=t:=by
 rw[YR,if_neg h]
def qmO(l:List UInt8):Nat:=leN (l.drop (l.length/8*8))+l.length % 256*72057594037927936
def qmP(k l:Int):Q4:=(qO .u64 k 8317987319222330741,qO .u64 l 7237128888997146477,qO .u64 k 7816392313619706465,qO .u64 l 8387220255154660723)
def qho(key l:List UInt8):Int:=qdZ (YS (qmO l:Nat) (YR l (qmP (leN (key.take 8):Nat) (leN ((key.drop 8).take 8):Nat))))
def qew(a:Bool)(key l:List UInt8):Int:=if a then qho key l else qac l
@[simp] theorem q8c:qf []=[]:=rfl
theorem XZ{x y s:List UInt8}(e:s=x++y)(h:x.length+y.length<=100000):strD .add x y=some (.str s):=by
 simp only[strD,e];rw[if_pos wC]
section
variable {H:Type} {enc:TypeId×Value->H} {P:Program} {W:World} {base n:Nat} {t e:TypeId} {v:Value} {d:DataW H} {ps:List MemPlace}
end
end Go.Ev
namespace Go.Ev
open Go Go.Proofs
def YP(c:UInt8):Nat->List UInt8->List (List UInt8)
 |0,s=>[s]
 |n+1,s=>if JF [c] s 0= -1 then[s] else s.take (JF [c] s 0).toNat::YP c n (s.drop ((JF [c] s 0).toNat+1))
def Ji(c:UInt8)(s:List UInt8):List (List UInt8):=YP c (s.count c) s
def qhZ(s:List UInt8):ID:=⟨(KY s).getD zero16,by
 cases h:KY s with
 |none=>rfl
 |some r=>exact q2Q h⟩
theorem qsQ(c:UInt8):∀(A B:List UInt8)(n:Nat),(∀x∈A,x≠c)->JF [c] (A++c::B) n=((n+A.length:Nat):Int)
 |[],B,n,_=>by simp[JF,List.isPrefixOf]
 |x::A,B,n,h=>by
  have hx:=h x wE;have a:(c==x)=false:=by simpa using Ne.symm hx
  rw[kC,JF,if_neg (by simp[List.isPrefixOf,a]),qsQ c A B (n+1) fun y b=>h y (by simp[b])];simp;omega
theorem qmG{c:UInt8}{A:List UInt8}(h:∀x∈A,x≠c)(B:List UInt8):Ji c (A++c::B)=A::Ji c B:=by
 have a:A.count c=0:=List.count_eq_zero.2 fun b=>h c b rfl
 have hc:(A++c::B).count c=B.count c+1:=by
  rw[List.count_append,a,List.count_cons_self];omega
 unfold Ji;rw[hc,YP,qsQ c A B 0 h,J3,if_neg wC];have e:((A.length:Nat):Int).toNat=A.length:=wC
 rw[e,List.take_left];congr 1;rw[<-ky,List.drop_left];rfl
theorem qxf{c:UInt8}{A:List UInt8}(h:∀x∈A,x≠c):Ji c A=[A]:=by
 have b:A.count c=0:=List.count_eq_zero.2 fun a=>h c a rfl;unfold Ji;rw[b,YP]
theorem q2S(i:ID):qhZ (jF i.l)=i:=ID.ext' (by show(KY (jF i.l)).getD zero16=i.l;rw[q2R i.h];rfl)
def Jo(c:UInt8):Bool:=(decide (65<=c.toNat)&&decide (c.toNat<=90))||(decide (48<=c.toNat)&&decide (c.toNat<=57))||decide (c.toNat=95)
def XX(c:UInt8):Bool:=decide (48<=c.toNat)&&decide (c.toNat<=57)
def JA:List UInt8->Bool
 |[]=>false
 |c::l=>decide ((c::l).length<=64)&& !XX c&&(c::l).all Jo
def qgc(p:Pr):Bool:=JA p.name&&decide (p.value.length<=256)
def Qr(b:List UInt8)(a:Nat):Nat:=ke b a 1 48 1
def qfz(b:List UInt8)(a:Nat):Nat:=qU (qR b a) 0
def Qq(b:List UInt8)(a:Nat):List UInt8:=(qR b a).drop 48
def vS(x:List UInt8):List (Nat×Nat):=(List.range ((x.length-48)/16)).map fun i=>(qU x (48+16*i),qU x (56+16*i))
def qaN:List (Nat×Nat)->Bool
 |a::b::l=>decide (a.1<b.1)&&qaN (b::l)
 |_=>true
def JU(b:List UInt8)(a:Nat):Nat:=
 if ke b a 3 48 16≠0 then ke b a 3 48 16
 else if qU (qR b a) 0=0 then 13
 else if qaN (vS (qR b a)) then 0 else 11
def QA(p:List UInt8):List UInt8:=p.takeWhile fun c=>c !=61
def qaI(p:List UInt8):List UInt8:=p.drop ((QA p).length+1)
def Vt(p:List UInt8):Nat:=
 if(QA p).length<p.length/\JA (QA p)=true then(if 256<(qaI p).length then 21 else 0) else 20
def qfi(h:HdP):Bool:=decide (h.incompat&&&4≠0)
def Yi(b:List UInt8)(h:HdP)(a:Nat):Nat:=
 if a<h.siz\/b.length<=a then 2
 else if Qr b a≠0 then Qr b a
 else if(qfz b a:Int)≠qew (qfi h) h.file.l (Qq b a) then 9 else 0
def qbT(b:List UInt8)(h:HdP):List (Nat×Nat)->Nat
 |[]=>0
 |x::l=>if Yi b h x.1≠0 then Yi b h x.1
  else if qfz b x.1≠x.2 then 9
  else if Vt (Qq b x.1)≠0 then Vt (Qq b x.1)
  else qbT b h l
def qiZ(b:List UInt8):List (Nat×Nat)->Int->Int
 |[],v=>v
 |x::l,v=>qiZ b l (qO .u64 v (qac (Qq b x.1)))
def Qe(b:List UInt8)(h:HdP)(a:Nat):Nat:=
 if a<h.siz\/b.length<=a then 2
 else if JU b a≠0 then JU b a
 else if 16<(vS (qR b a)).length then 21
 else if qbT b h (vS (qR b a))≠0 then qbT b h (vS (qR b a))
 else if(qU (qR b a) 40:Int)≠qiZ b (vS (qR b a)) 0 then 10 else 0
def qh2(p:List UInt8):Pr:=⟨QA p,qaI p⟩
def YW(b:List UInt8)(a:Nat):Rec:=
 ⟨qU (qR b a) 0,qU (qR b a) 8,qU (qR b a) 16,qet (qR b a) 24,.of ((vS (qR b a)).map fun x=>qh2 (Qq b x.1))⟩
def XR(b:List UInt8)(h:HdP):List Nat->Nat->Nat->List Nat
 |[],_,_=>[]
 |a::l,i,last=>if Qe b h a=0/\last<qU (qR b a) 0 then i::XR b h l (i+1) (qU (qR b a) 0) else XR b h l (i+1) last
end Go.Ev
namespace Go.Ev.S
open Go Go.Proofs Go.Ev
def KJ(b:List UInt8)(a:Nat):List Nat:=(jV (qR b a)).take 6
def qe4(b:List UInt8)(a:Nat):List D:=zi (KJ b a)++[.vsl false (qf (Qq b a)) (Qq b a).length]
def qlw:List D:=(VH [.int .u64 0,.int .u64 0,.vsl true [] 0])
def qlx(b:List UInt8)(a:Nat):D:=.agg (if Qr b a=0 then qe4 b a else qlw)
theorem qgA{b:List UInt8}{a:Nat}(h:Qr b a=0):kV b a=0/\qaz b a=1/\64<ZY b a/\(qR b a).length=ZY b a-16/\a+ZY b a<=b.length:=by
 unfold Qr ke at h;split at h
 · omega
 split at h
 · omega
 split at h
 · omega
 rename_i d f e;have c:kV b a=0:=wC
 exact⟨c,wC,wC,qf7 c,(qez c).2.2.2.2.2⟩
theorem qzu[MaxL][TxtC](s:Sl UInt8)(hl:s.l.length<=1000000)(a:Nat)(ha:a<18446744073709551616):
  call cx 283 [(.vsl s.nil (qf s.l) s.l.length),.int .u64 a,.int .i64 1,.int .i64 6] []=some (if Qr s.l a=0 then .tup [.vsl false (zi (KJ s.l a)) 6,.vsl false (qf (Qq s.l a)) (Qq s.l a).length,.int .i64 0] else .tup [.vsl true [] 0,.vsl true [] 0,.int .i64 (Qr s.l a:Nat)],[]):=by
 have g:=qop s hl a ha;refine qC Tryz.func283 rfl ⟨rfl,rfl⟩ ?_;by_cases t:kV s.l a≠0
 .have j:Qr s.l a=kV s.l a:=by unfold Qr ke;rw[if_pos t]
  have F:JT s.l a=.agg [.int .i64 0,.int .i64 0,.int .u64 0]:=by unfold JT;rw[if_neg t]
  rw[F] at g;have n:(((kV s.l a:Nat):Int) !=0)=true:=VJ;rw[j,if_neg t];obtain⟨C,Q⟩:=ql (kV s.l a);rw[Q] at g n⊢;simp[Tryz.f283,g,n]
 have n:kV s.l a=0:=wC
 obtain⟨f1,f2,f3,f4,f5,f6⟩:=qez n;have F:JT s.l a=.agg [.int .i64 (qaz s.l a:Nat),.int .i64 0,.int .u64 (ZY s.l a:Nat)]:=by unfold JT;rw[if_pos n]
 rw[F,n] at g;obtain⟨K,u⟩:=ql (qaz s.l a);obtain⟨S,r⟩:=ql (ZY s.l a);rw[u,r] at g;rw[u] at f3 f4;rw[r] at f5 f6;by_cases T:K=1
 rotate_left
 .have j:Qr s.l a=4:=by unfold Qr ke;rw[if_neg t,u,if_pos T]
  have jL:((K:Int) !=1)=true:=VJ;rw[j];simp[Tryz.f283,g,jL]
 subst T;by_cases h2:S<=64
 .have j:Qr s.l a=5:=by unfold Qr ke;rw[if_neg t,u,if_neg wE,r,if_pos (.inl h2)]
  have N:(S:Int)<=64:=wC
  rw[j];simp[Tryz.f283,g,N]
 have N:¬(S:Int)<=64:=wC
 have j:Qr s.l a=0:=by unfold Qr ke;rw[if_neg t,u,if_neg wE,r,if_neg wC]
 rw[if_pos j];have jS:=qf7 n;rw[r] at jS;have V:s.nil=false:=Sl.nn (i:=a) wC;have B:=zg ((a:Int)+16) ((a:Int)+16);have J:=zg ((a:Int)+(S:Int)) ((a:Int)+(S:Int));have q1:(0:Int)<=(a:Int)+(S:Int)/\(a:Int)+(S:Int)<=(s.l.length:Int)/\(0:Int)<=(a:Int)+16/\(a:Int)+16<=(a:Int)+(S:Int):=wC
 have n1:((a:Int)+16).toNat=a+16:=wC
 have n2:((a:Int)+(S:Int)).toNat=a+S:=wC
 have U:List.take (a+S-(a+16)) (List.drop (a+16) (qf s.l))=qf (qR s.l a):=by
  unfold qR;rw[r,show a+S-(a+16)=S-16 from wC,qda,qem]
 have O:a+S-(a+16)=(qR s.l a).length:=wC
 have G:48<(qR s.l a).length:=wC
 unfold KJ Qq;obtain⟨p,Z⟩:=ql (qR s.l a);rw[Z] at U O G⊢;have w:List.take p.length (List.drop (a+16) (qf s.l))=qf p:=by rw[<-O,U]
 rw[V] at g;have E:=qlK (Sl.mk false (p.drop 48) wE) (by simp only[vr];omega);simp only[kZ,if_false] at E;simp[Tryz.f283,g,N,V,B,J,q1,n1,n2,O];refine Run.loopThen (fun(k:Nat) e H=>k<=6/\(∃d,qi e 14=some d/\qiT d H (zi ((jV p).take k)))/\qi e 13=some (.vsl false (qf p) p.length)/\qi e 3=some (.int .i64 6)/\qi e 49=some (.int .i64 6)/\qi e 50=some (.int .i64 k)) (fun k=>6-k) 0 (by simp[qiT,zi,w]) ?_;rintro k e H ⟨hk,⟨d,f,v⟩,m,L,o,q⟩;by_cases qg:k<6
 .have X:(k:Int)<6:=by omega
  have W:=qz ((k:Int)+1) ((k+1:Nat):Int);have z:=qz (8*(k:Int)) (8*(k:Int));have P:8*k+8<=p.length:=wC
  have R:=qbR (Sl.mk false p wE) (8*k) P wJ (x:=8*(k:Int)) wC;have h:=qkk ((jV p).take k) (qU p (8*k));rw[<-qor wC] at h;have hL:(zi ((jV p).take k)).length<=1000:=wG
  have Y:=qkj ((jV p).take k);simp only at R;generalize zi ((jV p).take k)=l at *;generalize qU p (8*k)=c at *;have kF:(l.length+1)*8<=140737488355328:=wC
  have XK:l.length+1<=140737488355328:=wC
  rcases v with⟨rfl,rfl,rfl⟩|⟨rfl,rfl,qQ⟩
  .simp[m,f,L,o,q,X,W,z,R,qF];exact⟨k+1,wC,wC,.inr xG,wC⟩
  .simp[m,f,L,o,q,X,W,z,R,qF,kF,XK,Y];exact⟨k+1,wC,wC,.inr xG,wC⟩
 .have I:k=6:=by omega
  subst I;have b:(zi ((jV p).take 6)).length=6:=wG
  rcases v with⟨rfl,zG,rfl⟩|⟨rfl,rfl,qQ⟩
  .rw[zG] at b;simp at b
  .have Y:=qkj ((jV p).take 6);rw[b] at f;have y:List.drop 48 (qf p)=qf (p.drop 48):=qda _ _;have Xq:(48:Int)<=(p.length:Int):=wC;simp only[vr] at E;have M:idFree.idFreeL (zi ((jV p).take 6))=true:=(by rw[Qv];exact qlQ _);have A:List.take 6 (zi ((jV p).take 6))=zi ((jV p).take 6):=qJ wC;generalize zi ((jV p).take 6)=l at *;simp[m,f,L,o,q,E,y,Xq,b,M,A]
theorem qzH[MaxL][TxtC](s:Sl UInt8)(g:s.l.length<=1000000)(a:Nat)(f:a<18446744073709551616):
  call cx 275 [(.vsl s.nil (qf s.l) s.l.length),.int .u64 a] []=some (.tup [qlx s.l a,.int .i64 (Qr s.l a:Nat)],[]):=by
 have d:=qzu s g a f;refine qC Tryz.func275 rfl ⟨rfl,rfl⟩ ?_;unfold qlx;by_cases b:Qr s.l a=0
 .rw[if_pos b] at d;rw[if_pos b,b];obtain⟨i,v,r,m,q⟩:=qgA b;have h:(KJ s.l a).length=6:=by unfold KJ;rw[jj,qdc];omega
  unfold qe4;generalize KJ s.l a=l at *;generalize Qq s.l a=p at *
  match l,h with
  |[u,o,j,t,k,n],_=>
   simp only[zi,List.map] at d⊢;simp[Tryz.f275,d]
 .rw[if_neg b] at d;rw[if_neg b];have e:(((Qr s.l a:Nat):Int) !=0)=true:=VJ;generalize Qr s.l a=c at *;simp[Tryz.f275,d,e,qlw]
theorem qj9:∀(l:List (Nat×Nat)),qaN l=true↔∀j(h:j+1<l.length),(l[j]).1<(l[j+1]).1
 |[]=>by simp[qaN]
 |[a]=>by simp[qaN]
 |a::b::l=>by
  rw[qaN,zX,decide_eq_true_iff,qj9 (b::l)];constructor
  .rintro⟨e,d⟩ j c;cases j with
   |zero=>exact e
   |succ j=>exact d j wS
  .intro h;refine⟨h 0 wE,fun j c=>?_⟩;exact h (j+1) wS
def ki:List (Nat×Nat)->List D
 |[]=>[]
 |x::l=>.int .u64 (x.1:Nat):: .int .u64 (x.2:Nat)::ki l
theorem qgr:∀l:List (Nat×Nat),(ki l).length=2*l.length
 |[]=>rfl
 |x::l=>by simp only[ki,jA,qgr l];omega
theorem qsA:∀(l m:List (Nat×Nat)),ki (l++m)=ki l++ki m
 |[],_=>rfl
 |x::l,m=>by simp only[kC,ki,qsA l m]
theorem qhT:∀l:List (Nat×Nat),(ki l).all idFree=true
 |[]=>rfl
 |x::l=>by simp only[ki,Vc,qhT l];rfl
theorem qfk:∀(l:List (Nat×Nat))(i:Nat)(h:i<l.length),(ki l).drop (2*i)=.int .u64 ((l[i]).1:Nat):: .int .u64 ((l[i]).2:Nat)::(ki l).drop (2*i+2)
 |x::l,0,_=>rfl
 |x::l,i+1,h=>by
  have:=qfk l i wQ;rw[show 2*(i+1)=2*i+2 from wC];simpa[ki] using this
def qfu(x:List UInt8)(d:D):List D:=.int .u64 (qU x 0:Nat):: .int .u64 (qU x 8:Nat):: .int .u64 (qU x 16:Nat)::(qf ((x.drop 24).take 16)++[.int .u64 (qU x 40:Nat),d])
def V9:List D:=(.int .u64 0::.int .u64 0::.int .u64 0::qM [.int .u64 0,.vsl true [] 0])
def qg9(b:List UInt8)(a:Nat):D:=.agg (if JU b a=0 then qfu (qR b a) (.vsl false (ki (vS (qR b a))) (vS (qR b a)).length) else V9)
theorem qgq(x:List UInt8):(vS x).length=(x.length-48)/16:=by simp[vS]
theorem qhS{x:List UInt8}{k:Nat}(h:k<(vS x).length):(vS x)[k]=(qU x (48+16*k),qU x (56+16*k)):=by simp[vS]
theorem q22{x:List UInt8}{k:Nat}(h:k<(vS x).length):(vS x).take (k+1)=(vS x).take k++[(qU x (48+16*k),qU x (56+16*k))]:=by
 rw[Vs h,qhS h]
theorem qpd(l:List UInt8)(h:l.length=16):∃g n k j m o i q r p e c a d f b:UInt8,l=[g,n,k,j,m,o,i,q,r,p,e,c,a,d,f,b]:=by
 match l,h with
 |[g,n,k,j,m,o,i,q,r,p,e,c,a,d,f,b],_=>exact⟨g,n,k,j,m,o,i,q,r,p,e,c,a,d,f,b,rfl⟩
theorem qzK{p:List UInt8}(s:48<=p.length)(t:(p.length-48) % 16=0):(zi (jV p)).drop 6=ki (vS p):=by
 apply List.ext_getElem
 .rw[vr,qaU,qdc,qgr,qgq];omega
 .intro i q n;rw[qgr,qgq] at n;have c:i/2<(vS p).length:=by rw[qgq];omega
  have a:=qfk (vS p) (i/2) c;rw[qhS c] at a;rw[List.getElem_drop]
  have k:∀j(o:j<(zi (jV p)).length),(zi (jV p))[j]=.int .u64 (qU p (8*j):Nat):=by
   intro j o;simp[zi,jV]
  rw[k]
  have m:∀{l r:List D}{j:Nat}{x y:D}(_:l.drop j=x::y::r),l[j]?=some x/\l[j+1]?=some y:=by
   intro l r j x y h;have b:=congrArg (fun l=>l[0]?) h;have e:=congrArg (fun l=>l[1]?) h;simp only[kX,Nat.add_zero,kY,qeF] at b e;exact⟨b,e⟩
  obtain⟨f,d⟩:=m a;rcases Nat.mod_two_eq_zero_or_one i with g|g
  .have hi:2*(i/2)=i:=wC;rw[hi] at f;rw[(List.getElem?_eq_some_iff.1 f).2,show 8*(6+i)=48+16*(i/2) from wC]
  .have hi:2*(i/2)+1=i:=wC;rw[hi] at d;rw[(List.getElem?_eq_some_iff.1 d).2,show 8*(6+i)=56+16*(i/2) from wC]
theorem qzL{p:List UInt8}(h:48<p.length)(f:(p.length-48) % 16=0):∃e c:D,zi (jV p)=.int .u64 (qU p 0:Nat):: .int .u64 (qU p 8:Nat):: .int .u64 (qU p 16:Nat)::e::c:: .int .u64 (qU p 40:Nat)::ki (vS p):=by
 rw[<-qzK wC f];have d:(zi (jV p)).length=p.length/8:=by rw[qaU,qdc]
 have a:∀j,j<p.length/8->(zi (jV p)).drop j=.int .u64 (qU p (8*j):Nat)::(zi (jV p)).drop (j+1):=by
  intro j g;rw[zZ (by rw[d];exact g)];simp[zi,jV]
 refine⟨.int .u64 (qU p 24:Nat),.int .u64 (qU p 32:Nat),?_⟩;have b:=a 0 wC;rw[List.drop_zero] at b;rw[<-a 5 wC,<-a 4 wC,<-a 3 wC,<-a 2 wC,<-a 1 wC];exact b
theorem q41[MaxL][TxtC](s:Sl UInt8)(hl:s.l.length<=1000000)(a:Nat)(ha:a<18446744073709551616):call cx 260 [(.vsl s.nil (qf s.l) s.l.length),.int .u64 a] []=some (.tup [qg9 s.l a,.int .i64 (JU s.l a:Nat)],[]):=by
 have Z:call cx 258 [(.vsl s.nil (qf s.l) s.l.length),.int .u64 a,.int .i64 3,.int .i64 48,.int .i64 16] []=some (.tup [ZJ s.l a 3 48 16,.int .i64 (ke s.l a 3 48 16)],[]):=quB s hl a ha 3 48 16 wC wC wC;refine qC Tryz.func260 rfl ⟨rfl,rfl⟩ ?_;by_cases h0:ke s.l a 3 48 16≠0
 .have hC:JU s.l a=ke s.l a 3 48 16:=by unfold JU;rw[if_pos h0]
  have Y:ZJ s.l a 3 48 16=.vsl true [] 0:=by unfold ZJ;rw[if_neg h0]
  have hD:qg9 s.l a=.agg V9:=by unfold qg9;rw[hC,if_neg h0]
  have v:(((ke s.l a 3 48 16:Nat):Int) !=0)=true:=VJ;rw[hD,hC];rw[Y] at Z;generalize ke s.l a 3 48 16=C at *;simp[Tryz.f260,Z,v,V9]
 have v:ke s.l a 3 48 16=0:=wC
 have Y:ZJ s.l a 3 48 16=.vsl false (qf (qR s.l a)) (qR s.l a).length:=by unfold ZJ;rw[if_pos v]
 have hf:kV s.l a=0/\64<ZY s.l a/\(ZY s.l a-64) % 16=0:=by
  unfold ke at v;split at v
  · omega
  split at v
  · omega
  split at v
  · omega
  omega
 have jS:=qf7 hf.1;have XN:=qez hf.1;rw[Y,v] at Z;unfold qg9;have aC:JU s.l a=if qU (qR s.l a) 0=0 then 13 else if qaN (vS (qR s.l a)) then 0 else 11:=by unfold JU;rw[if_neg h0]
 rw[aC];have u:48<(qR s.l a).length/\((qR s.l a).length-48) % 16=0/\(qR s.l a).length % 8=0/\(qR s.l a).length<=1000000:=wC
 obtain⟨p,hp⟩:=ql (qR s.l a);rw[hp] at Z u⊢;have w:=qu1 (Sl.mk false p wE) u.2.2.2 u.2.2.1;unfold qen at w;have aA:¬p.length=0:=wC
 simp only[aA,decide_false] at w;obtain⟨x3,x4,hU⟩:=qzL (p:=p) u.1 u.2.1;have aD:(jV p).length=p.length/8:=qdc p;simp only[qfu];obtain⟨Q,V,X,c3,c4,T,R,c7,W,U,n,o,g,q,f,d,Y⟩:=qpd ((p.drop 24).take 16) wG;have am:List.take 16 (List.drop 24 (qf p))=qf [Q,V,X,c3,c4,T,R,c7,W,U,n,o,g,q,f,d]:=by rw[qda,qem,Y]
 rw[Y];have ao:qf [Q,V,X,c3,c4,T,R,c7,W,U,n,o,g,q,f,d]=(qa5 Q V X c3 c4 T R c7 W U n o g q f d []):=rfl;rw[ao] at am⊢;have ay:(40:Int)<=(p.length:Int):=wC
 have q0:0<p.length/8:=wC
 have q1:1<p.length/8:=wC
 have q2:2<p.length/8:=wC
 have q5:5<p.length/8:=wC
 have aj:(0:Int)<((p.length/8:Nat):Int):=wC
 have L:(1:Int)<((p.length/8:Nat):Int):=wC
 have N:(2:Int)<((p.length/8:Nat):Int):=wC
 have K:(5:Int)<((p.length/8:Nat):Int):=wC
 rw[aD,hU] at w;have av:=qgq p;have aa:=fun{k} h=>q22 (x:=p) (k:=k) h;have au:=fun{k} h=>qhS (x:=p) (k:=k) h;obtain⟨M,hM⟩:=ql (p.length/8);rw[hM] at w q0 q1 q2 q5 aj L N K;obtain⟨I,hI⟩:=ql (vS p);rw[hI] at av aa au w⊢;have aN:M=6+2*I.length:=wC
 obtain⟨z,F⟩:=ql (qU p 0);obtain⟨S,Jr⟩:=ql (qU p 8);obtain⟨s2,Qg⟩:=ql (qU p 16);obtain⟨s5,G⟩:=ql (qU p 40);rw[F,Jr,Qg,G] at w;rw[F,Jr,Qg,G];simp[Tryz.f260,Z,w,q0,L,N,K,ay,am,zU];clear w Z q0 q1 q2 q5 aj L N K aa F Jr Qg G hU;have az:=qhT I
 refine Run.loopThen (fun(k:Nat) e H=>k<=I.length/\qi e 4=some (.optr 0 21 0)/\qi e 9=some (.optr 1 21 0)/\qi e 8=some (.vsl false (.int .u64 (z:Nat):: .int .u64 (S:Nat):: .int .u64 (s2:Nat)::x3::x4:: .int .u64 (s5:Nat)::ki I) M)/\qi e 10=some (.int .i64 ((6+2*k:Nat):Int))/\
   ((k=0/\H=[some V9,some (.int .u64 (z:Nat):: .int .u64 (S:Nat):: .int .u64 (s2:Nat)::((qa5 Q V X c3 c4 T R c7 W U n o g q f d [])++[.int .u64 (s5:Nat),.vsl true [] 0]))])\/
   (0<k/\H=[some V9,some (.int .u64 (z:Nat):: .int .u64 (S:Nat):: .int .u64 (s2:Nat)::((qa5 Q V X c3 c4 T R c7 W U n o g q f d [])++[.int .u64 (s5:Nat),.osl 2 (2*k) 0 k 2])),some (ki (I.take k))]))) (fun k=>I.length-k) 0 ?_ ?_
 .exact⟨wC,wE,wE,wE,wE,.inl ⟨rfl,by simp[V9]⟩⟩
 rintro k e H ⟨hk,k4,k9,k8,t,hH⟩;obtain⟨j,hj⟩:∃j:Nat,6+2*k=j:=⟨_,rfl⟩;rw[hj] at t;by_cases qg:k<I.length
 .have aB:j<M:=by omega
  have c:(j:Int)<(M:Int):=wC
  have aL:j+1<M:=wC
  have r:(j:Int)+1<(M:Int):=wC
  have jW:=qz ((j:Int)+1) ((j:Int)+1);have zT:=qz ((j:Int)+2) ((j+2:Nat):Int);have B:((j:Int)+1).toNat=j+1:=wC
  have aK:¬(j:Int)+1<0:=wC
  have A:(0:Int)<=(j:Int)+1:=wC
  have qS:=qfk I k qg
  have O:List.drop j (.int .u64 (z:Nat):: .int .u64 (S:Nat):: .int .u64 (s2:Nat)::x3::x4:: .int .u64 (s5:Nat)::ki I)=.int .u64 ((I[k]).1:Nat):: .int .u64 ((I[k]).2:Nat)::(ki I).drop (2*k+2):=by
   rw[<-hj,show 6+2*k=2*k+6 from wC];simpa using qS
  have y:List.drop (j+1) (.int .u64 (z:Nat):: .int .u64 (S:Nat):: .int .u64 (s2:Nat)::x3::x4:: .int .u64 (s5:Nat)::ki I)=.int .u64 ((I[k]).2:Nat)::(ki I).drop (2*k+2):=by
   have:=congrArg (List.drop 1) O;rw[ky] at this;simpa using this
  have ak:ki (I.take (k+1))=ki (I.take k)++[.int .u64 ((I[k]).1:Nat),.int .u64 ((I[k]).2:Nat)]:=by
   rw[Vs qg,qsA];rfl
  have aw:=qhT (I.take k);have ag:=zfl aw;have kA:(ki (I.take k)).length=2*k:=by rw[qgr,jj];omega
  generalize (I[k]).1=y1 at *;generalize (I[k]).2=y2 at *;rcases hH with⟨rfl,rfl⟩|⟨ZC,rfl⟩
  .simp[k4,k8,k9,t,c,r,jW,zT,B,A,O,y,qF,V9];exact⟨1,wC,wC,wC,wC,⟨rfl,rfl⟩,by simpa[ki] using ak.symm⟩
  .have qQ:¬k=0:=wC;have kF:(k+1)*16<=140737488355328:=wC;have XK:k+1<=140737488355328:=wC;have aE:k*2=2*k:=wC;simp[k4,k8,k9,t,c,r,jW,zT,B,A,O,y,qF,V9,kA,kF,XK,aE,ag];exact⟨k+1,wC,wC,wC,wC,⟨wC,rfl⟩,ak.symm⟩
 .have aB:¬j<M:=by omega
  have c:¬(j:Int)<(M:Int):=wC
  have Qi:k=I.length:=wC
  subst Qi;have kM:0<I.length:=wC
  rcases hH with⟨h0,rfl⟩|⟨ZC,rfl⟩
  .omega
  rw[List.take_length];by_cases hz:z=0
  .subst hz;simp[k4,k8,k9,t,c,V9]
  have aP:¬(z:Int)=0:=wC
  have aG:=zfl az;have J:=qgr I;simp[k4,k8,k9,t,c,hz,V9]
  refine Run.loopThen (fun(i:Nat) e H=>1<=i/\i<=I.length/\qi e 4=some (.optr 0 21 0)/\qi e 9=some (.optr 1 21 0)/\qi e 11=some (.int .i64 (i:Int))/\(∀j(h:j+1<I.length),j+1<i->(I[j]).1<(I[j+1]).1)/\
   H=[some V9,some (.int .u64 (z:Nat)::.int .u64 (S:Nat)::.int .u64 (s2:Nat)::qa5 Q V X c3 c4 T R c7 W U n o g q f d [.int .u64 (s5:Nat),.osl 2 (2*I.length) 0 I.length 2]),some (ki I)]) (fun i=>I.length-i) 1 ?_ ?_
  .exact⟨wC,wC,wE,wE,wE,fun j _ h=>wC,by simp[V9]⟩
  rintro i e H ⟨Y6,hi,r4,r9,P,hR,rfl⟩;by_cases vL:i<I.length
  .obtain⟨m,rfl⟩:∃m,i=m+1:=⟨i-1,wC⟩;have b:(m:Int)+1<(I.length:Int):=wC;have hm:m<I.length:=wC;have aq:(m:Int)<(I.length:Int):=wC;have Yt:=qz ((m:Int)+1-1) (m:Int);have E:=qz (m:Int) (m:Int);have Ys:=qz ((m:Int)+1+1) ((m+1+1:Nat):Int);have a1:=qfk I (m+1) vL;have a2:=qfk I m hm;rw[Nat.mul_comm] at a1 a2;have Xd:=hR;have ac:(0:Int)<=(m:Int)+1:=wC;have aO:¬(m:Int)+1<0:=wC;have ai:((m:Int)+1).toNat=m+1:=by omega
   have aH:(I[m]).1<(I[m+1]).1->∀j(h:j+1<I.length),j+1<m+1+1->(I[j]).1<(I[j+1]).1:=by
    intro ah j ZD aQ;by_cases aJ:j=m
    .subst aJ;exact ah
    .exact hR j ZD wC
   have aI:¬(I[m]).1<(I[m+1]).1->qaN I=false:=by
    intro hn;cases hh:qaN I with
    |false=>rfl
    |true=>exact absurd ((qj9 I).1 hh m vL) hn
   generalize (I[m]).1=y0 at *;generalize (I[m+1]).1=y1 at *;by_cases ae:y0<y1
   .have Y2:¬(y1:Int)<=(y0:Int):=wC;simp[r4,r9,P,b,aq,E,Ys,a1,a2,ac,ai,J,Y2,V9];exact⟨m+1+1,wC,wC,wC,wC,aH ae⟩
   .have Y2:(y1:Int)<=(y0:Int):=wC;have ax:=aI ae;simp[r4,r9,P,b,aq,E,a1,a2,ac,ai,J,Y2,ax,V9]
  .have b:=zq vL;have hr:qaN I=true:=(qj9 I).2 fun j hj=>hR j hj wC;have ht:List.take (I.length*2) (ki I)=ki I:=qJ wC;have aM:¬I.length=0:=wC;have aF:I.length*2<=2*I.length:=wC;simp[r4,r9,P,b,hr,J,aG,ht,aF,V9]
end Go.Ev.S
namespace Go.Proofs
open Go.Shelf
def Tryz.laysM316_ren:Go.Shelf.Ren:=⟨fun|316=>254|n=>n,fun|9=>9|3=>3|4=>4|37=>63|0=>0|127=>307|5=>5|n=>n,fun|n=>n⟩
theorem Tryz.laysM316:Go.Proofs.LaysM.n316 Tryz.prog Tryz.laysM316_ren:={
 mixed:=wF
 f316:=Tryz.func254.trans (congrArg some wF)
 t0:=Tryz.underlying0
 a0:=Tryz.isAgg0
 z0:=Tryz.sizeOf0
 v0:=Tryz.zeroValue0
 t3:=Tryz.underlying3
 a3:=Tryz.isAgg3
 z3:=Tryz.sizeOf3
 v3:=Tryz.zeroValue3
 t4:=Tryz.underlying4
 a4:=Tryz.isAgg4
 z4:=Tryz.sizeOf4
 v4:=Tryz.zeroValue4
 t9:=Tryz.underlying9
 a9:=Tryz.isAgg9
 z9:=Tryz.sizeOf9
 v9:=Tryz.zeroValue9
 t37:=Tryz.underlying63
 a37:=Tryz.isAgg63
 z37:=Tryz.sizeOf63
 v37:=Tryz.zeroValue63
 t127:=Tryz.underlying307
 a127:=Tryz.isAgg307
 z127:=Tryz.sizeOf307
 v127:=Tryz.zeroValue307
 t5:=Tryz.underlying5
 a5:=Tryz.isAgg5
 z5:=Tryz.sizeOf5
 v5:=Tryz.zeroValue5
 i0:=wF
 i3:=wF
 i4:=wF
 i5:=wF
 i9:=wF
 i37:=wF
 i127:=by kernel_rfl}
def Tryz.lays219_ren:Go.Shelf.Ren:=⟨fun|219=>211|217=>171|225=>251|224=>252|267=>253|266=>212|314=>272|n=>n,fun|9=>9|3=>3|4=>4|5=>5|46=>184|146=>303|51=>50|n=>n,fun|1=>0|n=>n⟩
theorem Tryz.lays219:Go.Proofs.Lays.n219 Tryz.prog Tryz.lays219_ren:={
 mixed:=wF
 f217:=Tryz.func171.trans (congrArg some wF)
 f219:=Tryz.func211.trans (congrArg some wF)
 f224:=Tryz.func252.trans (congrArg some wF)
 f225:=Tryz.func251.trans (congrArg some wF)
 f266:=Tryz.func212.trans (congrArg some wF)
 f267:=Tryz.func253.trans (congrArg some wF)
 f314:=Tryz.func272.trans (congrArg some wF)
 t3:=Tryz.underlying3
 a3:=Tryz.isAgg3
 z3:=Tryz.sizeOf3
 v3:=Tryz.zeroValue3
 t4:=Tryz.underlying4
 a4:=Tryz.isAgg4
 z4:=Tryz.sizeOf4
 v4:=Tryz.zeroValue4
 t5:=Tryz.underlying5
 a5:=Tryz.isAgg5
 z5:=Tryz.sizeOf5
 v5:=Tryz.zeroValue5
 t9:=Tryz.underlying9
 a9:=Tryz.isAgg9
 z9:=Tryz.sizeOf9
 v9:=Tryz.zeroValue9
 t46:=Tryz.underlying184
 a46:=Tryz.isAgg184
 z46:=Tryz.sizeOf184
 v46:=Tryz.zeroValue184
 t51:=Tryz.underlying50
 a51:=Tryz.isAgg50
 z51:=Tryz.sizeOf50
 v51:=Tryz.zeroValue50
 t146:=Tryz.underlying303
 a146:=Tryz.isAgg303
 z146:=Tryz.sizeOf303
 v146:=Tryz.zeroValue303
 g1:=by kernel_rfl}
def Tryz.lays105_ren:Go.Shelf.Ren:=⟨fun|105=>95|212=>148|99=>149|165=>150|166=>151|170=>152|169=>153|263=>196|264=>197|206=>167|240=>198|241=>199|276=>247|277=>248|n=>n,fun|9=>9|3=>3|4=>4|20=>20|0=>0|46=>184|109=>252|5=>5|72=>256|76=>258|51=>50|146=>303|53=>38|148=>305|70=>254|37=>63|75=>220|127=>307|164=>354|80=>260|n=>n,fun|n=>n⟩
theorem Tryz.lays105:Go.Proofs.Lays.n105 Tryz.prog Tryz.lays105_ren:={
 mixed:=wF
 f99:=Tryz.func149.trans (congrArg some wF)
 f105:=Tryz.func95.trans (congrArg some wF)
 f165:=Tryz.func150.trans (congrArg some wF)
 f166:=Tryz.func151.trans (congrArg some wF)
 f169:=Tryz.func153.trans (congrArg some wF)
 f170:=Tryz.func152.trans (congrArg some wF)
 f206:=Tryz.func167.trans (congrArg some wF)
 f212:=Tryz.func148.trans (congrArg some wF)
 f240:=Tryz.func198.trans (congrArg some wF)
 f241:=Tryz.func199.trans (congrArg some wF)
 f263:=Tryz.func196.trans (congrArg some wF)
 f264:=Tryz.func197.trans (congrArg some wF)
 f276:=Tryz.func247.trans (congrArg some wF)
 f277:=Tryz.func248.trans (congrArg some wF)
 t0:=Tryz.underlying0
 a0:=Tryz.isAgg0
 z0:=Tryz.sizeOf0
 v0:=Tryz.zeroValue0
 t3:=Tryz.underlying3
 a3:=Tryz.isAgg3
 z3:=Tryz.sizeOf3
 v3:=Tryz.zeroValue3
 t4:=Tryz.underlying4
 a4:=Tryz.isAgg4
 z4:=Tryz.sizeOf4
 v4:=Tryz.zeroValue4
 t5:=Tryz.underlying5
 a5:=Tryz.isAgg5
 z5:=Tryz.sizeOf5
 v5:=Tryz.zeroValue5
 t9:=Tryz.underlying9
 a9:=Tryz.isAgg9
 z9:=Tryz.sizeOf9
 v9:=Tryz.zeroValue9
 t20:=Tryz.underlying20
 a20:=Tryz.isAgg20
 z20:=Tryz.sizeOf20
 v20:=Tryz.zeroValue20
 t37:=Tryz.underlying63
 a37:=Tryz.isAgg63
 z37:=Tryz.sizeOf63
 v37:=Tryz.zeroValue63
 t46:=Tryz.underlying184
 a46:=Tryz.isAgg184
 z46:=Tryz.sizeOf184
 v46:=Tryz.zeroValue184
 t51:=Tryz.underlying50
 a51:=Tryz.isAgg50
 z51:=Tryz.sizeOf50
 v51:=Tryz.zeroValue50
 t53:=Tryz.underlying38
 a53:=Tryz.isAgg38
 z53:=Tryz.sizeOf38
 v53:=Tryz.zeroValue38
 t70:=Tryz.underlying254
 a70:=Tryz.isAgg254
 z70:=Tryz.sizeOf254
 v70:=Tryz.zeroValue254
 t72:=Tryz.underlying256
 a72:=Tryz.isAgg256
 z72:=Tryz.sizeOf256
 v72:=Tryz.zeroValue256
 t75:=Tryz.underlying220
 a75:=Tryz.isAgg220
 z75:=Tryz.sizeOf220
 v75:=Tryz.zeroValue220
 t76:=Tryz.underlying258
 a76:=Tryz.isAgg258
 z76:=Tryz.sizeOf258
 v76:=Tryz.zeroValue258
 t109:=Tryz.underlying252
 a109:=Tryz.isAgg252
 z109:=Tryz.sizeOf252
 v109:=Tryz.zeroValue252
 t127:=Tryz.underlying307
 a127:=Tryz.isAgg307
 z127:=Tryz.sizeOf307
 v127:=Tryz.zeroValue307
 t146:=Tryz.underlying303
 a146:=Tryz.isAgg303
 z146:=Tryz.sizeOf303
 v146:=Tryz.zeroValue303
 t148:=Tryz.underlying305
 a148:=Tryz.isAgg305
 z148:=Tryz.sizeOf305
 v148:=Tryz.zeroValue305
 t164:=Tryz.underlying354
 a164:=Tryz.isAgg354
 z164:=Tryz.sizeOf354
 v164:=Tryz.zeroValue354}
theorem Tryz.Builder_Extra_105:Builder.Extra Tryz.prog Tryz.lays105_ren:={
 sizeBuilder:=wF
 liesBuilder:=wF
 t5:=Tryz.underlying5
 a5:=Tryz.isAgg5
 z5:=Tryz.sizeOf5
 v5:=Tryz.zeroValue5
 infoByte:=wF
 cellsByte:=wF
 sizeByte:=wF
 neB5:=by decide}
def Tryz.laysN54_ren:Go.Shelf.Ren:=⟨fun|54=>39|64=>90|65=>89|78=>144|79=>145|80=>135|81=>136|82=>137|83=>138|84=>139|85=>140|61=>141|86=>142|87=>143|93=>186|89=>187|90=>188|94=>189|95=>190|69=>191|97=>242|n=>n,fun|25=>29|26=>9|3=>3|51=>184|0=>0|67=>50|69=>38|4=>4|61=>245|60=>244|44=>236|5=>5|9=>9|75=>293|79=>296|83=>349|84=>115|n=>n,fun n=>n⟩
theorem Tryz.laysN54:SlLaysN.n54 Tryz.prog Tryz.laysN54_ren:={
 mixed:=wF
 f54:=⟨"slices.Sort[[]string,string]",wH,Tryz.func39.trans (congrArg some wF)⟩
 f61:=⟨"cmp.Less[string]",wH,Tryz.func141.trans (congrArg some wF)⟩
 f64:=Tryz.func90.trans (congrArg some wF)
 f65:=⟨"slices.pdqsortOrdered[string]",wH,Tryz.func89.trans (congrArg some wF)⟩
 f69:=⟨"cmp.isNaN[string]",wH,Tryz.func191.trans (congrArg some wF)⟩
 f78:=Tryz.func144.trans (congrArg some wF)
 f79:=Tryz.func145.trans (congrArg some wF)
 f80:=⟨"slices.insertionSortOrdered[string]",wH,Tryz.func135.trans (congrArg some wF)⟩
 f81:=⟨"slices.heapSortOrdered[string]",wH,Tryz.func136.trans (congrArg some wF)⟩
 f82:=⟨"slices.breakPatternsOrdered[string]",wH,Tryz.func137.trans (congrArg some wF)⟩
 f83:=⟨"slices.choosePivotOrdered[string]",wH,Tryz.func138.trans (congrArg some wF)⟩
 f84:=⟨"slices.reverseRangeOrdered[string]",wH,Tryz.func139.trans (congrArg some wF)⟩
 f85:=⟨"slices.partialInsertionSortOrdered[string]",wH,Tryz.func140.trans (congrArg some wF)⟩
 f86:=⟨"slices.partitionEqualOrdered[string]",wH,Tryz.func142.trans (congrArg some wF)⟩
 f87:=⟨"slices.partitionOrdered[string]",wH,Tryz.func143.trans (congrArg some wF)⟩
 f89:=Tryz.func187.trans (congrArg some wF)
 f90:=Tryz.func188.trans (congrArg some wF)
 f93:=⟨"slices.siftDownOrdered[string]",wH,Tryz.func186.trans (congrArg some wF)⟩
 f94:=⟨"slices.medianAdjacentOrdered[string]",wH,Tryz.func189.trans (congrArg some wF)⟩
 f95:=⟨"slices.medianOrdered[string]",wH,Tryz.func190.trans (congrArg some wF)⟩
 f97:=⟨"slices.order2Ordered[string]",wH,Tryz.func242.trans (congrArg some wF)⟩
 t0:=Tryz.underlying0
 a0:=Tryz.isAgg0
 z0:=Tryz.sizeOf0
 v0:=Tryz.zeroValue0
 t3:=Tryz.underlying3
 a3:=Tryz.isAgg3
 z3:=Tryz.sizeOf3
 v3:=Tryz.zeroValue3
 t4:=Tryz.underlying4
 a4:=Tryz.isAgg4
 z4:=Tryz.sizeOf4
 v4:=Tryz.zeroValue4
 t5:=Tryz.underlying5
 a5:=Tryz.isAgg5
 z5:=Tryz.sizeOf5
 v5:=Tryz.zeroValue5
 t9:=Tryz.underlying9
 a9:=Tryz.isAgg9
 z9:=Tryz.sizeOf9
 v9:=Tryz.zeroValue9
 t25:=Tryz.underlying29
 a25:=Tryz.isAgg29
 z25:=Tryz.sizeOf29
 v25:=Tryz.zeroValue29
 t26:=Tryz.underlying9
 a26:=Tryz.isAgg9
 z26:=Tryz.sizeOf9
 v26:=Tryz.zeroValue9
 t44:=Tryz.underlying236
 a44:=Tryz.isAgg236
 z44:=Tryz.sizeOf236
 v44:=Tryz.zeroValue236
 t51:=Tryz.underlying184
 a51:=Tryz.isAgg184
 z51:=Tryz.sizeOf184
 v51:=Tryz.zeroValue184
 t60:=Tryz.underlying244
 a60:=Tryz.isAgg244
 z60:=Tryz.sizeOf244
 v60:=Tryz.zeroValue244
 t61:=Tryz.underlying245
 a61:=Tryz.isAgg245
 z61:=Tryz.sizeOf245
 v61:=Tryz.zeroValue245
 t67:=Tryz.underlying50
 a67:=Tryz.isAgg50
 z67:=Tryz.sizeOf50
 v67:=Tryz.zeroValue50
 t69:=Tryz.underlying38
 a69:=Tryz.isAgg38
 z69:=Tryz.sizeOf38
 v69:=Tryz.zeroValue38
 t75:=Tryz.underlying293
 a75:=Tryz.isAgg293
 z75:=Tryz.sizeOf293
 v75:=Tryz.zeroValue293
 t79:=Tryz.underlying296
 a79:=Tryz.isAgg296
 z79:=Tryz.sizeOf296
 v79:=Tryz.zeroValue296
 t83:=Tryz.underlying349
 a83:=Tryz.isAgg349
 z83:=Tryz.sizeOf349
 v83:=Tryz.zeroValue349
 t84:=Tryz.underlying115
 a84:=Tryz.isAgg115
 z84:=Tryz.sizeOf115
 v84:=Tryz.zeroValue115}
end Go.Proofs
namespace Go.Ev.S
open Go Go.Proofs Go.Ev
theorem qzD[MaxL][TxtC]:Yj cx 0 40=true:=wF
theorem qz6[MaxL][TxtC]:Yj cx 40 40=true:=wF
theorem qz5[MaxL][TxtC]:Yj cx 80 40=true:=wF
theorem qzC[MaxL][TxtC]:Yj cx 120 40=true:=wF
theorem qzB[MaxL][TxtC]:Yj cx 160 40=true:=wF
theorem qzA[MaxL][TxtC]:Yj cx 200 40=true:=wF
theorem qz9[MaxL][TxtC]:Yj cx 240 40=true:=wF
theorem qz8[MaxL][TxtC]:Yj cx 280 40=true:=wF
theorem qz7[MaxL][TxtC]:Yj cx 320 13=true:=wF
theorem qt9:Tryz.prog.funcs.size=333:=wF
theorem qv7[MaxL][TxtC](f:Nat)(h:f<333):qgf cx f=true:=by
 rcases KE f 40 with b|b
 .exact qaS qzD wC wC
 rcases KE f 80 with e|e
 .exact qaS qz6 wC wC
 rcases KE f 120 with i|i
 .exact qaS qz5 wC wC
 rcases KE f 160 with c|c
 .exact qaS qzC wC wC
 rcases KE f 200 with g|g
 .exact qaS qzB wC wC
 rcases KE f 240 with a|a
 .exact qaS qzA wC wC
 rcases KE f 280 with d|d
 .exact qaS qz9 wC wC
 rcases KE f 320 with j|j
 .exact qaS qz8 wC wC
 exact qaS qz7 wC wC
theorem good[MaxL][TxtC](q:qlR):Good cx where
 mixed:=wF
 okc f fn c b hc hb:=(qoj (qv7 f (by rw[<-qt9];exact(Array.getElem?_eq_some_iff.1 b).1)) b).2 c hc hb
 ng f fn b:=(qoj (qv7 f (by rw[<-qt9];exact(Array.getElem?_eq_some_iff.1 b).1)) b).1
 ext f fn args d b hn h ok w ι H vs hs hv:=by
  by_cases k:f=121
  .subst k;rw[qug] at h;have a:=Tryz.func121;rw[show cx.P.funcs[121]?=Tryz.prog.funcs[121]? from rfl,a] at b;injection b with b;subst b;exact q57 (P:=cx.P) a rfl wF wF wF h hv
  by_cases e:f=212
  .subst e;rw[que] at h;have a:=Tryz.func212;rw[show cx.P.funcs[212]?=Tryz.prog.funcs[212]? from rfl,a] at b;injection b with b;subst b;exact q2O (P:=cx.P) a rfl wF wF wF h hv
  by_cases n:f=210
  .subst n;rw[quf] at h;have a:=Tryz.func210;rw[show cx.P.funcs[210]?=Tryz.prog.funcs[210]? from rfl,a] at b;injection b with b;subst b;exact q54 (P:=cx.P) a rfl wF wF wF h hv
  by_cases j:f=292
  .subst j;rw[qud] at h;have a:=Tryz.func292;rw[show cx.P.funcs[292]?=Tryz.prog.funcs[292]? from rfl,a] at b;injection b with b;subst b;exact q2N (P:=cx.P) a rfl wF wF wF h hv
  .have:cx.ext f args=none:=by
    show qla f args=none;unfold qla;split
    .exact absurd rfl k
    .exact absurd rfl e
    .exact absurd rfl n
    .exact absurd rfl j
    .rfl
   rw[this] at h;cases h
 con f args H r H' h ok w ι vs hs hv:=by
  by_cases l:f=211
  .subst l;rw[qvd] at h;exact q5c (X:=cx) (m:=MaxL.m) Tryz.lays219 rfl h hs hv
  by_cases i:f=254
  .subst i;rw[qvc] at h;exact q5d (X:=cx) Tryz.laysM316 h hs hv
  by_cases p:f=95
  .subst p;rw[qva] at h;exact q5b (X:=cx) Tryz.lays105 Tryz.Builder_Extra_105 h hs hv
  by_cases g:f=179
  .subst g;rw[q53] at h;exact q (f:=179) h hs hv
  by_cases o:f=39
  .subst o;rw[qvb] at h;exact q5a (X:=cx) Tryz.laysN54 (Go.Proofs.enters_of rfl rfl rfl) h hs hv
  .have:cx.con f args H=none:=by
    show ql0 f args H=none;unfold ql0;split
    .exact absurd rfl l
    .exact absurd rfl i
    .exact absurd rfl p
    .exact absurd rfl g
    .exact absurd rfl o
    .rfl
   rw[this] at h;cases h
theorem q36[MaxL][TxtC]{W:World}(h:laidMet Tryz.prog YtglpgdajjpipgaaGreatDoor.Rows.mergeWholeRow.laid W)(Kj:W.cell? ⟨0,0,none⟩=some (.int .i64 MaxL.m)):∀g cs,cx.glob g=some cs->Rep (· <W.heap.size) W jB [] (.vptr cs) (.pointer (some ⟨g,0,none⟩)):=by
 unfold YtglpgdajjpipgaaGreatDoor.Rows.mergeWholeRow at h;have t6:=qjE (g:=6) (zs:=gz6) (Lib.tabIs_of_head (g:=6) (t:=389) (e:=5) (n:=32) (k:=.u8) wF wF wF wF wF wF h) wF;replace h:=h.tail;have t7:=qjE (g:=7) (zs:=gz7) (Lib.tabIs_of_head (g:=7) (t:=390) (e:=5) (n:=64) (k:=.u8) wF wF wF wF wF wF h) wF;replace h:=h.tail;have t1:=qjE (g:=1) (zs:=gz1) (Lib.tabIs_of_head (g:=1) (t:=132) (e:=38) (n:=20) (k:=.u64) wF wF wF wF wF wF h) wF;replace h:=h.tail;replace h:=h.tail;have t3:=qn2 (g:=3) (text:=gs3) wF (laid_sentinel (g:=3) (ti:=220) (tp:=375) (te:=377) (ts:=9) h wF wF Tryz.underlying220 (qur (base:= "errors.errorString") wH wF wF wH) Tryz.underlying375 Tryz.underlying377 rfl rfl wF wF wF);replace h:=h.tail;have t2:=qn2 (g:=2) (text:=gs2) wF (laid_sentinel (g:=2) (ti:=220) (tp:=375) (te:=377) (ts:=9) h wF wF Tryz.underlying220 (qur (base:= "errors.errorString") wH wF wF wH) Tryz.underlying375 Tryz.underlying377 rfl rfl wF wF wF);replace h:=h.tail;intro g cs hg;have JO:qkO g=some cs:=hg;unfold qkO at JO;split at JO
 .cases JO;exact t1
 .cases JO;exact t2
 .cases JO;exact t3
 .cases JO;exact t6
 .cases JO;exact t7
 .cases JO;exact qy0 Kj
 .cases JO
theorem q0n[MaxL][TxtC](n b:Int):call cx 17 [.int .i64 n,.int .i64 b] []=some (.int .i64 (if b<1 then 0 else(IntKind.i64.wrap (n.tmod b+b)).tmod b),[]):=by
 refine qC Tryz.func17 rfl ⟨rfl,rfl⟩ ?_;by_cases a:b<1
 .simp[Tryz.f17,a]
 .have c:b≠0:=by omega
  simp[Tryz.f17,a,c]
theorem qzO[MaxL][TxtC](n:Int)(b:Nat)(f:1<=b)(d:b<=1000000):∃x:Nat,x<b/\call cx 17 [.int .i64 n,.int .i64 b] []=some (.int .i64 x,[]):=by
 have g:n.tmod b<b:=Int.tmod_lt_of_pos _ wC
 have j:-(b:Int)<n.tmod b:=by
  have:=Int.tmod_lt_of_pos (-n) (show(0:Int)<b from wC);rw[Int.neg_tmod] at this;omega
 have h:=q0n n b;rw[if_neg wC] at h;generalize n.tmod b=x at *;have c:=qz (x+b) (x+b);rw[c] at h;have a:0<=x+b:=wC
 have i:=Int.tmod_nonneg (b:Int) a;have e:=Int.tmod_lt_of_pos (x+b) (show(0:Int)<b from wC);refine⟨((x+b).tmod b).toNat,wC,?_⟩;rw[h];congr 3;omega
def jU(nil:Bool)(zs:List Int)(k:Nat):List D:=[.vsl nil (Ze .i64 zs) zs.length,.int .i64 k]
theorem qkC{k:IntKind}{l:List Int}{i:Nat}(h:i<l.length):(Ze k l).drop i=.int k l[i]::Ze k (l.drop (i+1)):=by
 unfold Ze;rw[<-List.map_drop,zZ h];rfl
@[simp] theorem q98 (k:IntKind) (l:List Int):(Ze k l).length=l.length:=by simp[Ze]
theorem qeS(nil:Bool)(zs:List Int)(k:Nat):(∀x,x∈jU nil zs k->idFree x=true)=True:=eq_true (by
 unfold jU;simp)
theorem qeR(nil:Bool)(zs:List Int)(k:Nat):(jU nil zs k).length=2:=rfl
theorem qeT(nil:Bool)(zs:List Int)(k n:Nat):(∀x,x∈jU nil zs k->closed n x=true)=True:=eq_true (by
 unfold jU;simp)
theorem q0l[MaxL][TxtC](nil:Bool)(zs:List Int)(k:Nat):call cx 55 [.optr 0 2 0] [some (jU nil zs k)]=some (.bool (decide (k<zs.length)),[some (jU nil zs k)]):=by
 refine qC Tryz.func55 rfl ⟨rfl,rfl⟩ ?_;unfold jU;by_cases h:k<zs.length
 .have a:=zn h;simp[Tryz.f55,h,a]
 .have a:=zq h;simp[Tryz.f55,h,a]
theorem qh9[MaxL][TxtC](n b:Int)(c:1<=b)(d:b<=1000000):∃x:Nat,(x:Int)<b/\call cx 17 [.int .i64 n,.int .i64 b] []=some (.int .i64 x,[]):=by
 obtain⟨x,e,a⟩:=qzO n b.toNat wC wC;rw[show((b.toNat:Nat):Int)=b from wC] at a;exact⟨x,wC,a⟩
theorem KS[MaxL][TxtC](nil:Bool)(zs:List Int)(e:nil=true->zs=[])(n:zs.length<=1000000)(k:Nat)(b:Int)(j:1<=b)(d:b<=1000000):
  ∃x k':Nat,(x:Int)<b/\(k<zs.length->k<k')/\call cx 25 [.optr 0 2 0,.int .i64 b] [some (jU nil zs k)]=some (.int .i64 x,[some (jU nil zs k')]):=by
 unfold jU;by_cases a:k<zs.length
 .have f:nil=false:=by
   cases nil with
   |false=>rfl
   |true=>rw[e rfl] at a;simp at a
  subst f;have c:¬(zs.length:Int)<=(k:Int):=wC
  have g:=zn a;have i:=qz ((k:Int)+1) ((k+1:Nat):Int);have o:=qz (((k+1:Nat):Int)-1) (k:Int);have l:=qz (k:Int) (k:Int);obtain⟨x,hx,m⟩:=qh9 zs[k] b j d;refine⟨x,k+1,hx,fun _=>Nat.lt_succ_self k,?_⟩;refine qC Tryz.func25 rfl ⟨rfl,rfl⟩ ?_;simp[Tryz.f25,c,i,g,l,qkC a,m]
 .have c:(zs.length:Int)<=(k:Int):=by omega
  refine⟨0,k,wC,fun h=>absurd h a,?_⟩;refine qC Tryz.func25 rfl ⟨rfl,rfl⟩ ?_;simp[Tryz.f25,c]
def namesL:List (List UInt8):=[[65],[66],[77,69,83,83,65,71,69],[95,80,73,68],[88,95,49],[80,82,73,79,82,73,84,89]]
def valuesL:List (List UInt8):=[[],[48],[49],[50,50],[97,61,98],[111,110,101,10,116,119,111],[0,255],[116,97,98,9,104,101,114,101],[108,111,110,103,32,108,111,110,103,32,108,111,110,103,32,108,111,110,103,32,108,111,110,103,32,108,111,110,103,32,108,111,110,103],[126,127,128]]
def strD(l:List (List UInt8)):List D:=l.map D.str
theorem qm3{l:List (List UInt8)}{i:Nat}(h:i<l.length):(strD l).drop i=.str l[i]::strD (l.drop (i+1)):=by
 unfold strD;rw[<-List.map_drop,zZ h];rfl
theorem q0a[MaxL][TxtC]:call cx 201 [] []=some (.vsl false (strD namesL) 6,[]):=by
 refine call_some.2 ⟨60,?_⟩;kernel_rfl
theorem qwv[MaxL][TxtC]:call cx 202 [] []=some (.vsl false (strD valuesL) 10,[]):=by
 refine call_some.2 ⟨60,?_⟩;kernel_rfl
def VW(p:Pr):Bool:=qgc p&&(decide (p.name.length<=8)&&decide (p.value.length<=36))
theorem qko{p:Pr}(h:VW p=true):qgc p=true:=by
 unfold VW at h;rw[zX] at h;exact h.1
theorem q0p{p:Pr}(h:VW p=true):p.name.length<=8/\p.value.length<=36:=by
 unfold VW at h;simp only[zX,decide_eq_true_eq] at h;exact h.2
theorem qzr:∀n∈namesL,∀v∈valuesL,VW ⟨n,v⟩=true:=wH
theorem q0k[MaxL][TxtC](nil:Bool)(zs:List Int)(d:nil=true->zs=[])(c:zs.length<=1000000)(k:Nat):
  ∃(p:Pr)(k':Nat),VW p=true/\call cx 158 [.optr 0 2 0] [some (jU nil zs k)]=some (.agg (Enc.cells p),[some (jU nil zs k')]):=by
 obtain⟨x,j,hx,-,e⟩:=KS nil zs d c k 6 wH wH;obtain⟨y,o,h,-,f⟩:=KS nil zs d c j 10 wH wH;have b:x<namesL.length:=by show x<6;omega
 have a:y<valuesL.length:=by show y<10;omega
 have m:=q0a;have l:=qwv;refine⟨⟨namesL[x],valuesL[y]⟩,o,qzr _ (vQ b) _ (vQ a),?_⟩;have g:=qm3 b;have i:=qm3 a;generalize namesL[x]=n at *;generalize valuesL[y]=v at *;generalize strD namesL=N at *;generalize strD valuesL=V at *;refine qC Tryz.func158 rfl ⟨rfl,rfl⟩ ?_;unfold jU at e f⊢;simp[Tryz.f158,e,f,m,l,g,i,hx,h,Pr.cells]
def idN(j:Nat):ID:=⟨[94,0,0,0,0,0,0,0,0,0,0,0,0,0,0,UInt8.ofNat j],rfl⟩
theorem qhF[MaxL][TxtC](n:Int):∃j:Nat,j<5/\call cx 24 [.int .i64 n] []=some (.agg (qf (idN j).l),[]):=by
 obtain⟨x,hx,a⟩:=qh9 n 5 wH wH;refine⟨x,wC,?_⟩;refine qC Tryz.func24 rfl ⟨rfl,rfl⟩ ?_;have h:x=0\/x=1\/x=2\/x=3\/x=4:=wC
 rcases h with rfl|rfl|rfl|rfl|rfl<;>simp[Tryz.f24,a]<;>rfl
theorem qoH[MaxL][TxtC]{j:Nat}(a:j<5):call cx 24 [.int .i64 j] []=some (.agg (qf (idN j).l),[]):=by
 have h:j=0\/j=1\/j=2\/j=3\/j=4:=wC
 refine call_some.2 ⟨60,?_⟩;rcases h with rfl|rfl|rfl|rfl|rfl<;>kernel_rfl
def q6S{α:Type}[Enc α](S:List D)(sz:Nat)(l:List α)(d:D)(H:qe):Prop:=
 (l=[]/\d=.vsl true [] 0/\H=[some S])\/(l≠[]/\∃n k t,n=l.length*sz/\k=l.length/\((d=.osl 2 n 0 k sz/\H=[some S,some t,some (qt l)])\/(d=.osl 1 n 0 k sz/\H=[some S,some (qt l),some t])))
def qvG(nil:Bool)(zs:List Int)(q:D×qe):Prop:=∃(l:List Pr)(k':Nat),1<=l.length/\l.length<=4/\(∀p∈l,VW p=true)/\q=(.vsl false (qt l) l.length,[some (jU nil zs k')])
theorem q0j[MaxL][TxtC](nil:Bool)(zs:List Int)(B:nil=true->zs=[])(y:zs.length<=1000000)(k:Nat):
  ∃q,call cx 99 [.optr 0 2 0,.int .i64 4] [some (jU nil zs k)]=some q/\qvG nil zs q:=by
 obtain⟨x,O,hx,-,G⟩:=KS nil zs B y k 4 wH wH;refine Vp (X:=cx) (f:=99) (args:=[.optr 0 2 0,.int .i64 4]) (H:=[some (jU nil zs k)]) (qvG nil zs) Tryz.func99 rfl ⟨rfl,rfl⟩ ?_;have M:=qz ((x:Int)+1) ((x+1:Nat):Int);have r:=qeS nil zs;have R:=qeR nil zs;have v:=qeT nil zs;simp[Tryz.f99,G,r];refine Run.loopThen (fun(q:List Pr×Nat×Nat) e H'=>q.1.length+q.2.1=x+1/\(∀p∈q.1,VW p=true)/\qi e 0=some (.optr 0 2 0)/\qi e 6=some (.int .i64 (q.2.1:Nat))/\∃d,qi e 5=some d/\q6S (jU nil zs q.2.2) 2 q.1 d H') (fun q=>q.2.1) ([],x+1,O) ?_ ?_
 .exact⟨wE,wE,wE,by simp[M],_,wE,.inl ⟨rfl,rfl,rfl⟩⟩
 rintro⟨l,i,z⟩ e H' ⟨hi,o,j,g,d,u,a⟩;simp only at hi o g a;obtain⟨p,A,w,C⟩:=q0k nil zs B y z;rcases a with⟨rfl,rfl,rfl⟩|⟨E,n,m,t,Q,P,a⟩
 .have b:0<i:=by simp at hi;omega
  have s:IntKind.i64.wrap ((i:Int)-1)=((i-1:Nat):Int):=by rw[wrap_i64]<;>(simp at hi;omega)
  simp[j,u,g,b,C,r,v,s,Pr.cells,qF];exact⟨[p],i-1,wC,by simp at hi⊢;omega,by simp[w],rfl,A,.inr ⟨wE,2,1,_,rfl,rfl,.inl ⟨rfl,rfl⟩⟩⟩
 .have L:(m+1)*32<=140737488355328:=by omega
  have N:m+1<=140737488355328:=wC
  have c:l.length=m:=P.symm;have F:m*2=n:=wC
  have I:List.take n (qt l)=qt l:=qJ wG;by_cases b:0<i
  .have s:=qz ((i:Int)-1) ((i-1:Nat):Int);rcases a with⟨rfl,rfl⟩|⟨rfl,rfl⟩
   all_goals
    simp[j,u,g,b,C,r,v,s,Pr.cells,qF,c,F,L,N];refine⟨l++[p],i-1,wC,wG,fun q J=>?_,rfl,A,.inr ⟨wE,n+2,m+1,_,wG,by simp[c],.inr ⟨rfl,by rw[qc3];rfl⟩⟩⟩;rcases List.mem_append.1 J with h|h
    .exact o q h
    .rw[List.mem_singleton.1 h];exact w
  .have S:l.isEmpty=false:=by simpa using E
   have K:1<=l.length:=by
    cases l with
    |nil=>exact absurd rfl E
    |cons=>simp
   rcases a with⟨rfl,rfl⟩|⟨rfl,rfl⟩
   all_goals
    simp[j,u,g,b,v,c,F,I];exact⟨l,z,K,wC,o,by rw[c]⟩
end Go.Ev.S
namespace Go.Ev
open Go Go.Proofs
def fxN:Nat->Nat->List UInt8
 |0,_=>[]
 |n+1,v=>fxN n (v/16)++[vV (v % 16)]
theorem qt5:∀(n:Nat),fxN n 0=List.replicate n 48
 |0=>rfl
 |n+1=>by
  rw[fxN,Nat.zero_div,qt5 n,Nat.zero_mod];have:vV 0=48:=wH
  rw[this,List.replicate_succ']
theorem qt6:∀(f n v:Nat),v<16^f->1<=f->f<=n->List.replicate (n-(ZX f v).length) 48++ZX f v=fxN n v
 |0,_,_,_,h,_=>by omega
 |f+1,0,_,_,_,h=>by omega
 |f+1,n+1,v,h,_,e=>by
  rw[ZX,fxN];by_cases a:v<16
  .rw[if_pos a,show v/16=0 from wC,qt5,qeE a];rfl
  .rw[if_neg a]
   have c:1<=f:=by
    rcases f with _|f
    .simp at h;omega
    .omega
   have b:=qt6 f n (v/16) (by rw[qeD] at h;omega) c wC
   have d:n+1-(ZX f (v/16)++[vV (v % 16)]).length=n-(ZX f (v/16)).length:=by
    rw[zp];simp
   rw[d,<-jY,b]
theorem qtP{v:Nat}(h:v<18446744073709551616):Qo v=fxN 16 v:=qt6 16 16 v wC wC wC
end Go.Ev
namespace Go.Ev.S
open Go Go.Proofs Go.Ev
def KO(p:Pr):List UInt8:=(p.name++[61])++p.value
theorem qhz[MaxL][TxtC](p:Pr)(c:p.name.length<1000000)(e:p.value.length<1000000):call cx 157 [.agg (Enc.cells p)] []=some (.str (KO p),[]):=by
 refine qC Tryz.func157 rfl ⟨rfl,rfl⟩ ?_;have b:p.name.length+1<=4611686018427387904:=wC
 have a:p.name.length+1+p.value.length<=4611686018427387904:=wC
 have d:p.name.length+(p.value.length+1)<=4611686018427387904:=wC
 unfold KO;simp[Tryz.f157,Pr.cells,b,a]
def qaV:List UInt8->Nat->Bool
 |[],_=>true
 |c::l,k=>(Jo c&&(decide (0<k)|| !XX c))&&qaV l (k+1)
theorem qo3:∀(l:List UInt8)(k:Nat),0<k->qaV l k=l.all Jo
 |[],_,_=>rfl
 |c::l,k,h=>by rw[qaV,qo3 l (k+1) wC];simp[h]
theorem q0d(s:List UInt8):JA s=(qaV s 0&&(decide (1<=s.length)&&decide (s.length<=64))):=by
 cases s with
 |nil=>rfl
 |cons c l=>
  rw[JA,qaV,qo3 l 1 wC,Vc];simp;cases Jo c<;>cases XX c<;>cases l.all Jo<;>simp
theorem qyn[MaxL][TxtC](s:List UInt8)(_:s.length<=9223372036854775807):call cx 200 [.str s] []=some (.bool (JA s),[]):=by
 refine qC Tryz.func200 rfl ⟨rfl,rfl⟩ ?_;rw[q0d];obtain⟨r,y⟩:=ql ((qaV s 0&&(decide (1<=s.length)&&decide (s.length<=64))));rw[y];simp[Tryz.f200];refine Run.loopThen (fun(k:Nat) e H'=>k<=s.length/\(qaV (s.drop k) k&&(decide (1<=s.length)&&decide (s.length<=64)))=r/\qi e 0=some (.str s)/\qi e 3=some (.int .i64 k)/\H'=[]) (fun k=>s.length-k) 0 ?_ ?_
 .simpa using y
 rintro k e H' ⟨H,a,g,m,rfl⟩;by_cases p:k<s.length
 .have f:=zn p;have C:=qz ((k:Int)+1) ((k+1:Nat):Int);have x:s[k]?=some s[k]:=qN p;rw[zZ p,qaV] at a;generalize s[k]=c at *;have E:(Jo c&&(decide (0<k)|| !XX c))=true->∃j:Nat,s.length-j<s.length-k/\j<=s.length/\(qaV (s.drop j) j&&(decide (1<=s.length)&&decide (s.length<=64)))=r/\(j:Int)=(k:Int)+1:=fun h=>⟨k+1,wC,wC,by rw[h,Yd] at a;exact a,wC⟩;have z:(Jo c&&(decide (0<k)|| !XX c))=false->r=false:=fun h=>by rw[h,qbA,qbA] at a;exact a.symm
  cases q:(Jo c&&(decide (0<k)|| !XX c)) with
  |true=>
   obtain⟨j,A,F,B,G⟩:=E q;simp[Jo,XX] at q;by_cases b:(48:Int)<=(c.toNat:Int)<;>by_cases d:(c.toNat:Int)<=57<;>rcases(show((k=0)=True/\(0<k)=False)\/((k=0)=False/\(0<k)=True) from yX) with⟨i,n⟩|⟨i,n⟩<;>by_cases u:(65:Int)<=(c.toNat:Int)<;>by_cases v:(c.toNat:Int)<=90<;>by_cases w:(c.toNat:Int)=95<;>try(exfalso;simp at i;omega)
   all_goals simp[g,m,f,x,C,b,d,n,u,v,w]
   all_goals exact⟨j,A,F,B,wC⟩
  |false=>
   have:=z q;subst this;simp[Jo,XX] at q;by_cases b:(48:Int)<=(c.toNat:Int)<;>by_cases d:(c.toNat:Int)<=57<;>rcases(show((k=0)=True/\(0<k)=False)\/((k=0)=False/\(0<k)=True) from yX) with⟨i,n⟩|⟨i,n⟩<;>by_cases u:(65:Int)<=(c.toNat:Int)<;>by_cases v:(c.toNat:Int)<=90<;>by_cases w:(c.toNat:Int)=95<;>try(exfalso;simp at i;omega)
   all_goals simp[g,m,f,x,b,d,n,u,v,w]
 .have f:=zq p;rw[Jc wC,qaV,Yd] at a;by_cases b:1<=s.length
  .have o:(1:Int)<=(s.length:Int):=wC;by_cases d:s.length<=64
   .have t:(s.length:Int)<=64:=wC;simp only[b,d,decide_true,Bool.and_self] at a;subst a;simp[g,m,f,o,t]
   .have t:¬(s.length:Int)<=64:=wC;simp only[b,d,decide_true,decide_false,Bool.and_false] at a;subst a;simp[g,m,f,o,t]
  .have o:¬(1:Int)<=(s.length:Int):=wC;simp only[b,decide_false,qbA] at a;subst a;simp[g,m,f,o]
theorem qyo[MaxL][TxtC](s:List UInt8)(a:s.length<1000000):call cx 200 [.str s] []=some (.bool (JA s),[]):=qyn s wC
theorem q0c{n:List UInt8}(h:JA n=true):n.length<=64:=by
 unfold JA at h;split at h
 .cases h
 .simp only[zX,decide_eq_true_eq] at h;exact h.1.1
theorem qjQ{p:Pr}(h:qgc p=true):JA p.name=true/\p.name.length<=64/\p.value.length<=256:=by
 unfold qgc at h;simp only[zX,decide_eq_true_eq] at h;exact⟨h.1,q0c h.1,h.2⟩
theorem q12[MaxL][TxtC](p:Pr)(h:qgc p=true):call cx 156 [.agg (Enc.cells p)] []=some (.tup [.vsl false (qf (KO p)) (KO p).length,.int .i64 0],[]):=by
 obtain⟨d,f,e⟩:=qjQ h;have a:=qyo p.name wC;rw[d] at a;have c:=qhz p wC wC;have b:¬(256:Int)<(p.value.length:Int):=wC
 refine qC Tryz.func156 rfl ⟨rfl,rfl⟩ ?_;rw[Pr.cells] at c⊢;have i:(KO p).length<=321:=by unfold KO;simp;omega
 have g:(KO p).length≠0:=by unfold KO;simp
 generalize KO p=w at *;have j:w.length<=140737488355328:=wC
 simp[Tryz.f156,a,c,b]
theorem JC{X:Cx}{f nt n0:Nat}{Q:Ex->qu->qe->Prop}{fs:List Fr}{c:Code}{σ:Type}(I:σ->qu->qe->Prop)(m:σ->Nat)(s:σ)(J:Ex->qu->qe->Prop){e:qu}{H:qe}(h:I s e H)
  (a:∀s e H,I s e H->Run X f nt n0 (fun ex d H'=>match ex with| .normal=>∃g,m g<m s/\I g d H'|ex=>J ex d H') [] (zl X f nt n0 c e H))
  (done:∀ex e H,J ex e H->Run X f nt n0 Q fs (some (ex,e,H))):Run X f nt n0 Q fs (zl X f nt n0 (.loop c) e H):=by
 refine Run.loopThen I m s h fun s e H hi=>Run.mono (a s e H hi) fun ex e H b=>?_;rw[KK];cases ex with
 |normal=>exact b
 |_=>exact done _ _ _ b
def LsM(L:List Pr)(d:D)(H:qe):Prop:=
 ∃n k t,n=L.length*2/\k=L.length/\((d=.osl 1 n 0 k 2/\H=[some t,some (qt L)])\/(d=.osl 0 n 0 k 2/\H=[some (qt L),some t])\/(d=.osl 0 n 0 k 2/\H=[some (qt L)]))
def LsH(out:List Pr)(d:D)(H:qe):Prop:=
 (out=[]/\d=.vsl true [] 0/\H=[])\/(out≠[]/\LsM out d H)
def LsQ(q:D×qe):Prop:=∃out:List Pr,1<=out.length/\out.length<=4/\(∀p∈out,VW p=true)/\q=(.tup [.vsl false (qt out) out.length,.int .i64 0],[])
theorem qpb[MaxL][TxtC](l:List Pr)(T:1<=l.length)(h4:l.length<=4)(kE:∀p∈l,VW p=true):∃q,call cx 98 [.vsl false (qt l) l.length] []=some q/\LsQ q:=by
 refine Vp (X:=cx) (f:=98) (args:=[.vsl false (qt l) l.length]) (H:=[]) LsQ Tryz.func98 rfl ⟨rfl,rfl⟩ ?_;have I:¬l.length=0:=wC
 simp[Tryz.f98,I];refine Run.loopThen (fun(q:Nat×List Pr) e H'=>q.1<=l.length/\q.2.length<=q.1/\(1<=q.1->1<=q.2.length)/\(∀p∈q.2,VW p=true)/\qi e 0=some (.vsl false (qt l) l.length)/\qi e 5=some (.int .i64 (q.1:Nat))/\∃d,qi e 4=some d/\LsH q.2 d H') (fun q=>l.length-q.1) (0,[]) ?_ ?_
 .exact⟨wE,wE,wE,wE,wE,wE,_,wE,.inl ⟨rfl,rfl,rfl⟩⟩
 rintro⟨i,out⟩ e H' ⟨hi,ho,K,B,c,b,d,g,G⟩;simp only at hi ho K B b G;by_cases s:i<l.length
 .have v:=zn s;have Z:=q12 l[i] (qko (kE _ (vQ s)));have E:=kE _ (vQ s);obtain⟨-,JR,vG⟩:=qjQ (qko E);have C:=qz ((i:Int)+1) ((i+1:Nat):Int);rw[Pr.cells] at Z;rcases G with⟨rfl,rfl,rfl⟩|⟨qQ,n,k,t,hn,U,G⟩
  .simp[c,g,b,s,v,Z,Pr.cells];refine Vd ?_;simp[qF];refine Vd ?_;simp[s,v,Pr.cells,C];exact⟨i+1,wC,wC,[l[i]],wE,fun _=>wE,by simp[E],wE,.inr ⟨wE,2,1,_,rfl,rfl,.inl ⟨rfl,rfl⟩⟩⟩
  have zV:List.take n (qt out)=qt out:=qJ wG;have w:out.length=k:=U.symm;have A:k*2=n:=wC
  have kN:(k+1)*32<=140737488355328:=wC
  have zM:k+1<=140737488355328:=wC
  have F:=qz (k:Int) (k:Int);rcases G with⟨rfl,rfl⟩|⟨rfl,rfl⟩|⟨rfl,rfl⟩
  all_goals
   simp[c,g,b,s,v,Z,Pr.cells]
   refine JC (fun(z:Nat) e H'=>z<=k/\qi e 0=some (.vsl false (qt l) l.length)/\qi e 4=some (.osl 0 n 0 k 2)/\qi e 5=some (.int .i64 (i:Nat))/\qi e 8=some (.int .i64 (z:Nat))/\H'=[some (qt out)]) (fun z=>k-z) 0
    (fun Q e H'=>Q=.exit 2/\∃z,z<=k/\qi e 0=some (.vsl false (qt l) l.length)/\qi e 4=some (.osl 0 n 0 k 2)/\qi e 5=some (.int .i64 (i:Nat))/\qi e 8=some (.int .i64 (z:Nat))/\H'=[some (qt out)]) ⟨vg _,wE,wE,wE,wE,rfl⟩ ?_ ?_
   .clear c g b;rintro z e H' ⟨I,c,g,b,o,rfl⟩;have ac:=qz ((z:Int)+1) ((z+1:Nat):Int);by_cases O:z<k
    .have r:z<out.length:=wC;obtain⟨-,c1,c2⟩:=qjQ (qko (B _ (vQ r)));have p1:=qhz out[z] wC wC;have p2:=qhz l[i] wC wC;rw[Pr.cells] at p1 p2;generalize KO out[z]=w1 at *;generalize KO l[i]=w2 at *;cases hb:Op.bytesLess w1 w2 with
     |true=>
      simp[c,g,b,o,O,s,v,Pr.cells,p1,p2,hb,ac,w,A];exact⟨z+1,wC,wC,rfl⟩
     |false=>
      simp[c,g,b,o,O,s,v,Pr.cells,p1,p2,hb,w,A];exact⟨z,I,rfl⟩
    .simp[c,g,b,o,O];exact⟨z,I,rfl⟩
   .clear c g b;rintro Q e H' ⟨rfl,z,I,c,g,b,o,rfl⟩
    have V:(∃h:z<out.length,out[z].name=l[i].name/\out[z].value=l[i].value)\/(∃h:z<out.length,¬out[z].name=l[i].name)\/(∃h:z<out.length,out[z].name=l[i].name/\¬out[z].value=l[i].value)\/¬z<k:=by
     by_cases h:z<out.length
     .by_cases T:out[z].name=l[i].name
      .by_cases h2:out[z].value=l[i].value
       .exact .inl ⟨h,T,h2⟩
       .exact .inr (.inr (.inl ⟨h,T,h2⟩))
      .exact .inr (.inl ⟨h,T⟩)
     .exact .inr (.inr (.inr wC))
    have Q1:=fun(h:z<out.length)=>(show z<k from wC);rcases V with⟨r,M,e2⟩|⟨r,M⟩|⟨r,M,e2⟩|O
    .simp[c,g,b,o,Q1 r,s,v,Pr.cells,M,e2,w,A,C];exact⟨i+1,wC,wC,out,wC,fun _=>wC,B,wE,.inr ⟨qQ,n,k,t,hn,U,.inr (.inr ⟨rfl,rfl⟩)⟩⟩
    all_goals
     first
      |simp[c,g,b,o,Q1 r,s,v,Pr.cells,M,e2,w,A,F,kN,zM,qF]
      |simp[c,g,b,o,Q1 r,s,v,Pr.cells,M,w,A,F,kN,zM,qF]
      |simp[c,g,b,o,O,w,A,F,kN,zM,qF]
     refine JC (fun(q:Nat×List Pr) e H'=>z<=q.1/\q.1<=k/\q.2.length=k+1/\(∀x(h:x<q.2.length),x≠q.1->VW q.2[x]=true)/\qi e 0=some (.vsl false (qt l) l.length)/\qi e 4=some (.osl 0 (n+2) 0 (k+1) 2)/\qi e 5=some (.int .i64 (i:Nat))/\qi e 8=some (.int .i64 (z:Nat))/\qi e 9=some (.int .i64 (q.1:Nat))/\H'=[some (qt q.2),some [.str [],.str []]]) (fun q=>q.1-z) (k,out++[⟨[],[]⟩])
      (fun Q e H'=>Q=.exit 4/\∃L:List Pr,L.length=k+1/\(∀x(h:x<L.length),x≠z->VW L[x]=true)/\qi e 0=some (.vsl false (qt l) l.length)/\qi e 4=some (.osl 0 (n+2) 0 (k+1) 2)/\qi e 5=some (.int .i64 (i:Nat))/\qi e 8=some (.int .i64 (z:Nat))/\H'=[some (qt L),some [.str [],.str []]]) ?_ ?_ ?_
     .refine⟨I,qA _,by simp[w],fun x h hx=>?_,wE,wE,wE,wE,wE,by rw[qc3];rfl⟩;have R:x<out.length:=(by simp at h;omega);simp only[List.getElem_append_left R];exact B _ (vQ R)
     .clear c g b o;rintro⟨j,L⟩ e H' ⟨ag,V4,m,u,c,g,b,o,k9,rfl⟩;simp only at ag V4 m u k9;by_cases S:z<j
      .obtain⟨a,rfl⟩:∃a,j=a+1:=⟨j-1,wC⟩;have ao:=qz (((a+1:Nat):Int)-1) (a:Int);have aq:=qz ((a:Int)+1-1) (a:Int);have ak:=qz (a:Int) (a:Int);have aa:a<k:=wC;have ai:(a:Int)<(k:Int)+1:=wC;have ah:(z:Int)<(a:Int)+1:=wC;have am:z<a+1:=S;have aj:(0:Int)<=(a:Int)+1:=wC;have J:(a+1)*2<=n:=wC;have N:a<L.length:=wC;have W:a+1<L.length:=wC;have y:L.length*2=n+2:=wC;simp[c,g,b,o,k9,ak,aa,ai,N,W,y,ah,aj,J];refine⟨a,wC,wC,wC,_,by simp[m],fun x h hx=>?_,rfl,rfl⟩;rw[List.getElem_set];split
       .exact u a N wC
       .exact u x wQ wC
      .simp[c,g,b,o,k9,S];exact⟨L,m,fun x h hx=>u x h wC,rfl⟩
     .clear c g b o;rintro Q e H' ⟨rfl,L,m,u,c,g,b,o,rfl⟩;have P:z<L.length:=wC;have Y:(z:Int)<(k:Int)+1:=wC;have Qx:z*2<=n:=wC;have y:L.length*2=n+2:=wC;simp[c,g,b,o,P,s,v,C,Y,Qx,y];refine⟨i+1,wC,wC,L.set z l[i],by simp[m];omega,fun _=>by simp[m],fun p B=>?_,wE,.inr ⟨fun h=>?_,n+2,k+1,_,by simp[y],by simp[m],.inr (.inl ⟨rfl,rfl⟩)⟩⟩
      .obtain⟨x,hx,rfl⟩:=List.mem_iff_getElem.1 B;rw[List.getElem_set];split
       .exact E
       .exact u x wo wC
      .have:=congrArg List.length h;simp[m] at this
 .have v:=zq s;have ae:=K wC;rcases G with⟨rfl,rfl,rfl⟩|⟨qQ,n,k,t,hn,U,G⟩
  .simp at ae
  have QW:¬(16:Int)<(k:Int):=wC
  have zV:List.take n (qt out)=qt out:=qJ wG;have w:out.length=k:=U.symm;have A:k*2=n:=wC
  rcases G with⟨rfl,rfl⟩|⟨rfl,rfl⟩|⟨rfl,rfl⟩
  all_goals
   simp[c,g,b,v,QW,zV,w,A];exact⟨out,wC,wC,B,by rw[w]⟩
theorem qo4(c:UInt8):(Jo c=true/\((65<=c.toNat/\c.toNat<=90)\/(¬(65<=c.toNat/\c.toNat<=90)/\48<=c.toNat/\c.toNat<=57)\/c.toNat=95))\/(Jo c=false/\¬(65<=c.toNat/\c.toNat<=90)/\¬(48<=c.toNat/\c.toNat<=57)/\c.toNat≠95):=by
 cases h:Jo c with
 |true=>
  simp[Jo] at h;exact .inl ⟨rfl,wC⟩
 |false=>
  simp[Jo] at h;exact .inr ⟨rfl,wC,wC,wC⟩
theorem q3V[MaxL][TxtC](s:List UInt8):call cx 264 [.str s] []=some (.bool (JA s),[]):=by
 refine qC Tryz.func264 rfl ⟨rfl,rfl⟩ ?_;cases s with
 |nil=>simp[Tryz.f264,JA]
 |cons c l=>
  have F:¬(l.length:Int)+1<1:=wC
  by_cases O:64<l.length+1
  .have g:(64:Int)<(l.length:Int)+1:=wC;have B:JA (c::l)=false:=(by simp[JA];omega);rw[B];simp[Tryz.f264,F,g]
  .have g:¬(64:Int)<(l.length:Int)+1:=wC;have Q:(c::l).length<1000000:=by simp;omega
   have B:JA (c::l)=(!XX c&&(c::l).all Jo):=by
    simp only[JA];rw[decide_eq_true wG,Yd]
   rw[B];by_cases M:48<=c.toNat/\c.toNat<=57
   .have Zw:(48:Int)<=(c.toNat:Int):=wC;have vn:(c.toNat:Int)<=57:=wC;have v:XX c=true:=(by simp[XX,M.1,M.2]);rw[v];simp[Tryz.f264,F,g,Zw,vn]
   .have v:XX c=false:=(by simp[XX];omega);rw[v];have u:(¬(48:Int)<=(c.toNat:Int))\/((48:Int)<=(c.toNat:Int)/\¬(c.toNat:Int)<=57):=wC;obtain⟨r,E⟩:=ql ((c::l).all Jo);rw[E];obtain⟨S,z⟩:∃S,S=c::l:=⟨_,rfl⟩;have C:(l.length:Int)+1=(S.length:Int):=(by rw[z];simp);rw[<-z] at E Q;rcases u with H|⟨H,G⟩
    .have A:¬48<=c.toNat:=wC;simp[Tryz.f264,F,g,H];rw[C,<-z];clear z C B;refine Run.loopThen (fun(k:Nat) e H'=>k<=S.length/\(S.drop k).all Jo=r/\qi e 0=some (.str S)/\qi e 24=some (.int .i64 S.length)/\qi e 25=some (.int .i64 k)/\H'=[]) (fun k=>S.length-k) 0 ?_ ?_
     .simpa using E
     rintro k e H' ⟨P,d,j,a,b,rfl⟩;by_cases p:k<S.length
     .have h:=zn p;have w:=qz ((k:Int)+1) ((k+1:Nat):Int);have m:S[k]?=some S[k]:=qN p;rw[zZ p,Vc] at d;generalize S[k]=x at *;rcases qo4 x with⟨hx,o|⟨o,K⟩|o⟩|⟨hx,o,K,N⟩
      .rw[hx,Yd] at d;have f:(65:Int)<=(x.toNat:Int):=wC;have n:(x.toNat:Int)<=90:=wC;simp[j,a,b,h,m,w,f,n];exact⟨k+1,wC,wC,ww,wC⟩
      .rw[hx,Yd] at d;have f:(48:Int)<=(x.toNat:Int):=wC;have n:(x.toNat:Int)<=57:=wC;have i:¬(65:Int)<=(x.toNat:Int):=wC;have q:¬65<=x.toNat:=wC;simp[j,a,b,h,m,w,f,n,i];exact⟨k+1,wC,wC,ww,wC⟩
      .rw[hx,Yd] at d;have f:(x.toNat:Int)=95:=wC;simp[j,a,b,h,m,w,o];exact⟨k+1,wC,wC,ww,wC⟩
      .rw[hx,qbA] at d;subst d;have y:¬(x.toNat:Int)=95:=wC;by_cases T:65<=x.toNat
       .have f:(65:Int)<=(x.toNat:Int):=wC;have n:¬(x.toNat:Int)<=90:=wC;have J:¬x.toNat<=90:=wC;have i:(48:Int)<=(x.toNat:Int):=wC;have I:48<=x.toNat:=wC;have q:¬(x.toNat:Int)<=57:=wC;have t:¬x.toNat<=57:=wC;simp[j,a,b,h,m,y,f,n,i,q]
       .have f:¬(65:Int)<=(x.toNat:Int):=wC;by_cases R:48<=x.toNat
        .have i:(48:Int)<=(x.toNat:Int):=wC;have q:¬(x.toNat:Int)<=57:=wC;have t:¬x.toNat<=57:=wC;simp[j,a,b,h,m,y,f,i,q]
        .have i:¬(48:Int)<=(x.toNat:Int):=wC;simp[j,a,b,h,m,y,f,i]
     .have h:=zq p;rw[Jc wC] at d;have:r=true:=d.symm;subst this;simp[j,a,b,h]
    .have A:48<=c.toNat:=wC;have L:¬c.toNat<=57:=wC;simp[Tryz.f264,F,g,H,G];rw[C,<-z];clear z C B;refine Run.loopThen (fun(k:Nat) e H'=>k<=S.length/\(S.drop k).all Jo=r/\qi e 0=some (.str S)/\qi e 24=some (.int .i64 S.length)/\qi e 25=some (.int .i64 k)/\H'=[]) (fun k=>S.length-k) 0 ?_ ?_
     .simpa using E
     rintro k e H' ⟨P,d,j,a,b,rfl⟩;by_cases p:k<S.length
     .have h:=zn p;have w:=qz ((k:Int)+1) ((k+1:Nat):Int);have m:S[k]?=some S[k]:=qN p;rw[zZ p,Vc] at d;generalize S[k]=x at *;rcases qo4 x with⟨hx,o|⟨o,K⟩|o⟩|⟨hx,o,K,N⟩
      .rw[hx,Yd] at d;have f:(65:Int)<=(x.toNat:Int):=wC;have n:(x.toNat:Int)<=90:=wC;simp[j,a,b,h,m,w,f,n];exact⟨k+1,wC,wC,ww,wC⟩
      .rw[hx,Yd] at d;have f:(48:Int)<=(x.toNat:Int):=wC;have n:(x.toNat:Int)<=57:=wC;have i:¬(65:Int)<=(x.toNat:Int):=wC;have q:¬65<=x.toNat:=wC;simp[j,a,b,h,m,w,f,n,i];exact⟨k+1,wC,wC,ww,wC⟩
      .rw[hx,Yd] at d;have f:(x.toNat:Int)=95:=wC;simp[j,a,b,h,m,w,o];exact⟨k+1,wC,wC,ww,wC⟩
      .rw[hx,qbA] at d;subst d;have y:¬(x.toNat:Int)=95:=wC;by_cases T:65<=x.toNat
       .have f:(65:Int)<=(x.toNat:Int):=wC;have n:¬(x.toNat:Int)<=90:=wC;have J:¬x.toNat<=90:=wC;have i:(48:Int)<=(x.toNat:Int):=wC;have I:48<=x.toNat:=wC;have q:¬(x.toNat:Int)<=57:=wC;have t:¬x.toNat<=57:=wC;simp[j,a,b,h,m,y,f,n,i,q]
       .have f:¬(65:Int)<=(x.toNat:Int):=wC;by_cases R:48<=x.toNat
        .have i:(48:Int)<=(x.toNat:Int):=wC;have q:¬(x.toNat:Int)<=57:=wC;have t:¬x.toNat<=57:=wC;simp[j,a,b,h,m,y,f,i,q]
        .have i:¬(48:Int)<=(x.toNat:Int):=wC;simp[j,a,b,h,m,y,f,i]
     .have h:=zq p;rw[Jc wC] at d;have:r=true:=d.symm;subst this;simp[j,a,b,h]
theorem qsU(c:UInt8):∀(l:List UInt8)(n:Nat),QF c l n=if(l.takeWhile fun x=>x !=c).length<l.length then((n+(l.takeWhile fun x=>x !=c).length:Nat):Int) else-1
 |[],n=>by simp[QF]
 |b::l,n=>by
  unfold QF;by_cases h:b=c
  .subst h;simp
  .have d:(b !=c)=true:=xG;rw[if_neg h,qsU c l (n+1),List.takeWhile_cons,d,if_pos rfl,jA,jA];by_cases a:(l.takeWhile fun x=>x !=c).length<l.length
   .rw[if_pos a,if_pos wC];omega
   .rw[if_neg a,if_neg wC]
theorem q6m[MaxL][TxtC](s:Sl UInt8)(c:Nat):call cx 285 [(.vsl s.nil (qf s.l) s.l.length),.int .u8 c] []=some (.int .i64 (QF (UInt8.ofNat c) s.l 0),[]):=by
 have a:call cx 292 [(.vsl s.nil (qf s.l) s.l.length),.int .u8 c] []=some (.int .i64 (QF (UInt8.ofNat c) s.l 0),[]):=by
  rw[qiA (X:=cx) (f:=292) rfl Tryz.func292 rfl,qud,q2M s.nil s.l s.h c];rfl
 refine qC Tryz.func285 rfl ⟨rfl,rfl⟩ ?_;simp[Tryz.f285,a]
theorem qxh(l:List UInt8):l.take (QA l).length=QA l:=(List.prefix_iff_eq_take.1 (List.takeWhile_prefix _)).symm
theorem q6o[MaxL][TxtC](s:Sl UInt8)(m:s.l.length<=1000000):call cx 263 [(.vsl s.nil (qf s.l) s.l.length),.vsl false [.int .u8 61] 1] []=some (.tup (if(QA s.l).length<s.l.length then[.vsl s.nil (qf (QA s.l)) (QA s.l).length,.vsl s.nil (qf (qaI s.l)) (qaI s.l).length,.bool true] else[(.vsl s.nil (qf s.l) s.l.length),.vsl true [] 0,.bool false]),[]):=by
 have b:=q6m s 61
 have e:QF (UInt8.ofNat 61) s.l 0=if(QA s.l).length<s.l.length then((QA s.l).length:Int) else-1:=by
  rw[qsU,J3];rfl
 rw[e] at b
 have hi:call cx 277 [(.vsl s.nil (qf s.l) s.l.length),.vsl false [.int .u8 61] 1] []=some (.int .i64 (if(QA s.l).length<s.l.length then((QA s.l).length:Int) else-1),[]):=by
  generalize (if(QA s.l).length<s.l.length then((QA s.l).length:Int) else-1)=r at *;refine qC Tryz.func277 rfl ⟨rfl,rfl⟩ ?_;have c:call cx 285 [(.vsl s.nil (qf s.l) s.l.length),.int .u8 61] []=some (.int .i64 r,[]):=b;simp[Tryz.f277,c]
 refine qC Tryz.func263 rfl ⟨rfl,rfl⟩ ?_;by_cases h:(QA s.l).length<s.l.length
 .rw[if_pos h] at hi⊢;unfold qaI;have a:=qxh s.l;obtain⟨k,d⟩:=ql ((QA s.l).length);rw[d] at hi h a⊢;have i:=qz ((k:Int)+1) ((k:Int)+1);have g:(0:Int)<=(k:Int)/\(k:Int)<=(s.l.length:Int)/\(0:Int)<=(k:Int)+1/\(k:Int)+1<=(s.l.length:Int):=by omega
  have j:((k:Int)+1).toNat=k+1:=wC
  have f:List.take k (qf s.l)=qf (QA s.l):=by rw[qem,a]
  have e2:List.drop (k+1) (qf s.l)=qf (s.l.drop (k+1)):=qda _ _;simp[Tryz.f263,hi,i,g,j,f,e2]
 .rw[if_neg h] at hi⊢;simp[Tryz.f263,hi]
def qhl(p:List UInt8):D:=if Vt p=0 then .agg [.str (QA p),.str (qaI p)] else .agg [.str [],.str []]
theorem q3J[MaxL][TxtC](s:Sl UInt8)(i:s.l.length<=1000000):call cx 231 [(.vsl s.nil (qf s.l) s.l.length)] []=some (.tup [qhl s.l,.int .i64 (Vt s.l:Nat)],[]):=by
 have hc:=q6o s i;have b:=q3V (QA s.l);refine qC Tryz.func231 rfl ⟨rfl,rfl⟩ ?_;unfold qhl;by_cases h:(QA s.l).length<s.l.length
 .rw[if_pos h] at hc;by_cases c:JA (QA s.l)=true
  .rw[c] at b;by_cases g:256<(qaI s.l).length
   .have f:(256:Int)<((qaI s.l).length:Int):=wC;have a:Vt s.l=21:=(by unfold Vt;rw[if_pos ⟨h,c⟩,if_pos g]);rw[a];simp[Tryz.f231,hc,b,f]
   .have f:¬(256:Int)<((qaI s.l).length:Int):=wC;have a:Vt s.l=0:=(by unfold Vt;rw[if_pos ⟨h,c⟩,if_neg g]);rw[a];simp[Tryz.f231,hc,b,f]
  .have a:Vt s.l=20:=(by unfold Vt;rw[if_neg (fun d=>c d.2)]);rw[a];have e:JA (QA s.l)=false:=(by cases d:JA (QA s.l)<;>simp_all);rw[e] at b;simp[Tryz.f231,hc,b]
 .rw[if_neg h] at hc;have a:Vt s.l=20:=by unfold Vt;rw[if_neg (fun d=>h d.1)]
  rw[a];simp[Tryz.f231,hc]
theorem qhN:∀(l:List UInt8)(k:Nat),leN (l++List.replicate k 0)=leN l
 |[],0=>rfl
 |[],k+1=>by
  have h:=qhN [] k;simp only[QY] at h⊢;rw[qdS,leN.eq_2];rw[h];rfl
 |c::l,k=>by rw[kC,leN,leN,qhN l k]
theorem qwi(l:List UInt8)(k a:Nat):vk (l++List.replicate k 0) a=vk l a:=by
 unfold vk;rw[jf,Zp,List.drop_replicate,List.take_replicate,qhN]
theorem q6H(l:List UInt8)(k:Nat)(t:Int×Int×Int):JW (l++List.replicate k 0) t=JW l t:=by
 obtain⟨x,y,z⟩:=t;simp only[JW,qwi]
theorem X2[MaxL][TxtC]{x r:Int}{k:Nat}(i:k<32)(e:zB x k=r){kk:Int}(g:kk=k):call cx 207 [.int .u32 x,.int .u64 kk] []=some (.int .u32 r,[]):=by
 rw[g,<-e];have a:=zg (32-(k:Int)) ((32-k:Nat):Int);have b:min k 32=k:=wC
 have f:¬(k:Int)<0:=wC
 refine qC Tryz.func207 rfl ⟨rfl,rfl⟩ ?_;unfold zB;obtain⟨j,h⟩:∃j,j=32-k:=⟨_,rfl⟩;rw[<-h] at a⊢;have d:min j 32=j:=wC
 have c:¬(j:Int)<0:=wC
 simp[Tryz.f207,a,IntKind.bits,b,d,f,c]
theorem bits32:2^IntKind.u32.bits=4294967296:=by simp only[IntKind.bits]
theorem qwh(x y:Nat)(a:y<256)(hx:x*256+y<4294967296):Vx .u32 ((x:Int)*256) (y:Int)=((x*256+y:Nat):Int):=by
 have b:x*256<2^IntKind.u32.bits:=Nat.lt_of_lt_of_eq (Nat.lt_of_le_of_lt (Nat.le_add_right _ _) hx) bits32.symm;have d:y<2^IntKind.u32.bits:=Nat.lt_of_lt_of_eq (vh a wH) bits32.symm;have c:(x:Int)*256=((x*256:Nat):Int):=wC
 rw[c,qjU rfl b d,qoe x y a]
theorem qcK[MaxL][TxtC](f:Bool)(l:List UInt8)(B:f=true->l=[])(a:Nat)(K:a<5611686018427387904)(_:l.length<4611686018427387904){at_:Int}(p:at_=a):call cx 206 [.vsl f (qf l) l.length,.int .i64 at_] []=some (.int .u32 (vk l a:Nat),[]):=by
 subst p;refine qC Tryz.func206 rfl ⟨rfl,rfl⟩ ?_;simp[Tryz.f206];refine Run.loopThen (fun(k:Nat) e H=>k<=4/\H=[]/\qi e 0=some (.vsl f (qf l) l.length)/\qi e 1=some (.int .i64 a)/\qi e 5=some (.int .u32 (leN ((l.drop (a+k)).take (4-k)):Nat))/\qi e 6=some (.int .i64 ((k:Int)-1))) (fun k=>k) 4 (by simp[leN]) ?_;rintro k e H ⟨J,rfl,w,o,h,i⟩;cases k with
 |zero=>
  simp[w,o,h,i];rfl
 |succ j=>
  have x:(0:Int)<=(j:Int):=wC
  have z:((j+1:Nat):Int)-1=(j:Int):=wC
  rw[z] at i;have b:=qz ((j:Int)-1) ((j:Int)-1);have c:=qz ((a:Int)+(j:Int)) ((a+j:Nat):Int);have d:(2:Int)^min 8 IntKind.u32.bits=256:=wH
  have n:leN ((l.drop (a+(j+1))).take (4-(j+1)))<256^3:=by
   refine vh (qfg _) (qfE wH ?_);rw[jj];omega
  obtain⟨v,q⟩:=ql (leN ((l.drop (a+(j+1))).take (4-(j+1))));rw[q] at h n;have m:=qdT ((v:Int)*256) ((v:Int)*256);by_cases g:a+j<l.length
  .have F:((a+j:Nat):Int)<(l.length:Int):=by omega
   have E:f=false:=by
    cases C:f with
    |false=>rfl
    |true=>rw[B C] at g;simp at g
   have G:(l.drop (a+j)).take (4-j)=l[a+j]::(l.drop (a+(j+1))).take (4-(j+1)):=by
    rw[zZ g,show 4-j=(4-(j+1))+1 from wC,List.take_succ_cons,qgV]
   have I:=l[a+j].toNat_lt;have u:=qwh v l[a+j].toNat I wC;have t:=qdT (l[a+j].toNat:Int) (l[a+j].toNat:Int);have A:(0:Int)<=(a:Int)+(j:Int):=wC;have r:(a:Int)+(j:Int)<(l.length:Int):=wC;have y:((a:Int)+(j:Int)).toNat=a+j:=wC;have p:=vE g;simp[w,o,h,i,x,c,b,t,E,A,r,y,p,d,m,u];exact⟨j,wC,wC,by rw[G,leN,q];omega,rfl⟩
  .have F:¬((a+j:Nat):Int)<(l.length:Int):=wC;have r:¬(a:Int)+(j:Int)<(l.length:Int):=by omega
   have s:v=0:=by
    rw[<-q,Jc wC];simp[leN]
   subst s;simp[w,o,h,i,x,c,b,r,d];exact⟨j,wC,wC,by rw[Jc wC];simp[leN],rfl⟩
theorem qmd(l:List UInt8)(a k:Nat):vk (l.drop a) k=vk l (a+k):=by
 unfold vk;rw[ky]
theorem qnv[MaxL][TxtC](s:Sl UInt8)(hs:s.l.length<4611686018427387904):call cx 164 [(.vsl s.nil (qf s.l) s.l.length)] []=some (.int .u64 (qac s.l),[]):=by
 refine qC Tryz.func164 rfl ⟨rfl,rfl⟩ ?_;have hN:qac s.l=KT s.l (vp 3735928559 (IntKind.u32.wrap (s.l.length:Nat)),vp 3735928559 (IntKind.u32.wrap (s.l.length:Nat)),vp 3735928559 (IntKind.u32.wrap (s.l.length:Nat))):=rfl;obtain⟨n,o⟩:=ql (IntKind.u32.wrap (3735928559+IntKind.u32.wrap (s.l.length:Nat)));have jR:vp 3735928559 (IntKind.u32.wrap (s.l.length:Nat))=n:=o;rw[jR] at hN;clear jR;have u:(2:Int)^min 32 IntKind.u64.bits=4294967296:=wH
 generalize qac s.l=ag at *;by_cases h0:s.l.length=0
 .have zw:(s.l.length:Int)=0:=by omega
  rw[qkv h0] at hN;subst hN;rw[h0] at o;replace o:IntKind.u32.wrap (3735928559+IntKind.u32.wrap (0:Int))=n:=o;have kM:n=3735928559:=by rw[<-o];decide
  subst kM;simp[Tryz.f164,h0,qbP,u]
 have zw:¬(s.l.length:Int)=0:=wC
 simp[Tryz.f164,o,h0];refine Run.loopThen (fun(q:Nat×Int×Int×Int) e H'=>q.1<s.l.length/\KT (s.l.drop q.1) q.2=ag/\qi e 0=some (.vsl s.nil (qf s.l) s.l.length)/\qi e 3=some (.int .u32 q.2.1)/\qi e 4=some (.int .u32 q.2.2.1)/\qi e 5=some (.int .u32 q.2.2.2)/\qi e 6=some (.int .i64 q.1)/\H'=[]) (fun q=>s.l.length-q.1) (0,n,n,n) ?_ ?_
 .simp[hN];omega
 rintro⟨at_,x,y,z⟩ e H' ⟨qS,R,k0,k3,k4,k5,k6,rfl⟩;simp only at qS R k3 k4 k5 k6;have r:=qz ((s.l.length:Int)-(at_:Int)) ((s.l.length-at_:Nat):Int);have zY:(s.l.drop at_).length=s.l.length-at_:=vr
 by_cases vO:12<s.l.length-at_
 .have m:(12:Int)<((s.l.length-at_:Nat):Int):=by omega
  rw[qkw wC,ky] at R;have w0:=qcK s.nil s.l s.h (at_+0) wC hs (at_:=(at_:Int)) wC;obtain⟨t,S⟩:=ql (vp x (vk s.l (at_+0):Nat));have w4:=qcK s.nil s.l s.h (at_+4) wC hs (at_:=(at_:Int)+4) wC;obtain⟨d,O⟩:=ql (vp y (vk s.l (at_+4):Nat));have w8:=qcK s.nil s.l s.h (at_+8) wC hs (at_:=(at_:Int)+8) wC;obtain⟨f,G⟩:=ql (vp z (vk s.l (at_+8):Nat));have ha:JW (s.l.drop at_) (x,y,z)=(t,d,f):=by simp only[JW,qmd,S,O,G]
  have c0:IntKind.u32.wrap (x+(vk s.l (at_+0):Nat))=t:=S;generalize vk s.l (at_+0)=u0 at *;have c4:IntKind.u32.wrap (y+(vk s.l (at_+4):Nat))=d:=O;generalize vk s.l (at_+4)=u4 at *;have c8:IntKind.u32.wrap (z+(vk s.l (at_+8):Nat))=f:=G;generalize vk s.l (at_+8)=u8 at *;clear S O G;have i4:=qz ((at_:Int)+4) ((at_:Int)+4);have i8:=qz ((at_:Int)+8) ((at_:Int)+8);rw[ha] at R;obtain⟨B,h1⟩:=ql (jk t f);have e0:IntKind.u32.wrap (t-f)=B:=h1;obtain⟨r0,N⟩:=ql (zB f 4);have e1:=X2 wC N (kk:=4) rfl;obtain⟨a,T⟩:=ql (qO .u32 B r0);have h2:qO .u32 B (zB f 4)=a:=by rw[N];exact T
  obtain⟨i,h3⟩:=ql (vp f d);have e2:IntKind.u32.wrap (f+d)=i:=h3;obtain⟨E,h4⟩:=ql (jk d a);have e3:IntKind.u32.wrap (d-a)=E:=h4;obtain⟨r1,P⟩:=ql (zB a 6);have e4:=X2 wC P (kk:=6) rfl;obtain⟨b,f1⟩:=ql (qO .u32 E r1);have h5:qO .u32 E (zB a 6)=b:=by rw[P];exact f1
  obtain⟨g,U⟩:=ql (vp a i);have e5:IntKind.u32.wrap (a+i)=g:=U;obtain⟨w,Y⟩:=ql (jk i b);have e6:IntKind.u32.wrap (i-b)=w:=Y;obtain⟨r2,I⟩:=ql (zB b 8);have e7:=X2 wC I (kk:=8) rfl;obtain⟨c,Z⟩:=ql (qO .u32 w r2);have h8:qO .u32 w (zB b 8)=c:=by rw[I];exact Z
  obtain⟨k,h9⟩:=ql (vp b g);have e8:IntKind.u32.wrap (b+g)=k:=h9;obtain⟨v,W⟩:=ql (jk g c);have e9:IntKind.u32.wrap (g-c)=v:=W;obtain⟨r3,L⟩:=ql (zB c 16);have ac:=X2 wC L (kk:=16) rfl;obtain⟨A,f3⟩:=ql (qO .u32 v r3);have g2:qO .u32 v (zB c 16)=A:=by rw[L];exact f3
  obtain⟨p,V⟩:=ql (vp c k);have M:IntKind.u32.wrap (c+k)=p:=V;obtain⟨K,g4⟩:=ql (jk k A);have aj:IntKind.u32.wrap (k-A)=K:=g4;obtain⟨r4,F⟩:=ql (zB A 19);have C:=X2 wC F (kk:=19) rfl;obtain⟨H,f4⟩:=ql (qO .u32 K r4);have g5:qO .u32 K (zB A 19)=H:=by rw[F];exact f4
  obtain⟨x4,X⟩:=ql (vp A p);have ae:IntKind.u32.wrap (A+p)=x4:=X;obtain⟨J,g7⟩:=ql (jk p H);have ah:IntKind.u32.wrap (p-H)=J:=g7;obtain⟨r5,Q⟩:=ql (zB H 4);have aa:=X2 wC Q (kk:=4) rfl;obtain⟨z4,f5⟩:=ql (qO .u32 J r5);have g8:qO .u32 J (zB H 4)=z4:=by rw[Q];exact f5
  obtain⟨y4,g9⟩:=ql (vp H x4);have am:IntKind.u32.wrap (H+x4)=y4:=g9;have hm:=qoD h1 h2 h3 h4 h5 U Y h8 h9 W g2 V g4 g5 X g7 g8 g9;rw[hm] at R;clear g9 g8 g7 X g5 g4 V g2 W h9 h8 Y U h5 h4 h3 h2 h1 hm N P I L F Q;have ak:=qz ((at_:Int)+12) ((at_+12:Nat):Int);clear ha hN;generalize ai:s.l.length-at_=j at *
  simp[k0,k3,k4,k5,k6,r,m,ak,w0,w4,w8,c0,c4,c8,i4,i8,e0,e1,T,e2,e3,e4,f1,e5,e6,e7,Z,e8,e9,ac,f3,M,aj,C,f4,ae,ah,aa,f5,am];exact⟨at_+12,wC,wC,_,_,_,R,wC,rfl,rfl,wC⟩
 .have m:¬(12:Int)<((s.l.length-at_:Nat):Int):=by omega
  have w0:=qcK s.nil s.l s.h (at_+0) wC hs (at_:=(at_:Int)) wC;obtain⟨t,S⟩:=ql (vp x (vk s.l (at_+0):Nat));have w4:=qcK s.nil s.l s.h (at_+4) wC hs (at_:=(at_:Int)+4) wC;obtain⟨d,O⟩:=ql (vp y (vk s.l (at_+4):Nat));have w8:=qcK s.nil s.l s.h (at_+8) wC hs (at_:=(at_:Int)+8) wC;obtain⟨f,G⟩:=ql (vp z (vk s.l (at_+8):Nat));have ha:JW (s.l.drop at_) (x,y,z)=(t,d,f):=by simp only[JW,qmd,S,O,G]
  have c0:IntKind.u32.wrap (x+(vk s.l (at_+0):Nat))=t:=S;generalize vk s.l (at_+0)=u0 at *;have c4:IntKind.u32.wrap (y+(vk s.l (at_+4):Nat))=d:=O;generalize vk s.l (at_+4)=u4 at *;have c8:IntKind.u32.wrap (z+(vk s.l (at_+8):Nat))=f:=G;generalize vk s.l (at_+8)=u8 at *;clear S O G;have i4:=qz ((at_:Int)+4) ((at_:Int)+4);have i8:=qz ((at_:Int)+8) ((at_:Int)+8);obtain⟨B,h1⟩:=ql (qO .u32 f d);obtain⟨r0,N⟩:=ql (zB d 14);have e1:=X2 wC N (kk:=14) rfl;obtain⟨i,T⟩:=ql (jk B r0);have d0:IntKind.u32.wrap (B-r0)=i:=T;have h2:jk B (zB d 14)=i:=by rw[N];exact T
  obtain⟨E,h3⟩:=ql (qO .u32 t i);obtain⟨r1,P⟩:=ql (zB i 11);have e3:=X2 wC P (kk:=11) rfl;obtain⟨a,f1⟩:=ql (jk E r1);have d1:IntKind.u32.wrap (E-r1)=a:=f1;have h4:jk E (zB i 11)=a:=by rw[P];exact f1
  obtain⟨w,h5⟩:=ql (qO .u32 d a);obtain⟨r2,I⟩:=ql (zB a 25);have e5:=X2 wC I (kk:=25) rfl;obtain⟨b,Z⟩:=ql (jk w r2);have d2:IntKind.u32.wrap (w-r2)=b:=Z;have U:jk w (zB a 25)=b:=by rw[I];exact Z
  obtain⟨v,Y⟩:=ql (qO .u32 i b);obtain⟨r3,L⟩:=ql (zB b 16);have e7:=X2 wC L (kk:=16) rfl;obtain⟨c,f3⟩:=ql (jk v r3);have d3:IntKind.u32.wrap (v-r3)=c:=f3;have h8:jk v (zB b 16)=c:=by rw[L];exact f3
  obtain⟨K,W⟩:=ql (qO .u32 a c);obtain⟨r4,F⟩:=ql (zB c 4);have e9:=X2 wC F (kk:=4) rfl;obtain⟨g,f4⟩:=ql (jk K r4);have d4:IntKind.u32.wrap (K-r4)=g:=f4;have g2:jk K (zB c 4)=g:=by rw[F];exact f4
  obtain⟨J,V⟩:=ql (qO .u32 b g);obtain⟨r5,Q⟩:=ql (zB g 14);have M:=X2 wC Q (kk:=14) rfl;obtain⟨k,f5⟩:=ql (jk J r5);have d5:IntKind.u32.wrap (J-r5)=k:=f5;have g4:jk J (zB g 14)=k:=by rw[Q];exact f5
  obtain⟨a7,g5⟩:=ql (qO .u32 c k);obtain⟨r6,q6⟩:=ql (zB k 24);have C:=X2 wC q6 (kk:=24) rfl;obtain⟨p,f6⟩:=ql (jk a7 r6);have d6:IntKind.u32.wrap (a7-r6)=p:=f6;have X:jk a7 (zB k 24)=p:=by rw[q6];exact f6
  have o:=qtV h1 h2 h3 h4 h5 U Y h8 W g2 V g4 g5 X;clear X g4 g2 h8 U h4 h2 T N f1 P Z I f3 L f4 F f5 Q f6 q6;rw[qkx wC wC (x:=g) (y:=k) (z:=p) (by rw[ha];exact o)] at R;subst R;clear ha o;generalize ai:s.l.length-at_=j at *
  simp[k0,k3,k4,k5,k6,r,m,qbP,u,w0,w4,w8,c0,c4,c8,i4,i8,h1,e1,d0,h3,e3,d1,h5,e5,d2,Y,e7,d3,W,e9,d4,V,M,d5,g5,C,d6]
theorem qww[MaxL][TxtC](x:Int)(k:Nat)(g:k<64):call cx 249 [.int .u64 x,.int .u64 k] []=some (.int .u64 (kJ x k),[]):=by
 have a:=zg (64-(k:Int)) ((64-k:Nat):Int);have b:min k 64=k:=wC
 have e:¬(k:Int)<0:=wC
 refine qC Tryz.func249 rfl ⟨rfl,rfl⟩ ?_;unfold kJ;obtain⟨j,f⟩:∃j,j=64-k:=⟨_,rfl⟩;rw[<-f] at a⊢;have d:min j 64=j:=wC
 have c:¬(j:Int)<0:=wC
 simp[Tryz.f249,a,IntKind.bits,b,d,e,c]
theorem qeK[MaxL][TxtC]{x r:Int}{k:Nat}(a:k<64)(e:kJ x k=r){kk:Int}(b:kk=k):call cx 249 [.int .u64 x,.int .u64 kk] []=some (.int .u64 r,[]):=by
 rw[b,<-e];exact qww x k a
def q4D:Q4->List D
 |(p,q,r,s)=>[.int .u64 p,.int .u64 q,.int .u64 r,.int .u64 s]
theorem qyk[MaxL][TxtC](t:Q4)(n:Nat)(hn:n<=100):call cx 205 [.agg (q4D t),.int .i64 n] []=some (.agg (q4D (VQ n t)),[]):=by
 obtain⟨R,L⟩:=ql (VQ n t);rw[L];obtain⟨S,V,T,s0⟩:=t;refine qC Tryz.func205 rfl ⟨rfl,rfl⟩ ?_;simp[Tryz.f205,q4D];refine Run.loopThen (fun(k:Nat) e H'=>k<=n/\∃p q r s:Int,VQ (n-k) (p,q,r,s)=R/\qi e 1=some (.int .i64 n)/\qi e 9=some (.int .i64 k)/\qi e 5=some (.int .u64 p)/\qi e 6=some (.int .u64 q)/\qi e 7=some (.int .u64 r)/\qi e 8=some (.int .u64 s)/\qi e 4=some (.optr 1 4 0)/\∃Z,H'=[Z,some (VH [])]) (fun k=>n-k) 0 ?_ ?_
 .exact⟨wC,S,V,T,s0,by simpa using L,wE,wE,wE,wE,wE,wE,wE,_,rfl⟩
 rintro k e H ⟨hk,p,q,r,s,a,I,E,B,F,y,w,J,Z,rfl⟩;by_cases o:k<n
 .have h:=zn o;have hw:=qz ((k:Int)+1) ((k+1:Nat):Int);rw[show n-k=(n-(k+1))+1 from wC,VQ] at a;obtain⟨A,b⟩:=ql (JX p q);obtain⟨g,z⟩:=ql (kJ q 13);obtain⟨G,l⟩:=ql (qO .u64 g A);obtain⟨p2,C⟩:=ql (kJ A 32);obtain⟨Q,i⟩:=ql (JX r s);obtain⟨d,K⟩:=ql (kJ s 16);obtain⟨P,x⟩:=ql (qO .u64 d Q);obtain⟨u,f⟩:=ql (JX p2 P);obtain⟨s2,M⟩:=ql (kJ P 21);obtain⟨X,m⟩:=ql (qO .u64 s2 u);obtain⟨v,c⟩:=ql (JX Q G);obtain⟨q2,j⟩:=ql (kJ G 17);obtain⟨q3,O⟩:=ql (qO .u64 q2 v);obtain⟨r3,N⟩:=ql (kJ v 32);rw[qnu b z l C i K x f M m c j O N] at a;have Y:=qeK (k:=13) wH z (kk:=13) rfl;have W:=qeK (k:=32) wH C (kk:=32) rfl;have u6:=qeK (k:=16) wH K (kk:=16) rfl;have U:=qeK (k:=21) wH M (kk:=21) rfl;have v3:=qeK (k:=17) wH j (kk:=17) rfl;have v5:=qeK (k:=32) wH N (kk:=32) rfl;unfold JX at b i f c;simp[I,E,B,F,y,w,J,h,hw,b,Y,l,W,i,u6,x,f,U,m,c,v3,O,v5];exact⟨k+1,wC,wC,u,q3,r3,X,a,wC,rfl,rfl,rfl,rfl⟩
 .have h:=zq o;rw[show n-k=0 from wC,VQ] at a;subst a;simp[I,E,B,F,y,w,J,h]
theorem qzx(x y:Nat)(h:y<4294967296):y|||(x*4294967296)=x*4294967296+y:=by
 have:=Nat.shiftLeft_add_eq_or_of_lt (b:=y) (i:=32) wQ x;rw[Nat.shiftLeft_eq] at this;rw[Nat.or_comm];simpa using this.symm
theorem q4N(_:List UInt8)(_:Nat)(u v:Nat)(a:u<4294967296)(c:v<4294967296):Vx .u64 (u:Nat) (IntKind.u64.wrap ((v:Int)*4294967296))=((v*4294967296+u:Nat):Int):=by
 have b:=zg ((v:Int)*4294967296) ((v*4294967296:Nat):Int);rw[b,qjU rfl (Nat.lt_of_lt_of_eq wC bits64.symm) (Nat.lt_of_lt_of_eq wC bits64.symm),qzx v u a]
theorem q0L(l:List UInt8)(a:Nat):leN ((l.drop a).take 8)=vk l (a+4)*4294967296+vk l a:=by
 unfold vk;rw[show(8:Nat)=4+4 by rfl,List.take_add,qhO,ky];by_cases h:4<=(l.drop a).length
 .have:((l.drop a).take 4).length=4:=by rw[jj];omega
  rw[this];omega
 .have:(l.drop (a+4)).take 4=[]:=by
   rw[List.drop_of_length_le (by rw[vr] at h;omega)];rfl
  rw[this];simp[leN]
theorem qlq[MaxL][TxtC](s:Sl UInt8)(a:Nat)(m:a<1000000000)(k:s.l.length<1000000000){x:Int}(hx:x=a):call cx 204 [(.vsl s.nil (qf s.l) s.l.length),.int .i64 x] []=some (.int .u64 (leN ((s.l.drop a).take 8):Nat),[]):=by
 subst hx;have g:=qcK s.nil s.l s.h a wC wC (at_:=a) rfl;have e:=qcK s.nil s.l s.h (a+4) wC wC (at_:=(a:Int)+4) wC;have j:=qz ((a:Int)+4) ((a:Int)+4);have c:=q4N s.l a _ _ (qdW s.l a) (qdW s.l (a+4));have b:=qdW s.l a;have f:=qdW s.l (a+4);rw[q0L];generalize vk s.l a=u at *;generalize vk s.l (a+4)=v at *;refine qC Tryz.func204 rfl ⟨rfl,rfl⟩ ?_;simp[Tryz.f204,g,e,j];have i:=zg (u:Int) (u:Int);have e2:=zg (v:Int) (v:Int);have d:min 32 IntKind.u64.bits=32:=rfl;rw[i,e2,d];simpa using c
theorem qeZ[MaxL][TxtC]{x r:Int}{k:Nat}(d:k<64)(e:kJ x k=r){kk:Int}(m:kk=k):call cx 296 [.int .u64 x,.int .i64 kk] []=some (.int .u64 r,[]):=by
 rw[m,<-e];have i:=zg (k:Int) (k:Int)
 have a:YK .u64 (k:Int) 63=(k:Int):=by
  have h:∀j:Nat,j<64->YK .u64 (j:Int) 63=(j:Int):=wH
  exact h k d
 have b:=zg (64-(k:Int)) ((64-k:Nat):Int);have c:min k 64=k:=wC
 have l:¬(k:Int)<0:=wC
 refine qC Tryz.func296 rfl ⟨rfl,rfl⟩ ?_;unfold kJ;obtain⟨j,n⟩:∃j,j=64-k:=⟨_,rfl⟩;rw[<-n] at b⊢;have g:min j 64=j:=wC
 have f:¬(j:Int)<0:=wC
 simp[Tryz.f296,i,a,b,IntKind.bits,c,g,l,f]
abbrev v6(a b c d:Int)(n:Nat)(r:D):List D:=[.int .u64 a,.int .u64 b,.int .u64 c,.int .u64 d,.int .i64 n,r]
theorem qnO[MaxL][TxtC]{H:qe}{q:Nat}{a b c d:Int}{n:Nat}{r:D}(j:qd H q=some (v6 a b c d n r))(m:Nat)(hm:m<=100){C w t l:Int}(hR:VQ m (a,b,c,d)=(C,w,t,l)){x:Int}(hx:x=m):
  call cx 295 [.optr q 6 0,.int .i64 x] H=some (.tup [],qn H q (v6 C w t l n r)):=by
 subst hx;refine jy Tryz.func295 rfl ⟨rfl,rfl⟩ ?_;simp only[v6] at j⊢;simp[-qd,-qn,Tryz.f295,j];refine Run.loopThen (fun(k:Nat) e H'=>H'=H/\k<=m/\∃p q' g s:Int,VQ (m-k) (p,q',g,s)=(C,w,t,l)/\qi e 0=some (.optr q 6 0)/\qi e 24=some (.int .i64 m)/\qi e 25=some (.int .i64 k)/\qi e 4=some (.int .u64 p)/\qi e 5=some (.int .u64 q')/\qi e 6=some (.int .u64 g)/\qi e 7=some (.int .u64 s)) (fun k=>m-k) 0 ?_ ?_
 .exact⟨rfl,wC,a,b,c,d,by simpa using hR,wE,wE,wE,wE,wE,wE,wE⟩
 rintro k e K ⟨rfl,hk,p,q',g,s,f,L,h,i,k4,X,Z,S⟩;by_cases O:k<m
 .have F:=zn O;have hw:=qz ((k:Int)+1) ((k+1:Nat):Int);rw[show m-k=(m-(k+1))+1 from wC,VQ] at f;obtain⟨W,u⟩:=ql (JX p q');obtain⟨E,U⟩:=ql (kJ q' 13);obtain⟨q1,J⟩:=ql (qO .u64 E W);obtain⟨p2,Y⟩:=ql (kJ W 32);obtain⟨r1,G⟩:=ql (JX g s);obtain⟨z,h6⟩:=ql (kJ s 16);obtain⟨s1,R⟩:=ql (qO .u64 z r1);obtain⟨P,B⟩:=ql (JX p2 s1);obtain⟨s2,h9⟩:=ql (kJ s1 21);obtain⟨s3,M⟩:=ql (qO .u64 s2 P);obtain⟨Q,v⟩:=ql (JX r1 q1);obtain⟨q2,I⟩:=ql (kJ q1 17);obtain⟨q3,g4⟩:=ql (qO .u64 q2 Q);obtain⟨r3,g5⟩:=ql (kJ Q 32);rw[qnu u U J Y G h6 R B h9 M v I g4 g5] at f;have u2:=qeZ (k:=13) wH U (kk:=13) rfl;have u4:=qeZ (k:=32) wH Y (kk:=32) rfl;have u6:=qeZ (k:=16) wH h6 (kk:=16) rfl;have u9:=qeZ (k:=21) wH h9 (kk:=21) rfl;have v3:=qeZ (k:=17) wH I (kk:=17) rfl;have v5:=qeZ (k:=32) wH g5 (kk:=32) rfl;unfold JX at u G B v;simp[-qd,-qn,L,h,i,k4,X,Z,S,F,hw,u,u2,J,u4,G,u6,R,B,u9,M,v,v3,g4,v5];exact⟨k+1,wC,wC,P,q3,r3,s3,f,wC,rfl,rfl,rfl,rfl⟩
 .have F:=zq O;rw[show m-k=0 from wC,VQ] at f;obtain⟨e1,f⟩:=Prod.mk.inj f;obtain⟨e2,f⟩:=Prod.mk.inj f;obtain⟨e3,e4⟩:=Prod.mk.inj f;subst e1;subst e2;subst e3;subst e4;obtain⟨V,o⟩:=ql (qn K q [.int .u64 p,.int .u64 b,.int .u64 c,.int .u64 d,.int .i64 n,r]);have N:qd V q=some [.int .u64 p,.int .u64 b,.int .u64 c,.int .u64 d,.int .i64 n,r]:=by rw[<-o];exact zk (qx j)
  obtain⟨T,y⟩:=ql (qn V q [.int .u64 p,.int .u64 q',.int .u64 c,.int .u64 d,.int .i64 n,r]);have y2:qd T q=some [.int .u64 p,.int .u64 q',.int .u64 c,.int .u64 d,.int .i64 n,r]:=by rw[<-y];exact zk (qx N)
  obtain⟨H3,A⟩:=ql (qn T q [.int .u64 p,.int .u64 q',.int .u64 g,.int .u64 d,.int .i64 n,r]);have y3:=kc A y2
  have x4:qn K q [.int .u64 p,.int .u64 q',.int .u64 g,.int .u64 s,.int .i64 n,r]=qn H3 q [.int .u64 p,.int .u64 q',.int .u64 g,.int .u64 s,.int .i64 n,r]:=by
   rw[<-A,<-y,<-o];unfold qn;simp only[List.set_set]
  rw[x4];simp[-qd,-qn,L,h,i,k4,X,Z,S,F,j,o,N,y,y2,A,y3]
theorem qnE[MaxL][TxtC]{H:qe}{q:Nat}{a b c d:Int}{n:Nat}{r:D}(p:qd H q=some (v6 a b c d n r))(m:Nat){e i h f:Int}(z:YS (m:Nat) (a,b,c,d)=(e,i,h,f)):
  call cx 294 [.optr q 6 0,.int .u64 m] H=some (.tup [],qn H q (v6 e i h f n r)):=by
 obtain⟨t,l,k,j,u⟩:∃e i h f,VQ 2 (a,b,c,qO .u64 d m)=(e,i,h,f):=⟨_,_,_,_,rfl⟩;simp only[YS,u,zj] at z;obtain⟨A,rfl,rfl,rfl⟩:=z;obtain⟨w,g⟩:=ql (qn H q (v6 a b c (qO .u64 d m) n r));have o:qd w q=some (v6 a b c (qO .u64 d m) n r):=by rw[<-g];exact zk (qx p)
 have hc:=qnO o 2 wC u (x:=2) rfl;obtain⟨v,s⟩:=ql (qn w q (v6 t l k j n r));have y:qd v q=some (v6 t l k j n r):=by rw[<-s];exact zk (qx o)
 rw[s] at hc
 have B:qn H q (v6 e l k j n r)=qn v q (v6 e l k j n r):=by
  rw[<-s,<-g];unfold qn;simp only[List.set_set]
 rw[B];refine jy Tryz.func294 rfl ⟨rfl,rfl⟩ ?_;simp only[v6] at p g o y hc⊢;simp[-qd,-qn,Tryz.f294,p,g,hc,y,A]
theorem qyl[MaxL][TxtC](x:Int)(k:Nat)(c:k<32):call cx 288 [.int .u32 x,.int .i64 k] []=some (.int .u32 (zB x k),[]):=by
 have h:=q62 k c;have f:=zg (k:Int) (k:Int);have a:=zg (32-(k:Int)) ((32-k:Nat):Int);have b:min k 32=k:=wC
 have g:¬(k:Int)<0:=wC
 refine qC Tryz.func288 rfl ⟨rfl,rfl⟩ ?_;unfold zB;obtain⟨j,i⟩:∃j,j=32-k:=⟨_,rfl⟩;rw[<-i] at a⊢;have e:min j 32=j:=wC
 have d:¬(j:Int)<0:=wC
 simp[Tryz.f288,h,f,a,IntKind.bits,b,e,g,d]
theorem X4[MaxL][TxtC]{x r:Int}{k:Nat}(a:k<32)(e:zB x k=r){kk:Int}(b:kk=k):call cx 288 [.int .u32 x,.int .i64 kk] []=some (.int .u32 r,[]):=by
 rw[b,<-e];exact qyl x k a
theorem q0q[MaxL][TxtC](x y z:Int)(R:qe)(hR:R=[]\/R=[none]):call cx 279 [.optr 0 3 0] (some [.int .u32 x,.int .u32 y,.int .u32 z]::R)=some (.tup [],some [.int .u32 (qep (x,y,z)).1,.int .u32 (qep (x,y,z)).2.1,.int .u32 (qep (x,y,z)).2.2]::R):=by
 obtain⟨Q,w⟩:=ql (jk x z);have e0:IntKind.u32.wrap (x-z)=Q:=w;obtain⟨r0,J⟩:=ql (zB z 4);have e1:=X4 wC J (kk:=4) rfl;obtain⟨b,T⟩:=ql (qO .u32 Q r0);have h2:qO .u32 Q (zB z 4)=b:=by rw[J];exact T
 obtain⟨j,u⟩:=ql (vp z y);have e2:IntKind.u32.wrap (z+y)=j:=u;obtain⟨E,P⟩:=ql (jk y b);have e3:IntKind.u32.wrap (y-b)=E:=P;obtain⟨r1,S⟩:=ql (zB b 6);have e4:=X4 wC S (kk:=6) rfl;obtain⟨c,H⟩:=ql (qO .u32 E r1);have h5:qO .u32 E (zB b 6)=c:=by rw[S];exact H
 obtain⟨i,Y⟩:=ql (vp b j);have e5:IntKind.u32.wrap (b+j)=i:=Y;obtain⟨O,L⟩:=ql (jk j c);have e6:IntKind.u32.wrap (j-c)=O:=L;obtain⟨r2,q2⟩:=ql (zB c 8);have e7:=X4 wC q2 (kk:=8) rfl;obtain⟨a,M⟩:=ql (qO .u32 O r2);have h8:qO .u32 O (zB c 8)=a:=by rw[q2];exact M
 obtain⟨n,X⟩:=ql (vp c i);have e8:IntKind.u32.wrap (c+i)=n:=X;obtain⟨r,A⟩:=ql (jk i a);have e9:IntKind.u32.wrap (i-a)=r:=A;obtain⟨r3,N⟩:=ql (zB a 16);have o:=X4 wC N (kk:=16) rfl;obtain⟨e,B⟩:=ql (qO .u32 r r3);have g2:qO .u32 r (zB a 16)=e:=by rw[N];exact B
 obtain⟨g,t⟩:=ql (vp a n);have q:IntKind.u32.wrap (a+n)=g:=t;obtain⟨C,Z⟩:=ql (jk n e);have f:IntKind.u32.wrap (n-e)=C:=Z;obtain⟨r4,F⟩:=ql (zB e 19);have p:=X4 wC F (kk:=19) rfl;obtain⟨d,V⟩:=ql (qO .u32 C r4);have g5:qO .u32 C (zB e 19)=d:=by rw[F];exact V
 obtain⟨U,K⟩:=ql (vp e g);have l:IntKind.u32.wrap (e+g)=U:=K;obtain⟨v,I⟩:=ql (jk g d);have k:IntKind.u32.wrap (g-d)=v:=I;obtain⟨r5,W⟩:=ql (zB d 4);have h:=X4 wC W (kk:=4) rfl;obtain⟨z4,s⟩:=ql (qO .u32 v r5);have g8:qO .u32 v (zB d 4)=z4:=by rw[W];exact s
 obtain⟨y4,G⟩:=ql (vp d U);have m:IntKind.u32.wrap (d+U)=y4:=G;have hm:=qoD w h2 u P h5 Y L h8 X A g2 t Z g5 K I g8 G;rw[hm];clear G g8 I K g5 Z t g2 A X h8 L Y h5 P u h2 w hm J S q2 N F W;rcases hR with rfl|rfl
 .refine qC Tryz.func279 rfl ⟨rfl,rfl⟩ ?_;simp[Tryz.f279,e0,e1,T,e2,e3,e4,H,e5,e6,e7,M,e8,e9,o,B,q,f,p,V,l,k,h,s,m]
 .refine qC Tryz.func279 rfl ⟨rfl,rfl⟩ ?_;simp[Tryz.f279,e0,e1,T,e2,e3,e4,H,e5,e6,e7,M,e8,e9,o,B,q,f,p,V,l,k,h,s,m]
theorem q0N[MaxL][TxtC](x y z:Int){x' y' z':Int}(hm:qe0 (x,y,z)=(x',z',y'))(R:qe)(hR:R=[]\/R=[none]):call cx 280 [.optr 0 3 0] (some [.int .u32 x,.int .u32 y,.int .u32 z]::R)=some (.tup [],some [.int .u32 x',.int .u32 y',.int .u32 z']::R):=by
 obtain⟨H,p⟩:=ql (qO .u32 z y);obtain⟨V,w⟩:=ql (zB y 14);have T:=X4 wC w (kk:=14) rfl;obtain⟨d,J⟩:=ql (jk H V);have d0:IntKind.u32.wrap (H-V)=d:=J;have h2:jk H (zB y 14)=d:=by rw[w];exact J
 obtain⟨t,n⟩:=ql (qO .u32 x d);obtain⟨r1,I⟩:=ql (zB d 11);have X:=X4 wC I (kk:=11) rfl;obtain⟨b,v⟩:=ql (jk t r1);have Q:IntKind.u32.wrap (t-r1)=b:=v;have h4:jk t (zB d 11)=b:=by rw[I];exact v
 obtain⟨G,K⟩:=ql (qO .u32 y b);obtain⟨Z,P⟩:=ql (zB b 25);have e5:=X4 wC P (kk:=25) rfl;obtain⟨c,E⟩:=ql (jk G Z);have d2:IntKind.u32.wrap (G-Z)=c:=E;have h6:jk G (zB b 25)=c:=by rw[P];exact E
 obtain⟨k,B⟩:=ql (qO .u32 d c);obtain⟨r3,N⟩:=ql (zB c 16);have e7:=X4 wC N (kk:=16) rfl;obtain⟨a,r⟩:=ql (jk k r3);have d3:IntKind.u32.wrap (k-r3)=a:=r;have h8:jk k (zB c 16)=a:=by rw[N];exact r
 obtain⟨s,q⟩:=ql (qO .u32 b a);obtain⟨r4,u⟩:=ql (zB a 4);have e9:=X4 wC u (kk:=4) rfl;obtain⟨f,L⟩:=ql (jk s r4);have d4:IntKind.u32.wrap (s-r4)=f:=L;have Y:jk s (zB a 4)=f:=by rw[u];exact L
 obtain⟨o,m⟩:=ql (qO .u32 c f);obtain⟨r5,M⟩:=ql (zB f 14);have i:=X4 wC M (kk:=14) rfl;obtain⟨g,l⟩:=ql (jk o r5);have d5:IntKind.u32.wrap (o-r5)=g:=l;have g4:jk o (zB f 14)=g:=by rw[M];exact l
 obtain⟨C,O⟩:=ql (qO .u32 a g);obtain⟨U,F⟩:=ql (zB g 24);have h:=X4 wC F (kk:=24) rfl;obtain⟨W,A⟩:=ql (jk C U);have d6:IntKind.u32.wrap (C-U)=W:=A;have g6:jk C (zB g 24)=W:=by rw[F];exact A
 have j:=qtV p h2 n h4 K h6 B h8 q Y m g4 O g6;rw[hm] at j;clear hm;obtain⟨vi,j⟩:=Prod.mk.inj j;obtain⟨S,e⟩:=Prod.mk.inj j;clear g6 g4 Y h8 h6 h4 h2 J w v I E P r N L u l M A F;rw[vi,S,e];clear vi S e;rcases hR with rfl|rfl
 .refine qC Tryz.func280 rfl ⟨rfl,rfl⟩ ?_;simp[Tryz.f280,p,T,d0,n,X,Q,K,e5,d2,B,e7,d3,q,e9,d4,m,i,d5,O,h,d6]
 .refine qC Tryz.func280 rfl ⟨rfl,rfl⟩ ?_;simp[Tryz.f280,p,T,d0,n,X,Q,K,e5,d2,B,e7,d3,q,e9,d4,m,i,d5,O,h,d6]
theorem qkQ[MaxL][TxtC](l:List UInt8)(d:l.length=12)(a:Nat)(g:a<=8){at_:Int}(f:at_=a):call cx 221 [.vsl false (qf l) 12,.int .i64 at_,.int .i64 4] []=some (.tup [.int .u64 (vk l a:Nat),.bool true],[]):=by
 have h:=qkz (Sl.of l) at_ 4 wC (by show l.length<_;omega)
 have e:qad l at_ 4=some (vk l a):=by
  unfold qad;rw[if_pos ⟨wH,wC,wC⟩];have c:at_.toNat=a:=wC
  rw[c];rfl
 have e2:(Sl.of l).l=l:=rfl;rw[e2,e] at h;have b:(Sl.of l).nil=false:=rfl;rw[b,d] at h;exact h
theorem qvB[MaxL][TxtC](l:List UInt8)(e:l.length=12)(x y z:Int){j o g:Int}(d:JW l (x,y,z)=(j,o,g))(R:qe)(q:R=[]\/R=[none]):
  call cx 278 [.optr 0 3 0,.vsl false (qf l) 12] (some [.int .u32 x,.int .u32 y,.int .u32 z]::R)=some (.tup [],some [.int .u32 j,.int .u32 o,.int .u32 g]::R):=by
 have i:=qkQ l e 0 wC (at_:=0) rfl;have n:=qkQ l e 4 wC (at_:=4) rfl;have p:=qkQ l e 8 wC (at_:=8) rfl;have r:=qdW l 0;have s:=qdW l 4;have t:=qdW l 8;unfold JW vp at d;obtain⟨k,d⟩:=Prod.mk.inj d;obtain⟨e2,h⟩:=Prod.mk.inj d;generalize vk l 0=a at *;generalize vk l 4=b at *;generalize vk l 8=c at *;have v0:=qdT (a:Int) a;have m:=qdT (b:Int) b;have f:=qdT (c:Int) c;rcases q with rfl|rfl
 .refine qC Tryz.func278 rfl ⟨rfl,rfl⟩ ?_;simp[Tryz.f278,i,n,p,v0,m,f,k,e2,h]
 .refine qC Tryz.func278 rfl ⟨rfl,rfl⟩ ?_;simp[Tryz.f278,i,n,p,v0,m,f,k,e2,h]
theorem qoU[MaxL][TxtC](s:Sl UInt8)(_:s.l.length<4611686018427387904):call cx 265 [(.vsl s.nil (qf s.l) s.l.length)] []=some (.int .u64 (qac s.l),[]):=by
 refine qC Tryz.func265 rfl ⟨rfl,rfl⟩ ?_;have O:qac s.l=KT s.l (vp 3735928559 (IntKind.u32.wrap (s.l.length:Nat)),vp 3735928559 (IntKind.u32.wrap (s.l.length:Nat)),vp 3735928559 (IntKind.u32.wrap (s.l.length:Nat))):=rfl;obtain⟨n,M⟩:=ql (IntKind.u32.wrap (3735928559+IntKind.u32.wrap (s.l.length:Nat)));have K:vp 3735928559 (IntKind.u32.wrap (s.l.length:Nat))=n:=M;rw[K] at O;clear K;generalize qac s.l=A at *;simp[Tryz.f265,M];refine Run.loopThen (fun(q:List UInt8×Int×Int×Int) e H'=>q.1.length<=s.l.length/\(s.nil=true->q.1=[])/\KT q.1 q.2=A/\qi e 0=some (.vsl s.nil (qf q.1) q.1.length)/\qi e 4=some (.optr 0 3 0)/\H'=[some [.int .u32 q.2.1,.int .u32 q.2.2.1,.int .u32 q.2.2.2]]) (fun q=>q.1.length) (s.l,n,n,n) ?_ ?_
 .simp[O];exact s.h
 rintro⟨l,x,y,z⟩ e H' ⟨Q,C,c,d,u,rfl⟩;simp only at Q C c d u;by_cases r:12<l.length
 .have a:(12:Int)<(l.length:Int):=by omega
  have k:s.nil=false:=by
   cases G:s.nil with
   |false=>rfl
   |true=>rw[C G] at r;simp at r
  rw[k] at d;rw[qkw r] at c;obtain⟨⟨f,g,i⟩,j⟩:∃t,JW (l.take 12) (x,y,z)=t:=⟨_,rfl⟩;have v:=qvB (l.take 12) wu x y z j [] (.inl rfl)
  have B:JW l (x,y,z)=(f,g,i):=by
   rw[<-j];simp only[JW,vk,List.drop_take,List.take_take];rfl
  rw[B] at c;have V:=q0q f g i [] (.inl rfl);have F:List.take 12 (qf l)=qf (l.take 12):=by simp[qf,List.map_take]
  have w:List.drop 12 (qf l)=qf (l.drop 12):=by simp[qf,List.map_drop]
  have m:(12:Int)<=(l.length:Int):=wC
  have X:(l.drop 12).length=l.length-12:=vr;have E:List.take (l.length-12) (qf (l.drop 12))=qf (l.drop 12):=qJ wE;generalize l.take 12=p at *;generalize l.drop 12=W at *;simp[d,u,a,v,V,m,F,w,E];exact⟨W,wC,wC,xV,_,_,_,c,⟨k,rfl,wC⟩,rfl,rfl,rfl⟩
 .have a:¬(12:Int)<(l.length:Int):=by omega
  by_cases o:l.length=0
  .have S:¬(0:Int)<(l.length:Int):=wC;rw[qkv o] at c;subst c;have b:(2:Int)^min 32 IntKind.u64.bits=4294967296:=wH;simp[d,u,o,qbP,b]
  .have S:(0:Int)<(l.length:Int):=by omega
   have k:s.nil=false:=by
    cases G:s.nil with
    |false=>rfl
    |true=>rw[C G] at o;simp at o
   rw[k] at d;have J:(l++List.replicate (12-l.length) 0).length=12:=(by rw[zp,List.length_replicate];omega);have N:=q6H l (12-l.length) (x,y,z);obtain⟨⟨f,g,i⟩,j⟩:∃t,JW l (x,y,z)=t:=⟨_,rfl⟩;rw[j] at N;obtain⟨⟨T,P,U⟩,L⟩:∃t,qe0 (f,g,i)=t:=⟨_,rfl⟩;rw[qkx r o (x:=T) (y:=U) (z:=P) (by rw[j];exact L)] at c;subst c;have v:=qvB _ J x y z N [none] (.inr rfl);have R:=q0N f g i L [none] (.inr rfl);have b:(2:Int)^min 32 IntKind.u64.bits=4294967296:=wH;have I:0<l.length:=wC;have H:min l.length 12=l.length:=wC
   have qn:zU (zb8 [D.int .u8 0,D.int .u8 0,D.int .u8 0,D.int .u8 0]) 0 (qf l)=qf (l++List.replicate (12-l.length) 0):=by
    show zU (List.replicate 12 (D.int .u8 0)) 0 (qf l)=_;unfold zU;rw[List.take_zero,J3,qaT,List.drop_replicate];simp[qf]
   have E:List.take l.length (qf l)=qf l:=qJ wE;generalize l++List.replicate (12-l.length) 0=p at *;simp[-qea,d,u,a,I,v,R,qbP,b,H,qn,E,J]
def RestT(T:qe)(q:Nat)(d:D)(c:List UInt8):Prop:=
 (d=.vsl true [] 0/\c=[])\/∃r st ds,d=.osl r st 0 c.length 1/\qd T r=some ds/\ds.length=st/\ds.take c.length=qf c/\c.length<=st/\r≠q/\0<st
theorem RestT.of{T:qe}{q r:Nat}{c:List UInt8}(h:qd T r=some (qf c))(a:r≠q)(hc:0<c.length):RestT T q (.osl r c.length 0 c.length 1) c:=
 .inr ⟨r,c.length,qf c,rfl,h,wW,qJ wW,qA _,a,hc⟩
theorem qzs[MaxL][TxtC]{H:qe}{q:Nat}{a b c d:Int}(hq:qd H q=some (v6 a b c d 0 (.vsl true [] 0)))(s:Sl UInt8)(hs:s.l.length<1000000):
  ∃T,call cx 290 [.optr q 6 0,(.vsl s.nil (qf s.l) s.l.length)] H=some (.tup [],T)/\∃p q' j g n,YR s.l (a,b,c,d)=(p,q',j,g)/\qd T q=some (v6 p q' j g s.l.length n)/\RestT T q n (s.l.drop (s.l.length/8*8)):=by
 obtain⟨R,hR⟩:=ql (YR s.l (a,b,c,d));obtain⟨W,hW⟩:=ql (s.l.drop (s.l.length/8*8));rw[hR,hW];obtain⟨N,hN⟩:=ql (s.l.length);have ae:∀x,qd (qn H q x) q=some x:=fun x=>zk (qx hq);have ak:=qz (s.l.length:Int) (s.l.length:Int)
 obtain⟨⟨x,T⟩,h1,A,p,q',j,g,n,u,h3,h4,h5,rfl⟩:∃r,call cx 290 [.optr q 6 0,(.vsl s.nil (qf s.l) s.l.length)] H=some r/\r.1=.tup []/\∃p q' j g n u,R=(p,q',j,g)/\qd r.2 q=some (v6 p q' j g s.l.length n)/\RestT r.2 q n u/\u=W:=by
  refine vz (X:=cx) (f:=290) _ Tryz.func290 rfl ⟨rfl,rfl⟩ ?_;simp only[v6] at hq⊢;simp[-qd,-qn,-qr,-qG,-JP,Tryz.f290,hq,ak];refine Run.loopThen (fun(l:List UInt8) e K=>l.length<=s.l.length/\qi e 0=some (.optr q 6 0)/\qi e 1=some (.vsl s.nil (qf l) l.length)/\(s.nil=true->l=[])/\∃p q' j g n u,qd K q=some (v6 p q' j g s.l.length n)/\RestT K q n u/\((u=[]/\YR l (p,q',j,g)=R/\l.drop (l.length/8*8)=W)\/(l=[]/\u=W/\(p,q',j,g)=R))) (fun l=>l.length) s.l ?_ ?_
  .exact⟨qA _,wE,wE,s.h,a,b,c,d,_,[],ae _,.inl ⟨rfl,rfl⟩,.inl ⟨rfl,hR,hW⟩⟩
  rintro l e K ⟨hl,k0,k1,zG,p,q',j,g,n,u,v,hT,hC⟩;by_cases h0:l=[]
  .subst h0
   have w:(p,q',j,g)=R/\u=W:=by
    rcases hC with⟨h1,A,h3⟩|⟨_,A,h3⟩
    .rw[qmN wE] at A;exact⟨A,by rw[h1];simpa using h3⟩
    .exact⟨h3,A⟩
   simp[-qd,-qn,-qr,-qG,-JP,k0,k1];exact⟨p,q',j,g,w.1.symm,n,v,by rw[<-w.2];exact hT⟩
  .have ZS:0<l.length:=List.length_pos_iff.2 h0;have ao:(0:Int)<(l.length:Int):=by omega
   have ji:s.nil=false:=by
    cases h:s.nil with
    |false=>rfl
    |true=>exact absurd (zG h) h0
   rw[ji] at k1
   obtain⟨rfl,hE,ZE⟩:u=[]/\YR l (p,q',j,g)=R/\l.drop (l.length/8*8)=W:=by
    rcases hC with h|⟨h,_⟩
    .exact h
    .exact absurd h h0
   obtain⟨k,hk⟩:=ql ((if l.length<8 then l.length else 8));have am:k<=l.length/\0<k/\k<=8:=by split at hk<;>omega
   have M:(if(l.length:Int)<8 then(l.length:Int) else 8)=(k:Int):=by
    split at hk
    .rw[if_pos wC];omega
    .rw[if_neg wC];omega
   have aj:(0:Int)<=(k:Int)/\(k:Int)<=(l.length:Int):=wC;have ZC:¬k=0:=wC;have zV:List.take k (qf l)=qf (l.take k):=qem _ _;have ac:List.drop k (qf l)=qf (l.drop k):=qda _ _;have U:(l.take k).length=k:=wu
   obtain⟨z,G,Z,hz,t,jb⟩:∃(z:Nat)(G:qe),qG Tryz.prog K 63 63 n (.vsl false (qf (l.take k)) k)=some (.osl z k 0 k 1,G)/\qd G z=some (qf (l.take k))/\z≠q/\qd G q=some (v6 p q' j g s.l.length n):=by
    have O:=qx v;rcases hT with⟨rfl,_⟩|⟨r,st,ds,rfl,g1,g2,g3,g4,g5,g6⟩
    .refine⟨K.length,qr K (qf (l.take k)),?_,zo,wC,by rw[vw O];exact v⟩;simp[-qd,-qr,U,ZC,qF];omega
    .refine⟨K.length,qr (JP K r) (qf (l.take k)),?_,by rw[<-qaW (H:=K) (i:=r)];exact zo,wC,by rw[vw (by rw[qaW];exact O),qtg (fun e=>g5 e.symm)];exact v⟩;have g7:¬0=st:=wC;simp[-qd,-qr,-JP,U,qF,g1,g2,g6,g7];omega
   have ai:=qx jb;have Qw:=qx hz;have av:z<G.length:=Qw;obtain⟨K2,F⟩:=ql (qn G q (v6 p q' j g s.l.length (.osl z k 0 k 1)));have I:qd K2 q=some (v6 p q' j g s.l.length (.osl z k 0 k 1)):=(by rw[<-F];exact zk ai);have Qx:qd K2 z=some (qf (l.take k)):=by rw[<-F,zW t];exact hz
   have o:qK Tryz.prog 63 n=some (.int .i64 0):=by
    rcases hT with⟨rfl,_⟩|⟨r,st,ds,rfl,_⟩<;>simp
   have Jt:qK Tryz.prog 63 (.vsl false (qf l) l.length)=some (.int .i64 l.length):=wE;have zY:IntKind.i64.wrap 8=8:=wH;by_cases h8:k=8
   .subst h8;have jE:8<=l.length:=am.1;have Q:min 8 l.length=8:=wC;have V:(8:Int)<=(l.length:Int):=wC;have B:=qbR (Sl.mk false (l.take 8) wE) 0 (by simp only[U];omega) (by simp only[U];omega) (x:=0) rfl;simp only[U] at B;obtain⟨m,hm⟩:=ql (leN (l.take 8))
    have ag:qU (l.take 8) 0=m:=by
     unfold qU;rw[List.drop_zero,List.take_take];exact hm
    rw[ag] at B;rw[qxq jE,hm] at hE;obtain⟨J,L,E,C,hB⟩:∃J L E C,YS (m:Nat) (p,q',j,g)=(J,L,E,C):=⟨_,_,_,_,rfl⟩;rw[hB] at hE;have y:=qnE I m hB;obtain⟨K3,x3⟩:=ql (qn K2 q (v6 J L E C s.l.length (.osl z 8 0 8 1)));have Vl:qd K3 q=some (v6 J L E C s.l.length (.osl z 8 0 8 1)):=(by rw[<-x3];exact zk (qx I));have P:qd K3 z=some (qf (l.take 8)):=(by rw[<-x3,zW t];exact Qx);rw[x3] at y;obtain⟨K4,x4⟩:=ql (qn K3 q (v6 J L E C s.l.length (.osl z 8 0 0 1)));have S:qd K4 q=some (v6 J L E C s.l.length (.osl z 8 0 0 1)):=(by rw[<-x4];exact zk (qx Vl));have ah:qd K4 z=some (qf (l.take 8)):=(by rw[<-x4,zW t];exact P);have aa:=qx P;simp only[v6] at v jb F I y Vl x4 S;have Y3:qK Tryz.prog 63 (.osl z 8 0 8 1)=some (.int .i64 8):=wE;simp[-qd,-qn,-qr,-qG,-JP,-qK,k0,k1,ZS,v,o,Jt,Y3,M,zV,Z,jb,Qw,F,I,Qx,B,y,Vl,aa,x4,ac,zY,V,Q];refine⟨l.drop 8,wG,wG,⟨ji,rfl,wE⟩,(fun h=>absurd h (by rw[ji];decide)),_,_,_,_,_,S,[],?_,.inl ⟨rfl,hE,?_⟩⟩
    .exact .inr ⟨z,8,_,rfl,ah,by simp[qf,Q],wW,wE,t,wC⟩
    .rw[<-ZE,vr,ky,show 8+(l.length-8)/8*8=l.length/8*8 from wC]
   .have aq:¬(k:Int)=8:=wC;have kA:l.length=k:=(by split at hk<;>omega);have Y3:qK Tryz.prog 63 (.osl z k 0 k 1)=some (.int .i64 k):=wE;simp only[v6] at v jb F I;simp[-qd,-qn,-qr,-qG,-JP,-qK,k0,k1,ZS,v,o,Jt,Y3,M,aj,zV,Z,jb,Qw,F,I,ac,zY,aq];have au:l.drop k=[]:=List.drop_of_length_le wC;have ZA:l.length/8=0:=wC;rw[qmN wC] at hE;rw[ZA] at ZE;refine⟨[],by simpa using ZS,wE,⟨ji,by rw[au],wG⟩,fun _=>rfl,_,_,_,_,_,⟨rfl,rfl,rfl,rfl,rfl⟩,l,?_,.inr ⟨rfl,by simpa using ZE,hE⟩⟩;have Y:l.take k=l:=qJ wC;rw[Y] at Qx;rw[<-kA];exact RestT.of Qx t ZS
 exact⟨T,by rw[h1];simp only at A;rw[A],p,q',j,g,n,h3,h4,h5⟩
theorem qyC[MaxL][TxtC]{H:qe}{q:Nat}{a b c d:Int}{n:Nat}{E:D}{W:List UInt8}(hq:qd H q=some (v6 a b c d n E))(hT:RestT H q E W)(hW:W.length<8)(_:n<1000000):
  ∃T,call cx 291 [.optr q 6 0] H=some (.int .u64 (qdZ (YS (leN W+n % 256*72057594037927936:Nat) (a,b,c,d))),T):=by
 obtain⟨m,hm⟩:=ql (leN W+n % 256*72057594037927936);rw[hm];have ac:=qx hq;obtain⟨Z,V⟩:∃Z:List UInt8,Z=List.replicate 8 0:=⟨_,rfl⟩;obtain⟨z,hz⟩:=ql (H.length);obtain⟨I,N⟩:=ql (qr H (zb8 []));simp only[v6] at hq
 suffices hs:∃r,call cx 291 [.optr q 6 0] H=some r/\r.1=.int .u64 (qdZ (YS (m:Nat) (a,b,c,d))) by
  obtain⟨⟨r,T⟩,h1,h2⟩:=hs;exact⟨T,by rw[h1];simp only at h2;rw[h2]⟩
 refine vz (X:=cx) (f:=291) _ Tryz.func291 rfl ⟨rfl,rfl⟩ ?_;have kw:qd I q=some [.int .u64 a,.int .u64 b,.int .u64 c,.int .u64 d,.int .i64 n,E]:=by rw[<-N,vw ac];exact hq
 have B:qd I z=some (qf Z):=by rw[<-N,<-hz,zo,V];rfl
 have K:z≠q:=wC
 have ah:Z.length=8:=by rw[V];rfl
 obtain⟨l,j⟩:∃l:List UInt8,l=W++List.replicate (8-W.length) 0:=⟨_,rfl⟩;have h:l.length=8:=by rw[j];simp;omega
 obtain⟨S,R⟩:=ql (qn I z (qf l))
 have p:∃v,qc4 Tryz.prog I 63 63 (.osl z 8 0 8 1) E=some (v,S):=by
  rcases hT with⟨rfl,rfl⟩|⟨r,st,ds,rfl,g1,g2,g3,g4,g5,g6⟩
  .refine⟨.int .i64 0,?_⟩;rw[<-R,j];simp[-qd,-qn,B,zU,V]
  .have ag:qd I r=some ds:=(by rw[<-N,vw (qx g1)];exact g1);refine⟨.int .i64 (W.length:Nat),?_⟩;have gd:W.length<=ds.length:=wC;have mn:min W.length 8=W.length:=wC;rw[<-R,j];simp[-qd,-qn,B,ah,ag,g2,g3,g4,mn,zU];rw[qda,V,List.drop_replicate];simp[qf]
 obtain⟨v,p⟩:=p;have vd:qd S q=some [.int .u64 a,.int .u64 b,.int .u64 c,.int .u64 d,.int .i64 n,E]:=by rw[<-R,zW (fun e=>K e.symm)];exact kw
 have Qx:qd S z=some (qf l):=by rw[<-R];exact zk (qx B)
 obtain⟨i,s⟩:∃i:List UInt8,i=l.take 7++[UInt8.ofNat (n % 256)]:=⟨_,rfl⟩;have g:i.length=8:=by rw[s];simp[h]
 obtain⟨U,x3⟩:=ql (qn S z (qf i));have Vl:qd U q=some [.int .u64 a,.int .u64 b,.int .u64 c,.int .u64 d,.int .i64 n,E]:=by rw[<-x3,zW (fun e=>K e.symm)];exact vd
 have ae:qd U z=some (qf i):=by rw[<-x3];exact zk (qx Qx)
 have ai:IntKind.u8.wrap (n:Int)=((UInt8.ofNat (n % 256)).toNat:Int):=by
  rw[qfD yY];simp only[IntKind.wrap,IntKind.signed,IntKind.bits];simp
 have aa:List.take 7 (qf l)++ .int .u8 (IntKind.u8.wrap (n:Int))::List.drop 8 (qf l)=qf i:=by
  rw[List.drop_of_length_le (by simp[qf,h]),ai,s];simp[qf]
 have F:List.take 8 (qf i)=qf i:=qJ (by simp[qf,g]);have C:=qbR (Sl.mk false i wE) 0 (by simp only[g];omega) (by simp only[g];omega) (x:=0) rfl;simp only[g] at C
 have hu:qU i 0=m:=by
  have e1:i=W++(List.replicate (7-W.length) 0++[UInt8.ofNat (n % 256)]):=by
   rw[s,j,Zp,qJ wC,List.take_replicate,jY,Nat.min_eq_left wC]
  unfold qU;rw[List.drop_zero,qJ wC,<-hm,e1,qhO,qhO]
  have z0:leN (List.replicate (7-W.length) 0)=0:=by
   have:=qhN [] (7-W.length);simpa[leN] using this
  have hx:(UInt8.ofNat (n % 256)).toNat=n % 256:=by
   rw[qfD yY]
  have hp:256^W.length*256^(7-W.length)=72057594037927936:=by
   rw[<-Nat.pow_add,show W.length+(7-W.length)=7 from wC]
  rw[z0,J3,List.length_replicate,<-Nat.mul_assoc,hp];simp only[leN,hx];omega
 rw[hu] at C;obtain⟨L,G⟩:=ql (qr U (VH [.int .i64 0,.vsl true [] 0]));obtain⟨y,hy⟩:=ql (U.length);have k:qd L y=some (VH [.int .i64 0,.vsl true [] 0]):=by rw[<-G,<-hy,zo]
 obtain⟨H4,x4⟩:=ql (qn L y (v6 a b c d 0 (.vsl true [] 0)));have t:qd H4 y=some (v6 a b c d 0 (.vsl true [] 0)):=by rw[<-x4];exact zk (qx k)
 obtain⟨O,P,Q,M,hB⟩:∃p1 q1 r1 s1,YS (m:Nat) (a,b,c,d)=(p1,q1,r1,s1):=⟨_,_,_,_,rfl⟩;rw[hB];have A:=qnE t m hB;obtain⟨H5,x5⟩:=ql (qn H4 y (v6 O P Q M 0 (.vsl true [] 0)));have u:=kc x5 t;rw[x5] at A;obtain⟨H6,Y⟩:=ql (qn H5 y (v6 O P (qO .u64 Q 255) M 0 (.vsl true [] 0)));have w:=kc Y u;obtain⟨a2,b2,c2,d2,hr⟩:∃p1 q1 r1 s1,VQ 4 (O,P,qO .u64 Q 255,M)=(p1,q1,r1,s1):=⟨_,_,_,_,rfl⟩;have o:=qnO w 4 wC hr (x:=4) rfl;obtain⟨H7,x7⟩:=ql (qn H6 y (v6 a2 b2 c2 d2 0 (.vsl true [] 0)));have J:=kc x7 w;rw[x7] at o;have hS:qdZ (O,P,Q,M)=qO .u64 (qO .u64 (qO .u64 a2 b2) c2) d2:=by simp only[qdZ,hr]
 rw[hS];simp only[v6,Int.natCast_zero] at A o x4 Y t u w J;simp[-qd,-qn,-qr,-qc4,-qK,Tryz.f291,N,hz,kw,p,vd,Qx,h,g,F,aa,x3,ae,C,Vl,G,hy,k,x4,A,u,Y,o,J]
theorem qyO[MaxL][TxtC](key:ID){K L:Nat}(f:leN (key.l.take 8)=K)(e:leN ((key.l.drop 8).take 8)=L):call cx 289 [.agg (qf key.l)] []=some (.optr 0 6 0,[some (v6 (qO .u64 K 8317987319222330741) (qO .u64 L 7237128888997146477) (qO .u64 K 7816392313619706465) (qO .u64 L 8387220255154660723) 0 (.vsl true [] 0))]):=by
 have a:key.l.length=16:=key.h;have c:=qbR (Sl.mk false key.l wE) 0 yQ yQ (x:=0) rfl;have b:=qbR (Sl.mk false key.l wE) 8 yQ yQ (x:=8) rfl;unfold qU at c b;simp only[a,List.drop_zero,f,e] at c b;have d:List.take 16 (qf key.l)=qf key.l:=qJ (by simp[qf,a]);refine qC Tryz.func289 rfl ⟨rfl,rfl⟩ ?_;simp[Tryz.f289,c,b,a,d]
theorem qyJ[MaxL][TxtC](key:ID)(s:Sl UInt8)(m:s.l.length<1000000):call cx 284 [.agg (qf key.l),(.vsl s.nil (qf s.l) s.l.length)] []=some (.int .u64 (qho key.l s.l),[]):=by
 obtain⟨K,i⟩:=ql (leN (key.l.take 8));obtain⟨L,d⟩:=ql (leN ((key.l.drop 8).take 8));have f:=qyO key i d;have e:key.l.length=16:=key.h;have n:qd [some (qf key.l),some (v6 (qO .u64 K 8317987319222330741) (qO .u64 L 7237128888997146477) (qO .u64 K 7816392313619706465) (qO .u64 L 8387220255154660723) 0 (.vsl true [] 0))] 1=some (v6 (qO .u64 K 8317987319222330741) (qO .u64 L 7237128888997146477) (qO .u64 K 7816392313619706465) (qO .u64 L 8387220255154660723) 0 (.vsl true [] 0)):=rfl;obtain⟨T,g,p,q',c,j,t,r,o,a⟩:=qzs n s m;obtain⟨T2,q⟩:=qyC o a wv wC
 have b:qho key.l s.l=qdZ (YS ((leN (s.l.drop (s.l.length/8*8))+s.l.length % 256*72057594037927936:Nat):Int) (p,q',c,j)):=by
  unfold qho qmO;rw[i,d];unfold qmP;rw[r]
 rw[b];generalize qdZ (YS ((leN (s.l.drop (s.l.length/8*8))+s.l.length % 256*72057594037927936:Nat):Int) (p,q',c,j))=R at *;simp only[v6,Int.natCast_zero] at f g;have k:List.take 16 (qf key.l)=qf key.l:=qJ (by simp[qf,e]);refine qC Tryz.func284 rfl ⟨rfl,rfl⟩ ?_;simp[Tryz.f284,f,g,q,e,k]
theorem qyN[MaxL][TxtC](b:Bool)(key:ID)(s:Sl UInt8)(d:s.l.length<1000000):call cx 276 [.bool b,.agg (qf key.l),(.vsl s.nil (qf s.l) s.l.length)] []=some (.int .u64 (qew b key.l s.l),[]):=by
 have a:key.l.length=16:=key.h;have c:List.take 16 (qf key.l)=qf key.l:=qJ (by simp[qf,a]);cases b with
 |true=>
  have h:=qyJ key s d;refine qC Tryz.func276 rfl ⟨rfl,rfl⟩ ?_;simp[Tryz.f276,h,qew,a,c]
 |false=>
  have h:=qoU s wC;refine qC Tryz.func276 rfl ⟨rfl,rfl⟩ ?_;simp[Tryz.f276,h,qew,a]
end Go.Ev.S
namespace Go.Ev.S
open Go Go.Proofs Go.Ev Go.RowKit
theorem q5G(p:Addr)(w:World):CallsD Tryz.prog 228 #[.pointer (some p)] .returning w fun e b w'=>e=.returned (.tuple #[])/\b=.returning/\w'=w:=by
 refine callsD_of_wpS Tryz.func228 rfl fun c cs a=>?_;apply wpS_seq;apply wpS_region;simp[wpOpsS,go_sem,recoverD,a,Tryz.ntmps228,Exit.thenS];apply wpS_seq;apply wpS_region;simp[wpOpsS,go_sem,Exit.thenS];refine wpS_cond (t:=false) yW ?_;simp only[kZ,if_false];refine wpS_of_wp (wp_skip ?_);cases c
 simp_all[bodyPostS,results,Tryz.results228]
theorem qxB(v:Value)(w:World):(Instr.typeAssert (.iface 333 v) 20 333 true).run Tryz.prog w=.ok (.tuple #[v,.bool true]) w:=by
 simp[Instr.typeAssert,go_sem]
theorem q5F(p:Addr)(x:Int)(c:Int)(a:List PanicEntry)(w:World)(hc:w.cell? p=some (.int .i64 x))(h:w.frozen? p=false):
  CallsD Tryz.prog 228 #[.pointer (some p)] (.panicking ({v:=.iface 333 (.agg #[.int .i64 c]),recovered:=false}::a)) w fun e i w'=>
   e=.returned (.tuple #[])/\i=.panicking ({v:=.iface 333 (.agg #[.int .i64 c]),recovered:=true}::a)/\∃o,w'=(w.alloc o).setCell p (.int .i64 c):=by
 refine callsD_of_wpS Tryz.func228 rfl fun k cs g=>?_;apply wpS_seq;apply wpS_region;simp[wpOpsS,go_sem,recoverD,g,Tryz.ntmps228,Exit.thenS];apply wpS_seq;apply wpS_region;simp[wpOpsS,go_sem,Exit.thenS];refine wpS_cond (t:=true) yW ?_;simp only[if_true];refine wpS_of_wp ?_;have b:=qxB (.agg #[.int .i64 c]) w;refine wp_seq ?_;refine wp_region_list ?_;simp only[wpList,Oper.wp];simp[go_sem,b,Exit.then]
 iterate 8 apply Or.inl
 refine wp_seq (wp_seq ?_);refine wp_region_list ?_;simp only[wpList,Oper.wp];simp[go_sem,Exit.then]
 iterate 2 apply Or.inl
 refine wp_cond (t:=false) yW ?_;simp only[kZ,if_false];refine wp_skip ?_;simp only[Exit.then];refine wp_region_list ?_;simp only[wpList,Oper.wp];have f:=qf2 hc;have j:(w.alloc (.cells #[.int .i64 c] 333)).cell? p=some (.int .i64 x):=by rw[World.cell?_of_block (heap_alloc_old w _ f)];exact hc
 have d:(w.alloc (.cells #[.int .i64 c] 333)).frozen? p=false:=by rw[World.frozen?_of_block (heap_alloc_old w _ f)];exact h
 simp[go_sem,j,d]
 iterate 3 apply Or.inl
 simp[bodyPostS,results,Tryz.results228];exact⟨_,rfl⟩
noncomputable def qb3(X:Cx)(T:Nat):List D->qe->Option (D×qe)
 |[.fn g a],H=>if(X.gr g&&X.byRef g)=true then none else match call X g a H with
  |some (_,H')=>some (.int .i64 0,H')
  |none=>match YY X g a H with
   |some (.iface t (.agg [.int .i64 c]),H')=>if t=T then Qb false H.length H' (.int .i64 c) else none
   |_=>none
 |_,_=>none
theorem qvv{X:Cx}{ok ok2:Nat->Prop}{w c w3:World}{ι ι2:qV}{H f:qe}{o:Obj}(m:Sim X ok w ι H)(n:Sim X ok2 c ι2 f)(k:Evol H.length ok (w.alloc o) ι H ok2 c ι2 f)(g:qa8 c w3)(p:c.heap.size<=w3.heap.size)
  (l:∀b,b<c.heap.size->b≠w.heap.size->w3.heap[b]?=c.heap[b]?):Sim X ok2 w3 ι2 f/\Evol H.length ok w ι H ok2 w3 ι2 f:=by
 have a:Below w.heap.size w (w.alloc o):=(Below.refl _ w).alloc (qA _) o;have u:Evol H.length ok w ι H ok (w.alloc o) ι H:=qlN (qA _) a;have e2:=u.trans k;have y:(w.alloc o).heap.size=w.heap.size+1:=wE
 have n1:¬ok2 w.heap.size:=by
  intro q;rcases k.okN _ q wC with h|⟨i,ds,s,d,hi⟩
  .have:=m.okS _ h;omega
  .have:=m.lt d hi;omega
 have n2:∀i ds s,qd f i=some ds->ι2 i≠some (w.heap.size,s):=by
  intro i ds s d hi;obtain⟨j,x,z,v,t⟩:=k.own i ds _ s d hi wC;have:=m.lt v t;omega
 refine⟨qmR n p (fun b a=>l b (n.okS b a) fun e=>n1 (e▸a)) (fun i ds b s d hi=>l b (n.lt d hi) fun e=>n2 i ds s d (e▸hi)),?_⟩;exact⟨by rw[g.1,e2.os],by rw[g.2.1,e2.tape],by rw[g.2.2,e2.output],zI e2.size p,fun b a r=>by rw[l b (vh a e2.size) wC,e2.frame b a r],e2.okU,e2.okN,e2.nle,e2.heap,e2.own⟩
theorem qw8[MaxL][TxtC](hG:Good cx){args:List D}{H H':qe}{r:D}{ok:Nat->Prop}{w:World}{ι:qV}{vs:List Value}(h:qb3 cx 333 args H=some (r,H'))(F:Sim cx ok w ι H)(S:RepL ok w ι H args vs):
  Goes cx.P (callFunc 179 vs.toArray) w (CallPost cx ok w ι H r H'):=by
 unfold qb3 at h;split at h
 .rename_i H0 g u;split at h
  .cases h
  rename_i W;obtain⟨v,us,rfl,a1,a2⟩:=J6 S;cases qcU a2;cases a1 with
  | @fn _ _ _ _ cv Q hh=>
  have Xk:(callFunc 179 [Value.func (.func g) #[] cv].toArray).run cx.P w=.ok (.enter 179 [Value.func (.func g) #[] cv].toArray) w:=Go.Proofs.enters_of (P:=cx.P) Tryz.func179 rfl rfl _ _;unfold Goes;rw[Xk];simp only;refine calls_of_wp_defers (P:=cx.P) Tryz.func179 rfl ?_;obtain⟨z,A⟩:=ql (w.alloc (.cells #[.int .i64 0] 3));refine wp_seq (wp_region_list ?_);simp only[wpList,Oper.wp];simp[go_sem,Exit.then,Tryz.ntmps179,A];apply Or.inl;refine wp_seq (wp_region_list ?_);simp only[wpList,Oper.wp];have aa:∀(fn:Fn)(first E:Array Value)(w:World),(Instr.makeFunc fn first E).run Tryz.prog w=.ok (.func fn first E) w:=fun _ _ _ _=>rfl;simp[go_sem,Exit.then]
  iterate 2 apply Or.inl
  refine wp_seq (wp_region_list ?_);simp only[wpList,Oper.wp];simp[go_sem,Exit.then]
  iterate 2 apply Or.inl
  have K:Below w.heap.size w z:=A▸(Below.refl _ w).alloc (qA _) _;have s1:Sim cx ok z ι H:=qvw F K
  have v1:RepL ok z ι H u cv.toList:=⟨by simpa using Q,fun j d hj=>by
   have:=(hh j d hj).same fun b zR=>K.block b (F.okS b zR);rw[jv,Array.getElem?_toList];rw[j7] at this;exact this⟩
  have Z:z.heap[w.heap.size]?=some (.cells #[.int .i64 0] 3 (0,0)):=by rw[<-A];exact heap_alloc_new w _
  have jW:z.heap.size=w.heap.size+1:=by rw[<-A];simp
  have y:∀{ok2:Nat->Prop}{l:World}{ι2:qV}{T:qe},Evol H.length ok z ι H ok2 l ι2 T->l.heap[w.heap.size]?=some (.cells #[.int .i64 0] 3 (0,0)):=by
   intro ok2 l ι2 T k;rw[k.frame _ wC fun i ds s hd hi=>by have:=F.lt hd hi;omega];exact Z
  cases n:call cx g u H with
  |some q=>
   obtain⟨r0,X⟩:=q;rw[n] at h;simp only[qy,zj] at h;obtain⟨rfl,rfl⟩:=h;have p:=qlF hG g u H r0 X ok z ι cv.toList n s1 v1;simp only[Array.toArray_toList] at p;refine Goes.upon (p.mono fun v l L=>?_);obtain⟨ι2,ok2,Y,k2,G,k4⟩:=L;have B:=y G;have I:l.cell? ⟨w.heap.size,0,none⟩=some (.int .i64 0):=(by rw[YI B];rfl);have O:l.frozen? ⟨w.heap.size,0,none⟩=false:=(by rw[qij B];rfl);refine wp_seq (wp_region_list ?_);simp only[wpList,Oper.wp];simp[go_sem,Exit.then,I,O];apply Or.inl;refine wp_ret ?_;refine leaves_cons (f:=228) (args:= #[.pointer (some ⟨w.heap.size,0,none⟩)]) wE (by simp[go_sem]) ((q5G ⟨w.heap.size,0,none⟩ _).mono ?_);rintro e u' R ⟨rfl,rfl,rfl⟩;have qn:(l.setCell ⟨w.heap.size,0,none⟩ (.int .i64 0)).cell? ⟨w.heap.size,0,none⟩=some (.int .i64 0):=World.cell?_setCell_same' _ _ _ (by rw[I];rfl);simp[Leaves,settle,results,Tryz.results179,go_sem,qn];have a:Below 0 l (l.setCell ⟨w.heap.size,0,none⟩ (.int .i64 0)):=(Below.refl 0 l).setCell (vg _) _;obtain⟨V,J⟩:=qvv (o:=.cells #[.int .i64 0] 3) (w3:=l.setCell ⟨w.heap.size,0,none⟩ (.int .i64 0)) F Y (by rw[A];exact G) ⟨a.os,a.tape,a.output⟩ a.size (fun b _ U=>Below.heap_setCell _ _ _ _ U);exact⟨ι2,ok2,V,.int _ _,J,k4 (by simpa using W)⟩
  |none=>
   rw[n] at h;simp only at h;split at h
   .rename_i t c T C;split at h
    .rename_i ht;subst ht;have p:=qzd hG (qzi C) s1 v1;simp only[Array.toArray_toList] at p;refine GoesP.upon (p.mono fun v l L=>?_);obtain⟨ι2,ok2,Y,k2,G⟩:=L;have B:=y G;have I:l.cell? ⟨w.heap.size,0,none⟩=some (.int .i64 0):=(by rw[YI B];rfl);have O:l.frozen? ⟨w.heap.size,0,none⟩=false:=by rw[qij B];rfl
     have S:v=.iface 333 (.agg #[.int .i64 c]):=by
      cases k2 with
      |iface hr=>
       cases hr with
       |agg Q hc h=>
        rename_i us;have h0:=h 0 (.int .i64 c) rfl;have Jr:us.size=1:=by simpa using Q
        have hu:us= #[us.getD 0 undef]:=by
         apply Array.ext
         .simp[Jr]
         .intro i h1 h2;have:i=0:=wC;subst this;simp[Jr]
        generalize us.getD 0 undef=x at h0 hu;cases h0;rw[hu]
     subst S;simp only[Exit.then];refine leaves_cons (f:=228) (args:= #[.pointer (some ⟨w.heap.size,0,none⟩)]) wE (by simp[go_sem]) ((q5F ⟨w.heap.size,0,none⟩ 0 c [] l I O).mono ?_);rintro e u' R ⟨rfl,rfl,o,rfl⟩;have M:(l.alloc o).cell? ⟨w.heap.size,0,none⟩=some (.int .i64 0):=(by rw[World.cell?_of_block (heap_alloc_old l _ (Array.getElem?_eq_some_iff.1 B).1)];exact I);have qn:((l.alloc o).setCell ⟨w.heap.size,0,none⟩ (.int .i64 c)).cell? ⟨w.heap.size,0,none⟩=some (.int .i64 c):=World.cell?_setCell_same' _ _ _ (by rw[M];rfl);simp[Leaves,settle,results,Tryz.results179,go_sem,qn];have a:Below l.heap.size l (l.alloc o):=(Below.refl _ l).alloc (qA _) o;have m:Below 0 (l.alloc o) ((l.alloc o).setCell ⟨w.heap.size,0,none⟩ (.int .i64 c)):=(Below.refl 0 _).setCell (vg _) _;obtain⟨V,J⟩:=qvv (o:=.cells #[.int .i64 0] 3) (w3:=(l.alloc o).setCell ⟨w.heap.size,0,none⟩ (.int .i64 c)) F Y (by rw[A];exact G) ⟨by rw[m.os,a.os],by rw[m.tape,a.tape],by rw[m.output,a.output]⟩ (zI a.size m.size) (fun b K U=>by rw[Below.heap_setCell _ _ _ _ U,a.block b K]);obtain⟨N,ι3,p1,p2,p3,p4⟩:=qnX J.nle.2 V (Rep.int .i64 c) h;exact⟨ι3,N,p1,p2,J.trans p3,p4⟩
    .cases h
   .cases h
 .cases h
end Go.Ev.S
namespace Go.Ev
open Go Go.Proofs Go.RowKit
section
variable {X:Cx} {f nt n0:Nat} {e:qu} {H:qe}
theorem qei{α:Type}{a b:Option α}(h:∀x,a=some x↔b=some x):a=b:=by
 cases a with
 |none=>cases b with
  |none=>rfl
  |some y=>exact(h y).2 rfl
 |some x=>exact((h x).1 rfl).symm
theorem qe1{c:Code}{r:D×qe}:¬evP X 0 f nt n0 c e H=some r:=by intro h;simp[evP] at h
theorem q5k{c:Operand}{a b:Code}:jM X f nt n0 (.cond c a b) e H=match qZ X e c with
  |some (.bool t)=>jM X f nt n0 (if t then a else b) e H
  |_=>none:=by
 apply qei;intro r;constructor
 .intro h;obtain⟨n,d⟩:=codeP_some.1 h;cases n with
  |zero=>exact(qe1 d).elim
  |succ n=>
   rw[evP.eq_def] at d;simp only at d;split at d
   .rename_i t hc;rw[hc];exact codeP_some.2 ⟨n,d⟩
   .cases d
 .intro h;split at h
  .rename_i t hc;exact q5s hc h
  .cases h
theorem q5l{id:Nat}{c:Code}:jM X f nt n0 (.block id c) e H=jM X f nt n0 c e H:=by
 apply qei;intro r;constructor
 .intro h;obtain⟨n,a⟩:=codeP_some.1 h;cases n with
  |zero=>exact(qe1 a).elim
  |succ n=>rw[evP.eq_def] at a;exact codeP_some.2 ⟨n,a⟩
 .exact q5t
theorem q5g{c:Code}:jM X f nt n0 (.scope c) e H=jM X f nt n0 c e H:=by
 apply qei;intro r;constructor
 .intro h;obtain⟨n,a⟩:=codeP_some.1 h;cases n with
  |zero=>exact(qe1 a).elim
  |succ n=>rw[evP.eq_def] at a;exact codeP_some.2 ⟨n,a⟩
 .exact q5o
theorem q5f{a b:Code}:jM X f nt n0 (.seq a b) e H=match zl X f nt n0 a e H with
  |some (.normal,g,d)=>jM X f nt n0 b g d
  |some _=>none
  |none=>jM X f nt n0 a e H:=by
 apply qei;intro r;constructor
 .intro h;obtain⟨n,c⟩:=codeP_some.1 h;cases n with
  |zero=>exact(qe1 c).elim
  |succ n=>
   rw[evP.eq_def] at c;simp only at c;split at c
   .rename_i hc;rw[hc];exact codeP_some.2 ⟨n,c⟩
   .cases c
   .rename_i hc;rw[hc];exact codeP_some.2 ⟨n,c⟩
 .intro h;split at h
  .rename_i hc;exact q5m hc h
  .cases h
  .exact q5n h
theorem q5i{c:Code}:jM X f nt n0 (.loop c) e H=match zl X f nt n0 c e H with
  |some (.normal,d,b)=>jM X f nt n0 (.loop c) d b
  |some _=>none
  |none=>jM X f nt n0 c e H:=by
 apply qei;intro r;constructor
 .intro h;obtain⟨n,a⟩:=codeP_some.1 h;cases n with
  |zero=>exact(qe1 a).elim
  |succ n=>
   rw[evP.eq_def] at a;simp only at a;split at a
   .rename_i hc;rw[hc];exact codeP_some.2 ⟨n,a⟩
   .cases a
   .rename_i hc;rw[hc];exact codeP_some.2 ⟨n,a⟩
 .intro h;split at h
  .rename_i hc;exact q5q hc h
  .cases h
  .exact q5r h
theorem qzl{n:Nat}{g:Nat}{args:List D}{d:D}(h:Vw X (evP X n) g args=some d):QC X g args=some d:=qnV (fun _ _ _ _ _ _ _ a=>codeP_some.2 ⟨n,a⟩) h
theorem q5h{id:Nat}{a:Array Oper}:jM X f nt n0 (.region id a false) e H=match enter X f n0 id e H with
  |some (g,d)=>Zb X (QC X) nt (YV X f id false a) a a.toList g d
  |none=>none:=by
 apply qei;intro r;constructor
 .intro h;obtain⟨n,b⟩:=codeP_some.1 h;cases n with
  |zero=>exact(qe1 b).elim
  |succ n=>
   rw[evP.eq_def] at b;simp only at b;split at b
   .rename_i c;rw[c];exact qh6 (fun _ _ _ i=>qzl i) b
   .cases b
 .intro h;split at h
  .rename_i c;exact q5p c h
  .cases h
theorem q5j{id:Nat}{a:Array Oper}:jM X f nt n0 (.region id a true) e H=none:=by
 apply qei;intro r;constructor
 .intro h;obtain⟨n,b⟩:=codeP_some.1 h;cases n with
  |zero=>exact(qe1 b).elim
  |succ n=>rw[evP.eq_def] at b;cases b
 .intro h;cases h
inductive OutC where
 |fin (ex:Ex) (e:qu) (H:qe)
 |pan (d:D) (H:qe)
noncomputable def j9(X:Cx)(f nt n0:Nat)(c:Code)(e:qu)(H:qe):Option OutC:=
 match zl X f nt n0 c e H with
 |some (a,e,H)=>some (.fin a e H)
 |none=>(jM X f nt n0 c e H).map fun p=>.pan p.1 p.2
theorem q5v{a b:Code}:j9 X f nt n0 (.seq a b) e H=match j9 X f nt n0 a e H with
  |some (.fin .normal d c)=>j9 X f nt n0 b d c
  |o=>o:=by
 unfold j9;rw[ql1,q5f];cases h:zl X f nt n0 a e H with
 |none=>cases jM X f nt n0 a e H<;>rfl
 |some q=>
  obtain⟨g,d,c⟩:=q;cases g with
  |normal=>simp only
  |exit i=>rfl
  |ret=>rfl
theorem q5y{c:Code}:j9 X f nt n0 (.loop c) e H=match j9 X f nt n0 c e H with
  |some (.fin .normal d b)=>j9 X f nt n0 (.loop c) d b
  |o=>o:=by
 have h:j9 X f nt n0 (.loop c) e H=match zl X f nt n0 (.loop c) e H with
  |some (a,e,H)=>some (.fin a e H)
  |none=>(jM X f nt n0 (.loop c) e H).map fun p=>.pan p.1 p.2:=rfl
 rw[h,qgH,q5i]
 have g:j9 X f nt n0 c e H=match zl X f nt n0 c e H with
  |some (a,e,H)=>some (.fin a e H)
  |none=>(jM X f nt n0 c e H).map fun p=>.pan p.1 p.2:=rfl
 rw[g];cases j:zl X f nt n0 c e H with
 |none=>cases jM X f nt n0 c e H<;>rfl
 |some q=>
  obtain⟨a,d,b⟩:=q;cases a with
  |normal=>simp only;rfl
  |exit i=>rfl
  |ret=>rfl
theorem q51{c:Operand}{a b:Code}:j9 X f nt n0 (.cond c a b) e H=match qZ X e c with
  |some (.bool t)=>j9 X f nt n0 (if t then a else b) e H
  |_=>none:=by
 unfold j9;rw[ql3,q5k];cases qZ X e c with
 |none=>rfl
 |some d=>cases d<;>rfl
theorem q52{id:Nat}{c:Code}:j9 X f nt n0 (.block id c) e H=match j9 X f nt n0 c e H with
  |some (.fin (.exit i) b a)=>if i=id then some (.fin .normal b a) else some (.fin (.exit i) b a)
  |o=>o:=by
 unfold j9;rw[ql4,q5l];cases g:zl X f nt n0 c e H with
 |none=>cases jM X f nt n0 c e H<;>rfl
 |some q=>
  obtain⟨d,b,a⟩:=q;cases d with
  |normal=>rfl
  |exit i=>by_cases hi:i=id<;>simp[hi]
  |ret=>rfl
theorem q5w{c:Code}:j9 X f nt n0 (.scope c) e H=j9 X f nt n0 c e H:=by
 unfold j9;rw[ql2,q5g]
theorem q5u:j9 X f nt n0 .skip e H=some (.fin .normal e H):=by unfold j9;rw[quV]
theorem q5z{l:Nat}:j9 X f nt n0 (.label l) e H=some (.fin .normal e H):=by unfold j9;rw[quX]
theorem q50{i:Nat}:j9 X f nt n0 (.exit i) e H=some (.fin (.exit i) e H):=by unfold j9;rw[quY]
theorem q5x:j9 X f nt n0 .ret e H=some (.fin .ret e H):=by unfold j9;rw[quW]
variable {Q:Ex->qu->qe->Prop} {P:D->qe->Prop} {fs:List Fr}
def RunO(X:Cx)(f nt n0:Nat)(Q:Ex->qu->qe->Prop)(P:D->qe->Prop):List Fr->Option OutC->Prop
 |_,none=>False
 |_,some (.pan d H)=>P d H
 |[],some (.fin a e H)=>Q a e H
 | .seq b::fs,some (.fin .normal e H)=>RunO X f nt n0 Q P fs (j9 X f nt n0 b e H)
 | .seq _::fs,some (.fin a e H)=>RunO X f nt n0 Q P fs (some (.fin a e H))
 | .block id::fs,some (.fin (.exit i) e H)=>if i=id then RunO X f nt n0 Q P fs (some (.fin .normal e H)) else RunO X f nt n0 Q P fs (some (.fin (.exit i) e H))
 | .block _::fs,some (.fin a e H)=>RunO X f nt n0 Q P fs (some (.fin a e H))
variable {a b c:Code}
theorem qaL:RunO X f nt n0 Q P fs none=False:=by unfold RunO;rfl
theorem qbI{d:D}:RunO X f nt n0 Q P fs (some (.pan d H))=P d H:=by unfold RunO;rfl
theorem qcT{a:Ex}:RunO X f nt n0 Q P [] (some (.fin a e H))=Q a e H:=by unfold RunO;rfl
theorem qnd:RunO X f nt n0 Q P (.seq b::fs) (some (.fin .normal e H))=RunO X f nt n0 Q P fs (j9 X f nt n0 b e H):=by rw[RunO]
theorem qne{i:Nat}:RunO X f nt n0 Q P (.seq b::fs) (some (.fin (.exit i) e H))=RunO X f nt n0 Q P fs (some (.fin (.exit i) e H)):=by rw[RunO];intro h;cases h
theorem qnc:RunO X f nt n0 Q P (.seq b::fs) (some (.fin .ret e H))=RunO X f nt n0 Q P fs (some (.fin .ret e H)):=by rw[RunO];intro h;cases h
theorem qng{id:Nat}:RunO X f nt n0 Q P (.block id::fs) (some (.fin .normal e H))=RunO X f nt n0 Q P fs (some (.fin .normal e H)):=by rw[RunO];intro i h;cases h
theorem qnf{id:Nat}:RunO X f nt n0 Q P (.block id::fs) (some (.fin .ret e H))=RunO X f nt n0 Q P fs (some (.fin .ret e H)):=by rw[RunO];intro i h;cases h
theorem qnh{id i:Nat}:RunO X f nt n0 Q P (.block id::fs) (some (.fin (.exit i) e H))=if i=id then RunO X f nt n0 Q P fs (some (.fin .normal e H)) else RunO X f nt n0 Q P fs (some (.fin (.exit i) e H)):=by rw[RunO]
theorem qxL:RunO X f nt n0 Q P fs (j9 X f nt n0 (.seq a b) e H)=RunO X f nt n0 Q P (.seq b::fs) (j9 X f nt n0 a e H):=by
 rw[q5v];cases h:j9 X f nt n0 a e H with
 |none=>simp[qaL]
 |some q=>
  cases q with
  |pan d c=>simp[qbI]
  |fin g j c=>
   cases g with
   |normal=>rw[qnd]
   |exit i=>rw[qne]
   |ret=>rw[qnc]
theorem qxP{id:Nat}:RunO X f nt n0 Q P fs (j9 X f nt n0 (.block id c) e H)=RunO X f nt n0 Q P (.block id::fs) (j9 X f nt n0 c e H):=by
 rw[q52];cases h:j9 X f nt n0 c e H with
 |none=>simp[qaL]
 |some q=>
  cases q with
  |pan d a=>simp[qbI]
  |fin b g a=>
   cases b with
   |normal=>rw[qng]
   |exit i=>rw[qnh];by_cases hi:i=id<;>simp[hi]
   |ret=>rw[qnf]
theorem qxM:RunO X f nt n0 Q P fs (j9 X f nt n0 (.scope c) e H)=RunO X f nt n0 Q P fs (j9 X f nt n0 c e H):=by rw[q5w]
theorem RunO.mono{o:Option OutC}{R:Ex->qu->qe->Prop}(h:RunO X f nt n0 R P [] o)(c:∀a e H,R a e H->RunO X f nt n0 Q P fs (some (.fin a e H))):RunO X f nt n0 Q P fs o:=by
 cases o with
 |none=>rw[qaL] at h;exact h.elim
 |some q=>
  cases q with
  |pan d b=>rw[qbI] at h⊢;exact h
  |fin a g b=>
   rw[qcT] at h;exact c _ _ _ h
theorem RunO.loop{σ:Type}(I:σ->qu->qe->Prop)(m:σ->Nat)
  (step:∀s e H,I s e H->RunO X f nt n0 (fun ex l H'=>match ex with| .normal=>∃b,m b<m s/\I b l H'|ex=>Q ex l H') P [] (j9 X f nt n0 c e H)):
  ∀s e H,I s e H->RunO X f nt n0 Q P [] (j9 X f nt n0 (.loop c) e H):=by
 suffices h:∀k s e H,m s<k->I s e H->RunO X f nt n0 Q P [] (j9 X f nt n0 (.loop c) e H) from
  fun s e H hi=>h (m s+1) s e H (Nat.lt_succ_self _) hi
 intro k
 induction k with
 |zero=>intro s e H h;omega
 |succ k n=>
  intro s e H t hi;have a:=step s e H hi;rw[q5y];cases g:j9 X f nt n0 c e H with
  |none=>rw[g,qaL] at a;exact a.elim
  |some q=>
   rw[g] at a;cases q with
   |pan d j=>rw[qbI] at a;simp only[qbI];exact a
   |fin ex p j=>
    rw[qcT] at a;cases ex with
    |normal=>
     obtain⟨b,r,o⟩:=a;exact n b p j wC o
    |exit i=>simp only[qcT];exact a
    |ret=>simp only[qcT];exact a
theorem RunO.loopThen{σ:Type}(I:σ->qu->qe->Prop)(m:σ->Nat)(s:σ){e:qu}{H:qe}(g:I s e H)
  (step:∀s e H,I s e H->RunO X f nt n0 (fun ex b H'=>match ex with| .normal=>∃d,m d<m s/\I d b H'|ex=>RunO X f nt n0 Q P fs (some (.fin ex b H'))) P [] (j9 X f nt n0 c e H)):
  RunO X f nt n0 Q P fs (j9 X f nt n0 (.loop c) e H):=by
 have h:=RunO.loop (Q:=fun ex e H=>ex≠.normal/\RunO X f nt n0 Q P fs (some (.fin ex e H))) I m (fun s e H hi=>by
  refine RunO.mono (step s e H hi) ?_;intro ex b H' a;rw[qcT];cases ex with
  |normal=>exact a
  |exit i=>exact⟨wE,a⟩
  |ret=>exact⟨wE,a⟩) s e H g
 exact RunO.mono h fun ex e H a=>a.2
noncomputable def qbQ(X:Cx)(P:Nat->List D->Option D)(nt:Nat)(bw:Bool):List SOp->qu->qe->Option (D×qe)
 |[],_,_=>none
 |o::l,e,H=>match ko nt o.dst,Ku e o.g with
  |true,some true=>match zf X (call X) bw o.op e H with
   |some (d,H')=>qbQ X P nt bw l (jP e o.dst d) H'
   |none=>(Z3 X P o.op e).map (·,H)
  |true,some false=>qbQ X P nt bw l (jP e o.dst (.tup [])) H
  |_,_=>none
theorem qof{b:Nat->List D->Option D}{bw:Bool}(a:Array Oper):∀(l:List Oper)(e:qu)(H:qe),Zb X b nt bw a l e H=qbQ X b nt bw (Zq a l) e H
 |[],e,H=>rfl
 |o::l,e,H=>by
  have c:Ku e (qcP a o).g=vP a e o.guard:=(qkK a e o.guard).symm;rw[Zb];show _=qbQ X b nt bw (qcP a o::Zq a l) e H;rw[qbQ,c];simp only[qof a l];rfl
def JZ(X:Cx)(f nt n0:Nat)(Q:Ex->qu->qe->Prop)(P:D->qe->Prop)(fs:List Fr)(a:Bool)(l:List SOp)(e:qu)(H:qe):Prop:=
 match XT X (call X) nt a l e H with
 |some (c,b)=>RunO X f nt n0 Q P fs (some (.fin .normal c b))
 |none=>match qbQ X (QC X) nt a l e H with
  |some (d,b)=>P d b
  |none=>False
def qcC(X:Cx)(f nt n0:Nat)(Q:Ex->qu->qe->Prop)(P:D->qe->Prop)(fs:List Fr)(a:Bool)(l:List SOp)(e:qu)(H:qe)(dst:Option Tmp)(op:Op):Option (D×qe)->Prop
 |none=>match Z3 X (QC X) op e with
  |some d=>P d H
  |none=>False
 |some (d,H)=>JZ X f nt n0 Q P fs a l (jP e dst d) H
def qcD(X:Cx)(f nt n0:Nat)(Q:Ex->qu->qe->Prop)(P:D->qe->Prop)(fs:List Fr)(a:Bool)(dst:Option Tmp)(op:Op)(c:Bool)(l:List SOp)(e:qu)(H:qe):Option D->Prop
 |some (.bool b)=>if b=c then qcC X f nt n0 Q P fs a l e H dst op (zf X (call X) a op e H) else JZ X f nt n0 Q P fs a l (jP e dst (.tup [])) H
 |some (.tup [])=>JZ X f nt n0 Q P fs a l (jP e dst (.tup [])) H
 |_=>False
theorem qxS{a:Bool}:JZ X f nt n0 Q P fs a [] e H=RunO X f nt n0 Q P fs (some (.fin .normal e H)):=rfl
theorem qxT{a:Bool}{dst:Option Tmp}{op:Op}{l:List SOp}{d:D}{H':qe}:qcC X f nt n0 Q P fs a l e H dst op (some (d,H'))=JZ X f nt n0 Q P fs a l (jP e dst d) H':=rfl
theorem qxU{a:Bool}{dst:Option Tmp}{op:Op}{l:List SOp}:qcC X f nt n0 Q P fs a l e H dst op none=match Z3 X (QC X) op e with
  |some d=>P d H
  |none=>False:=rfl
theorem qxW{a:Bool}{dst:Option Tmp}{op:Op}{l:List SOp}{c b:Bool}:qcD X f nt n0 Q P fs a dst op c l e H (some (.bool b))=
  if b=c then qcC X f nt n0 Q P fs a l e H dst op (zf X (call X) a op e H) else JZ X f nt n0 Q P fs a l (jP e dst (.tup [])) H:=rfl
theorem qxV{a:Bool}{dst:Option Tmp}{op:Op}{l:List SOp}{b:Bool}:qcD X f nt n0 Q P fs a dst op b l e H (some (.tup []))=JZ X f nt n0 Q P fs a l (jP e dst (.tup [])) H:=rfl
theorem qxR{a:Bool}{dst:Option Tmp}{op:Op}{l:List SOp}:JZ X f nt n0 Q P fs a (⟨dst,op,none⟩::l) e H=
  (ko nt dst=true/\qcC X f nt n0 Q P fs a l e H dst op (zf X (call X) a op e H)):=by
 unfold JZ;simp only[XT,qbQ,Ku];cases ko nt dst with
 |false=>simp
 |true=>
  cases zf X (call X) a op e H with
  |none=>cases b:Z3 X (QC X) op e<;>simp[qcC,b]
  |some q=>simp[qcC,JZ]
theorem qxQ{c:Bool}{dst:Option Tmp}{op:Op}{l:List SOp}{t:Tmp}{a:Bool}:JZ X f nt n0 Q P fs c (⟨dst,op,some (some t,a)⟩::l) e H=
  (ko nt dst=true/\qcD X f nt n0 Q P fs c dst op a l e H (qi e t)):=by
 unfold JZ;simp only[XT,qbQ,Ku];cases ko nt dst with
 |false=>simp
 |true=>
  cases qi e t with
  |none=>simp[qcD]
  |some d=>
   cases d with
   |bool b=>
    by_cases g:b=a
    .subst g;simp only[beq_self_eq_true,qcD,if_true,true_and];cases zf X (call X) c op e H with
     |none=>cases h:Z3 X (QC X) op e<;>simp[qcC,h]
     |some q=>simp[qcC,JZ]
    .have:(b==a)=false:=xF;simp[qcD,g,this,JZ]
   |tup cs=>
    cases cs with
    |nil=>simp[qcD,JZ]
    |cons=>simp[qcD]
   |_=>simp[qcD]
def qiN(X:Cx)(f nt n0:Nat)(Q:Ex->qu->qe->Prop)(P:D->qe->Prop)(fs:List Fr)(a:Bool)(l:List SOp):Option (qu×qe)->Prop
 |none=>False
 |some (e,H)=>JZ X f nt n0 Q P fs a l e H
theorem qxX{a:Bool}{l:List SOp}:qiN X f nt n0 Q P fs a l (some (e,H))=JZ X f nt n0 Q P fs a l e H:=rfl
theorem qxO{id:Nat}{a:Array Oper}:RunO X f nt n0 Q P fs (j9 X f nt n0 (.region id a false) e H)=qiN X f nt n0 Q P fs (X.cv f id) (Zq a a.toList) (enter X f n0 id e H):=by
 unfold j9;rw[qi4,q5h];cases enter X f n0 id e H with
 |none=>simp[qaL,qiN]
 |some q=>
  simp only[qiN,JZ,J0,qiq,qof,YV];cases XT X (call X) nt (X.cv f id) (Zq a a.toList) q.1 q.2 with
  |some r=>simp
  |none=>
   simp only[Option.map_none];cases qbQ X (QC X) nt (X.cv f id) (Zq a a.toList) q.1 q.2 with
   |none=>simp[qaL]
   |some p=>simp[qbI]
theorem qxN{id:Nat}{a:Array Oper}:RunO X f nt n0 Q P fs (j9 X f nt n0 (.region id a true) e H)=Run X f nt n0 (fun b e H=>RunO X f nt n0 Q P fs (some (.fin b e H))) [] (zl X f nt n0 (.region id a true) e H):=by
 unfold j9;rw[q5j];cases zl X f nt n0 (.region id a true) e H with
 |none=>simp[qaL]
 |some q=>obtain⟨b,d,c⟩:=q;simp
theorem qze{a:Nat->List D->Option D}{x:Operand}:Z3 X a (.panic x) e=match qZ X e x with
  |some (.iface t d)=>if idFree d&&vFree d then some (.iface t d) else none
  |_=>none:=rfl
theorem qzh{b:Nat->List D->Option D}{g:Operand}{args:Array Operand}{ts:Array TypeId}:Z3 X b (.call {callee:=.value g,args:=args,argTypes:=ts}) e=match vR X e args.toList with
  |some vs=>match qZ X e g with
   |some (.fn f a)=>b f (vs++a)
   |_=>none
  |none=>none:=by
 unfold Z3;simp only;cases vR X e args.toList<;>rfl
theorem q4y{F:zF}{x:Operand}:zH X F (.panic x) e H=none:=rfl
theorem qf3{fn:Func}{args:List D}{r:D×qe}{d:D}(C:Prop)(i:X.P.funcs[f]?=some fn)(k:fn.body.isSome=true)(a:X.bad f=false/\X.con f args []=none)(m:args.all idFree=true)(o:idFree d=true/\vFree d=true)
  (h:RunO X f fn.ntmps ([]:qe).length (fun j e H=>Fin X (X.fzr f) fn.results.toList ([]:qe).length r j e H/\C) (fun d' _=>d'=d/\¬C) [] (j9 X f fn.ntmps ([]:qe).length (jO (Q6 fn)) (kr 0 args) [])) (n:(X.gr f&&X.byRef f)=false:=by rfl):
  (C->call X f args []=some r)/\(¬C->call X f args []=none/\QC X f args=some d):=by
 unfold j9 at h;cases hc:zl X f fn.ntmps ([]:qe).length (jO (Q6 fn)) (kr 0 args) [] with
 |some q=>
  obtain⟨j,t,s⟩:=q;rw[hc] at h;simp only[qcT] at h;exact⟨fun _=>qC i k a (by rw[hc,KK];exact h.1) n,fun g=>absurd h.2 g⟩
 |none=>
  rw[hc] at h;simp only at h;cases c:jM X f fn.ntmps ([]:qe).length (jO (Q6 fn)) (kr 0 args) [] with
  |none=>rw[c] at h;simp[qaL] at h
  |some p=>
   rw[c] at h;simp only[j6,qbI] at h;obtain⟨rfl,g⟩:=h;have b:=qzn i k a m o (H':=p.2) c;exact⟨fun l=>absurd l g,fun _=>⟨qzo b,b⟩⟩
theorem qlG{fn:Func}{args:List D}{r p:D×qe}(C:Prop)(g:X.P.funcs[f]?=some fn)(j:fn.body.isSome=true)(a:X.bad f=false/\X.con f args H=none)
  (h:RunO X f fn.ntmps H.length (fun i e H'=>Fin X (X.fzr f) fn.results.toList H.length r i e H'/\C) (fun d' H'=>(d',H')=p/\¬C) [] (j9 X f fn.ntmps H.length (jO (Q6 fn)) (kr 0 args) H)) (l:(X.gr f&&X.byRef f)=false:=by rfl):
  (C->call X f args H=some r)/\(¬C->call X f args H=none/\YY X f args H=some p):=by
 unfold j9 at h;cases hc:zl X f fn.ntmps H.length (jO (Q6 fn)) (kr 0 args) H with
 |some q=>
  obtain⟨i,o,n⟩:=q;rw[hc] at h;simp only[qcT] at h;exact⟨fun _=>qC g j a (by rw[hc,KK];exact h.1) l,fun d=>absurd h.2 d⟩
 |none=>
  rw[hc] at h;simp only at h;cases c:jM X f fn.ntmps H.length (jO (Q6 fn)) (kr 0 args) H with
  |none=>rw[c] at h;simp[qaL] at h
  |some m=>
   rw[c] at h;simp only[j6,qbI] at h;obtain⟨rfl,d⟩:=h;have b:=qzj g j a.1 (r:=m) c;exact⟨fun k=>absurd k d,fun _=>⟨qzk a.2 b,b⟩⟩
end
attribute [simp] q5u q5z q50 q5x q51 qaL qbI qcT qnd qne qnc qng qnf qnh qxL qxP qxM qxS qxR qxQ qxT qxU qxW qxV qxX qxO qxN qze qzh q4y
end Go.Ev
namespace Go.Ev.S
open Go Go.Proofs Go.Ev
def Qd(c:Nat):D:=.iface 333 (.agg [.int .i64 (c:Nat)])
theorem qhD[MaxL][TxtC](c:Nat):(c=0->call cx 227 [.int .i64 (c:Nat)] []=some (.tup [],[]))/\(¬c=0->call cx 227 [.int .i64 (c:Nat)] []=none/\QC cx 227 [.int .i64 (c:Nat)]=some (Qd c)):=by
 refine qf3 (c=0) Tryz.func227 rfl ⟨rfl,rfl⟩ xC xi ?_;by_cases h:c=0
 .subst h;simp[Tryz.f227,Qd]
 .have a:((c:Int) !=0)=true:=VJ;simp[Tryz.f227,Qd,h,a]
def qW(b:Sl UInt8)(h:HdP):List D:=(.vsl b.nil (qf b.l) b.l.length)::Enc.cells h
theorem qgw(h:HdP):(Enc.cells h).drop 67=.int .u64 (h.siz:Nat)::(Enc.cells h).drop 68:=h.dn (i:=0) wC
theorem qjc[MaxL][TxtC](b:Sl UInt8)(h:HdP)(k:b.l.length<=1000000)(a:Nat)(_:a<18446744073709551616):
  (¬(a<h.siz\/b.l.length<=a)->call cx 225 [.vptr (qW b h),.int .u64 a] []=some (.tup [],[]))/\
  (¬¬(a<h.siz\/b.l.length<=a)->call cx 225 [.vptr (qW b h),.int .u64 a] []=none/\QC cx 225 [.vptr (qW b h),.int .u64 a]=some (Qd 2)):=by
 have c:call cx 177 [.vptr (qW b h)] []=some (.int .u64 b.l.length,[]):=by
  refine qC Tryz.func177 rfl ⟨rfl,rfl⟩ ?_;have j:=zg (b.l.length:Int) (b.l.length:Int);simp[Tryz.f177,qW,j]
 refine qf3 _ Tryz.func225 rfl ⟨rfl,rfl⟩ xu xi ?_;have d:=qgw h;by_cases e:a<h.siz
 .have f:=zn e;simp[Tryz.f225,Qd,d,e,f,qW]
 have f:=zq e;by_cases i:b.l.length<=a
 .have g:(b.l.length:Int)<=(a:Int):=by omega
  simp only[qW] at c⊢;simp[Tryz.f225,Qd,d,e,f,c,i,g]
 .have g:¬(b.l.length:Int)<=(a:Int):=by omega
  simp only[qW] at c⊢;simp[Tryz.f225,Qd,d,e,f,c,i,g]
def qgR(b:List UInt8)(a:Nat):List D:=[.int .u64 ((kp b a).headD 0:Nat),.vsl false (zi (kp b a).tail) (kp b a).tail.length]
theorem qwu[MaxL][TxtC](b:Sl UInt8)(h:HdP)(e:b.l.length<=1000000)(a:Nat)(s:a<18446744073709551616):
  (Q7 b.l h.siz a=0->call cx 224 [.optr 0 1 0,.optr 1 1 0,.optr 2 2 0] [some [.vptr (qW b h)],some [.int .u64 a],some [.int .u64 0,.vsl true [] 0]]=
   some (.tup [],[some [.vptr (qW b h)],some [.int .u64 a],some (qgR b.l a)]))/\
  (¬Q7 b.l h.siz a=0->call cx 224 [.optr 0 1 0,.optr 1 1 0,.optr 2 2 0] [some [.vptr (qW b h)],some [.int .u64 a],some [.int .u64 0,.vsl true [] 0]]=none/\
   ∃L,YY cx 224 [.optr 0 1 0,.optr 1 1 0,.optr 2 2 0] [some [.vptr (qW b h)],some [.int .u64 a],some [.int .u64 0,.vsl true [] 0]]=
   some (Qd (Q7 b.l h.siz a),[some [.vptr (qW b h)],some [.int .u64 a],some [.int .u64 0,.vsl true [] 0]]++L)):=by
 obtain⟨y,u⟩:=qjc b h e a s;obtain⟨t,v⟩:=qhD (Xv b.l a);have c:=qy5 b e a s;by_cases g:a<h.siz\/b.l.length<=a
 .have m:Q7 b.l h.siz a=2:=by unfold Q7;rw[if_pos g]
  obtain⟨w3,o⟩:=u (fun j=>j g);rw[m];refine⟨wC,fun _=>?_⟩;have key:=qlG (X:=cx) (f:=224) (H:=[some [.vptr (qW b h)],some [.int .u64 a],some [.int .u64 0,.vsl true [] 0]]) (args:=[.optr 0 1 0,.optr 1 1 0,.optr 2 2 0]) (r:=(.tup [],[])) (p:=(Qd 2,[some [.vptr (qW b h)],some [.int .u64 a],some [.int .u64 0,.vsl true [] 0]])) False Tryz.func224 rfl ⟨rfl,rfl⟩ ?_
  .obtain⟨n,k⟩:=key.2 id;exact⟨n,[],by rw[Jd];exact k⟩
  .simp only[qW] at w3 o⊢;simp[Tryz.f224,w3,o]
 have m:Q7 b.l h.siz a=Xv b.l a:=by unfold Q7;rw[if_neg g]
 have w3:=y g;rw[m];by_cases d:Xv b.l a=0
 .have q:=t d;rw[d] at c q;have A:call cx 227 [.int .i64 0] []=some (.tup [],[]):=q;have i:qc9 b.l a=.agg (qgR b.l a):=by unfold qc9;rw[if_pos d];rfl
  rw[i] at c;refine⟨fun _=>?_,fun j=>absurd d j⟩;refine qC Tryz.func224 rfl ⟨rfl,rfl⟩ ?_;simp only[qW,qgR] at w3 c⊢;obtain⟨x,hx⟩:=ql ((kp b.l a).headD 0);obtain⟨l,e⟩:=ql ((kp b.l a).tail);rw[hx,e] at c⊢;simp[Tryz.f224,w3,c,A]
 .obtain⟨w,z⟩:=v d;refine⟨fun h=>absurd h d,fun _=>?_⟩;have i:qc9 b.l a=.agg [.int .u64 0,.vsl true [] 0]:=by unfold qc9;rw[if_neg d]
  rw[i] at c;have key:=qlG (X:=cx) (f:=224) (H:=[some [.vptr (qW b h)],some [.int .u64 a],some [.int .u64 0,.vsl true [] 0]]) (args:=[.optr 0 1 0,.optr 1 1 0,.optr 2 2 0]) (r:=(.tup [],[])) (p:=(Qd (Xv b.l a),[some [.vptr (qW b h)],some [.int .u64 a],some [.int .u64 0,.vsl true [] 0]]++[some [.int .u64 0,.vsl true [] 0]])) False Tryz.func224 rfl ⟨rfl,rfl⟩ ?_
  .obtain⟨n,k⟩:=key.2 id;exact⟨n,_,k⟩
  .simp only[qW] at w3⊢;simp[Tryz.f224,w3,c,w,z]
@[instance_reducible] def qbC:TxtC:=⟨fun _ _ _=>none⟩
theorem qw2[MaxL]:@qlR _ qbC:=fun h=>by cases h
noncomputable instance txt1 [MaxL]:TxtC:=⟨fun f=>if f=179 then qb3 (@cx _ qbC) 333 else fun _ _=>none⟩
theorem qw1[MaxL]:qlR:=by
 intro f args H r H' h ok w ι vs b e;replace h:(if f=179 then qb3 (@cx _ qbC) 333 else fun _ _=>none) args H=some (r,H'):=h;by_cases c:f=179
 .rw[if_pos c] at h;subst c;have:=@qw8 _ qbC (@good _ qbC qw2) args H H' r ok w ι vs h ⟨b.okS,b.glob,b.inj,b.blk⟩ e;refine this.mono ?_;rintro v w' ⟨ι',ok',a,i,d,g⟩;exact⟨ι',ok',⟨a.okS,a.glob,a.inj,a.blk⟩,i,d,g⟩
 .rw[if_neg c] at h;cases h
theorem quQ{X:Cx}{T g:Nat}{a:List D}{H H':qe}{r:D}(b:(X.gr g&&X.byRef g)=false)(h:call X g a H=some (r,H')):qb3 X T [.fn g a] H=some (.int .i64 0,H'):=by
 simp only[qb3,b,h];rfl
theorem quP{X:Cx}{T g:Nat}{a:List D}{H H':qe}{c:Int}(d:(X.gr g&&X.byRef g)=false)(h:call X g a H=none)(b:YY X g a H=some (.iface T (.agg [.int .i64 c]),H')):qb3 X T [.fn g a] H=Qb false H.length H' (.int .i64 c):=by
 simp only[qb3,d,h,b];simp
def qfB(b:List UInt8)(sz a:Nat):D:=if Q7 b sz a=0 then .agg (qgR b a) else .agg [.int .u64 0,.vsl true [] 0]
theorem qwt[MaxL](b:Sl UInt8)(h:HdP)(o:b.l.length<=1000000)(a:Nat)(m:a<18446744073709551616):
  call cx 178 [.vptr (qW b h),.int .u64 a] []=some (.tup [qfB b.l h.siz a,.int .i64 (Q7 b.l h.siz a:Nat)],[]):=by
 obtain⟨j,q⟩:=@qwu _ qbC b h o a m;have r:idFree (.fn 224 [.optr 0 1 0,.optr 1 1 0,.optr 2 2 0])=false:=xC
 have p:∃(x:Nat)(g:Bool)(l:List Nat),qfB b.l h.siz a=.agg [.int .u64 (x:Nat),.vsl g (zi l) l.length]/\qb3 (@cx _ qbC) 333 [.fn 224 [.optr 0 1 0,.optr 1 1 0,.optr 2 2 0]] [some [.vptr (qW b h)],some [.int .u64 a],some [.int .u64 0,.vsl true [] 0]]=
   some (.int .i64 (Q7 b.l h.siz a:Nat),[some [.vptr (qW b h)],some [.int .u64 a],some [.int .u64 (x:Nat),.vsl g (zi l) l.length]]):=by
  by_cases d:Q7 b.l h.siz a=0
  .refine⟨_,_,_,by unfold qfB;rw[if_pos d];rfl,?_⟩;rw[d];exact quQ rfl (j d)
  .obtain⟨i,L,k⟩:=q d;refine⟨0,true,[],by unfold qfB;rw[if_neg d];rfl,?_⟩;rw[quP rfl i k];simp[Qb,qbO,qW]
 obtain⟨x,g,l,n,e⟩:=p;rw[n];have c:=qe8 (X:=cx) (f:=179) (show cx.con 179 [.fn 224 [.optr 0 1 0,.optr 1 1 0,.optr 2 2 0]] [some [.vptr (qW b h)],some [.int .u64 a],some [.int .u64 0,.vsl true [] 0]]=_ from e);refine qC Tryz.func178 rfl ⟨rfl,rfl⟩ ?_;simp only[qW] at c⊢;simp[Tryz.f178,c]
def J7(l:List (List UInt8)):List D:=l.map fun p=>.vsl false (qf p) p.length
def xrP:List (List UInt8)->Int->Int
 |[],v=>v
 |p::l,v=>xrP l (qO .u64 v (qac p))
theorem qma(b:List UInt8):∀(l:List (Nat×Nat))(v:Int),qiZ b l v=xrP (l.map fun x=>Qq b x.1) v
 |[],_=>rfl
 |_::l,_=>qma b l _
theorem qyQ{l:List (List UInt8)}{i:Nat}(h:i<l.length):(J7 l).drop i=.vsl false (qf l[i]) l[i].length::(J7 l).drop (i+1):=by
 rw[zZ (by simpa[J7] using h)];simp[J7]
theorem q4q[MaxL][TxtC](l:List (List UInt8))(b:Bool)(q:b=true->l=[])(u:l.length<=1000)(o:∀p,p∈l->p.length<=1000000):call cx 232 [.vsl b (J7 l) l.length] []=some (.int .u64 (xrP l 0),[]):=by
 refine qC Tryz.func232 rfl ⟨rfl,rfl⟩ ?_;obtain⟨R,j⟩:=ql (xrP l 0);rw[j];simp[Tryz.f232];refine Run.loopThen (fun(k:Nat) e H=>k<=l.length/\H=[]/\qi e 6=some (.vsl b (J7 l) l.length)/\qi e 7=some (.int .i64 l.length)/\qi e 8=some (.int .i64 k)/\∃v,qi e 3=some (.int .u64 v)/\xrP (l.drop k) v=R) (fun k=>l.length-k) 0 ?_ ?_
 .exact⟨wC,rfl,wE,wE,wE,0,wE,by simpa using j⟩
 rintro k e H ⟨t,rfl,h,m,f,v,g,c⟩;by_cases a:k<l.length
 .have d:=zn a;have r:=qz ((k:Int)+1) ((k+1:Nat):Int);have n:=qyQ a;have i:=qoU (Sl.mk false l[k] wE) (by have:=o _ (vQ a);simp only;omega);rw[zZ a,xrP] at c;simp only at i
  have s:b=false:=by
   cases b with
   |false=>rfl
   |true=>rw[q rfl] at a;simp at a
  subst s;generalize l[k]=p at *;simp[g,h,m,f,d,r,n,i];exact⟨k+1,wC,wC,wC,c⟩
 .have d:=zq a;rw[List.drop_of_length_le wC,xrP] at c;subst c;simp[g,h,m,f,d]
theorem q61(n:Nat)(h:n<4294967296):(YK .u32 (n:Int) 4 !=0)=decide (n&&&4≠0):=by
 have b:(4:Int)=((4:Nat):Int):=rfl;rw[b,q60 rfl (by simpa[IntKind.bits] using h) wH];have c:n&&&4<=4:=Nat.and_le_right;by_cases a:n&&&4=0
 .simp[a]
 .have:((n&&&4:Nat):Int)≠0:=by omega
  simp[a]
theorem qwo[MaxL][TxtC](b:Sl UInt8)(h:HdP)(hi:h.incompat<4294967296)(s:Sl UInt8)(e:s.l.length<1000000):call cx 262 [.vptr (qW b h),(.vsl s.nil (qf s.l) s.l.length)] []=some (.int .u64 (qew (qfi h) h.file.l s.l),[]):=by
 have f:=qyN (qfi h) h.file s e;have a:=q61 h.incompat hi;have d:decide (h.incompat&&&4≠0)=qfi h:=rfl;rw[d] at a;have c:=h.d1;have g:=h.d3;have i:(qf h.file.l).length=16:=by simp[qf,h.file.h]
 refine qC Tryz.func262 rfl ⟨rfl,rfl⟩ ?_;simp[Tryz.f262,qW,c,g,a,f]
def X1(b:List UInt8)(h:HdP)(a:Nat):Nat:=if a<h.siz\/b.length<=a then 2 else Qr b a
theorem qwr[MaxL][TxtC](b:Sl UInt8)(h:HdP)(k:b.l.length<=1000000)(a:Nat)(n:a<18446744073709551616):
  (X1 b.l h a=0->call cx 261 [.vptr (qW b h),.int .u64 a] []=some (.agg (qe4 b.l a),[]))/\
  (¬X1 b.l h a=0->call cx 261 [.vptr (qW b h),.int .u64 a] []=none/\QC cx 261 [.vptr (qW b h),.int .u64 a]=some (Qd (X1 b.l h a))):=by
 obtain⟨t,q⟩:=qjc b h k a n;obtain⟨o,r⟩:=qhD (Qr b.l a);have d:=qzH b k a n;unfold qlx at d;refine qf3 _ Tryz.func261 rfl ⟨rfl,rfl⟩ xu xi ?_;by_cases f:a<h.siz\/b.l.length<=a
 .have i:X1 b.l h a=2:=by unfold X1;rw[if_pos f]
  obtain⟨w3,j⟩:=q (fun g=>g f);rw[i];simp only[qW] at w3 j⊢;simp[Tryz.f261,w3,j]
 have i:X1 b.l h a=Qr b.l a:=by unfold X1;rw[if_neg f]
 have w3:=t f;rw[i];by_cases e:Qr b.l a=0
 .have m:=o e;rw[if_pos e] at d;rw[e] at d m⊢;have v:call cx 227 [.int .i64 0] []=some (.tup [],[]):=m;obtain⟨C,y,G,x,F⟩:=qgA e;have g:(KJ b.l a).length=6:=by unfold KJ;rw[jj,qdc];omega
  unfold qe4 at d⊢;generalize KJ b.l a=l at *;generalize Qq b.l a=p at *;simp only[qW] at w3⊢
  match l,g with
  |[H,w,z,B,E,A],_=>
   simp only[zi,List.map] at d⊢;simp[Tryz.f261,w3,d,v]
 .obtain⟨s,u⟩:=r e;rw[if_neg e] at d;simp only[qW,qlw] at w3 d⊢;generalize Qr b.l a=c at *;simp[Tryz.f261,w3,d,s,u,e]
theorem qmM{b:List UInt8}{a:Nat}(h:Qr b a=0):KJ b a=[qfz b a,qU (qR b a) 8,qU (qR b a) 16,qU (qR b a) 24,qU (qR b a) 32,qU (qR b a) 40]:=by
 obtain⟨e,l,k,f,g⟩:=qgA h;have d:(KJ b a).length=6:=by unfold KJ;rw[jj,qdc];omega
 apply List.ext_getElem
 .rw[d];rfl
 .intro i j m;have hi:i<6:=by omega
  have c:(KJ b a)[i]=qU (qR b a) (8*i):=by simp[KJ,jV]
  rw[c]
  match i,hi with
  |0,_=>rfl
  |1,_=>rfl
  |2,_=>rfl
  |3,_=>rfl
  |4,_=>rfl
  |5,_=>rfl
theorem qwn[MaxL][TxtC](b:Sl UInt8)(h:HdP)(hi:h.incompat<4294967296)(s:b.l.length<=1000000)(a:Nat)(u:a<18446744073709551616):
  (Yi b.l h a=0->call cx 230 [.vptr (qW b h),.int .u64 a] []=some (.agg (qe4 b.l a),[]))/\
  (¬Yi b.l h a=0->call cx 230 [.vptr (qW b h),.int .u64 a] []=none/\QC cx 230 [.vptr (qW b h),.int .u64 a]=some (Qd (Yi b.l h a))):=by
 obtain⟨v,r⟩:=qwr b h s a u;refine qf3 _ Tryz.func230 rfl ⟨rfl,rfl⟩ xu xi ?_
 have t:Yi b.l h a=if X1 b.l h a≠0 then X1 b.l h a else if(qfz b.l a:Int)≠qew (qfi h) h.file.l (Qq b.l a) then 9 else 0:=by
  unfold Yi X1;by_cases f:a<h.siz\/b.l.length<=a
  .rw[if_pos f,if_pos f];rfl
  .rw[if_neg f,if_neg f]
 rw[t];by_cases d:X1 b.l h a=0
 .rw[if_neg xU];have w3:=v d
  have k:Qr b.l a=0:=by
   unfold X1 at d;split at d
   .omega
   .exact d
  obtain⟨B,G,F,x,E⟩:=qgA k;have g:(Qq b.l a).length<1000000:=by unfold Qq;rw[vr];omega
  have e:=qwo b h hi (Sl.mk false (Qq b.l a) wE) g;unfold qe4 at w3⊢;rw[qmM k] at w3⊢;simp only at e;generalize Qq b.l a=p at *;generalize qfz b.l a=q at *;generalize qU (qR b.l a) 8=w at *;generalize qU (qR b.l a) 16=y at *;generalize qU (qR b.l a) 24=A at *;generalize qU (qR b.l a) 32=C at *;generalize qU (qR b.l a) 40=z at *;generalize qew (qfi h) h.file.l p=n at *;simp only[qW,zi,List.map] at w3 e⊢;by_cases j:(q:Int)=n
  .subst j;simp[Tryz.f230,w3,e]
  .have i:((q:Int) !=n)=true:=(by simp only[bne_iff_ne,ne_eq];exact j);simp[Tryz.f230,w3,e,j,i,Qd]
 .obtain⟨m,o⟩:=r d;rw[if_pos d];simp only[qW] at m o⊢;generalize X1 b.l h a=c at *;simp[Tryz.f230,m,o,d]
def KI(b:List UInt8)(h:HdP)(a:Nat):Nat:=if a<h.siz\/b.length<=a then 2 else JU b a
def qc0(b:List UInt8)(a:Nat):List D:=qfu (qR b a) (.vsl false (ki (vS (qR b a))) (vS (qR b a)).length)
theorem qu4{b:List UInt8}{a:Nat}(h:JU b a=0):kV b a=0/\48<(qR b a).length/\((qR b a).length-48) % 16=0/\(qR b a).length<=b.length:=by
 unfold JU at h;split at h
 · omega
 rename_i i;have c:ke b a 3 48 16=0:=wC
 unfold ke at c;split at c
 · omega
 rename_i f;have d:kV b a=0:=wC
 have g:=qf7 d;have e:=qez d;split at c
 · omega
 split at c
 · omega
 refine⟨d,wC,wC,wC⟩
theorem q4H{b:List UInt8}{a:Nat}(h:JU b a=0):(qc0 b a).length=21:=by
 obtain⟨e,d,f,c⟩:=qu4 h;unfold qc0 qfu;simp[qf];omega
theorem q4I(b:List UInt8)(a:Nat):idFree.idFreeL (qc0 b a)=true:=by
 have d:idFree.idFreeL (qf (((qR b a).drop 24).take 16))=true:=by
  rw[Qv,qgX];intro x hx;obtain⟨c,_,rfl⟩:=List.mem_map.1 hx;rfl
 unfold qc0 qfu;rw[Qv] at d⊢;simp only[Vc,List.all_append,d,idFree];rfl
theorem qwp[MaxL][TxtC](b:Sl UInt8)(h:HdP)(n:b.l.length<=1000000)(a:Nat)(p:a<18446744073709551616):
  (KI b.l h a=0->call cx 229 [.vptr (qW b h),.int .u64 a] []=some (.agg (qc0 b.l a),[]))/\
  (¬KI b.l h a=0->call cx 229 [.vptr (qW b h),.int .u64 a] []=none/\QC cx 229 [.vptr (qW b h),.int .u64 a]=some (Qd (KI b.l h a))):=by
 obtain⟨y,s⟩:=qjc b h n a p;obtain⟨q,t⟩:=qhD (JU b.l a);have f:=q41 b n a p;unfold qg9 at f;refine qf3 _ Tryz.func229 rfl ⟨rfl,rfl⟩ xu xi ?_;by_cases i:a<h.siz\/b.l.length<=a
 .have k:KI b.l h a=2:=by unfold KI;rw[if_pos i]
  obtain⟨w3,m⟩:=s (fun u=>u i);rw[k];simp only[qW] at w3 m⊢;simp[Tryz.f229,w3,m]
 have k:KI b.l h a=JU b.l a:=by unfold KI;rw[if_neg i]
 have w3:=y i;rw[k];by_cases e:JU b.l a=0
 .have o:=q e;rw[if_pos e] at f;have x:=q4H e;have d:=q4I b.l a;have g:call cx 260 [(.vsl b.nil (qf b.l) b.l.length),.int .u64 a] []=some (.tup [.agg (qc0 b.l a),.int .i64 (JU b.l a:Nat)],[]):=f;rw[e] at g o⊢;have B:call cx 227 [.int .i64 0] []=some (.tup [],[]):=o;have r:call cx 260 [(.vsl b.nil (qf b.l) b.l.length),.int .u64 a] []=some (.tup [.agg (qc0 b.l a),.int .i64 0],[]):=g;generalize qc0 b.l a=C at *;have z:=zsh d;have w:List.take 21 C=C:=qJ wC;have E:List.drop 21 C=[]:=List.drop_of_length_le wC;have j:=zcb d;simp only[qW] at w3⊢;simp[Tryz.f229,w3,r,B,x,d,w,j]
 .obtain⟨v,A⟩:=t e;rw[if_neg e] at f;simp only[qW,V9] at w3 f⊢;generalize JU b.l a=c at *;simp[Tryz.f229,w3,f,v,A,e]
theorem q23(x:List UInt8){k:Nat}(h:k<(vS x).length):(vS x)[k].1<18446744073709551616/\(vS x)[k].2<18446744073709551616:=by
 rw[qhS h];exact⟨qeM _ _,qeM _ _⟩
def Jn(b:List UInt8)(l:List (Nat×Nat)):List Pr:=l.map fun x=>qh2 (Qq b x.1)
def Zr(b:List UInt8)(l:List (Nat×Nat)):List (List UInt8):=l.map fun x=>Qq b x.1
theorem qws{b:List UInt8}{h:HdP}{a:Nat}(c:Yi b h a=0):Qr b a=0:=by
 unfold Yi at c;split at c
 · omega
 split at c
 .omega
 .rename_i d;omega
theorem qnS(l:List (List UInt8)):idFree.idFreeL (J7 l)=true:=by
 rw[Qv,qgX];intro x hx;obtain⟨c,_,rfl⟩:=List.mem_map.1 hx;simp[idFree]
theorem qwl[MaxL][TxtC](b:Sl UInt8)(h:HdP)(hi:h.incompat<4294967296)(hl:b.l.length<=1000000)(a:Nat)(ha:a<18446744073709551616):
  (Qe b.l h a=0->call cx 181 [.vptr (qW b h),.int .u64 a] []=some (.agg (Enc.cells (YW b.l a)),[]))/\
  (¬Qe b.l h a=0->call cx 181 [.vptr (qW b h),.int .u64 a] []=none/\QC cx 181 [.vptr (qW b h),.int .u64 a]=some (Qd (Qe b.l h a))):=by
 obtain⟨w1,w2⟩:=qwp b h hl a ha;have Y:=fun a ha=>qwn b h hi hl a ha;have B:=fun c=>qhD c;refine qf3 _ Tryz.func181 rfl ⟨rfl,rfl⟩ xu xi ?_
 have E:Qe b.l h a=if KI b.l h a≠0 then KI b.l h a else if 16<(vS (qR b.l a)).length then 21
   else if qbT b.l h (vS (qR b.l a))≠0 then qbT b.l h (vS (qR b.l a))
   else if(qU (qR b.l a) 40:Int)≠xrP (Zr b.l (vS (qR b.l a))) 0 then 10 else 0:=by
  unfold Qe KI;rw[qma];by_cases ve:a<h.siz\/b.l.length<=a
  .rw[if_pos ve,if_pos ve];rfl
  .rw[if_neg ve,if_neg ve];rfl
 obtain⟨V,hV⟩:=ql (qW b h);have aN:idFree.idFreeL V=true:=by rw[<-hV];simp[qW,idFree.idFreeL,idFree]
 rw[hV] at w1 w2 Y⊢;rw[E];by_cases h0:KI b.l h a≠0
 .obtain⟨o,m4⟩:=w2 h0;rw[if_pos h0];generalize KI b.l h a=c at *;simp[Tryz.f181,o,m4,h0]
 have zw:KI b.l h a=0:=wC
 rw[if_neg h0];have w3:=w1 zw
 have ay:JU b.l a=0:=by
  unfold KI at zw;split at zw
  .omega
  .exact zw
 obtain⟨f1,f2,f3,f4⟩:=qu4 ay;unfold qc0 qfu at w3
 have hR:Enc.cells (YW b.l a)=.int .u64 (qU (qR b.l a) 0:Nat):: .int .u64 (qU (qR b.l a) 8:Nat):: .int .u64 (qU (qR b.l a) 16:Nat)::(qf (((qR b.l a).drop 24).take 16)++[.vsl false (qt (Jn b.l (vS (qR b.l a)))) (Jn b.l (vS (qR b.l a))).length]):=by
  rw[Rec.cells];unfold YW;simp only;rw[qgu wC];rfl
 rw[hR];have qg:=fun{k} hk=>q23 (qR b.l a) (k:=k) hk;have qS:=fun k hk=>qfk (vS (qR b.l a)) k hk;obtain⟨c0,c1,c2,c3,c4,c5,c6,c7,c8,c9,v,w,u,y,t,r,hB⟩:=qpd (((qR b.l a).drop 24).take 16) wG;have Z:qf [c0,c1,c2,c3,c4,c5,c6,c7,c8,c9,v,w,u,y,t,r]=(qa5 c0 c1 c2 c3 c4 c5 c6 c7 c8 c9 v w u y t r []):=rfl;rw[hB,Z] at w3⊢;have ac:=qgq (qR b.l a);obtain⟨I,hI⟩:=ql (vS (qR b.l a));obtain⟨s0,ah⟩:=ql (qU (qR b.l a) 0);obtain⟨s1,Jr⟩:=ql (qU (qR b.l a) 8);obtain⟨s2,Qg⟩:=ql (qU (qR b.l a) 16);obtain⟨s5,ak⟩:=ql (qU (qR b.l a) 40);rw[hI,ah,Jr,Qg,ak] at w3;rw[hI] at qg qS ac;rw[hI,ah,Jr,Qg,ak];clear hR Z hB E h0 w1 w2;have aO:idFree.idFreeL (ki I)=true:=by rw[Qv];exact qhT I
 by_cases QW:16<I.length
 .have C:(16:Int)<(I.length:Int):=by omega
  rw[if_pos QW];simp[Tryz.f181,w3,C,Qd]
 have C:¬(16:Int)<(I.length:Int):=wC
 rw[if_neg QW];obtain⟨T,hT⟩:=ql (qbT b.l h I);obtain⟨R,z⟩:=ql ((if T≠0 then T else if(s5:Int)≠xrP (Zr b.l I) 0 then 10 else 0));rw[hT,z];simp[Tryz.f181,w3,C]
 refine RunO.loopThen (fun(k:Nat) e H=>k<=I.length/\qi e 0=some (.vptr V)/\qi e 4=some (.optr 0 20 0)/\qi e 5=some (.optr 1 21 0)/\qi e 6=some (.optr 2 20 0)/\qi e 32=some (.vsl false (ki I) I.length)/\qi e 33=some (.int .i64 I.length)/\qi e 34=some (.int .i64 k)/\qbT b.l h (I.drop k)=T/\
  ((k=0/\qi e 7=some (.vsl true [] 0)/\H=[some (.int .u64 0::.int .u64 0::.int .u64 0::qM [.vsl true [] 0]),some (.int .u64 (s0:Nat)::.int .u64 (s1:Nat)::.int .u64 (s2:Nat)::qa5 c0 c1 c2 c3 c4 c5 c6 c7 c8 c9 v w u y t r [.int .u64 (s5:Nat),.vsl false (ki I) I.length]),some (.int .u64 (s0:Nat)::.int .u64 (s1:Nat)::.int .u64 (s2:Nat)::qa5 c0 c1 c2 c3 c4 c5 c6 c7 c8 c9 v w u y t r [.vsl true [] 0])])\/
  (0<k/\qi e 7=some (.osl 3 k 0 k 1)/\H=[some (.int .u64 0::.int .u64 0::.int .u64 0::qM [.vsl true [] 0]),some (.int .u64 (s0:Nat)::.int .u64 (s1:Nat)::.int .u64 (s2:Nat)::qa5 c0 c1 c2 c3 c4 c5 c6 c7 c8 c9 v w u y t r [.int .u64 (s5:Nat),.vsl false (ki I) I.length]),some (.int .u64 (s0:Nat)::.int .u64 (s1:Nat)::.int .u64 (s2:Nat)::qa5 c0 c1 c2 c3 c4 c5 c6 c7 c8 c9 v w u y t r [.osl 4 (2*k) 0 k 2]),some (J7 (Zr b.l (I.take k))),some (qt (Jn b.l (I.take k)))]))) (fun k=>I.length-k) 0 ?_ ?_
 .exact⟨wC,wE,wE,wE,wE,wE,wE,wE,by simpa using hT,.inl ⟨rfl,wE,wE⟩⟩
 rintro k e H ⟨hk,L,O,M,K,i,d,f,m,hH⟩;by_cases kA:k<I.length
 .have n:=zn kA;have hw:=qz ((k:Int)+1) ((k+1:Nat):Int);have g:=qS k kA;rw[Nat.mul_comm] at g;have q:=qS k kA;obtain⟨l1,l2⟩:=qg kA
  have G:Zr b.l (I.take (k+1))=Zr b.l (I.take k)++[Qq b.l (I[k]).1]:=by
   unfold Zr;rw[Vs kA,List.map_append];rfl
  have J:Jn b.l (I.take (k+1))=Jn b.l (I.take k)++[qh2 (Qq b.l (I[k]).1)]:=by
   unfold Jn;rw[Vs kA,List.map_append];rfl
  rw[zZ kA,qbT] at m;obtain⟨s,aG⟩:=ql ((I[k]).1);obtain⟨y2,av⟩:=ql ((I[k]).2);rw[aG] at m l1 g q G J;rw[av] at m l2 g q;obtain⟨p1,p2⟩:=Y s l1;by_cases hp:Yi b.l h s≠0
  .obtain⟨o,m4⟩:=p2 hp;rw[if_pos hp] at m;subst m;rw[if_pos hp] at z;subst z;generalize Yi b.l h s=c at *;rcases hH with⟨U,j,rfl⟩|⟨U,j,rfl⟩
   .simp[L,O,M,K,j,i,d,f,n,g,o,m4,hp]
   .simp[L,O,M,K,j,i,d,f,n,g,o,m4,hp]
  have aj:Yi b.l h s=0:=wC
  rw[if_neg hp] at m;have o:=p1 aj;have vF:=qws aj;obtain⟨q1,q2,q3,q4,q5⟩:=qgA vF;have ao:(Qq b.l s).length<=1000000:=by unfold Qq;rw[vr];omega
  have N:=q3J (Sl.mk false (Qq b.l s) wE) ao;simp only at N;unfold qe4 at o;rw[qmM vF] at o;simp only[zi,List.map] at o;clear p1 p2 q1 q2 q3 q4 q5;obtain⟨x0,au⟩:=ql (qfz b.l s);obtain⟨P,hP⟩:=ql (Qq b.l s);rw[au] at o m;rw[hP] at o m N G J ao;generalize qU (qR b.l s) 8=x1 at *;generalize qU (qR b.l s) 16=x2 at *;generalize qU (qR b.l s) 24=x3 at *;generalize qU (qR b.l s) 32=x4 at *;generalize qU (qR b.l s) 40=x5 at *;by_cases hh:x0≠y2
  .rw[if_pos hh] at m;subst m;rw[if_pos wC] at z;subst z;have Y8:((x0:Int) !=(y2:Int))=true:=VJ;have aM:¬x0=y2:=hh;have aL:¬(x0:Int)=(y2:Int):=wC;rcases hH with⟨U,j,rfl⟩|⟨U,j,rfl⟩
   .simp[L,O,M,K,j,i,d,f,n,g,o,Y8,Qd]
   .simp[L,O,M,K,j,i,d,f,n,g,o,Y8,Qd]
  rw[if_neg hh] at m;have aq:x0=y2:=wC
  subst aq;by_cases hs:Vt P≠0
  .obtain⟨m5,m6⟩:=(B (Vt P)).2 hs;rw[if_pos hs] at m;subst m;rw[if_pos hs] at z;subst z;unfold qhl at N;rw[if_neg hs] at N;generalize Vt P=c at *;rcases hH with⟨U,j,rfl⟩|⟨U,j,rfl⟩
   .simp[L,O,M,K,j,i,d,f,n,g,o,N,m5,m6,hs]
   .simp[L,O,M,K,j,i,d,f,n,g,o,N,m5,m6,hs]
  have Yx:Vt P=0:=wC
  rw[if_neg hs] at m;have m5:call cx 227 [.int .i64 0] []=some (.tup [],[]):=(B 0).1 rfl;unfold qhl at N;rw[if_pos Yx,Yx] at N
  have S:qt (Jn b.l (I.take (k+1)))=qt (Jn b.l (I.take k))++[.str (QA P),.str (qaI P)]:=by
   rw[J];simp[qt,qh2,Pr.cells]
  have W:J7 (Zr b.l (I.take (k+1)))=J7 (Zr b.l (I.take k))++[.vsl false (qf P) P.length]:=by
   rw[G];simp[J7]
  have ae:(qt (Jn b.l (I.take k))).length=2*k:=by
   rw[Pr.el];simp[Jn];omega
  have Q:(J7 (Zr b.l (I.take k))).length=k:=by
   simp[J7,Zr];omega
  have aa:=qnS (Zr b.l (I.take k));have ag:idFree.idFreeL (qt (Jn b.l (I.take k)))=true:=wE
  have aI:(k+1)*32<=140737488355328:=wC
  have az:(k+1)*24<=140737488355328:=wC
  have aJ:k+1<=140737488355328:=wC
  have aE:k*2=2*k:=wC
  rcases hH with⟨U,j,rfl⟩|⟨U,j,rfl⟩
  .have aB:qt (Jn b.l (I.take k))=[]:=List.length_eq_zero_iff.1 wC;have aA:J7 (Zr b.l (I.take k))=[]:=List.length_eq_zero_iff.1 wC;rw[aB,QY] at S;rw[aA,QY] at W;simp[L,O,M,K,j,i,d,f,n,g,o,N,m5,hw,qF];have e1:k+1=1:=wC;rw[e1] at m S W;exact⟨1,wC,wC,wC,m,wC,rfl,⟨rfl,rfl⟩,W.symm,S.symm⟩
  .generalize qt (Jn b.l (I.take k))=F at *;generalize J7 (Zr b.l (I.take k))=A at *;have qQ:¬k=0:=wC;simp[L,O,M,K,j,i,d,f,n,q,o,N,m5,hw,qF,ae,Q,aa,ag,aI,az,aJ,aE];exact⟨k+1,wC,wC,wC,m,wC,wC,⟨wC,rfl⟩,W.symm,S.symm⟩
 .have Qi:k=I.length:=by omega
  subst Qi;have n:¬(I.length:Int)<(I.length:Int):=wC
  have kM:0<I.length:=wC
  rcases hH with⟨U,j,rfl⟩|⟨U,j,rfl⟩
  .omega
  rw[List.drop_of_length_le (qA _),qbT] at m;subst m;rw[if_neg wE] at z;rw[List.take_length]
  have ax:∀p,p∈Zr b.l I->p.length<=1000000:=by
   intro p hp;obtain⟨x,_,rfl⟩:=List.mem_map.1 hp;unfold Qq qR;simp only[vr,jj];omega
  have aC:(Zr b.l I).length=I.length:=by simp[Zr]
  have hx:=q4q (Zr b.l I) false wE wC ax;have aa:=qnS (Zr b.l I);have Q:(J7 (Zr b.l I)).length=I.length:=by simp[J7,Zr]
  have ai:=zfb aa
  have ae:(qt (Jn b.l I)).length=2*I.length:=by
   rw[Pr.el];simp[Jn];omega
  have ag:idFree.idFreeL (qt (Jn b.l I))=true:=wE
  have aw:(Jn b.l I).length=I.length:=by simp[Jn]
  rw[aw];rw[aC] at hx;generalize qt (Jn b.l I)=F at *;generalize J7 (Zr b.l I)=A at *;generalize xrP (Zr b.l I) 0=X at *;have am:List.take I.length A=A:=qJ wC;have aH:List.take (I.length*2) F=F:=qJ wC;have aF:I.length*2<=2*I.length:=wC
  have aK:¬I.length=0:=wC
  by_cases hX:(s5:Int)=X
  .rw[if_neg (by simp[hX])] at z;subst z;simp[L,O,M,K,j,i,d,f,hx,hX,ae,Q,ai,ag,am,aH,aF]
  .rw[if_pos hX] at z;subst z;have aD:((s5:Int) !=X)=true:=(by simp only[bne_iff_ne,ne_eq];exact hX);simp[L,O,M,K,j,i,d,f,hx,aD,Q,ai,am,Qd]
theorem qwq[MaxL](b:Sl UInt8)(h:HdP)(c:b.l.length<=1000000):call cx 177 [.vptr (qW b h)] []=some (.int .u64 b.l.length,[]):=by
 refine qC Tryz.func177 rfl ⟨rfl,rfl⟩ ?_;have a:=zg (b.l.length:Int) (b.l.length:Int);simp[Tryz.f177,qW,a]
theorem qmh[MaxL](b:Sl UInt8)(h:HdP):call cx 38 [.vptr (qW b h)] []=some (.agg (Enc.cells h),[]):=by
 refine qC Tryz.func38 rfl ⟨rfl,rfl⟩ ?_;simp[Tryz.f38,qW]
theorem qzQ[MaxL](b:Sl UInt8)(h:HdP)(e:b.l.length<=1000000)(a:Nat):call cx 118 [.vptr (qW b h),.int .u64 a] []=some (.bool (Ym b.l a),[]):=by
 have c:=qwq b h e;refine qC Tryz.func118 rfl ⟨rfl,rfl⟩ ?_;simp only[qW] at c⊢;unfold Ym;by_cases d:a=0
 .subst d;simp[Tryz.f118]
 .have f:¬(a:Int)=0:=by omega
  simp[Tryz.f118,c,d]
def X8(d:D)(a b:Nat):List D:=[d,.int .u64 (a:Nat),.int .u64 (b:Nat)]
theorem q25[MaxL]{H:qe}{q:Nat}{d:D}{a b:Nat}{out:List Nat}{L:List Nat}(Q:qd H q=some (X8 d a b))(C:RowA H 1 d (zi out) L)(N:q∉L)(x:Nat)(V:out.length<=1000000):
  ∃T,call cx 120 [.optr q 3 0,.int .u64 (x:Nat)] H=some (.int .i64 (if 0<out.length/\x<=out.getLastD 0 then 13 else 0:Nat),T)/\Ext (q::L) H T/\((0<out.length/\x<=out.getLastD 0)->T=H)/\
   (¬(0<out.length/\x<=out.getLastD 0)->∃d' o,qd T q=some (X8 d' a b)/\RowA T 1 d' (zi (out++[x])) o/\q∉o/\NewL (q::L) (q::o) H.length):=by
 have k:=Q;simp only[X8] at k;obtain⟨E,v⟩:=ql (qr H [.int .u64 (x:Nat)]);have u:=zJ v;have Y:qd E H.length=some [.int .u64 (x:Nat)]:=by rw[<-v,zo]
 have r1:RowA E 1 d (zi out) L:=C.ext u fun _ _=>by simp
 obtain⟨d',l,J,p,w,R,n2⟩:=r1.append (P:=Tryz.prog) (st:=98) (xt:=98) (e:=38) (x:=.osl H.length 1 0 1 1) (xs:=[.int .u64 (x:Nat)]) (m:=1) wE wE (by simp[-qd,Y]) wE wC wE wC wM wM;have ae:q<H.length:=qx Q;have X:qd E q=some [d,.int .u64 (a:Nat),.int .u64 (b:Nat)]:=u.get k wE;have s:qd l q=some [d,.int .u64 (a:Nat),.int .u64 (b:Nat)]:=R.get X N;obtain⟨r,n,hv,A,W,aa⟩:=w.own wE;subst hv;obtain⟨T,g⟩:=ql (qn l q [.osl r (zi out++[D.int .u64 (x:Nat)]).length 0 n 1,.int .u64 (a:Nat),.int .u64 (b:Nat)]);have G:r<l.length:=qx W
 have j:q∉J:=fun hc=>by
  rcases n2 q hc with h|h
  .exact N h
  .have:=u.len;omega
 have c:∀f:call cx 120 [.optr q 3 0,.int .u64 (x:Nat)] H=some (.int .i64 0,T),¬(0<out.length/\x<=out.getLastD 0)->∃T,call cx 120 [.optr q 3 0,.int .u64 (x:Nat)] H=some (.int .i64 (if 0<out.length/\x<=out.getLastD 0 then 13 else 0:Nat),T)/\Ext (q::L) H T/\((0<out.length/\x<=out.getLastD 0)->T=H)/\
   (¬(0<out.length/\x<=out.getLastD 0)->∃d' o,qd T q=some (X8 d' a b)/\RowA T 1 d' (zi (out++[x])) o/\q∉o/\NewL (q::L) (q::o) H.length):=by
  intro f hc;refine⟨T,by rw[if_neg hc];exact f,?_,fun h=>absurd h hc,fun _=>⟨.osl r (zi out++[D.int .u64 (x:Nat)]).length 0 n 1,J,?_,?_,j,?_⟩⟩
  .refine(u.mono (M:=q::L) fun i hi=>wV).trans (M:=q::L) ?_ (NewL.refl _ _);refine(R.mono (M:=q::L) fun i hi=>vq _ hi).trans (M:=q::L) ?_ (NewL.refl _ _);exact(g▸Ext.set l q _:Ext [q] l T).mono fun i hi=>by rw[List.mem_singleton.1 hi];simp
  .rw[<-g];exact zk (qx s)
  .rw[qkk];exact w.ext (g▸Ext.set l q _:Ext [q] l T) fun i hi hc=>j (List.mem_singleton.1 hc▸hi)
  .intro i hi;rcases List.mem_cons.1 hi with rfl|hi
   .exact .inl wE
   .rcases n2 i hi with h|h
    .exact .inl xG
    .exact .inr (zI u.len h)
 rcases Nat.eq_zero_or_pos out.length with t|t
 .have vv:out=[]:=List.length_eq_zero_iff.1 t;subst vv;refine c ?_ wE;refine jy Tryz.func120 rfl ⟨rfl,rfl⟩ ?_;rcases C with⟨rfl,ac,rfl⟩|⟨Z,F,rfl,I,y,rfl⟩
  .simp only[qoz,QY,List.length_singleton] at p g;simp[-qd,-qn,-qr,-qG,Tryz.f120,k,v,p,s,g,G]
  .have hz:F=0:=(by simp at I;omega);subst hz;simp only[qoz,QY,List.length_singleton,kf] at p g k s;simp[-qd,-qn,-qr,-qG,Tryz.f120,k,v,p,s,g,G]
 .obtain⟨Z,F,rfl,I,y,rfl⟩:=C.own (by intro h;have h':=congrArg List.length h;rw[qaU,kf] at h';omega);have ZT:F=out.length:=by simp at I;omega
  subst ZT;have c1:(0:Int)<(out.length:Int):=wC
  have S:=qz ((out.length:Int)-1) ((out.length:Int)-1)
  have K:(zi out).drop (out.length-1)=[.int .u64 (out.getLastD 0:Nat)]:=by
   have O:out.length-1<out.length:=wC;rw[zZ (by simpa using O),List.drop_of_length_le wG]
   have:out.getLastD 0=out[out.length-1]:=by
    rw[List.getLastD_eq_getLast?,List.getLast?_eq_getElem?,qN O];rfl
   rw[this];simp[zi]
  have U:(1:Int)<=(out.length:Int)/\(out.length:Int)-1<(out.length:Int):=wC
  simp only[zp,qaU,List.length_singleton] at p g k s;have n1:((out.length:Int)-1).toNat=out.length-1:=wC
  have c2:(0:Int)<=(out.length:Int)-1:=wC
  by_cases hc:x<=out.getLastD 0
  .refine⟨H,?_,Ext.refl _ _,fun _=>rfl,fun h=>absurd ⟨t,hc⟩ h⟩;rw[if_pos ⟨t,hc⟩];refine jy Tryz.func120 rfl ⟨rfl,rfl⟩ ?_;have B:(x:Int)<=(out.getLastD 0:Nat):=wC;generalize out.getLastD 0=z at *;simp[-qd,-qn,-qr,-qG,Tryz.f120,k,y,S,K,n1,t,B,U]
  .refine c ?_ fun h=>hc h.2;refine jy Tryz.func120 rfl ⟨rfl,rfl⟩ ?_;have B:¬(x:Int)<=(out.getLastD 0:Nat):=wC;generalize out.getLastD 0=z at *;simp[-qd,-qn,-qr,-qG,Tryz.f120,k,y,S,K,n1,t,B,v,p,s,g,G,U]
def qfA(b:List UInt8)(sz a:Nat):Nat:=if Q7 b sz a=0 then(kp b a).headD 0 else 0
def qdN(b:List UInt8)(sz a:Nat):List Nat:=if Q7 b sz a=0 then(kp b a).tail else[]
theorem q6s(b:List UInt8)(sz a:Nat):qfB b sz a=.agg [.int .u64 (qfA b sz a:Nat),.vsl (decide (¬Q7 b sz a=0)) (zi (qdN b sz a)) (qdN b sz a).length]:=by
 unfold qfB qfA qdN;by_cases h:Q7 b sz a=0
 .rw[if_pos h,if_pos h,if_pos h];simp[h,qgR]
 .rw[if_neg h,if_neg h,if_neg h];simp[h]
theorem q0O[MaxL]{H:qe}{q:Nat}{d:D}{a c:Nat}(t:qd H q=some (X8 d a c))(b:Sl UInt8)(h:HdP)(G:b.l.length<=1000000)(N:a<18446744073709551616)(J:c<a):
  ∃T,call cx 119 [.optr q 3 0,.vptr (qW b h)] H=some (.tup [.vsl (decide (¬Q7 b.l h.siz a=0)) (zi (qdN b.l h.siz a)) (qdN b.l h.siz a).length,.int .i64 (Q7 b.l h.siz a:Nat)],T)/\qd T q=some (X8 d (qfA b.l h.siz a) a)/\Ext [q] H T:=by
 have s:=qwt b h G a N;rw[q6s] at s;generalize decide (¬Q7 b.l h.siz a=0)=o at *;generalize qdN b.l h.siz a=l at *;generalize qfA b.l h.siz a=x at *;generalize Q7 b.l h.siz a=C at *;have r:=t;simp only[X8] at r;have f:¬(a:Int)<=(c:Int):=wC
 obtain⟨p,k⟩:=ql (H.length);obtain⟨z,u⟩:=ql (qr H [.int .u64 0,.vsl true [] 0]);have w:=zJ u;have K:=w.get r wE;have e:qd z p=some [.int .u64 0,.vsl true [] 0]:=by rw[<-u,<-k,zo]
 obtain⟨j,n⟩:=ql (qn z p [.int .u64 (x:Nat),.vsl o (zi l) l.length]);have F:q<p:=k▸qx t;have y:Ext [] H j:=⟨by rw[<-n,kK];exact w.len,fun i hi _=>by rw[<-n,zW wC];exact w.out i hi wE⟩;have A:=y.get r wE;have B:qd j p=some [.int .u64 (x:Nat),.vsl o (zi l) l.length]:=by rw[<-n];exact zk (qx e)
 obtain⟨g,e2⟩:=ql (qn j q [d,.int .u64 (x:Nat),.int .u64 (c:Nat)]);have I:q<p:=k▸qx t;have E:=kc e2 A;have L:qd g p=some [.int .u64 (x:Nat),.vsl o (zi l) l.length]:=by rw[<-e2,zW wC];exact B
 obtain⟨T,m⟩:=ql (qn g q [d,.int .u64 (x:Nat),.int .u64 (a:Nat)]);have v:qd T p=some [.int .u64 (x:Nat),.vsl o (zi l) l.length]:=by rw[<-m,zW wC];exact L
 refine⟨T,jy Tryz.func119 rfl ⟨rfl,rfl⟩ ?_,?_,?_⟩
 .simp only[qW] at s⊢;simp[-qd,-qn,-qr,Tryz.f119,r,f,s,k,u,e,n,A,B,e2,E,m,v]
 .rw[<-m];exact zk (qx E)
 .refine(y.mono (M:=[q]) fun i hi=>wV).trans (M:=[q]) ?_ (NewL.refl _ _);exact(e2▸Ext.set j q _:Ext [q] j g).trans (m▸Ext.set g q _:Ext [q] g T) (NewL.refl _ _)
def Vf:List D:=(.int .u64 0::.int .u64 0::.int .u64 0::qM [.vsl true [] 0])
theorem qwm[MaxL][TxtC](b:Sl UInt8)(h:HdP)(hi:h.incompat<4294967296)(n:b.l.length<=1000000)(a:Nat)(m:a<18446744073709551616):
  (Qe b.l h a=0->call cx 180 [.optr 0 1 0,.optr 1 1 0,.optr 2 20 0] [some [.vptr (qW b h)],some [.int .u64 a],some Vf]=
   some (.tup [],[some [.vptr (qW b h)],some [.int .u64 a],some (Enc.cells (YW b.l a))]))/\
  (¬Qe b.l h a=0->call cx 180 [.optr 0 1 0,.optr 1 1 0,.optr 2 20 0] [some [.vptr (qW b h)],some [.int .u64 a],some Vf]=none/\
   ∃L,YY cx 180 [.optr 0 1 0,.optr 1 1 0,.optr 2 20 0] [some [.vptr (qW b h)],some [.int .u64 a],some Vf]=
   some (Qd (Qe b.l h a),[some [.vptr (qW b h)],some [.int .u64 a],some Vf]++L)):=by
 obtain⟨e,d⟩:=qwl b h hi n a m;obtain⟨V,g⟩:=ql (qW b h);have j:idFree.idFreeL V=true:=by rw[<-g];simp[qW,idFree.idFreeL,idFree]
 rw[g] at e d⊢;by_cases c:Qe b.l h a=0
 .refine⟨fun _=>?_,fun q=>absurd c q⟩;have w3:=e c;refine qC Tryz.func180 rfl ⟨rfl,rfl⟩ ?_;simp[Tryz.f180,w3,Vf]
 .refine⟨fun h=>absurd h c,fun _=>?_⟩;obtain⟨k,o⟩:=d c;have key:=qlG (X:=cx) (f:=180) (H:=[some [.vptr V],some [.int .u64 a],some Vf]) (args:=[.optr 0 1 0,.optr 1 1 0,.optr 2 20 0]) (r:=(.tup [],[])) (p:=(Qd (Qe b.l h a),[some [.vptr V],some [.int .u64 a],some Vf])) False Tryz.func180 rfl ⟨rfl,rfl⟩ ?_
  .obtain⟨i,s⟩:=key.2 id;exact⟨i,[],by rw[Jd];exact s⟩
  .simp[Tryz.f180,k,o]
def ZP(b:List UInt8)(h:HdP)(a:Nat):List D:=if Qe b h a=0 then Enc.cells (YW b a) else Vf
theorem qjJ(b:List UInt8)(h:HdP)(a:Nat):(ZP b h a).length=20:=by
 unfold ZP;split
 .simp
 .rfl
theorem qjK(b:List UInt8)(h:HdP)(a:Nat):idFree.idFreeL (ZP b h a)=true:=by
 unfold ZP;split
 .simp
 .rfl
theorem qwk[MaxL](b:Sl UInt8)(h:HdP)(hi:h.incompat<4294967296)(u:b.l.length<=1000000)(a:Nat)(s:a<18446744073709551616):
  call cx 124 [.vptr (qW b h),.int .u64 a] []=some (.tup [.agg (ZP b.l h a),.int .i64 (Qe b.l h a:Nat)],[]):=by
 obtain⟨o,w⟩:=@qwm _ qbC b h hi u a s
 have i:qb3 (@cx _ qbC) 333 [.fn 180 [.optr 0 1 0,.optr 1 1 0,.optr 2 20 0]] [some [.vptr (qW b h)],some [.int .u64 a],some Vf]=
   some (.int .i64 (Qe b.l h a:Nat),[some [.vptr (qW b h)],some [.int .u64 a],some (ZP b.l h a)]):=by
  unfold ZP;by_cases g:Qe b.l h a=0
  .rw[if_pos g,g];exact quQ rfl (o g)
  .obtain⟨n,L,r⟩:=w g;rw[if_neg g,quP rfl n r];simp[Qb,qbO,qW,Vf]
 have d:=qe8 (X:=cx) (f:=179) (show cx.con 179 [.fn 180 [.optr 0 1 0,.optr 1 1 0,.optr 2 20 0]] [some [.vptr (qW b h)],some [.int .u64 a],some Vf]=_ from i);have j:=qjJ b.l h a;have e:=qjK b.l h a;generalize ZP b.l h a=R at *;generalize Qe b.l h a=c at *;obtain⟨V,m⟩:=ql (qW b h);have p:idFree.idFreeL V=true:=by rw[<-m];simp[qW,idFree.idFreeL,idFree]
 rw[m] at d⊢;have v:=zsh e;have q:List.take 20 R=R:=qJ wC;have t:List.drop 20 R=[]:=List.drop_of_length_le wC;have k:=zcb e;simp only[Vf] at d;refine qC Tryz.func124 rfl ⟨rfl,rfl⟩ ?_;simp[Tryz.f124,d,j,e,q,t,k]
def VU(l:List Nat):D:=.vsl (decide (l=[])) (zi l) l.length
def XU(b:List UInt8)(h:HdP):List Nat×Nat:=qa1 b h.siz h.ents (b.length+1) [] h.arr 0
theorem q3l(h:HdP):(Enc.cells h).drop 78=.int .u64 (h.arr:Nat)::(Enc.cells h).drop 79:=h.dn (i:=11) wC
theorem q3k(h:HdP):(Enc.cells h).drop 75=.int .u64 (h.ents:Nat)::(Enc.cells h).drop 76:=h.dn (i:=8) wC
theorem qf9{l r:List D}{i:Nat}{x:D}(h:l.drop i=x::r)(hi:i<l.length):l[i]=x:=by
 have:=congrArg (fun l=>l[0]?) h;simp only[kX,Nat.add_zero,kY] at this;exact(List.getElem?_eq_some_iff.1 this).2
structure LstI (b:List UInt8) (H:qe) (out:List Nat) (a c:Nat):Prop where
 ex:∃d L,qd H 0=some (X8 d a c)/\RowA H 1 d (zi out) L/\0∉L/\(out=[]->d=.vsl true [] 0)
 len:out.length<=out.getLastD 0
 last:out.getLastD 0<=b.length
theorem qks{H:qe}{d:D}{L:List Nat}{out:List Nat}(a:RowA H 1 d (zi out) L)(e:out=[]->d=.vsl true [] 0)(C:Int):Qb true 0 H (.tup [d,.int .i64 C])=some (.tup [VU out,.int .i64 C],[]):=by
 by_cases b:out=[]
 .rw[e b,b];simp[VU,Qb,qbO]
 .obtain⟨r,n,rfl,g,f,rfl⟩:=a.own (by intro h;have c:=congrArg List.length h;rw[qaU,kf] at c;exact b (List.length_eq_zero_iff.1 c));have:n=out.length:=by rw[qaU] at g;omega
  subst this;simp[-qd,VU,Qb,qbO,f,b]
theorem q4F[MaxL](b:Sl UInt8)(h:HdP)(hl:b.l.length<=1000000)(he:h.ents<18446744073709551616)(ha:h.arr<18446744073709551616):
  call cx 68 [.vptr (qW b h)] []=some (.tup [VU (XU b.l h).1,.int .i64 ((XU b.l h).2:Nat)],[]):=by
 have ah:=qmh b h;have jc:=qzQ b h hl;obtain⟨R,hR⟩:=ql (XU b.l h);obtain⟨most,hm⟩:=ql (h.ents);rw[hR];refine qC Tryz.func68 rfl ⟨rfl,rfl⟩ ?_;have h1:=qf9 (q3l h) wE;have h2:=qf9 (q3k h) wE;rw[hm] at h2 he;have av:qa1 b.l h.siz most (b.l.length+1) [] h.arr 0=R:=by rw[<-hm];exact hR
 obtain⟨V,hV⟩:=ql (qW b h);rw[hV] at ah jc⊢;have Q:=fun{H:qe}{q:Nat}{d:D}{a c:Nat}(O:qd H q=some (X8 d a c))=>q0O O b h hl;rw[hV] at Q;simp[Tryz.f68,ah,h1,h2];refine Run.loopThen (fun(n:Nat) e H=>∃(out:List Nat)(a c:Nat),LstI b.l H out a c/\a<18446744073709551616/\c<=b.l.length/\b.l.length<n+c/\qa1 b.l h.siz most n out a c=R/\qi e 0=some (.vptr V)/\qi e 4=some (.int .u64 (most:Nat))/\qi e 5=some (.optr 0 3 0)) (fun n=>n) (b.l.length+1) ?_ ?_
 .refine⟨[],h.arr,0,⟨⟨.vsl true [] 0,[],?_,RowA.nil _ _,wE,fun _=>rfl⟩,wE,wE⟩,ha,wC,wC,av,?_⟩
  .simp[X8,qd]
  .simp
 rintro n e H ⟨out,a,c,v,X,qE,az,j,z,B,A⟩;obtain⟨d,L,O,g,G,qY⟩:=v.ex;have t:=O;simp only[X8] at t;have ai:out.length<=b.l.length:=zI v.len v.last
 have M:qK Tryz.prog 98 d=some (.int .i64 out.length):=by
  rcases g with⟨rfl,Y,rfl⟩|⟨r,n,rfl,h2,h3,rfl⟩
  .have:out.length=0:=(by have:=congrArg List.length Y;rw[qaU] at this;exact this);rw[this];simp
  .have:n=out.length:=(by rw[qaU] at h2;omega);subst this;simp
 have F:=zg (out.length:Int) (out.length:Int);obtain⟨n,rfl⟩:∃m,n=m+1:=⟨n-1,wC⟩;rw[qa1] at j;have s:=qks g qY;by_cases c1:most<=out.length
 .rw[if_pos c1] at j;have p:¬(out.length:Int)<(most:Int):=by omega
  subst j;simp[-qd,-qK,z,B,A,t,M,F,p,-Qb];exact s _
 rw[if_neg c1] at j;have p:(out.length:Int)<(most:Int):=wC
 have w:=jc a;by_cases c2:Ym b.l a=true
 .rw[if_pos c2] at j;rw[c2] at w;subst j;simp[-qd,-qK,z,B,A,t,M,F,p,w,-Qb];exact s _
 rw[if_neg c2] at j;have ae:Ym b.l a=false:=by simpa using c2
 rw[ae] at w;by_cases c3:a<=c
 .rw[if_pos c3] at j;subst j;have aq:(a:Int)<=(c:Int):=by omega
  have X:call cx 119 [.optr 0 3 0,.vptr V] H=some (.tup [.vsl true [] 0,.int .i64 12],H):=by
   refine jy Tryz.func119 rfl ⟨rfl,rfl⟩ ?_;simp[-qd,Tryz.f119,t,aq]
  simp[-qd,-qK,z,B,A,t,M,F,p,w,X,-Qb];exact s _
 rw[if_neg c3] at j;obtain⟨T,o,K,xT⟩:=Q O X wC;have J:=K;simp only[X8] at J;have Z:RowA T 1 d (zi out) L:=g.ext xT fun i hi hc=>G (List.mem_singleton.1 hc▸hi);have S:=qks Z qY;by_cases c4:Q7 b.l h.siz a≠0
 .rw[if_pos c4] at j;have u:(((Q7 b.l h.siz a:Nat):Int) !=0)=true:=VJ;subst j;generalize Q7 b.l h.siz a=C at *;generalize decide (¬C=0)=nl at *;simp[-qd,-qK,z,B,A,t,M,F,p,w,o,u,J,-Qb];exact S _
 rw[if_neg c4] at j;have u:Q7 b.l h.siz a=0:=wC
 have hx:qfA b.l h.siz a=(kp b.l a).headD 0:=by unfold qfA;rw[if_pos u]
 have hL:qdN b.l h.siz a=(kp b.l a).tail:=by unfold qdN;rw[if_pos u]
 have zG:decide (¬Q7 b.l h.siz a=0)=false:=by simp[u]
 rw[hL,zG,u] at o;rw[hx] at K
 have U:(kp b.l a).headD 0<18446744073709551616:=by
  cases hh:kp b.l a with
  |nil=>simp
  |cons y r=>exact qos (l:=qR b.l a) (by show y∈kp b.l a;rw[hh];simp)
 have JK:∀y,y∈(kp b.l a).tail->y<18446744073709551616:=fun y hy=>qos (l:=qR b.l a) (List.mem_of_mem_tail hy);obtain⟨x,au⟩:=ql ((kp b.l a).headD 0);obtain⟨l,ag⟩:=ql ((kp b.l a).tail);obtain⟨IR,aj⟩:=ql (KV b.l most l out);rw[au] at K U j;rw[ag] at o JK j;rw[aj] at j;have P:call cx 119 [.optr 0 3 0,.vptr V] H=some (.tup [.vsl false (zi l) l.length,.int .i64 0],T):=o
 have Zj:a<b.l.length:=by
  unfold Ym at ae;simp at ae;omega
 have aw:l.length<=1000000:=by
  have h0:(kp b.l a).length<=1000000:=by
   unfold kp;rw[qdc];have:(qR b.l a).length<=b.l.length:=(by unfold qR;simp;omega);omega
  rw[<-ag,List.length_tail];omega
 have ak:qK Tryz.prog 98 (.vsl false (zi l) l.length)=some (.int .i64 l.length):=wE
 simp[-qd,-qK,z,B,A,t,M,ak,F,p,w,P,-Qb];refine Run.loopThen (fun(k:Nat) e H=>∃(out:List Nat),LstI b.l H out x a/\k<=l.length/\KV b.l most (l.drop k) out=IR/\qi e 0=some (.vptr V)/\qi e 4=some (.int .u64 (most:Nat))/\qi e 5=some (.optr 0 3 0)/\qi e 40=some (.vsl false (zi l) l.length)/\qi e 41=some (.int .i64 l.length)/\qi e 42=some (.int .i64 k)) (fun k=>l.length-k) 0 ?_ ?_
 .refine⟨out,⟨⟨d,L,K,Z,G,qY⟩,v.len,v.last⟩,wC,aj,?_⟩;simp
 clear O g G qY t M F ai p v w o P K J Z s S xT z B A c1;rintro k e H ⟨f,v,hk,hD,z,B,A,I,E,N⟩;obtain⟨d,L,O,g,G,qY⟩:=v.ex;have t:=O;simp only[X8] at t;have ai:f.length<=b.l.length:=zI v.len v.last
 have M:qK Tryz.prog 98 d=some (.int .i64 f.length):=by
  rcases g with⟨rfl,Y,rfl⟩|⟨r,n,rfl,h2,h3,rfl⟩
  .have:f.length=0:=(by have:=congrArg List.length Y;rw[qaU] at this;exact this);rw[this];simp
  .have:n=f.length:=(by rw[qaU] at h2;omega);subst this;simp
 have F:=zg (f.length:Int) (f.length:Int);have s:=qks g qY;by_cases qg:k<l.length
 rotate_left
 .have qo:=zq qg;rw[Jc wC,KV] at hD;subst hD;simp[-qd,-qK,z,B,A,I,E,N,qo,-Qb];exact⟨n,wC,f,x,a,v,U,wC,wC,j⟩
 have qo:=zn qg
 have qS:(zi l).drop k=.int .u64 (l[k]:Nat)::zi (l.drop (k+1)):=by
  unfold zi;rw[<-List.map_drop,zZ qg];rfl
 have jW:=qz ((k:Int)+1) ((k+1:Nat):Int);have kA:=JK _ (vQ qg);rw[zZ qg,KV] at hD;generalize l[k]=y at *;have w:=jc y;by_cases d1:f.length=most
 .rw[if_pos d1] at hD;subst hD;subst d1;simp[-qd,-qK,z,B,A,I,E,N,qo,qS,t,M,F,-Qb];exact⟨n,wC,f,x,a,v,U,wC,wC,j⟩
 rw[if_neg d1] at hD;have ac:¬(f.length:Int)=(most:Int):=wC
 by_cases d2:Ym b.l y=true
 .rw[if_pos d2] at hD;rw[d2] at w;subst hD;subst j;simp[-qd,-qK,z,B,A,I,E,N,qo,qS,t,M,F,ac,w,-Qb];exact s _
 rw[if_neg d2] at hD;have aa:Ym b.l y=false:=by simpa using d2
 rw[aa] at w;obtain⟨T2,vM,ax,W,am⟩:=q25 O g G y wC;by_cases d3:0<f.length/\y<=f.getLastD 0
 .rw[if_pos d3] at hD vM;subst hD;subst j;have W:=W d3;subst W;simp[-qd,-qK,z,B,A,I,E,N,qo,qS,t,M,F,ac,w,vM,-Qb];exact s _
 .rw[if_neg d3] at hD vM;obtain⟨d',L',vd,vB,jR,ay⟩:=am d3
  have hy:1<=y/\y<b.l.length:=by
   unfold Ym at aa;simp at aa;omega
  have JO:(f++[y]).getLastD 0=y:=wE
  have ao:LstI b.l T2 (f++[y]) x a:=⟨⟨d',L',vd,vB,jR,wE⟩,by rw[JO,zp,List.length_singleton];have:=v.len;omega,by rw[JO];omega⟩;simp[-qd,-qK,z,B,A,I,E,N,qo,qS,t,M,F,ac,w,vM,jW,-Qb];exact⟨k+1,wC,f++[y],ao,wC,hD,wC⟩
theorem qil[MaxL](b:Sl UInt8)(f:b.l.length<=1000000)(a:Nat)(d:a+4<=b.l.length){x:Int}(hx:x=a):call cx 220 [.int .i64 x,.vptr [(.vsl b.nil (qf b.l) b.l.length)]] []=some (.int .u32 (Jh b.l a:Nat),[]):=by
 have c:=q0G b a d wC hx;refine qC Tryz.func220 rfl ⟨rfl,rfl⟩ ?_;have:=qmo b.l a;have e:=qdT (Jh b.l a:Int) (Jh b.l a:Int);simp[Tryz.f220,c,e]
def qbq(b:List UInt8):List D:=[.int .u32 (Jh b 8:Nat),.int .u32 (Jh b 12:Nat),.int .i64 ((b.getD 16 0).toNat:Nat)]
def Zw(b:List UInt8)(k:Nat):List D:=(qbq b++qf ((b.drop 24).take (16*k)))++(qf (List.replicate (64-16*k) 0)++(List.replicate 21 (.int .u64 0)++[.int .u32 0,.int .u32 0,.int .u64 0]))
theorem qtv(b:List UInt8)(c:272<=b.length){k:Nat}(a:k<=4):(Zw b k).length=91:=by
 simp[Zw,qbq];omega
def hdIds:List D:=[.optr 2 91 3,.optr 2 91 19,.optr 2 91 35,.optr 2 91 51]
def hdNums:List D:=(List.range 21).map fun i=>.optr 2 91 (67+i)
def vn(b:List UInt8)(k:Nat):List D:=(qbq b++qf ((b.drop 24).take 64)++(qP .u64 ((List.range k).map fun i=>qU b (88+8*i))))++(List.replicate (21-k) (.int .u64 0)++[.int .u32 0,.int .u32 0,.int .u64 0])
theorem q2Z[MaxL]{H:qe}{q:Nat}{C:List D}(c:qd H q=some C)(_:C.length=91):call cx 222 [.optr q 91 0] H=some (.osl H.length 4 0 4 1,qr H [.optr q 91 3,.optr q 91 19,.optr q 91 35,.optr q 91 51]):=by
 refine jy Tryz.func222 rfl ⟨rfl,rfl⟩ ?_;have a:=qx c;have b:¬H=[]:=by intro h;rw[h] at a;simp at a
 simp[-qd,-qr,Tryz.f222,b]
theorem q2Y[MaxL]{H:qe}{q:Nat}{C:List D}(c:qd H q=some C)(_:C.length=91):call cx 223 [.optr q 91 0] H=some (.osl H.length 21 0 21 1,qr H ((List.range 21).map fun i=>.optr q 91 (67+i))):=by
 refine jy Tryz.func223 rfl ⟨rfl,rfl⟩ ?_;have a:=qx c;have d:¬H=[]:=by intro h;rw[h] at a;simp at a
 have b:((List.range 21).map fun i=>D.optr q 91 (67+i))=[.optr q 91 67,.optr q 91 68,.optr q 91 69,.optr q 91 70,.optr q 91 71,.optr q 91 72,.optr q 91 73,.optr q 91 74,.optr q 91 75,.optr q 91 76,.optr q 91 77,.optr q 91 78,.optr q 91 79,.optr q 91 80,.optr q 91 81,.optr q 91 82,.optr q 91 83,.optr q 91 84,.optr q 91 85,.optr q 91 86,.optr q 91 87]:=rfl;rw[b];simp[-qd,-qr,Tryz.f223,d]
def qkJ:List D:=.int .u32 0:: .int .u32 0:: .int .i64 0::(qf (List.replicate 64 0)++(List.replicate 21 (.int .u64 0)++[.int .u32 0,.int .u32 0,.int .u64 0]))
theorem q3r{k:Nat}(h:k<4):hdIds.drop k=.optr 2 91 (3+16*k)::hdIds.drop (k+1):=by
 match k,h with
 |0,_=>rfl
 |1,_=>rfl
 |2,_=>rfl
 |3,_=>rfl
theorem q3q{k:Nat}(h:k<21):hdNums.drop k=.optr 2 91 (67+k)::hdNums.drop (k+1):=by
 unfold hdNums;rw[<-List.map_drop,zZ wQ];simp
theorem qmW{A B C a:List D}{n:Nat}(b:A.length=n)(h:B.length=a.length):zU (A++(B++C)) n a=A++(a++C):=by
 subst b;unfold zU;rw[List.take_left' rfl,jf,jf];rw[List.drop_of_length_le wC,List.drop_of_length_le (show B.length<=A.length+a.length-A.length from wC),QY,QY,show A.length+a.length-A.length-B.length=0 from wC,List.drop_zero,jY]
theorem q3w(b:List UInt8)(d:272<=b.length){k:Nat}(c:k<4):zU (Zw b k) (3+16*k) (qf ((b.drop (24+16*k)).take 16))=Zw b (k+1):=by
 have a:qf (List.replicate (64-16*k) 0)=qf (List.replicate 16 0)++qf (List.replicate (64-16*(k+1)) 0):=by
  rw[<-qfc,List.replicate_append_replicate];congr 2;omega
 have e2:qf ((b.drop 24).take (16*(k+1)))=qf ((b.drop 24).take (16*k))++qf ((b.drop (24+16*k)).take 16):=by
  rw[<-qfc,<-ky];congr 1;rw[show 16*(k+1)=16*k+16 from wC,List.take_add]
 unfold Zw;rw[a,e2,jY (qf (List.replicate 16 0)),qmW]
 .simp only[jY]
 .simp[qbq];omega
 .simp;omega
theorem q3u(b:List UInt8)(c:272<=b.length){k:Nat}(a:k<=21):(vn b k).length=91:=by
 simp[vn,qbq];omega
theorem q3x(b:List UInt8):Zw b 4=vn b 0:=by
 simp[Zw,vn,qP,qf]
theorem q3t(b:List UInt8)(d:272<=b.length){k:Nat}(c:k<21):zU (vn b k) (67+k) [.int .u64 (qU b (88+8*k):Nat)]=vn b (k+1):=by
 have a:List.replicate (21-k) (D.int .u64 0)=[D.int .u64 0]++List.replicate (21-(k+1)) (D.int .u64 0):=by
  rw[show 21-k=(21-(k+1))+1 from wC,qdS];rfl
 have e2:qP .u64 ((List.range (k+1)).map fun i=>qU b (88+8*i))=qP .u64 ((List.range k).map fun i=>qU b (88+8*i))++[.int .u64 (qU b (88+8*k):Nat)]:=by
  rw[List.range_succ,List.map_append,qki];rfl
 unfold vn;rw[a,e2,jY [D.int .u64 0],qmW]
 .simp only[jY]
 .simp[qbq];omega
 .rfl
theorem q3v(b:List UInt8)(c:272<=b.length):∃a,vn b 21=a++[.int .u32 0,.int .u32 0,.int .u64 0]/\a.length=88/\Enc.cells (qH b)=a++[.int .u32 (Jh b 256:Nat),.int .u32 (Jh b 260:Nat),.int .u64 (qU b 264:Nat)]:=by
 refine⟨qbq b++qf ((b.drop 24).take 64)++(qP .u64 ((List.range 21).map fun i=>qU b (88+8*i))),by simp[vn],by simp[qbq];omega,?_⟩
 have e:qf ((b.drop 24).take 64)=qf (qH b).file.l++(qf (qH b).machine.l++(qf (qH b).boot.l++qf (qH b).seq.l)):=by
  simp only[qH];rw[qgu wC,qgu wC,qgu wC,qgu wC,<-qfc,<-qfc,<-qfc];congr 1;rw[show(64:Nat)=16+(16+(16+16)) by rfl,List.take_add,List.take_add,List.take_add];simp only[ky]
 rw[e,HdP.cells];simp only[qbq,jY,kC,QY];rfl
theorem qyY[MaxL](b:Sl UInt8)(G:b.l.length<=1000000)(o:272<=b.l.length):call cx 175 [(.vsl b.nil (qf b.l) b.l.length)] []=some (.agg (Enc.cells (qH b.l)),[]):=by
 have T:=qil b G 8 wC (x:=8) rfl;have R:=qil b G 12 wC (x:=12) rfl;have c:b.nil=false:=Sl.nn (i:=0) wC;rw[c] at T R;refine qC Tryz.func175 rfl ⟨rfl,rfl⟩ ?_;have q1:(16:Int)<(b.l.length:Int):=wC
 have V:16<b.l.length:=wC
 have o1:=vE V;have z:IntKind.i64.wrap ((b.l[16]).toNat:Int)=((b.l[16]).toNat:Int):=by have:=b.l[16].toNat_lt;rw[wrap_i64];omega
 simp[Tryz.f175,c,q1,o1,T,R,z];rw[q2Z rfl rfl];simp;refine Run.loopThen (fun(k:Nat) e H=>k<=4/\(∃Z:List D,Z.length=91/\H=[some [(.vsl b.nil (qf b.l) b.l.length)],some Z,some (Zw b.l k),some hdIds])/\qi e 1=some (.optr 0 1 0)/\qi e 2=some (.optr 1 91 0)/\qi e 3=some (.optr 2 91 0)/\qi e 4=some (.fn 220 [.optr 0 1 0])/\qi e 5=some (.int .i64 (24+16*(k:Int)))/\qi e 22=some (.osl 3 4 0 4 1)/\qi e 23=some (.int .i64 4)/\qi e 24=some (.int .i64 k)) (fun k=>4-k) 0 ?_ ?_
 .refine⟨wC,⟨qkJ,by simp[qkJ],?_⟩,?_⟩
  .simp[c,qkJ,Zw,qbq,hdIds,qf,List.replicate,V]
  .simp
 rintro k e H ⟨Q,⟨Z,W,rfl⟩,s,p,q,u,r,g,j,h⟩;by_cases n:k<4
 .have t:(k:Int)<4:=by omega
  have P:=q3r n;have m:=q3w b.l o n;have a:=qtv b.l o (k:=k) wC;have I:=qz ((k:Int)+1) ((k+1:Nat):Int);have K:hdIds.length=4:=rfl;have X:3+16*k<=75:=wC
  have c2:(0:Int)<=24+16*(k:Int)/\24+16*(k:Int)<=(b.l.length:Int):=wC
  have n2:(24+16*(k:Int)).toNat=24+16*k:=wC
  simp[s,p,q,u,r,g,j,h,t,P,K,c,a,X,c2,n2];have O:min (b.l.length-(24+16*k)) 16=16:=wC
  have f:(qf ((b.l.drop (24+16*k)).take 16)).length=16:=wG
  unfold zU at m;rw[f] at m
  have Y:List.take 16 (List.take (b.l.length-(24+16*k)) (List.drop (24+16*k) (qf b.l)))=qf ((b.l.drop (24+16*k)).take 16):=by
   rw[List.take_take,Nat.min_eq_left wC];simp[qf,List.map_take,List.map_drop]
  rw[O,Y];have M:=qz (24+16*(k:Int)+((16:Nat):Int)) (24+16*((k+1:Nat):Int));exact⟨k+1,wC,wC,⟨Z,W,rfl,by simpa only[jY] using m⟩,M,I⟩
 .have t:¬(k:Int)<4:=by omega
  have J:k=4:=wC
  subst J;simp[s,p,q,u,r,g,j,h,c];rw[q2Y (C:=Zw b.l 4) rfl (qtv b.l o wC),q3x b.l];simp;clear s p q u r g j h t n Q;refine Run.loopThen (fun(k:Nat) e H=>k<=21/\H=[some [(.vsl b.nil (qf b.l) b.l.length)],some Z,some (vn b.l k),some hdIds,some hdNums]/\qi e 1=some (.optr 0 1 0)/\qi e 2=some (.optr 1 91 0)/\qi e 3=some (.optr 2 91 0)/\qi e 4=some (.fn 220 [.optr 0 1 0])/\qi e 5=some (.int .i64 (88+8*(k:Int)))/\qi e 38=some (.osl 4 21 0 21 1)/\qi e 39=some (.int .i64 21)/\qi e 40=some (.int .i64 k)) (fun k=>21-k) 0 ?_ ?_
  .refine⟨wC,?_,?_⟩
   .rw[c];rfl
   .simp
  rintro k e H ⟨Q,rfl,s,p,q,u,r,B,E,y⟩;by_cases n:k<21
  .have t:(k:Int)<21:=wC;have P:=q3q n;have K:hdNums.length=21:=rfl;have m:=q3t b.l o n;have a:=q3u b.l o (k:=k) wC;have I:=qz ((k:Int)+1) ((k+1:Nat):Int);have M:=qz (88+8*(k:Int)+8) (88+8*((k+1:Nat):Int));have F:=qbR b (88+8*k) wC wC (x:=88+8*(k:Int)) wC;have jp:67+k+1<=91:=wC;rw[c] at F;simp[s,p,q,u,r,B,E,y,t,P,K,c,a,F,I,M,jp];unfold zU at m;exact⟨k+1,wC,wC,by simpa only[jY,kC,QY,List.length_singleton] using m,wC,wC⟩
  .have t:¬(k:Int)<21:=wC;have v:k=21:=wC;subst v;obtain⟨PP,hP,A,w⟩:=q3v b.l o;rw[hP];have S:=qil b G 256 wC (x:=256) rfl;have U:=qil b G 260 wC (x:=260) rfl;have F:=qbR b 264 wC wC (x:=264) rfl;rw[c] at S U F;simp[s,p,q,u,r,B,E,y,c,A,S,U,F,Zp,jf,List.drop_of_length_le,qJ,W,w];have d:=Enc.free (qH b.l);rw[w,List.all_append,zX] at d;have aa:=zfa d.1;have N:=zca d.1;have L:=zfl d.1;simp[N,L,A,qJ]
theorem q6n[MaxL](a b:Sl UInt8)(_:a.l.length<1000000)(_:b.l.length<1000000):call cx 219 [(.vsl a.nil (qf a.l) a.l.length),(.vsl b.nil (qf b.l) b.l.length)] []=some (.bool (a.l==b.l),[]):=by
 refine qC Tryz.func219 rfl ⟨rfl,rfl⟩ ?_;have c:List.take a.l.length (qf a.l)=qf a.l:=qJ wE;have d:List.take b.l.length (qf b.l)=qf b.l:=qJ wE;simp[Tryz.f219]
theorem q6j[MaxL](s:Sl UInt8)(p:List UInt8)(k:s.l.length<=1000000)(c:p.length<1000000)(m:1<=p.length):call cx 174 [(.vsl s.nil (qf s.l) s.l.length),.vsl false (qf p) p.length] []=some (.bool (s.l.take p.length==p),[]):=by
 refine qC Tryz.func174 rfl ⟨rfl,rfl⟩ ?_;by_cases g:p.length<=s.l.length
 .have b:(p.length:Int)<=(s.l.length:Int):=by omega
  have j:s.nil=false:=Sl.nn (i:=0) wC;have a:=q6n (.of (s.l.take p.length)) (.of p) wG c;simp only[Sl.of_l,Sl.of_nil] at a;have f:List.take p.length (qf s.l)=qf (s.l.take p.length):=qem _ _;have d:(s.l.take p.length).length=p.length:=wG
  rw[d] at a;simp[Tryz.f174,b,j,f,a]
 .have b:¬(p.length:Int)<=(s.l.length:Int):=by omega
  have h:(s.l.take p.length==p)=false:=by
   refine beq_eq_false_iff_ne.2 fun e=>?_;have:=congrArg List.length e;simp at this;omega
  rw[h];simp[Tryz.f174,b]
theorem qtu(h:HdP):(Enc.cells h).drop 68=.int .u64 (h.arena:Nat)::(Enc.cells h).drop 69:=h.dn (i:=1) wC
theorem qto[MaxL](h:HdP)(l:h.g 0<18446744073709551616)(k:h.g 1<18446744073709551616):call cx 117 [.agg (Enc.cells h)] []=some (.tup [.int .u64 (h.endN:Nat),.bool h.endC],[]):=by
 refine qC Tryz.func117 rfl ⟨rfl,rfl⟩ ?_;have j:=qf9 (qgw h) wE;have i:=qf9 (qtu h) wE;have d:=qgw h;have b:=qtu h;rw[show h.siz=h.g 0 from rfl] at j d;rw[show h.arena=h.g 1 from rfl] at i b;unfold HdP.endN HdP.endC;generalize h.g 0=a at *;generalize h.g 1=c at *;by_cases hc:a+c<18446744073709551616
 .have e:=zg ((a:Int)+(c:Int)) ((a:Int)+(c:Int));have f:¬(a:Int)+(c:Int)<(a:Int):=by omega
  simp[Tryz.f117,d,b,e,f,hc]
 .have e:IntKind.u64.wrap ((a:Int)+(c:Int))=(a:Int)+(c:Int)-18446744073709551616:=by
   simp only[IntKind.wrap,IntKind.signed,IntKind.bits];simp;omega
  have f:(a:Int)+(c:Int)-18446744073709551616<(a:Int):=wC
  simp[Tryz.f117,d,b,e,f,hc]
theorem qte[MaxL](h:HdP)(E:h.g 0<18446744073709551616)(a b c:Nat)(C:a<18446744073709551616)(B:b<18446744073709551616)(A:c<18446744073709551616):
  call cx 176 [.agg (Enc.cells h),.int .u64 a,.int .u64 b,.int .u64 c] []=some (.int .i64 (qbE (h.g 0) a b c:Nat),[]):=by
 refine qC Tryz.func176 rfl ⟨rfl,rfl⟩ ?_;have w:=qf9 (qgw h) wE;have j:=qgw h;rw[show h.siz=h.g 0 from rfl] at w j;unfold qbE;generalize h.g 0=f at *;have u:(a:Int).tmod 8=((a % 8:Nat):Int):=rfl;have p:(b:Int).tmod 16=((b % 16:Nat):Int):=rfl;by_cases t:a % 8≠0
 .have d:((a:Int).tmod 8 !=0)=true:=by rw[u];simp only[bne_iff_ne,ne_eq];omega
  rw[if_pos t];simp[Tryz.f176,d]
 have d:((a:Int).tmod 8 !=0)=false:=by rw[u];simp only[bne_eq_false_iff_eq];omega
 rw[if_neg t];by_cases m:b=0
 .rw[if_pos (.inl m)];subst m;simp[Tryz.f176,d]
 have y:¬(b:Int)=0:=wC
 by_cases z:b % 16≠0
 .rw[if_pos (.inr z)];have e:((b:Int).tmod 16 !=0)=true:=by rw[p];simp only[bne_iff_ne,ne_eq];omega
  simp[Tryz.f176,d,m,e]
 rw[if_neg wC];have e:((b:Int).tmod 16 !=0)=false:=by rw[p];simp only[bne_eq_false_iff_eq];omega
 by_cases r:a<f
 .rw[if_pos (.inl r)];have i:=zn r;simp[Tryz.f176,d,m,e,j,i]
 have i:=zq r;have q:=zg ((a:Int)-(f:Int)) ((a:Int)-(f:Int));by_cases x:a-f<16
 .rw[if_pos (.inr (.inl x))];have k:(a:Int)-(f:Int)<16:=by omega
  simp[Tryz.f176,d,m,e,j,i,q,k]
 have k:¬(a:Int)-(f:Int)<16:=wC
 by_cases s:c<a
 .rw[if_pos (.inr (.inr (.inl s)))];have l:=zn s;simp[Tryz.f176,d,m,e,j,i,q,k,l]
 have l:=zq s;have o:=zg ((c:Int)-(a:Int)) ((c:Int)-(a:Int));by_cases v:c-a<b
 .rw[if_pos (.inr (.inr (.inr v)))];have n:(c:Int)-(a:Int)<(b:Int):=by omega
  simp[Tryz.f176,d,m,e,j,i,q,k,l,o,n]
 .rw[if_neg wC];have n:¬(c:Int)-(a:Int)<(b:Int):=by omega
  simp[Tryz.f176,d,m,e,j,i,q,k,l,o,n]
end Go.Ev.S
