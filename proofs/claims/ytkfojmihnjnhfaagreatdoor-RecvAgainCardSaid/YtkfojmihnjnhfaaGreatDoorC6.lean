import Derived.Test.YtkfojmihnjnhfaaGreatDoorC5
namespace Go.Ev
open Go Go.Proofs
mutual
theorem ql4:∀ (d:D),idFree d = true→noZ d = true
 | .agg cs,h=>by simp only [idFree] at h;simp only [noZ];exact qce cs h
 | .tup cs,h=>by simp only [idFree] at h;simp only [noZ];exact qce cs h
 | .fn _ cs,h=>by simp only [idFree] at h;simp only [noZ];exact qce cs h
 | .iface _ d,h=>by simp only [idFree] at h;simp only [noZ];exact ql4 d h
 | .optr ..,h=>by simp [idFree] at h
 | .osl ..,h=>by simp [idFree] at h
 | .bool _,_=>rfl
 | .int _ _,_=>rfl
 | .str _,_=>rfl
 | .nilp,_=>rfl
 | .nilf,_=>rfl
 | .nili,_=>rfl
 | .vptr _,_=>rfl
 | .vsl ..,_=>rfl
 | .raw _,_=>rfl
theorem qce:∀ (l:List D),idFree.idFreeL l = true→noZ.noZL l = true
 | [],_=>rfl
 | d :: l,h=>by
  simp only [idFree.idFreeL,qT] at h;simp only [noZ.noZL,ql4 d h.1,qce l h.2,Bool.and_self]
end
@[simp] theorem q4f (a b:List D):noZ.noZL (a ++ b) = (noZ.noZL a && noZ.noZL b):=by
 induction a with
 | nil=>simp [noZ.noZL]
 | cons d l ih=>simp [noZ.noZL,ih,Bool.and_assoc]
@[simp] theorem q4c (l:List UInt8):noZ.noZL (qd l) = true:=qce _ (by simp)
@[simp] theorem q4e {α:Type} [Enc α] (a:α):noZ.noZL (Enc.cells a) = true:=qce _ (qiN a)
@[simp] theorem q4d {α:Type} [Enc α] (l:List α):noZ.noZL (qh l) = true:=qce _ (qiB l)
end Go.Ev
namespace Go.Ev.S
open Go Go.Proofs Go.Ev
theorem qo8:∀ (l:List UInt8) (n:Nat),(∃ k:Nat,zV l n = ((n+k:Nat):Int)∧∃ h:k < l.length,(l[k] = 61∨l[k] = 10)∧∀ j (hj:j < k),l[j]≠61∧l[j]≠10)∨zV l n = -1
 | [],n=>.inr rfl
 | b :: l,n=>by
  by_cases hb:b = 61∨b = 10
  ·exact .inl ⟨0,by rw [zV,if_pos hb];simp,by simp,hb,fun j hj=>by omega⟩
  ·rw [zV,if_neg hb];rcases qo8 l (n+1) with ⟨k,h1,h2,h3,h4⟩ | h
   ·refine .inl ⟨k+1,by rw [h1];congr 1;omega,by simpa using h2,by simpa using h3,fun j hj=>?_⟩;cases j with
    | zero=>exact ⟨fun e=>hb (.inl e),fun e=>hb (.inr e)⟩
    | succ j=>exact h4 j (by omega)
   ·exact .inr h
def Qm (b:List UInt8):Option (Pr × List UInt8) :=
 if zV b 0 < 1 then none
 else if b.getD (zV b 0).toNat 0 = 61 then some (⟨b.take (zV b 0).toNat,vd (b.drop ((zV b 0).toNat+1))⟩,zJ (b.drop ((zV b 0).toNat+1)))
 else match Q6 (b.drop ((zV b 0).toNat+1)) 0 8 with
  | none=>none
  | some n=>if 256 < n∨(b.drop ((zV b 0).toNat+1)).length < 9+n then none
   else some (⟨b.take (zV b 0).toNat,((b.drop ((zV b 0).toNat+1)).drop 8).take n⟩,(b.drop ((zV b 0).toNat+1)).drop (9+n))
theorem qub (l:List UInt8) (n:Nat) (h:Q6 l 0 8 = some n):n < 18446744073709551616∧8≤l.length:=by
 unfold Q6 at h;split at h
 ·rename_i hc;injection h with h;refine ⟨?_,by omega⟩;rw [← h];have:=X4 ((l.drop (0:Int).toNat).take (8:Int).toNat);refine jP this ?_;have hl:((l.drop (0:Int).toNat).take (8:Int).toNat).length≤8:=by simp;omega
  exact kr (Y4 (by decide) hl) (by decide)
 ·cases h
set_option maxHeartbeats 4000000 in
set_option maxRecDepth 8000 in
theorem qtN [MaxL] (s:Sl UInt8) (hs:s.l.length < 1000000):∃ r:Sl UInt8,(∀ p b,Qm s.l = some (p,b)→r.l = b) ∧
  call cx 172 [.optr 0 1 0] [some [(.vsl s.nil (qd s.l) s.l.length)]] = some (.tup [.agg (match Qm s.l with | some (p,_)=>[.str p.name,.str p.value] | none=>[.str [],.str []]),.bool (Qm s.l).isSome],[some [(.vsl r.nil (qd r.l) r.l.length)]]):=by
 have ha:=q0H s hs;rcases qo8 s.l 0 with ⟨k,h1,h2,h3,-⟩ | h1
 ·rw [vQ] at h1;rw [h1] at ha;cases k with
  | zero =>
   have hP:Qm s.l = none:=(by unfold Qm;rw [h1,if_pos (by decide)]);rw [hP];refine ⟨s,fun p b h=>(by cases h),?_⟩;have ha0:call cx 200 [(.vsl s.nil (qd s.l) s.l.length),.str [61,10]] [] = some (.int .i64 0,[]):=ha;refine qs Tryz.func172 rfl ⟨rfl,rfl⟩ ?_;simp [Tryz.f172,ha0]
  | succ m =>
   obtain ⟨k,hk⟩:∃ k,k = m+1:=⟨_,rfl⟩;rw [← hk] at h1 ha h2;have hk1:1≤k:=(by omega);have h3':s.l[k] = 61∨s.l[k] = 10:=(by subst hk;exact h3);clear h3;have zj:¬ (k:Int) < 1:=(by omega);have hnn:s.nil = false:=Sl.nn h2;rw [hnn] at ha;have qW:=jt h2;have hgd:s.l.getD k 0 = s.l[k]:=(by rw [List.getD,zi h2];rfl);have qO:IntKind.i64.wrap ((k:Int)+1) = ((k+1:Nat):Int):=(by rw [wrap_i64] <;> omega);have t1:List.take k (qd s.l) = qd (s.l.take k):=kw _ _;have t1l:(s.l.take k).length = k:=(by simp;omega);have t1b:kE (qd (s.l.take k)) = some (s.l.take k):=Y0 _;have t1t:List.take k (qd (s.l.take k)) = qd (s.l.take k):=qx (by simp;omega);obtain ⟨R,hR⟩:∃ R:Sl UInt8,R = ⟨false,s.l.drop (k+1),fun e=>by cases e⟩:=⟨_,rfl⟩;have Vr:R.l = s.l.drop (k+1):=(by rw [hR]);have hRn:R.nil = false:=(by rw [hR]);have hRlen:R.l.length = s.l.length - (k+1):=by rw [Vr];simp
   have t2:List.take (s.l.length - (k+1)) (List.drop (k+1) (qd s.l)) = qd R.l:=by
    rw [Ze,← Vr];exact qx (by simp [hRlen])
   have g1:k≤s.l.length:=(by omega);have g1':(k:Int)≤(s.l.length:Int):=(by omega);have g0':(k:Int) < (s.l.length:Int):=(by omega);have g2:k+1≤s.l.length:=(by omega);have g2':((k+1:Nat):Int)≤(s.l.length:Int):=(by omega);obtain ⟨j,hj⟩:∃ j,j = k+1:=⟨_,rfl⟩;have g3:((s.l.length:Int) - (j:Int)).toNat = s.l.length - j:=(by omega);have Qq:=qdZ R (by omega) [] (by decide);obtain ⟨r,QN,zS⟩:=Qq;have htr:vh [] (vd R.l) = vd R.l:=(by unfold vh;simp);rw [htr] at zS;have vE:=qcN R 0 8 ⟨by decide,by decide⟩ (by omega)
   have hP:Qm s.l = if s.l[k] = 61 then some (⟨s.l.take k,vd R.l⟩,zJ R.l) else match Q6 R.l 0 8 with
     | none=>none
     | some n=>if 256 < n∨R.l.length < 9+n then none else some (⟨s.l.take k,(R.l.drop 8).take n⟩,R.l.drop (9+n)):=by
    unfold Qm;have hkn':((k:Int)).toNat = k:=(by omega);rw [h1,if_neg zj,hkn',hgd,← Vr]
   rw [hP];have hc10:s.l[k]≠61→s.l[k] = 10:=fun h=>h3'.resolve_left h;rw [hRn] at zS vE;rw [← hRlen] at t2;generalize s.l[k] = c at *;have hsl:s.l.length - (k+1) = R.l.length:=hRlen.symm;rw [← hj] at qO t2 g2 g2' hsl;by_cases hc:c = 61
   ·rw [if_pos hc];subst hc;refine ⟨r,fun p b h=>(by injection h with h;injection h with _ h;rw [← h];exact QN),?_⟩;clear vE hP hc10 h3';refine qs Tryz.func172 rfl ⟨rfl,rfl⟩ ?_;simp [Tryz.f172,ha,zj,hnn,qW,qO,t1,t1l,t1b,t2,g0',g1',g2',hsl,zS]
   ·rw [if_neg hc];have kN:=hc10 hc;subst kN;clear QN zS htr hP hc10 h3' hc;cases hg:Q6 R.l 0 8 with
    | none =>
     rw [hg] at vE;simp only [KO,Option.getD_none,Option.isSome_none] at vE;refine ⟨R,fun p b h=>(by cases h),?_⟩;rw [hRn];refine qs Tryz.func172 rfl ⟨rfl,rfl⟩ ?_;simp [Tryz.f172,ha,zj,hnn,qW,qO,t1,t1l,t1b,t2,g0',g1',g2',hsl,vE]
    | some n =>
     obtain ⟨hn64,hR8⟩:=qub _ _ hg;rw [hg] at vE;simp only [KO,Ju,Option.isSome_some] at vE;by_cases hbig:256 < n
     ·have Qf:(256:Int) < (n:Int):=(by omega);refine ⟨R,fun p b h=>(by simp only [hbig,true_or,if_true] at h;cases h),?_⟩;rw [hRn];simp only [hbig,true_or,if_true];refine qs Tryz.func172 rfl ⟨rfl,rfl⟩ ?_;simp [Tryz.f172,ha,zj,hnn,qW,qO,t1,t1l,t1b,t2,g0',g1',g2',hsl,vE,Qf]
     ·have Qf:¬ (256:Int) < (n:Int):=(by omega);have QM:IntKind.i64.wrap (n:Int) = (n:Int):=(by rw [wrap_i64] <;> omega);have hwn9:IntKind.i64.wrap (9+(n:Int)) = 9+(n:Int):=(by rw [wrap_i64] <;> omega);by_cases zY:R.l.length < 9+n
      ·have YP:(R.l.length:Int) < 9+(n:Int):=(by omega);refine ⟨R,fun p b h=>(by simp only [zY,or_true,if_true] at h;cases h),?_⟩;rw [hRn];simp only [zY,or_true,if_true];refine qs Tryz.func172 rfl ⟨rfl,rfl⟩ ?_;simp [Tryz.f172,ha,zj,hnn,qW,qO,t1,t1l,t1b,t2,g0',g1',g2',hsl,vE,Qf,QM,hwn9,YP]
      ·have YP:¬ (R.l.length:Int) < 9+(n:Int):=(by omega);have zT:¬ (256 < n∨R.l.length < 9+n):=(by omega);simp only [zT,if_false];obtain ⟨V,hV⟩:∃ V,V = (R.l.drop 8).take n:=⟨_,rfl⟩;have hVl:V.length = n:=(by rw [hV];simp;omega);obtain ⟨q,hq⟩:∃ q,q = 9+n:=⟨_,rfl⟩;obtain ⟨q8,hq8⟩:∃ q,q = 8+n:=⟨_,rfl⟩;have w8:IntKind.u64.wrap (8+(n:Int)) = (q8:Int):=(by rw [qU] <;> omega);have w9:IntKind.u64.wrap (q:Int) = (q:Int):=(by rw [qU] <;> omega);have hq9:9+(n:Int) = (q:Int):=(by omega);have e8:((q8:Int) - 8).toNat = n:=(by omega);have eq9:((R.l.length:Int) - (q:Int)).toNat = R.l.length - q:=(by omega);have b1:(q8:Int)≤(R.l.length:Int):=(by omega);have b2:(8:Int)≤(q8:Int):=(by omega);have b3:(q:Int)≤(R.l.length:Int):=(by omega);have b4:q8≤R.l.length:=(by omega);have b5:8≤q8:=(by omega);have b6:q≤R.l.length:=(by omega);have b7:q8 - 8 = n:=(by omega);have tv:List.take n (List.drop 8 (qd R.l)) = qd V:=(by rw [Ze,kw,← hV]);have tvb:kE (qd V) = some V:=Y0 _;have tvt:List.take n (qd V) = qd V:=qx (by simp;omega);obtain ⟨Q,hQ⟩:∃ Q:Sl UInt8,Q = ⟨false,R.l.drop q,fun e=>by cases e⟩:=⟨_,rfl⟩;have hQl:Q.l = R.l.drop q:=(by rw [hQ]);have hQn:Q.nil = false:=(by rw [hQ]);have hQlen:R.l.length - q = Q.l.length:=by rw [hQl];simp
       have tq:List.take (R.l.length - q) (List.drop q (qd R.l)) = qd Q.l:=by
        rw [Ze,← hQl];exact qx (by simp [hQlen])
       rw [hQlen] at tq;refine ⟨Q,fun p b h=>(by injection h with h;injection h with _ h;rw [← h,hQl,hq]),?_⟩;rw [hQn];rw [hq9] at YP hwn9;rw [← hV];clear hg hV hQl hQ hR Vr zY;refine qs Tryz.func172 rfl ⟨rfl,rfl⟩ ?_;simp [Tryz.f172,ha,zj,hnn,qW,qO,t1,t1l,t1b,t2,g0',g1',g2',hsl,vE,Qf,QM,hq9,hwn9,YP,w8,w9,b1,b2,b3,b7,tv,tvb,tq,hVl,hQlen]
 ·have hP:Qm s.l = none:=by unfold Qm;rw [h1,if_pos (by decide)]
  rw [hP];refine ⟨s,fun p b h=>(by cases h),?_⟩;rw [h1] at ha;refine qs Tryz.func172 rfl ⟨rfl,rfl⟩ ?_;simp [Tryz.f172,ha]
def Rec.zero:Rec:=⟨0,0,0,ID.zero,.none⟩
def qb0 (b:List UInt8):It:=⟨Qo jW (zJ b),true,((pu 10 (jO [45] (vh jR (vd b))).1).getD 0:Nat),((pu 10 (jO [45] (vh jR (vd b))).2.1).getD 0:Nat),Rec.zero⟩
theorem qkU [MaxL] (s:List UInt8) (hs:s.length≤1000000) :
  (∃ v:Nat,(pu 10 s).getD 0 = v∧call cx 128 [.str s,.int .i64 10,.int .i64 64] [] = some (.tup [.int .u64 v,.nili],[])) ∨
  ((pu 10 s).getD 0 = 0∧∃ (x:Nat) (d:List D),call cx 128 [.str s,.int .i64 10,.int .i64 64] [] = some (.tup [.int .u64 x,.iface 232 (.vptr d)],[])):=by
 rcases qhx 10 (.inl rfl) s (by omega) with ⟨v,e1,e2⟩ | ⟨e1,x,d,e2⟩
 ·exact .inl ⟨v,by rw [e1];rfl,e2⟩
 ·exact .inr ⟨by rw [e1];rfl,x,d,e2⟩
set_option maxHeartbeats 4000000 in
set_option maxRecDepth 8000 in
theorem qyb [MaxL] (s:Sl UInt8) (hs:s.l.length < 1000000):∃ r:Sl UInt8,call cx 146 [.optr 0 1 0] [some [(.vsl s.nil (qd s.l) s.l.length)]] = some (.agg (Enc.cells (qb0 s.l)),[some [(.vsl r.nil (qd r.l) r.l.length)]]):=by
 obtain ⟨r1,QN,ja⟩:=qdZ s hs jR (by decide);have Qq:=qdX s.l;have hlr:=Va s.l;have jH:=qeT jR (vd s.l);obtain ⟨r2,zS,jv⟩:=qig r1 (by rw [QN];omega) jW (by decide);have jC:=qes [45] (vh jR (vd s.l));have hct:=qnR (vh jR (vd s.l)) [45] (by omega) (by decide);have p1:=qkU (jO [45] (vh jR (vd s.l))).1 (by omega);have p2:=qkU (jO [45] (vh jR (vd s.l))).2.1 (by omega);refine ⟨r2,?_⟩;rw [It.cells];unfold qb0;simp only;rw [← QN];generalize Qo jW r1.l = q at *;generalize (jO [45] (vh jR (vd s.l))).2.2 = f at *;generalize (jO [45] (vh jR (vd s.l))).2.1 = y at *;generalize (jO [45] (vh jR (vd s.l))).1 = x at *;generalize vh jR (vd s.l) = t at *;have hq:=q.h;have KU:List.take 16 (qd q.l) = qd q.l:=qx (by simp);have qbe:List.take 39 (qd q.l) = qd q.l:=qx (by simp);have z16:qd ID.zero.l = [.int .u8 0,.int .u8 0,.int .u8 0,.int .u8 0,.int .u8 0,.int .u8 0,.int .u8 0,.int .u8 0,.int .u8 0,.int .u8 0,.int .u8 0,.int .u8 0,.int .u8 0,.int .u8 0,.int .u8 0,.int .u8 0]:=rfl;clear hlr jH Qq jC;simp only [jR,jW] at ja jv;refine qs Tryz.func146 rfl ⟨rfl,rfl⟩ ?_;rcases p1 with ⟨v1,e1,c1⟩ | ⟨e1,x1,d1,c1⟩ <;> rcases p2 with ⟨v2,e2,c2⟩ | ⟨e2,x2,d2,c2⟩ <;> rw [e1,e2] <;> clear e1 e2
 all_goals
  simp [Tryz.f146,ja,hct];refine Xq ?_;simp [c1];refine Xq ?_;simp [c2];refine Xq ?_;simp [jv,qbe,hq,z16,Rec.zero,zW]
def QW:Nat→List UInt8→List Pr
 | 0,_=>[]
 | n+1,b=>match Qm b with
  | none=>[]
  | some (p,r)=>p :: QW n r
def Zm (l:List Pr):Sl Pr:=⟨l.isEmpty,l,fun h=>by simpa using h⟩
def qb1 (b:List UInt8):It:=⟨Qo jW (zJ (zJ (zJ (zJ b)))),false,0,0,⟨(Qn JD (zJ (zJ (zJ b))):Nat),(Qn JE (zJ b):Nat),(Qn JF (zJ (zJ b)):Nat),Qo Z8 (zJ (zJ (zJ (zJ (zJ b))))),Zm (QW 17 (zJ (zJ (zJ (zJ (zJ (zJ b)))))))⟩⟩
theorem qh7 {b:List UInt8} {p:Pr} {r:List UInt8} (h:Qm b = some (p,r)):r.length≤b.length:=by
 unfold Qm at h;split at h
 ·cases h
 ·split at h
  ·injection h with h;injection h with _ h;rw [← h];exact kr (Va _) (by simp)
  ·split at h
   ·cases h
   ·split at h
    ·cases h
    ·injection h with h;injection h with _ h;rw [← h];simp
def Xd (q:ID) (sq rl mn:Nat) (bt:ID):List D:=qd q.l ++ ([.bool false,.int .u64 0,.int .u64 0,.int .u64 sq,.int .u64 rl,.int .u64 mn] ++ qd bt.l)
theorem qn2 (q:ID) (sq rl mn:Nat) (bt:ID):(Xd q sq rl mn bt).length = 38:=by
 simp [Xd,q.h,bt.h]
theorem qn3 (q:ID) (sq rl mn:Nat) (bt:ID):idFree.idFreeL (Xd q sq rl mn bt) = true:=by
 simp [Xd,idFree]
def q1p (X:List D) (Z:Option (List D)) (fs:List Pr) (r:Sl UInt8) (H:qi):Prop :=
 (fs = []∧H = [some [(.vsl r.nil (qd r.l) r.l.length)],Z,some (X ++ [.vsl true [] 0])]) ∨
 (fs≠[]∧∃ (n k:Nat) (t u:Pr),n = fs.length * 2∧k = fs.length∧(H = [some [(.vsl r.nil (qd r.l) r.l.length)],Z,some (X ++ [.osl 5 n 0 k 2]),some [.str t.name,.str t.value],some [.str u.name,.str u.value],some (qh fs)] ∨
  ∃ v w:Pr,H = [some [(.vsl r.nil (qd r.l) r.l.length)],Z,some (X ++ [.osl 5 n 0 k 2]),some [.str t.name,.str t.value],some [.str u.name,.str u.value],some (qh fs),some [.str v.name,.str v.value],some [.str w.name,.str w.value]]))
theorem qpT {X:List D} (hX:idFree.idFreeL X = true) {fs:List Pr} {i n k:Nat} (hn:fs.length * 2 = n) (hk:fs.length = k) {H:qi} (hg:(H[i]?).getD none = some (qh fs)):jA H 9 (.agg (X ++ [.osl i n 0 k 2])) = some (.agg (X ++ [.vsl false (qh fs) k]),[i]):=by
 have h8:jA H 8 (.osl i n 0 k 2) = some (.vsl false (qh fs) k,[i]):=by
  rw [jA,if_neg (by simp [idFree])];have hl:(qh fs).length = n:=by simp [hn]
  have h0:0+k * 2≤n:=by omega
  simp only [qq,hg];rw [if_pos ⟨hl,h0⟩,if_pos (by simp),List.drop_zero,qx (by simp;omega)]
 rw [jA,if_neg (by simp [idFree])];simp only [qeX,qjE hX,v7,h8];rfl
set_option maxHeartbeats 4000000 in
set_option maxRecDepth 8000 in
theorem qyL [MaxL] (s:Sl UInt8) (hs:s.l.length < 1000000):∃ q,call cx 147 [.optr 0 1 0] [some [(.vsl s.nil (qd s.l) s.l.length)]] = some q∧∃ r:Sl UInt8,q = (.agg (Enc.cells (qb1 s.l)),[some [(.vsl r.nil (qd r.l) r.l.length)]]):=by
 obtain ⟨r1,QN,ja⟩:=qdZ s hs KQ (by decide);have n0:=Va s.l;obtain ⟨r2,zS,jv⟩:=qhE r1 (by rw [QN];omega) JE (by decide);have n1:=Va r1.l;rw [← QN] at n0;obtain ⟨r3,hr3,zl⟩:=qhE r2 (by rw [zS];omega) JF (by decide);have n2:=Va r2.l;rw [← zS] at n1;obtain ⟨r4,hr4,zP⟩:=qhE r3 (by rw [hr3];omega) JD (by decide);have n3:=Va r3.l;rw [← hr3] at n2;obtain ⟨r5,hr5,hl5⟩:=qig r4 (by rw [hr4];omega) jW (by decide);have n4:=Va r4.l;rw [← hr4] at n3;obtain ⟨r6,hr6,hl6⟩:=qig r5 (by rw [hr5];omega) Z8 (by decide);have n5:=Va r5.l;rw [← hr5] at n4;rw [← hr6] at n5
 have hE:Enc.cells (qb1 s.l) = Xd (Qo jW r4.l) (Qn JD r3.l) (Qn JE r1.l) (Qn JF r2.l) (Qo Z8 r5.l) ++ [(.vsl (Zm (QW 17 r6.l)).nil (qh (Zm (QW 17 r6.l)).l) (Zm (QW 17 r6.l)).l.length)]:=by
  rw [It.cells];unfold qb1 Xd;simp only;rw [← QN,← zS,← hr3,← hr4,← hr5,← hr6];simp
 rw [hE];have hr6':r6.l.length < 1000000:=by omega
 clear hE n0 n1 n2 n3 n4 n5 QN zS hr3 hr4 hr5 hr6;have jD:=qn2 (Qo jW r4.l) (Qn JD r3.l) (Qn JE r1.l) (Qn JF r2.l) (Qo Z8 r5.l);have JJ:=qn3 (Qo jW r4.l) (Qn JD r3.l) (Qn JE r1.l) (Qn JF r2.l) (Qo Z8 r5.l);obtain ⟨X,hX⟩:∃ X,X = Xd (Qo jW r4.l) (Qn JD r3.l) (Qn JE r1.l) (Qn JF r2.l) (Qo Z8 r5.l):=⟨_,rfl⟩;rw [← hX] at jD JJ ⊢;unfold Xd at hX;obtain ⟨F,hF⟩:∃ F,F = QW 17 r6.l:=⟨_,rfl⟩;rw [← hF];have hq:=(Qo jW r4.l).h;have hb:=(Qo Z8 r5.l).h;generalize Qo jW r4.l = q at *;generalize Qo Z8 r5.l = bt at *;generalize Qn JD r3.l = sq at *;generalize Qn JE r1.l = rl at *;generalize Qn JF r2.l = mn at *;have KU:List.take 16 (qd q.l) = qd q.l:=qx (by simp);have hb16:List.take 16 (qd bt.l) = qd bt.l:=qx (by simp);simp only [KQ,JE,JF,JD,jW,Z8] at ja jv zl zP hl5 hl6;have hXd:List.drop 38 X = []:=zX (by omega);have Xb:List.drop 39 X = []:=zX (by omega);have hXt:List.take 38 X = X:=qx (by omega);have qbu:List.take 39 X = X:=qx (by omega)
 have kO:∀ n,(∀ x,x∈X→closed n x = true) = True:=fun n=>eq_true (by
  have:=Vw n X JJ;rw [qb5] at this;exact List.all_eq_true.1 this)
 refine vH (X:=cx) (f:=147) (args:=[.optr 0 1 0]) (H:=[some [(.vsl s.nil (qd s.l) s.l.length)]]) (fun q=>∃ r:Sl UInt8,q = (.agg (X ++ [(.vsl (Zm F).nil (qh (Zm F).l) (Zm F).l.length)]),[some [(.vsl r.nil (qd r.l) r.l.length)]])) Tryz.func147 rfl ⟨rfl,rfl⟩ ?_;simp [Tryz.f147,ja,jv,zl,zP,hl5,hl6,hq,hb,zW,qD,zC];have hZf:idFree.idFreeL [D.int .u8 0,D.int .u8 0,D.int .u8 0,D.int .u8 0,D.int .u8 0,D.int .u8 0,D.int .u8 0,D.int .u8 0,D.int .u8 0,D.int .u8 0,D.int .u8 0,D.int .u8 0,D.int .u8 0,D.int .u8 0,D.int .u8 0,D.int .u8 0,D.bool false,D.int .u64 0,D.int .u64 0,D.int .u64 0,D.int .u64 0,D.int .u64 0,D.int .u8 0,D.int .u8 0,D.int .u8 0,D.int .u8 0,D.int .u8 0,D.int .u8 0,D.int .u8 0,D.int .u8 0,D.int .u8 0,D.int .u8 0,D.int .u8 0,D.int .u8 0,D.int .u8 0,D.int .u8 0,D.int .u8 0,D.int .u8 0,D.vsl true [] 0] = true:=rfl;have hZl:[D.int .u8 0,D.int .u8 0,D.int .u8 0,D.int .u8 0,D.int .u8 0,D.int .u8 0,D.int .u8 0,D.int .u8 0,D.int .u8 0,D.int .u8 0,D.int .u8 0,D.int .u8 0,D.int .u8 0,D.int .u8 0,D.int .u8 0,D.int .u8 0,D.bool false,D.int .u64 0,D.int .u64 0,D.int .u64 0,D.int .u64 0,D.int .u64 0,D.int .u8 0,D.int .u8 0,D.int .u8 0,D.int .u8 0,D.int .u8 0,D.int .u8 0,D.int .u8 0,D.int .u8 0,D.int .u8 0,D.int .u8 0,D.int .u8 0,D.int .u8 0,D.int .u8 0,D.int .u8 0,D.int .u8 0,D.int .u8 0,D.vsl true [] 0].length = 39:=rfl;generalize [D.int .u8 0,D.int .u8 0,D.int .u8 0,D.int .u8 0,D.int .u8 0,D.int .u8 0,D.int .u8 0,D.int .u8 0,D.int .u8 0,D.int .u8 0,D.int .u8 0,D.int .u8 0,D.int .u8 0,D.int .u8 0,D.int .u8 0,D.int .u8 0,D.bool false,D.int .u64 0,D.int .u64 0,D.int .u64 0,D.int .u64 0,D.int .u64 0,D.int .u8 0,D.int .u8 0,D.int .u8 0,D.int .u8 0,D.int .u8 0,D.int .u8 0,D.int .u8 0,D.int .u8 0,D.int .u8 0,D.int .u8 0,D.int .u8 0,D.int .u8 0,D.int .u8 0,D.int .u8 0,D.int .u8 0,D.int .u8 0,D.vsl true [] 0] = Z at *
 have hZc:∀ n,(∀ x,x∈Z→closed n x = true) = True:=fun n=>eq_true (by
  have:=Vw n Z hZf;rw [qb5] at this;exact List.all_eq_true.1 this)
 have hZd:List.drop 39 Z = []:=zX (by omega);refine Run.loopThen (fun (q:List Pr × Sl UInt8) e H'=>q.1.length≤17∧q.2.l.length < 1000000∧q.1 ++ QW (17 - q.1.length) q.2.l = F∧q1p X (some Z) q.1 q.2 H'∧qf e 0 = some (.optr 0 1 0)∧qf e 2 = some (.optr 1 39 0)∧qf e 3 = some (.optr 2 39 0)∧qf e 4 = some (.optr 2 39 19)) (fun q=>17 - q.1.length) ([],r6) ?_ ?_
 ·refine ⟨by simp,hr6',by rw [hF];rfl,.inl ⟨rfl,?_⟩,by simp,by simp,by simp,by simp⟩;rw [hX];simp
 rintro ⟨fs,r⟩ e H' ⟨hk,hrl,ZM,hH,k0,k2,k3,k4⟩;simp only at hk hrl ZM hH;clear hX hF ja jv zl zP hl5 hl6 hr6';have jL:=Va r.l;obtain ⟨r',hr',hp⟩:=qtN r hrl;rcases hH with ⟨rfl,rfl⟩ | ⟨qt,n,k,t,u,hn,hk2,hH⟩
 ·simp only [ZW,qX,Nat.sub_zero,QW] at ZM;cases VC:Qm r.l with
  | none =>
   rw [VC] at hp ZM;simp only [Option.isSome_none] at hp ZM;subst ZM;simp [k0,k2,k3,k4,hp,jD,qbu,kO,JJ,hZl,hZd,zW,qD,Zm];exact ⟨r',rfl,rfl,rfl⟩
  | some pr =>
   obtain ⟨p,b⟩:=pr;rw [VC] at hp ZM;simp only [Option.isSome_some] at hp ZM;have hrb:=hr' p b VC;have QT:=qh7 VC;simp [k0,k2,k3,k4,hp,jD,Xb,qD,qI];exact ⟨[p],by simp,by simp,r',by rw [hrb];omega,by rw [hrb];exact ZM,.inr ⟨by simp,2,1,p,p,rfl,rfl,.inl rfl⟩⟩
 ·have hk17:(k:Int)≤16↔k≤16:=by omega
  have ze:fs.length = k:=hk2.symm;have zj:k * 2 = n:=by omega
  have zZ:(k+1) * 32≤140737488355328:=by omega
  have zB:k+1≤140737488355328:=by omega
  have XE:fs.isEmpty = false:=by simpa using qt
  have qz:List.take n (qh fs) = qh fs:=qx (by simp;omega);have hst:=fun {i:Nat} {H:qi}=>qpT JJ (fs:=fs) (i:=i) (n:=n) (k:=k) hn.symm ze (H:=H);by_cases hle:k≤16
  ·have jB:(k:Int)≤16:=(by omega);have hfu:17 - fs.length = (16 - fs.length)+1:=(by omega);rw [hfu,QW] at ZM;cases VC:Qm r.l with
   | none =>
    rw [VC] at hp ZM;simp only [Option.isSome_none,Z2] at hp ZM;subst ZM;rcases hH with rfl | ⟨v,w,rfl⟩
    ·simp [-jA,k0,k2,k3,k4,jB,hp,hst,ze,jD,qbu,kO,JJ,hZl,hZd,zW,qD,Zm,XE];exact ⟨r',rfl,rfl,rfl⟩
    ·simp [-jA,k0,k2,k3,k4,jB,hp,hst,ze,jD,qbu,kO,JJ,hZl,hZc,hZd,zW,qD,Zm,XE];exact ⟨r',rfl,rfl,rfl⟩
   | some pr =>
    obtain ⟨p,b⟩:=pr;rw [VC] at hp ZM;simp only [Option.isSome_some] at hp ZM;have hrb:=hr' p b VC;have QT:=qh7 VC;rcases hH with rfl | ⟨v,w,rfl⟩
    ·simp [k0,k2,k3,k4,jB,hp,ze,zj,zZ,zB,jD,Xb,qD,qI];refine ⟨fs ++ [p],by simp;omega,by simp [ze];omega,r',by rw [hrb];omega,?_,.inr ⟨by simp,n+2,k+1,t,u,by simp;omega,by simp;omega,.inr ⟨p,p,by rw [Z0];rfl⟩⟩⟩;rw [← ZM,hrb,vI];have e1:17 - (fs ++ [p]).length = 16 - fs.length:=(by simp);rw [e1];rfl
    ·simp [k0,k2,k3,k4,jB,hp,ze,zj,zZ,zB,jD,Xb,kO,hZc,qD,qI];refine ⟨fs ++ [p],by simp;omega,by simp [ze];omega,r',by rw [hrb];omega,?_,.inr ⟨by simp,n+2,k+1,t,u,by simp;omega,by simp;omega,.inr ⟨p,p,by rw [Z0];rfl⟩⟩⟩;rw [← ZM,hrb,vI];have e1:17 - (fs ++ [p]).length = 16 - fs.length:=(by simp);rw [e1];rfl
  ·have jB:¬ (k:Int)≤16:=(by omega);have hfu:17 - fs.length = 0:=(by omega);rw [hfu,QW,Z2] at ZM;subst ZM;rcases hH with rfl | ⟨v,w,rfl⟩
   ·simp [-jA,k0,k2,k3,k4,jB,hst,ze,jD,qbu,kO,JJ,hZl,hZd,zW,qD,Zm,XE];exact ⟨r,rfl,rfl,rfl⟩
   ·simp [-jA,k0,k2,k3,k4,jB,hst,ze,jD,qbu,kO,JJ,hZl,hZc,hZd,zW,qD,Zm,XE];exact ⟨r,rfl,rfl,rfl⟩
theorem q0w [MaxL] (a b:Sl UInt8) (_:a.l.length < 1000000) (_:b.l.length < 1000000):call cx 122 [(.vsl a.nil (qd a.l) a.l.length),(.vsl b.nil (qd b.l) b.l.length)] [] = some (.bool (a.l == b.l),[]):=by
 have t1:List.take a.l.length (qd a.l) = qd a.l:=qx (by simp);have t2:List.take b.l.length (qd b.l) = qd b.l:=qx (by simp);refine qs Tryz.func122 rfl ⟨rfl,rfl⟩ ?_;simp [Tryz.f122]
theorem qgx [MaxL] (s:Sl UInt8) (p:List UInt8) (hs:s.l.length < 1000000) (hp:p.length < 1000000) (h1:1≤p.length):call cx 108 [(.vsl s.nil (qd s.l) s.l.length),.vsl false (qd p) p.length] [] = some (.bool (pre p s.l),[]):=by
 unfold pre;refine qs Tryz.func108 rfl ⟨rfl,rfl⟩ ?_;by_cases hle:p.length≤s.l.length
 ·have jB:(p.length:Int)≤(s.l.length:Int):=by omega
  have hnn:s.nil = false:=Sl.nn (i:=0) (by omega);have he:=q0w (.of (s.l.take p.length)) (.of p) (by simp;omega) hp;simp only [Sl.of_l,Sl.of_nil] at he;have t1:List.take p.length (qd s.l) = qd (s.l.take p.length):=kw _ _;have l1:(s.l.take p.length).length = p.length:=by simp;omega
  rw [l1] at he;simp [Tryz.f108,jB,hnn,t1,he]
 ·have jB:¬ (p.length:Int)≤(s.l.length:Int):=by omega
  have qt:(s.l.take p.length == p) = false:=by
   refine beq_eq_false_iff_ne.2 fun e=>?_;have:=congrArg List.length e;simp at this;omega
  rw [qt];simp [Tryz.f108,jB]
def It.zero:It:=⟨ID.zero,false,0,0,Rec.zero⟩
theorem qhw {s:List UInt8}:(pu 10 s).getD 0 < 18446744073709551616:=by
 cases h:pu 10 s with
 | none=>decide
 | some v =>
  unfold pu at h;split at h
  ·cases h
  ·exact qcH 10 _ _ _ (by decide) h
theorem qhD (p b:List UInt8):qA (Qn p b:Nat):=by
 have:Qn p b < 18446744073709551616:=qhw;unfold qA;omega
theorem Y8:qA 0:=by unfold qA;decide
theorem Rec.zero_ok:Rec.zero.Ok:=⟨Y8,Y8,Y8⟩
theorem qyd (b:List UInt8):(qb0 b).Ok:=by
 have h1:=qhw (s:=(jO [45] (vh jR (vd b))).1);have h2:=qhw (s:=(jO [45] (vh jR (vd b))).2.1);refine ⟨?_,?_,Rec.zero_ok⟩ <;> (unfold qb0 qA;simp only;omega)
theorem qyP (b:List UInt8):(qb1 b).Ok:=⟨Y8,Y8,qhD _ _,qhD _ _,qhD _ _⟩
theorem qsH {b:List UInt8} {p:Pr} {r:List UInt8} (h:Qm b = some (p,r)):p.name.length≤b.length∧p.value.length≤b.length:=by
 unfold Qm at h;split at h
 ·cases h
 ·split at h
  ·injection h with h;injection h with h _;rw [← h];exact ⟨by simp;omega,kr (qdX _) (by simp)⟩
  ·split at h
   ·cases h
   ·split at h
    ·cases h
    ·injection h with h;injection h with h _;rw [← h];constructor
     ·simp;omega
     ·simp;omega
theorem qnb:∀ (n:Nat) (b:List UInt8),(∀ p∈QW n b,p.name.length≤b.length∧p.value.length≤b.length)∧(QW n b).length≤n
 | 0,b=>⟨fun p h=>by simp [QW] at h,by simp [QW]⟩
 | n+1,b=>by
  rw [QW];cases h:Qm b with
  | none=>exact ⟨fun p h=>by simp at h,by simp⟩
  | some q =>
   obtain ⟨p,r⟩:=q;simp only;obtain ⟨h1,h2⟩:=qnb n r;have hr:=qh7 h;refine ⟨fun x hx=>?_,by simpa using h2⟩;rcases List.mem_cons.1 hx with rfl | hx
   ·exact qsH h
   ·have:=h1 x hx;omega
def ju (b:List UInt8):It:=if pre jR b then qb0 b else qb1 b
theorem qfJ (b:List UInt8):(ju b).Ok:=by
 unfold ju;split
 ·exact qyd b
 ·exact qyP b
theorem qmc (b:List UInt8) (hb:b.length < 1000000):(∀ p∈(ju b).rc.fields.l,Qw p)∧(ju b).rc.fields.l.length < 1000000:=by
 unfold ju;split
 ·exact ⟨fun p hp=>(by cases hp),(by show (0:Nat) < 1000000;decide)⟩
 ·obtain ⟨h1,h2⟩:=qnb 17 (zJ (zJ (zJ (zJ (zJ (zJ b))))));have l1:=Va b;have l2:=Va (zJ b);have l3:=Va (zJ (zJ b));have l4:=Va (zJ (zJ (zJ b)));have l5:=Va (zJ (zJ (zJ (zJ b))));have l6:=Va (zJ (zJ (zJ (zJ (zJ b)))));refine ⟨fun p hp=>?_,?_⟩
  ·obtain ⟨q1,q2⟩:=h1 p hp;exact ⟨by omega,by omega⟩
  ·show (QW 17 _).length < _;omega
def Jd (b:List UInt8):Bool:=zM (ju b) && pre (zH (ju b)) b
def qcE (b:List UInt8):D:=if Jd b then .tup [.agg (Enc.cells (ju b)),.int .i64 (zH (ju b)).length,.int .i64 0] else .tup [.agg (Enc.cells It.zero),.int .i64 0,.int .i64 20]
set_option maxHeartbeats 4000000 in
set_option maxRecDepth 8000 in
theorem qrM [MaxL] (s:Sl UInt8) (hs:s.l.length < 1000000) (hlong:zM (ju s.l) = true→(zH (ju s.l)).length < 1000000∧1≤(zH (ju s.l)).length):call cx 109 [(.vsl s.nil (qd s.l) s.l.length)] [] = some (qcE s.l,[]):=by
 have hok:=qfJ s.l;obtain ⟨hb,hn⟩:=qmc s.l hs;have ht:=qp1 (ju s.l) hok hb hn;have Yj:=qgx s jR hs (by decide) (by decide);obtain ⟨rg,vX⟩:=qyb s hs;obtain ⟨qe,hent,re,rfl⟩:=qyL s hs;have hI:ju s.l = if pre jR s.l then qb0 s.l else qb1 s.l:=rfl;unfold qcE Jd;unfold qbP at ht;generalize ju s.l = it at *;replace Yj:call cx 108 [(.vsl s.nil (qd s.l) s.l.length),.vsl false [.int .u8 95,.int .u8 95,.int .u8 71,.int .u8 65,.int .u8 80,.int .u8 61] 6] [] = some (.bool (pre jR s.l),[]):=Yj;refine qs Tryz.func109 rfl ⟨rfl,rfl⟩ ?_;cases hp:pre jR s.l with
 | true =>
  rw [hp] at hI Yj;simp only [if_true] at hI;rw [← hI] at vX;cases ho:zM it with
  | true =>
   obtain ⟨q1,q2⟩:=hlong ho;rw [ho] at ht;simp only [if_true] at ht;have Zh:=qgx s (zH it) hs q1 q2;have qt:¬ (zH it).length = 0:=(by omega);generalize zH it = t at *;cases hpt:pre t s.l with
   | true =>
    rw [hpt] at Zh;simp [Tryz.f109,Yj,vX,ht,Zh,qt]
   | false =>
    rw [hpt] at Zh;simp [Tryz.f109,Yj,vX,ht,Zh,qt];rfl
  | false =>
   rw [ho] at ht;simp [Tryz.f109,Yj,vX,ht];rfl
 | false =>
  rw [hp] at hI Yj;simp only [vT,if_false] at hI;rw [← hI] at hent;cases ho:zM it with
  | true =>
   obtain ⟨q1,q2⟩:=hlong ho;rw [ho] at ht;simp only [if_true] at ht;have Zh:=qgx s (zH it) hs q1 q2;have qt:¬ (zH it).length = 0:=(by omega);generalize zH it = t at *;cases hpt:pre t s.l with
   | true =>
    rw [hpt] at Zh;simp [Tryz.f109,Yj,hent,ht,Zh,qt]
   | false =>
    rw [hpt] at Zh;simp [Tryz.f109,Yj,hent,ht,Zh,qt];rfl
  | false =>
   rw [ho] at ht;simp [Tryz.f109,Yj,hent,ht];rfl
def JX (t:List UInt8):Option (List UInt8 × Nat):=if za 10 t 0 < 0 then none else some (t.take (za 10 t 0).toNat,(za 10 t 0).toNat+1)
theorem qms (c:UInt8):∀ (l:List UInt8) (n m:Nat),za c l (n+m) = if za c l n < 0 then -1 else za c l n+m
 | [],n,m=>by simp [za]
 | b :: l,n,m=>by
  simp only [za];by_cases hb:b = c
  ·simp only [hb,if_true];rw [if_neg (by omega)];omega
  ·simp only [hb,if_false];have:=qms c l (n+1) m;rw [show n+m+1 = n+1+m by omega];exact this
theorem qxw (c:UInt8) (l:List UInt8):za c l 0 = -1∨∃ i:Nat,i < l.length∧za c l 0 = (i:Int):=by
 rcases qib c l 0 with h | ⟨m,h1,h2⟩
 ·exact .inl h
 ·exact .inr ⟨m,h1,by simpa using h2⟩
set_option maxHeartbeats 2000000 in
theorem qkx [MaxL] (s:Sl UInt8) (hs:s.l.length < 1000000) (at_:Nat) (qW:at_≤s.l.length):call cx 179 [(.vsl s.nil (qd s.l) s.l.length),.int .i64 at_] [] = some (.tup (match JX (s.l.drop at_) with
  | none=>[.str [],.int .i64 0,.bool false]
  | some (t,n)=>[.str t,.int .i64 (at_+n:Nat),.bool true]),[]):=by
 refine qs Tryz.func179 rfl ⟨rfl,rfl⟩ ?_;obtain ⟨r,hr⟩:∃ r,za 10 (s.l.drop at_) at_ = r:=⟨_,rfl⟩
 have h0:=qms 10 (s.l.drop at_) 0 at_
 rw [vQ,hr] at h0;simp [Tryz.f179];refine Run.loopThen (fun (i:Nat) e H'=>at_≤i∧i≤s.l.length∧za 10 (s.l.drop i) i = r∧H' = []∧qf e 0 = some (.vsl s.nil (qd s.l) s.l.length)∧qf e 1 = some (.int .i64 at_)∧qf e 7 = some (.int .i64 i)) (fun i=>s.l.length - i) at_ ?_ ?_
 ·simp [qW,hr]
 rintro i e H' ⟨h1,h2,hR,rfl,k0,k1,k7⟩;by_cases qg:i < s.l.length
 ·have qk:(i:Int) < (s.l.length:Int):=by omega
  have hw:IntKind.i64.wrap ((i:Int)+1) = ((i+1:Nat):Int):=by rw [wrap_i64] <;> omega
  have hnn:=Sl.nn qg;have hA:=jt qg;rw [zm qg,za] at hR;generalize s.l[i] = c at *;by_cases hc:c = 10
  ·rw [if_pos hc] at hR;subst hc
   have qbh:¬ za 10 (s.l.drop at_) 0 < 0:=by
    intro h;rw [if_pos h] at h0;omega
   rw [if_neg qbh] at h0;have VJ:za 10 (s.l.drop at_) 0 = ((i - at_:Nat):Int):=(by omega);have g1:(at_:Int)≤(i:Int):=(by omega);have g2:(i:Int)≤(s.l.length:Int):=(by omega);have g3:((i:Int) - (at_:Int)).toNat = i - at_:=by omega
   have t1:List.take (i - at_) (List.drop at_ (qd s.l)) = qd ((s.l.drop at_).take (i - at_)):=(by rw [Ze,kw]);have t1l:((s.l.drop at_).take (i - at_)).length = i - at_:=by simp;omega
   have t1b:kE (qd ((s.l.drop at_).take (i - at_))) = some ((s.l.drop at_).take (i - at_)):=Y0 _;have t1t:List.take (i - at_) (qd ((s.l.drop at_).take (i - at_))) = qd ((s.l.drop at_).take (i - at_)):=qx (by simp;omega)
   have hP:JX (s.l.drop at_) = some ((s.l.drop at_).take (i - at_),i - at_+1):=by
    unfold JX;rw [if_neg qbh,VJ];rfl
   rw [hP];have e1:at_+(i - at_+1) = i+1:=by omega
   simp only;generalize List.take (i - at_) (List.drop at_ s.l) = t at *;simp [k0,k1,k7,qk,hnn,hA,hw,g1,g2,t1,t1l,t1b];omega
  ·rw [if_neg hc] at hR
   have Zw:¬ (c.toNat:Int) = 10:=by
    intro e;exact hc (UInt8.toNat_inj.1 (by show c.toNat = 10;omega))
   have kN:¬ c.toNat = 10:=(by omega);simp [k0,k1,k7,qk,hnn,hA,hw,Zw];exact ⟨i+1,by omega,by omega,by omega,hR,by omega⟩
 ·have qk:¬ (i:Int) < (s.l.length:Int):=by omega
  rw [zX (by omega),za] at hR
  have qbh:za 10 (s.l.drop at_) 0 < 0:=by
   rcases Int.lt_or_le (za 10 (s.l.drop at_) 0) 0 with h | h
   ·exact h
   ·rw [if_neg (by omega)] at h0;omega
  have hP:JX (s.l.drop at_) = none:=by unfold JX;rw [if_pos qbh]
  rw [hP];simp [k0,k1,k7,qk]
def Q5 (b:List UInt8):Nat→List (List UInt8)→Option (List (List UInt8) × Nat)
 | a,[]=>some ([],a)
 | a,f :: fs=>match JX (b.drop a) with
  | none=>none
  | some (t,n)=>if pre f t then match Q5 b (a+n) fs with
    | none=>none
    | some (l,z)=>some (t.drop f.length :: l,z)
   else none
def Ja (l:List (List UInt8)):List D:=l.map D.str
theorem qj7 (l:List (List UInt8)):idFree.idFreeL (Ja l) = true:=by
 induction l with
 | nil=>rfl
 | cons a l ih=>simp [Ja,idFree] at *;exact ih
theorem qj6 (l:List (List UInt8)):(Ja l).length = l.length:=by simp [Ja]
theorem qfo {t s:List UInt8} {n:Nat} (h:JX t = some (s,n)):n≤t.length∧s.length+1 = n:=by
 unfold JX at h;rcases qxw 10 t with hr | ⟨i,hi,hr⟩
 ·rw [hr,if_pos (by decide)] at h;cases h
 ·rw [hr,if_neg (by omega)] at h;injection h with h;injection h with h1 h2;subst h1;subst h2;have e:((i:Int)).toNat = i:=by omega
  rw [e];refine ⟨by omega,?_⟩;simp;omega
theorem qdY {b:List UInt8}:∀ {fs:List (List UInt8)} {a z:Nat} {l:List (List UInt8)},a≤b.length→Q5 b a fs = some (l,z)→z≤b.length∧l.length = fs.length∧∀ s∈l,s.length≤b.length
 | [],a,z,l,ha,h=>by
  simp only [Q5,qu,qN] at h;obtain ⟨rfl,rfl⟩:=h;exact ⟨ha,rfl,fun s hs=>by cases hs⟩
 | f :: fs,a,z,l,ha,h=>by
  rw [Q5] at h;cases hr:JX (b.drop a) with
  | none=>rw [hr] at h;cases h
  | some q =>
   obtain ⟨t,n⟩:=q;rw [hr] at h;simp only at h;obtain ⟨k1,k2⟩:=qfo hr;simp only [jU] at k1;split at h
   ·cases hl:Q5 b (a+n) fs with
    | none=>rw [hl] at h;cases h
    | some q =>
     obtain ⟨l',z'⟩:=q;rw [hl] at h;simp only [qu,qN] at h;obtain ⟨rfl,rfl⟩:=h;obtain ⟨q1,q2,q3⟩:=qdY (by omega) hl;refine ⟨q1,by simp [q2],fun s hs=>?_⟩;rcases List.mem_cons.1 hs with rfl | hs
     ·rw [jU];omega
     ·exact q3 s hs
   ·cases h
theorem qpG {l:List (List UInt8)} {k:Nat} (h:k < l.length):List.drop k (Ja l) = .str l[k] :: Ja (l.drop (k+1)):=by
 unfold Ja;rw [← List.map_drop,zm h];rfl
theorem qpE (l:List (List UInt8)) (t:List UInt8):Ja l ++ [.str t] = Ja (l ++ [t]):=by simp [Ja]
set_option maxHeartbeats 4000000 in
theorem qkw [MaxL] (s:Sl UInt8) (hs:s.l.length < 1000000) (fs:List (List UInt8)) (hf:∀ f∈fs,f.length < 1000) (h1:1≤fs.length) (jf:fs.length≤10):call cx 177 [(.vsl s.nil (qd s.l) s.l.length),.vsl false (Ja fs) fs.length] [] = some (.tup (match Q5 s.l 0 fs with
  | none=>[.vsl true [] 0,.int .i64 0,.bool false]
  | some (l,z)=>[.vsl false (Ja l) l.length,.int .i64 (z:Nat),.bool true]),[]):=by
 refine qs Tryz.func177 rfl ⟨rfl,rfl⟩ ?_;obtain ⟨R,hR⟩:∃ R,Q5 s.l 0 fs = R:=⟨_,rfl⟩;rw [hR];simp [Tryz.f177]
 refine Run.loopThen (fun (q:Nat × Nat × List (List UInt8)) e H'=>q.1≤fs.length∧q.2.1≤s.l.length∧q.2.2.length = q.1∧(match Q5 s.l q.2.1 (fs.drop q.1) with | none=>none | some (l,z)=>some (q.2.2 ++ l,z)) = R ∧
   ((q.2.2 = []∧H' = []∧qf e 7 = some (.vsl true [] 0))∨(∃ n,n = q.2.2.length∧q.2.2≠[]∧H' = [some (Ja q.2.2)]∧qf e 7 = some (.osl 0 n 0 n 1))) ∧
   qf e 0 = some (.vsl s.nil (qd s.l) s.l.length)∧qf e 1 = some (.vsl false (Ja fs) fs.length)∧qf e 8 = some (.int .i64 (q.2.1:Nat))∧qf e 9 = some (.int .i64 (q.1:Nat))) (fun q=>fs.length - q.1) (0,0,[]) ?_ ?_
 ·refine ⟨by omega,by simp,rfl,?_,.inl ⟨rfl,rfl,by simp⟩,by simp,by simp,by simp,by simp⟩;simp only [List.drop_zero,ZW];rw [hR];cases R <;> rfl
 rintro ⟨k,a,o⟩ e H' ⟨hk,ha,ho,hG,hH,k0,k1,k8,k9⟩;simp only at hk ha ho hG hH k8 k9;by_cases qg:k < fs.length
 ·have qk:(k:Int) < (fs.length:Int):=by omega
  have hw:IntKind.i64.wrap ((k:Int)+1) = ((k+1:Nat):Int):=by rw [wrap_i64] <;> omega
  have hA:=qpG qg;have hfk:=hf _ (vw qg);rw [zm qg,Q5] at hG;have hl:=qkx s hs a ha;cases hr:JX (s.l.drop a) with
  | none =>
   rw [hr] at hG hl;simp only at hG hl;subst hG;rcases hH with ⟨rfl,rfl,k7⟩ | ⟨n,hn,qt,rfl,k7⟩ <;> simp [k0,k1,k7,k8,k9,qk,hl]
  | some q =>
   obtain ⟨t,n1⟩:=q;rw [hr] at hG hl;simp only at hG hl;obtain ⟨r1,r2⟩:=qfo hr;simp only [jU] at r1;have jN:=qdh t fs[k] (by omega) (by omega);generalize fs[k] = f at *;cases hp:pre f t with
   | false =>
    rw [hp] at hG jN;simp only [vT,if_false] at hG jN;subst hG;rcases hH with ⟨rfl,rfl,k7⟩ | ⟨n,hn,qt,rfl,k7⟩ <;> simp [k0,k1,k7,k8,k9,qk,hl,hA,jN]
   | true =>
    rw [hp] at hG jN;simp only [if_true] at hG jN;have han:((a+n1:Nat):Int) = (a:Int)+(n1:Int):=(by omega);rcases hH with ⟨rfl,rfl,k7⟩ | ⟨n,hn,qt,rfl,k7⟩
    ·have kj:k = 0:=(by simpa using ho.symm);simp [k0,k1,k7,k8,k9,qk,hl,hA,jN,qI];refine ⟨k+1,by omega,by omega,a+n1,by omega,[t.drop f.length],by simp [kj],?_,⟨by simp,rfl,rfl⟩,by omega,hw⟩;rw [← hG];cases Q5 s.l (a+n1) (fs.drop (k+1)) <;> rfl
    ·have hsl:=qj6 o;have hsf:=qj7 o
     have hsa:(∀ x,x∈Ja o→idFree x = true) = True:=eq_true (by
      rw [qcQ] at hsf;exact List.all_eq_true.1 hsf)
     have zZ:(n+1) * 16≤140737488355328:=(by omega);have zB:n≤140737488355327:=(by omega);simp [k0,k1,k7,k8,k9,qk,hl,hA,jN,hsl,hsa,← hn,zZ,zB,qI];refine ⟨k+1,by omega,by omega,a+n1,by omega,o ++ [t.drop f.length],by simp [ho],?_,⟨by simp,by rw [qpE],by simp;omega⟩,by omega,hw⟩;rw [← hG];cases Q5 s.l (a+n1) (fs.drop (k+1)) <;> simp
 ·have qk:¬ (k:Int) < (fs.length:Int):=by omega
  rw [zX (by omega),Q5] at hG;simp only [Z2] at hG;subst hG;rcases hH with ⟨rfl,rfl,k7⟩ | ⟨n,hn,qt,rfl,k7⟩
  ·exfalso;simp only [qX] at ho;omega
  ·have hsl:=qj6 o;have hsf:=qj7 o;have qz:List.take n (Ja o) = Ja o:=qx (by rw [hsl,hn];exact qB _);simp [k0,k1,k7,k8,k9,qk,hsl,hsf,qz,← hn]
theorem qhG (x:Nat) (y:Nat) (hy:y < 256) (hx:x < 256 ^ 7):IntKind.u64.wrap (IntKind.u64.wrap ((x:Int) * 256)+(y:Int)) = ((x * 256+y:Nat):Int):=by
 have e1:IntKind.u64.wrap ((x:Int) * 256) = ((x * 256:Nat):Int):=by
  rw [qU] <;> omega
 rw [e1,qU] <;> omega
set_option maxHeartbeats 1000000 in
theorem qk4 [MaxL] (s:Sl UInt8) (a:Nat) (h:a+8≤s.l.length) (_:s.l.length < 4611686018427387904) :
  call cx 117 [(.vsl s.nil (qd s.l) s.l.length),.int .i64 a,.int .i64 8] [] = some (.tup [.int .u64 (leN ((s.l.drop a).take 8)),.bool true],[]):=by
 have hnn:s.nil = false:=Sl.nn (i:=a) (by omega);have g0:¬ (a:Int) < 0:=by omega
 have g1:¬ (s.l.length:Int) < (a:Int):=by omega
 have hw:IntKind.i64.wrap ((s.l.length:Int) - (a:Int)) = (s.l.length:Int) - (a:Int):=by rw [wrap_i64];omega
 have g2:¬ (s.l.length:Int) - (a:Int) < 8:=by omega
 refine qs Tryz.func117 rfl ⟨rfl,rfl⟩ ?_;simp [Tryz.f117,hnn,g0,g1,hw,g2];refine Run.loopThen (fun (i:Nat) e H=>i≤8∧H = []∧qf e 0 = some (.vsl s.nil (qd s.l) s.l.length)∧qf e 1 = some (.int .i64 a)∧qf e 8 = some (.int .u64 (leN ((s.l.drop (a+i)).take (8 - i)):Nat))∧qf e 9 = some (.int .i64 ((i:Int) - 1))) (fun i=>i) 8 (by simp [leN,hnn]) ?_;rintro i e H ⟨hi,rfl,h0,h1,h8,h9⟩;cases i with
 | zero=>simp [h0,h1,h8,h9]
 | succ j =>
  have hj:(0:Int)≤(j:Int):=by omega
  have JG:IntKind.i64.wrap ((a:Int)+(j:Int)) = ((a+j:Nat):Int):=by rw [wrap_i64] <;> omega
  have jX:IntKind.i64.wrap ((j:Int) - 1) = (j:Int) - 1:=by rw [wrap_i64];omega
  have qg:a+j < s.l.length:=by omega
  have e1:((j+1:Nat):Int) - 1 = (j:Int):=by omega
  rw [e1] at h9
  have hd:(s.l.drop (a+j)).take (8 - j) = s.l[a+j] :: (s.l.drop (a+(j+1))).take (8 - (j+1)):=by
   rw [zm qg,show 8 - j = (8 - (j+1))+1 by omega,qeG,Vz]
  have VD:leN ((s.l.drop (a+(j+1))).take (8 - (j+1))) < 256 ^ 7:=by
   refine jP (X4 _) (Y4 (by decide) ?_);rw [js];omega
  have hst:=qhG (leN ((s.l.drop (a+(j+1))).take (8 - (j+1)))) s.l[a+j].toNat s.l[a+j].toNat_lt VD;have vB:IntKind.u64.wrap (s.l[a+j].toNat:Int) = (s.l[a+j].toNat:Int):=by rw [qU];have:=s.l[a+j].toNat_lt;omega
  have g1:(0:Int)≤(a:Int)+(j:Int):=by omega
  have g2:(a:Int)+(j:Int) < (s.l.length:Int):=by omega
  have g3:((a:Int)+(j:Int)).toNat = a+j:=by omega
  simp [h0,h1,h8,h9,hj,JG,jX,vB,hnn,g1,g2,g3,jt qg,-Nat.reduceSubDiff];rw [hst];clear VD hst vB;exact ⟨j,by omega,by omega,by rw [hd,leN,Nat.mul_comm,Nat.add_comm],rfl⟩
theorem qr0 [MaxL] (s:Sl UInt8) (a:Nat) (ha:a≤s.l.length) (h:s.l.length < a+8) (_:s.l.length < 4611686018427387904) :
  call cx 117 [(.vsl s.nil (qd s.l) s.l.length),.int .i64 a,.int .i64 8] [] = some (.tup [.int .u64 0,.bool false],[]):=by
 have g0:¬ (a:Int) < 0:=by omega
 have g1:¬ (s.l.length:Int) < (a:Int):=by omega
 have hw:IntKind.i64.wrap ((s.l.length:Int) - (a:Int)) = (s.l.length:Int) - (a:Int):=by rw [wrap_i64];omega
 have g2:(s.l.length:Int) - (a:Int) < 8:=by omega
 refine qs Tryz.func117 rfl ⟨rfl,rfl⟩ ?_;simp [Tryz.f117,g0,g1,hw,g2]
def J0 (b:List UInt8):Pr × Int :=
 if za 61 b 0 < 0 then (⟨[],[]⟩,20)
 else if kZ (b.take (za 61 b 0).toNat) = false then (⟨[],[]⟩,20)
 else if 256 < b.length - (za 61 b 0).toNat - 1 then (⟨[],[]⟩,21)
 else (⟨b.take (za 61 b 0).toNat,b.drop ((za 61 b 0).toNat+1)⟩,0)
set_option maxHeartbeats 4000000 in
theorem qqQ [MaxL] (s:List UInt8) (hs:s.length < 1000000):call cx 180 [.vsl false (qd s) s.length] [] = some (.tup [.agg [.str (J0 s).1.name,.str (J0 s).1.value],.int .i64 (J0 s).2],[]):=by
 refine qs Tryz.func180 rfl ⟨rfl,rfl⟩ ?_;obtain ⟨r,hr⟩:∃ r,za 61 s 0 = r:=⟨_,rfl⟩;simp [Tryz.f180];refine Run.loopThen (fun (i:Nat) e H'=>i≤s.length∧za 61 (s.drop i) i = r∧H' = [some [.str [],.str []]]∧qf e 0 = some (.vsl false (qd s) s.length)∧qf e 2 = some (.optr 0 2 0)∧qf e 4 = some (.int .i64 i)) (fun i=>s.length - i) 0 ?_ ?_
 ·simpa using hr
 rintro i e H' ⟨h2,hR,rfl,k0,k2,k4⟩;by_cases qg:i < s.length
 ·have qk:(i:Int) < (s.length:Int):=by omega
  have hw:IntKind.i64.wrap ((i:Int)+1) = ((i+1:Nat):Int):=by rw [wrap_i64] <;> omega
  have hA:=jt qg;rw [zm qg,za] at hR;generalize s[i] = c at *;by_cases hc:c = 61
  ·rw [if_pos hc] at hR;subst hc;have g2:(i:Int)≤(s.length:Int):=(by omega);have t1:List.take i (qd s) = qd (s.take i):=kw _ _;have t1l:(s.take i).length = i:=(by simp;omega);have t1b:kE (qd (s.take i)) = some (s.take i):=Y0 _;have t1t:List.take i (qd (s.take i)) = qd (s.take i):=qx (by simp;omega);have ZD:=qks (s.take i) (by omega)
   have hP:J0 s = if kZ (s.take i) = false then (⟨[],[]⟩,20) else if 256 < s.length - i - 1 then (⟨[],[]⟩,21) else (⟨s.take i,s.drop (i+1)⟩,0):=by
    unfold J0;rw [hr,← hR,if_neg (by omega)];rfl
   rw [hP];have w1:IntKind.i64.wrap ((s.length:Int) - (i:Int)) = (s.length:Int) - (i:Int):=(by rw [wrap_i64];omega);have w2:IntKind.i64.wrap ((s.length:Int) - (i:Int) - 1) = (s.length:Int) - (i:Int) - 1:=(by rw [wrap_i64];omega);cases hn:kZ (s.take i) with
   | false =>
    rw [hn] at ZD;simp [k0,k2,k4,qk,hA,g2,t1,t1l,t1b,ZD]
   | true =>
    rw [hn] at ZD;by_cases hb:256 < s.length - i - 1
    ·have zq:(256:Int) < (s.length:Int) - (i:Int) - 1:=(by omega);simp [k0,k2,k4,qk,hA,g2,t1,t1l,t1b,ZD,w1,w2,hb,zq]
    ·have zq:¬ (256:Int) < (s.length:Int) - (i:Int) - 1:=(by omega);obtain ⟨j,hj⟩:∃ j,j = i+1:=⟨_,rfl⟩;rw [← hj] at hw;have g3:(j:Int)≤(s.length:Int):=(by omega);have g3n:j≤s.length:=(by omega);have g4:((s.length:Int) - (j:Int)).toNat = s.length - j:=by omega
     have t2:List.take (s.length - j) (List.drop j (qd s)) = qd (s.drop j):=by
      rw [Ze];exact qx (by simp)
     have t2l:(s.drop j).length = s.length - j:=(by simp);have t2b:kE (qd (s.drop j)) = some (s.drop j):=Y0 _;have t2t:List.take (s.length - j) (qd (s.drop j)) = qd (s.drop j):=qx (by simp);simp only [hb,if_false,Bool.true_eq_false,← hj];simp [k0,k2,k4,qk,hA,g2,t1,t1l,t1b,ZD,w1,w2,zq,hw,g3,t2,t2l,t2b]
  ·rw [if_neg hc] at hR
   have Zw:¬ (c.toNat:Int) = 61:=by
    intro e;exact hc (UInt8.toNat_inj.1 (by show c.toNat = 61;omega))
   have kN:¬ c.toNat = 61:=(by omega);simp [k0,k2,k4,qk,hA,hw,Zw];exact ⟨i+1,by omega,by omega,hR,by omega⟩
 ·have qk:¬ (i:Int) < (s.length:Int):=by omega
  rw [zX (by omega),za] at hR
  have hP:J0 s = (⟨[],[]⟩,20):=by
   unfold J0;rw [hr,← hR,if_pos (by decide)]
  rw [hP];simp [k0,k2,k4,qk]
def Ke (b:List UInt8):It × Nat × Bool:=match Q5 b 0 [jR,jW,[]] with
 | some ([x,y,_],z)=>if za 45 x 0 < 0 then (It.zero,0,false)
  else (⟨Kn y,true,((jd (x.take (za 45 x 0).toNat)).getD 0:Nat),((jd (x.drop ((za 45 x 0).toNat+1))).getD 0:Nat),Rec.zero⟩,z,(vU y).isSome && (jd (x.take (za 45 x 0).toNat)).isSome && (jd (x.drop ((za 45 x 0).toNat+1))).isSome)
 | _=>(It.zero,0,false)
theorem qd6 [MaxL] (s:List UInt8) (hs:s.length < 1000000):call cx 114 [.str s] [] = some (.tup [.int .u64 ((jd s).getD 0:Nat),.bool (jd s).isSome],[]):=by
 have h:=qfm s hs;rw [h];cases jd s <;> rfl
def qd9 (q:It × Nat × Bool):D:=.tup [.agg (Enc.cells q.1),.int .i64 (q.2.1:Nat),.bool q.2.2]
set_option maxHeartbeats 4000000 in
set_option maxRecDepth 8000 in
theorem qr4 [MaxL] (s:Sl UInt8) (hs:s.l.length < 1000000):call cx 151 [(.vsl s.nil (qd s.l) s.l.length)] [] = some (qd9 (Ke s.l),[]):=by
 have hl:=qkw s hs [jR,jW,[]] (by intro f hf;simp only [qbG,List.not_mem_nil,or_false] at hf;rcases hf with rfl | rfl | rfl <;> decide) (by decide) (by decide);replace hl:call cx 177 [(.vsl s.nil (qd s.l) s.l.length),.vsl false [.str [95,95,71,65,80,61],.str [95,95,83,69,81,78,85,77,95,73,68,61],.str []] 3] [] = _:=hl;unfold Ke qd9;refine qs Tryz.func151 rfl ⟨rfl,rfl⟩ ?_;cases hL:Q5 s.l 0 [jR,jW,[]] with
 | none =>
  rw [hL] at hl;simp only at hl;simp [Tryz.f151,hl];rfl
 | some q =>
  obtain ⟨l,z⟩:=q;rw [hL] at hl;obtain ⟨z1,z2,z3⟩:=qdY (jk _) hL
  match l,z2,z3,hl with
  | [x,y,w],_,z3,hl =>
   have hx:=z3 x (by simp);have hy:=z3 y (by simp);simp only at hl;replace hl:call cx 177 [(.vsl s.nil (qd s.l) s.l.length),.vsl false [.str [95,95,71,65,80,61],.str [95,95,83,69,81,78,85,77,95,73,68,61],.str []] 3] [] = some (.tup [.vsl false [.str x,.str y,.str w] 3,.int .i64 z,.bool true],[]):=hl;have Qd:=qk3 y (by omega);replace Qd:call cx 178 [.str y] [] = some (.tup [.agg (qd (Kn y).l),.bool (vU y).isSome],[]):=Qd;have hq:=(Kn y).h;simp only;generalize Kn y = q at *;generalize (vU y).isSome = ob at *;have KU:List.take 16 (qd q.l) = qd q.l:=qx (by simp);have qbe:List.take 39 (qd q.l) = qd q.l:=qx (by simp);have z16:qd ID.zero.l = [.int .u8 0,.int .u8 0,.int .u8 0,.int .u8 0,.int .u8 0,.int .u8 0,.int .u8 0,.int .u8 0,.int .u8 0,.int .u8 0,.int .u8 0,.int .u8 0,.int .u8 0,.int .u8 0,.int .u8 0,.int .u8 0]:=rfl;obtain ⟨r,hr⟩:∃ r,za 45 x 0 = r:=⟨_,rfl⟩;rw [hr];simp [Tryz.f151,hl,Qd,hq,KU]
   refine Run.loopThen (fun (i:Nat) e H'=>i≤x.length∧za 45 (x.drop i) i = r∧H' = [some (Enc.cells It.zero),some (qd q.l ++ .bool true :: (Enc.cells It.zero).drop 17),some (qd q.l)] ∧
     qf e 2 = some (.optr 0 39 0)∧qf e 5 = some (.vsl false [.str x,.str y,.str w] 3)∧qf e 6 = some (.int .i64 z)∧qf e 8 = some (.optr 1 39 0)∧qf e 10 = some (.bool ob)∧qf e 11 = some (.int .i64 i)) (fun i=>x.length - i) 0 ?_ ?_
   ·refine ⟨by omega,by simpa using hr,rfl,by simp,by simp,by simp,by simp,by simp,by simp⟩
   rintro i e H' ⟨h2,hR,rfl,k2,k5,k6,k8,k10,k11⟩;by_cases qg:i < x.length
   ·have qk:(i:Int) < (x.length:Int):=(by omega);have hw:IntKind.i64.wrap ((i:Int)+1) = ((i+1:Nat):Int):=(by rw [wrap_i64] <;> omega);have hxi:x[i]? = some x[i]:=zi qg;rw [zm qg,za] at hR;generalize x[i] = c at *;by_cases hc:c = 45
    ·rw [if_pos hc] at hR;subst hc;have qbh:¬ r < 0:=(by omega);have hrn:r.toNat = i:=(by omega);have g2:(i:Int)≤(x.length:Int):=(by omega);have n1:=qd6 (x.take i) (by simp;omega);have n2:=qd6 (x.drop (i+1)) (by simp;omega);obtain ⟨j,hj⟩:∃ j,j = i+1:=⟨_,rfl⟩;rw [← hj] at hw n2;have g3:(j:Int)≤(x.length:Int):=(by omega);have g3n:j≤x.length:=(by omega);have g4:((x.length:Int) - (j:Int)).toNat = x.length - j:=(by omega);have t2:List.take (x.length - j) (List.drop j x) = List.drop j x:=qx (by simp);simp only [qbh,if_false,hrn,← hj];generalize (jd (List.take i x)).getD 0 = v1 at *;generalize (jd (List.take i x)).isSome = b1 at *;generalize (jd (List.drop j x)).getD 0 = v2 at *;generalize (jd (List.drop j x)).isSome = b2 at *;cases ob <;> cases b1 <;> cases b2 <;> simp [k2,k5,k6,k8,k10,k11,qk,hxi,hw,g2,g3,t2,n1,n2,It.cells,It.zero,Rec.zero,z16,hq,qbe,zW,qD,zC]
    ·rw [if_neg hc] at hR
     have Zw:¬ (c.toNat:Int) = 45:=by
      intro e;exact hc (UInt8.toNat_inj.1 (by show c.toNat = 45;omega))
     have kN:¬ c.toNat = 45:=(by omega);simp [k2,k5,k6,k8,k10,k11,qk,hxi,hw,Zw];exact ⟨i+1,by omega,by omega,hR,by omega⟩
   ·have qk:¬ (i:Int) < (x.length:Int):=(by omega);rw [zX (by omega),za] at hR;have qbh:r < 0:=(by omega);simp only [qbh,if_true];simp [k2,k5,k6,k8,k10,k11,qk];rfl
def Zc (b:List UInt8):Nat→Nat→Option (List Pr × Nat)
 | 0,_=>none
 | n+1,a=>match JX (b.drop a) with
  | none=>none
  | some (t,k)=>if t = [] then some ([],a+k)
   else if (J0 t).2 = 0 then match Zc b n (a+k) with
    | none=>none
    | some (l,z)=>some ((J0 t).1 :: l,z)
   else if b.length < a+k+8 then none
   else if 256 < leN ((b.drop (a+k)).take 8)∨b.length - (a+k) - 8≤leN ((b.drop (a+k)).take 8)∨b.getD (a+k+8+leN ((b.drop (a+k)).take 8)) 0≠10 then none
   else match Zc b n (a+k+8+leN ((b.drop (a+k)).take 8)+1) with
    | none=>none
    | some (l,z)=>some (⟨t,(b.drop (a+k+8)).take (leN ((b.drop (a+k)).take 8))⟩ :: l,z)
def qd4:List (List UInt8):=[KQ,JE,JF,JD,jW,Z8]
def YC (b:List UInt8):It × Nat × Bool:=match Q5 b 0 qd4 with
 | some ([_,x1,x2,x3,x4,x5],z) =>
  if (jd x1).isSome && (jd x2).isSome && (jd x3).isSome && (vU x4).isSome && (vU x5).isSome then
   match Zc b 17 z with
   | none=>(It.zero,0,false)
   | some (l,z')=>(⟨Kn x4,false,0,0,⟨((jd x3).getD 0:Nat),((jd x1).getD 0:Nat),((jd x2).getD 0:Nat),Kn x5,Zm l⟩⟩,z',true)
  else (It.zero,0,false)
 | _=>(It.zero,0,false)
theorem qk2 [MaxL] (s:List UInt8) (hs:s.length < 1000000):call cx 178 [.str s] [] = some (.tup [.agg (qd (Kn s).l),.bool (vU s).isSome],[]):=qk3 s hs
theorem qpS {X:List D} (hX:idFree.idFreeL X = true) {fs:List Pr} {i n k:Nat} (m:Nat) (hn:fs.length * 2 = n) (hk:fs.length = k) {H:qi} (hg:(H[i]?).getD none = some (qh fs)):jA H (m+2) (.agg (X ++ [.osl i n 0 k 2])) = some (.agg (X ++ [.vsl false (qh fs) k]),[i]):=by
 have h8:jA H (m+1) (.osl i n 0 k 2) = some (.vsl false (qh fs) k,[i]):=by
  rw [jA,if_neg (by simp [idFree])];have hl:(qh fs).length = n:=by simp [hn]
  have h0:0+k * 2≤n:=by omega
  simp only [qq,hg];rw [if_pos ⟨hl,h0⟩,if_pos (by simp),List.drop_zero,qx (by simp;omega)]
 rw [jA,if_neg (by simp [idFree])];simp only [qeX,qeW hX,v7,h8];rfl
theorem qpR {X:List D} (hX:idFree.idFreeL X = true) {fs:List Pr} {i n k:Nat} (hn:fs.length * 2 = n) (hk:fs.length = k) {H:qi} (hg:(H[i]?).getD none = some (qh fs)) (z:Int) (b:Bool):jA H 9 (.tup [.agg (X ++ [.osl i n 0 k 2]),.int .i64 z,.bool b]) = some (.tup [.agg (X ++ [.vsl false (qh fs) k]),.int .i64 z,.bool b],[i]):=by
 have h1:=qpS hX 6 hn hk hg;rw [jA,if_neg (by simp [idFree])];have h2:jA H 8 (.int .i64 z) = some (.int .i64 z,[]):=qgL rfl;have h3:jA H 8 (.bool b) = some (.bool b,[]):=qgL rfl;simp only [v7,h1,h2,h3];rfl
def q1f (X:List D) (fs:List Pr) (H:qi):Prop :=
 (fs = []∧H = [some (Enc.cells It.zero),some (X ++ [.vsl true [] 0]),some [.bool true,.bool true,.bool true,.bool true,.bool true]]) ∨
 (fs≠[]∧∃ (n k:Nat) (c3:List UInt8) (t u:Pr),n = fs.length * 2∧k = fs.length ∧
  (H = [some (Enc.cells It.zero),some (X ++ [.osl 6 n 0 k 2]),some [.bool true,.bool true,.bool true,.bool true,.bool true],some (qd c3),some [.str t.name,.str t.value],some [.str u.name,.str u.value],some (qh fs)] ∨
  (∃ (c:List UInt8) (v w:Option (List D)),H = [some (Enc.cells It.zero),some (X ++ [.osl 6 n 0 k 2]),some [.bool true,.bool true,.bool true,.bool true,.bool true],some (qd c3),some [.str t.name,.str t.value],some [.str u.name,.str u.value],some (qh fs),some (qd c),v,w]) ∨
  (∃ (c:List UInt8) (v w y:Option (List D)),H = [some (Enc.cells It.zero),some (X ++ [.osl 6 n 0 k 2]),some [.bool true,.bool true,.bool true,.bool true,.bool true],some (qd c3),some [.str t.name,.str t.value],some [.str u.name,.str u.value],some (qh fs),some (qd c),v,w,y])))
theorem qhj (b:List UInt8):∀ (n a:Nat) (l:List Pr) (z:Nat),a≤b.length→Zc b n a = some (l,z)→z≤b.length∧l.length≤n∧∀ p∈l,p.name.length≤b.length∧p.value.length≤b.length
 | 0,a,l,z,_,h=>by cases h
 | n+1,a,l,z,ha,h=>by
  rw [Zc] at h;cases hr:JX (b.drop a) with
  | none=>rw [hr] at h;cases h
  | some q =>
   obtain ⟨t,k⟩:=q;rw [hr] at h;obtain ⟨k1,k2⟩:=qfo hr;simp only [jU] at k1;simp only at h;split at h
   ·injection h with h;injection h with h1 h2;subst h1;subst h2;exact ⟨by omega,by simp,fun p hp=>by cases hp⟩
   ·split at h
    ·cases hl:Zc b n (a+k) with
     | none=>rw [hl] at h;cases h
     | some q =>
      obtain ⟨l',z'⟩:=q;rw [hl] at h;injection h with h;injection h with h1 h2;subst h1;subst h2;obtain ⟨q1,q2,q3⟩:=qhj b n (a+k) l' z' (by omega) hl;refine ⟨q1,by simpa using q2,fun p hp=>?_⟩;rcases List.mem_cons.1 hp with rfl | hp
      ·unfold J0;split
       ·exact ⟨jk _,jk _⟩
       ·split
        ·exact ⟨jk _,jk _⟩
        ·split
         ·exact ⟨jk _,jk _⟩
         ·constructor
          ·simp;omega
          ·simp;omega
      ·exact q3 p hp
    ·split at h
     ·cases h
     ·split at h
      ·cases h
      ·rename_i zT;simp only [not_or,Nat.not_lt,Nat.not_le] at zT;cases hl:Zc b n (a+k+8+leN ((b.drop (a+k)).take 8)+1) with
       | none=>rw [hl] at h;cases h
       | some q =>
        obtain ⟨l',z'⟩:=q;rw [hl] at h;injection h with h;injection h with h1 h2;subst h1;subst h2;obtain ⟨q1,q2,q3⟩:=qhj b n _ l' z' (by omega) hl;refine ⟨q1,by simpa using q2,fun p hp=>?_⟩;rcases List.mem_cons.1 hp with rfl | hp
        ·constructor
         ·show t.length≤_;omega
         ·simp;omega
        ·exact q3 p hp
set_option maxHeartbeats 4000000 in
set_option maxRecDepth 8000 in
theorem qrH [MaxL] (s:Sl UInt8) (hs:s.l.length < 1000000):call cx 152 [(.vsl s.nil (qd s.l) s.l.length)] [] = some (qd9 (YC s.l),[]):=by
 have hl:=qkw s hs qd4 (by intro f hf;simp only [qd4,qbG,List.not_mem_nil,or_false] at hf;rcases hf with rfl | rfl | rfl | rfl | rfl | rfl <;> decide) (by decide) (by decide);replace hl:call cx 177 [(.vsl s.nil (qd s.l) s.l.length),.vsl false [.str [95,95,67,85,82,83,79,82,61],.str [95,95,82,69,65,76,84,73,77,69,95,84,73,77,69,83,84,65,77,80,61],.str [95,95,77,79,78,79,84,79,78,73,67,95,84,73,77,69,83,84,65,77,80,61],.str [95,95,83,69,81,78,85,77,61],.str [95,95,83,69,81,78,85,77,95,73,68,61],.str [95,66,79,79,84,95,73,68,61]] 6] [] = _:=hl;have z16:qd ID.zero.l = [.int .u8 0,.int .u8 0,.int .u8 0,.int .u8 0,.int .u8 0,.int .u8 0,.int .u8 0,.int .u8 0,.int .u8 0,.int .u8 0,.int .u8 0,.int .u8 0,.int .u8 0,.int .u8 0,.int .u8 0,.int .u8 0]:=rfl;unfold YC qd9;refine qs Tryz.func152 rfl ⟨rfl,rfl⟩ ?_;cases hL:Q5 s.l 0 qd4 with
 | none =>
  rw [hL] at hl;simp only at hl;simp [Tryz.f152,hl];rfl
 | some q =>
  obtain ⟨l,z⟩:=q;rw [hL] at hl;obtain ⟨z1,z2,z3⟩:=qdY (jk _) hL
  match l,z2,z3,hl with
  | [x0,x1,x2,x3,x4,x5],_,z3,hl =>
   have VA:=z3 x1 (by simp);have Kp:=z3 x2 (by simp);have hx3:=z3 x3 (by simp);have hx4:=z3 x4 (by simp);have hx5:=z3 x5 (by simp);simp only at hl;replace hl:call cx 177 [(.vsl s.nil (qd s.l) s.l.length),.vsl false [.str [95,95,67,85,82,83,79,82,61],.str [95,95,82,69,65,76,84,73,77,69,95,84,73,77,69,83,84,65,77,80,61],.str [95,95,77,79,78,79,84,79,78,73,67,95,84,73,77,69,83,84,65,77,80,61],.str [95,95,83,69,81,78,85,77,61],.str [95,95,83,69,81,78,85,77,95,73,68,61],.str [95,66,79,79,84,95,73,68,61]] 6] [] = some (.tup [.vsl false [.str x0,.str x1,.str x2,.str x3,.str x4,.str x5] 6,.int .i64 z,.bool true],[]):=hl;have n1:=qd6 x1 (by omega);have n2:=qd6 x2 (by omega);have n3:=qd6 x3 (by omega);have i4:=qk2 x4 (by omega);have i5:=qk2 x5 (by omega);have hq:=(Kn x4).h;have hb:=(Kn x5).h;simp only;generalize Kn x4 = q at *;generalize Kn x5 = bt at *;generalize (jd x1).getD 0 = rl at *;generalize (jd x2).getD 0 = mn at *;generalize (jd x3).getD 0 = sq at *;generalize (jd x1).isSome = b1 at *;generalize (jd x2).isSome = b2 at *;generalize (jd x3).isSome = b3 at *;generalize (vU x4).isSome = b4 at *;generalize (vU x5).isSome = b5 at *;have KU:List.take 16 (qd q.l) = qd q.l:=qx (by simp);have hb16:List.take 16 (qd bt.l) = qd bt.l:=qx (by simp);by_cases vg:(b1 && b2 && b3 && b4 && b5) = true
   ·simp only [qT] at vg;obtain ⟨⟨⟨⟨rfl,rfl⟩,rfl⟩,rfl⟩,rfl⟩:=vg;simp only [Bool.and_self,if_true];obtain ⟨R,hR⟩:∃ R,Zc s.l 17 z = R:=⟨_,rfl⟩;rw [hR];have jD:=qn2 q sq rl mn bt;have JJ:=qn3 q sq rl mn bt;have QQ:∀ l:List Pr,Enc.cells (⟨q,false,0,0,⟨(sq:Nat),(rl:Nat),(mn:Nat),bt,Zm l⟩⟩:It) = Xd q sq rl mn bt ++ [(.vsl (Zm l).nil (qh (Zm l).l) (Zm l).l.length)]:=fun l=>by rw [It.cells];simp [Xd]
    obtain ⟨X,hX⟩:∃ X,X = Xd q sq rl mn bt:=⟨_,rfl⟩;simp [Tryz.f152,hl,n1,n2,n3,i4,i5,hq,hb,zW,qD,zC];clear n1 n2 n3 i4 i5 hl;rw [← hX] at jD JJ;simp only [← hX] at QQ;have hXd:List.drop 38 X = []:=zX (by omega);have Xb:List.drop 39 X = []:=zX (by omega);have hXt:List.take 38 X = X:=qx (by omega);have qbu:List.take 39 X = X:=qx (by omega)
    have kO:∀ n,(∀ x,x∈X→closed n x = true) = True:=fun n=>eq_true (by
     have:=Vw n X JJ;rw [qb5] at this;exact List.all_eq_true.1 this)
    have hzc:∀ n,(∀ x,x∈Enc.cells It.zero→closed n x = true) = True:=fun n=>by simp
    have hzt:List.drop 39 (Enc.cells It.zero) = []:=zX (by simp)
    refine Run.loopThen (fun (q:Nat × Nat × List Pr) e H'=>q.1≤17∧q.2.1≤s.l.length∧q.2.2.length = q.1∧(match Zc s.l (17 - q.1) q.2.1 with | none=>none | some (l,z)=>some (q.2.2 ++ l,z)) = R∧q1f X q.2.2 H' ∧
      qf e 0 = some (.vsl s.nil (qd s.l) s.l.length)∧qf e 2 = some (.optr 0 39 0)∧qf e 6 = some (.int .i64 (q.2.1:Nat))∧qf e 8 = some (.optr 1 39 0)∧qf e 10 = some (.int .i64 (q.1:Nat))) (fun q=>17 - q.1) (0,z,[]) ?_ ?_
    ·refine ⟨by simp,z1,rfl,?_,.inl ⟨rfl,?_⟩,by simp,by simp,by simp,by simp,by simp⟩
     ·show (match Zc s.l 17 z with | none=>none | some (l,z)=>some ([] ++ l,z)) = R;rw [hR];cases R <;> rfl
     ·rw [hX];simp [Xd];rfl
    clear hX hR hL z1 z3;rintro ⟨n,a,fs⟩ e H' ⟨hn17,ha,hfn,hG,hH,k0,k2,k6,k8,k10⟩;simp only at hn17 ha hfn hG hH k6 k10;by_cases hle:n≤16
    ·have jB:(n:Int)≤16:=(by omega);have QM:IntKind.i64.wrap ((n:Int)+1) = ((n+1:Nat):Int):=(by rw [wrap_i64] <;> omega);have hfu:17 - n = (16 - n)+1:=(by omega);rw [hfu,Zc] at hG;have ja:=qkx s hs a ha;cases hr:JX (s.l.drop a) with
     | none =>
      rw [hr] at hG ja;simp only at hG ja;subst hG;rcases hH with ⟨rfl,rfl⟩ | ⟨qt,m,k,c3,t,u,hm,hk,rfl | ⟨c,v,w,rfl⟩ | ⟨c,v,w,y,rfl⟩⟩
      all_goals
       simp [k0,k2,k6,k8,k10,jB,ja,kO,hzt];rfl
     | some q =>
      obtain ⟨t,k⟩:=q;rw [hr] at hG ja;simp only at hG ja;obtain ⟨r1,r2⟩:=qfo hr;simp only [jU] at r1;obtain ⟨j,hj⟩:∃ j,j = a+k:=⟨_,rfl⟩;rw [← hj] at hG ja;by_cases ht:t = []
      ·rw [if_pos ht] at hG;subst hG;subst ht;rcases hH with ⟨rfl,rfl⟩ | ⟨qt,m,k,c3,t,u,hm,hk,rfl | ⟨c,v,w,rfl⟩ | ⟨c,v,w,y,rfl⟩⟩
       ·simp [k0,k2,k6,k8,k10,jB,ja,jD,qbu,kO,JJ,zW,qD,hzt];rw [QQ];rfl
       all_goals
        have hst:=fun {i:Nat} {H:qi} (hg:(H[i]?).getD none = some (qh fs))=>qpR JJ hm.symm hk.symm hg (j:Int) true;simp [-jA,k0,k2,k6,k8,k10,jB,ja,hst,jD,qbu,kO,JJ,zW,qD,hzt];rw [QQ];simp [Zm,qt,hk]
      ·rw [if_neg ht] at hG;have kg:=qqQ t (by omega);have KT:List.take t.length (qd t) = qd t:=qx (by simp);generalize (J0 t).1 = p at *;generalize (J0 t).2 = ec at *;by_cases hec:ec = 0
       ·rw [if_pos hec] at hG;subst hec
        have hG2:∀ F:List Pr,F = fs ++ [p]→(match Zc s.l (17 - (n+1)) j with | none=>none | some (l,z)=>some (F ++ l,z)) = R:=by
         rintro F rfl;have e1:17 - (n+1) = 16 - n:=(by omega);rw [e1,← hG];cases Zc s.l (16 - n) j with
         | none=>rfl
         | some q=>simp
        rcases hH with ⟨rfl,rfl⟩ | ⟨qt,m,k',c3,u1,u2,hm,hk,rfl | ⟨c,v,w,rfl⟩ | ⟨c,v,w,y,rfl⟩⟩
        ·simp [k0,k2,k6,k8,k10,jB,ja,KT,kg,ht,jD,Xb,qD,qI];exact ⟨n+1,by omega,by omega,j,by omega,[p],by simp at hfn ⊢;omega,hG2 _ rfl,.inr ⟨by simp,2,1,t,p,p,rfl,rfl,.inl rfl⟩,by omega,QM⟩
        all_goals
         have ze:fs.length = k':=hk.symm;have zj:k' * 2 = m:=(by omega);have zZ:(k'+1) * 32≤140737488355328:=(by omega);have zB:k'+1≤140737488355328:=(by omega);have Jm:k'≤140737488355327:=by omega
        ·simp [k0,k2,k6,k8,k10,jB,ja,KT,kg,ht,jD,Xb,qD,qI,ze,zj,zZ,zB];exact ⟨n+1,by omega,by omega,j,by omega,fs ++ [p],by simp;omega,hG2 _ rfl,.inr ⟨by simp,m+2,k'+1,c3,u1,u2,by simp;omega,by simp;omega,.inr (.inl ⟨t,some (Enc.cells (p:Pr)),some (Enc.cells (p:Pr)),by rw [Z0];rfl⟩)⟩,by omega,QM⟩
        ·simp [k0,k2,k6,k8,k10,jB,ja,KT,kg,ht,jD,Xb,kO,qD,qI,ze,zj,zZ,zB];exact ⟨n+1,by omega,by omega,j,by omega,fs ++ [p],by simp;omega,hG2 _ rfl,.inr ⟨by simp,m+2,k'+1,c3,u1,u2,by simp;omega,by simp;omega,.inr (.inr ⟨c,some (qd t),some (Enc.cells (p:Pr)),some (Enc.cells (p:Pr)),by rw [Z0];rfl⟩)⟩,by omega,QM⟩
        ·simp [k0,k2,k6,k8,k10,jB,ja,KT,kg,ht,jD,Xb,kO,qD,qI,ze,zj,zZ,zB];exact ⟨n+1,by omega,by omega,j,by omega,fs ++ [p],by simp;omega,hG2 _ rfl,.inr ⟨by simp,m+2,k'+1,c3,u1,u2,by simp;omega,by simp;omega,.inr (.inr ⟨c,some (qd t),some (Enc.cells (p:Pr)),some (Enc.cells (p:Pr)),by rw [Z0];rfl⟩)⟩,by omega,QM⟩
       ·rw [if_neg hec] at hG;have qbr:¬ ec = 0:=hec;by_cases h8:s.l.length < j+8
        ·rw [if_pos h8] at hG;simp only at hG;subst hG;have qq:=qr0 s j (by omega) h8 (by omega);rcases hH with ⟨rfl,rfl⟩ | ⟨qt,m,k',c3,u1,u2,hm,hk,rfl | ⟨c,v,w,rfl⟩ | ⟨c,v,w,y,rfl⟩⟩
         all_goals
          simp [k0,k2,k6,k8,k10,jB,ja,KT,kg,qbr,ht,qq,kO,hzt];rfl
        ·rw [if_neg h8] at hG;have qq:=qk4 s j (by omega) (by omega)
         have hN64:leN ((s.l.drop j).take 8) < 18446744073709551616:=by
          refine jP (X4 _) ?_;have VG:((s.l.drop j).take 8).length≤8:=(by simp;omega);exact kr (Y4 (by decide) VG) (by decide)
         obtain ⟨N,hN⟩:∃ N,N = leN ((s.l.drop j).take 8):=⟨_,rfl⟩;rw [← hN] at hG qq hN64;have w1:IntKind.i64.wrap ((s.l.length:Int) - (j:Int)) = (s.l.length:Int) - (j:Int):=(by rw [wrap_i64];omega);have w2:IntKind.i64.wrap ((s.l.length:Int) - (j:Int) - 8) = (s.l.length:Int) - (j:Int) - 8:=(by rw [wrap_i64];omega);by_cases hb1:256 < N
         ·rw [if_pos (.inl hb1)] at hG;simp only at hG;subst hG;have qbs:(256:Int) < (N:Int):=(by omega);rcases hH with ⟨rfl,rfl⟩ | ⟨qt,m,k',c3,u1,u2,hm,hk,rfl | ⟨c,v,w,rfl⟩ | ⟨c,v,w,y,rfl⟩⟩
          all_goals
           simp [k0,k2,k6,k8,k10,jB,ja,KT,kg,qbr,ht,qq,qbs,kO,hzt];rfl
         ·have qbs:¬ (256:Int) < (N:Int):=(by omega);have wN:IntKind.i64.wrap (N:Int) = (N:Int):=(by rw [wrap_i64] <;> omega);by_cases zE:s.l.length - j - 8≤N
          ·rw [if_pos (.inr (.inl zE))] at hG;simp only at hG;subst hG;have qac:(s.l.length:Int) - (j:Int) - 8≤(N:Int):=(by omega);rcases hH with ⟨rfl,rfl⟩ | ⟨qt,m,k',c3,u1,u2,hm,hk,rfl | ⟨c,v,w,rfl⟩ | ⟨c,v,w,y,rfl⟩⟩
           all_goals
            simp [k0,k2,k6,k8,k10,jB,ja,KT,kg,qbr,ht,qq,qbs,w1,w2,wN,qac,kO,hzt];rfl
          ·have qac:¬ (s.l.length:Int) - (j:Int) - 8≤(N:Int):=(by omega);obtain ⟨j8,hj8⟩:∃ j8,j8 = j+8:=⟨_,rfl⟩;obtain ⟨P,hP⟩:∃ P,P = j8+N:=⟨_,rfl⟩;rw [← hj8,← hP] at hG;have w3:IntKind.i64.wrap ((j:Int)+8) = (j8:Int):=(by rw [wrap_i64] <;> omega);have w4:IntKind.i64.wrap ((j8:Int)+(N:Int)) = (P:Int):=(by rw [wrap_i64] <;> omega);have hPl:P < s.l.length:=(by omega);have hPl':(P:Int) < (s.l.length:Int):=(by omega);have hPle:(P:Int)≤(s.l.length:Int):=(by omega);have hPle2:P≤s.l.length:=(by omega);have hnn:=Sl.nn hPl;rw [hnn] at ja qq;have hA:=jt hPl;have hgd:s.l.getD P 0 = s.l[P]:=(by rw [List.getD,zi hPl];rfl);rw [hgd] at hG;generalize s.l[P] = c10 at *;by_cases ZK:c10 = 10
           ·have zT:¬ (256 < N∨s.l.length - j - 8≤N∨c10≠10):=by
             rintro (h | h | h)
             ·exact hb1 h
             ·exact zE h
             ·exact h ZK
            rw [if_neg zT] at hG;subst ZK;obtain ⟨V,hV⟩:∃ V,V = (s.l.drop j8).take N:=⟨_,rfl⟩;rw [← hV] at hG;have hVl:V.length = N:=(by rw [hV];simp;omega);have g1:(j8:Int)≤(P:Int):=(by omega);have g1n:j8≤P:=(by omega);have g2:((P:Int) - (j8:Int)).toNat = N:=(by omega);have g3:P - j8 = N:=(by omega);have tv:List.take N (List.drop j8 (qd s.l)) = qd V:=(by rw [Ze,kw,← hV]);have tvb:kE (qd V) = some V:=Y0 _;have tvt:List.take N (qd V) = qd V:=qx (by simp;omega);have w5:IntKind.i64.wrap ((P:Int)+1) = ((P+1:Nat):Int):=(by rw [wrap_i64] <;> omega);clear hN hV
            have hG2:∀ F:List Pr,F = fs ++ [⟨t,V⟩]→(match Zc s.l (17 - (n+1)) (P+1) with | none=>none | some (l,z)=>some (F ++ l,z)) = R:=by
             rintro F rfl;have e1:17 - (n+1) = 16 - n:=(by omega);rw [e1,← hG];cases Zc s.l (16 - n) (P+1) with
             | none=>rfl
             | some q=>simp
            rcases hH with ⟨rfl,rfl⟩ | ⟨qt,m,k',c3,u1,u2,hm,hk,rfl | ⟨c,v,w,rfl⟩ | ⟨c,v,w,y,rfl⟩⟩
            ·simp [k0,k2,k6,k8,k10,jB,ja,KT,kg,ht,qbr,qq,qbs,w1,w2,wN,qac,w3,w4,w5,hPl',hPle,hnn,hA,g1,g3,tv,tvb,hVl,jD,Xb,qD,qI];exact ⟨n+1,by omega,by omega,(P+1),by omega,[⟨t,V⟩],by simp at hfn ⊢;omega,hG2 _ rfl,.inr ⟨by simp,2,1,t,⟨t,V⟩,⟨t,V⟩,rfl,rfl,.inl rfl⟩,by omega,QM⟩
            all_goals
             have ze:fs.length = k':=hk.symm;have zj:k' * 2 = m:=(by omega);have zZ:(k'+1) * 32≤140737488355328:=(by omega);have zB:k'+1≤140737488355328:=(by omega);have Jm:k'≤140737488355327:=by omega
            ·simp [k0,k2,k6,k8,k10,jB,ja,KT,kg,ht,qbr,qq,qbs,w1,w2,wN,qac,w3,w4,w5,hPl',hPle,hnn,hA,g1,g3,tv,tvb,hVl,jD,Xb,qD,qI,ze,zj,zZ,zB];exact ⟨n+1,by omega,by omega,(P+1),by omega,fs ++ [⟨t,V⟩],by simp;omega,hG2 _ rfl,.inr ⟨by simp,m+2,k'+1,c3,u1,u2,by simp;omega,by simp;omega,.inr (.inl ⟨t,some (Enc.cells (⟨t,V⟩:Pr)),some (Enc.cells (⟨t,V⟩:Pr)),by rw [Z0];rfl⟩)⟩,by omega,QM⟩
            ·simp [k0,k2,k6,k8,k10,jB,ja,KT,kg,ht,qbr,qq,qbs,w1,w2,wN,qac,w3,w4,w5,hPl',hPle,hnn,hA,g1,g3,tv,tvb,hVl,jD,Xb,kO,qD,qI,ze,zj,zZ,zB];exact ⟨n+1,by omega,by omega,(P+1),by omega,fs ++ [⟨t,V⟩],by simp;omega,hG2 _ rfl,.inr ⟨by simp,m+2,k'+1,c3,u1,u2,by simp;omega,by simp;omega,.inr (.inr ⟨c,some (qd t),some (Enc.cells (⟨t,V⟩:Pr)),some (Enc.cells (⟨t,V⟩:Pr)),by rw [Z0];rfl⟩)⟩,by omega,QM⟩
            ·simp [k0,k2,k6,k8,k10,jB,ja,KT,kg,ht,qbr,qq,qbs,w1,w2,wN,qac,w3,w4,w5,hPl',hPle,hnn,hA,g1,g3,tv,tvb,hVl,jD,Xb,kO,qD,qI,ze,zj,zZ,zB];exact ⟨n+1,by omega,by omega,(P+1),by omega,fs ++ [⟨t,V⟩],by simp;omega,hG2 _ rfl,.inr ⟨by simp,m+2,k'+1,c3,u1,u2,by simp;omega,by simp;omega,.inr (.inr ⟨c,some (qd t),some (Enc.cells (⟨t,V⟩:Pr)),some (Enc.cells (⟨t,V⟩:Pr)),by rw [Z0];rfl⟩)⟩,by omega,QM⟩
           ·have hb3':¬ (c10.toNat:Int) = 10:=by
             intro e;exact ZK (UInt8.toNat_inj.1 (by show c10.toNat = 10;omega))
            have hb3n:¬ c10.toNat = 10:=(by omega);rw [if_pos (.inr (.inr ZK))] at hG;simp only at hG;subst hG;rcases hH with ⟨rfl,rfl⟩ | ⟨qt,m,k',c3,u1,u2,hm,hk,rfl | ⟨c,v,w,rfl⟩ | ⟨c,v,w,y,rfl⟩⟩
            all_goals
             simp [k0,k2,k6,k8,k10,jB,ja,KT,kg,qbr,ht,qq,qbs,w1,w2,wN,qac,w3,w4,hPl',hnn,hA,hb3',kO,hzt];rfl
    ·have jB:¬ (n:Int)≤16:=(by omega);have hfu:17 - n = 0:=(by omega);rw [hfu,Zc] at hG;simp only at hG;subst hG;rcases hH with ⟨rfl,rfl⟩ | ⟨qt,m,k,c3,t,u,hm,hk,rfl | ⟨c,v,w,rfl⟩ | ⟨c,v,w,y,rfl⟩⟩
     all_goals
      simp [k0,k2,k6,k8,k10,jB,kO,hzt];rfl
   ·rw [if_neg vg];cases b1 with
    | false=>simp [Tryz.f152,hl,n1,n2,n3,i4,i5,hq,hb,zW,qD,zC];rfl
    | true =>
     cases b2 with
     | false=>simp [Tryz.f152,hl,n1,n2,n3,i4,i5,hq,hb,zW,qD,zC];rfl
     | true =>
      cases b3 with
      | false=>simp [Tryz.f152,hl,n1,n2,n3,i4,i5,hq,hb,zW,qD,zC];rfl
      | true =>
       cases b4 with
       | false=>simp [Tryz.f152,hl,n1,n2,n3,i4,i5,hq,hb,zW,qD,zC];rfl
       | true =>
        cases b5 with
        | false=>simp [Tryz.f152,hl,n1,n2,n3,i4,i5,hq,hb,zW,qD,zC];rfl
        | true=>exact absurd rfl vg
theorem qkc [MaxL] (it:It) (hi:it.Ok) (hb:∀ p∈it.rc.fields.l,Qw p) (hn:it.rc.fields.l.length < 1000000):call cx 89 [.agg (Enc.cells it)] [] = some (qbP it,[]):=by
 unfold qbP zH;cases ho:zM it with
 | false=>exact qqL it hi hb hn ho
 | true =>
  cases hg:it.gap with
  | true=>exact qqK it hi hg hb hn ho
  | false=>exact qqJ it hi hg ho
theorem qdT (s:List UInt8):qA ((jd s).getD 0:Nat):=by
 have:(jd s).getD 0 < 18446744073709551616:=by
  cases h:jd s with
  | none=>decide
  | some v =>
   unfold jd at h;split at h
   ·cases h
   ·exact qcH 10 _ _ _ (by decide) h
 unfold qA;omega
theorem It.zero_ok:It.zero.Ok:=⟨Y8,Y8,Rec.zero_ok⟩
structure ReadQ (b:List UInt8) (q:It × Nat × Bool):Prop where
 ok:q.1.Ok
 bs:∀ p∈q.1.rc.fields.l,p.name.length≤b.length∧p.value.length≤b.length
 n:q.1.rc.fields.l.length≤17
 le:q.2.1≤b.length
theorem qdD (b:List UInt8):ReadQ b (It.zero,0,false):=⟨It.zero_ok,fun p hp=>(by cases hp),jk _,jk _⟩
theorem qr7 (b:List UInt8):ReadQ b (Ke b):=by
 unfold Ke;split
 ·rename_i x y w z hL;obtain ⟨z1,-,-⟩:=qdY (jk _) hL;split
  ·exact qdD b
  ·exact ⟨⟨qdT _,qdT _,Rec.zero_ok⟩,fun p hp=>(by cases hp),jk _,z1⟩
 ·exact qdD b
theorem qrJ (b:List UInt8):ReadQ b (YC b):=by
 unfold YC;split
 ·rename_i x0 x1 x2 x3 x4 x5 z hL;obtain ⟨z1,-,-⟩:=qdY (jk _) hL;split
  ·cases hF:Zc b 17 z with
   | none=>exact qdD b
   | some q =>
    obtain ⟨l,z'⟩:=q;obtain ⟨f1,f2,f3⟩:=qhj b 17 z l z' z1 hF;exact ⟨⟨Y8,Y8,qdT _,qdT _,qdT _⟩,f3,f2,f1⟩
  ·exact qdD b
 ·exact qdD b
def Zo (b:List UInt8):It × Nat × Bool:=if (Ke b).2.2 then Ke b else YC b
theorem qhe (b:List UInt8):ReadQ b (Zo b):=by
 unfold Zo;split
 ·exact qr7 b
 ·exact qrJ b
def qa9 (b:List UInt8):Bool:=(Zo b).2.2 && (zM (Zo b).1 && (zH (Zo b).1 == b.take (Zo b).2.1))
def qfl (b:List UInt8):D:=if qa9 b then .tup [.agg (Enc.cells (Zo b).1),.int .i64 ((Zo b).2.1:Nat),.int .i64 0] else .tup [.agg (Enc.cells It.zero),.int .i64 0,.int .i64 20]
set_option maxHeartbeats 4000000 in
set_option maxRecDepth 8000 in
theorem qre [MaxL] (s:Sl UInt8) (hs:s.l.length < 1000000):call cx 118 [(.vsl s.nil (qd s.l) s.l.length)] [] = some (qfl s.l,[]):=by
 have hg:=qr4 s hs;have he:=qrH s hs;obtain ⟨q1,q2,q3,q4⟩:=qhe s.l
 have hb:∀ p∈(Zo s.l).1.rc.fields.l,Qw p:=fun p hp=>by
  have:=q2 p hp;exact ⟨by omega,by omega⟩
 have hr:=qd5 (Zo s.l).1 q1 hb (by omega);have ht:=qkc (Zo s.l).1 q1 hb (by omega);clear q1 q2 q3 hb;unfold qfl qa9;have hS:Zo s.l = if (Ke s.l).2.2 then Ke s.l else YC s.l:=rfl;unfold qd9 at hg he;unfold qbP at ht;generalize Zo s.l = q at *;obtain ⟨it,n,b⟩:=q;simp only at hr ht q4 ⊢;generalize Ke s.l = g at *;obtain ⟨gi,gn,gb⟩:=g;generalize YC s.l = q at *;obtain ⟨ei,en,eb⟩:=q;simp only at hg he hS;have q4':(n:Int)≤(s.l.length:Int):=by omega
 have t1:List.take n (qd s.l) = qd (s.l.take n):=kw _ _;have t1l:(s.l.take n).length = n:=by simp;omega
 have t1b:kE (qd (s.l.take n)) = some (s.l.take n):=Y0 _;have t1t:List.take n (qd (s.l.take n)) = qd (s.l.take n):=qx (by simp;omega);refine qs Tryz.func118 rfl ⟨rfl,rfl⟩ ?_;cases gb with
 | true =>
  simp only [if_true,qN] at hS;obtain ⟨rfl,rfl,rfl⟩:=hS;cases ho:zM it with
  | false =>
   rw [ho] at hr;simp [Tryz.f118,hg,hr];rfl
  | true =>
   rw [ho] at hr ht;simp only [if_true] at ht;generalize zH it = t at *;have tt:List.take t.length (qd t) = qd t:=qx (by simp);have ttb:kE (qd t) = some t:=Y0 _;by_cases hEq:t = s.l.take n
   ·have zE:(t == s.l.take n) = true:=(by rw [hEq];simp);simp [Tryz.f118,hg,hr,ht,q4',t1,t1l,t1b,ttb,zE]
   ·have zE:(t == s.l.take n) = false:=beq_eq_false_iff_ne.2 hEq;simp [Tryz.f118,hg,hr,ht,q4',t1,t1l,t1b,ttb,zE];rfl
 | false =>
  simp only [vT,if_false,qN] at hS;obtain ⟨rfl,rfl,rfl⟩:=hS;cases b with
  | false =>
   simp [Tryz.f118,hg,he];rfl
  | true =>
   cases ho:zM it with
   | false =>
    rw [ho] at hr;simp [Tryz.f118,hg,he,hr];rfl
   | true =>
    rw [ho] at hr ht;simp only [if_true] at ht;generalize zH it = t at *;have tt:List.take t.length (qd t) = qd t:=qx (by simp);have ttb:kE (qd t) = some t:=Y0 _;by_cases hEq:t = s.l.take n
    ·have zE:(t == s.l.take n) = true:=(by rw [hEq];simp);simp [Tryz.f118,hg,he,hr,ht,q4',t1,t1l,t1b,ttb,zE]
    ·have zE:(t == s.l.take n) = false:=beq_eq_false_iff_ne.2 hEq;simp [Tryz.f118,hg,he,hr,ht,q4',t1,t1l,t1b,ttb,zE];rfl
theorem qn7 {k:Nat} (h:k < 10):Xg (UInt8.ofNat (48+k)) = some k:=by
 have e:(UInt8.ofNat (48+k)).toNat = 48+k:=VU (show 48+k < 256 by omega);unfold Xg;rw [if_pos (by rw [e];omega),e];congr 1;omega
theorem qkY (b:Nat):∀ (l r:List UInt8) (n:Nat),jx b (l ++ r) n = match jx b l n with
  | none=>none
  | some m=>jx b r m
 | [],r,n=>by simp [jx]
 | c :: l,r,n=>by
  simp only [kt,jx];cases Xg c with
  | none=>rfl
  | some d =>
   simp only;split
   ·rfl
   ·split
    ·rfl
    ·exact qkY b l r _
theorem qkW:∀ (f v:Nat),v < 10 ^ f→1≤f→v < 18446744073709551616→jx 10 (kq f v) 0 = some v
 | f+1,v,h,_,VN=>by
  rw [kq];by_cases hv:v < 10
  ·rw [if_pos hv];simp only [jx,qn7 hv];rw [if_neg (by omega),if_neg (by omega)];congr 1;omega
  ·rw [if_neg hv,qkY]
   have hf:1≤f:=by
    rcases f with _ | f
    ·simp at h;omega
    ·omega
   rw [qkW f (v / 10) (by rw [XO] at h;omega) hf (by omega)];simp only [jx,qn7 (JT v (by decide:10 > 0))];rw [if_neg (by omega),if_neg (by omega)];congr 1;omega
theorem qnN:∀ (f v:Nat),v < 10 ^ f→(kq f v).head? = some 48→v = 0∧(kq f v).length≤1
 | 0,v,_,h=>by simp [kq] at h
 | f+1,v,hv,h=>by
  rw [kq] at h ⊢;by_cases jf:v < 10
  ·rw [if_pos jf] at h ⊢;simp only [List.head?_cons,qu] at h;have:=congrArg UInt8.toNat h;rw [VU (show 48+v < 256 by omega)] at this;simp at this;exact ⟨by omega,by simp⟩
  ·rw [if_neg jf] at h;exfalso;rcases f with _ | f
   ·simp at hv;omega
   ·have hp:v / 10 < 10 ^ (f+1):=by rw [XO] at hv;omega
    have qt:kq (f+1) (v / 10)≠[]:=by
     rw [kq];split <;> simp
    have h':(kq (f+1) (v / 10)).head? = some 48:=by
     obtain ⟨a,l,kD⟩:=List.exists_cons_of_ne_nil qt;rw [kD] at h ⊢;exact h
    have:=(qnN (f+1) (v / 10) hp h').1;omega
theorem qcd {v:Nat} (h:v < 18446744073709551616):jd (qE v) = some v:=by
 have h1:=qnH v;have h2:=kP v;have h3:=qnN 20 v (Nat.lt_trans h (by decide));unfold jd;rw [if_neg]
 ·exact qkW 20 v (Nat.lt_trans h (by decide)) (by decide) h
 ·rintro (e | e | ⟨e1,e2⟩)
  ·rw [e] at h1;simp at h1
  ·omega
  ·have:=(h3 e1).2;unfold qE at e2;omega
theorem qnO:∀ (f v:Nat),∀ x∈kq f v,48≤x.toNat∧x.toNat≤57
 | 0,_,x,h=>by simp [kq] at h
 | f+1,v,x,h=>by
  rw [kq] at h;split at h
  ·rename_i hv;rw [List.mem_singleton.1 h,VU (show 48+v < 256 by omega)];omega
  ·rcases List.mem_append.1 h with h | h
   ·exact qnO f _ x h
   ·rw [List.mem_singleton.1 h,VU (show 48+v % 10 < 256 by omega)];omega
theorem qnJ (v:Nat):∀ x∈qE v,48≤x.toNat∧x.toNat≤57:=qnO 20 v
theorem qfY:∀ k,k < 16→48≤(jM k).toNat:=by decide
theorem qef:∀ (l:List UInt8),∀ x∈zu l,48≤x.toNat
 | [],x,h=>by simp [zu] at h
 | b :: l,x,h=>by
  rw [zu] at h;have hb:=b.toNat_lt;rcases List.mem_cons.1 h with rfl | h
  ·exact qfY _ (by omega)
  ·rcases List.mem_cons.1 h with rfl | h
   ·exact qfY _ (by omega)
   ·exact qef l x h
theorem qeh:∀ (f v:Nat),∀ x∈Qs f v,48≤x.toNat
 | 0,_,x,h=>by simp [Qs] at h
 | f+1,v,x,h=>by
  rw [Qs] at h;split at h
  ·rename_i hv;rw [List.mem_singleton.1 h];exact qfY _ hv
  ·rcases List.mem_append.1 h with h | h
   ·exact qeh f _ x h
   ·rw [List.mem_singleton.1 h];exact qfY _ (JT _ (by decide))
theorem qqm (c:Cur):∀ x∈JW c,48≤x.toNat:=by
 intro x h;unfold JW at h;simp only [qbH] at h;have k:∀ l:List UInt8,(∀ y∈l,48≤y.toNat)→x∈l→48≤x.toNat:=fun l hl hx=>hl x hx;rcases h with h | h | h | h | h | h | h | h | h | h | h | h
 ·exact k kS (by decide) h
 ·exact qef _ x h
 ·exact k kI (by decide) h
 ·exact qeh 16 _ x h
 ·exact k kB (by decide) h
 ·exact qef _ x h
 ·exact k kM (by decide) h
 ·exact qeh 16 _ x h
 ·exact k kT (by decide) h
 ·exact qeh 16 _ x h
 ·exact k kX (by decide) h
 ·exact qeh 16 _ x h
theorem qf5 {x c:UInt8} (h:c.toNat < x.toNat):x≠c:=by rintro rfl;omega
theorem qf4 {l:List UInt8} (h:∀ x∈l,48≤x.toNat):∀ x∈l,x≠10:=fun x hx=>qf5 (by have:=h x hx;show 10 < x.toNat;omega)
theorem X1 {a b:List UInt8} (ha:∀ x∈a,x≠10) (hb:∀ x∈b,x≠10):∀ x∈a ++ b,x≠10:=fun x hx=>(List.mem_append.1 hx).elim (ha x) (hb x)
theorem qfR (c:UInt8):∀ (A B:List UInt8) (n:Nat),(∀ x∈A,x≠c)→za c (A ++ c :: B) n = ((n+A.length:Nat):Int)
 | [],B,n,_=>by simp [za]
 | x :: A,B,n,h=>by
  rw [kt,za,if_neg (h x (by simp)),qfR c A B (n+1) fun y hy=>h y (by simp [hy])];simp;omega
theorem qmq (c:UInt8):∀ (A:List UInt8) (n:Nat),(∀ x∈A,x≠c)→za c A n = -1
 | [],n,_=>by simp [za]
 | x :: A,n,h=>by rw [za,if_neg (h x (by simp)),qmq c A (n+1) fun y hy=>h y (by simp [hy])]
theorem qiG (c:UInt8) {A:List UInt8} (h:∀ x∈A,x≠c) (B:List UInt8):jO [c] (A ++ c :: B) = (A,B,true):=by
 have h1:=qml c A B 0 h;rw [vQ] at h1;unfold jO;rw [h1,if_neg (by omega)];have e:((A.length:Nat):Int).toNat = A.length:=by omega
 rw [e];simp [qD]
theorem qaS {A:List UInt8} (h:∀ x∈A,x≠10) (B:List UInt8):vd (A ++ 10 :: B) = A:=by unfold vd;rw [qiG 10 h]
theorem qaR {A:List UInt8} (h:∀ x∈A,x≠10) (B:List UInt8):zJ (A ++ 10 :: B) = B:=by unfold zJ;rw [qiG 10 h]
theorem qd7 {A:List UInt8} (h:∀ x∈A,x≠10) (B:List UInt8):JX (A ++ 10 :: B) = some (A,A.length+1):=by
 have h1:=qfR 10 A B 0 h;rw [vQ] at h1;unfold JX;rw [h1,if_neg (by omega)];have e:((A.length:Nat):Int).toNat = A.length:=by omega
 rw [e];simp
theorem qhy (p x:List UInt8):pre p (p ++ x) = true:=by unfold pre;simp
theorem qbO (p x:List UInt8):vh p (p ++ x) = x:=by unfold vh;rw [if_pos (qhy p x)];simp
theorem qaH {v:Nat} (h:v < 18446744073709551616):pu 10 (qE v) = some v:=by
 have hn:=qcd h;have hp:=qnH v;unfold jd at hn;split at hn
 ·cases hn
 ·unfold pu;rw [if_neg (by intro e;rw [e] at hp;simp at hp)];exact hn
theorem qn9 (A B:List UInt8):(A ++ 10 :: B).drop (A.length+1) = B:=by
 rw [qD];simp
theorem YJ {b B x f:List UInt8} {a:Nat} {fs:List (List UInt8)} (hb:b.drop a = (f ++ x) ++ 10 :: B) (jf:∀ y∈f ++ x,y≠10) {l:List (List UInt8)} {z:Nat} (h:Q5 b (a+((f ++ x).length+1)) fs = some (l,z)) :
  Q5 b a (f :: fs) = some (x :: l,z):=by
 rw [Q5,hb,qd7 jf];simp only [qhy,if_true,h];simp
theorem qar {b A B:List UInt8} {a:Nat} (hb:b.drop a = A ++ 10 :: B):b.drop (a+(A.length+1)) = B:=by
 rw [← kF,hb,qn9]
theorem qhF {n:List UInt8} (h:kZ n = true):n≠[]∧n.length≤64∧∀ x∈n,48≤x.toNat∧x≠61:=by
 unfold kZ at h;split at h
 ·cases h
 ·rename_i c l;simp only [qT,decide_eq_true_eq,Y7] at h;refine ⟨by simp,h.1.1,fun x hx=>?_⟩;have:=h.2 x hx;unfold Zf at this;simp only [qbK,qT,decide_eq_true_eq] at this;refine ⟨by omega,?_⟩;rintro rfl;have e:(61:UInt8).toNat = 61:=rfl;rw [e] at this;omega
theorem qh3 {v:List UInt8} (h:Xv v = true):∀ x∈v,x≠10:=by
 intro x hx;unfold Xv at h;have:=List.all_eq_true.1 h x hx;unfold Z6 at this;rintro rfl;revert this;decide
theorem qlc {p:Pr} (h:kY p = true):kZ p.name = true∧p.value.length≤256:=by
 unfold kY at h;simp only [qT,decide_eq_true_eq] at h;exact h
theorem qo9:∀ (A B:List UInt8) (c:UInt8) (n:Nat),(∀ x∈A,x≠61∧x≠10)→c = 61∨c = 10→zV (A ++ c :: B) n = ((n+A.length:Nat):Int)
 | [],B,c,n,_,hc=>by simp [zV,hc]
 | x :: A,B,c,n,h,hc=>by
  have hx:=h x (by simp);rw [kt,zV,if_neg (by rintro (e | e);exact hx.1 e;exact hx.2 e),qo9 A B c (n+1) (fun y hy=>h y (by simp [hy])) hc];simp;omega
theorem que (v:Nat) (hv:v < 18446744073709551616) (R:List UInt8):Q6 (qJ 8 v ++ R) 0 8 = some v:=by
 have hl:=X5 8 v;unfold Q6;rw [if_pos ⟨by decide,by decide,by simp [hl];omega⟩]
 have e:((qJ 8 v ++ R).drop (0:Int).toNat).take (8:Int).toNat = qJ 8 v:=by
  show ((qJ 8 v ++ R).drop 0).take 8 = _;rw [List.drop_zero,List.take_left' hl]
 rw [e,qhU,qbE (by simpa using hv)]
theorem qsF {p:Pr} (h:kY p = true) (R:List UInt8):Qm (Q0 p ++ R) = some (p,R):=by
 obtain ⟨hn,hv⟩:=qlc h;obtain ⟨n0,n1,n2⟩:=qhF hn;have qt:∀ x∈p.name,x≠61∧x≠10:=fun x hx=>⟨(n2 x hx).2,qf5 (by have:=(n2 x hx).1;show 10 < x.toNat;omega)⟩
 have kh:1≤p.name.length:=by
  cases hc:p.name with
  | nil=>exact absurd hc n0
  | cons=>simp
 have gen:∀ (c:UInt8) (T:List UInt8),c = 61∨c = 10→Qm (p.name ++ c :: T) = if c = 61 then some (⟨p.name,vd T⟩,zJ T) else match Q6 T 0 8 with
   | none=>none
   | some n=>if 256 < n∨T.length < 9+n then none else some (⟨p.name,(T.drop 8).take n⟩,T.drop (9+n)):=by
  intro c T hc;have ha:=qo9 p.name T c 0 qt hc;rw [vQ] at ha;have e:((p.name.length:Nat):Int).toNat = p.name.length:=by omega
  have d1:(p.name ++ c :: T).drop (p.name.length+1) = T:=by rw [qD];simp
  have d2:(p.name ++ c :: T).getD p.name.length 0 = c:=by simp [List.getD]
  have d3:(p.name ++ c :: T).take p.name.length = p.name:=by simp
  unfold Qm;rw [ha,if_neg (by omega),e,d1,d2,d3]
  all_goals (cases Q6 T 0 8 <;> rfl)
 unfold Q0;cases hp:Xv p.value with
 | true =>
  have e:(if true = true then ((p.name ++ [61]) ++ p.value) ++ [10] else (((p.name ++ [10]) ++ qJ 8 p.value.length) ++ p.value) ++ [10]) ++ R = p.name ++ 61 :: (p.value ++ 10 :: R):=by simp
  rw [e,gen 61 _ (.inl rfl),if_pos rfl,qaS (qh3 hp),qaR (qh3 hp)]
 | false =>
  have e:(if false = true then ((p.name ++ [61]) ++ p.value) ++ [10] else (((p.name ++ [10]) ++ qJ 8 p.value.length) ++ p.value) ++ [10]) ++ R = p.name ++ 10 :: (qJ 8 p.value.length ++ (p.value ++ 10 :: R)):=by simp
  rw [e,gen 10 _ (.inr rfl),if_neg (by decide),que _ (by omega)];have hl:=X5 8 p.value.length
  have zT:¬ (256 < p.value.length∨(qJ 8 p.value.length ++ (p.value ++ 10 :: R)).length < 9+p.value.length):=by
   rintro (h | h)
   ·omega
   ·simp [hl] at h;omega
  simp only [zT,if_false];have d1:(qJ 8 p.value.length ++ (p.value ++ 10 :: R)).drop 8 = p.value ++ 10 :: R:=qc2 hl
  have d2:(qJ 8 p.value.length ++ (p.value ++ 10 :: R)).drop (9+p.value.length) = R:=by
   rw [show 9+p.value.length = 8+(p.value.length+1) by omega,← kF,d1,qn9]
  rw [d1,d2];simp
theorem qsG (R:List UInt8):Qm (10 :: R) = none:=by
 unfold Qm;rw [if_pos (by simp [zV])]
theorem qna:∀ (F:List Pr) (n:Nat) (R:List UInt8),F.length≤n→(∀ p∈F,kY p = true)→QW n (jo F ++ 10 :: R) = F
 | [],0,R,_,_=>rfl
 | [],n+1,R,_,_=>by
  rw [QW];show (match Qm (10 :: R) with | none=>[] | some (p,r)=>p :: QW n r) = [];rw [qsG]
 | p :: F,0,R,h,_=>by simp at h
 | p :: F,n+1,R,h,hp=>by
  have e:jo (p :: F) ++ 10 :: R = Q0 p ++ (jo F ++ 10 :: R):=by simp [jo]
  rw [e,QW,qsF (hp p (by simp))];show p :: QW n (jo F ++ 10 :: R) = _;rw [qna F n R (by simpa using h) fun q hq=>hp q (by simp [hq])]
theorem qpZ {n v:List UInt8} (hn:kZ n = true) (hv:v.length≤256):J0 (n ++ 61 :: v) = (⟨n,v⟩,0):=by
 obtain ⟨n0,n1,n2⟩:=qhF hn;have h1:=qfR 61 n v 0 (fun x hx=>(n2 x hx).2);rw [vQ] at h1;have e:((n.length:Nat):Int).toNat = n.length:=by omega
 have d1:(n ++ 61 :: v).take n.length = n:=by simp
 have d2:(n ++ 61 :: v).drop (n.length+1) = v:=by rw [qD];simp
 unfold J0;rw [h1,if_neg (by omega),e,d1,if_neg (by rw [hn];simp),if_neg (by simp;omega),d2]
theorem qpY {n:List UInt8} (h:∀ x∈n,x≠61):(J0 n).2 = 20:=by
 unfold J0;rw [if_pos (by rw [qmq 61 n 0 h];decide)]
theorem qk6:∀ (F:List Pr) (n:Nat) (b R:List UInt8) (a:Nat),F.length < n→(∀ p∈F,kY p = true)→b.drop a = jo F ++ 10 :: R→Zc b n a = some (F,a+(jo F).length+1)
 | [],n+1,b,R,a,_,_,hb=>by
  replace hb:b.drop a = [] ++ 10 :: R:=hb;rw [Zc,hb,qd7 (by intro x hx;cases hx)];rfl
 | p :: F,n+1,b,R,a,h,hp,hb=>by
  have hpo:=hp p (by simp);obtain ⟨hn,hv⟩:=qlc hpo;obtain ⟨n0,n1,n2⟩:=qhF hn;have qt:∀ x∈p.name,x≠10:=fun x hx=>qf5 (by have:=(n2 x hx).1;show 10 < x.toNat;omega);have QT:(jo (p :: F)).length = (Q0 p).length+(jo F).length:=by simp [jo]
  have hb1:b.drop a = Q0 p ++ (jo F ++ 10 :: R):=by rw [hb];simp [jo]
  have zo:b.length = a+((Q0 p).length+(jo F ++ 10 :: R).length):=by
   have h1:=congrArg List.length hb1;rw [jU,qC] at h1;have h2:1≤(jo F ++ 10 :: R).length:=(by simp;omega);omega
  have hnext:b.drop (a+(Q0 p).length) = jo F ++ 10 :: R:=by
   rw [← kF,hb1];simp
  have ih:=qk6 F n b R (a+(Q0 p).length) (by simpa using h) (fun q hq=>hp q (by simp [hq])) hnext;rw [Zc];unfold Q0 at hb1 zo QT ih;cases hpv:Xv p.value with
  | true =>
   rw [hpv,if_pos rfl] at hb1 zo QT ih;have e:((p.name ++ [61]) ++ p.value) ++ [10] ++ (jo F ++ 10 :: R) = (p.name ++ 61 :: p.value) ++ 10 :: (jo F ++ 10 :: R):=by simp
   have jf:∀ x∈p.name ++ 61 :: p.value,x≠10:=by
    intro x hx;rcases List.mem_append.1 hx with hx | hx
    ·exact qt x hx
    ·rcases List.mem_cons.1 hx with rfl | hx
     ·decide
     ·exact qh3 hpv x hx
   rw [hb1,e,qd7 jf];simp only;rw [if_neg (by simp),qpZ hn hv,if_pos rfl];have ea:a+((p.name ++ 61 :: p.value).length+1) = a+(((p.name ++ [61]) ++ p.value) ++ [10]).length:=(by simp;omega);rw [ea,ih];simp only [qu,qN,true_and];omega
  | false =>
   rw [hpv,if_neg (by decide)] at hb1 zo QT ih;have e:(((p.name ++ [10]) ++ qJ 8 p.value.length) ++ p.value) ++ [10] ++ (jo F ++ 10 :: R) = p.name ++ 10 :: (qJ 8 p.value.length ++ (p.value ++ 10 :: (jo F ++ 10 :: R))):=(by simp);rw [e] at hb1;have VG:=X5 8 p.value.length;have Yp:b.drop (a+(p.name.length+1)) = qJ 8 p.value.length ++ (p.value ++ 10 :: (jo F ++ 10 :: R)):=qar hb1
   have vZ:b.drop (a+(p.name.length+1)+8) = p.value ++ 10 :: (jo F ++ 10 :: R):=by
    rw [← kF,Yp];exact qc2 VG
   have hd3:b.drop (a+(p.name.length+1)+8+p.value.length) = 10 :: (jo F ++ 10 :: R):=by
    rw [← kF,vZ];simp
   have hN:leN ((b.drop (a+(p.name.length+1))).take 8) = p.value.length:=by
    rw [Yp,List.take_left' VG,qhU,qbE (by omega)]
   have hlen2:b.length = a+(p.name.length+1)+8+p.value.length+1+(jo F ++ 10 :: R).length:=by
    rw [zo];simp [VG];omega
   have hg:b.getD (a+(p.name.length+1)+8+p.value.length) 0 = 10:=by
    have h1:=QE (xs:=b) (i:=a+(p.name.length+1)+8+p.value.length) (j:=0);rw [hd3] at h1;simp at h1;rw [List.getD,show a+(p.name.length+1)+8+p.value.length = a+(p.name.length+1)+8+p.value.length from rfl,← h1];rfl
   rw [hb1,qd7 qt];simp only
   rw [if_neg n0,if_neg (by rw [qpY fun x hx=>(n2 x hx).2];decide),hN,if_neg (by omega),if_neg (by
    rintro (h | h | h)
    ·omega
    ·omega
    ·exact h hg)]
   have ea:a+(p.name.length+1)+8+p.value.length+1 = a+((((p.name ++ [10]) ++ qJ 8 p.value.length) ++ p.value) ++ [10]).length:=(by simp [VG];omega);rw [ea,ih,vZ];simp only [qu,qN,List.take_left'];refine ⟨by simp,?_⟩;omega
def KP (it:It):It:=if it.gap then ⟨it.id,true,it.fr,it.til,Rec.zero⟩ else it
theorem qcT (a:List UInt8) (L:List (List UInt8)) (R:List UInt8):Zu (a :: L) ++ R = a ++ 10 :: (Zu L ++ R):=by simp [Zu]
theorem qxO (R:List UInt8):Zu [] ++ R = R:=by simp [Zu]
theorem qds (it:It) (more:List UInt8):vx it ++ more = (KQ ++ JW (JP it.id it.rc)) ++ 10 :: ((JE ++ qE it.rc.real.toNat) ++ 10 :: ((JF ++ qE it.rc.mono.toNat) ++ 10 :: ((JD ++ qE it.rc.seq.toNat) ++ 10 :: ((jW ++ zu it.id.l) ++ 10 :: ((Z8 ++ zu it.rc.boot.l) ++ 10 :: (jo it.rc.fields.l ++ 10 :: more)))))):=by
 unfold vx J1;rw [vI,vI,qcT,qcT,qcT,qcT,qcT,qcT,qxO];rfl
theorem qeU (it:It) (more:List UInt8):Jz it ++ more = (jR ++ (qE it.fr.toNat ++ 45 :: qE it.til.toNat)) ++ 10 :: ((jW ++ zu it.id.l) ++ 10 :: ([] ++ 10 :: more)):=by
 unfold Jz;simp
theorem k10:(∀ x∈KQ,x≠10)∧(∀ x∈JE,x≠10)∧(∀ x∈JF,x≠10)∧(∀ x∈JD,x≠10)∧(∀ x∈jW,x≠10)∧(∀ x∈Z8,x≠10)∧∀ x∈jR,x≠10:=by decide
theorem qb3 (v:Nat):∀ x∈qE v,x≠10:=qf4 fun x h=>(qnJ v x h).1
theorem qnP (v:Nat):∀ x∈qE v,x≠45:=fun x h=>qf5 (by have:=(qnJ v x h).1;show 45 < x.toNat;omega)
theorem qiw (it:It):∀ x∈jR ++ (qE it.fr.toNat ++ 45 :: qE it.til.toNat),x≠10:=by
 refine X1 k10.2.2.2.2.2.2 (X1 (qb3 _) fun x h=>?_);rcases List.mem_cons.1 h with rfl | h
 ·decide
 ·exact qb3 _ x h
theorem qfT (i:ID):∀ x∈jW ++ zu i.l,x≠10:=X1 k10.2.2.2.2.1 (qf4 (qef _))
theorem qox (i:ID):∀ x∈Z8 ++ zu i.l,x≠10:=X1 k10.2.2.2.2.2.1 (qf4 (qef _))
theorem qh5 (c:Cur):∀ x∈KQ ++ JW c,x≠10:=X1 k10.1 (qf4 (qqm _))
theorem qiv {it:It} (hi:it.Ok) (ho:zM it = true) (hg:it.gap = true):it.fr.toNat < 18446744073709551616∧it.til.toNat < 18446744073709551616∧((it.fr.toNat:Nat):Int) = it.fr∧((it.til.toNat:Nat):Int) = it.til∧it.rc.seq = 0∧it.rc.real = 0∧it.rc.mono = 0∧it.rc.boot = ID.zero∧it.rc.fields.l = []∧qan it = true:=by
 have h1:=hi.fr;have h2:=hi.til;unfold qA at h1 h2;unfold zM at ho;rw [hg,if_pos rfl] at ho;have ho':=ho;unfold qan at ho;simp only [qT,decide_eq_true_eq] at ho;obtain ⟨⟨⟨⟨⟨⟨a1,a2⟩,a3⟩,a4⟩,a5⟩,a6⟩,a7⟩:=ho;exact ⟨by omega,by omega,by omega,by omega,a3,a4,a5,a6,VX a7,ho'⟩
theorem qhr {it:It} (hi:it.Ok) (ho:zM it = true) (hg:it.gap = false):(it.rc.real.toNat < 18446744073709551616∧it.rc.mono.toNat < 18446744073709551616∧it.rc.seq.toNat < 18446744073709551616)∧(((it.rc.real.toNat:Nat):Int) = it.rc.real∧((it.rc.mono.toNat:Nat):Int) = it.rc.mono∧((it.rc.seq.toNat:Nat):Int) = it.rc.seq)∧it.fr = 0∧it.til = 0∧1≤it.rc.fields.l.length∧it.rc.fields.l.length≤16∧(∀ p∈it.rc.fields.l,kY p = true)∧Zp it = true:=by
 have h1:=hi.rc.seq;have h2:=hi.rc.real;have h3:=hi.rc.mono;unfold qA at h1 h2 h3;unfold zM at ho;rw [hg,if_neg (by decide)] at ho;have ho':=ho;unfold Zp at ho;simp only [qT,decide_eq_true_eq,Y7] at ho;obtain ⟨⟨⟨⟨⟨a1,a2⟩,a3⟩,a4⟩,a5⟩,a6⟩:=ho;exact ⟨⟨by omega,by omega,by omega⟩,⟨by omega,by omega,by omega⟩,a1,a2,a4,a5,a6,ho'⟩
theorem qjK (s:Sl Pr) (h:1≤s.l.length):Zm s.l = s:=by
 obtain ⟨n,l,hn⟩:=s;cases l with
 | nil=>simp at h
 | cons a l =>
  cases n with
  | true=>exact absurd (hn rfl) (by simp)
  | false=>rfl
theorem qyc {it:It} (hi:it.Ok) (ho:zM it = true) (hg:it.gap = true) (more:List UInt8):qb0 (Jz it ++ more) = KP it:=by
 obtain ⟨f1,t1,f2,t2,-⟩:=qiv hi ho hg;unfold qb0 KP;rw [qeU,qaS (qiw it),qaR (qiw it),qbO,qiG 45 (qnP _),hg,if_pos rfl];simp only [qaH f1,qaH t1,Ju,f2,t2];unfold Qo;rw [qaS (qfT it.id),qbO,qec]
theorem qyO {it:It} (hi:it.Ok) (ho:zM it = true) (hg:it.gap = false) (more:List UInt8):qb1 (vx it ++ more) = it:=by
 obtain ⟨⟨r1,m1,s1⟩,⟨r2,m2,s2⟩,a1,a2,a3,a4,a5,-⟩:=qhr hi ho hg;have l0:=qh5 (JP it.id it.rc);have l1:=X1 k10.2.1 (qb3 it.rc.real.toNat);have l2:=X1 k10.2.2.1 (qb3 it.rc.mono.toNat);have l3:=X1 k10.2.2.2.1 (qb3 it.rc.seq.toNat);have l4:=qfT it.id;have l5:=qox it.rc.boot;unfold qb1;rw [qds,qaR l0,qaR l1,qaR l2,qaR l3,qaR l4,qaR l5,qna _ 17 _ (by omega) a5];unfold Qn Qo;rw [qaS l1,qaS l2,qaS l3,qaS l4,qaS l5,qbO,qbO,qbO,qbO,qbO,qaH r1,qaH m1,qaH s1,qec,qec,qjK _ a3];simp only [Ju,r2,m2,s2];obtain ⟨i,g,f,t,r⟩:=it;simp only at hg a1 a2;subst hg a1 a2;rfl
theorem qmQ (R:List UInt8):pre jR (KQ ++ R) = false:=rfl
theorem qmb {it:It} (hi:it.Ok) (ho:zM it = true) (more:List UInt8):ju (zH it ++ more) = KP it:=by
 unfold zH ju;cases hg:it.gap with
 | true =>
  rw [if_pos rfl,if_pos (by rw [qeU,vI];exact qhy _ _),qyc hi ho hg]
 | false =>
  simp only [vT,if_false];rw [if_neg (by rw [qds,vI,qmQ];decide),qyO hi ho hg];unfold KP;rw [hg,if_neg (by decide)]
theorem qlR (b:List UInt8) (a:Nat):Q5 b a [] = some ([],a):=rfl
theorem qr5 {it:It} (hi:it.Ok) (ho:zM it = true) (hg:it.gap = true) (more:List UInt8):Ke (Jz it ++ more) = (KP it,(Jz it).length,true):=by
 obtain ⟨f1,t1,f2,t2,-⟩:=qiv hi ho hg;have e0:(Jz it ++ more).drop 0 = (jR ++ (qE it.fr.toNat ++ 45 :: qE it.til.toNat)) ++ 10 :: ((jW ++ zu it.id.l) ++ 10 :: ([] ++ 10 :: more)):=qeU it more;have e1:=qar e0;have e2:=qar e1;have hL:=YJ e0 (qiw it) (YJ e1 (qfT it.id) (YJ (f:=[]) (x:=[]) e2 (by intro y hy;cases hy) (qlR (Jz it ++ more) _)));unfold Ke;unfold jW at hL;unfold jR at hL;have h45:=qfR 45 (qE it.fr.toNat) (qE it.til.toNat) 0 (qnP _);rw [vQ] at h45;have e:(((qE it.fr.toNat).length:Nat):Int).toNat = (qE it.fr.toNat).length:=by omega
 have d1:(qE it.fr.toNat ++ 45 :: qE it.til.toNat).take (qE it.fr.toNat).length = qE it.fr.toNat:=by simp
 have d2:(qE it.fr.toNat ++ 45 :: qE it.til.toNat).drop ((qE it.fr.toNat).length+1) = qE it.til.toNat:=by rw [qD];simp
 unfold jR jW;rw [hL];simp only [h45,e,d1,d2];rw [if_neg (by omega),qcd f1,qcd t1,qec,qfS it.id.h];unfold KP;rw [hg,if_pos rfl];simp only [Ju,f2,t2]
 have hl:(Jz it).length = (jR ++ (qE it.fr.toNat ++ 45 :: qE it.til.toNat)).length+1+((jW ++ zu it.id.l).length+1)+1:=by
  have:=congrArg List.length (qeU it []);rw [Z2] at this;rw [this];simp;omega
 rw [hl];unfold jR jW;simp
theorem qrI {it:It} (hi:it.Ok) (ho:zM it = true) (hg:it.gap = false) (more:List UInt8):YC (vx it ++ more) = (it,(vx it).length,true):=by
 obtain ⟨⟨r1,m1,s1⟩,⟨r2,m2,s2⟩,a1,a2,a3,a4,a5,-⟩:=qhr hi ho hg;have l0:=qh5 (JP it.id it.rc);have l1:=X1 k10.2.1 (qb3 it.rc.real.toNat);have l2:=X1 k10.2.2.1 (qb3 it.rc.mono.toNat);have l3:=X1 k10.2.2.2.1 (qb3 it.rc.seq.toNat);have l4:=qfT it.id;have l5:=qox it.rc.boot;have e0:(vx it ++ more).drop 0 = _:=qds it more;have e1:=qar e0;have e2:=qar e1;have e3:=qar e2;have e4:=qar e3;have e5:=qar e4;have e6:=qar e5;have hL:=YJ e0 l0 (YJ e1 l1 (YJ e2 l2 (YJ e3 l3 (YJ e4 l4 (YJ e5 l5 (qlR (vx it ++ more) _))))));have hF:=qk6 it.rc.fields.l 17 _ _ _ (by omega) a5 e6
 have hl:(vx it).length = 0+((KQ ++ JW (JP it.id it.rc)).length+1)+((JE ++ qE it.rc.real.toNat).length+1)+((JF ++ qE it.rc.mono.toNat).length+1)+((JD ++ qE it.rc.seq.toNat).length+1)+((jW ++ zu it.id.l).length+1)+((Z8 ++ zu it.rc.boot.l).length+1)+(jo it.rc.fields.l).length+1:=by
  have:=congrArg List.length (qds it []);rw [Z2] at this;rw [this];simp only [qC,qG,qX];omega
 unfold YC qd4;rw [hL];simp only;rw [qcd r1,qcd m1,qcd s1,qfS it.id.h,qfS it.rc.boot.h,if_pos (by rfl),hF];simp only [Ju,r2,m2,s2,qec,qjK _ a3];rw [hl];obtain ⟨i,g,f,t,r⟩:=it;simp only at hg a1 a2;subst hg a1 a2;rfl
theorem qr6 (it:It) (more:List UInt8):(Ke (vx it ++ more)).2.2 = false:=by
 have e0:(vx it ++ more).drop 0 = _:=qds it more
 have hL:Q5 (vx it ++ more) 0 [jR,jW,[]] = none:=by
  rw [Q5,e0,qd7 (qh5 _)];simp only;rw [if_neg (by rw [qmQ];decide)]
 unfold Ke;rw [hL]
theorem qqW {it:It} (hi:it.Ok) (ho:zM it = true) (more:List UInt8):Zo (zH it ++ more) = (KP it,(zH it).length,true):=by
 unfold Zo zH;cases hg:it.gap with
 | true =>
  rw [if_pos rfl,qr5 hi ho hg];rfl
 | false =>
  simp only [vT,if_false];rw [qr6,if_neg Bool.false_ne_true,qrI hi ho hg];unfold KP;rw [hg,if_neg (by decide)]
theorem qtm (it:It):zH (KP it) = zH it:=by
 unfold KP;cases hg:it.gap with
 | true =>
  rw [if_pos rfl];unfold zH;rw [hg,if_pos rfl,if_pos rfl];rfl
 | false=>rw [if_neg (by decide)]
theorem qtn {it:It} (hi:it.Ok) (ho:zM it = true):zM (KP it) = true:=by
 unfold KP;cases hg:it.gap with
 | true =>
  obtain ⟨-,-,-,-,-,-,-,-,-,h⟩:=qiv hi ho hg;rw [if_pos rfl];unfold zM;rw [if_pos rfl];unfold qan at h ⊢;simp only [qT,decide_eq_true_eq] at h ⊢;exact ⟨⟨⟨⟨⟨⟨h.1.1.1.1.1.1,h.1.1.1.1.1.2⟩,rfl⟩,rfl⟩,rfl⟩,rfl⟩,rfl⟩
 | false=>rw [if_neg (by decide)];exact ho
theorem qgH {it:It} (hi:it.Ok) (ho:zM it = true):(zH it).length≤10000∧1≤(zH it).length:=by
 unfold zH;cases hg:it.gap with
 | true =>
  rw [if_pos rfl];have l1:=kP it.fr.toNat;have l2:=kP it.til.toNat;have l3:=Zt it.id.l;rw [it.id.h] at l3;unfold Jz jR jW;simp;omega
 | false =>
  rw [if_neg (by decide)];obtain ⟨-,-,-,-,-,-,-,h⟩:=qhr hi ho hg;obtain ⟨b1,-,b3⟩:=qh2 h;have h1:=qfZ (J1 it) (qgT it hi);have h2:=qeA it.rc.fields.l 400 b3;have h3:(J1 it).length = 6:=rfl;rw [h3] at h1;unfold vx;simp only [qC,qG,qX];have h4:it.rc.fields.l.length * 400≤16 * 400:=qbD _ b1;omega
theorem qh0 {p s:List UInt8} (h:pre p s = true):s = p ++ s.drop p.length:=by
 unfold pre at h;have h1:=beq_iff_eq.1 h;have h2:=V0 p.length s;rw [h1] at h2;exact h2.symm
theorem qrL (b:List UInt8):qfl b = qcE b:=by
 have hi:=qfJ b
 have fwd:Jd b = true→qa9 b = true∧Zo b = (ju b,(zH (ju b)).length,true):=by
  intro h;unfold Jd at h;rw [qT] at h;obtain ⟨ho,hp⟩:=h;have hb:=qh0 hp;have h1:=qmb hi ho (b.drop (zH (ju b)).length);have h2:=qqW hi ho (b.drop (zH (ju b)).length);rw [← hb] at h1 h2;rw [← h1] at h2;refine ⟨?_,h2⟩;unfold qa9;rw [h2];simp only [vS,ho];unfold pre at hp;rw [beq_iff_eq] at hp ⊢;exact hp.symm
 have bwd:qa9 b = true→Jd b = true:=by
  intro h;unfold qa9 at h;simp only [qT,beq_iff_eq] at h;obtain ⟨-,ho,ht⟩:=h;have hq:=(qhe b).ok;have hle:=(qhe b).le
  have hb:b = zH (Zo b).1 ++ b.drop (Zo b).2.1:=by
   rw [ht];exact (V0 _ _).symm
  have h1:=qmb hq ho (b.drop (Zo b).2.1);rw [← hb] at h1;unfold Jd;rw [h1,qtn hq ho,qtm,vS];unfold pre;rw [ht,js,Nat.min_eq_left hle,beq_self_eq_true]
 unfold qfl qcE;cases h:Jd b with
 | true =>
  obtain ⟨h1,h2⟩:=fwd h;rw [h1,h2]
 | false =>
  have h1:qa9 b = false:=by
   cases hr:qa9 b with
   | false=>rfl
   | true=>rw [bwd hr] at h;cases h
  rw [h1];rfl
def qfi (r s:Rec):Bool:=r.seq == s.seq && (r.real == s.real && (r.mono == s.mono && (r.boot == s.boot && r.fields.l == s.fields.l)))
def qcB (x y:It):Bool:=x.id == y.id && (x.gap == y.gap && (x.fr == y.fr && (x.til == y.til && qfi x.rc y.rc)))
theorem qyJ (p q:Pr):(p == q) = (decide (p.name = q.name) && decide (p.value = q.value)):=by
 obtain ⟨a,b⟩:=p;obtain ⟨c,d⟩:=q;rw [Bool.eq_iff_iff];simp
theorem q0x {a b:List Pr} {k:Nat} (ha:k < a.length) (hb:k < b.length):(a.drop k == b.drop k) = (a[k] == b[k] && a.drop (k+1) == b.drop (k+1)):=by
 rw [zm ha,zm hb];rfl
set_option maxHeartbeats 1000000 in
theorem qrm [MaxL] (a b:Sl Pr) (ha:a.l.length < 1000000) (_:b.l.length < 1000000):call cx 120 [(.vsl a.nil (qh a.l) a.l.length),(.vsl b.nil (qh b.l) b.l.length)] [] = some (.bool (a.l == b.l),[]):=by
 refine qs Tryz.func120 rfl ⟨rfl,rfl⟩ ?_;by_cases qt:a.l.length = b.l.length
 case neg =>
  have hne':¬ (a.l.length:Int) = (b.l.length:Int):=by omega
  have hf:(a.l == b.l) = false:=beq_eq_false_iff_ne.2 fun e=>qt (by rw [e]);rw [hf];simp [Tryz.f120,hne']
 have hne':(a.l.length:Int) = (b.l.length:Int):=by omega
 simp [Tryz.f120,qt];refine Run.loopThen (fun (k:Nat) e H'=>k≤a.l.length∧(a.l == b.l) = (a.l.drop k == b.l.drop k)∧qf e 0 = some (.vsl a.nil (qh a.l) a.l.length)∧qf e 1 = some (.vsl b.nil (qh b.l) b.l.length)∧qf e 5 = some (.int .i64 (k:Nat))∧H' = []) (fun k=>a.l.length - k) 0 ?_ ?_
 ·simp [qt]
 rintro k e H' ⟨hk,hR,k0,k1,k5,rfl⟩;rw [hR];by_cases qg:k < a.l.length
 ·have qk:(k:Int) < (a.l.length:Int):=by omega
  have hlb:k < b.l.length:=by omega
  have hlb':(k:Int) < (b.l.length:Int):=by omega
  have hw:IntKind.i64.wrap ((k:Int)+1) = ((k+1:Nat):Int):=by rw [wrap_i64] <;> omega
  have n1:a.nil = false:=Sl.nn qg;have n2:b.nil = false:=Sl.nn hlb;have hE:(a.l[k] == b.l[k]) = (decide (a.l[k].name = b.l[k].name) && decide (a.l[k].value = b.l[k].value)):=qyJ a.l[k] b.l[k];rw [q0x qg hlb,hE];by_cases h1:a.l[k].name = b.l[k].name
  ·by_cases h2:a.l[k].value = b.l[k].value
   ·simp [k0,k1,k5,qg,hlb,qk,hlb',n1,n2,Pr.cells,h1,h2,hw];exact ⟨k+1,by omega,by omega,rfl,rfl⟩
   ·simp [k0,k1,k5,qg,hlb,qk,hlb',n1,n2,Pr.cells,h1,h2]
  ·simp [k0,k1,k5,qg,hlb,qk,hlb',n1,n2,Pr.cells,h1]
 ·have qk:¬ (k:Int) < (a.l.length:Int):=by omega
  rw [zX (by omega),zX (by omega)];have Qc:¬ (k:Int) < (b.l.length:Int):=by omega
  simp [k0,k1,k5,Qc,hne']
set_option maxHeartbeats 1000000 in
theorem qrd [MaxL] (r s:Rec) (ha:r.fields.l.length < 1000000) (hb:s.fields.l.length < 1000000):call cx 81 [.agg (Enc.cells r),.agg (Enc.cells s)] [] = some (.bool (qfi r s),[]):=by
 have hp:=qrm r.fields s.fields ha hb;have t1:List.take 16 (qd r.boot.l ++ [(.vsl r.fields.nil (qh r.fields.l) r.fields.l.length)]) = qd r.boot.l:=by rw [zW];simp
 have t2:List.take 16 (qd s.boot.l ++ [(.vsl s.fields.nil (qh s.fields.l) s.fields.l.length)]) = qd s.boot.l:=by rw [zW];simp
 have d1:List.drop 16 (qd r.boot.l ++ [(.vsl r.fields.nil (qh r.fields.l) r.fields.l.length)]) = [(.vsl r.fields.nil (qh r.fields.l) r.fields.l.length)]:=by rw [qD];simp
 have d2:List.drop 16 (qd s.boot.l ++ [(.vsl s.fields.nil (qh s.fields.l) s.fields.l.length)]) = [(.vsl s.fields.nil (qh s.fields.l) s.fields.l.length)]:=by rw [qD];simp
 have b1:(qd r.boot.l).length = 16:=by simp
 have b2:(qd s.boot.l).length = 16:=by simp
 unfold qfi;refine qs Tryz.func81 rfl ⟨rfl,rfl⟩ ?_;rw [Rec.cells,Rec.cells];cases h1:(r.seq == s.seq) <;> cases h2:(r.real == s.real) <;> cases h3:(r.mono == s.mono) <;> cases h4:(r.boot == s.boot) <;> simp [Tryz.f81,hp,t1,t2,d1,d2,b1,b2,h1,h2,h3,h4]
set_option maxHeartbeats 1000000 in
theorem qru [MaxL] (x y:It) (ha:x.rc.fields.l.length < 1000000) (hb:y.rc.fields.l.length < 1000000):call cx 42 [.agg (Enc.cells x),.agg (Enc.cells y)] [] = some (.bool (qcB x y),[]):=by
 have hp:=qrd x.rc y.rc ha hb;have u1:List.take 17 (qd x.rc.boot.l ++ [(.vsl x.rc.fields.nil (qh x.rc.fields.l) x.rc.fields.l.length)]) = qd x.rc.boot.l ++ [(.vsl x.rc.fields.nil (qh x.rc.fields.l) x.rc.fields.l.length)]:=qx (by simp);have u2:List.take 17 (qd y.rc.boot.l ++ [(.vsl y.rc.fields.nil (qh y.rc.fields.l) y.rc.fields.l.length)]) = qd y.rc.boot.l ++ [(.vsl y.rc.fields.nil (qh y.rc.fields.l) y.rc.fields.l.length)]:=qx (by simp);rw [Rec.cells,Rec.cells] at hp;simp only [kt,ZW] at hp;unfold qcB;refine qs Tryz.func42 rfl ⟨rfl,rfl⟩ ?_;cases h1:(x.id == y.id) <;> cases h2:(x.gap == y.gap) <;> cases h3:(x.fr == y.fr) <;> cases h4:(x.til == y.til) <;> simp [Tryz.f42,u1,u2,hp,h1,h2,h3,h4]
def KM (b:List UInt8):It:=if Jd b then ju b else It.zero
def V4 (b:List UInt8):Nat:=if Jd b then (zH (ju b)).length else 0
def J6 (b:List UInt8):Int:=if Jd b then 0 else 20
theorem qkN (b:List UInt8):qcE b = .tup [.agg (Enc.cells (KM b)),.int .i64 (V4 b:Nat),.int .i64 (J6 b)]:=by
 unfold qcE KM V4 J6;split <;> rfl
theorem qrN [MaxL] (s:Sl UInt8) (hs:s.l.length < 1000000):call cx 109 [(.vsl s.nil (qd s.l) s.l.length)] [] = some (.tup [.agg (Enc.cells (KM s.l)),.int .i64 (V4 s.l:Nat),.int .i64 (J6 s.l)],[]):=by
 have h1:=qrM s hs fun h=>by have:=qgH (qfJ s.l) h;omega
 rw [qkN] at h1;exact h1
theorem qz1 [MaxL] [TxtC] (x y:Sl UInt8):call cx 67 [(.vsl x.nil (qd x.l) x.l.length),(.vsl y.nil (qd y.l) y.l.length)] [] = some (.int .i64 (qy x.l y.l),[]):=by
 have h:call cx 105 [(.vsl x.nil (qd x.l) x.l.length),(.vsl y.nil (qd y.l) y.l.length)] [] = some (.int .i64 (qy x.l y.l),[]):=by
  rw [qiP (X:=cx) (f:=105) rfl Tryz.func105 rfl,qnk,qzH x.nil y.nil x.l y.l x.h y.h];rfl
 refine qs Tryz.func67 rfl ⟨rfl,rfl⟩ ?_;simp [Tryz.f67,h]
theorem qiI [MaxL] [TxtC] (x y:ID):call cx 67 [.vsl false (qd x.l) 16,.vsl false (qd y.l) 16] [] = some (.int .i64 (qy x.l y.l),[]):=by
 have h:=qz1 (.of x.l) (.of y.l);simpa using h
def jg:List Mk→Bool
 | a :: b :: l=>decide (qy a.id.l b.id.l < 0) && jg (b :: l)
 | _=>true
def vm (l:List Mk):Bool:=decide (l.length≤4) && jg l
theorem qk1 [MaxL] [TxtC] (s:Sl Mk) (hn:s.l.length < 4611686018427387904) :
  call cx 62 [(.vsl s.nil (qh s.l) s.l.length)] [] = some (.bool (vm s.l),[]):=by
 refine qs Tryz.func62 rfl ⟨rfl,rfl⟩ ?_;by_cases h4:s.l.length≤4
 ·have ZO:¬ (4:Int) < (s.l.length:Int):=by omega
  simp [Tryz.f62,ZO,vm,h4];refine Run.loopThen (fun (i:Nat) e H=>1≤i∧(i≤s.l.length∨i = 1)∧H = []∧qf e 0 = some (.vsl s.nil (qh s.l) s.l.length)∧qf e 3 = some (.int .i64 i)∧jg s.l = jg (s.l.drop (i - 1))) (fun i=>s.l.length - i) 1 (by simp) ?_;rintro i e H ⟨hi,YV,rfl,h0,h3,hr⟩;by_cases qg:i < s.l.length
  ·obtain ⟨k,hk⟩:∃ k,k+1 = i:=⟨i - 1,by omega⟩;have qk:(i:Int) < (s.l.length:Int):=(by omega);have ki:k < s.l.length:=(by omega);have kA:(k:Int) < (s.l.length:Int):=(by omega);have hw:IntKind.i64.wrap ((i:Int) - 1) = (k:Int):=(by rw [wrap_i64] <;> omega);have zw:IntKind.i64.wrap ((i:Int)+1) = ((i+1:Nat):Int):=(by rw [wrap_i64] <;> omega);have hc:=qiI s.l[k].id s.l[i].id
   have zS:jg s.l = (decide (qy s.l[k].id.l s.l[i].id.l < 0) && jg (s.l.drop i)):=by
    have e1:i - 1 = k:=by omega
    have e2:s.l.drop k = s.l[k] :: s.l[i] :: s.l.drop (i+1):=by
     rw [zm ki];congr 1;rw [hk,zm qg]
    rw [hr,e1,e2,jg,zm qg]
   have jb:∀ k,(16≤19+k) = True:=fun k=>eq_true (by omega);have ht:∀ (m:Mk) (r:List D),(Enc.cells m ++ r).take 16 = qd m.id.l:=fun m r=>by simp [Mk.cells]
   by_cases Vn:qy s.l[k].id.l s.l[i].id.l < 0
   ·have hcm':¬ 0≤qy s.l[k].id.l s.l[i].id.l:=(by omega);rw [decide_eq_true Vn,vS] at zS;simp [h0,h3,qk,hw,kA,Sl.nn qg,jb,qg,ki,ht,hc,hcm',zw];exact ⟨i+1,by omega,by omega,.inl (by omega),rfl,by simpa using zS⟩
   ·have hcm':0≤qy s.l[k].id.l s.l[i].id.l:=(by omega);rw [decide_eq_false Vn,Z3] at zS;simp [h0,h3,qk,hw,kA,Sl.nn qg,jb,qg,ki,ht,hc,hcm',zS]
  ·have qk:¬ (i:Int) < (s.l.length:Int):=by omega
   have zS:jg s.l = true:=by
    rw [hr];have:(s.l.drop (i - 1)).length≤1:=by rw [jU];omega
    match s.l.drop (i - 1),this with
    | [],_=>rfl
    | [a],_=>rfl
   simp [h0,h3,qk,zS]
 ·have ZO:(4:Int) < (s.l.length:Int):=by omega
  simp [Tryz.f62,ZO,vm,h4]
theorem qaA {l:List Mk} (h:vm l = true):l.length≤4:=by
 rw [vm,qT] at h;exact of_decide_eq_true h.1
def V8 (m:Mk):List UInt8:=m.id.l ++ (qJ 8 m.seq.toNat ++ (qJ 8 m.lost.toNat ++ qJ 8 m.over.toNat))
def JB (l:List Mk):List UInt8:=UInt8.ofNat l.length :: l.flatMap V8
theorem qtB (m:Mk):(V8 m).length = 40:=by simp [V8]
theorem qhI (l:List Mk):(l.flatMap V8).length = l.length * 40:=by
 induction l with
 | nil=>rfl
 | cons a l ih=>rw [List.flatMap_cons,qC,ih,qtB,qG];omega
theorem qhS [MaxL] [TxtC] (l:List UInt8) (v:Nat) (hn:l.length≤140737488355000) :
  call cx 63 [.vsl false (qd l) l.length,.int .i64 8,.int .u64 v] [] = some (.osl 0 (l.length+8) 0 (l.length+8) 1,[some (qd (l ++ qJ 8 v))]):=by
 obtain ⟨d,H,hb,hc⟩:=qlW (.of l) 8 v (by simpa using hn);have e:Kj l 8 v = l ++ qJ 8 v:=by simp [Kj,XU]
 simp only [Sl.of_l,Sl.of_nil] at hb hc;rw [e] at hb;rcases hb with ⟨rfl,h,rfl⟩ | ⟨rfl,rfl⟩
 ·have:=congrArg List.length h;simp at this
 ·rw [hc];simp
def kQ (l:List Mk):Sl UInt8:=if vm l then .of (JB l) else .none
def qbJ (l:List Mk) (i:Nat) (X:List UInt8):Prop:=X = UInt8.ofNat l.length :: (l.take i).flatMap V8
set_option maxRecDepth 4000 in
set_option maxHeartbeats 2000000 in
theorem q0h [MaxL] [TxtC] (s:Sl Mk) (hn:s.l.length < 4611686018427387904) (hok:∀ m∈s.l,m.Ok) :
  call cx 66 [(.vsl s.nil (qh s.l) s.l.length)] [] = some ((.vsl (kQ s.l).nil (qd (kQ s.l).l) (kQ s.l).l.length),[]):=by
 have hr:=qk1 s hn;refine qs Tryz.func66 rfl ⟨rfl,rfl⟩ ?_;cases h:vm s.l with
 | false =>
  rw [h] at hr;simp [Tryz.f66,hr,kQ,h,qd]
 | true =>
  rw [h] at hr;have hl:=qaA h;have hw8:IntKind.u8.wrap (s.l.length:Int) = (s.l.length:Int):=by rw [QG];omega
  simp [Tryz.f66,hr,kQ,h,hw8];refine Run.loopThen (fun (i:Nat) e H=>i≤s.l.length∧∃ X:List UInt8,qbJ s.l i X∧H = [some (qd X)]∧qf e 3 = some (.osl 0 X.length 0 X.length 1)∧qf e 15 = some (.vsl s.nil (qh s.l) s.l.length)∧qf e 16 = some (.int .i64 s.l.length)∧qf e 17 = some (.int .i64 i)) (fun i=>s.l.length - i) 0 ?_ ?_
  ·refine ⟨by omega,[UInt8.ofNat s.l.length],by simp [qbJ],?_⟩;simp [qd];omega
  rintro i e H ⟨hi,X,hX,rfl,h3,h15,jb,h17⟩;by_cases qg:i < s.l.length
  ·have qk:(i:Int) < (s.l.length:Int):=(by omega);have hw:IntKind.i64.wrap ((i:Int)+1) = ((i+1:Nat):Int):=(by rw [wrap_i64] <;> omega);have hl40:=qhI (s.l.take i);rw [js,Nat.min_eq_left hi] at hl40
   have jK:qbJ s.l (i+1) (X ++ V8 s.l[i]):=by
    unfold qbJ at *;rw [hX,qbF qg,List.flatMap_append];simp
   have jD:X.length≤200:=(by rw [hX,qG,hl40];omega);clear hX hl40;have hm:=hok _ (vw qg);obtain ⟨⟨m0,m1,m2,m3⟩,hme⟩:∃ m,s.l[i] = m:=⟨_,rfl⟩;rw [hme] at jK hm;obtain ⟨a1,rfl⟩:∃ k:Nat,m1 = k:=⟨m1.toNat,by have:=hm.seq;simp [qA] at this;omega⟩;obtain ⟨a2,rfl⟩:∃ k:Nat,m2 = k:=⟨m2.toNat,by have:=hm.lost;simp [qA] at this;omega⟩;obtain ⟨a3,rfl⟩:∃ k:Nat,m3 = k:=⟨m3.toNat,by have:=hm.over;simp [qA] at this;omega⟩;have hb:X.length+16≤140737488355328:=(by omega);simp [h3,h15,jb,h17,qk,qg,Sl.nn qg,hme,qI,hb];clear h3 h15 jb h17 e;have d1:=qhS (X ++ m0.l) a1 (by simp;omega);have d2:=qhS (X ++ m0.l ++ qJ 8 a1) a2 (by simp;omega);have d3:=qhS (X ++ m0.l ++ qJ 8 a1 ++ qJ 8 a2) a3 (by simp;omega);simp [V5,Vz] at d1 d2 d3
   iterate 4
    refine Xq ?_;simp [d1,d2,d3,hw,qx]
   exact ⟨i+1,by omega,by omega,_,jK,by simp [V8,V5],by simp [V8],rfl⟩
  ·have qk:¬ (i:Int) < (s.l.length:Int):=(by omega);have vL:s.l.take i = s.l:=qx (by omega);have hXe:X = JB s.l:=(by rw [hX,vL];rfl);simp [h3,h15,jb,h17,qk,hXe]
end Go.Ev.S
namespace Go.Ev
open Go Go.Proofs
theorem qdO (s:BitVec 32):BitVec.ofInt IntKind.u32.bits (s.toNat:Int) = s:=by
 show BitVec.ofInt 32 (s.toNat:Int) = s;rw [qeJ,BitVec.ofNat_toNat];simp
theorem qgA (s:BitVec 32):IntKind.u32.wrap (s.toNat:Int) = (s.toNat:Int):=by
 have:=s.isLt;rw [KJ];omega
theorem qjh (s t:BitVec 32):zt .u32 (s.toNat:Int) (t.toNat:Int) = ((s ^^^ t).toNat:Int):=by
 unfold zt;rw [qdO,qdO];exact qgA _
theorem q0N (s t:BitVec 32):Y2 .u32 (s.toNat:Int) (t.toNat:Int) = ((s &&& t).toNat:Int):=by
 unfold Y2;rw [qdO,qdO];exact qgA _
theorem q0t (s:BitVec 32):Y2 .u32 (s.toNat:Int) 1 = ((s.toNat % 2:Nat):Int):=by
 have h:=q0N s 1#32;have e:((1#32).toNat:Int) = 1:=rfl;rw [e] at h;rw [h];congr 1;rw [BitVec.toNat_and];exact Nat.and_one_is_mod _
theorem qmD (s:BitVec 32):(s.toNat:Int).fdiv 2 = ((s >>> 1).toNat:Int):=by
 rw [BitVec.toNat_ushiftRight,Nat.shiftRight_eq_div_pow,Int.fdiv_eq_ediv_of_nonneg _ (by decide)];omega
theorem qld (s:BitVec 32):zt .u32 (s.toNat:Int) 2197175160 = ((s ^^^ 2197175160#32).toNat:Int):=qjh s 2197175160#32
theorem qov (s:BitVec 32) (c:UInt8):zt .u32 (s.toNat:Int) (c.toNat:Int) = ((s ^^^ BitVec.ofNat 32 c.toNat).toNat:Int):=by
 have h:=qjh s (BitVec.ofNat 32 c.toNat);have hc:=c.toNat_lt
 have e:(BitVec.ofNat 32 c.toNat).toNat = c.toNat:=by
  rw [qdk];exact qbE (by omega)
 rw [e] at h;exact h
def qet (s:BitVec 32):BitVec 32:=if s.toNat % 2 = 1 then (s >>> 1) ^^^ 2197175160#32 else s >>> 1
def ZQ:Nat→BitVec 32→BitVec 32
 | 0,s=>s
 | n+1,s=>ZQ n (qet s)
def qzj (s:BitVec 32) (c:UInt8):BitVec 32:=ZQ 8 (s ^^^ BitVec.ofNat 32 c.toNat)
def qct (s:BitVec 32) (l:List UInt8):BitVec 32:=l.foldl qzj s
def QD (s:BitVec 32) (l:List UInt8):BitVec 32:= ~~~ qct (~~~ s) l
theorem ql3 (s:BitVec 32):IntKind.u32.wrap ((BitVec.ofInt IntKind.u32.bits 4294967295 ^^^ BitVec.ofInt IntKind.u32.bits (s.toNat:Int)).toNat:Int) = ((~~~ s).toNat:Int):=by
 rw [qdO]
 have e:(BitVec.ofInt 32 4294967295 ^^^ s) = ~~~ s:=by
  rw [show BitVec.ofInt 32 4294967295 = BitVec.allOnes 32 from by decide,BitVec.allOnes_xor]
 have h:=qgA (~~~ s);rw [← e] at h ⊢;exact h
end Go.Ev
namespace Go.Ev.S
open Go Go.Proofs Go.Ev
theorem qt6 [MaxL] [TxtC] (n b:Int):call cx 24 [.int .i64 n,.int .i64 b] [] = some (.int .i64 (if b < 1 then 0 else (IntKind.i64.wrap (n.tmod b+b)).tmod b),[]):=by
 refine qs Tryz.func24 rfl ⟨rfl,rfl⟩ ?_;by_cases h1:b < 1
 ·simp [Tryz.f24,h1]
 ·have h2:b≠0:=by omega
  simp [Tryz.f24,h1,h2]
theorem qdS [MaxL] [TxtC] (n:Int) (b:Nat) (hb:1≤b) (zE:b≤1000000):∃ x:Nat,x < b∧call cx 24 [.int .i64 n,.int .i64 b] [] = some (.int .i64 x,[]):=by
 have h1:n.tmod b < b:=Int.tmod_lt_of_pos _ (by omega)
 have h2:-(b:Int) < n.tmod b:=by
  have:=Int.tmod_lt_of_pos (-n) (show (0:Int) < b by omega);rw [Int.neg_tmod] at this;omega
 have h:=qt6 n b;rw [if_neg (by omega)] at h;generalize n.tmod b = x at *;have hw:IntKind.i64.wrap (x+b) = x+b:=by rw [wrap_i64];omega
 rw [hw] at h;have h3:0≤x+b:=by omega
 have h4:=Int.tmod_nonneg (b:Int) h3;have h5:=Int.tmod_lt_of_pos (x+b) (show (0:Int) < b by omega);refine ⟨((x+b).tmod b).toNat,by omega,?_⟩;rw [h];congr 3;omega
def jG (nil:Bool) (zs:List Int) (k:Nat):List D:=[.vsl nil (je .i64 zs) zs.length,.int .i64 k]
theorem qhZ {k:IntKind} {l:List Int} {i:Nat} (h:i < l.length):(je k l).drop i = .int k l[i] :: je k (l.drop (i+1)):=by
 unfold je;rw [← List.map_drop,zm h];rfl
@[simp] theorem q7C (k:IntKind) (l:List Int):(je k l).length = l.length:=by simp [je]
theorem qd2 (nil:Bool) (zs:List Int) (k:Nat):(∀ x,x∈jG nil zs k→idFree x = true) = True:=eq_true (by
 unfold jG;simp)
theorem qd1 (nil:Bool) (zs:List Int) (k:Nat):(jG nil zs k).length = 2:=rfl
theorem qd3 (nil:Bool) (zs:List Int) (k n:Nat):(∀ x,x∈jG nil zs k→closed n x = true) = True:=eq_true (by
 unfold jG;simp)
theorem qt1 [MaxL] [TxtC] (nil:Bool) (zs:List Int) (k:Nat):call cx 58 [.optr 0 2 0] [some (jG nil zs k)] = some (.bool (decide (k < zs.length)),[some (jG nil zs k)]):=by
 refine qs Tryz.func58 rfl ⟨rfl,rfl⟩ ?_;unfold jG;by_cases h:k < zs.length
 ·have h':(k:Int) < (zs.length:Int):=by omega
  simp [Tryz.f58,h,h']
 ·have h':¬ (k:Int) < (zs.length:Int):=by omega
  simp [Tryz.f58,h,h']
theorem ql1 [MaxL] [TxtC] (n b:Int) (hb:1≤b) (zE:b≤1000000):∃ x:Nat,(x:Int) < b∧call cx 24 [.int .i64 n,.int .i64 b] [] = some (.int .i64 x,[]):=by
 obtain ⟨x,h1,h2⟩:=qdS n b.toNat (by omega) (by omega);rw [show ((b.toNat:Nat):Int) = b by omega] at h2;exact ⟨x,by omega,h2⟩
theorem V6 [MaxL] [TxtC] (nil:Bool) (zs:List Int) (qM:nil = true→zs = []) (hz:zs.length≤1000000) (k:Nat) (b:Int) (hb:1≤b) (zE:b≤1000000) :
  ∃ x k':Nat,(x:Int) < b∧(k < zs.length→k < k')∧call cx 59 [.optr 0 2 0,.int .i64 b] [some (jG nil zs k)] = some (.int .i64 x,[some (jG nil zs k')]):=by
 unfold jG;by_cases qg:k < zs.length
 ·have Ku:nil = false:=by
   cases nil with
   | false=>rfl
   | true=>rw [qM rfl] at qg;simp at qg
  subst Ku;have qk:¬ (zs.length:Int)≤(k:Int):=by omega
  have Qc:(k:Int) < (zs.length:Int):=by omega
  have hw:IntKind.i64.wrap ((k:Int)+1) = ((k+1:Nat):Int):=by rw [wrap_i64] <;> omega
  have zw:IntKind.i64.wrap (((k+1:Nat):Int) - 1) = (k:Int):=by rw [wrap_i64] <;> omega
  have hw3:IntKind.i64.wrap (k:Int) = (k:Int):=by rw [wrap_i64];omega
  obtain ⟨x,hx,hn⟩:=ql1 zs[k] b hb zE;refine ⟨x,k+1,hx,fun _=>Nat.lt_succ_self k,?_⟩;refine qs Tryz.func59 rfl ⟨rfl,rfl⟩ ?_;simp [Tryz.f59,qk,hw,Qc,hw3,qhZ qg,hn]
 ·have qk:(zs.length:Int)≤(k:Int):=by omega
  refine ⟨0,k,by omega,fun h=>absurd h qg,?_⟩;refine qs Tryz.func59 rfl ⟨rfl,rfl⟩ ?_;simp [Tryz.f59,qk]
def namesL:List (List UInt8):=[[65],[66],[77,69,83,83,65,71,69],[95,80,73,68],[88,95,49],[80,82,73,79,82,73,84,89]]
def valuesL:List (List UInt8):=[[],[48],[49],[50,50],[97,61,98],[111,110,101,10,116,119,111],[0,255],[116,97,98,9,104,101,114,101],[108,111,110,103,32,108,111,110,103,32,108,111,110,103,32,108,111,110,103,32,108,111,110,103,32,108,111,110,103,32,108,111,110,103],[126,127,128]]
def strD (l:List (List UInt8)):List D:=l.map D.str
theorem qjA {l:List (List UInt8)} {i:Nat} (h:i < l.length):(strD l).drop i = .str l[i] :: strD (l.drop (i+1)):=by
 unfold strD;rw [← List.map_drop,zm h];rfl
theorem qtt [MaxL] [TxtC]:call cx 164 [] [] = some (.vsl false (strD namesL) 6,[]):=by
 refine call_some.2 ⟨60,?_⟩;kernel_rfl
theorem qpk [MaxL] [TxtC]:call cx 165 [] [] = some (.vsl false (strD valuesL) 10,[]):=by
 refine call_some.2 ⟨60,?_⟩;kernel_rfl
def JZ (p:Pr):Bool:=kY p && (decide (p.name.length≤8) && decide (p.value.length≤36))
theorem qf6 {p:Pr} (h:JZ p = true):kY p = true:=by
 unfold JZ at h;rw [qT] at h;exact h.1
theorem qt7 {p:Pr} (h:JZ p = true):p.name.length≤8∧p.value.length≤36:=by
 unfold JZ at h;simp only [qT,decide_eq_true_eq] at h;exact h.2
theorem qsD:∀ n∈namesL,∀ v∈valuesL,JZ ⟨n,v⟩ = true:=by decide
set_option maxHeartbeats 1000000 in
theorem qt0 [MaxL] [TxtC] (nil:Bool) (zs:List Int) (qM:nil = true→zs = []) (hz:zs.length≤1000000) (k:Nat) :
  ∃ (p:Pr) (k':Nat),JZ p = true∧call cx 139 [.optr 0 2 0] [some (jG nil zs k)] = some (.agg (Enc.cells p),[some (jG nil zs k')]):=by
 obtain ⟨x,k1,hx,-,h1⟩:=V6 nil zs qM hz k 6 (by decide) (by decide);obtain ⟨y,k2,hy,-,h2⟩:=V6 nil zs qM hz k1 10 (by decide) (by decide);have Z9:x < namesL.length:=by show x < 6;omega
 have hy':y < valuesL.length:=by show y < 10;omega
 have g1:=qtt;have g2:=qpk;refine ⟨⟨namesL[x],valuesL[y]⟩,k2,qsD _ (vw Z9) _ (vw hy'),?_⟩;have a1:=qjA Z9;have a2:=qjA hy';generalize namesL[x] = n at *;generalize valuesL[y] = v at *;generalize strD namesL = N at *;generalize strD valuesL = V at *;refine qs Tryz.func139 rfl ⟨rfl,rfl⟩ ?_;unfold jG at h1 h2 ⊢;simp [Tryz.f139,h1,h2,g1,g2,a1,a2,hx,hy,Pr.cells]
def Ji (j:Nat):ID:=⟨[94,0,0,0,0,0,0,0,0,0,0,0,0,0,0,UInt8.ofNat j],rfl⟩
theorem qf7 [MaxL] [TxtC] {j:Nat} (hj:j < 5):call cx 60 [.int .i64 j] [] = some (.agg (qd (Ji j).l),[]):=by
 have h:j = 0∨j = 1∨j = 2∨j = 3∨j = 4:=by omega
 refine call_some.2 ⟨60,?_⟩;rcases h with rfl | rfl | rfl | rfl | rfl <;> kernel_rfl
theorem qtu {n:List UInt8} (h:kZ n = true):n.length≤64:=by
 unfold kZ at h;split at h
 ·cases h
 ·simp only [qT,decide_eq_true_eq] at h;exact h.1.1
theorem qh1 {p:Pr} (h:kY p = true):kZ p.name = true∧p.name.length≤64∧p.value.length≤256:=by
 unfold kY at h;simp only [qT,decide_eq_true_eq] at h;exact ⟨h.1,qtu h.1,h.2⟩
theorem qxh [MaxL] [TxtC] (p:Pr) (h:kY p = true):call cx 137 [.agg (Enc.cells p)] [] = some (.tup [.vsl false (qd (jQ p)) (jQ p).length,.int .i64 0],[]):=by
 obtain ⟨hn,vW,hv⟩:=qh1 h;have ZD:=qks p.name (by omega);rw [hn] at ZD;have hp:=qfu p (by omega) (by omega);have hv':¬ (256:Int) < (p.value.length:Int):=by omega
 refine qs Tryz.func137 rfl ⟨rfl,rfl⟩ ?_;rw [Pr.cells] at hp ⊢;have hl:(jQ p).length≤321:=by unfold jQ;simp;omega
 have qt:(jQ p).length≠0:=by unfold jQ;simp
 generalize jQ p = w at *;have hm:w.length≤140737488355328:=by omega
 simp [Tryz.f137,ZD,hp,hv']
theorem qfA {X:Cx} {f nt n0:Nat} {Q:Ex→qr→qi→Prop} {fs:List Fr} {c:Code} {σ:Type} (I:σ→qr→qi→Prop) (m:σ→Nat) (s:σ) (J:Ex→qr→qi→Prop) {e:qr} {H:qi} (h0:I s e H)
  (step:∀ s e H,I s e H→Run X f nt n0 (fun ex e' H'=>match ex with | .normal=>∃ s',m s' < m s∧I s' e' H' | ex=>J ex e' H') [] (code X f nt n0 c e H))
  (done:∀ ex e H,J ex e H→Run X f nt n0 Q fs (some (ex,e,H))):Run X f nt n0 Q fs (code X f nt n0 (.loop c) e H):=by
 refine Run.loopThen I m s h0 fun s e H hi=>Run.mono (step s e H hi) fun ex e H hq=>?_;rw [Kc];cases ex with
 | normal=>exact hq
 | _=>exact done _ _ _ hq
def LsM (L:List Pr) (d:D) (H:qi):Prop :=
 ∃ n k t,n = L.length * 2∧k = L.length∧((d = .osl 1 n 0 k 2∧H = [some t,some (qh L)])∨(d = .osl 0 n 0 k 2∧H = [some (qh L),some t])∨(d = .osl 0 n 0 k 2∧H = [some (qh L)]))
def LsH (out:List Pr) (d:D) (H:qi):Prop :=
 (out = []∧d = .vsl true [] 0∧H = [])∨(out≠[]∧LsM out d H)
def LsQ (q:D × qi):Prop:= ∃ out:List Pr,1≤out.length∧out.length≤4∧(∀ p∈out,JZ p = true)∧q = (.tup [.vsl false (qh out) out.length,.int .i64 0],[])
set_option maxHeartbeats 4000000 in
theorem qtW [MaxL] [TxtC] (l:List Pr) (h1:1≤l.length) (h4:l.length≤4) (hok:∀ p∈l,JZ p = true):∃ q,call cx 93 [.vsl false (qh l) l.length] [] = some q∧LsQ q:=by
 refine vH (X:=cx) (f:=93) (args:=[.vsl false (qh l) l.length]) (H:=[]) LsQ Tryz.func93 rfl ⟨rfl,rfl⟩ ?_;have hz:¬ l.length = 0:=by omega
 simp [Tryz.f93,hz];refine Run.loopThen (fun (q:Nat × List Pr) e H'=>q.1≤l.length∧q.2.length≤q.1∧(1≤q.1→1≤q.2.length)∧(∀ p∈q.2,JZ p = true)∧qf e 0 = some (.vsl false (qh l) l.length)∧qf e 5 = some (.int .i64 (q.1:Nat))∧∃ d,qf e 4 = some d∧LsH q.2 d H') (fun q=>l.length - q.1) (0,[]) ?_ ?_
 ·exact ⟨by simp,by simp,by simp,by simp,by simp,by simp,_,by simp,.inl ⟨rfl,rfl,rfl⟩⟩
 rintro ⟨i,out⟩ e H' ⟨hi,ho,ho1,hp,k0,k5,d,k4,hH⟩;simp only at hi ho ho1 hp k5 hH;by_cases qg:i < l.length
 ·have qk:(i:Int) < (l.length:Int):=by omega
  have hj:=qxh l[i] (qf6 (hok _ (vw qg)));have vD:=hok _ (vw qg);obtain ⟨-,hb1,zE⟩:=qh1 (qf6 vD);have Kq:IntKind.i64.wrap ((i:Int)+1) = ((i+1:Nat):Int):=by rw [wrap_i64] <;> omega
  rw [Pr.cells] at hj;rcases hH with ⟨rfl,rfl,rfl⟩ | ⟨qt,n,k,t,hn,hk,hH⟩
  ·simp [k0,k4,k5,qg,qk,hj,Pr.cells];refine Xq ?_;simp [qI];refine Xq ?_;simp [qg,qk,Pr.cells,Kq];exact ⟨i+1,by omega,by omega,[l[i]],by simp,fun _=>by simp,by simp [vD],by simp,.inr ⟨by simp,2,1,_,rfl,rfl,.inl ⟨rfl,rfl⟩⟩⟩
  have qz:List.take n (qh out) = qh out:=qx (by simp;omega);have ze:out.length = k:=hk.symm;have zj:k * 2 = n:=by omega
  have zZ:(k+1) * 32≤140737488355328:=by omega
  have zB:k+1≤140737488355328:=by omega
  have jX:IntKind.i64.wrap (k:Int) = (k:Int):=by rw [wrap_i64];omega
  rcases hH with ⟨rfl,rfl⟩ | ⟨rfl,rfl⟩ | ⟨rfl,rfl⟩
  all_goals
   simp [k0,k4,k5,qg,qk,hj,Pr.cells]
   refine qfA (fun (z:Nat) e H'=>z≤k∧qf e 0 = some (.vsl false (qh l) l.length)∧qf e 4 = some (.osl 0 n 0 k 2)∧qf e 5 = some (.int .i64 (i:Nat))∧qf e 8 = some (.int .i64 (z:Nat))∧H' = [some (qh out)]) (fun z=>k - z) 0
    (fun ex e H'=>ex = .exit 2∧∃ z,z≤k∧qf e 0 = some (.vsl false (qh l) l.length)∧qf e 4 = some (.osl 0 n 0 k 2)∧qf e 5 = some (.int .i64 (i:Nat))∧qf e 8 = some (.int .i64 (z:Nat))∧H' = [some (qh out)]) ⟨jk _,by simp,by simp,by simp,by simp,rfl⟩ ?_ ?_
   ·clear k0 k4 k5;rintro z e H' ⟨hz,k0,k4,k5,k8,rfl⟩;have hwz:IntKind.i64.wrap ((z:Int)+1) = ((z+1:Nat):Int):=(by rw [wrap_i64] <;> omega);by_cases hzl:z < k
    ·have X7:z < out.length:=(by omega);obtain ⟨-,c1,c2⟩:=qh1 (qf6 (hp _ (vw X7)));have p1:=qfu out[z] (by omega) (by omega);have p2:=qfu l[i] (by omega) (by omega);rw [Pr.cells] at p1 p2;generalize jQ out[z] = w1 at *;generalize jQ l[i] = w2 at *;cases hb:Op.bytesLess w1 w2 with
     | true =>
      simp [k0,k4,k5,k8,hzl,qg,qk,Pr.cells,p1,p2,hb,hwz,ze,zj];exact ⟨z+1,by omega,by omega,rfl⟩
     | false =>
      simp [k0,k4,k5,k8,hzl,qg,qk,Pr.cells,p1,p2,hb,ze,zj];exact ⟨z,hz,rfl⟩
    ·simp [k0,k4,k5,k8,hzl];exact ⟨z,hz,rfl⟩
   ·clear k0 k4 k5;rintro ex e H' ⟨rfl,z,hz,k0,k4,k5,k8,rfl⟩
    have hcase:(∃ h:z < out.length,out[z].name = l[i].name∧out[z].value = l[i].value)∨(∃ h:z < out.length,¬ out[z].name = l[i].name)∨(∃ h:z < out.length,out[z].name = l[i].name∧¬ out[z].value = l[i].value)∨¬ z < k:=by
     by_cases h:z < out.length
     ·by_cases h1:out[z].name = l[i].name
      ·by_cases h2:out[z].value = l[i].value
       ·exact .inl ⟨h,h1,h2⟩
       ·exact .inr (.inr (.inl ⟨h,h1,h2⟩))
      ·exact .inr (.inl ⟨h,h1⟩)
     ·exact .inr (.inr (.inr (by omega)))
    have Zj:=fun (h:z < out.length)=>(show z < k by omega);rcases hcase with ⟨X7,e1,e2⟩ | ⟨X7,e1⟩ | ⟨X7,e1,e2⟩ | hzl
    ·simp [k0,k4,k5,k8,Zj X7,qg,qk,Pr.cells,e1,e2,ze,zj,Kq];exact ⟨i+1,by omega,by omega,out,by omega,fun _=>by omega,hp,by simp,.inr ⟨qt,n,k,t,hn,hk,.inr (.inr ⟨rfl,rfl⟩)⟩⟩
    all_goals
     first
      | simp [k0,k4,k5,k8,Zj X7,qg,qk,Pr.cells,e1,e2,ze,zj,jX,zZ,zB,qI]
      | simp [k0,k4,k5,k8,Zj X7,qg,qk,Pr.cells,e1,ze,zj,jX,zZ,zB,qI]
      | simp [k0,k4,k5,k8,hzl,ze,zj,jX,zZ,zB,qI]
     refine qfA (fun (q:Nat × List Pr) e H'=>z≤q.1∧q.1≤k∧q.2.length = k+1∧(∀ x (h:x < q.2.length),x≠q.1→JZ q.2[x] = true)∧qf e 0 = some (.vsl false (qh l) l.length)∧qf e 4 = some (.osl 0 (n+2) 0 (k+1) 2)∧qf e 5 = some (.int .i64 (i:Nat))∧qf e 8 = some (.int .i64 (z:Nat))∧qf e 9 = some (.int .i64 (q.1:Nat))∧H' = [some (qh q.2),some [.str [],.str []]]) (fun q=>q.1 - z) (k,out ++ [⟨[],[]⟩])
      (fun ex e H'=>ex = .exit 4∧∃ L:List Pr,L.length = k+1∧(∀ x (h:x < L.length),x≠z→JZ L[x] = true)∧qf e 0 = some (.vsl false (qh l) l.length)∧qf e 4 = some (.osl 0 (n+2) 0 (k+1) 2)∧qf e 5 = some (.int .i64 (i:Nat))∧qf e 8 = some (.int .i64 (z:Nat))∧H' = [some (qh L),some [.str [],.str []]]) ?_ ?_ ?_
     ·refine ⟨hz,qB _,by simp [ze],fun x h hx=>?_,by simp,by simp,by simp,by simp,by simp,by rw [Z0];rfl⟩;have hxo:x < out.length:=(by simp at h;omega);simp only [List.getElem_append_left hxo];exact hp _ (vw hxo)
     ·clear k0 k4 k5 k8;rintro ⟨j,L⟩ e H' ⟨hzj,XD,XI,hLp,k0,k4,k5,k8,k9,rfl⟩;simp only at hzj XD XI hLp k9;by_cases hj2:z < j
      ·obtain ⟨a,rfl⟩:∃ a,j = a+1:=⟨j - 1,by omega⟩;have hwa:IntKind.i64.wrap (((a+1:Nat):Int) - 1) = (a:Int):=(by rw [wrap_i64] <;> omega);have hwb:IntKind.i64.wrap ((a:Int)+1 - 1) = (a:Int):=(by rw [wrap_i64] <;> omega);have KS:IntKind.i64.wrap (a:Int) = (a:Int):=(by rw [wrap_i64];omega);have hak:a < k:=(by omega);have ha1:(a:Int) < (k:Int)+1:=(by omega);have hza:(z:Int) < (a:Int)+1:=(by omega);have hza2:z < a+1:=hj2;have h0a:(0:Int)≤(a:Int)+1:=(by omega);have ha2n:(a+1) * 2≤n:=(by omega);have ha2:a < L.length:=(by omega);have ha3:a+1 < L.length:=(by omega);have hLn:L.length * 2 = n+2:=(by omega);simp [k0,k4,k5,k8,k9,KS,hak,ha1,ha2,ha3,hLn,hza,h0a,ha2n];refine ⟨a,by omega,by omega,by omega,_,by simp [XI],fun x h hx=>?_,rfl,rfl⟩;rw [List.getElem_set];split
       ·exact hLp a ha2 (by omega)
       ·exact hLp x (by simpa using h) (by omega)
      ·simp [k0,k4,k5,k8,k9,hj2];exact ⟨L,XI,fun x h hx=>hLp x h (by omega),rfl⟩
     ·clear k0 k4 k5 k8;rintro ex e H' ⟨rfl,L,XI,hLp,k0,k4,k5,k8,rfl⟩;have hzl2:z < L.length:=(by omega);have Yg:(z:Int) < (k:Int)+1:=(by omega);have Yf:z * 2≤n:=(by omega);have hLn:L.length * 2 = n+2:=(by omega);simp [k0,k4,k5,k8,hzl2,qg,qk,Kq,Yg,Yf,hLn];refine ⟨i+1,by omega,by omega,L.set z l[i],by simp [XI];omega,fun _=>by simp [XI],fun p hp=>?_,by simp,.inr ⟨fun h=>?_,n+2,k+1,_,by simp [hLn],by simp [XI],.inr (.inl ⟨rfl,rfl⟩)⟩⟩
      ·obtain ⟨x,hx,rfl⟩:=List.mem_iff_getElem.1 hp;rw [List.getElem_set];split
       ·exact vD
       ·exact hLp x (by simpa using hx) (by omega)
      ·have:=congrArg List.length h;simp [XI] at this
 ·have qk:¬ (i:Int) < (l.length:Int):=by omega
  have ho2:=ho1 (by omega);rcases hH with ⟨rfl,rfl,rfl⟩ | ⟨qt,n,k,t,hn,hk,hH⟩
  ·simp at ho2
  have jb:¬ (16:Int) < (k:Int):=by omega
  have qz:List.take n (qh out) = qh out:=qx (by simp;omega);have ze:out.length = k:=hk.symm;have zj:k * 2 = n:=by omega
  rcases hH with ⟨rfl,rfl⟩ | ⟨rfl,rfl⟩ | ⟨rfl,rfl⟩
  all_goals
   simp [k0,k4,k5,qk,jb,qz,ze,zj];exact ⟨out,by omega,by omega,hp,by rw [ze]⟩
theorem qn8 {l:List UInt8} {i:Nat} (h:i < l.length):(qd l).drop i = .int .u8 l[i].toNat :: qd (l.drop (i+1)):=by
 unfold qd;rw [← List.map_drop,zm h];rfl
set_option maxHeartbeats 2000000 in
theorem qzJ [MaxL] [TxtC] (s:BitVec 32) (b:Sl UInt8) (hn:b.l.length < 4611686018427387904):call cx 145 [.int .u32 s.toNat,(.vsl b.nil (qd b.l) b.l.length)] [] = some (.int .u32 ((QD s b.l).toNat:Nat),[]):=by
 refine qs Tryz.func145 rfl ⟨rfl,rfl⟩ ?_;have Yi:∀ v:BitVec 32,QZ .xor (.int .u32 (v.toNat:Int)) = some (.int .u32 ((~~~ v).toNat:Int)):=fun v=>congrArg (fun x=>some (D.int .u32 x)) (ql3 v);have h0:=Yi s;unfold QD;obtain ⟨g,hg⟩:∃ g,qct (~~~ s) b.l = g:=⟨_,rfl⟩;rw [hg];have h1:=Yi g;generalize ((~~~ g).toNat:Int) = r at *;generalize ~~~ s = s0 at *;clear Yi;simp [-QZ,Tryz.f145,h0];refine Run.loopThen (fun (q:Nat × BitVec 32) e H'=>q.1≤b.l.length∧qct q.2 (b.l.drop q.1) = g∧qf e 0 = some (.int .u32 (q.2.toNat:Int))∧qf e 9 = some (.vsl b.nil (qd b.l) b.l.length)∧qf e 10 = some (.int .i64 b.l.length)∧qf e 11 = some (.int .i64 (q.1:Nat))∧H' = []) (fun q=>b.l.length - q.1) (0,s0) ⟨jk _,by simpa using hg,by simp,by simp,by simp,by simp,rfl⟩ ?_;rintro ⟨i,v⟩ e H' ⟨hi,hR,k0,k9,k10,k11,rfl⟩;simp only at hi hR k0 k11;by_cases qg:i < b.l.length
 ·have qk:(i:Int) < (b.l.length:Int):=by omega
  have hw:IntKind.i64.wrap ((i:Int)+1) = ((i+1:Nat):Int):=by rw [wrap_i64] <;> omega
  have hd:=qn8 qg;have hb:=qov v b.l[i];rw [zm qg] at hR;generalize b.l[i] = c at *;replace hR:qct (ZQ 8 (v ^^^ BitVec.ofNat 32 c.toNat)) (b.l.drop (i+1)) = g:=hR;generalize v ^^^ BitVec.ofNat 32 c.toNat = w at *;have KS:IntKind.u32.wrap (c.toNat:Int) = (c.toNat:Int):=by have:=c.toNat_lt;rw [KJ];omega
  simp [-QZ,k0,k9,k10,k11,qk,Sl.nn qg,hd,KS,hb]
  refine qfA (fun (q:Nat × BitVec 32) e H'=>q.1≤8∧ZQ (8 - q.1) q.2 = ZQ 8 w∧qf e 0 = some (.int .u32 (q.2.toNat:Int))∧qf e 9 = some (.vsl false (qd b.l) b.l.length)∧qf e 10 = some (.int .i64 b.l.length)∧qf e 11 = some (.int .i64 (i:Nat))∧qf e 19 = some (.int .i64 (q.1:Nat))∧H' = []) (fun q=>8 - q.1) (0,w)
   (fun ex e H'=>ex = .exit 2∧qf e 0 = some (.int .u32 ((ZQ 8 w).toNat:Int))∧qf e 9 = some (.vsl false (qd b.l) b.l.length)∧qf e 10 = some (.int .i64 b.l.length)∧qf e 11 = some (.int .i64 (i:Nat))∧H' = []) ⟨jk _,rfl,by simp,by simp,by simp,by simp,by simp,rfl⟩ ?_ ?_
  ·clear k0 k9 k10 k11;rintro ⟨j,u⟩ e H' ⟨hj,hu,k0,k9,k10,k11,k19,rfl⟩;simp only at hj hu k0 k19;by_cases hj8:j < 8
   ·have QC:(j:Int) < 8:=(by omega);have JG:IntKind.i64.wrap ((j:Int)+1) = ((j+1:Nat):Int):=(by rw [wrap_i64] <;> omega);have hb1:=q0t u;have zE:=qmD u;rw [show (2:Int) = 2 ^ min 1 IntKind.u32.bits from rfl] at zE;have ZK:=qld (u >>> 1)
    have hst:ZQ (8 - (j+1)) (qet u) = ZQ 8 w:=by
     rw [← hu,show 8 - j = (8 - (j+1))+1 by omega];rfl
    unfold qet at hst;generalize u >>> 1 = h at *;by_cases hp:u.toNat % 2 = 1
    ·rw [hp] at hb1;rw [if_pos hp] at hst;generalize h ^^^ 2197175160#32 = y at *;simp [-QZ,k0,k9,k10,k11,k19,QC,JG,hb1];exact ⟨j+1,by omega,by omega,y,hst,by rw [zE,ZK],rfl⟩
    ·have hp0:u.toNat % 2 = 0:=(by omega);rw [hp0] at hb1;rw [if_neg hp] at hst;simp [-QZ,k0,k9,k10,k11,k19,QC,JG,hb1];exact ⟨j+1,by omega,by omega,h,hst,zE,rfl⟩
   ·have QC:¬ (j:Int) < 8:=(by omega);have hj0:8 - j = 0:=(by omega);rw [hj0] at hu;replace hu:u = ZQ 8 w:=hu;simp [-QZ,k0,k9,k10,k11,k19,QC,hu]
  ·clear k0 k9 k10 k11;rintro ex e H' ⟨rfl,k0,k9,k10,k11,rfl⟩;generalize ZQ 8 w = z at *;simp [-QZ,k0,k9,k10,k11,hw];exact ⟨i+1,by omega,by omega,z,hR,rfl,rfl⟩
 ·have qk:¬ (i:Int) < (b.l.length:Int):=by omega
  rw [zX (by omega)] at hR;replace hR:v = g:=hR;subst hR;simp [-QZ,k0,k9,k10,k11,qk,h1]
theorem qzi [MaxL] [TxtC] (b:Sl UInt8) (hn:b.l.length < 4611686018427387904):call cx 104 [.vsl false [(.vsl b.nil (qd b.l) b.l.length)] 1] [] = some (.int .u32 ((QD 0#32 b.l).toNat:Nat),[]):=by
 have h:=qzJ 0#32 b hn;replace h:call cx 145 [.int .u32 0,(.vsl b.nil (qd b.l) b.l.length)] [] = some (.int .u32 ((QD 0#32 b.l).toNat:Nat),[]):=h;generalize ((QD 0#32 b.l).toNat:Nat) = r at *;refine qs Tryz.func104 rfl ⟨rfl,rfl⟩ ?_;simp [Tryz.f104];refine Xq ?_;simp [h];refine Xq ?_;simp
end Go.Ev.S
namespace Go.Ev
open Go Go.Proofs
def XV (b:List UInt8):Bool:=decide (leN (b.drop (b.length - 4)) = (QD 0#32 (b.take (b.length - 4))).toNat)
def Qk (b:List UInt8):List UInt8:=b ++ qJ 4 (QD 0#32 b).toNat
theorem qbT (b:List UInt8):(Qk b).length = b.length+4:=by simp [Qk]
theorem qoX {a b:Nat} (ha:a < 256) (hb:b < 256):zt .u8 (a:Int) (b:Int) = ((a ^^^ b:Nat):Int):=by
 have h:a ^^^ b < 2 ^ 8:=Nat.xor_lt_two_pow (n:=8) ha hb;unfold zt;show IntKind.u8.wrap ((BitVec.ofInt 8 (a:Int) ^^^ BitVec.ofInt 8 (b:Int)).toNat:Int) = _;rw [qeJ,qeJ,BitVec.toNat_xor,qdk,qdk,qbE ha,qbE hb,QG];omega
end Go.Ev
namespace Go.Ev.S
open Go Go.Proofs Go.Ev
def Kl:List UInt8:=[68,66,65,84]
def YK (it:It):List UInt8:=qJ 4 (zH it).length ++ zH it
def qaE (l:List It) (m:List Mk):List UInt8:=Kl ++ (qJ 2 l.length ++ (l.flatMap YK ++ JB m))
def J7 (l:List It) (m:List Mk):Bool:=decide (l.length≤64) && (vm m && l.all zM)
def Kg (l:List It) (m:List Mk):Sl UInt8:=if J7 l m && decide ((Qk (qaE l m)).length≤65536) then .of (Qk (qaE l m)) else .none
def Zz:Nat→List UInt8→List It→List It × List Mk × Int
 | 0,r,out=>if (vi r).2 = 0 then (if Go.Ev.readN (vi r) < (r.length:Int) then ([],[],21) else (out,(vi r).1,0)) else ([],[],(vi r).2)
 | k+1,r,out=>if r.length < 4∨r.length - 4 < leN (r.take 4) then ([],[],22) else if Jd ((r.drop 4).take (leN (r.take 4))) = true∧(zH (ju ((r.drop 4).take (leN (r.take 4))))).length = leN (r.take 4) then Zz k (r.drop (4+leN (r.take 4))) (out ++ [ju ((r.drop 4).take (leN (r.take 4)))]) else ([],[],20)
def qam (x:List UInt8):List It × List Mk × Int:=if x.length < 4 then ([],[],22) else if pre Kl x then (if x.length < 6 then ([],[],22) else if 64 < leN ((x.drop 4).take 2) then ([],[],21) else Zz (leN ((x.drop 4).take 2)) (x.drop 6) []) else ([],[],6)
def vP (b:List UInt8):List It × List Mk × Int:=if b.length < 4 then ([],[],22) else if XV b then qam (b.take (b.length - 4)) else ([],[],19)
theorem ql9 (l:List Mk):(JB l).length = 1+l.length * 40:=by
 unfold JB;rw [qG,qhI,Nat.add_comm]
theorem qxj (it:It):(YK it).length = 4+(zH it).length:=by simp [YK]
theorem qsg {l:List It} {m:List Mk} (h:J7 l m = true):l.length≤64∧vm m = true∧∀ x∈l,zM x = true:=by
 unfold J7 at h;simp only [qT,decide_eq_true_eq,Y7] at h;exact h
theorem qjw (s:BitVec 32):IntKind.u64.wrap (s.toNat:Int) = (s.toNat:Int):=by
 have:=s.isLt;rw [qU];omega
def qcJ (l:List UInt8):D:=if l.length < 4 then .tup [.vsl true [] 0,.int .i64 22] else if XV l then .tup [(.vsl ((.of (l.take (l.length - 4)):Sl UInt8)).nil (qd ((.of (l.take (l.length - 4)):Sl UInt8)).l) ((.of (l.take (l.length - 4)):Sl UInt8)).l.length),.int .i64 0] else .tup [.vsl true [] 0,.int .i64 19]
theorem quc {l:List UInt8} (h:4≤l.length):Q6 l ((l.length - 4:Nat):Int) 4 = some (leN (l.drop (l.length - 4))):=by
 unfold Q6;rw [if_pos ⟨rfl,by omega,by omega⟩];congr 2;rw [show ((l.length - 4:Nat):Int).toNat = l.length - 4 from rfl,qx (by rw [jU];show _≤4;omega)]
theorem qzm [MaxL] [TxtC] (b:Sl UInt8) (hn:b.l.length≤140737488354000):call cx 107 [(.vsl b.nil (qd b.l) b.l.length)] [] = some (qcJ b.l,[]):=by
 refine qs Tryz.func107 rfl ⟨rfl,rfl⟩ ?_;have hw0:IntKind.i64.wrap ((b.l.length:Int) - 4) = (b.l.length:Int) - 4:=by rw [wrap_i64];omega
 unfold qcJ;by_cases h4:b.l.length < 4
 ·rw [if_pos h4];have qg:(b.l.length:Int) - 4 < 0:=by omega
  simp [Tryz.f107,hw0,qg]
 rw [if_neg h4];obtain ⟨n,ZE⟩:∃ n,b.l.length - 4 = n:=⟨_,rfl⟩;have qO:IntKind.i64.wrap ((b.l.length:Int) - 4) = (n:Int):=by rw [hw0];omega
 have hnn:b.nil = false:=Sl.nn (i:=0) (by omega);have hg:=qcN b (n:Int) 4 (by omega) (by omega);have hge:=quc (l:=b.l) (by omega);rw [ZE] at hge;rw [hge] at hg;have h1:=qzi (.of (b.l.take n)) (by simp;omega);have hw:=qjw (QD 0#32 (b.l.take n));have jC:=qiT (.of (b.l.take n)) (by simp;omega);have JH:(0:Int)≤(n:Int):=by omega
 have zb:n≤b.l.length:=by omega
 have jH:(b.l.take n).length = n:=by rw [js];omega
 have qz:List.take n (qd b.l) = qd (b.l.take n):=kw _ _;have hs:XV b.l = decide (leN (b.l.drop n) = (QD 0#32 (b.l.take n)).toNat):=by unfold XV;rw [ZE]
 rw [hs,ZE];unfold KO at hg;simp only [Sl.of_l,Sl.of_nil,jH] at h1 hw jC;simp only [Ju,Option.isSome_some] at hg;generalize leN (b.l.drop n) = v at *;generalize QD 0#32 (b.l.take n) = c at *;generalize b.l.take n = y at *;have hcond:((v:Int) = (c.toNat:Int)) = (v = c.toNat):=propext ⟨fun h=>Int.ofNat.inj h,fun h=>congrArg _ h⟩;have hngi:¬ (n:Int) < 0:=by omega
 rw [hnn] at hg;rw [if_neg (by decide)] at jC;by_cases hv:v = c.toNat
 ·subst hv;simp [Tryz.f107,qO,hnn,hg,h1,hw,jC,JH,hngi,zb,qz,jH]
 ·rw [decide_eq_false hv];simp [Tryz.f107,qO,hnn,hg,h1,hw,JH,hngi,zb,qz,hcond,hv]
set_option maxRecDepth 4000 in
set_option maxHeartbeats 4000000 in
theorem qtx [MaxL] [TxtC] (s:Sl UInt8) (hn:s.l.length < 4611686018427387904) :
  call cx 32 [(.vsl s.nil (qd s.l) s.l.length)] [] = some (.tup [(.vsl (Sl.grown (vi s.l).1).nil (qh (Sl.grown (vi s.l).1).l) (Sl.grown (vi s.l).1).l.length),.int .i64 (readN (vi s.l)),.int .i64 (vi s.l).2],[]):=by
 refine qs Tryz.func32 rfl ⟨rfl,rfl⟩ ?_;obtain ⟨nil,l,qM⟩:=s;simp only at hn ⊢;cases l with
 | nil=>simp [Tryz.f32,vi,readN,Sl.grown]
 | cons c r =>
  have Ku:nil = false:=by
   cases nil with
   | false=>rfl
   | true=>simpa using qM rfl
  subst Ku;have qt:¬ ((r.length:Int)+1 = 0):=by omega
  have kh:(0:Int) < (r.length:Int)+1:=by omega
  by_cases h4:4 < c.toNat
  ·have ZO:(4:Int) < (c.toNat:Int):=(by omega);simp [Tryz.f32,vi,readN,Sl.grown,qt,kh,YH,h4,ZO]
  ·have ZO:¬ (4:Int) < (c.toNat:Int):=(by omega);have KS:IntKind.i64.wrap (c.toNat:Int) = (c.toNat:Int):=(by rw [wrap_i64];omega);simp [Tryz.f32,qt,kh,YH,ZO,KS]
   refine Run.loopThen (fun (i:Nat) e H=>i≤c.toNat∧∃ (d:D) (out:List Mk),BufE 19 d H out∧out.length = i∧40 * i≤r.length∧qf e 0 = some (.vsl false (qd (c :: r)) (r.length+1))∧qf e 5 = some d∧qf e 21 = some (.int .i64 c.toNat)∧qf e 22 = some (.int .i64 i) ∧
    vi (c :: r) = J5 (c.toNat - i) (r.drop (40 * i)) out) (fun i=>c.toNat - i) 0 ?_ ?_
   ·refine ⟨by omega,.vsl true [] 0,[],.inl ⟨rfl,rfl,rfl⟩,rfl,by omega,?_⟩;simp [vi,h4,YH]
   ·rintro i e H ⟨hi,d,out,Zx,zo,hir,h0,h5,h21,h22,hr⟩;by_cases qg:i < c.toNat
    ·have qk:(i:Int) < (c.toNat:Int):=(by omega);have hw40:IntKind.i64.wrap (40 * (i:Int)) = 40 * (i:Int):=(by rw [wrap_i64];omega);have Yh:IntKind.i64.wrap (1+40 * (i:Int)) = 1+40 * (i:Int):=(by rw [wrap_i64];omega);have g1:(0:Int)≤1+40 * (i:Int):=(by omega);have g2:1+40 * (i:Int)≤(r.length:Int)+1:=(by omega);have g3:(1+40 * (i:Int)).toNat = 40 * i+1:=(by omega);have hk:c.toNat - i = (c.toNat - (i+1))+1:=(by omega);rw [hk,J5] at hr;have vY:(r.drop (40 * i)).length = r.length - 40 * i:=jU;by_cases jb:r.length - 40 * i < 16
     ·rw [vY,if_pos jb] at hr;have hm:min (r.length - 40 * i) 16 = r.length - 40 * i:=(by omega);have YU:((r.length - 40 * i:Nat):Int) < 16:=(by omega);simp [h0,h5,h21,h22,qk,hw40,Yh,g1,g2,g3,Ze,hm,YU,hr,readN,Sl.grown]
     ·have hm:min (r.length - 40 * i) 16 = 16:=(by omega);rw [vY,if_neg jb] at hr;generalize hR:r.drop (40 * i) = R at *;have YN:(qd R).take 16 = qd (R.take 16):=kw R 16;obtain ⟨id,Qd⟩:∃ id:ID,id.l = R.take 16:=⟨ID.mk' (R.take 16),ID.mk'_l (by rw [js];omega)⟩;have hidm:ID.mk' (R.take 16) = id:=ID.ext' (by rw [ID.mk'_l (by rw [js];omega),Qd]);rw [← Qd] at YN hr;have QR:(r.drop (40 * (i+1))) = R.drop 40:=(by rw [← hR,kF];congr 1);have Vr:R.length = r.length - 40 * i:=vY
      have fin40:Kk out id.l = false→(¬ R.length < 40→∃ a1 a2 a3:Nat,Jf R = ⟨id,a1,a2,a3⟩∧call cx 68 [.vsl false (qd R) R.length,.int .i64 16,.int .i64 8] [] = some (.tup [.int .u64 a1,.bool true],[]) ∧
        call cx 68 [.vsl false (qd R) R.length,.int .i64 24,.int .i64 8] [] = some (.tup [.int .u64 a2,.bool true],[])∧call cx 68 [.vsl false (qd R) R.length,.int .i64 32,.int .i64 8] [] = some (.tup [.int .u64 a3,.bool true],[]) ∧
        vi (c :: r) = J5 (c.toNat - (i+1)) (r.drop (40 * (i+1))) (out ++ [⟨id,a1,a2,a3⟩])):=by
       intro vE Qg;rw [vE] at hr;simp only [vT,if_false] at hr;rw [if_neg (by omega)] at hr;have hmk:Jf R = ⟨id,leN ((R.drop 16).take 8),leN ((R.drop 24).take 8),leN ((R.drop 32).take 8)⟩:=(by unfold Jf;rw [hidm]);have q:=fun a (ha:a+8≤40)=>qcN (.of R) (a:Nat) 8 (by omega) (by simp only [Sl.of_l,Vr];simp at hn;omega)
       have ql:∀ a,a+8≤40→Q6 R (a:Nat) 8 = some (leN ((R.drop a).take 8)):=fun a ha=>by
        unfold Q6;rw [if_pos ⟨rfl,by omega,by omega⟩];simp
       refine ⟨_,_,_,hmk,?_,?_,?_,by rw [hr,QR,hmk]⟩
       ·have:=q 16 (by omega);simp only [Sl.of_l,Sl.of_nil,ql 16 (by omega)] at this;exact this
       ·have:=q 24 (by omega);simp only [Sl.of_l,Sl.of_nil,ql 24 (by omega)] at this;exact this
       ·have:=q 32 (by omega);simp only [Sl.of_l,Sl.of_nil,ql 32 (by omega)] at this;exact this
      rw [← Vr] at hm hr;have hRd:(qd (c :: r)).drop (40 * i+1) = qd R:=by rw [Ze,List.drop_succ_cons,hR]
      have hlast0:i = 0→Kk out id.l = false:=fun h=>by
       have:out = []:=VX (by omega);subst this;rfl
      have hlastk:∀ k (hk:k < out.length),k+1 = i→Kk out id.l = decide (0≤qy out[k].id.l id.l):=fun k hk vK=>by
       unfold Kk
       have:out.getLast? = some out[k]:=by
        rw [List.getLast?_eq_getElem?,zi (by omega)];congr 2;omega
       rw [this]
      have qO:IntKind.i64.wrap ((i:Int)+1) = ((i+1:Nat):Int):=(by rw [wrap_i64] <;> omega);have hc19:(out.length+1) * 40≤140737488355328∧out.length+1≤140737488355328:=(by have:=c.toNat_lt;omega);rcases Nat.eq_zero_or_pos i with VJ | hipos
      ·have hi0':¬ 0 < i:=(by omega);have vE:=hlast0 VJ;by_cases Qg:R.length < 40
       ·have JL:(R.length:Int) < 40:=(by omega);rw [vE,if_pos Qg] at hr;simp only [vT,if_false] at hr
        rcases Zx with ⟨rfl,rfl,rfl⟩ | ⟨rfl,rfl,Kv⟩ <;>
         simp [h0,h5,h21,h22,qk,hw40,Yh,g1,g2,g3,hRd,← Vr,qx,hm,YN,hi0',JL,hr,readN,Sl.grown]
       ·have JL:¬ (R.length:Int) < 40:=(by omega);obtain ⟨a1,a2,a3,q1,q2,q3,q4,q5⟩:=fin40 vE Qg;have hfold:qd id.l ++ [.int .u64 (a1:Int),.int .u64 (a2:Int),.int .u64 (a3:Int)] = Enc.cells (⟨id,a1,a2,a3⟩:Mk):=rfl;clear hr;rcases Zx with ⟨rfl,rfl,rfl⟩ | ⟨rfl,rfl,Kv⟩
        ·simp [h0,h5,h21,h22,qk,hw40,Yh,g1,g2,g3,hRd,← Vr,qx,hm,YN,hi0',JL,q2,q3,q4,hfold,qO,qI,zW,qD,zC];exact ⟨i+1,by omega,by omega,_,_,.one _,by simp at zo;simp [← zo],by omega,rfl,rfl,q5⟩
        ·simp [h0,h5,h21,h22,qk,hw40,Yh,g1,g2,g3,hRd,← Vr,qx,hm,YN,hi0',JL,q2,q3,q4,hfold,qO,qI,hc19,zW,qD,zC];exact ⟨i+1,by omega,by omega,_,_,.snoc _ _,by simp [zo],by omega,rfl,rfl,q5⟩
      ·obtain ⟨k,vK⟩:∃ k,k+1 = i:=⟨i - 1,by omega⟩;have XC:k < out.length:=(by omega);have hko':(k:Int) < (out.length:Int):=(by omega);have jX:IntKind.i64.wrap ((i:Int) - 1) = (k:Int):=(by rw [wrap_i64] <;> omega);have vE:=hlastk k XC vK;have Vn:=qiI out[k].id id;have h19:k * 19+16≤out.length * 19:=(by omega);have h16k:∀ k,(16≤19+k) = True:=fun k=>eq_true (by omega);rcases Zx with ⟨rfl,rfl,rfl⟩ | ⟨rfl,rfl,Kv⟩
       ·simp at XC
       ·by_cases hge:0≤qy out[k].id.l id.l
        ·rw [vE,decide_eq_true hge] at hr;simp only [if_true] at hr;simp [h0,h5,h21,h22,qk,hw40,Yh,g1,g2,g3,hRd,← Vr,qx,hm,YN,hipos,jX,XC,hko',h19,Vn,hge,hr,readN,Sl.grown,zW,qD]
        ·rw [decide_eq_false hge] at vE;by_cases Qg:R.length < 40
         ·have JL:(R.length:Int) < 40:=(by omega);rw [vE,if_pos Qg] at hr;simp only [vT,if_false] at hr;simp [h0,h5,h21,h22,qk,hw40,Yh,g1,g2,g3,hRd,← Vr,qx,hm,YN,hipos,jX,XC,hko',h19,Vn,hge,JL,hr,readN,Sl.grown,zW,qD]
         ·have JL:¬ (R.length:Int) < 40:=(by omega);obtain ⟨a1,a2,a3,q1,q2,q3,q4,q5⟩:=fin40 vE Qg;have hfold:qd id.l ++ [.int .u64 (a1:Int),.int .u64 (a2:Int),.int .u64 (a3:Int)] = Enc.cells (⟨id,a1,a2,a3⟩:Mk):=rfl;clear hr;simp [h0,h5,h21,h22,qk,hw40,Yh,g1,g2,g3,hRd,← Vr,qx,hm,YN,hipos,jX,XC,hko',h19,Vn,hge,JL,q2,q3,q4,hfold,qO,qI,hc19,zW,qD,zC];exact ⟨i+1,by omega,by omega,_,_,.snoc _ _,by simp [zo],by omega,rfl,rfl,q5⟩
    ·have qk:¬ (i:Int) < (c.toNat:Int):=(by omega);have hk:c.toNat - i = 0:=(by omega);rw [hk,J5] at hr;rcases Zx with ⟨rfl,rfl,rfl⟩ | ⟨rfl,rfl,Kv⟩
     ·simp [h0,h5,h21,h22,qk,hr,readN,Sl.grown]
     ·have qO:IntKind.i64.wrap (40 * (out.length:Int)) = 40 * (out.length:Int):=(by rw [wrap_i64];omega);have zw:IntKind.i64.wrap (1+40 * (out.length:Int)) = 1+40 * (out.length:Int):=(by rw [wrap_i64];omega);simp [h0,h5,h21,h22,qk,hr,readN,Sl.grown,qO,zw,Kv]
def jl (q:List It × List Mk × Int):D:=.tup [(.vsl (Sl.grown q.1).nil (qh (Sl.grown q.1).l) (Sl.grown q.1).l.length),(.vsl (Sl.grown q.2.1).nil (qh (Sl.grown q.2.1).l) (Sl.grown q.2.1).l.length),.int .i64 q.2.2]
theorem qlY {l:List UInt8} (n:Nat) (hn:n = 2∨n = 4) (a:Nat):Q6 l a n = if a+n≤l.length then some (leN ((l.drop a).take n)) else none:=by
 unfold Q6;have hz:XU (n:Int) = true:=by rcases hn with rfl | rfl <;> rfl
 by_cases h:a+n≤l.length
 ·rw [if_pos ⟨hz,by omega,by omega⟩,if_pos h,Int.toNat_natCast,Int.toNat_natCast]
 ·rw [if_neg (fun h'=>h (by omega)),if_neg h]
theorem qlX (l:List UInt8):leN (l.take 4) < 4294967296:=by
 have h1:=X4 (l.take 4);have h2:(l.take 4).length≤4:=by rw [js];omega
 exact jP h1 (kr (Y4 (by decide) h2) (by decide))
def q1o (out:List It) (d:D) (H:qi):Prop:=(out = []∧d = .vsl true [] 0∧∃ t,H = [some t])∨(out≠[]∧∃ n k,n = out.length * 39∧k = out.length∧((∃ t u,d = .osl 2 n 0 k 39∧H = [some t,some u,some (qh out)])∨(∃ t u,d = .osl 0 n 0 k 39∧H = [some (qh out),some t,some u])))
set_option maxHeartbeats 4000000 in
set_option maxRecDepth 4000 in
theorem qpi [MaxL] (b:Sl UInt8) (hn:b.l.length < 1000000):call cx 71 [(.vsl b.nil (qd b.l) b.l.length)] [] = some (jl (vP b.l),[]):=by
 have ji:=qzm b (by omega);refine qs Tryz.func71 rfl ⟨rfl,rfl⟩ ?_;unfold qcJ at ji;by_cases h4:b.l.length < 4
 ·have hg:vP b.l = ([],[],22):=by unfold vP;rw [if_pos h4]
  rw [if_pos h4] at ji;rw [hg];simp [Tryz.f71,ji,jl,Sl.grown]
 rw [if_neg h4] at ji;cases hs:XV b.l with
 | false =>
  have hg:vP b.l = ([],[],19):=by unfold vP;rw [if_neg h4,hs];rfl
  rw [hs,if_neg (by decide)] at ji;rw [hg];simp [Tryz.f71,ji,jl,Sl.grown]
 | true =>
 have hg:vP b.l = qam (b.l.take (b.l.length - 4)):=by unfold vP;rw [if_neg h4,hs];rfl
 rw [hs,if_pos rfl] at ji;rw [hg];have hxl:(b.l.take (b.l.length - 4)).length < 1000000:=by rw [js];omega
 generalize b.l.take (b.l.length - 4) = x at *;simp only [Sl.of_l,Sl.of_nil] at ji;clear hg hs h4;unfold qam;by_cases hx4:x.length < 4
 ·have Ko:(x.length:Int) < 4:=by omega
  rw [if_pos hx4];simp [Tryz.f71,ji,jl,Sl.grown,Ko]
 rw [if_neg hx4];have Ko:¬ (x.length:Int) < 4:=by omega
 have hpf:=qgx (.of x) Kl (by simpa using hxl) (by decide) (by decide);replace hpf:call cx 108 [.vsl false (qd x) x.length,.vsl false [.int .u8 68,.int .u8 66,.int .u8 65,.int .u8 84] 4] [] = some (.bool (pre Kl x),[]):=hpf;cases hp:pre Kl x with
 | false =>
  rw [hp] at hpf;rw [if_neg (by decide)];simp [Tryz.f71,ji,jl,Sl.grown,Ko,hpf]
 | true =>
 rw [hp] at hpf;rw [if_pos rfl];have jv:=qcN (.of x) (4:Nat) (2:Nat) (by decide) (by simp;omega);rw [Sl.of_l,qlY 2 (.inl rfl) 4] at jv;by_cases hx6:x.length < 6
 ·rw [if_pos hx6];rw [if_neg (by omega)] at jv;unfold KO at jv;replace jv:call cx 68 [.vsl false (qd x) x.length,.int .i64 4,.int .i64 2] [] = some (.tup [.int .u64 0,.bool false],[]):=jv;simp [Tryz.f71,ji,jl,Sl.grown,Ko,hpf,jv]
 rw [if_neg hx6];rw [if_pos (by omega)] at jv;unfold KO at jv;replace jv:call cx 68 [.vsl false (qd x) x.length,.int .i64 4,.int .i64 2] [] = some (.tup [.int .u64 (leN ((x.drop 4).take 2):Nat),.bool true],[]):=jv;generalize leN ((x.drop 4).take 2) = many at *;by_cases VN:64 < many
 ·rw [if_pos VN];have ZN:(64:Int) < (many:Int):=by omega
  simp [Tryz.f71,ji,jl,Sl.grown,Ko,hpf,jv,ZN]
 rw [if_neg VN];have ZN:¬ (64:Int) < (many:Int):=by omega
 have h6x:(6:Int)≤(x.length:Int):=by omega
 have h6n:6≤x.length:=by omega
 have hd6:List.drop 6 (qd x) = qd (x.drop 6):=Ze _ _;have hr0:(x.drop 6).length < 1000000:=by rw [jU];omega
 have hl6:((x.length:Int) - 6) = ((x.drop 6).length:Int):=by rw [jU];omega
 have hl6n:x.length - 6 = (x.drop 6).length:=by rw [jU]
 obtain ⟨G,hG⟩:∃ G,Zz many (x.drop 6) [] = G:=⟨_,rfl⟩;rw [hG];generalize x.drop 6 = r0 at *;simp [Tryz.f71,ji,Ko,hpf,jv,ZN,h6x,hd6,hl6n];refine Run.loopThen (fun (q:Nat × List UInt8 × List It) e H=>q.1≤many∧Zz (many - q.1) q.2.1 q.2.2 = G∧q.2.2.length = q.1∧q.2.1.length < 1000000∧qf e 0 = some (.vsl false (qd q.2.1) q.2.1.length)∧(∃ d,qf e 8 = some d∧q1o q.2.2 d H)∧qf e 48 = some (.int .u64 (many:Nat))∧qf e 49 = some (.int .u64 (q.1:Nat))) (fun q=>many - q.1) (0,r0,[]) ?_ ?_
 ·exact ⟨jk _,hG,rfl,hr0,by simp,⟨_,by simp,.inl ⟨rfl,rfl,_,rfl⟩⟩,by simp,by simp⟩
 rintro ⟨i,r,out⟩ e H ⟨hi,hR,ho,hrl,k0,⟨d,k8,hH⟩,k48,k49⟩;simp only at hi hR ho hrl k0 hH k49
 have QU:(out = []∧d = .vsl true [] 0∧∃ t,H = [some t])∨(∃ n k,n = out.length * 39∧k = out.length∧out≠[]∧List.take n (qh out) = qh out∧k * 39 = n∧k≤64∧((∃ t u,d = .osl 2 n 0 k 39∧H = [some t,some u,some (qh out)])∨(∃ t u,d = .osl 0 n 0 k 39∧H = [some (qh out),some t,some u]))):=by
  rcases hH with h | ⟨qt,n,k,hn,hk,h⟩
  ·exact .inl h
  ·exact .inr ⟨n,k,hn,hk,qt,qx (by simp;omega),by omega,by omega,h⟩
 clear hH;by_cases qg:i < many
 ·have hw:IntKind.u64.wrap ((i:Int)+1) = ((i+1:Nat):Int):=by rw [qU] <;> omega
  have zP:=qcN (.of r) (0:Nat) (4:Nat) (by decide) (by simp;omega);rw [Sl.of_l,qlY 4 (.inr rfl) 0] at zP;rw [show many - i = (many - (i+1))+1 by omega,Zz] at hR;have hk:=qlX r;by_cases hr4:r.length < 4
  ·rw [if_pos (.inl hr4)] at hR;rw [if_neg (by omega)] at zP;unfold KO at zP;replace zP:call cx 68 [.vsl false (qd r) r.length,.int .i64 0,.int .i64 4] [] = some (.tup [.int .u64 0,.bool false],[]):=zP;subst hR;rcases QU with ⟨rfl,rfl,tt,rfl⟩ | ⟨nn,kk,hnn,hkk,qt,qz,zj,Vi,⟨tt,uu,rfl,rfl⟩ | ⟨tt,uu,rfl,rfl⟩⟩
   ·simp [k0,k8,k48,k49,qg,zP,jl,Sl.grown]
   all_goals
    have ze:out.length = kk:=hkk.symm;simp [k0,k8,k48,k49,qg,zP,jl,Sl.grown]
  rw [if_pos (by omega),List.drop_zero] at zP;unfold KO at zP;replace zP:call cx 68 [.vsl false (qd r) r.length,.int .i64 0,.int .i64 4] [] = some (.tup [.int .u64 (leN (r.take 4):Nat),.bool true],[]):=zP;obtain ⟨n,QA⟩:∃ n,leN (r.take 4) = n:=⟨_,rfl⟩;rw [QA] at zP hR hk;have Q7:IntKind.i64.wrap ((r.length:Int) - 4) = (r.length:Int) - 4:=by rw [wrap_i64];omega
  have vB:IntKind.u64.wrap ((r.length:Int) - 4) = (r.length:Int) - 4:=by rw [qU];omega
  by_cases hbig:r.length - 4 < n
  ·rw [if_pos (.inr hbig)] at hR;have Qf:(r.length:Int) - 4 < (n:Int):=(by omega);subst hR;rcases QU with ⟨rfl,rfl,tt,rfl⟩ | ⟨nn,kk,hnn,hkk,qt,qz,zj,Vi,⟨tt,uu,rfl,rfl⟩ | ⟨tt,uu,rfl,rfl⟩⟩
   ·simp [k0,k8,k48,k49,qg,zP,Q7,vB,Qf,jl,Sl.grown]
   all_goals
    have ze:out.length = kk:=hkk.symm;simp [k0,k8,k48,k49,qg,zP,Q7,vB,Qf,jl,Sl.grown]
  rw [if_neg (by omega)] at hR;have Qf:¬ (r.length:Int) - 4 < (n:Int):=by omega
  have Zg:IntKind.u64.wrap (4+(n:Int)) = ((4+n:Nat):Int):=by rw [qU] <;> omega
  have QM:IntKind.i64.wrap (n:Int) = (n:Int):=by rw [wrap_i64];omega
  obtain ⟨t,ht⟩:∃ t,(r.drop 4).take n = t:=⟨_,rfl⟩;have jH:t.length = n:=by rw [← ht,js,jU];omega
  rw [ht] at hR;have jh:=qrN (.of t) (by simp;omega);simp only [Sl.of_l,Sl.of_nil,jH] at jh;have Kr:List.take n (List.drop 4 (qd r)) = qd t:=by rw [Ze,kw,ht]
  have q1:(0:Int)≤4+(n:Int):=by omega
  have q2:(4:Int)+(n:Int)≤(r.length:Int):=by omega
  have q3:(4:Int)≤4+(n:Int):=by omega
  have q4:((4:Int)+(n:Int)).toNat = 4+n:=by omega
  have q5:4+n - 4 = n:=by omega
  have q6:r.length - (4+n) = (r.drop (4+n)).length:=by rw [jU]
  have KZ:List.drop (4+n) (qd r) = qd (r.drop (4+n)):=Ze _ _;have zS:(r.drop (4+n)).length < 1000000:=by rw [jU];omega
  generalize r.drop (4+n) = r2 at *;by_cases hok:Jd t = true∧(zH (ju t)).length = n
  ·rw [if_pos hok] at hR;have e1:KM t = ju t:=(by unfold KM;rw [if_pos hok.1]);have e2:V4 t = n:=(by unfold V4;rw [if_pos hok.1,hok.2]);have e3:J6 t = 0:=(by unfold J6;rw [if_pos hok.1]);rw [e1,e2,e3] at jh;have hu:IntKind.u64.wrap ((i:Int)+1) = ((i+1:Nat):Int):=hw;generalize ju t = y at *;rcases QU with ⟨rfl,rfl,tt,rfl⟩ | ⟨nn,kk,hnn,hkk,qt,qz,zj,Vi,⟨tt,uu,rfl,rfl⟩ | ⟨tt,uu,rfl,rfl⟩⟩
   ·simp [k0,k8,k48,k49,qg,zP,Q7,vB,Qf,Zg,QM,Kr,KZ,jh,q1,q2,q3,q4,q5,q6,qI];exact ⟨i+1,by omega,by omega,r2,[y],hR,by rw [← ho];rfl,zS,⟨rfl,rfl⟩,.inr ⟨by simp,39,1,rfl,rfl,.inl ⟨_,_,rfl,by rw [Xe]⟩⟩,hu⟩
   all_goals
    have ze:out.length = kk:=hkk.symm;have m1:(kk+1) * 104≤140737488355328:=(by omega);have m2:kk≤140737488355327:=(by omega);simp [ze,zj,k0,k8,k48,k49,qg,zP,Q7,vB,Qf,Zg,QM,Kr,KZ,jh,q1,q2,q3,q4,q5,q6,qI,m1,m2];exact ⟨i+1,by omega,by omega,r2,out ++ [y],hR,by simp [ho],zS,⟨rfl,rfl⟩,.inr ⟨by simp,nn+39,kk+1,by simp;omega,by simp [ze],.inr ⟨_,_,rfl,by rw [Z0]⟩⟩,hu⟩
  ·rw [if_neg hok] at hR;subst hR;cases YQ:Jd t with
   | false =>
    have e1:J6 t = 20:=(by unfold J6;rw [YQ];rfl);rw [e1] at jh;generalize KM t = y at *;generalize V4 t = z at *;rcases QU with ⟨rfl,rfl,tt,rfl⟩ | ⟨nn,kk,hnn,hkk,qt,qz,zj,Vi,⟨tt,uu,rfl,rfl⟩ | ⟨tt,uu,rfl,rfl⟩⟩
    ·simp [k0,k8,k48,k49,qg,zP,Q7,vB,Qf,Zg,Kr,jh,q1,q2,q3,q4,q5,jl,Sl.grown]
    all_goals
     have ze:out.length = kk:=hkk.symm;simp [k0,k8,k48,k49,qg,zP,Q7,vB,Qf,Zg,Kr,jh,q1,q2,q3,q4,q5,jl,Sl.grown]
   | true =>
    have e1:J6 t = 0:=(by unfold J6;rw [YQ];rfl);have e2:¬ (zH (ju t)).length = n:=fun h=>hok ⟨YQ,h⟩;have e3:V4 t = (zH (ju t)).length:=(by unfold V4;rw [YQ];rfl);rw [e1,e3] at jh;generalize KM t = y at *;generalize (zH (ju t)).length = z at *;have e2':¬ (z:Int) = (n:Int):=(by omega);rcases QU with ⟨rfl,rfl,tt,rfl⟩ | ⟨nn,kk,hnn,hkk,qt,qz,zj,Vi,⟨tt,uu,rfl,rfl⟩ | ⟨tt,uu,rfl,rfl⟩⟩
    ·simp [k0,k8,k48,k49,qg,zP,Q7,vB,Qf,Zg,QM,Kr,jh,q1,q2,q3,q4,q5,e2',jl,Sl.grown]
    all_goals
     have ze:out.length = kk:=hkk.symm;simp [k0,k8,k48,k49,qg,zP,Q7,vB,Qf,Zg,QM,Kr,jh,q1,q2,q3,q4,q5,e2',jl,Sl.grown]
 ·have hk:many - i = 0:=by omega
  rw [hk,Zz] at hR;have hm:=qtx (.of r) (by simp;omega);simp only [Sl.of_l,Sl.of_nil] at hm;obtain ⟨q,hq⟩:∃ q,vi r = q:=⟨_,rfl⟩;rw [hq] at hm hR;by_cases h0:q.2 = 0
  ·rw [if_pos h0] at hR;have hnn:0≤Go.Ev.readN q:=(by unfold Go.Ev.readN;rw [if_pos h0];omega);by_cases hle:Go.Ev.readN q < (r.length:Int)
   ·rw [if_pos hle] at hR;subst hR;rcases QU with ⟨rfl,rfl,tt,rfl⟩ | ⟨nn,kk,hnn,hkk,qt,qz,zj,Vi,⟨tt,uu,rfl,rfl⟩ | ⟨tt,uu,rfl,rfl⟩⟩
    ·simp [k0,k8,k48,k49,qg,hm,h0,hle,jl,Sl.grown]
    all_goals
     have ze:out.length = kk:=hkk.symm;simp [k0,k8,k48,k49,qg,hm,h0,hle,jl,Sl.grown]
   ·rw [if_neg hle] at hR;subst hR;rcases QU with ⟨rfl,rfl,tt,rfl⟩ | ⟨nn,kk,hnn,hkk,qt,qz,zj,Vi,⟨tt,uu,rfl,rfl⟩ | ⟨tt,uu,rfl,rfl⟩⟩
    ·simp [k0,k8,k48,k49,qg,hm,h0,hle,jl,Sl.grown]
    all_goals
     have ze:out.length = kk:=hkk.symm;simp [ze,qz,zj,k0,k8,k48,k49,qg,hm,h0,hle,jl,Sl.grown,qt]
  ·rw [if_neg h0] at hR;subst hR;rcases QU with ⟨rfl,rfl,tt,rfl⟩ | ⟨nn,kk,hnn,hkk,qt,qz,zj,Vi,⟨tt,uu,rfl,rfl⟩ | ⟨tt,uu,rfl,rfl⟩⟩
   ·simp [k0,k8,k48,k49,qg,hm,h0,jl,Sl.grown]
   all_goals
    have ze:out.length = kk:=hkk.symm;simp [k0,k8,k48,k49,qg,hm,h0,jl,Sl.grown]
theorem qyI [MaxL] [TxtC] (m:Mk) (id:ID):call cx 174 [.agg (Enc.cells m),.vptr (qd id.l)] [] = some (.bool (m.id == id),[]):=by
 refine qs Tryz.func174 rfl ⟨rfl,rfl⟩ ?_;simp [Tryz.f174,Mk.cells]
def find? {α:Type} (p:α→Bool):List α→Int→Int
 | [],_=>-1
 | m :: l,i=>if p m then i else find? p l (i+1)
theorem qtD [MaxL] [TxtC] (s:Sl Mk) (hn:s.l.length < 4611686018427387904) (f:Nat) (caps:List D) (p:Mk→Bool) (hb:cx.byRef f = false) (Vd:cx.perm f = false) (hcaps:∀ x∈caps,idFree x = true)
  (hg:∀ m∈s.l,call cx f (.agg (Enc.cells m) :: caps) [] = some (.bool (p m),[])):call cx 173 [(.vsl s.nil (qh s.l) s.l.length),.fn f caps] [] = some (.int .i64 (find? p s.l 0),[]):=by
 have hcaps':=eq_true hcaps;refine qs Tryz.func173 rfl ⟨rfl,rfl⟩ ?_;simp [Tryz.f173];refine Run.loopThen (fun (i:Nat) e H=>i≤s.l.length∧H = []∧qf e 0 = some (.vsl s.nil (qh s.l) s.l.length)∧qf e 1 = some (.fn f caps)∧qf e 7 = some (.int .i64 s.l.length)∧qf e 8 = some (.int .i64 i)∧find? p s.l 0 = find? p (s.l.drop i) i) (fun i=>s.l.length - i) 0 (by simp) ?_;rintro i e H ⟨hi,rfl,h0,h1,h7,h8,hf⟩;by_cases qg:i < s.l.length
 ·have qk:((i:Int) < (s.l.length:Int)):=by omega
  have hd:s.l.drop i = s.l[i] :: s.l.drop (i+1):=zm qg;have hc:=hg s.l[i] (vw qg);have hw:IntKind.i64.wrap ((i:Int)+1) = ((i+1:Nat):Int):=by rw [wrap_i64] <;> omega
  rw [hd,find?] at hf;cases hp:p s.l[i] with
  | true =>
   rw [hp,if_pos rfl] at hf;simp [h0,h1,h7,h8,qk,qg,Sl.nn qg,hc,hb,Vd,hp,hf,hcaps']
  | false =>
   rw [hp,if_neg (by decide)] at hf;simp [h0,h1,h7,h8,qk,qg,Sl.nn qg,hc,hb,Vd,hp,hf,hcaps',hw];exact ⟨i+1,by omega,by omega,rfl,rfl⟩
 ·have qk:¬ ((i:Int) < (s.l.length:Int)):=by omega
  have hd:s.l.drop i = []:=zX (by omega);rw [hd] at hf;simp [h0,h1,h7,h8,qk,hf,find?]
theorem qiy [MaxL] [TxtC] (s:Sl Mk) (hn:s.l.length < 4611686018427387904) (id:ID) :
  call cx 148 [(.vsl s.nil (qh s.l) s.l.length),.agg (qd id.l)] [] = some (.int .i64 (find? (fun m=>m.id == id) s.l 0),[]):=by
 have h:=qtD s hn 174 [.vptr (qd id.l)] (fun m=>m.id == id) rfl rfl (by simp [idFree]) (fun m hm=>qyI m id);refine qs Tryz.func148 rfl ⟨rfl,rfl⟩ ?_;simp [Tryz.f148,h]
theorem find?_spec {α:Type} (p:α→Bool):∀ (l:List α) (k:Int),(∃ (i:Nat) (m:α),l[i]? = some m∧i < l.length∧p m = true∧find? p l k = k+i∧l.find? p = some m)∨(find? p l k = -1∧l.find? p = none)
 | [],k=>.inr ⟨rfl,rfl⟩
 | m :: l,k=>by
  cases hp:p m with
  | true=>exact .inl ⟨0,m,rfl,by simp,hp,by simp [find?,hp],by simp [hp]⟩
  | false =>
   rcases find?_spec p l (k+1) with ⟨i,m',h1,h2,h3,h4,h5⟩ | ⟨h1,h2⟩
   ·exact .inl ⟨i+1,m',by simpa using h1,by simpa using h2,h3,by simp [find?,hp,h4];omega,by simp [hp,h5]⟩
   ·exact .inr ⟨by simp [find?,hp,h1],by simp [hp,h2]⟩
def jz (l:List Mk) (id:ID):Mk:=(l.find? fun m=>m.id == id).getD ⟨id,0,0,0⟩
theorem qmH [MaxL] [TxtC] (s:Sl Mk) (hn:s.l.length < 4611686018427387904) (id:ID) :
  call cx 111 [(.vsl s.nil (qh s.l) s.l.length),.agg (qd id.l)] [] = some (.agg (Enc.cells (jz s.l id)),[]):=by
 have h:=qiy s hn id;refine qs Tryz.func111 rfl ⟨rfl,rfl⟩ ?_;rcases find?_spec (fun m=>m.id == id) s.l 0 with ⟨i,m,h1,h2,h3,h4,h5⟩ | ⟨h1,h2⟩
 ·rw [h4,Sl.nn h2] at h;have hg:s.l[i] = m:=by rw [zi h2] at h1;exact qbC h1
  simp [Tryz.f111,h,h2,Sl.nn h2,hg,jz,h5]
 ·rw [h1] at h;simp [Tryz.f111,h,jz,h2,Mk.cells,qx]
theorem qit (l:List Mk) (id:ID):(jz l id).id = id:=by
 unfold jz;cases h:l.find? (fun m=>m.id == id) with
 | none=>rfl
 | some m=>simpa using List.find?_some h
theorem qis {l:List Mk} (hl:∀ m∈l,m.Ok) (id:ID):(jz l id).Ok:=by
 unfold jz;cases h:l.find? (fun m=>m.id == id) with
 | none=>exact ⟨by simp [qA],by simp [qA],by simp [qA]⟩
 | some m=>exact hl m (List.mem_of_find?_eq_some h)
theorem qzD [MaxL] [TxtC] (x y:Mk):call cx 150 [.agg (Enc.cells x),.agg (Enc.cells y)] [] = some (.int .i64 (qy x.id.l y.id.l),[]):=by
 have h:=qiI x.id y.id;refine qs Tryz.func150 rfl ⟨rfl,rfl⟩ ?_;simp [Tryz.f150,Mk.cells,h]
def qlV:Nat→Int
 | 0=>0 | 1=>1 | 2=>2 | 3=>2 | 4=>3 | 5=>3 | 6=>3 | 7=>3 | _=>4
theorem qtY [MaxL] [TxtC] (n:Nat) (hn:n≤13):call cx 176 [.int .u64 n] [] = some (.int .i64 (qlV n),[]):=by
 have h:n = 0∨n = 1∨n = 2∨n = 3∨n = 4∨n = 5∨n = 6∨n = 7∨n = 8∨n = 9∨n = 10∨n = 11∨n = 12∨n = 13:=by omega
 refine call_some.2 ⟨60,?_⟩;rcases h with rfl | rfl | rfl | rfl | rfl | rfl | rfl | rfl | rfl | rfl | rfl | rfl | rfl | rfl <;> kernel_rfl
def swp (l:List Mk) (j:Nat):List Mk :=
 match l[j]?,l[j - 1]? with
 | some a,some b=>(l.set j b).set (j - 1) a
 | _,_=>l
def JV:Nat→List Mk→List Mk
 | 0,l=>l
 | j+1,l=>match l[j+1]?,l[j]? with
  | some a,some b=>if qy a.id.l b.id.l < 0 then JV j (swp l (j+1)) else l
  | _,_=>l
def Zs:Nat→Nat→List Mk→List Mk
 | 0,_,l=>l
 | k+1,i,l=>Zs k (i+1) (JV i l)
theorem qpA (l:List Mk) (j:Nat):(swp l j).length = l.length:=by
 unfold swp;split <;> simp
theorem qfd:∀ (j:Nat) (l:List Mk),(JV j l).length = l.length
 | 0,l=>rfl
 | j+1,l=>by
  unfold JV;split
  ·split
   ·rw [qfd j,qpA]
   ·rfl
  ·rfl
theorem qia:∀ (k i:Nat) (l:List Mk),(Zs k i l).length = l.length
 | 0,_,_=>rfl
 | k+1,i,l=>by rw [Zs,qia k,qfd]
set_option maxHeartbeats 4000000 in
theorem qxk [MaxL] [TxtC] (n:Nat) (hn:n≤12) (H:qi) (b:Nat) (jC:H.all (kR H.length) = true) (l:List Mk) (Qq:l.length = n) (hg:qq H b = some (qh l)) :
  call cx 201 [.osl b (n * 19) 0 n 19,.int .i64 0,.int .i64 n,.fn 150 []] H = some (.tup [],H.set b (some (qh (Zs (n - 1) 1 l)))):=by
 have hb:b < H.length:=by
  rcases ZU b H.length with h | h
  ·exact h
  ·rw [qq,List.getElem?_eq_none h] at hg;cases hg
 have hset:H.set b (some (qh l)) = H:=by
  rw [qq,zi hb] at hg;simp only [Ju] at hg;rw [← hg,List.set_getElem_self]
 refine qs Tryz.func201 rfl ⟨rfl,rfl⟩ ?_;simp [Tryz.f201];refine Run.loopThen (fun (s:Nat × List Mk) e H'=>1≤s.1∧s.2.length = n∧H' = H.set b (some (qh s.2))∧Zs (n - s.1) s.1 s.2 = Zs (n - 1) 1 l∧qf e 0 = some (.osl b (n * 19) 0 n 19)∧qf e 1 = some (.int .i64 0)∧qf e 2 = some (.int .i64 n)∧qf e 3 = some (.fn 150 [])∧qf e 8 = some (.int .i64 s.1)) (fun s=>n - s.1) (1,l) (by simp [Qq,hset]) ?_;rintro ⟨i,l'⟩ e H' ⟨hi,hln',rfl,hs,h0,h1,h2,h3,h8⟩;simp only at hi hln' hs h8;by_cases Vj:i < n
 ·have hin':(i:Int) < (n:Int):=by omega
  have hw:IntKind.i64.wrap ((i:Int)+1) = ((i+1:Nat):Int):=by rw [wrap_i64] <;> omega
  have jK:Zs (n - i) i l' = Zs (n - (i+1)) (i+1) (JV i l'):=by
   have:n - i = (n - (i+1))+1:=(by omega);rw [this,Zs]
  rw [jK] at hs;simp [h0,h1,h2,h3,h8,hin'];clear h0 h1 h2 h3 h8 e;refine Run.loopThen (fun (s:Nat × List Mk) e H'=>s.1≤i∧s.2.length = n∧H' = H.set b (some (qh s.2))∧JV s.1 s.2 = JV i l'∧qf e 0 = some (.osl b (n * 19) 0 n 19)∧qf e 1 = some (.int .i64 0)∧qf e 2 = some (.int .i64 n)∧qf e 3 = some (.fn 150 [])∧qf e 8 = some (.int .i64 i)∧qf e 9 = some (.int .i64 s.1)) (fun s=>s.1) (i,l') (by simp [hln']) ?_;rintro ⟨j,l''⟩ e H' ⟨hj,hln'',rfl,ZB,h0,h1,h2,h3,h8,h9⟩;simp only at hj hln'' ZB h9;have zo:(qh l'').length = n * 19:=by rw [Mk.el,hln'']
  have hg:((H.set b (some (qh l'')))[b]?).getD none = some (qh l''):=by rw [List.getElem?_set_self hb];rfl
  cases j with
  | zero =>
   rw [JV] at ZB;subst ZB;simp [h0,h1,h2,h3,h8,h9,hw];exact ⟨i+1,by omega,by omega,_,by rw [qfd,hln'],rfl,hs,rfl⟩
  | succ k =>
   obtain ⟨j,XD⟩:∃ j,j = k+1:=⟨_,rfl⟩;rw [← XD] at hj h9 ZB;have hj0:0 < j:=(by omega);have JI:(j:Int) < (n:Int):=(by omega);have zj:(k:Int) < (n:Int):=(by omega);have jX:IntKind.i64.wrap ((j:Int) - 1) = (k:Int):=(by rw [wrap_i64] <;> omega);have vt:j < l''.length:=(by omega);have ki:k < l''.length:=(by omega);have hc:=qzD l''[j] l''[k]
   have Vc:JV j l'' = if qy l''[j].id.l l''[k].id.l < 0 then JV k (swp l'' j) else l'':=by
    subst XD;rw [JV,zi vt,zi ki]
   have hsw:swp l'' j = (l''.set j l''[k]).set k l''[j]:=by
    have:j - 1 = k:=(by omega);rw [swp,this,zi vt,zi ki]
   by_cases qg:qy l''[j].id.l l''[k].id.l < 0
   ·rw [Vc,if_pos qg,hsw] at ZB;have h19:j * 19+19≤n * 19:=(by omega);have h19':k * 19+19≤n * 19:=(by omega);have hkl2:k < (l''.set j l''[k]).length:=(by simpa using ki);have hlen2:(qh (l''.set j l''[k])).length = n * 19:=(by rw [Mk.el,qc0,hln'']);simp [h0,h1,h2,h3,h8,h9,hj0,JI,zj,jX,zo,vt,ki,hc,qg,h19,h19',hb,hlen2];exact ⟨k,by omega,by omega,_,by simp [hln''],rfl,ZB,rfl⟩
   ·rw [Vc,if_neg qg] at ZB;subst ZB;simp [h0,h1,h2,h3,h8,h9,hj0,JI,zj,jX,hg,zo,vt,ki,hc,qg,hw];exact ⟨i+1,by omega,by omega,_,by rw [qfd,hln'],rfl,hs,rfl⟩
 ·have hin':¬ (i:Int) < (n:Int):=by omega
  have h0n:n - i = 0:=by omega
  rw [h0n,Zs] at hs;subst hs;simp [h0,h1,h2,h3,h8,hin'];refine qh8 ⟨fun x hx=>?_,qx (by simp)⟩;have Z9:=Jv hx;rcases qg2 Z9 with h | rfl
  ·exact List.all_eq_true.1 jC x h
  ·exact qgj _ _
theorem qog {H:qi} {b:Nat} {ds:List D} (jC:H.all (kR H.length) = true) (hd:ds.all (closed H.length) = true) {x:Option (List D)} {n:Nat} (hx:x∈(H.set b (some ds)).take n):kR H.length x = true:=by
 have Z9:=Jv hx;rcases qg2 Z9 with h | rfl
 ·exact List.all_eq_true.1 jC x h
 ·exact hd
theorem qsw [MaxL] [TxtC] (n:Nat) (hn:n≤12) (k:Int) (H:qi) (b:Nat) (jC:H.all (kR H.length) = true) (l:List Mk) (Qq:l.length = n) (hg:qq H b = some (qh l)) :
  call cx 175 [.osl b (n * 19) 0 n 19,.int .i64 0,.int .i64 n,.int .i64 k,.fn 150 []] H = some (.tup [],H.set b (some (qh (Zs (n - 1) 1 l)))):=by
 have h:=qxk n hn H b jC l Qq hg;have hw:IntKind.i64.wrap (n:Int) = (n:Int):=by rw [wrap_i64];omega
 have QA:(n:Int)≤12:=by omega
 refine qs Tryz.func175 rfl ⟨rfl,rfl⟩ ?_;simp [Tryz.f175];refine qha ?_;simp [hw,QA,h];exact qh8 ⟨fun x hx=>qog jC (qgj _ _) hx,qx (by simp)⟩
theorem qjH [MaxL] [TxtC] (n:Nat) (hn:n≤12) (H:qi) (b:Nat) (jC:H.all (kR H.length) = true) (l:List Mk) (Qq:l.length = n) (hg:qq H b = some (qh l)) :
  call cx 149 [.osl b (n * 19) 0 n 19,.fn 150 []] H = some (.tup [],H.set b (some (qh (Zs (n - 1) 1 l)))):=by
 have h:=qsw n hn (qlV n) H b jC l Qq hg;have zo:=qtY n (by omega);have hw:IntKind.u64.wrap (n:Int) = (n:Int):=by rw [qU];omega
 refine qs Tryz.func149 rfl ⟨rfl,rfl⟩ ?_;simp [Tryz.f149,h,zo,hw];exact qh8 ⟨fun x hx=>qog jC (qgj _ _) hx,qx (by simp)⟩
theorem qlF [MaxL] [TxtC] (s:Sl Mk) (hn:s.l.length≤3000000000) :
  call cx 44 [(.vsl s.nil (qh s.l) s.l.length)] [] = if s.nil then some (.vsl true [] 0,[]) else some (.osl 0 (s.l.length * 19) 0 s.l.length 19,[some (qh s.l)]):=by
 have Qg:s.l.length * 40≤140737488355328:=by omega
 have vJ:s.l.length≤140737488355328:=by omega
 obtain ⟨nil,l,qM⟩:=s;simp only at hn Qg vJ ⊢;cases nil with
 | true =>
  have jL:=qM rfl;subst jL;rw [if_pos rfl];refine qs Tryz.func44 rfl ⟨rfl,rfl⟩ ?_;simp [Tryz.f44]
 | false =>
  rw [if_neg (by decide)];refine qs Tryz.func44 rfl ⟨rfl,rfl⟩ ?_;simp [Tryz.f44,Qg,vJ,qI]
def J8 (l:List Mk) (m:Mk):List Mk :=
 if find? (fun x=>x.id == m.id) l 0 < 0 then Zs l.length 1 (l ++ [m]) else l.set (find? (fun x=>x.id == m.id) l 0).toNat m
theorem qty [MaxL] [TxtC] (s:Sl Mk) (hn:s.l.length≤11) (m:Mk) :
  call cx 113 [(.vsl s.nil (qh s.l) s.l.length),.agg (Enc.cells m)] [] = some (.vsl false (qh (J8 s.l m)) (J8 s.l m).length,[]):=by
 have hc:=qlF s (by omega);have hf:=qiy s (by omega) m.id;have qz:(Enc.cells m).take 16 = qd m.id.l:=by simp [Mk.cells]
 have jH:(qh s.l).take (s.l.length * 19) = qh s.l:=qx (by simp);by_cases qM:s.nil = true
 ·have jL:=s.h qM;rw [qM,jL] at hc hf;have hs:=qjH 1 (by decide) [some (Enc.cells m),some (Enc.cells m),some (Enc.cells m)] 2 (by simp [kR]) [m] rfl (by simp [qq,Xe]);simp at hc hf hs;have hp:J8 s.l m = [m]:=by rw [jL];rfl
  refine qs Tryz.func113 rfl ⟨rfl,rfl⟩ ?_;simp [Tryz.f113,qM,jL,hc,hf,qz,qI,find?,hs,Zs,Xe];rw [← jL,hp];simp [Xe]
 ·have Ku:s.nil = false:=by simpa using qM
  rw [Ku] at hc hf;rw [if_neg (by decide)] at hc;rcases find?_spec (fun x=>x.id == m.id) s.l 0 with ⟨i,m',h1,h2,h3,h4,h5⟩ | ⟨h1,h2⟩
  ·rw [h4] at hf
   have hp:J8 s.l m = s.l.set i m:=by
    unfold J8;rw [h4,if_neg (by omega)];congr 1;omega
   have h19:i * 19+19≤s.l.length * 19:=(by omega);refine qs Tryz.func113 rfl ⟨rfl,rfl⟩ ?_;simp [Tryz.f113,Ku,hc,hf,qz,jH,h2,h19,hp,qx]
  ·rw [h1] at hf
   have hp:J8 s.l m = Zs s.l.length 1 (s.l ++ [m]):=by
    unfold J8;rw [h1,if_pos (by decide)]
   have hs:=qjH (s.l.length+1) (by omega) [some (Enc.cells m),some (qh s.l ++ Enc.cells m),some (Enc.cells m)] 1 (by simp [kR]) (s.l ++ [m]) (by simp) (by simp [qq,Z0]);have zh:s.l.length * 19+19 = (s.l.length+1) * 19:=(by omega);have Qg:(s.l.length+1) * 40≤140737488355328:=(by omega);have vJ:s.l.length+1≤140737488355328:=(by omega);have YV:(Zs s.l.length 1 (s.l ++ [m])).length = s.l.length+1:=(by rw [qia];simp);simp at hs;refine qs Tryz.func113 rfl ⟨rfl,rfl⟩ ?_;simp [Tryz.f113,Ku,hc,hf,qz,jH,qI,Qg,vJ,zh,hs,hp,YV,qx]
def kV:Int:=18446744073709551615
def qcf (v n:Int):Int:=if IntKind.u64.wrap (kV - v) < n then kV else IntKind.u64.wrap (v+n)
theorem ql8 [MaxL] [TxtC] (v n:Int):call cx 112 [.int .u64 v,.int .u64 n] [] = some (.int .u64 (qcf v n),[]):=by
 refine qs Tryz.func112 rfl ⟨rfl,rfl⟩ ?_;by_cases h:IntKind.u64.wrap (18446744073709551615 - v) < n
 ·simp [Tryz.f112,h,qcf,kV]
 ·simp [Tryz.f112,h,qcf,kV]
theorem ql7 {v n:Int} (hv:qA v) (hn:qA n):qcf v n = if kV - v < n then kV else v+n:=by
 unfold qA at hv hn;have e:IntKind.u64.wrap (kV - v) = kV - v:=by rw [qU];unfold kV;omega
 unfold qcf;rw [e];split
 ·rfl
 ·rw [qU];unfold kV at *;omega
def Jg (l:List Mk) (id:ID):Int :=
 if vm l = false then 1 else if l.length = 4∧find? (fun m=>m.id == id) l 0 < 0 then 15 else 0
theorem qtG [MaxL] [TxtC] (s:Sl Mk) (hn:s.l.length < 4611686018427387904) (id:ID) :
  call cx 110 [(.vsl s.nil (qh s.l) s.l.length),.agg (qd id.l)] [] = some (.int .i64 (Jg s.l id),[]):=by
 have hr:=qk1 s hn;have hf:=qiy s hn id;refine qs Tryz.func110 rfl ⟨rfl,rfl⟩ ?_;cases h:vm s.l with
 | false =>
  rw [h] at hr;simp [Tryz.f110,hr,Jg,h]
 | true =>
  rw [h] at hr;by_cases h4:s.l.length = 4
  ·rw [h4] at hf hr;by_cases qg:find? (fun m=>m.id == id) s.l 0 < 0
   ·simp [Tryz.f110,hr,Jg,h,h4,hf,qg]
   ·simp [Tryz.f110,hr,Jg,h,h4,hf,qg]
  ·have ZO:¬ ((s.l.length:Int) = 4):=(by omega);simp [Tryz.f110,hr,Jg,h,h4,ZO]
theorem qtH {l:List Mk} {id:ID} (h:Jg l id = 0):l.length≤4:=by
 unfold Jg at h;split at h
 ·cases h
 ·rename_i hr;rw [Bool.not_eq_false,vm,qT] at hr;exact of_decide_eq_true hr.1
def KL (c:Int) (l:List Mk):D:=if c = 0 then .vsl false (qh l) l.length else .vsl true [] 0
def qbQ (m:Mk) (it:It) (over:Bool):Mk :=
 if it.gap then { m with seq:=it.til,lost:=qcf m.lost (IntKind.u64.wrap (IntKind.u64.wrap (it.til - it.fr)+1)) }
 else { m with seq:=it.rc.seq,over:=if over then qcf m.over 1 else m.over }
def Zy (m:Mk) (it:It):Bool :=
 if it.gap then !(decide (it.fr≤m.seq) || decide (it.til < it.fr)) else !decide (it.rc.seq≤m.seq)
def Kb (l:List Mk) (it:It):Int:=if Jg l it.id≠0 then Jg l it.id else if Zy (jz l it.id) it then 0 else 13
def KK (l:List Mk) (it:It) (over:Bool):List Mk:=J8 l (qbQ (jz l it.id) it over)
set_option maxRecDepth 4000 in
set_option maxHeartbeats 1000000 in
theorem qj4 [MaxL] [TxtC] (s:Sl Mk) (hn:s.l.length < 4611686018427387904) (it:It) (over:Bool) :
  call cx 72 [(.vsl s.nil (qh s.l) s.l.length),.agg (Enc.cells it),.bool over] [] = some (.tup [KL (Kb s.l it) (KK s.l it over),.int .i64 (Kb s.l it)],[]):=by
 have hm:=qtG s hn it.id;have hge:=qmH s hn it.id;have YY:=qit s.l it.id;refine qs Tryz.func72 rfl ⟨rfl,rfl⟩ ?_;by_cases hc:Jg s.l it.id = 0
 ·rw [hc] at hm;have hp:=qty s (by have:=qtH hc;omega) (qbQ (jz s.l it.id) it over);unfold Kb KK;rw [if_neg (by simpa using hc)];generalize jz s.l it.id = g at *;generalize J8 s.l (qbQ g it over) = pm at *;cases vX:it.gap with
  | true =>
   by_cases h1:it.fr≤g.seq
   ·simp [Tryz.f72,It.cells,hm,qD,zC,hge,YY,vX,Mk.cells,h1,Zy,KL]
   ·by_cases h2:it.til < it.fr
    ·simp [Tryz.f72,It.cells,hm,qD,zC,hge,YY,vX,Mk.cells,h1,h2,Zy,KL]
    ·have KV:=ql8 g.lost (IntKind.u64.wrap (IntKind.u64.wrap (it.til - it.fr)+1));simp only [qbQ,vX,if_true,Mk.cells,YY] at hp;simp [Tryz.f72,It.cells,hm,zW,qD,zC,hge,YY,vX,Mk.cells,h1,h2,Zy,KL,KV];simp [hp]
  | false =>
   by_cases h1:it.rc.seq≤g.seq
   ·simp [Tryz.f72,It.cells,hm,qD,zC,hge,YY,vX,Mk.cells,h1,Zy,KL]
   ·have KV:=ql8 g.over 1;simp only [qbQ,vX,Mk.cells,YY] at hp;cases over with
    | false =>
     simp at hp;simp [Tryz.f72,It.cells,hm,zW,qD,zC,hge,YY,vX,Mk.cells,h1,Zy,KL,hp]
    | true =>
     simp at hp;simp [Tryz.f72,It.cells,hm,zW,qD,zC,hge,YY,vX,Mk.cells,h1,Zy,KL,hp,KV]
 ·have e:Kb s.l it = Jg s.l it.id:=by unfold Kb;rw [if_pos hc]
  simp [Tryz.f72,It.cells,hm,hc,qD,KL,e]
theorem qsk (l:List Mk) (m:Mk):(J8 l m).length≤l.length+1:=by
 unfold J8;split
 ·rw [qia];simp
 ·rw [qc0];omega
def Ql {α:Type} (c:Int) (s:Sl α):Sl α:=if c = 0 then s else .none
def qbU:List Mk→List Mk→Bool
 | a :: x,b :: y=>a == b && qbU x y
 | [],[]=>true
 | _,_=>false
theorem qgY:∀ (x y:List Mk),qbU x y = (x == y)
 | [],[]=>rfl
 | [],_ :: _=>rfl
 | _ :: _,[]=>rfl
 | a :: x,b :: y=>by rw [qbU,qgY x y,List.cons_beq_cons]
theorem qsK [MaxL] [TxtC] (a b:Int):call cx 82 [.int .u64 a,.int .u64 b] [] = some (.int .i64 (if a < b then -1 else if b < a then 1 else 0),[]):=by
 refine qs Tryz.func82 rfl ⟨rfl,rfl⟩ ?_;by_cases h1:a < b
 ·simp [Tryz.f82,h1]
 ·by_cases h2:b < a
  ·simp [Tryz.f82,h1,h2]
  ·simp [Tryz.f82,h1,h2]
theorem qzI:∀ {x y:List UInt8} {i:Nat} (hx:i < x.length) (hy:i < y.length),qy (x.drop i) (y.drop i) = if x[i] = y[i] then qy (x.drop (i+1)) (y.drop (i+1)) else if x[i] < y[i] then -1 else 1:=by
 intro x y i hx hy;rw [zm hx,zm hy,qy]
set_option maxHeartbeats 1000000 in
theorem qif [MaxL] [TxtC] (x y:ID):call cx 47 [.agg (qd x.l),.agg (qd y.l)] [] = some (.int .i64 (qy x.l y.l),[]):=by
 refine qs Tryz.func47 rfl ⟨rfl,rfl⟩ ?_;simp [Tryz.f47];refine Run.loopThen (fun (i:Nat) e H=>i≤16∧H = [some (qd x.l),some (qd y.l)]∧qf e 2 = some (.optr 0 16 0)∧qf e 3 = some (.optr 1 16 0)∧qf e 5 = some (.int .i64 i)∧qy x.l y.l = qy (x.l.drop i) (y.l.drop i)) (fun i=>16 - i) 0 (by simp) ?_;rintro i e H ⟨hi,rfl,h2,h3,h5,hr⟩;by_cases qg:i < 16
 ·have qk:(i:Int) < 16:=by omega
  have hx:i < x.l.length:=by simp;omega
  have hy:i < y.l.length:=by simp;omega
  have hw:IntKind.i64.wrap ((i:Int)+1) = ((i+1:Nat):Int):=by rw [wrap_i64] <;> omega
  have hwx:IntKind.u64.wrap (x.l[i].toNat:Int) = (x.l[i].toNat:Int):=by rw [qU];have:=x.l[i].toNat_lt;omega
  have hwy:IntKind.u64.wrap (y.l[i].toNat:Int) = (y.l[i].toNat:Int):=by rw [qU];have:=y.l[i].toNat_lt;omega
  have ho:=qsK (x.l[i].toNat:Int) (y.l[i].toNat:Int);rw [qzI hx hy] at hr;by_cases he:x.l[i] = y.l[i]
  ·rw [if_pos he] at hr;simp [h2,h3,h5,qk,jt hx,jt hy,he,hw];exact ⟨i+1,by omega,by omega,rfl,hr⟩
  ·have qt:¬ ((x.l[i].toNat:Int) = (y.l[i].toNat:Int)):=by
    intro h;exact he (UInt8.toNat_inj.1 (by omega))
   have hne':¬ (x.l[i].toNat = y.l[i].toNat):=fun h=>he (UInt8.toNat_inj.1 h);rw [if_neg he] at hr
   have ho':(if (x.l[i].toNat:Int) < (y.l[i].toNat:Int) then (-1:Int) else if (y.l[i].toNat:Int) < (x.l[i].toNat:Int) then 1 else 0) = qy x.l y.l:=by
    rw [hr];by_cases hl:x.l[i] < y.l[i]
    ·have:x.l[i].toNat < y.l[i].toNat:=hl;rw [if_pos hl,if_pos (by omega)]
    ·have:¬ x.l[i].toNat < y.l[i].toNat:=hl;rw [if_neg hl,if_neg (by omega),if_pos (by omega)]
   rw [ho'] at ho;simp [h2,h3,h5,qk,jt hx,jt hy,qt,hwx,hwy,ho]
 ·have qk:¬ (i:Int) < 16:=by omega
  have jb:i = 16:=by omega
  subst jb;have e1:x.l.drop 16 = []:=zX (by simp);have e2:y.l.drop 16 = []:=zX (by simp);rw [e1,e2,qy] at hr;simp [h2,h3,h5,hr]
set_option maxHeartbeats 1000000 in
theorem qhg [MaxL] [TxtC] (s:Sl Mk) (hn:s.l.length < 4611686018427387904) :
  call cx 20 [(.vsl s.nil (qh s.l) s.l.length)] [] = some (.bool (vm s.l),[]):=by
 refine qs Tryz.func20 rfl ⟨rfl,rfl⟩ ?_;simp [Tryz.f20];refine Run.loopThen (fun (i:Nat) e H=>1≤i∧(i≤s.l.length∨i = 1)∧H = []∧qf e 0 = some (.vsl s.nil (qh s.l) s.l.length)∧qf e 3 = some (.int .i64 i)∧jg s.l = jg (s.l.drop (i - 1))) (fun i=>s.l.length - i) 1 (by simp) ?_;rintro i e H ⟨hi,YV,rfl,h0,h3,hr⟩;by_cases qg:i < s.l.length
 ·obtain ⟨k,hk⟩:∃ k,k+1 = i:=⟨i - 1,by omega⟩;have qk:(i:Int) < (s.l.length:Int):=by omega
  have ki:k < s.l.length:=by omega
  have kA:(k:Int) < (s.l.length:Int):=by omega
  have hw:IntKind.i64.wrap ((i:Int) - 1) = (k:Int):=by rw [wrap_i64] <;> omega
  have zw:IntKind.i64.wrap ((i:Int)+1) = ((i+1:Nat):Int):=by rw [wrap_i64] <;> omega
  have hc:=qif s.l[k].id s.l[i].id
  have zS:jg s.l = (decide (qy s.l[k].id.l s.l[i].id.l < 0) && jg (s.l.drop i)):=by
   have e1:i - 1 = k:=by omega
   have e2:s.l.drop k = s.l[k] :: s.l[i] :: s.l.drop (i+1):=by
    rw [zm ki];congr 1;rw [hk,zm qg]
   rw [hr,e1,e2,jg,zm qg]
  have jb:∀ k,(16≤19+k) = True:=fun k=>eq_true (by omega);by_cases Vn:qy s.l[k].id.l s.l[i].id.l < 0
  ·have hcm':¬ 0≤qy s.l[k].id.l s.l[i].id.l:=(by omega);rw [decide_eq_true Vn,vS] at zS;simp [h0,h3,qk,hw,kA,Sl.nn qg,jb,qg,ki,hc,hcm',zw];exact ⟨i+1,by omega,by omega,.inl (by omega),rfl,by simpa using zS⟩
  ·have hcm':0≤qy s.l[k].id.l s.l[i].id.l:=(by omega);rw [decide_eq_false Vn,Z3] at zS;simp [h0,h3,qk,hw,kA,Sl.nn qg,jb,qg,ki,hc,hcm',zS,vm]
 ·have qk:¬ (i:Int) < (s.l.length:Int):=by omega
  have zS:jg s.l = true:=by
   rw [hr];have:(s.l.drop (i - 1)).length≤1:=by rw [jU];omega
   match s.l.drop (i - 1),this with
   | [],_=>rfl
   | [a],_=>rfl
  by_cases h4:s.l.length≤4
  ·have ZO:(s.l.length:Int)≤4:=(by omega);simp [h0,h3,qk,zS,h4,ZO,vm]
  ·have ZO:¬ (s.l.length:Int)≤4:=(by omega);simp [h0,h3,qk,zS,h4,ZO,vm]
set_option maxHeartbeats 1000000 in
theorem qrr [MaxL] [TxtC] (a b:Sl Mk) (ha:a.l.length < 4611686018427387904) :
  call cx 25 [(.vsl a.nil (qh a.l) a.l.length),(.vsl b.nil (qh b.l) b.l.length)] [] = some (.bool (a.l == b.l),[]):=by
 refine qs Tryz.func25 rfl ⟨rfl,rfl⟩ ?_;by_cases hl:a.l.length = b.l.length
 ·simp [Tryz.f25,hl];refine Run.loopThen (fun (i:Nat) e H=>i≤b.l.length∧H = []∧qf e 0 = some (.vsl a.nil (qh a.l) a.l.length)∧qf e 1 = some (.vsl b.nil (qh b.l) b.l.length)∧qf e 5 = some (.int .i64 i)∧qbU a.l b.l = qbU (a.l.drop i) (b.l.drop i)) (fun i=>b.l.length - i) 0 (by simp [hl]) ?_;rintro i e H ⟨hi,rfl,h0,h1,h5,hr⟩;rw [qgY a.l b.l] at hr;by_cases qg:i < b.l.length
  ·have qk:(i:Int) < (b.l.length:Int):=(by omega);have ZF:i < a.l.length:=(by omega);have hw:IntKind.i64.wrap ((i:Int)+1) = ((i+1:Nat):Int):=(by rw [wrap_i64] <;> omega);rw [zm qg,zm ZF,qbU] at hr;have hc:=qzM a.l[i] b.l[i];cases he:a.l[i] == b.l[i] with
   | true =>
    rw [he] at hr hc;rw [vS] at hr;simp [h0,h1,h5,hl,qk,qg,Sl.nn qg,Sl.nn ZF,hc,hw];exact ⟨i+1,by omega,by omega,rfl,by rw [qgY a.l b.l];exact hr⟩
   | false =>
    rw [he] at hr hc;rw [Z3] at hr;simp [h0,h1,h5,hl,qk,qg,Sl.nn qg,Sl.nn ZF,hc,hr]
  ·have qk:¬ (i:Int) < (b.l.length:Int):=(by omega);have h1d:a.l.drop i = []:=zX (by omega);have h2d:b.l.drop i = []:=zX (by omega);rw [h1d,h2d,qbU] at hr;simp [h0,h1,h5,hl,qk,hr]
 ·have ky:¬ ((a.l.length:Int) = (b.l.length:Int)):=by omega
  have he:(a.l == b.l) = false:=by
   rw [beq_eq_false_iff_ne];intro h;exact hl (by rw [h])
  simp [Tryz.f25,ky,he]
def kH (a b:List Mk):Bool:=a.all fun m=>decide (m.seq≤(jz b m.id).seq)
theorem qoD {α:Type} (p:α→Bool) {l:List α} {i:Nat} (h:i < l.length):(l.drop i).all p = (p l[i] && (l.drop (i+1)).all p):=by
 rw [zm h,XQ]
set_option maxHeartbeats 1000000 in
theorem qfH [MaxL] [TxtC] (a b:Sl Mk) (ha:a.l.length < 4611686018427387904) (hb:b.l.length < 4611686018427387904) :
  call cx 73 [(.vsl a.nil (qh a.l) a.l.length),(.vsl b.nil (qh b.l) b.l.length)] [] = some (.bool (kH a.l b.l),[]):=by
 refine qs Tryz.func73 rfl ⟨rfl,rfl⟩ ?_;simp [Tryz.f73];refine Run.loopThen (fun (i:Nat) e H=>i≤a.l.length∧H = []∧qf e 1 = some (.vsl b.nil (qh b.l) b.l.length)∧qf e 7 = some (.vsl a.nil (qh a.l) a.l.length)∧qf e 8 = some (.int .i64 a.l.length)∧qf e 9 = some (.int .i64 i)∧kH a.l b.l = kH (a.l.drop i) b.l) (fun i=>a.l.length - i) 0 (by simp) ?_;rintro i e H ⟨hi,rfl,h1,h7,h8,h9,hr⟩;by_cases qg:i < a.l.length
 ·have qk:(i:Int) < (a.l.length:Int):=by omega
  have hw:IntKind.i64.wrap ((i:Int)+1) = ((i+1:Nat):Int):=by rw [wrap_i64] <;> omega
  have hg:=qmH b hb a.l[i].id;unfold kH at hr ⊢;rw [qoD _ qg] at hr;by_cases hs:(jz b.l a.l[i].id).seq < a.l[i].seq
  ·have vV:¬ a.l[i].seq≤(jz b.l a.l[i].id).seq:=(by omega);simp only [vV,decide_false,Z3] at hr;simp [h1,h7,h8,h9,qk,qg,Sl.nn qg,hg,hs,hr]
  ·have vV:a.l[i].seq≤(jz b.l a.l[i].id).seq:=(by omega);simp only [vV,decide_true,vS] at hr;simp [h1,h7,h8,h9,qk,qg,Sl.nn qg,hg,hs,hw];exact ⟨i+1,by omega,by omega,rfl,hr⟩
 ·have qk:¬ (i:Int) < (a.l.length:Int):=by omega
  have hd:a.l.drop i = []:=zX (by omega);rw [hd] at hr;have he:kH [] b.l = true:=rfl;rw [he] at hr;simp [h1,h7,h8,h9,qk,hr]
end Go.Ev.S
namespace Go.Ev
open Go Go.Proofs
structure I6 where
 v:Int
instance:Enc I6:=⟨1,fun x=>[.int .i64 x.v],fun _=>rfl,fun _=>rfl⟩
theorem I6.cells (x:I6):Enc.cells x = [.int .i64 x.v]:=rfl
@[simp] theorem I6.size:Enc.size I6 = 1:=rfl
@[simp] theorem I6.cl (a:I6):(Enc.cells a).length = 1:=Enc.len a
@[simp] theorem I6.ct (a:I6) (r:List D):(Enc.cells a ++ r).take 1 = Enc.cells a:=Xj rfl a r
@[simp] theorem I6.ct' (a:I6):(Enc.cells a).take 1 = Enc.cells a:=Xi rfl a
@[simp] theorem I6.cd (a:I6) (r:List D):(Enc.cells a ++ r).drop 1 = r:=Xk rfl a r
@[simp] theorem I6.el (l:List I6):(qh l).length = l.length * 1:=Xf rfl l
@[simp] theorem I6.ed (l:List I6) (i:Nat):(qh l).drop (i * 1) = qh (l.drop i):=VP rfl l i
@[simp] theorem I6.et (l:List I6) (i:Nat):(qh l).take (i * 1) = qh (l.take i):=Kz rfl l i
@[simp high] theorem I6.ea {l:List I6} {i:Nat} (h:i < l.length):(qh l).drop (i * 1) = Enc.cells l[i] ++ qh (l.drop (i+1)):=VQ rfl h
@[simp high] theorem I6.es (m:I6) {l:List I6} {j:Nat} (h:j < l.length):qH (qh l) (j * 1) (Enc.cells m) = qh (l.set j m):=KA rfl m l h
theorem qyS (l:List I6):qh l = je .i64 (l.map (·.v)):=by
 unfold je
 induction l with
 | nil=>rfl
 | cons a l ih=>rw [ZP,ih];rfl
structure DoI where
 kind:Int
 epoch:Int
 number:Int
 ln:Sl I6
 ats:Sl I6
 byv:Int
 b:Sl UInt8
instance:Enc DoI:=⟨7,fun m=>(.int .i64 m.kind :: (.int .i64 m.epoch :: (.int .i64 m.number :: ((.vsl m.ln.nil (qh m.ln.l) m.ln.l.length) :: ((.vsl m.ats.nil (qh m.ats.l) m.ats.l.length) :: (.int .u8 m.byv :: ((.vsl m.b.nil (qd m.b.l) m.b.l.length) :: ([]:List D)))))))),fun m=>by simp,fun m=>by simp [idFree]⟩
theorem DoI.cells (m:DoI):Enc.cells m = (.int .i64 m.kind :: (.int .i64 m.epoch :: (.int .i64 m.number :: ((.vsl m.ln.nil (qh m.ln.l) m.ln.l.length) :: ((.vsl m.ats.nil (qh m.ats.l) m.ats.l.length) :: (.int .u8 m.byv :: ((.vsl m.b.nil (qd m.b.l) m.b.l.length) :: ([]:List D)))))))):=rfl
@[simp] theorem DoI.size:Enc.size DoI = 7:=rfl
@[simp] theorem DoI.cl (a:DoI):(Enc.cells a).length = 7:=Enc.len a
@[simp] theorem DoI.ct (a:DoI) (r:List D):(Enc.cells a ++ r).take 7 = Enc.cells a:=Xj rfl a r
@[simp] theorem DoI.ct' (a:DoI):(Enc.cells a).take 7 = Enc.cells a:=Xi rfl a
@[simp] theorem DoI.cd (a:DoI) (r:List D):(Enc.cells a ++ r).drop 7 = r:=Xk rfl a r
@[simp] theorem DoI.el (l:List DoI):(qh l).length = l.length * 7:=Xf rfl l
@[simp] theorem DoI.ed (l:List DoI) (i:Nat):(qh l).drop (i * 7) = qh (l.drop i):=VP rfl l i
@[simp] theorem DoI.et (l:List DoI) (i:Nat):(qh l).take (i * 7) = qh (l.take i):=Kz rfl l i
@[simp high] theorem DoI.ea {l:List DoI} {i:Nat} (h:i < l.length):(qh l).drop (i * 7) = Enc.cells l[i] ++ qh (l.drop (i+1)):=VQ rfl h
@[simp high] theorem DoI.es (m:DoI) {l:List DoI} {j:Nat} (h:j < l.length):qH (qh l) (j * 7) (Enc.cells m) = qh (l.set j m):=KA rfl m l h
@[simp] theorem DoI.g0 (m:DoI) (h):(Enc.cells m)[0]'h = .int .i64 m.kind:=by simp [DoI.cells]
@[simp] theorem DoI.q0 (m:DoI):(Enc.cells m)[0]? = some (.int .i64 m.kind):=by simp [DoI.cells]
@[simp] theorem DoI.s0 (m:DoI) (x:Int):qH (Enc.cells m) 0 [.int .i64 x] = Enc.cells { m with kind:=x }:=by simp [DoI.cells]
@[simp] theorem DoI.d1 (m:DoI):(Enc.cells m).drop 1 = (.int .i64 m.epoch :: (.int .i64 m.number :: ((.vsl m.ln.nil (qh m.ln.l) m.ln.l.length) :: ((.vsl m.ats.nil (qh m.ats.l) m.ats.l.length) :: (.int .u8 m.byv :: ((.vsl m.b.nil (qd m.b.l) m.b.l.length) :: ([]:List D))))))):=by simp [DoI.cells]
@[simp] theorem DoI.d1' (m:DoI) (r:List D):(Enc.cells m ++ r).drop 1 = (.int .i64 m.epoch :: (.int .i64 m.number :: ((.vsl m.ln.nil (qh m.ln.l) m.ln.l.length) :: ((.vsl m.ats.nil (qh m.ats.l) m.ats.l.length) :: (.int .u8 m.byv :: ((.vsl m.b.nil (qd m.b.l) m.b.l.length) :: ([]:List D))))))) ++ r:=by simp [DoI.cells]
@[simp] theorem DoI.g1 (m:DoI) (h):(Enc.cells m)[1]'h = .int .i64 m.epoch:=by simp [DoI.cells]
@[simp] theorem DoI.q1 (m:DoI):(Enc.cells m)[1]? = some (.int .i64 m.epoch):=by simp [DoI.cells]
@[simp] theorem DoI.s1 (m:DoI) (x:Int):qH (Enc.cells m) 1 [.int .i64 x] = Enc.cells { m with epoch:=x }:=by simp [DoI.cells]
@[simp] theorem DoI.d2 (m:DoI):(Enc.cells m).drop 2 = (.int .i64 m.number :: ((.vsl m.ln.nil (qh m.ln.l) m.ln.l.length) :: ((.vsl m.ats.nil (qh m.ats.l) m.ats.l.length) :: (.int .u8 m.byv :: ((.vsl m.b.nil (qd m.b.l) m.b.l.length) :: ([]:List D)))))):=by simp [DoI.cells]
@[simp] theorem DoI.d2' (m:DoI) (r:List D):(Enc.cells m ++ r).drop 2 = (.int .i64 m.number :: ((.vsl m.ln.nil (qh m.ln.l) m.ln.l.length) :: ((.vsl m.ats.nil (qh m.ats.l) m.ats.l.length) :: (.int .u8 m.byv :: ((.vsl m.b.nil (qd m.b.l) m.b.l.length) :: ([]:List D)))))) ++ r:=by simp [DoI.cells]
@[simp] theorem DoI.g2 (m:DoI) (h):(Enc.cells m)[2]'h = .int .i64 m.number:=by simp [DoI.cells]
@[simp] theorem DoI.q2 (m:DoI):(Enc.cells m)[2]? = some (.int .i64 m.number):=by simp [DoI.cells]
@[simp] theorem DoI.s2 (m:DoI) (x:Int):qH (Enc.cells m) 2 [.int .i64 x] = Enc.cells { m with number:=x }:=by simp [DoI.cells]
@[simp] theorem DoI.d3 (m:DoI):(Enc.cells m).drop 3 = ((.vsl m.ln.nil (qh m.ln.l) m.ln.l.length) :: ((.vsl m.ats.nil (qh m.ats.l) m.ats.l.length) :: (.int .u8 m.byv :: ((.vsl m.b.nil (qd m.b.l) m.b.l.length) :: ([]:List D))))):=by simp [DoI.cells]
@[simp] theorem DoI.d3' (m:DoI) (r:List D):(Enc.cells m ++ r).drop 3 = ((.vsl m.ln.nil (qh m.ln.l) m.ln.l.length) :: ((.vsl m.ats.nil (qh m.ats.l) m.ats.l.length) :: (.int .u8 m.byv :: ((.vsl m.b.nil (qd m.b.l) m.b.l.length) :: ([]:List D))))) ++ r:=by simp [DoI.cells]
@[simp] theorem DoI.g3 (m:DoI) (h):(Enc.cells m)[3]'h = (.vsl m.ln.nil (qh m.ln.l) m.ln.l.length):=by simp [DoI.cells]
@[simp] theorem DoI.q3 (m:DoI):(Enc.cells m)[3]? = some ((.vsl m.ln.nil (qh m.ln.l) m.ln.l.length)):=by simp [DoI.cells]
@[simp] theorem DoI.s3 (m:DoI) (x:Sl I6):qH (Enc.cells m) 3 [(.vsl x.nil (qh x.l) x.l.length)] = Enc.cells { m with ln:=x }:=by simp [DoI.cells]
@[simp] theorem DoI.d4 (m:DoI):(Enc.cells m).drop 4 = ((.vsl m.ats.nil (qh m.ats.l) m.ats.l.length) :: (.int .u8 m.byv :: ((.vsl m.b.nil (qd m.b.l) m.b.l.length) :: ([]:List D)))):=by simp [DoI.cells]
@[simp] theorem DoI.d4' (m:DoI) (r:List D):(Enc.cells m ++ r).drop 4 = ((.vsl m.ats.nil (qh m.ats.l) m.ats.l.length) :: (.int .u8 m.byv :: ((.vsl m.b.nil (qd m.b.l) m.b.l.length) :: ([]:List D)))) ++ r:=by simp [DoI.cells]
@[simp] theorem DoI.g4 (m:DoI) (h):(Enc.cells m)[4]'h = (.vsl m.ats.nil (qh m.ats.l) m.ats.l.length):=by simp [DoI.cells]
@[simp] theorem DoI.q4 (m:DoI):(Enc.cells m)[4]? = some ((.vsl m.ats.nil (qh m.ats.l) m.ats.l.length)):=by simp [DoI.cells]
@[simp] theorem DoI.s4 (m:DoI) (x:Sl I6):qH (Enc.cells m) 4 [(.vsl x.nil (qh x.l) x.l.length)] = Enc.cells { m with ats:=x }:=by simp [DoI.cells]
@[simp] theorem DoI.d5 (m:DoI):(Enc.cells m).drop 5 = (.int .u8 m.byv :: ((.vsl m.b.nil (qd m.b.l) m.b.l.length) :: ([]:List D))):=by simp [DoI.cells]
@[simp] theorem DoI.d5' (m:DoI) (r:List D):(Enc.cells m ++ r).drop 5 = (.int .u8 m.byv :: ((.vsl m.b.nil (qd m.b.l) m.b.l.length) :: ([]:List D))) ++ r:=by simp [DoI.cells]
@[simp] theorem DoI.g5 (m:DoI) (h):(Enc.cells m)[5]'h = .int .u8 m.byv:=by simp [DoI.cells]
@[simp] theorem DoI.q5 (m:DoI):(Enc.cells m)[5]? = some (.int .u8 m.byv):=by simp [DoI.cells]
@[simp] theorem DoI.s5 (m:DoI) (x:Int):qH (Enc.cells m) 5 [.int .u8 x] = Enc.cells { m with byv:=x }:=by simp [DoI.cells]
@[simp] theorem DoI.d6 (m:DoI):(Enc.cells m).drop 6 = ((.vsl m.b.nil (qd m.b.l) m.b.l.length) :: ([]:List D)):=by simp [DoI.cells]
@[simp] theorem DoI.d6' (m:DoI) (r:List D):(Enc.cells m ++ r).drop 6 = ((.vsl m.b.nil (qd m.b.l) m.b.l.length) :: ([]:List D)) ++ r:=by simp [DoI.cells]
@[simp] theorem DoI.g6 (m:DoI) (h):(Enc.cells m)[6]'h = (.vsl m.b.nil (qd m.b.l) m.b.l.length):=by simp [DoI.cells]
@[simp] theorem DoI.q6 (m:DoI):(Enc.cells m)[6]? = some ((.vsl m.b.nil (qd m.b.l) m.b.l.length)):=by simp [DoI.cells]
@[simp] theorem DoI.s6 (m:DoI) (x:Sl UInt8):qH (Enc.cells m) 6 [(.vsl x.nil (qd x.l) x.l.length)] = Enc.cells { m with b:=x }:=by simp [DoI.cells]
structure RcP where
 epoch:Int
 last:Int
 items:Sl It
 marks:Sl Mk
instance:Enc RcP:=⟨4,fun m=>(.int .u64 m.epoch :: (.int .u64 m.last :: ((.vsl m.items.nil (qh m.items.l) m.items.l.length) :: ((.vsl m.marks.nil (qh m.marks.l) m.marks.l.length) :: ([]:List D))))),fun m=>by simp,fun m=>by simp [idFree]⟩
theorem RcP.cells (m:RcP):Enc.cells m = (.int .u64 m.epoch :: (.int .u64 m.last :: ((.vsl m.items.nil (qh m.items.l) m.items.l.length) :: ((.vsl m.marks.nil (qh m.marks.l) m.marks.l.length) :: ([]:List D))))):=rfl
@[simp] theorem RcP.size:Enc.size RcP = 4:=rfl
@[simp] theorem RcP.cl (a:RcP):(Enc.cells a).length = 4:=Enc.len a
@[simp] theorem RcP.ct (a:RcP) (r:List D):(Enc.cells a ++ r).take 4 = Enc.cells a:=Xj rfl a r
@[simp] theorem RcP.ct' (a:RcP):(Enc.cells a).take 4 = Enc.cells a:=Xi rfl a
@[simp] theorem RcP.cd (a:RcP) (r:List D):(Enc.cells a ++ r).drop 4 = r:=Xk rfl a r
@[simp] theorem RcP.el (l:List RcP):(qh l).length = l.length * 4:=Xf rfl l
@[simp] theorem RcP.ed (l:List RcP) (i:Nat):(qh l).drop (i * 4) = qh (l.drop i):=VP rfl l i
@[simp] theorem RcP.et (l:List RcP) (i:Nat):(qh l).take (i * 4) = qh (l.take i):=Kz rfl l i
@[simp high] theorem RcP.ea {l:List RcP} {i:Nat} (h:i < l.length):(qh l).drop (i * 4) = Enc.cells l[i] ++ qh (l.drop (i+1)):=VQ rfl h
@[simp high] theorem RcP.es (m:RcP) {l:List RcP} {j:Nat} (h:j < l.length):qH (qh l) (j * 4) (Enc.cells m) = qh (l.set j m):=KA rfl m l h
@[simp] theorem RcP.g0 (m:RcP) (h):(Enc.cells m)[0]'h = .int .u64 m.epoch:=by simp [RcP.cells]
@[simp] theorem RcP.q0 (m:RcP):(Enc.cells m)[0]? = some (.int .u64 m.epoch):=by simp [RcP.cells]
@[simp] theorem RcP.s0 (m:RcP) (x:Int):qH (Enc.cells m) 0 [.int .u64 x] = Enc.cells { m with epoch:=x }:=by simp [RcP.cells]
@[simp] theorem RcP.d1 (m:RcP):(Enc.cells m).drop 1 = (.int .u64 m.last :: ((.vsl m.items.nil (qh m.items.l) m.items.l.length) :: ((.vsl m.marks.nil (qh m.marks.l) m.marks.l.length) :: ([]:List D)))):=by simp [RcP.cells]
@[simp] theorem RcP.d1' (m:RcP) (r:List D):(Enc.cells m ++ r).drop 1 = (.int .u64 m.last :: ((.vsl m.items.nil (qh m.items.l) m.items.l.length) :: ((.vsl m.marks.nil (qh m.marks.l) m.marks.l.length) :: ([]:List D)))) ++ r:=by simp [RcP.cells]
@[simp] theorem RcP.g1 (m:RcP) (h):(Enc.cells m)[1]'h = .int .u64 m.last:=by simp [RcP.cells]
@[simp] theorem RcP.q1 (m:RcP):(Enc.cells m)[1]? = some (.int .u64 m.last):=by simp [RcP.cells]
@[simp] theorem RcP.s1 (m:RcP) (x:Int):qH (Enc.cells m) 1 [.int .u64 x] = Enc.cells { m with last:=x }:=by simp [RcP.cells]
@[simp] theorem RcP.d2 (m:RcP):(Enc.cells m).drop 2 = ((.vsl m.items.nil (qh m.items.l) m.items.l.length) :: ((.vsl m.marks.nil (qh m.marks.l) m.marks.l.length) :: ([]:List D))):=by simp [RcP.cells]
@[simp] theorem RcP.d2' (m:RcP) (r:List D):(Enc.cells m ++ r).drop 2 = ((.vsl m.items.nil (qh m.items.l) m.items.l.length) :: ((.vsl m.marks.nil (qh m.marks.l) m.marks.l.length) :: ([]:List D))) ++ r:=by simp [RcP.cells]
@[simp] theorem RcP.g2 (m:RcP) (h):(Enc.cells m)[2]'h = (.vsl m.items.nil (qh m.items.l) m.items.l.length):=by simp [RcP.cells]
@[simp] theorem RcP.q2 (m:RcP):(Enc.cells m)[2]? = some ((.vsl m.items.nil (qh m.items.l) m.items.l.length)):=by simp [RcP.cells]
@[simp] theorem RcP.s2 (m:RcP) (x:Sl It):qH (Enc.cells m) 2 [(.vsl x.nil (qh x.l) x.l.length)] = Enc.cells { m with items:=x }:=by simp [RcP.cells]
@[simp] theorem RcP.d3 (m:RcP):(Enc.cells m).drop 3 = ((.vsl m.marks.nil (qh m.marks.l) m.marks.l.length) :: ([]:List D)):=by simp [RcP.cells]
@[simp] theorem RcP.d3' (m:RcP) (r:List D):(Enc.cells m ++ r).drop 3 = ((.vsl m.marks.nil (qh m.marks.l) m.marks.l.length) :: ([]:List D)) ++ r:=by simp [RcP.cells]
@[simp] theorem RcP.g3 (m:RcP) (h):(Enc.cells m)[3]'h = (.vsl m.marks.nil (qh m.marks.l) m.marks.l.length):=by simp [RcP.cells]
@[simp] theorem RcP.q3 (m:RcP):(Enc.cells m)[3]? = some ((.vsl m.marks.nil (qh m.marks.l) m.marks.l.length)):=by simp [RcP.cells]
@[simp] theorem RcP.s3 (m:RcP) (x:Sl Mk):qH (Enc.cells m) 3 [(.vsl x.nil (qh x.l) x.l.length)] = Enc.cells { m with marks:=x }:=by simp [RcP.cells]
structure RcD where
 epoch:Int
 last:Int
 marks:Sl Mk
 items:Sl It
instance:Enc RcD:=⟨4,fun m=>(.int .u64 m.epoch :: (.int .u64 m.last :: ((.vsl m.marks.nil (qh m.marks.l) m.marks.l.length) :: ((.vsl m.items.nil (qh m.items.l) m.items.l.length) :: ([]:List D))))),fun m=>by simp,fun m=>by simp [idFree]⟩
theorem RcD.cells (m:RcD):Enc.cells m = (.int .u64 m.epoch :: (.int .u64 m.last :: ((.vsl m.marks.nil (qh m.marks.l) m.marks.l.length) :: ((.vsl m.items.nil (qh m.items.l) m.items.l.length) :: ([]:List D))))):=rfl
@[simp] theorem RcD.size:Enc.size RcD = 4:=rfl
@[simp] theorem RcD.cl (a:RcD):(Enc.cells a).length = 4:=Enc.len a
@[simp] theorem RcD.ct (a:RcD) (r:List D):(Enc.cells a ++ r).take 4 = Enc.cells a:=Xj rfl a r
@[simp] theorem RcD.ct' (a:RcD):(Enc.cells a).take 4 = Enc.cells a:=Xi rfl a
@[simp] theorem RcD.cd (a:RcD) (r:List D):(Enc.cells a ++ r).drop 4 = r:=Xk rfl a r
@[simp] theorem RcD.el (l:List RcD):(qh l).length = l.length * 4:=Xf rfl l
@[simp] theorem RcD.ed (l:List RcD) (i:Nat):(qh l).drop (i * 4) = qh (l.drop i):=VP rfl l i
@[simp] theorem RcD.et (l:List RcD) (i:Nat):(qh l).take (i * 4) = qh (l.take i):=Kz rfl l i
@[simp high] theorem RcD.ea {l:List RcD} {i:Nat} (h:i < l.length):(qh l).drop (i * 4) = Enc.cells l[i] ++ qh (l.drop (i+1)):=VQ rfl h
@[simp high] theorem RcD.es (m:RcD) {l:List RcD} {j:Nat} (h:j < l.length):qH (qh l) (j * 4) (Enc.cells m) = qh (l.set j m):=KA rfl m l h
@[simp] theorem RcD.g0 (m:RcD) (h):(Enc.cells m)[0]'h = .int .u64 m.epoch:=by simp [RcD.cells]
@[simp] theorem RcD.q0 (m:RcD):(Enc.cells m)[0]? = some (.int .u64 m.epoch):=by simp [RcD.cells]
@[simp] theorem RcD.s0 (m:RcD) (x:Int):qH (Enc.cells m) 0 [.int .u64 x] = Enc.cells { m with epoch:=x }:=by simp [RcD.cells]
@[simp] theorem RcD.d1 (m:RcD):(Enc.cells m).drop 1 = (.int .u64 m.last :: ((.vsl m.marks.nil (qh m.marks.l) m.marks.l.length) :: ((.vsl m.items.nil (qh m.items.l) m.items.l.length) :: ([]:List D)))):=by simp [RcD.cells]
@[simp] theorem RcD.d1' (m:RcD) (r:List D):(Enc.cells m ++ r).drop 1 = (.int .u64 m.last :: ((.vsl m.marks.nil (qh m.marks.l) m.marks.l.length) :: ((.vsl m.items.nil (qh m.items.l) m.items.l.length) :: ([]:List D)))) ++ r:=by simp [RcD.cells]
@[simp] theorem RcD.g1 (m:RcD) (h):(Enc.cells m)[1]'h = .int .u64 m.last:=by simp [RcD.cells]
@[simp] theorem RcD.q1 (m:RcD):(Enc.cells m)[1]? = some (.int .u64 m.last):=by simp [RcD.cells]
@[simp] theorem RcD.s1 (m:RcD) (x:Int):qH (Enc.cells m) 1 [.int .u64 x] = Enc.cells { m with last:=x }:=by simp [RcD.cells]
@[simp] theorem RcD.d2 (m:RcD):(Enc.cells m).drop 2 = ((.vsl m.marks.nil (qh m.marks.l) m.marks.l.length) :: ((.vsl m.items.nil (qh m.items.l) m.items.l.length) :: ([]:List D))):=by simp [RcD.cells]
@[simp] theorem RcD.d2' (m:RcD) (r:List D):(Enc.cells m ++ r).drop 2 = ((.vsl m.marks.nil (qh m.marks.l) m.marks.l.length) :: ((.vsl m.items.nil (qh m.items.l) m.items.l.length) :: ([]:List D))) ++ r:=by simp [RcD.cells]
@[simp] theorem RcD.g2 (m:RcD) (h):(Enc.cells m)[2]'h = (.vsl m.marks.nil (qh m.marks.l) m.marks.l.length):=by simp [RcD.cells]
@[simp] theorem RcD.q2 (m:RcD):(Enc.cells m)[2]? = some ((.vsl m.marks.nil (qh m.marks.l) m.marks.l.length)):=by simp [RcD.cells]
@[simp] theorem RcD.s2 (m:RcD) (x:Sl Mk):qH (Enc.cells m) 2 [(.vsl x.nil (qh x.l) x.l.length)] = Enc.cells { m with marks:=x }:=by simp [RcD.cells]
@[simp] theorem RcD.d3 (m:RcD):(Enc.cells m).drop 3 = ((.vsl m.items.nil (qh m.items.l) m.items.l.length) :: ([]:List D)):=by simp [RcD.cells]
@[simp] theorem RcD.d3' (m:RcD) (r:List D):(Enc.cells m ++ r).drop 3 = ((.vsl m.items.nil (qh m.items.l) m.items.l.length) :: ([]:List D)) ++ r:=by simp [RcD.cells]
@[simp] theorem RcD.g3 (m:RcD) (h):(Enc.cells m)[3]'h = (.vsl m.items.nil (qh m.items.l) m.items.l.length):=by simp [RcD.cells]
@[simp] theorem RcD.q3 (m:RcD):(Enc.cells m)[3]? = some ((.vsl m.items.nil (qh m.items.l) m.items.l.length)):=by simp [RcD.cells]
@[simp] theorem RcD.s3 (m:RcD) (x:Sl It):qH (Enc.cells m) 3 [(.vsl x.nil (qh x.l) x.l.length)] = Enc.cells { m with items:=x }:=by simp [RcD.cells]
end Go.Ev
namespace Go.Ev
attribute [simp] Yx qde mv mv.mvL V7 Jc qdg qcD
end Go.Ev
namespace Go.Ev.S
open Go Go.Proofs Go.Ev
def q1m {α:Type} [Enc α] (S:List D) (sz:Nat) (l:List α) (d:D) (H:qi):Prop :=
 (l = []∧d = .vsl true [] 0∧H = [some S])∨(l≠[]∧∃ n k t,n = l.length * sz∧k = l.length∧((d = .osl 2 n 0 k sz∧H = [some S,some t,some (qh l)])∨(d = .osl 1 n 0 k sz∧H = [some S,some (qh l),some t])))
def qoL (nil:Bool) (zs:List Int) (q:D × qi):Prop:= ∃ (l:List Pr) (k':Nat),1≤l.length∧l.length≤4∧(∀ p∈l,JZ p = true)∧q = (.vsl false (qh l) l.length,[some (jG nil zs k')])
set_option maxHeartbeats 1000000 in
theorem qtz [MaxL] [TxtC] (nil:Bool) (zs:List Int) (qM:nil = true→zs = []) (hz:zs.length≤1000000) (k:Nat) :
  ∃ q,call cx 94 [.optr 0 2 0,.int .i64 4] [some (jG nil zs k)] = some q∧qoL nil zs q:=by
 obtain ⟨x,k1,hx,-,h1⟩:=V6 nil zs qM hz k 4 (by decide) (by decide);refine vH (X:=cx) (f:=94) (args:=[.optr 0 2 0,.int .i64 4]) (H:=[some (jG nil zs k)]) (qoL nil zs) Tryz.func94 rfl ⟨rfl,rfl⟩ ?_;have hw:IntKind.i64.wrap ((x:Int)+1) = ((x+1:Nat):Int):=by rw [wrap_i64] <;> omega
 have sf:=qd2 nil zs;have sl:=qd1 nil zs;have sc:=qd3 nil zs;simp [Tryz.f94,h1,sf];refine Run.loopThen (fun (q:List Pr × Nat × Nat) e H'=>q.1.length+q.2.1 = x+1∧(∀ p∈q.1,JZ p = true)∧qf e 0 = some (.optr 0 2 0)∧qf e 6 = some (.int .i64 (q.2.1:Nat))∧∃ d,qf e 5 = some d∧q1m (jG nil zs q.2.2) 2 q.1 d H') (fun q=>q.2.1) ([],x+1,k1) ?_ ?_
 ·exact ⟨by simp,by simp,by simp,by simp [hw],_,by simp,.inl ⟨rfl,rfl,rfl⟩⟩
 rintro ⟨l,i,k2⟩ e H' ⟨hi,hok,k0,k6,d,k5,hH⟩;simp only at hi hok k6 hH;obtain ⟨p,k3,hp,h2⟩:=qt0 nil zs qM hz k2;rcases hH with ⟨rfl,rfl,rfl⟩ | ⟨qt,n,m,t,hn,hm,hH⟩
 ·have VJ:0 < i:=by simp at hi;omega
  have zw:IntKind.i64.wrap ((i:Int) - 1) = ((i - 1:Nat):Int):=by rw [wrap_i64] <;> (simp at hi;omega)
  simp [k0,k5,k6,VJ,h2,sf,sc,zw,Pr.cells,qI];exact ⟨[p],i - 1,by omega,by simp at hi ⊢;omega,by simp [hp],rfl,k3,.inr ⟨by simp,2,1,_,rfl,rfl,.inl ⟨rfl,rfl⟩⟩⟩
 ·have zZ:(m+1) * 32≤140737488355328:=by omega
  have zB:m+1≤140737488355328:=by omega
  have ze:l.length = m:=hm.symm;have zj:m * 2 = n:=by omega
  have qz:List.take n (qh l) = qh l:=qx (by simp;omega);by_cases VJ:0 < i
  ·have zw:IntKind.i64.wrap ((i:Int) - 1) = ((i - 1:Nat):Int):=(by rw [wrap_i64] <;> omega);rcases hH with ⟨rfl,rfl⟩ | ⟨rfl,rfl⟩
   all_goals
    simp [k0,k5,k6,VJ,h2,sf,sc,zw,Pr.cells,qI,ze,zj,zZ,zB];refine ⟨l ++ [p],i - 1,by omega,by simp;omega,fun q hq=>?_,rfl,k3,.inr ⟨by simp,n+2,m+1,_,by simp;omega,by simp [ze],.inr ⟨rfl,by rw [Z0];rfl⟩⟩⟩;rcases List.mem_append.1 hq with h | h
    ·exact hok q h
    ·rw [List.mem_singleton.1 h];exact hp
  ·have XE:l.isEmpty = false:=by simpa using qt
   have ja:1≤l.length:=by
    cases l with
    | nil=>exact absurd rfl qt
    | cons=>simp
   rcases hH with ⟨rfl,rfl⟩ | ⟨rfl,rfl⟩
   all_goals
    simp [k0,k5,k6,VJ,sc,ze,zj,qz];exact ⟨l,k2,ja,by omega,hok,by rw [ze]⟩
def qoK (n:Nat) (r:Rec):Prop:=r.seq = n∧r.Ok∧1≤r.fields.l.length∧r.fields.l.length≤4∧∀ p∈r.fields.l,JZ p = true
theorem qdr {n:Nat} (h:n < 18446744073709551616):qA (n:Int):=by
 unfold qA;omega
set_option maxHeartbeats 1000000 in
theorem qtw [MaxL] [TxtC] (nil:Bool) (zs:List Int) (qM:nil = true→zs = []) (hz:zs.length≤1000000) (k:Nat) (n:Nat) (hn:n < 18446744073709551616) :
  ∃ (r:Rec) (k':Nat),qoK n r∧call cx 61 [.optr 0 2 0,.int .u64 n] [some (jG nil zs k)] = some (.agg (Enc.cells r),[some (jG nil zs k')]):=by
 obtain ⟨q,h1,l,k1,ja,zP,hp,rfl⟩:=qtz nil zs qM hz k;obtain ⟨q,h2,out,ho1,ho4,ji,rfl⟩:=qtW l ja zP hp;obtain ⟨x,k2,hx,-,h3⟩:=V6 nil zs qM hz k1 40 (by decide) (by decide);obtain ⟨y,k3,hy,-,h4⟩:=V6 nil zs qM hz k2 9 (by decide) (by decide);obtain ⟨z,k4,hz3,-,h5⟩:=V6 nil zs qM hz k3 3 (by decide) (by decide);have h6:=qf7 (j:=z) (by omega);refine ⟨⟨n,x,y,Ji z,.of out⟩,k4,⟨rfl,⟨qdr hn,qdr (by omega),qdr (by omega)⟩,ho1,ho4,ji⟩,?_⟩;have sf:=qd2 nil zs;have sl:=qd1 nil zs;have sc:=qd3 nil zs;have hx64:IntKind.u64.wrap (x:Int) = (x:Int):=by rw [qU];omega
 have hy64:IntKind.u64.wrap (y:Int) = (y:Int):=by rw [qU];omega
 have hi:=(Ji z).h;generalize Ji z = iz at *;have ht:List.take 16 (qd iz.l) = qd iz.l:=qx (by simp);have hd:List.drop 17 (qd iz.l ++ [D.vsl true [] 0]) = []:=zX (by simp);refine qs Tryz.func61 rfl ⟨rfl,rfl⟩ ?_;simp [Tryz.f61,h1,h2,h3,h4,h5,h6,sf,sc,hx64,hy64,Rec.cells,hi,hd,zW]
def qeF (it:It):Prop:=it.Ok∧zM it = true∧it.rc.fields.l.length≤4∧∀ p∈it.rc.fields.l,JZ p = true
theorem qdq:qA 0:=by unfold qA;decide
def qdC:Rec:=⟨0,0,0,ID.zero,.none⟩
theorem qtM (q:ID) {n t:Nat} (h1:1≤n) (h2:n≤t) (h3:t < 18446744073709551616):qeF ⟨q,true,n,t,qdC⟩:=by
 refine ⟨⟨qdr (by omega),qdr (by omega),⟨qdq,qdq,qdq⟩⟩,?_,jk _,fun p hp=>by cases hp⟩;unfold zM qan;simp [qdC,Sl.none];omega
theorem qtK (q:ID) {n:Nat} {r:Rec} (h1:1≤n) (h:qoK n r):qeF ⟨q,false,0,0,r⟩:=by
 obtain ⟨a,b,c,d,e⟩:=h;refine ⟨⟨qdq,qdq,b⟩,?_,d,e⟩;unfold zM Zp;simp [a];exact ⟨⟨⟨by omega,c⟩,by omega⟩,fun p hp=>qf6 (e p hp)⟩
theorem qxn {k:IntKind} {l:List Int} {i:Nat} {v:Int} (h:i < l.length):qH (je k l) i [.int k v] = je k (l.set i v):=by
 have hi:i < (je k l).length:=by simpa using h
 have e:(je k l).set i (.int k v) = je k (l.set i v):=by unfold je;rw [List.map_set]
 rw [← e,List.set_eq_take_append_cons_drop,if_pos hi];unfold qH;simp
theorem qmR (q:ID) (n t:Int):Enc.cells (⟨q,true,n,t,qdC⟩:It) = qd q.l ++ [.bool true,.int .u64 n,.int .u64 t,.int .u64 0,.int .u64 0,.int .u64 0,.int .u8 0,.int .u8 0,.int .u8 0,.int .u8 0,.int .u8 0,.int .u8 0,.int .u8 0,.int .u8 0,.int .u8 0,.int .u8 0,.int .u8 0,.int .u8 0,.int .u8 0,.int .u8 0,.int .u8 0,.int .u8 0,.vsl true [] 0]:=by
 rw [It.cells];rfl
theorem qkJ (q:ID) (r:Rec):Enc.cells (⟨q,false,0,0,r⟩:It) = qd q.l ++ (.bool false :: .int .u64 0 :: .int .u64 0 :: Enc.cells r):=by
 rw [It.cells,Rec.cells];rfl
theorem qrK (r:Rec):noZ.noZL (Enc.cells r) = true:=by
 rw [Rec.cells];simp
def q1j (S:List D) (out:List It) (last:List Int) (d5 d6:D) (H:qi):Prop :=
 (out = []∧d5 = .vsl true [] 0∧d6 = .optr 1 3 0∧H = [some S,some (je .u64 last)]) ∨
 (out≠[]∧∃ n m t,n = out.length * 39∧m = out.length∧((d5 = .osl 3 n 0 m 39∧d6 = .optr 1 3 0∧H = [some S,some (je .u64 last),some t,some (qh out)])∨(d5 = .osl 1 n 0 m 39∧d6 = .optr 2 3 0∧H = [some S,some (qh out),some (je .u64 last),some t])))
def qoP (nil:Bool) (zs:List Int) (most:Nat) (q:D × qi):Prop:= ∃ (out:List It) (k':Nat),out.length≤most∧(∀ it∈out,qeF it) ∧
 ((out = []∧q = (.vsl true [] 0,[some (jG nil zs k')]))∨(out≠[]∧∃ n m,n = out.length * 39∧m = out.length∧q = (.osl 1 n 0 m 39,[some (jG nil zs k'),some (qh out)])))
set_option maxHeartbeats 4000000 in
theorem qxi [MaxL] [TxtC] (nil:Bool) (zs:List Int) (qM:nil = true→zs = []) (hz:zs.length≤1000000) (k:Nat) (most:Nat) (hmost:most≤100) :
  ∃ q,call cx 30 [.optr 0 2 0,.int .i64 most] [some (jG nil zs k)] = some q∧qoP nil zs most q:=by
 refine vH (X:=cx) (f:=30) (args:=[.optr 0 2 0,.int .i64 most]) (H:=[some (jG nil zs k)]) (qoP nil zs most) Tryz.func30 rfl ⟨rfl,rfl⟩ ?_;have sf:=qd2 nil zs;have sl:=qd1 nil zs;have sc:=qd3 nil zs;simp [Tryz.f30];refine Run.loopThen (fun (q:List It × List Int × Nat) e H'=>q.1.length≤most∧(∀ it∈q.1,qeF it)∧q.2.1.length = 3∧(∀ v∈q.2.1,0≤v∧v≤q.1.length * 6)∧qf e 0 = some (.optr 0 2 0)∧qf e 1 = some (.int .i64 most)∧∃ d5 d6,qf e 5 = some d5∧qf e 6 = some d6∧q1j (jG nil zs q.2.2) q.1 q.2.1 d5 d6 H') (fun q=>most - q.1.length) ([],[0,0,0],k) ?_ ?_
 ·exact ⟨by simp,by simp,by simp,by simp,by simp,by simp,_,_,by simp,by simp,.inl ⟨rfl,rfl,rfl,rfl⟩⟩
 rintro ⟨out,last,k1⟩ e H' ⟨ho,hmade,zl,hlast,k0,k1',d5,d6,k5,k6,hH⟩;simp only at ho hmade zl hlast hH;have KV:=qt1 nil zs k1;have hlf:(∀ x,x∈je .u64 last→idFree x = true) = True:=eq_true (by simp [je]);have qR:∀ n,(∀ x,x∈je .u64 last→closed n x = true) = True:=fun n=>eq_true (by simp [je]);obtain ⟨x1,k2,VA,-,c1⟩:=V6 nil zs qM hz k1 3 (by decide) (by decide);obtain ⟨x2,k3,Kp,-,c2⟩:=V6 nil zs qM hz k2 3 (by decide) (by decide);obtain ⟨x3,k4,hx3,-,c3⟩:=V6 nil zs qM hz k3 4 (by decide) (by decide);obtain ⟨x4,k5',hx4,-,c4⟩:=V6 nil zs qM hz k4 4 (by decide) (by decide);have Qd:=qf7 (j:=x1) (by omega);have hx1l:x1 < last.length:=by omega
 have qW:=qhZ (k:=.u64) hx1l;have hx1i:(x1:Int) < 3:=VA;have hxn:x1 < 3:=by omega
 have hxn2:x1+1≤3:=by omega
 obtain ⟨hv0,YL⟩:=hlast _ (vw hx1l);obtain ⟨v,hv⟩:∃ v:Nat,last[x1] = (v:Int):=⟨last[x1].toNat,by omega⟩;rw [hv] at qW hv0 YL;have w1:IntKind.u64.wrap ((v:Int)+1) = (v:Int)+1:=by rw [qU];omega
 have w2:IntKind.u64.wrap (x2:Int) = (x2:Int):=by rw [qU];omega
 have w3:IntKind.u64.wrap ((v:Int)+1+(x2:Int)) = (v:Int)+1+(x2:Int):=by rw [qU];omega
 have w4:IntKind.u64.wrap (x4:Int) = (x4:Int):=by rw [qU];omega
 have w5:IntKind.u64.wrap ((v:Int)+1+(x2:Int)+(x4:Int)) = (v:Int)+1+(x2:Int)+(x4:Int):=by rw [qU];omega
 obtain ⟨r,k6',hr,c6⟩:=qtw nil zs qM hz k4 (v+1+x2) (by omega);rw [show ((v+1+x2:Nat):Int) = (v:Int)+1+x2 by omega] at c6;have hq:=(Ji x1).h;have Vk:=qtM (Ji x1) (n:=v+1+x2) (t:=v+1+x2+x4) (by omega) (by omega) (by omega);have YR:=qtK (Ji x1) (n:=v+1+x2) (by omega) hr;rw [show ((v+1+x2:Nat):Int) = (v:Int)+1+x2 by omega] at Vk;rw [show ((v+1+x2+x4:Nat):Int) = (v:Int)+1+x2+x4 by omega] at Vk;generalize Ji x1 = iq at *;have KU:List.take 16 (qd iq.l) = qd iq.l:=qx (by simp);have qbe:List.take 39 (qd iq.l) = qd iq.l:=qx (by simp);have hset1:=fun x=>qxn (k:=.u64) (v:=x) hx1l
 have hlast1:∀ x:Int,0≤x→x≤(out.length+1:Nat) * 6→∀ y∈last.set x1 x,0≤y∧y≤(out.length+1:Nat) * 6:=by
  intro x h1 h2 y hy;rcases qg2 hy with h | rfl
  ·have:=hlast y h;omega
  ·exact ⟨h1,h2⟩
 have hrz:=qrK r;by_cases h0:out.length < most
 case neg =>
  rcases hH with ⟨rfl,rfl,rfl,rfl⟩ | ⟨qt,n,m,t,hn,hm,hH⟩
  ·have Kx:¬ 0 < most:=h0;simp [k0,k1',k5,k6,sc,hlf,Kx];exact ⟨[],k1,by simp,by simp,.inl ⟨rfl,rfl⟩⟩
  have Kx:¬ m < most:=by omega
  have zj:m * 39 = n:=by omega
  have ze:out.length = m:=hm.symm;have qz:List.take n (qh out) = qh out:=qx (by simp;omega);rcases hH with ⟨rfl,rfl,rfl⟩ | ⟨rfl,rfl,rfl⟩
  all_goals
   simp [k0,k1',k5,k6,sc,hlf,Kx,ze];exact ⟨out,k1,by omega,hmade,.inr ⟨qt,n,m,by omega,by omega,rfl⟩⟩
 cases hmm:decide (k1 < zs.length) with
 | false =>
  rw [hmm] at KV;rcases hH with ⟨rfl,rfl,rfl,rfl⟩ | ⟨qt,n,m,t,hn,hm,hH⟩
  ·have Kx:0 < most:=h0;simp [k0,k1',k5,k6,KV,sf,sc,hlf,Kx];exact ⟨[],k1,by simp,by simp,.inl ⟨rfl,rfl⟩⟩
  have Kx:m < most:=by omega
  have zj:m * 39 = n:=by omega
  have ze:out.length = m:=hm.symm;have qz:List.take n (qh out) = qh out:=qx (by simp;omega);rcases hH with ⟨rfl,rfl,rfl⟩ | ⟨rfl,rfl,rfl⟩
  all_goals
   simp [k0,k1',k5,k6,KV,sf,sc,hlf,Kx,ze];exact ⟨out,k1,by omega,hmade,.inr ⟨qt,n,m,by omega,by omega,rfl⟩⟩
 | true =>
  rw [hmm] at KV;rcases hH with ⟨rfl,rfl,rfl,rfl⟩ | ⟨qt,n,m,t,hn,hm,hH⟩
  ·have Kx:0 < most:=h0;by_cases h3:x3 = 0
   ·subst h3;simp [k0,k1',k5,k6,KV,sf,sc,hlf,zl,Kx,c1,c2,c3,c4,qW,hx1i,hxn2,w1,w2,w3,w4,w5,Qd,qI,hq,qbe,zW,qD,zC,hset1];refine ⟨[⟨iq,true,(v:Int)+1+x2,(v:Int)+1+x2+x4,qdC⟩],by simp;omega,by simp;omega,by simpa using Vk,last.set x1 ((v:Int)+1+x2+x4),by simp [zl],hlast1 _ (by omega) (by simp at YL ⊢;omega),k5',.inr ⟨by simp,39,1,_,rfl,rfl,.inl ⟨rfl,rfl,by rw [Xe,qmR]⟩⟩⟩
   ·have h3':¬ (x3:Int) = 0:=(by omega);simp [k0,k1',k5,k6,KV,sf,sc,hlf,zl,Kx,c1,c2,c3,h3,c6,hrz,qW,hx1i,hxn2,w1,w2,w3,Qd,qI,hq,qbe,zW,qD,zC,hset1];refine ⟨[⟨iq,false,0,0,r⟩],by simp;omega,by simp;omega,by simpa using YR,last.set x1 ((v:Int)+1+x2),by simp [zl],hlast1 _ (by omega) (by simp at YL ⊢;omega),k6',.inr ⟨by simp,39,1,_,rfl,rfl,.inl ⟨rfl,rfl,by rw [Xe,qkJ]⟩⟩⟩
  have Kx:m < most:=by omega
  have zj:m * 39 = n:=by omega
  have ze:out.length = m:=hm.symm;have qz:List.take n (qh out) = qh out:=qx (by simp;omega);have zZ:(m+1) * 104≤140737488355328:=by omega
  have zB:m+1≤140737488355328:=by omega
  rcases hH with ⟨rfl,rfl,rfl⟩ | ⟨rfl,rfl,rfl⟩
  all_goals
   by_cases h3:x3 = 0
   ·subst h3;simp [k0,k1',k5,k6,KV,sf,sc,hlf,zl,Kx,zj,ze,zZ,zB,c1,c2,c3,c4,qW,hx1i,hxn2,w1,w2,w3,w4,w5,Qd,qI,hq,qbe,zW,qD,zC,hset1];refine ⟨out ++ [⟨iq,true,(v:Int)+1+x2,(v:Int)+1+x2+x4,qdC⟩],by simp;omega,by simp;omega,fun it h=>?_,last.set x1 ((v:Int)+1+x2+x4),by simp [zl],by simpa using hlast1 _ (by omega) (by simp at YL ⊢;omega),k5',.inr ⟨by simp,n+39,m+1,_,by simp;omega,by simp [ze],.inr ⟨rfl,rfl,by rw [Z0,qmR]⟩⟩⟩;rcases List.mem_append.1 h with h | h
    ·exact hmade it h
    ·rw [List.mem_singleton.1 h];exact Vk
   ·have h3':¬ (x3:Int) = 0:=(by omega);simp [k0,k1',k5,k6,KV,sf,sc,hlf,zl,Kx,zj,ze,zZ,zB,c1,c2,c3,h3,c6,hrz,qW,hx1i,hxn2,w1,w2,w3,Qd,qI,hq,qbe,zW,qD,zC,hset1];refine ⟨out ++ [⟨iq,false,0,0,r⟩],by simp;omega,by simp;omega,fun it h=>?_,last.set x1 ((v:Int)+1+x2),by simp [zl],by simpa using hlast1 _ (by omega) (by simp at YL ⊢;omega),k6',.inr ⟨by simp,n+39,m+1,_,by simp;omega,by simp [ze],.inr ⟨rfl,rfl,by rw [Z0,qkJ]⟩⟩⟩;rcases List.mem_append.1 h with h | h
    ·exact hmade it h
    ·rw [List.mem_singleton.1 h];exact YR
theorem qx1:∀ j < 4,∀ i < j,qy (Ji i).l (Ji j).l < 0:=by decide
structure FewN (i:Nat) (l:List Mk):Prop where
 rises:jg l = true
 ok:∀ m∈l,m.Ok
 id:∀ m∈l,∃ j,j < i∧m.id = Ji j
 len:l.length≤i
theorem qkz:∀ {l:List Mk} {m:Mk},jg l = true→(∀ x∈l,qy x.id.l m.id.l < 0)→jg (l ++ [m]) = true
 | [],_,_,_=>rfl
 | [a],m,_,h=>by simp [jg,h a (QY ..)]
 | a :: b :: l,m,hr,h=>by
  simp only [jg,qT] at hr;have:=qkz (l:=b :: l) hr.2 fun x hx=>h x (kU _ hx);simp only [kt,jg,qT] at this ⊢;exact ⟨hr.1,this⟩
theorem FewN.same {i:Nat} {l:List Mk} (h:FewN i l):FewN (i+1) l :=
 ⟨h.rises,h.ok,fun m hm=>by obtain ⟨j,h1,h2⟩:=h.id m hm;exact ⟨j,by omega,h2⟩,by have:=h.len;omega⟩
theorem FewN.add {i:Nat} {l:List Mk} (h:FewN i l) (hi:i < 4) {a b c:Nat} (ha:a < 1000) (hb:b < 1000) (hc:c < 1000):FewN (i+1) (l ++ [⟨Ji i,a,b,c⟩]):=by
 refine ⟨qkz h.rises fun x hx=>?_,fun m hm=>?_,fun m hm=>?_,by have:=h.len;simp;omega⟩
 ·obtain ⟨j,h1,h2⟩:=h.id x hx;rw [h2];exact qx1 i hi j h1
 ·rcases List.mem_append.1 hm with h' | h'
  ·exact h.ok m h'
  ·rw [List.mem_singleton.1 h'];exact ⟨by simp only [qA];omega,by simp only [qA];omega,by simp only [qA];omega⟩
 ·rcases List.mem_append.1 hm with h' | h'
  ·obtain ⟨j,h1,h2⟩:=h.id m h';exact ⟨j,by omega,h2⟩
  ·rw [List.mem_singleton.1 h'];exact ⟨i,by omega,rfl⟩
def q1l (S:List D) (l:List Mk) (d:D) (H:qi):Prop :=
 (l = []∧d = .vsl true [] 0∧H = [some S])∨(l≠[]∧∃ n k t,n = l.length * 19∧k = l.length∧((d = .osl 2 n 0 k 19∧H = [some S,some t,some (qh l)])∨(d = .osl 1 n 0 k 19∧H = [some S,some (qh l),some t])∨(d = .osl 1 n 0 k 19∧H = [some S,some (qh l)])))
def qoN (nil:Bool) (zs:List Int) (q:D × qi):Prop:= ∃ (l:List Mk) (k':Nat),FewN 4 l∧q = ((.vsl ((⟨l.isEmpty,l,fun h=>by simpa using h⟩:Sl Mk)).nil (qh ((⟨l.isEmpty,l,fun h=>by simpa using h⟩:Sl Mk)).l) ((⟨l.isEmpty,l,fun h=>by simpa using h⟩:Sl Mk)).l.length),[some (jG nil zs k')])
set_option maxHeartbeats 2000000 in
theorem qhH [MaxL] [TxtC] (nil:Bool) (zs:List Int) (qM:nil = true→zs = []) (hz:zs.length≤1000000) (k:Nat) :
  ∃ q,call cx 54 [.optr 0 2 0] [some (jG nil zs k)] = some q∧qoN nil zs q:=by
 refine vH (X:=cx) (f:=54) (args:=[.optr 0 2 0]) (H:=[some (jG nil zs k)]) (qoN nil zs) Tryz.func54 rfl ⟨rfl,rfl⟩ ?_;have sf:=qd2 nil zs;have sl:=qd1 nil zs;have sc:=qd3 nil zs;simp [Tryz.f54];refine Run.loopThen (fun (q:List Mk × Nat × Nat) e H'=>q.2.1≤4∧FewN q.2.1 q.1∧qf e 0 = some (.optr 0 2 0)∧qf e 4 = some (.int .i64 (q.2.1:Nat))∧∃ d,qf e 3 = some d∧q1l (jG nil zs q.2.2) q.1 d H') (fun q=>4 - q.2.1) ([],0,k) ?_ ?_
 ·exact ⟨by simp,⟨rfl,by simp,by simp,by simp⟩,by simp,by simp,_,by simp,.inl ⟨rfl,rfl,rfl⟩⟩
 rintro ⟨l,i,k1⟩ e H' ⟨hi,hf,k0,k4,d,k3,hH⟩;simp only at hi hf k4 hH;have zo:=hf.len;obtain ⟨x,k2,hx,-,c1⟩:=V6 nil zs qM hz k1 2 (by decide) (by decide);obtain ⟨a,k5,ha,-,c2⟩:=V6 nil zs qM hz k2 9 (by decide) (by decide);obtain ⟨b,k6,hb,-,c3⟩:=V6 nil zs qM hz k5 9 (by decide) (by decide);obtain ⟨c,k7,hc,-,c4⟩:=V6 nil zs qM hz k6 9 (by decide) (by decide);have hw:IntKind.i64.wrap ((i:Int)+1) = ((i+1:Nat):Int):=by rw [wrap_i64] <;> omega
 have wa:IntKind.u64.wrap (a:Int) = (a:Int):=by rw [qU];omega
 have wb:IntKind.u64.wrap (b:Int) = (b:Int):=by rw [qU];omega
 have wc:IntKind.u64.wrap (c:Int) = (c:Int):=by rw [qU];omega
 rcases hH with ⟨rfl,rfl,rfl⟩ | ⟨qt,n,m,t,hn,hm,hH⟩
 ·by_cases h4:i < 4
  ·have h4i:(i:Int) < 4:=(by omega);have Qd:=qf7 (j:=i) (by omega);have hadd:=hf.add h4 (a:=a) (b:=b) (c:=c) (by omega) (by omega) (by omega);have hsame:=hf.same;generalize Ji i = q at *;have hq:=q.h;have KU:List.take 16 (qd q.l) = qd q.l:=qx (by simp);by_cases VA:x = 1
   ·subst VA;simp [k0,k3,k4,h4i,c1,c2,c3,c4,Qd,sf,sc,hw,wa,wb,wc,hq,qI,zW,qD,zC];exact ⟨[⟨q,a,b,c⟩],i+1,by omega,by omega,hadd,by simp,k7,.inr ⟨by simp,19,1,_,rfl,rfl,.inl ⟨rfl,by rw [Xe];rfl⟩⟩⟩
   ·have hx1':¬ (x:Int) = 1:=(by omega);simp [k0,k3,k4,h4i,c1,hx1',sf,sc,hw];exact ⟨[],i+1,by omega,by omega,hsame,by simp,k2,.inl ⟨rfl,rfl,rfl⟩⟩
  ·have h4i:¬ (i:Int) < 4:=(by omega);simp [k0,k3,k4,h4i,sc];have hi4:i = 4:=(by omega);subst hi4;exact ⟨[],k1,hf,rfl⟩
 ·have ze:l.length = m:=hm.symm;have zj:m * 19 = n:=by omega
  have qz:List.take n (qh l) = qh l:=qx (by simp;omega);have zZ:(m+1) * 40≤140737488355328:=by omega
  have zB:m+1≤140737488355328:=by omega
  by_cases h4:i < 4
  ·have h4i:(i:Int) < 4:=(by omega);have Qd:=qf7 (j:=i) (by omega);have hadd:=hf.add h4 (a:=a) (b:=b) (c:=c) (by omega) (by omega) (by omega);have hsame:=hf.same;generalize Ji i = q at *;have hq:=q.h;have KU:List.take 16 (qd q.l) = qd q.l:=qx (by simp);rcases hH with ⟨rfl,rfl⟩ | ⟨rfl,rfl⟩ | ⟨rfl,rfl⟩
   all_goals
    by_cases VA:x = 1
    ·subst VA;simp [k0,k3,k4,h4i,c1,c2,c3,c4,Qd,sf,sc,hw,wa,wb,wc,hq,qI,zW,qD,zC,ze,zj,zZ,zB];exact ⟨l ++ [⟨q,a,b,c⟩],i+1,by omega,by omega,hadd,by simp,k7,.inr ⟨by simp,n+19,m+1,_,by simp;omega,by simp [ze],.inr (.inl ⟨rfl,by rw [Z0];rfl⟩)⟩⟩
    ·have hx1':¬ (x:Int) = 1:=(by omega);simp [k0,k3,k4,h4i,c1,hx1',sf,sc,hw];exact ⟨l,i+1,by omega,by omega,hsame,by simp,k2,.inr ⟨qt,n,m,[],hn,hm,.inr (.inr ⟨rfl,rfl⟩)⟩⟩
  ·have h4i:¬ (i:Int) < 4:=(by omega);have XE:l.isEmpty = false:=(by simpa using qt);rcases hH with ⟨rfl,rfl⟩ | ⟨rfl,rfl⟩ | ⟨rfl,rfl⟩
   all_goals
    simp [k0,k3,k4,h4i,sc,ze,zj,qz];have hi4:i = 4:=(by omega);subst hi4;exact ⟨l,k1,hf,by simp [XE,ze]⟩
end Go.Ev.S
