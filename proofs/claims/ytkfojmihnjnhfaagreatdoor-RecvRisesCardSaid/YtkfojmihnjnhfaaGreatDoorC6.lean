import Derived.Test.YtkfojmihnjnhfaaGreatDoorC5
namespace Go.Ev
open Go Go.Proofs
mutual
theorem ql3:∀ (d:D),idFree d = true→noZ d = true
 | .agg cs,h=>by simp only [idFree] at h;simp only [noZ];exact qbY cs h
 | .tup cs,h=>by simp only [idFree] at h;simp only [noZ];exact qbY cs h
 | .fn _ cs,h=>by simp only [idFree] at h;simp only [noZ];exact qbY cs h
 | .iface _ d,h=>by simp only [idFree] at h;simp only [noZ];exact ql3 d h
 | .optr ..,h=>by simp [idFree] at h
 | .osl ..,h=>by simp [idFree] at h
 | .bool _,_=>rfl
 | .int _ _,_=>rfl
 | .str _,_=>rfl
 | .nilp,_=>rfl
 | .nilf,_=>rfl
 | .nili,_=>rfl
 | .vptr _,_=>rfl
 | .vsl ..,_=>rfl
 | .raw _,_=>rfl
theorem qbY:∀ (l:List D),idFree.idFreeL l = true→noZ.noZL l = true
 | [],_=>rfl
 | d :: l,h=>by
  simp only [idFree.idFreeL,qR] at h;simp only [noZ.noZL,ql3 d h.1,qbY l h.2,Bool.and_self]
end
@[simp] theorem q4i (a b:List D):noZ.noZL (a ++ b) = (noZ.noZL a && noZ.noZL b):=by
 induction a with
 | nil=>simp [noZ.noZL]
 | cons d l ih=>simp [noZ.noZL,ih,Bool.and_assoc]
@[simp] theorem q4f (l:List UInt8):noZ.noZL (qd l) = true:=qbY _ (by simp)
@[simp] theorem q4h {α:Type} [Enc α] (a:α):noZ.noZL (Enc.cells a) = true:=qbY _ (qiJ a)
@[simp] theorem q4g {α:Type} [Enc α] (l:List α):noZ.noZL (qg l) = true:=qbY _ (qi6 l)
end Go.Ev
namespace Go.Ev.S
open Go Go.Proofs Go.Ev
theorem qoC:∀ (l:List UInt8) (n:Nat),(∃ k:Nat,zU l n = ((n+k:Nat):Int)∧∃ h:k < l.length,(l[k] = 61∨l[k] = 10)∧∀ j (hj:j < k),l[j]≠61∧l[j]≠10)∨zU l n = -1
 | [],n=>.inr rfl
 | b :: l,n=>by
  by_cases hb:b = 61∨b = 10
  ·exact .inl ⟨0,by rw [zU,if_pos hb];simp,by simp,hb,fun j hj=>by omega⟩
  ·rw [zU,if_neg hb];rcases qoC l (n+1) with ⟨k,h1,h2,h3,h4⟩ | h
   ·refine .inl ⟨k+1,by rw [h1];congr 1;omega,by simpa using h2,by simpa using h3,fun j hj=>?_⟩;cases j with
    | zero=>exact ⟨fun e=>hb (.inl e),fun e=>hb (.inr e)⟩
    | succ j=>exact h4 j (by omega)
   ·exact .inr h
def Ql (b:List UInt8):Option (Pr × List UInt8) :=
 if zU b 0 < 1 then none
 else if b.getD (zU b 0).toNat 0 = 61 then some (⟨b.take (zU b 0).toNat,jW (b.drop ((zU b 0).toNat+1))⟩,zH (b.drop ((zU b 0).toNat+1)))
 else match Q6 (b.drop ((zU b 0).toNat+1)) 0 8 with
  | none=>none
  | some n=>if 256 < n∨(b.drop ((zU b 0).toNat+1)).length < 9+n then none
   else some (⟨b.take (zU b 0).toNat,((b.drop ((zU b 0).toNat+1)).drop 8).take n⟩,(b.drop ((zU b 0).toNat+1)).drop (9+n))
theorem qug (l:List UInt8) (n:Nat) (h:Q6 l 0 8 = some n):n < 18446744073709551616∧8≤l.length:=by
 unfold Q6 at h;split at h
 ·rename_i hc;injection h with h;refine ⟨?_,by omega⟩;rw [← h];have:=Xz ((l.drop (0:Int).toNat).take (8:Int).toNat);refine jM this ?_;have hl:((l.drop (0:Int).toNat).take (8:Int).toNat).length≤8:=by simp;omega
  exact kn (Y2 (by decide) hl) (by decide)
 ·cases h
set_option maxHeartbeats 4000000 in
set_option maxRecDepth 8000 in
theorem qtR [MaxL] (s:Sl UInt8) (hs:s.l.length < 1000000):∃ r:Sl UInt8,(∀ p b,Ql s.l = some (p,b)→r.l = b) ∧
  call cx 172 [.optr 0 1 0] [some [(.vsl s.nil (qd s.l) s.l.length)]] = some (.tup [.agg (match Ql s.l with | some (p,_)=>[.str p.name,.str p.value] | none=>[.str [],.str []]),.bool (Ql s.l).isSome],[some [(.vsl r.nil (qd r.l) r.l.length)]]):=by
 have ha:=q0O s hs;rcases qoC s.l 0 with ⟨k,h1,h2,h3,-⟩ | h1
 ·rw [vT] at h1;rw [h1] at ha;cases k with
  | zero =>
   have hP:Ql s.l = none:=(by unfold Ql;rw [h1,if_pos (by decide)]);rw [hP];refine ⟨s,fun p b h=>(by cases h),?_⟩;have ha0:call cx 200 [(.vsl s.nil (qd s.l) s.l.length),.str [61,10]] [] = some (.int .i64 0,[]):=ha;refine qq Tryz.func172 rfl ⟨rfl,rfl⟩ ?_;simp [Tryz.f172,ha0]
  | succ m =>
   obtain ⟨k,hk⟩:∃ k,k = m+1:=⟨_,rfl⟩;rw [← hk] at h1 ha h2;have hk1:1≤k:=(by omega);have h3':s.l[k] = 61∨s.l[k] = 10:=(by subst hk;exact h3);clear h3;have zh:¬ (k:Int) < 1:=(by omega);have hnn:s.nil = false:=Sl.nn h2;rw [hnn] at ha;have qU:=jo h2;have hgd:s.l.getD k 0 = s.l[k]:=(by rw [List.getD,zg h2];rfl);have qK:IntKind.i64.wrap ((k:Int)+1) = ((k+1:Nat):Int):=(by rw [wrap_i64] <;> omega);have t1:List.take k (qd s.l) = qd (s.l.take k):=kr _ _;have t1l:(s.l.take k).length = k:=(by simp;omega);have t1b:ky (qd (s.l.take k)) = some (s.l.take k):=Yy _;have t1t:List.take k (qd (s.l.take k)) = qd (s.l.take k):=qu (by simp;omega);obtain ⟨R,hR⟩:∃ R:Sl UInt8,R = ⟨false,s.l.drop (k+1),fun e=>by cases e⟩:=⟨_,rfl⟩;have Vs:R.l = s.l.drop (k+1):=(by rw [hR]);have hRn:R.nil = false:=(by rw [hR]);have hRlen:R.l.length = s.l.length - (k+1):=by rw [Vs];simp
   have t2:List.take (s.l.length - (k+1)) (List.drop (k+1) (qd s.l)) = qd R.l:=by
    rw [Zb,← Vs];exact qu (by simp [hRlen])
   have g1:k≤s.l.length:=(by omega);have g1':(k:Int)≤(s.l.length:Int):=(by omega);have g0':(k:Int) < (s.l.length:Int):=(by omega);have g2:k+1≤s.l.length:=(by omega);have g2':((k+1:Nat):Int)≤(s.l.length:Int):=(by omega);obtain ⟨j,hj⟩:∃ j,j = k+1:=⟨_,rfl⟩;have g3:((s.l.length:Int) - (j:Int)).toNat = s.l.length - j:=(by omega);have Zi:=qdT R (by omega) [] (by decide);obtain ⟨r,QN,zQ⟩:=Zi;have htr:ve [] (jW R.l) = jW R.l:=(by unfold ve;simp);rw [htr] at zQ;have v7:=qcI R 0 8 ⟨by decide,by decide⟩ (by omega)
   have hP:Ql s.l = if s.l[k] = 61 then some (⟨s.l.take k,jW R.l⟩,zH R.l) else match Q6 R.l 0 8 with
     | none=>none
     | some n=>if 256 < n∨R.l.length < 9+n then none else some (⟨s.l.take k,(R.l.drop 8).take n⟩,R.l.drop (9+n)):=by
    unfold Ql;have hkn':((k:Int)).toNat = k:=(by omega);rw [h1,if_neg zh,hkn',hgd,← Vs]
   rw [hP];have hc10:s.l[k]≠61→s.l[k] = 10:=fun h=>h3'.resolve_left h;rw [hRn] at zQ v7;rw [← hRlen] at t2;generalize s.l[k] = c at *;have hsl:s.l.length - (k+1) = R.l.length:=hRlen.symm;rw [← hj] at qK t2 g2 g2' hsl;by_cases hc:c = 61
   ·rw [if_pos hc];subst hc;refine ⟨r,fun p b h=>(by injection h with h;injection h with _ h;rw [← h];exact QN),?_⟩;clear v7 hP hc10 h3';refine qq Tryz.func172 rfl ⟨rfl,rfl⟩ ?_;simp [Tryz.f172,ha,zh,hnn,qU,qK,t1,t1l,t1b,t2,g0',g1',g2',hsl,zQ]
   ·rw [if_neg hc];have kJ:=hc10 hc;subst kJ;clear QN zQ htr hP hc10 h3' hc;cases hg:Q6 R.l 0 8 with
    | none =>
     rw [hg] at v7;simp only [KM,Option.getD_none,Option.isSome_none] at v7;refine ⟨R,fun p b h=>(by cases h),?_⟩;rw [hRn];refine qq Tryz.func172 rfl ⟨rfl,rfl⟩ ?_;simp [Tryz.f172,ha,zh,hnn,qU,qK,t1,t1l,t1b,t2,g0',g1',g2',hsl,v7]
    | some n =>
     obtain ⟨hn64,hR8⟩:=qug _ _ hg;rw [hg] at v7;simp only [KM,Ju,Option.isSome_some] at v7;by_cases hbig:256 < n
     ·have Qd:(256:Int) < (n:Int):=(by omega);refine ⟨R,fun p b h=>(by simp only [hbig,true_or,if_true] at h;cases h),?_⟩;rw [hRn];simp only [hbig,true_or,if_true];refine qq Tryz.func172 rfl ⟨rfl,rfl⟩ ?_;simp [Tryz.f172,ha,zh,hnn,qU,qK,t1,t1l,t1b,t2,g0',g1',g2',hsl,v7,Qd]
     ·have Qd:¬ (256:Int) < (n:Int):=(by omega);have QM:IntKind.i64.wrap (n:Int) = (n:Int):=(by rw [wrap_i64] <;> omega);have hwn9:IntKind.i64.wrap (9+(n:Int)) = 9+(n:Int):=(by rw [wrap_i64] <;> omega);by_cases zW:R.l.length < 9+n
      ·have YL:(R.l.length:Int) < 9+(n:Int):=(by omega);refine ⟨R,fun p b h=>(by simp only [zW,or_true,if_true] at h;cases h),?_⟩;rw [hRn];simp only [zW,or_true,if_true];refine qq Tryz.func172 rfl ⟨rfl,rfl⟩ ?_;simp [Tryz.f172,ha,zh,hnn,qU,qK,t1,t1l,t1b,t2,g0',g1',g2',hsl,v7,Qd,QM,hwn9,YL]
      ·have YL:¬ (R.l.length:Int) < 9+(n:Int):=(by omega);have zR:¬ (256 < n∨R.l.length < 9+n):=(by omega);simp only [zR,if_false];obtain ⟨V,hV⟩:∃ V,V = (R.l.drop 8).take n:=⟨_,rfl⟩;have hVl:V.length = n:=(by rw [hV];simp;omega);obtain ⟨q,hq⟩:∃ q,q = 9+n:=⟨_,rfl⟩;obtain ⟨q8,hq8⟩:∃ q,q = 8+n:=⟨_,rfl⟩;have w8:IntKind.u64.wrap (8+(n:Int)) = (q8:Int):=(by rw [qS] <;> omega);have w9:IntKind.u64.wrap (q:Int) = (q:Int):=(by rw [qS] <;> omega);have hq9:9+(n:Int) = (q:Int):=(by omega);have e8:((q8:Int) - 8).toNat = n:=(by omega);have eq9:((R.l.length:Int) - (q:Int)).toNat = R.l.length - q:=(by omega);have b1:(q8:Int)≤(R.l.length:Int):=(by omega);have b2:(8:Int)≤(q8:Int):=(by omega);have b3:(q:Int)≤(R.l.length:Int):=(by omega);have b4:q8≤R.l.length:=(by omega);have b5:8≤q8:=(by omega);have b6:q≤R.l.length:=(by omega);have b7:q8 - 8 = n:=(by omega);have tv:List.take n (List.drop 8 (qd R.l)) = qd V:=(by rw [Zb,kr,← hV]);have tvb:ky (qd V) = some V:=Yy _;have tvt:List.take n (qd V) = qd V:=qu (by simp;omega);obtain ⟨Q,hQ⟩:∃ Q:Sl UInt8,Q = ⟨false,R.l.drop q,fun e=>by cases e⟩:=⟨_,rfl⟩;have hQl:Q.l = R.l.drop q:=(by rw [hQ]);have hQn:Q.nil = false:=(by rw [hQ]);have hQlen:R.l.length - q = Q.l.length:=by rw [hQl];simp
       have tq:List.take (R.l.length - q) (List.drop q (qd R.l)) = qd Q.l:=by
        rw [Zb,← hQl];exact qu (by simp [hQlen])
       rw [hQlen] at tq;refine ⟨Q,fun p b h=>(by injection h with h;injection h with _ h;rw [← h,hQl,hq]),?_⟩;rw [hQn];rw [hq9] at YL hwn9;rw [← hV];clear hg hV hQl hQ hR Vs zW;refine qq Tryz.func172 rfl ⟨rfl,rfl⟩ ?_;simp [Tryz.f172,ha,zh,hnn,qU,qK,t1,t1l,t1b,t2,g0',g1',g2',hsl,v7,Qd,QM,hq9,hwn9,YL,w8,w9,b1,b2,b3,b7,tv,tvb,tq,hVl,hQlen]
 ·have hP:Ql s.l = none:=by unfold Ql;rw [h1,if_pos (by decide)]
  rw [hP];refine ⟨s,fun p b h=>(by cases h),?_⟩;rw [h1] at ha;refine qq Tryz.func172 rfl ⟨rfl,rfl⟩ ?_;simp [Tryz.f172,ha]
def Rec.zero:Rec:=⟨0,0,0,ID.zero,.none⟩
def qby (b:List UInt8):It:=⟨Qo jS (zH b),true,((pu 10 (jL [45] (ve jO (jW b))).1).getD 0:Nat),((pu 10 (jL [45] (ve jO (jW b))).2.1).getD 0:Nat),Rec.zero⟩
theorem qkR [MaxL] (s:List UInt8) (hs:s.length≤1000000) :
  (∃ v:Nat,(pu 10 s).getD 0 = v∧call cx 128 [.str s,.int .i64 10,.int .i64 64] [] = some (.tup [.int .u64 v,.nili],[])) ∨
  ((pu 10 s).getD 0 = 0∧∃ (x:Nat) (d:List D),call cx 128 [.str s,.int .i64 10,.int .i64 64] [] = some (.tup [.int .u64 x,.iface 232 (.vptr d)],[])):=by
 rcases qhs 10 (.inl rfl) s (by omega) with ⟨v,e1,e2⟩ | ⟨e1,x,d,e2⟩
 ·exact .inl ⟨v,by rw [e1];rfl,e2⟩
 ·exact .inr ⟨by rw [e1];rfl,x,d,e2⟩
set_option maxHeartbeats 4000000 in
set_option maxRecDepth 8000 in
theorem qyf [MaxL] (s:Sl UInt8) (hs:s.l.length < 1000000):∃ r:Sl UInt8,call cx 146 [.optr 0 1 0] [some [(.vsl s.nil (qd s.l) s.l.length)]] = some (.agg (Enc.cells (qby s.l)),[some [(.vsl r.nil (qd r.l) r.l.length)]]):=by
 obtain ⟨r1,QN,zT⟩:=qdT s hs jO (by decide);have Zi:=qdR s.l;have hlr:=Vc s.l;have jq:=qeL jO (jW s.l);obtain ⟨r2,zQ,jr⟩:=qid r1 (by rw [QN];omega) jS (by decide);have j9:=qel [45] (ve jO (jW s.l));have hct:=qnU (ve jO (jW s.l)) [45] (by omega) (by decide);have p1:=qkR (jL [45] (ve jO (jW s.l))).1 (by omega);have p2:=qkR (jL [45] (ve jO (jW s.l))).2.1 (by omega);refine ⟨r2,?_⟩;rw [It.cells];unfold qby;simp only;rw [← QN];generalize Qo jS r1.l = q at *;generalize (jL [45] (ve jO (jW s.l))).2.2 = f at *;generalize (jL [45] (ve jO (jW s.l))).2.1 = y at *;generalize (jL [45] (ve jO (jW s.l))).1 = x at *;generalize ve jO (jW s.l) = t at *;have hq:=q.h;have KT:List.take 16 (qd q.l) = qd q.l:=qu (by simp);have qbb:List.take 39 (qd q.l) = qd q.l:=qu (by simp);have z16:qd ID.zero.l = [.int .u8 0,.int .u8 0,.int .u8 0,.int .u8 0,.int .u8 0,.int .u8 0,.int .u8 0,.int .u8 0,.int .u8 0,.int .u8 0,.int .u8 0,.int .u8 0,.int .u8 0,.int .u8 0,.int .u8 0,.int .u8 0]:=rfl;clear hlr jq Zi j9;simp only [jO,jS] at zT jr;refine qq Tryz.func146 rfl ⟨rfl,rfl⟩ ?_;rcases p1 with ⟨v1,e1,c1⟩ | ⟨e1,x1,d1,c1⟩ <;> rcases p2 with ⟨v2,e2,c2⟩ | ⟨e2,x2,d2,c2⟩ <;> rw [e1,e2] <;> clear e1 e2
 all_goals
  simp [Tryz.f146,zT,hct];refine Xn ?_;simp [c1];refine Xn ?_;simp [c2];refine Xn ?_;simp [jr,qbb,hq,z16,Rec.zero,zV]
def QU:Nat→List UInt8→List Pr
 | 0,_=>[]
 | n+1,b=>match Ql b with
  | none=>[]
  | some (p,r)=>p :: QU n r
def Zn (l:List Pr):Sl Pr:=⟨l.isEmpty,l,fun h=>by simpa using h⟩
def qbz (b:List UInt8):It:=⟨Qo jS (zH (zH (zH (zH b)))),false,0,0,⟨(Qm JD (zH (zH (zH b))):Nat),(Qm JE (zH b):Nat),(Qm JF (zH (zH b)):Nat),Qo Z7 (zH (zH (zH (zH (zH b))))),Zn (QU 17 (zH (zH (zH (zH (zH (zH b)))))))⟩⟩
theorem qh1 {b:List UInt8} {p:Pr} {r:List UInt8} (h:Ql b = some (p,r)):r.length≤b.length:=by
 unfold Ql at h;split at h
 ·cases h
 ·split at h
  ·injection h with h;injection h with _ h;rw [← h];exact kn (Vc _) (by simp)
  ·split at h
   ·cases h
   ·split at h
    ·cases h
    ·injection h with h;injection h with _ h;rw [← h];simp
def Xa (q:ID) (sq rl mn:Nat) (bt:ID):List D:=qd q.l ++ ([.bool false,.int .u64 0,.int .u64 0,.int .u64 sq,.int .u64 rl,.int .u64 mn] ++ qd bt.l)
theorem qn5 (q:ID) (sq rl mn:Nat) (bt:ID):(Xa q sq rl mn bt).length = 38:=by
 simp [Xa,q.h,bt.h]
theorem qn6 (q:ID) (sq rl mn:Nat) (bt:ID):idFree.idFreeL (Xa q sq rl mn bt) = true:=by
 simp [Xa,idFree]
def q1s (X:List D) (Z:Option (List D)) (fs:List Pr) (r:Sl UInt8) (H:qi):Prop :=
 (fs = []∧H = [some [(.vsl r.nil (qd r.l) r.l.length)],Z,some (X ++ [.vsl true [] 0])]) ∨
 (fs≠[]∧∃ (n k:Nat) (t u:Pr),n = fs.length * 2∧k = fs.length∧(H = [some [(.vsl r.nil (qd r.l) r.l.length)],Z,some (X ++ [.osl 5 n 0 k 2]),some [.str t.name,.str t.value],some [.str u.name,.str u.value],some (qg fs)] ∨
  ∃ v w:Pr,H = [some [(.vsl r.nil (qd r.l) r.l.length)],Z,some (X ++ [.osl 5 n 0 k 2]),some [.str t.name,.str t.value],some [.str u.name,.str u.value],some (qg fs),some [.str v.name,.str v.value],some [.str w.name,.str w.value]]))
theorem qpU {X:List D} (hX:idFree.idFreeL X = true) {fs:List Pr} {i n k:Nat} (hn:fs.length * 2 = n) (hk:fs.length = k) {H:qi} (hg:(H[i]?).getD none = some (qg fs)):jy H 9 (.agg (X ++ [.osl i n 0 k 2])) = some (.agg (X ++ [.vsl false (qg fs) k]),[i]):=by
 have h8:jy H 8 (.osl i n 0 k 2) = some (.vsl false (qg fs) k,[i]):=by
  rw [jy,if_neg (by simp [idFree])];have hl:(qg fs).length = n:=by simp [hn]
  have h0:0+k * 2≤n:=by omega
  simp only [qo,hg];rw [if_pos ⟨hl,h0⟩,if_pos (by simp),List.drop_zero,qu (by simp;omega)]
 rw [jy,if_neg (by simp [idFree])];simp only [qeR,qjE hX,vv,h8];rfl
set_option maxHeartbeats 4000000 in
set_option maxRecDepth 8000 in
theorem qyQ [MaxL] (s:Sl UInt8) (hs:s.l.length < 1000000):∃ q,call cx 147 [.optr 0 1 0] [some [(.vsl s.nil (qd s.l) s.l.length)]] = some q∧∃ r:Sl UInt8,q = (.agg (Enc.cells (qbz s.l)),[some [(.vsl r.nil (qd r.l) r.l.length)]]):=by
 obtain ⟨r1,QN,zT⟩:=qdT s hs KP (by decide);have n0:=Vc s.l;obtain ⟨r2,zQ,jr⟩:=qh9 r1 (by rw [QN];omega) JE (by decide);have n1:=Vc r1.l;rw [← QN] at n0;obtain ⟨r3,hr3,zj⟩:=qh9 r2 (by rw [zQ];omega) JF (by decide);have n2:=Vc r2.l;rw [← zQ] at n1;obtain ⟨r4,hr4,zN⟩:=qh9 r3 (by rw [hr3];omega) JD (by decide);have n3:=Vc r3.l;rw [← hr3] at n2;obtain ⟨r5,hr5,hl5⟩:=qid r4 (by rw [hr4];omega) jS (by decide);have n4:=Vc r4.l;rw [← hr4] at n3;obtain ⟨r6,hr6,hl6⟩:=qid r5 (by rw [hr5];omega) Z7 (by decide);have n5:=Vc r5.l;rw [← hr5] at n4;rw [← hr6] at n5
 have hE:Enc.cells (qbz s.l) = Xa (Qo jS r4.l) (Qm JD r3.l) (Qm JE r1.l) (Qm JF r2.l) (Qo Z7 r5.l) ++ [(.vsl (Zn (QU 17 r6.l)).nil (qg (Zn (QU 17 r6.l)).l) (Zn (QU 17 r6.l)).l.length)]:=by
  rw [It.cells];unfold qbz Xa;simp only;rw [← QN,← zQ,← hr3,← hr4,← hr5,← hr6];simp
 rw [hE];have hr6':r6.l.length < 1000000:=by omega
 clear hE n0 n1 n2 n3 n4 n5 QN zQ hr3 hr4 hr5 hr6;have jA:=qn5 (Qo jS r4.l) (Qm JD r3.l) (Qm JE r1.l) (Qm JF r2.l) (Qo Z7 r5.l);have JL:=qn6 (Qo jS r4.l) (Qm JD r3.l) (Qm JE r1.l) (Qm JF r2.l) (Qo Z7 r5.l);obtain ⟨X,hX⟩:∃ X,X = Xa (Qo jS r4.l) (Qm JD r3.l) (Qm JE r1.l) (Qm JF r2.l) (Qo Z7 r5.l):=⟨_,rfl⟩;rw [← hX] at jA JL ⊢;unfold Xa at hX;obtain ⟨F,hF⟩:∃ F,F = QU 17 r6.l:=⟨_,rfl⟩;rw [← hF];have hq:=(Qo jS r4.l).h;have hb:=(Qo Z7 r5.l).h;generalize Qo jS r4.l = q at *;generalize Qo Z7 r5.l = bt at *;generalize Qm JD r3.l = sq at *;generalize Qm JE r1.l = rl at *;generalize Qm JF r2.l = mn at *;have KT:List.take 16 (qd q.l) = qd q.l:=qu (by simp);have hb16:List.take 16 (qd bt.l) = qd bt.l:=qu (by simp);simp only [KP,JE,JF,JD,jS,Z7] at zT jr zj zN hl5 hl6;have hXd:List.drop 38 X = []:=zZ (by omega);have KY:List.drop 39 X = []:=zZ (by omega);have hXt:List.take 38 X = X:=qu (by omega);have qbs:List.take 39 X = X:=qu (by omega)
 have kK:∀ n,(∀ x,x∈X→closed n x = true) = True:=fun n=>eq_true (by
  have:=Vx n X JL;rw [qb2] at this;exact List.all_eq_true.1 this)
 refine vB (X:=cx) (f:=147) (args:=[.optr 0 1 0]) (H:=[some [(.vsl s.nil (qd s.l) s.l.length)]]) (fun q=>∃ r:Sl UInt8,q = (.agg (X ++ [(.vsl (Zn F).nil (qg (Zn F).l) (Zn F).l.length)]),[some [(.vsl r.nil (qd r.l) r.l.length)]])) Tryz.func147 rfl ⟨rfl,rfl⟩ ?_;simp [Tryz.f147,zT,jr,zj,zN,hl5,hl6,hq,hb,zV,qA,zA];have hZf:idFree.idFreeL [D.int .u8 0,D.int .u8 0,D.int .u8 0,D.int .u8 0,D.int .u8 0,D.int .u8 0,D.int .u8 0,D.int .u8 0,D.int .u8 0,D.int .u8 0,D.int .u8 0,D.int .u8 0,D.int .u8 0,D.int .u8 0,D.int .u8 0,D.int .u8 0,D.bool false,D.int .u64 0,D.int .u64 0,D.int .u64 0,D.int .u64 0,D.int .u64 0,D.int .u8 0,D.int .u8 0,D.int .u8 0,D.int .u8 0,D.int .u8 0,D.int .u8 0,D.int .u8 0,D.int .u8 0,D.int .u8 0,D.int .u8 0,D.int .u8 0,D.int .u8 0,D.int .u8 0,D.int .u8 0,D.int .u8 0,D.int .u8 0,D.vsl true [] 0] = true:=rfl;have hZl:[D.int .u8 0,D.int .u8 0,D.int .u8 0,D.int .u8 0,D.int .u8 0,D.int .u8 0,D.int .u8 0,D.int .u8 0,D.int .u8 0,D.int .u8 0,D.int .u8 0,D.int .u8 0,D.int .u8 0,D.int .u8 0,D.int .u8 0,D.int .u8 0,D.bool false,D.int .u64 0,D.int .u64 0,D.int .u64 0,D.int .u64 0,D.int .u64 0,D.int .u8 0,D.int .u8 0,D.int .u8 0,D.int .u8 0,D.int .u8 0,D.int .u8 0,D.int .u8 0,D.int .u8 0,D.int .u8 0,D.int .u8 0,D.int .u8 0,D.int .u8 0,D.int .u8 0,D.int .u8 0,D.int .u8 0,D.int .u8 0,D.vsl true [] 0].length = 39:=rfl;generalize [D.int .u8 0,D.int .u8 0,D.int .u8 0,D.int .u8 0,D.int .u8 0,D.int .u8 0,D.int .u8 0,D.int .u8 0,D.int .u8 0,D.int .u8 0,D.int .u8 0,D.int .u8 0,D.int .u8 0,D.int .u8 0,D.int .u8 0,D.int .u8 0,D.bool false,D.int .u64 0,D.int .u64 0,D.int .u64 0,D.int .u64 0,D.int .u64 0,D.int .u8 0,D.int .u8 0,D.int .u8 0,D.int .u8 0,D.int .u8 0,D.int .u8 0,D.int .u8 0,D.int .u8 0,D.int .u8 0,D.int .u8 0,D.int .u8 0,D.int .u8 0,D.int .u8 0,D.int .u8 0,D.int .u8 0,D.int .u8 0,D.vsl true [] 0] = Z at *
 have hZc:∀ n,(∀ x,x∈Z→closed n x = true) = True:=fun n=>eq_true (by
  have:=Vx n Z hZf;rw [qb2] at this;exact List.all_eq_true.1 this)
 have hZd:List.drop 39 Z = []:=zZ (by omega);refine Run.loopThen (fun (q:List Pr × Sl UInt8) e H'=>q.1.length≤17∧q.2.l.length < 1000000∧q.1 ++ QU (17 - q.1.length) q.2.l = F∧q1s X (some Z) q.1 q.2 H'∧qf e 0 = some (.optr 0 1 0)∧qf e 2 = some (.optr 1 39 0)∧qf e 3 = some (.optr 2 39 0)∧qf e 4 = some (.optr 2 39 19)) (fun q=>17 - q.1.length) ([],r6) ?_ ?_
 ·refine ⟨by simp,hr6',by rw [hF];rfl,.inl ⟨rfl,?_⟩,by simp,by simp,by simp,by simp⟩;rw [hX];simp
 rintro ⟨fs,r⟩ e H' ⟨hk,hrl,ZJ,hH,k0,k2,k3,k4⟩;simp only at hk hrl ZJ hH;clear hX hF zT jr zj zN hl5 hl6 hr6';have jH:=Vc r.l;obtain ⟨r',hr',hp⟩:=qtR r hrl;rcases hH with ⟨rfl,rfl⟩ | ⟨qr,n,k,t,u,hn,hk2,hH⟩
 ·simp only [ZU,zb,Nat.sub_zero,QU] at ZJ;cases X5:Ql r.l with
  | none =>
   rw [X5] at hp ZJ;simp only [Option.isSome_none] at hp ZJ;subst ZJ;simp [k0,k2,k3,k4,hp,jA,qbs,kK,JL,hZl,hZd,zV,qA,Zn];exact ⟨r',rfl,rfl,rfl⟩
  | some pr =>
   obtain ⟨p,b⟩:=pr;rw [X5] at hp ZJ;simp only [Option.isSome_some] at hp ZJ;have hrb:=hr' p b X5;have Zk:=qh1 X5;simp [k0,k2,k3,k4,hp,jA,KY,qA,qF];exact ⟨[p],by simp,by simp,r',by rw [hrb];omega,by rw [hrb];exact ZJ,.inr ⟨by simp,2,1,p,p,rfl,rfl,.inl rfl⟩⟩
 ·have hk17:(k:Int)≤16↔k≤16:=by omega
  have qZ:fs.length = k:=hk2.symm;have zh:k * 2 = n:=by omega
  have zX:(k+1) * 32≤140737488355328:=by omega
  have zx:k+1≤140737488355328:=by omega
  have XA:fs.isEmpty = false:=by simpa using qr
  have qw:List.take n (qg fs) = qg fs:=qu (by simp;omega);have hst:=fun {i:Nat} {H:qi}=>qpU JL (fs:=fs) (i:=i) (n:=n) (k:=k) hn.symm qZ (H:=H);by_cases hle:k≤16
  ·have jz:(k:Int)≤16:=(by omega);have hfu:17 - fs.length = (16 - fs.length)+1:=(by omega);rw [hfu,QU] at ZJ;cases X5:Ql r.l with
   | none =>
    rw [X5] at hp ZJ;simp only [Option.isSome_none,Z2] at hp ZJ;subst ZJ;rcases hH with rfl | ⟨v,w,rfl⟩
    ·simp [-jy,k0,k2,k3,k4,jz,hp,hst,qZ,jA,qbs,kK,JL,hZl,hZd,zV,qA,Zn,XA];exact ⟨r',rfl,rfl,rfl⟩
    ·simp [-jy,k0,k2,k3,k4,jz,hp,hst,qZ,jA,qbs,kK,JL,hZl,hZc,hZd,zV,qA,Zn,XA];exact ⟨r',rfl,rfl,rfl⟩
   | some pr =>
    obtain ⟨p,b⟩:=pr;rw [X5] at hp ZJ;simp only [Option.isSome_some] at hp ZJ;have hrb:=hr' p b X5;have Zk:=qh1 X5;rcases hH with rfl | ⟨v,w,rfl⟩
    ·simp [k0,k2,k3,k4,jz,hp,qZ,zh,zX,zx,jA,KY,qA,qF];refine ⟨fs ++ [p],by simp;omega,by simp [qZ];omega,r',by rw [hrb];omega,?_,.inr ⟨by simp,n+2,k+1,t,u,by simp;omega,by simp;omega,.inr ⟨p,p,by rw [Z0];rfl⟩⟩⟩;rw [← ZJ,hrb,ko];have e1:17 - (fs ++ [p]).length = 16 - fs.length:=(by simp);rw [e1];rfl
    ·simp [k0,k2,k3,k4,jz,hp,qZ,zh,zX,zx,jA,KY,kK,hZc,qA,qF];refine ⟨fs ++ [p],by simp;omega,by simp [qZ];omega,r',by rw [hrb];omega,?_,.inr ⟨by simp,n+2,k+1,t,u,by simp;omega,by simp;omega,.inr ⟨p,p,by rw [Z0];rfl⟩⟩⟩;rw [← ZJ,hrb,ko];have e1:17 - (fs ++ [p]).length = 16 - fs.length:=(by simp);rw [e1];rfl
  ·have jz:¬ (k:Int)≤16:=(by omega);have hfu:17 - fs.length = 0:=(by omega);rw [hfu,QU,Z2] at ZJ;subst ZJ;rcases hH with rfl | ⟨v,w,rfl⟩
   ·simp [-jy,k0,k2,k3,k4,jz,hst,qZ,jA,qbs,kK,JL,hZl,hZd,zV,qA,Zn,XA];exact ⟨r,rfl,rfl,rfl⟩
   ·simp [-jy,k0,k2,k3,k4,jz,hst,qZ,jA,qbs,kK,JL,hZl,hZc,hZd,zV,qA,Zn,XA];exact ⟨r,rfl,rfl,rfl⟩
theorem q00 [MaxL] (a b:Sl UInt8) (_:a.l.length < 1000000) (_:b.l.length < 1000000):call cx 122 [(.vsl a.nil (qd a.l) a.l.length),(.vsl b.nil (qd b.l) b.l.length)] [] = some (.bool (a.l == b.l),[]):=by
 have t1:List.take a.l.length (qd a.l) = qd a.l:=qu (by simp);have t2:List.take b.l.length (qd b.l) = qd b.l:=qu (by simp);refine qq Tryz.func122 rfl ⟨rfl,rfl⟩ ?_;simp [Tryz.f122]
theorem qgt [MaxL] (s:Sl UInt8) (p:List UInt8) (hs:s.l.length < 1000000) (hp:p.length < 1000000) (h1:1≤p.length):call cx 108 [(.vsl s.nil (qd s.l) s.l.length),.vsl false (qd p) p.length] [] = some (.bool (pre p s.l),[]):=by
 unfold pre;refine qq Tryz.func108 rfl ⟨rfl,rfl⟩ ?_;by_cases hle:p.length≤s.l.length
 ·have jz:(p.length:Int)≤(s.l.length:Int):=by omega
  have hnn:s.nil = false:=Sl.nn (i:=0) (by omega);have he:=q00 (.of (s.l.take p.length)) (.of p) (by simp;omega) hp;simp only [Sl.of_l,Sl.of_nil] at he;have t1:List.take p.length (qd s.l) = qd (s.l.take p.length):=kr _ _;have l1:(s.l.take p.length).length = p.length:=by simp;omega
  rw [l1] at he;simp [Tryz.f108,jz,hnn,t1,he]
 ·have jz:¬ (p.length:Int)≤(s.l.length:Int):=by omega
  have qr:(s.l.take p.length == p) = false:=by
   refine beq_eq_false_iff_ne.2 fun e=>?_;have:=congrArg List.length e;simp at this;omega
  rw [qr];simp [Tryz.f108,jz]
def It.zero:It:=⟨ID.zero,false,0,0,Rec.zero⟩
theorem qhr {s:List UInt8}:(pu 10 s).getD 0 < 18446744073709551616:=by
 cases h:pu 10 s with
 | none=>decide
 | some v =>
  unfold pu at h;split at h
  ·cases h
  ·exact qcC 10 _ _ _ (by decide) h
theorem qh8 (p b:List UInt8):qy (Qm p b:Nat):=by
 have:Qm p b < 18446744073709551616:=qhr;unfold qy;omega
theorem Y4:qy 0:=by unfold qy;decide
theorem Rec.zero_ok:Rec.zero.Ok:=⟨Y4,Y4,Y4⟩
theorem qyh (b:List UInt8):(qby b).Ok:=by
 have h1:=qhr (s:=(jL [45] (ve jO (jW b))).1);have h2:=qhr (s:=(jL [45] (ve jO (jW b))).2.1);refine ⟨?_,?_,Rec.zero_ok⟩ <;> (unfold qby qy;simp only;omega)
theorem qyU (b:List UInt8):(qbz b).Ok:=⟨Y4,Y4,qh8 _ _,qh8 _ _,qh8 _ _⟩
theorem qsN {b:List UInt8} {p:Pr} {r:List UInt8} (h:Ql b = some (p,r)):p.name.length≤b.length∧p.value.length≤b.length:=by
 unfold Ql at h;split at h
 ·cases h
 ·split at h
  ·injection h with h;injection h with h _;rw [← h];exact ⟨by simp;omega,kn (qdR _) (by simp)⟩
  ·split at h
   ·cases h
   ·split at h
    ·cases h
    ·injection h with h;injection h with h _;rw [← h];constructor
     ·simp;omega
     ·simp;omega
theorem qne:∀ (n:Nat) (b:List UInt8),(∀ p∈QU n b,p.name.length≤b.length∧p.value.length≤b.length)∧(QU n b).length≤n
 | 0,b=>⟨fun p h=>by simp [QU] at h,by simp [QU]⟩
 | n+1,b=>by
  rw [QU];cases h:Ql b with
  | none=>exact ⟨fun p h=>by simp at h,by simp⟩
  | some q =>
   obtain ⟨p,r⟩:=q;simp only;obtain ⟨h1,h2⟩:=qne n r;have hr:=qh1 h;refine ⟨fun x hx=>?_,by simpa using h2⟩;rcases List.mem_cons.1 hx with rfl | hx
   ·exact qsN h
   ·have:=h1 x hx;omega
def jp (b:List UInt8):It:=if pre jO b then qby b else qbz b
theorem qfD (b:List UInt8):(jp b).Ok:=by
 unfold jp;split
 ·exact qyh b
 ·exact qyU b
theorem qmc (b:List UInt8) (hb:b.length < 1000000):(∀ p∈(jp b).rc.fields.l,Qv p)∧(jp b).rc.fields.l.length < 1000000:=by
 unfold jp;split
 ·exact ⟨fun p hp=>(by cases hp),(by show (0:Nat) < 1000000;decide)⟩
 ·obtain ⟨h1,h2⟩:=qne 17 (zH (zH (zH (zH (zH (zH b))))));have l1:=Vc b;have l2:=Vc (zH b);have l3:=Vc (zH (zH b));have l4:=Vc (zH (zH (zH b)));have l5:=Vc (zH (zH (zH (zH b))));have l6:=Vc (zH (zH (zH (zH (zH b)))));refine ⟨fun p hp=>?_,?_⟩
  ·obtain ⟨q1,q2⟩:=h1 p hp;exact ⟨by omega,by omega⟩
  ·show (QU 17 _).length < _;omega
def Jd (b:List UInt8):Bool:=zK (jp b) && pre (zF (jp b)) b
def qcA (b:List UInt8):D:=if Jd b then .tup [.agg (Enc.cells (jp b)),.int .i64 (zF (jp b)).length,.int .i64 0] else .tup [.agg (Enc.cells It.zero),.int .i64 0,.int .i64 20]
set_option maxHeartbeats 4000000 in
set_option maxRecDepth 8000 in
theorem qrU [MaxL] (s:Sl UInt8) (hs:s.l.length < 1000000) (hlong:zK (jp s.l) = true→(zF (jp s.l)).length < 1000000∧1≤(zF (jp s.l)).length):call cx 109 [(.vsl s.nil (qd s.l) s.l.length)] [] = some (qcA s.l,[]):=by
 have hok:=qfD s.l;obtain ⟨hb,hn⟩:=qmc s.l hs;have ht:=qp4 (jp s.l) hok hb hn;have Yg:=qgt s jO hs (by decide) (by decide);obtain ⟨rg,vQ⟩:=qyf s hs;obtain ⟨qe,hent,re,rfl⟩:=qyQ s hs;have hI:jp s.l = if pre jO s.l then qby s.l else qbz s.l:=rfl;unfold qcA Jd;unfold qbK at ht;generalize jp s.l = it at *;replace Yg:call cx 108 [(.vsl s.nil (qd s.l) s.l.length),.vsl false [.int .u8 95,.int .u8 95,.int .u8 71,.int .u8 65,.int .u8 80,.int .u8 61] 6] [] = some (.bool (pre jO s.l),[]):=Yg;refine qq Tryz.func109 rfl ⟨rfl,rfl⟩ ?_;cases hp:pre jO s.l with
 | true =>
  rw [hp] at hI Yg;simp only [if_true] at hI;rw [← hI] at vQ;cases ho:zK it with
  | true =>
   obtain ⟨q1,q2⟩:=hlong ho;rw [ho] at ht;simp only [if_true] at ht;have Zf:=qgt s (zF it) hs q1 q2;have qr:¬ (zF it).length = 0:=(by omega);generalize zF it = t at *;cases hpt:pre t s.l with
   | true =>
    rw [hpt] at Zf;simp [Tryz.f109,Yg,vQ,ht,Zf,qr]
   | false =>
    rw [hpt] at Zf;simp [Tryz.f109,Yg,vQ,ht,Zf,qr];rfl
  | false =>
   rw [ho] at ht;simp [Tryz.f109,Yg,vQ,ht];rfl
 | false =>
  rw [hp] at hI Yg;simp only [vC,if_false] at hI;rw [← hI] at hent;cases ho:zK it with
  | true =>
   obtain ⟨q1,q2⟩:=hlong ho;rw [ho] at ht;simp only [if_true] at ht;have Zf:=qgt s (zF it) hs q1 q2;have qr:¬ (zF it).length = 0:=(by omega);generalize zF it = t at *;cases hpt:pre t s.l with
   | true =>
    rw [hpt] at Zf;simp [Tryz.f109,Yg,hent,ht,Zf,qr]
   | false =>
    rw [hpt] at Zf;simp [Tryz.f109,Yg,hent,ht,Zf,qr];rfl
  | false =>
   rw [ho] at ht;simp [Tryz.f109,Yg,hent,ht];rfl
def JZ (t:List UInt8):Option (List UInt8 × Nat):=if qX 10 t 0 < 0 then none else some (t.take (qX 10 t 0).toNat,(qX 10 t 0).toNat+1)
theorem qmt (c:UInt8):∀ (l:List UInt8) (n m:Nat),qX c l (n+m) = if qX c l n < 0 then -1 else qX c l n+m
 | [],n,m=>by simp [qX]
 | b :: l,n,m=>by
  simp only [qX];by_cases hb:b = c
  ·simp only [hb,if_true];rw [if_neg (by omega)];omega
  ·simp only [hb,if_false];have:=qmt c l (n+1) m;rw [show n+m+1 = n+1+m by omega];exact this
theorem qxy (c:UInt8) (l:List UInt8):qX c l 0 = -1∨∃ i:Nat,i < l.length∧qX c l 0 = (i:Int):=by
 rcases qhZ c l 0 with h | ⟨m,h1,h2⟩
 ·exact .inl h
 ·exact .inr ⟨m,h1,by simpa using h2⟩
set_option maxHeartbeats 2000000 in
theorem qkv [MaxL] (s:Sl UInt8) (hs:s.l.length < 1000000) (at_:Nat) (qU:at_≤s.l.length):call cx 179 [(.vsl s.nil (qd s.l) s.l.length),.int .i64 at_] [] = some (.tup (match JZ (s.l.drop at_) with
  | none=>[.str [],.int .i64 0,.bool false]
  | some (t,n)=>[.str t,.int .i64 (at_+n:Nat),.bool true]),[]):=by
 refine qq Tryz.func179 rfl ⟨rfl,rfl⟩ ?_;obtain ⟨r,hr⟩:∃ r,qX 10 (s.l.drop at_) at_ = r:=⟨_,rfl⟩
 have h0:=qmt 10 (s.l.drop at_) 0 at_
 rw [vT,hr] at h0;simp [Tryz.f179];refine Run.loopThen (fun (i:Nat) e H'=>at_≤i∧i≤s.l.length∧qX 10 (s.l.drop i) i = r∧H' = []∧qf e 0 = some (.vsl s.nil (qd s.l) s.l.length)∧qf e 1 = some (.int .i64 at_)∧qf e 7 = some (.int .i64 i)) (fun i=>s.l.length - i) at_ ?_ ?_
 ·simp [qU,hr]
 rintro i e H' ⟨h1,h2,hR,rfl,k0,k1,k7⟩;by_cases qh:i < s.l.length
 ·have qk:(i:Int) < (s.l.length:Int):=by omega
  have hw:IntKind.i64.wrap ((i:Int)+1) = ((i+1:Nat):Int):=by rw [wrap_i64] <;> omega
  have hnn:=Sl.nn qh;have hA:=jo qh;rw [zo qh,qX] at hR;generalize s.l[i] = c at *;by_cases hc:c = 10
  ·rw [if_pos hc] at hR;subst hc
   have qbe:¬ qX 10 (s.l.drop at_) 0 < 0:=by
    intro h;rw [if_pos h] at h0;omega
   rw [if_neg qbe] at h0;have VJ:qX 10 (s.l.drop at_) 0 = ((i - at_:Nat):Int):=(by omega);have g1:(at_:Int)≤(i:Int):=(by omega);have g2:(i:Int)≤(s.l.length:Int):=(by omega);have g3:((i:Int) - (at_:Int)).toNat = i - at_:=by omega
   have t1:List.take (i - at_) (List.drop at_ (qd s.l)) = qd ((s.l.drop at_).take (i - at_)):=(by rw [Zb,kr]);have t1l:((s.l.drop at_).take (i - at_)).length = i - at_:=by simp;omega
   have t1b:ky (qd ((s.l.drop at_).take (i - at_))) = some ((s.l.drop at_).take (i - at_)):=Yy _;have t1t:List.take (i - at_) (qd ((s.l.drop at_).take (i - at_))) = qd ((s.l.drop at_).take (i - at_)):=qu (by simp;omega)
   have hP:JZ (s.l.drop at_) = some ((s.l.drop at_).take (i - at_),i - at_+1):=by
    unfold JZ;rw [if_neg qbe,VJ];rfl
   rw [hP];have e1:at_+(i - at_+1) = i+1:=by omega
   simp only;generalize List.take (i - at_) (List.drop at_ s.l) = t at *;simp [k0,k1,k7,qk,hnn,hA,hw,g1,g2,t1,t1l,t1b];omega
  ·rw [if_neg hc] at hR
   have Zx:¬ (c.toNat:Int) = 10:=by
    intro e;exact hc (UInt8.toNat_inj.1 (by show c.toNat = 10;omega))
   have kJ:¬ c.toNat = 10:=(by omega);simp [k0,k1,k7,qk,hnn,hA,hw,Zx];exact ⟨i+1,by omega,by omega,by omega,hR,by omega⟩
 ·have qk:¬ (i:Int) < (s.l.length:Int):=by omega
  rw [zZ (by omega),qX] at hR
  have qbe:qX 10 (s.l.drop at_) 0 < 0:=by
   rcases Int.lt_or_le (qX 10 (s.l.drop at_) 0) 0 with h | h
   ·exact h
   ·rw [if_neg (by omega)] at h0;omega
  have hP:JZ (s.l.drop at_) = none:=by unfold JZ;rw [if_pos qbe]
  rw [hP];simp [k0,k1,k7,qk]
def Q5 (b:List UInt8):Nat→List (List UInt8)→Option (List (List UInt8) × Nat)
 | a,[]=>some ([],a)
 | a,f :: fs=>match JZ (b.drop a) with
  | none=>none
  | some (t,n)=>if pre f t then match Q5 b (a+n) fs with
    | none=>none
    | some (l,z)=>some (t.drop f.length :: l,z)
   else none
def ZZ (l:List (List UInt8)):List D:=l.map D.str
theorem qj6 (l:List (List UInt8)):idFree.idFreeL (ZZ l) = true:=by
 induction l with
 | nil=>rfl
 | cons a l ih=>simp [ZZ,idFree] at *;exact ih
theorem qj5 (l:List (List UInt8)):(ZZ l).length = l.length:=by simp [ZZ]
theorem qfh {t s:List UInt8} {n:Nat} (h:JZ t = some (s,n)):n≤t.length∧s.length+1 = n:=by
 unfold JZ at h;rcases qxy 10 t with hr | ⟨i,hi,hr⟩
 ·rw [hr,if_pos (by decide)] at h;cases h
 ·rw [hr,if_neg (by omega)] at h;injection h with h;injection h with h1 h2;subst h1;subst h2;have e:((i:Int)).toNat = i:=by omega
  rw [e];refine ⟨by omega,?_⟩;simp;omega
theorem qdS {b:List UInt8}:∀ {fs:List (List UInt8)} {a z:Nat} {l:List (List UInt8)},a≤b.length→Q5 b a fs = some (l,z)→z≤b.length∧l.length = fs.length∧∀ s∈l,s.length≤b.length
 | [],a,z,l,ha,h=>by
  simp only [Q5,qs,qM] at h;obtain ⟨rfl,rfl⟩:=h;exact ⟨ha,rfl,fun s hs=>by cases hs⟩
 | f :: fs,a,z,l,ha,h=>by
  rw [Q5] at h;cases hr:JZ (b.drop a) with
  | none=>rw [hr] at h;cases h
  | some q =>
   obtain ⟨t,n⟩:=q;rw [hr] at h;simp only at h;obtain ⟨k1,k2⟩:=qfh hr;simp only [jQ] at k1;split at h
   ·cases hl:Q5 b (a+n) fs with
    | none=>rw [hl] at h;cases h
    | some q =>
     obtain ⟨l',z'⟩:=q;rw [hl] at h;simp only [qs,qM] at h;obtain ⟨rfl,rfl⟩:=h;obtain ⟨q1,q2,q3⟩:=qdS (by omega) hl;refine ⟨q1,by simp [q2],fun s hs=>?_⟩;rcases List.mem_cons.1 hs with rfl | hs
     ·rw [jQ];omega
     ·exact q3 s hs
   ·cases h
theorem qpH {l:List (List UInt8)} {k:Nat} (h:k < l.length):List.drop k (ZZ l) = .str l[k] :: ZZ (l.drop (k+1)):=by
 unfold ZZ;rw [← List.map_drop,zo h];rfl
theorem qpF (l:List (List UInt8)) (t:List UInt8):ZZ l ++ [.str t] = ZZ (l ++ [t]):=by simp [ZZ]
set_option maxHeartbeats 4000000 in
theorem qku [MaxL] (s:Sl UInt8) (hs:s.l.length < 1000000) (fs:List (List UInt8)) (hf:∀ f∈fs,f.length < 1000) (h1:1≤fs.length) (jc:fs.length≤10):call cx 177 [(.vsl s.nil (qd s.l) s.l.length),.vsl false (ZZ fs) fs.length] [] = some (.tup (match Q5 s.l 0 fs with
  | none=>[.vsl true [] 0,.int .i64 0,.bool false]
  | some (l,z)=>[.vsl false (ZZ l) l.length,.int .i64 (z:Nat),.bool true]),[]):=by
 refine qq Tryz.func177 rfl ⟨rfl,rfl⟩ ?_;obtain ⟨R,hR⟩:∃ R,Q5 s.l 0 fs = R:=⟨_,rfl⟩;rw [hR];simp [Tryz.f177]
 refine Run.loopThen (fun (q:Nat × Nat × List (List UInt8)) e H'=>q.1≤fs.length∧q.2.1≤s.l.length∧q.2.2.length = q.1∧(match Q5 s.l q.2.1 (fs.drop q.1) with | none=>none | some (l,z)=>some (q.2.2 ++ l,z)) = R ∧
   ((q.2.2 = []∧H' = []∧qf e 7 = some (.vsl true [] 0))∨(∃ n,n = q.2.2.length∧q.2.2≠[]∧H' = [some (ZZ q.2.2)]∧qf e 7 = some (.osl 0 n 0 n 1))) ∧
   qf e 0 = some (.vsl s.nil (qd s.l) s.l.length)∧qf e 1 = some (.vsl false (ZZ fs) fs.length)∧qf e 8 = some (.int .i64 (q.2.1:Nat))∧qf e 9 = some (.int .i64 (q.1:Nat))) (fun q=>fs.length - q.1) (0,0,[]) ?_ ?_
 ·refine ⟨by omega,by simp,rfl,?_,.inl ⟨rfl,rfl,by simp⟩,by simp,by simp,by simp,by simp⟩;simp only [List.drop_zero,ZU];rw [hR];cases R <;> rfl
 rintro ⟨k,a,o⟩ e H' ⟨hk,ha,ho,hG,hH,k0,k1,k8,k9⟩;simp only at hk ha ho hG hH k8 k9;by_cases qh:k < fs.length
 ·have qk:(k:Int) < (fs.length:Int):=by omega
  have hw:IntKind.i64.wrap ((k:Int)+1) = ((k+1:Nat):Int):=by rw [wrap_i64] <;> omega
  have hA:=qpH qh;have hfk:=hf _ (vk qh);rw [zo qh,Q5] at hG;have hl:=qkv s hs a ha;cases hr:JZ (s.l.drop a) with
  | none =>
   rw [hr] at hG hl;simp only at hG hl;subst hG;rcases hH with ⟨rfl,rfl,k7⟩ | ⟨n,hn,qr,rfl,k7⟩ <;> simp [k0,k1,k7,k8,k9,qk,hl]
  | some q =>
   obtain ⟨t,n1⟩:=q;rw [hr] at hG hl;simp only at hG hl;obtain ⟨r1,r2⟩:=qfh hr;simp only [jQ] at r1;have jK:=qdc t fs[k] (by omega) (by omega);generalize fs[k] = f at *;cases hp:pre f t with
   | false =>
    rw [hp] at hG jK;simp only [vC,if_false] at hG jK;subst hG;rcases hH with ⟨rfl,rfl,k7⟩ | ⟨n,hn,qr,rfl,k7⟩ <;> simp [k0,k1,k7,k8,k9,qk,hl,hA,jK]
   | true =>
    rw [hp] at hG jK;simp only [if_true] at hG jK;have han:((a+n1:Nat):Int) = (a:Int)+(n1:Int):=(by omega);rcases hH with ⟨rfl,rfl,k7⟩ | ⟨n,hn,qr,rfl,k7⟩
    ·have kv:k = 0:=(by simpa using ho.symm);simp [k0,k1,k7,k8,k9,qk,hl,hA,jK,qF];refine ⟨k+1,by omega,by omega,a+n1,by omega,[t.drop f.length],by simp [kv],?_,⟨by simp,rfl,rfl⟩,by omega,hw⟩;rw [← hG];cases Q5 s.l (a+n1) (fs.drop (k+1)) <;> rfl
    ·have hsl:=qj5 o;have hsf:=qj6 o
     have hsa:(∀ x,x∈ZZ o→idFree x = true) = True:=eq_true (by
      rw [qcM] at hsf;exact List.all_eq_true.1 hsf)
     have zX:(n+1) * 16≤140737488355328:=(by omega);have zx:n≤140737488355327:=(by omega);simp [k0,k1,k7,k8,k9,qk,hl,hA,jK,hsl,hsa,← hn,zX,zx,qF];refine ⟨k+1,by omega,by omega,a+n1,by omega,o ++ [t.drop f.length],by simp [ho],?_,⟨by simp,by rw [qpF],by simp;omega⟩,by omega,hw⟩;rw [← hG];cases Q5 s.l (a+n1) (fs.drop (k+1)) <;> simp
 ·have qk:¬ (k:Int) < (fs.length:Int):=by omega
  rw [zZ (by omega),Q5] at hG;simp only [Z2] at hG;subst hG;rcases hH with ⟨rfl,rfl,k7⟩ | ⟨n,hn,qr,rfl,k7⟩
  ·exfalso;simp only [zb] at ho;omega
  ·have hsl:=qj5 o;have hsf:=qj6 o;have qw:List.take n (ZZ o) = ZZ o:=qu (by rw [hsl,hn];exact qz _);simp [k0,k1,k7,k8,k9,qk,hsl,hsf,qw,← hn]
theorem qhB (x:Nat) (y:Nat) (hy:y < 256) (hx:x < 256 ^ 7):IntKind.u64.wrap (IntKind.u64.wrap ((x:Int) * 256)+(y:Int)) = ((x * 256+y:Nat):Int):=by
 have e1:IntKind.u64.wrap ((x:Int) * 256) = ((x * 256:Nat):Int):=by
  rw [qS] <;> omega
 rw [e1,qS] <;> omega
set_option maxHeartbeats 1000000 in
theorem qk3 [MaxL] (s:Sl UInt8) (a:Nat) (h:a+8≤s.l.length) (_:s.l.length < 4611686018427387904) :
  call cx 117 [(.vsl s.nil (qd s.l) s.l.length),.int .i64 a,.int .i64 8] [] = some (.tup [.int .u64 (leN ((s.l.drop a).take 8)),.bool true],[]):=by
 have hnn:s.nil = false:=Sl.nn (i:=a) (by omega);have g0:¬ (a:Int) < 0:=by omega
 have g1:¬ (s.l.length:Int) < (a:Int):=by omega
 have hw:IntKind.i64.wrap ((s.l.length:Int) - (a:Int)) = (s.l.length:Int) - (a:Int):=by rw [wrap_i64];omega
 have g2:¬ (s.l.length:Int) - (a:Int) < 8:=by omega
 refine qq Tryz.func117 rfl ⟨rfl,rfl⟩ ?_;simp [Tryz.f117,hnn,g0,g1,hw,g2];refine Run.loopThen (fun (i:Nat) e H=>i≤8∧H = []∧qf e 0 = some (.vsl s.nil (qd s.l) s.l.length)∧qf e 1 = some (.int .i64 a)∧qf e 8 = some (.int .u64 (leN ((s.l.drop (a+i)).take (8 - i)):Nat))∧qf e 9 = some (.int .i64 ((i:Int) - 1))) (fun i=>i) 8 (by simp [leN,hnn]) ?_;rintro i e H ⟨hi,rfl,h0,h1,h8,h9⟩;cases i with
 | zero=>simp [h0,h1,h8,h9]
 | succ j =>
  have hj:(0:Int)≤(j:Int):=by omega
  have Z9:IntKind.i64.wrap ((a:Int)+(j:Int)) = ((a+j:Nat):Int):=by rw [wrap_i64] <;> omega
  have vy:IntKind.i64.wrap ((j:Int) - 1) = (j:Int) - 1:=by rw [wrap_i64];omega
  have qh:a+j < s.l.length:=by omega
  have e1:((j+1:Nat):Int) - 1 = (j:Int):=by omega
  rw [e1] at h9
  have hd:(s.l.drop (a+j)).take (8 - j) = s.l[a+j] :: (s.l.drop (a+(j+1))).take (8 - (j+1)):=by
   rw [zo qh,show 8 - j = (8 - (j+1))+1 by omega,qe6,V0]
  have VD:leN ((s.l.drop (a+(j+1))).take (8 - (j+1))) < 256 ^ 7:=by
   refine jM (Xz _) (Y2 (by decide) ?_);rw [jn];omega
  have hst:=qhB (leN ((s.l.drop (a+(j+1))).take (8 - (j+1)))) s.l[a+j].toNat s.l[a+j].toNat_lt VD;have vx:IntKind.u64.wrap (s.l[a+j].toNat:Int) = (s.l[a+j].toNat:Int):=by rw [qS];have:=s.l[a+j].toNat_lt;omega
  have g1:(0:Int)≤(a:Int)+(j:Int):=by omega
  have g2:(a:Int)+(j:Int) < (s.l.length:Int):=by omega
  have g3:((a:Int)+(j:Int)).toNat = a+j:=by omega
  simp [h0,h1,h8,h9,hj,Z9,vy,vx,hnn,g1,g2,g3,jo qh,-Nat.reduceSubDiff];rw [hst];clear VD hst vx;exact ⟨j,by omega,by omega,by rw [hd,leN,Nat.mul_comm,Nat.add_comm],rfl⟩
theorem qr6 [MaxL] (s:Sl UInt8) (a:Nat) (ha:a≤s.l.length) (h:s.l.length < a+8) (_:s.l.length < 4611686018427387904) :
  call cx 117 [(.vsl s.nil (qd s.l) s.l.length),.int .i64 a,.int .i64 8] [] = some (.tup [.int .u64 0,.bool false],[]):=by
 have g0:¬ (a:Int) < 0:=by omega
 have g1:¬ (s.l.length:Int) < (a:Int):=by omega
 have hw:IntKind.i64.wrap ((s.l.length:Int) - (a:Int)) = (s.l.length:Int) - (a:Int):=by rw [wrap_i64];omega
 have g2:(s.l.length:Int) - (a:Int) < 8:=by omega
 refine qq Tryz.func117 rfl ⟨rfl,rfl⟩ ?_;simp [Tryz.f117,g0,g1,hw,g2]
def J1 (b:List UInt8):Pr × Int :=
 if qX 61 b 0 < 0 then (⟨[],[]⟩,20)
 else if kU (b.take (qX 61 b 0).toNat) = false then (⟨[],[]⟩,20)
 else if 256 < b.length - (qX 61 b 0).toNat - 1 then (⟨[],[]⟩,21)
 else (⟨b.take (qX 61 b 0).toNat,b.drop ((qX 61 b 0).toNat+1)⟩,0)
set_option maxHeartbeats 4000000 in
theorem qqU [MaxL] (s:List UInt8) (hs:s.length < 1000000):call cx 180 [.vsl false (qd s) s.length] [] = some (.tup [.agg [.str (J1 s).1.name,.str (J1 s).1.value],.int .i64 (J1 s).2],[]):=by
 refine qq Tryz.func180 rfl ⟨rfl,rfl⟩ ?_;obtain ⟨r,hr⟩:∃ r,qX 61 s 0 = r:=⟨_,rfl⟩;simp [Tryz.f180];refine Run.loopThen (fun (i:Nat) e H'=>i≤s.length∧qX 61 (s.drop i) i = r∧H' = [some [.str [],.str []]]∧qf e 0 = some (.vsl false (qd s) s.length)∧qf e 2 = some (.optr 0 2 0)∧qf e 4 = some (.int .i64 i)) (fun i=>s.length - i) 0 ?_ ?_
 ·simpa using hr
 rintro i e H' ⟨h2,hR,rfl,k0,k2,k4⟩;by_cases qh:i < s.length
 ·have qk:(i:Int) < (s.length:Int):=by omega
  have hw:IntKind.i64.wrap ((i:Int)+1) = ((i+1:Nat):Int):=by rw [wrap_i64] <;> omega
  have hA:=jo qh;rw [zo qh,qX] at hR;generalize s[i] = c at *;by_cases hc:c = 61
  ·rw [if_pos hc] at hR;subst hc;have g2:(i:Int)≤(s.length:Int):=(by omega);have t1:List.take i (qd s) = qd (s.take i):=kr _ _;have t1l:(s.take i).length = i:=(by simp;omega);have t1b:ky (qd (s.take i)) = some (s.take i):=Yy _;have t1t:List.take i (qd (s.take i)) = qd (s.take i):=qu (by simp;omega);have ZB:=qkq (s.take i) (by omega)
   have hP:J1 s = if kU (s.take i) = false then (⟨[],[]⟩,20) else if 256 < s.length - i - 1 then (⟨[],[]⟩,21) else (⟨s.take i,s.drop (i+1)⟩,0):=by
    unfold J1;rw [hr,← hR,if_neg (by omega)];rfl
   rw [hP];have w1:IntKind.i64.wrap ((s.length:Int) - (i:Int)) = (s.length:Int) - (i:Int):=(by rw [wrap_i64];omega);have w2:IntKind.i64.wrap ((s.length:Int) - (i:Int) - 1) = (s.length:Int) - (i:Int) - 1:=(by rw [wrap_i64];omega);cases hn:kU (s.take i) with
   | false =>
    rw [hn] at ZB;simp [k0,k2,k4,qk,hA,g2,t1,t1l,t1b,ZB]
   | true =>
    rw [hn] at ZB;by_cases hb:256 < s.length - i - 1
    ·have zn:(256:Int) < (s.length:Int) - (i:Int) - 1:=(by omega);simp [k0,k2,k4,qk,hA,g2,t1,t1l,t1b,ZB,w1,w2,hb,zn]
    ·have zn:¬ (256:Int) < (s.length:Int) - (i:Int) - 1:=(by omega);obtain ⟨j,hj⟩:∃ j,j = i+1:=⟨_,rfl⟩;rw [← hj] at hw;have g3:(j:Int)≤(s.length:Int):=(by omega);have g3n:j≤s.length:=(by omega);have g4:((s.length:Int) - (j:Int)).toNat = s.length - j:=by omega
     have t2:List.take (s.length - j) (List.drop j (qd s)) = qd (s.drop j):=by
      rw [Zb];exact qu (by simp)
     have t2l:(s.drop j).length = s.length - j:=(by simp);have t2b:ky (qd (s.drop j)) = some (s.drop j):=Yy _;have t2t:List.take (s.length - j) (qd (s.drop j)) = qd (s.drop j):=qu (by simp);simp only [hb,if_false,Bool.true_eq_false,← hj];simp [k0,k2,k4,qk,hA,g2,t1,t1l,t1b,ZB,w1,w2,zn,hw,g3,t2,t2l,t2b]
  ·rw [if_neg hc] at hR
   have Zx:¬ (c.toNat:Int) = 61:=by
    intro e;exact hc (UInt8.toNat_inj.1 (by show c.toNat = 61;omega))
   have kJ:¬ c.toNat = 61:=(by omega);simp [k0,k2,k4,qk,hA,hw,Zx];exact ⟨i+1,by omega,by omega,hR,by omega⟩
 ·have qk:¬ (i:Int) < (s.length:Int):=by omega
  rw [zZ (by omega),qX] at hR
  have hP:J1 s = (⟨[],[]⟩,20):=by
   unfold J1;rw [hr,← hR,if_pos (by decide)]
  rw [hP];simp [k0,k2,k4,qk]
def Kc (b:List UInt8):It × Nat × Bool:=match Q5 b 0 [jO,jS,[]] with
 | some ([x,y,_],z)=>if qX 45 x 0 < 0 then (It.zero,0,false)
  else (⟨Kk y,true,((ja (x.take (qX 45 x 0).toNat)).getD 0:Nat),((ja (x.drop ((qX 45 x 0).toNat+1))).getD 0:Nat),Rec.zero⟩,z,(vO y).isSome && (ja (x.take (qX 45 x 0).toNat)).isSome && (ja (x.drop ((qX 45 x 0).toNat+1))).isSome)
 | _=>(It.zero,0,false)
theorem qd2 [MaxL] (s:List UInt8) (hs:s.length < 1000000):call cx 114 [.str s] [] = some (.tup [.int .u64 ((ja s).getD 0:Nat),.bool (ja s).isSome],[]):=by
 have h:=qfe s hs;rw [h];cases ja s <;> rfl
def qd6 (q:It × Nat × Bool):D:=.tup [.agg (Enc.cells q.1),.int .i64 (q.2.1:Nat),.bool q.2.2]
set_option maxHeartbeats 4000000 in
set_option maxRecDepth 8000 in
theorem qrA [MaxL] (s:Sl UInt8) (hs:s.l.length < 1000000):call cx 151 [(.vsl s.nil (qd s.l) s.l.length)] [] = some (qd6 (Kc s.l),[]):=by
 have hl:=qku s hs [jO,jS,[]] (by intro f hf;simp only [qa1,List.not_mem_nil,or_false] at hf;rcases hf with rfl | rfl | rfl <;> decide) (by decide) (by decide);replace hl:call cx 177 [(.vsl s.nil (qd s.l) s.l.length),.vsl false [.str [95,95,71,65,80,61],.str [95,95,83,69,81,78,85,77,95,73,68,61],.str []] 3] [] = _:=hl;unfold Kc qd6;refine qq Tryz.func151 rfl ⟨rfl,rfl⟩ ?_;cases hL:Q5 s.l 0 [jO,jS,[]] with
 | none =>
  rw [hL] at hl;simp only at hl;simp [Tryz.f151,hl];rfl
 | some q =>
  obtain ⟨l,z⟩:=q;rw [hL] at hl;obtain ⟨z1,z2,z3⟩:=qdS (jg _) hL
  match l,z2,z3,hl with
  | [x,y,w],_,z3,hl =>
   have hx:=z3 x (by simp);have hy:=z3 y (by simp);simp only at hl;replace hl:call cx 177 [(.vsl s.nil (qd s.l) s.l.length),.vsl false [.str [95,95,71,65,80,61],.str [95,95,83,69,81,78,85,77,95,73,68,61],.str []] 3] [] = some (.tup [.vsl false [.str x,.str y,.str w] 3,.int .i64 z,.bool true],[]):=hl;have Qa:=qk2 y (by omega);replace Qa:call cx 178 [.str y] [] = some (.tup [.agg (qd (Kk y).l),.bool (vO y).isSome],[]):=Qa;have hq:=(Kk y).h;simp only;generalize Kk y = q at *;generalize (vO y).isSome = ob at *;have KT:List.take 16 (qd q.l) = qd q.l:=qu (by simp);have qbb:List.take 39 (qd q.l) = qd q.l:=qu (by simp);have z16:qd ID.zero.l = [.int .u8 0,.int .u8 0,.int .u8 0,.int .u8 0,.int .u8 0,.int .u8 0,.int .u8 0,.int .u8 0,.int .u8 0,.int .u8 0,.int .u8 0,.int .u8 0,.int .u8 0,.int .u8 0,.int .u8 0,.int .u8 0]:=rfl;obtain ⟨r,hr⟩:∃ r,qX 45 x 0 = r:=⟨_,rfl⟩;rw [hr];simp [Tryz.f151,hl,Qa,hq,KT]
   refine Run.loopThen (fun (i:Nat) e H'=>i≤x.length∧qX 45 (x.drop i) i = r∧H' = [some (Enc.cells It.zero),some (qd q.l ++ .bool true :: (Enc.cells It.zero).drop 17),some (qd q.l)] ∧
     qf e 2 = some (.optr 0 39 0)∧qf e 5 = some (.vsl false [.str x,.str y,.str w] 3)∧qf e 6 = some (.int .i64 z)∧qf e 8 = some (.optr 1 39 0)∧qf e 10 = some (.bool ob)∧qf e 11 = some (.int .i64 i)) (fun i=>x.length - i) 0 ?_ ?_
   ·refine ⟨by omega,by simpa using hr,rfl,by simp,by simp,by simp,by simp,by simp,by simp⟩
   rintro i e H' ⟨h2,hR,rfl,k2,k5,k6,k8,k10,k11⟩;by_cases qh:i < x.length
   ·have qk:(i:Int) < (x.length:Int):=(by omega);have hw:IntKind.i64.wrap ((i:Int)+1) = ((i+1:Nat):Int):=(by rw [wrap_i64] <;> omega);have hxi:x[i]? = some x[i]:=zg qh;rw [zo qh,qX] at hR;generalize x[i] = c at *;by_cases hc:c = 45
    ·rw [if_pos hc] at hR;subst hc;have qbe:¬ r < 0:=(by omega);have hrn:r.toNat = i:=(by omega);have g2:(i:Int)≤(x.length:Int):=(by omega);have n1:=qd2 (x.take i) (by simp;omega);have n2:=qd2 (x.drop (i+1)) (by simp;omega);obtain ⟨j,hj⟩:∃ j,j = i+1:=⟨_,rfl⟩;rw [← hj] at hw n2;have g3:(j:Int)≤(x.length:Int):=(by omega);have g3n:j≤x.length:=(by omega);have g4:((x.length:Int) - (j:Int)).toNat = x.length - j:=(by omega);have t2:List.take (x.length - j) (List.drop j x) = List.drop j x:=qu (by simp);simp only [qbe,if_false,hrn,← hj];generalize (ja (List.take i x)).getD 0 = v1 at *;generalize (ja (List.take i x)).isSome = b1 at *;generalize (ja (List.drop j x)).getD 0 = v2 at *;generalize (ja (List.drop j x)).isSome = b2 at *;cases ob <;> cases b1 <;> cases b2 <;> simp [k2,k5,k6,k8,k10,k11,qk,hxi,hw,g2,g3,t2,n1,n2,It.cells,It.zero,Rec.zero,z16,hq,qbb,zV,qA,zA]
    ·rw [if_neg hc] at hR
     have Zx:¬ (c.toNat:Int) = 45:=by
      intro e;exact hc (UInt8.toNat_inj.1 (by show c.toNat = 45;omega))
     have kJ:¬ c.toNat = 45:=(by omega);simp [k2,k5,k6,k8,k10,k11,qk,hxi,hw,Zx];exact ⟨i+1,by omega,by omega,hR,by omega⟩
   ·have qk:¬ (i:Int) < (x.length:Int):=(by omega);rw [zZ (by omega),qX] at hR;have qbe:r < 0:=(by omega);simp only [qbe,if_true];simp [k2,k5,k6,k8,k10,k11,qk];rfl
def QZ (b:List UInt8):Nat→Nat→Option (List Pr × Nat)
 | 0,_=>none
 | n+1,a=>match JZ (b.drop a) with
  | none=>none
  | some (t,k)=>if t = [] then some ([],a+k)
   else if (J1 t).2 = 0 then match QZ b n (a+k) with
    | none=>none
    | some (l,z)=>some ((J1 t).1 :: l,z)
   else if b.length < a+k+8 then none
   else if 256 < leN ((b.drop (a+k)).take 8)∨b.length - (a+k) - 8≤leN ((b.drop (a+k)).take 8)∨b.getD (a+k+8+leN ((b.drop (a+k)).take 8)) 0≠10 then none
   else match QZ b n (a+k+8+leN ((b.drop (a+k)).take 8)+1) with
    | none=>none
    | some (l,z)=>some (⟨t,(b.drop (a+k+8)).take (leN ((b.drop (a+k)).take 8))⟩ :: l,z)
def qd0:List (List UInt8):=[KP,JE,JF,JD,jS,Z7]
def Y8 (b:List UInt8):It × Nat × Bool:=match Q5 b 0 qd0 with
 | some ([_,x1,x2,x3,x4,x5],z) =>
  if (ja x1).isSome && (ja x2).isSome && (ja x3).isSome && (vO x4).isSome && (vO x5).isSome then
   match QZ b 17 z with
   | none=>(It.zero,0,false)
   | some (l,z')=>(⟨Kk x4,false,0,0,⟨((ja x3).getD 0:Nat),((ja x1).getD 0:Nat),((ja x2).getD 0:Nat),Kk x5,Zn l⟩⟩,z',true)
  else (It.zero,0,false)
 | _=>(It.zero,0,false)
theorem qk1 [MaxL] (s:List UInt8) (hs:s.length < 1000000):call cx 178 [.str s] [] = some (.tup [.agg (qd (Kk s).l),.bool (vO s).isSome],[]):=qk2 s hs
theorem qpT {X:List D} (hX:idFree.idFreeL X = true) {fs:List Pr} {i n k:Nat} (m:Nat) (hn:fs.length * 2 = n) (hk:fs.length = k) {H:qi} (hg:(H[i]?).getD none = some (qg fs)):jy H (m+2) (.agg (X ++ [.osl i n 0 k 2])) = some (.agg (X ++ [.vsl false (qg fs) k]),[i]):=by
 have h8:jy H (m+1) (.osl i n 0 k 2) = some (.vsl false (qg fs) k,[i]):=by
  rw [jy,if_neg (by simp [idFree])];have hl:(qg fs).length = n:=by simp [hn]
  have h0:0+k * 2≤n:=by omega
  simp only [qo,hg];rw [if_pos ⟨hl,h0⟩,if_pos (by simp),List.drop_zero,qu (by simp;omega)]
 rw [jy,if_neg (by simp [idFree])];simp only [qeR,qeQ hX,vv,h8];rfl
theorem qpS {X:List D} (hX:idFree.idFreeL X = true) {fs:List Pr} {i n k:Nat} (hn:fs.length * 2 = n) (hk:fs.length = k) {H:qi} (hg:(H[i]?).getD none = some (qg fs)) (z:Int) (b:Bool):jy H 9 (.tup [.agg (X ++ [.osl i n 0 k 2]),.int .i64 z,.bool b]) = some (.tup [.agg (X ++ [.vsl false (qg fs) k]),.int .i64 z,.bool b],[i]):=by
 have h1:=qpT hX 6 hn hk hg;rw [jy,if_neg (by simp [idFree])];have h2:jy H 8 (.int .i64 z) = some (.int .i64 z,[]):=qgI rfl;have h3:jy H 8 (.bool b) = some (.bool b,[]):=qgI rfl;simp only [vv,h1,h2,h3];rfl
def q1i (X:List D) (fs:List Pr) (H:qi):Prop :=
 (fs = []∧H = [some (Enc.cells It.zero),some (X ++ [.vsl true [] 0]),some [.bool true,.bool true,.bool true,.bool true,.bool true]]) ∨
 (fs≠[]∧∃ (n k:Nat) (c3:List UInt8) (t u:Pr),n = fs.length * 2∧k = fs.length ∧
  (H = [some (Enc.cells It.zero),some (X ++ [.osl 6 n 0 k 2]),some [.bool true,.bool true,.bool true,.bool true,.bool true],some (qd c3),some [.str t.name,.str t.value],some [.str u.name,.str u.value],some (qg fs)] ∨
  (∃ (c:List UInt8) (v w:Option (List D)),H = [some (Enc.cells It.zero),some (X ++ [.osl 6 n 0 k 2]),some [.bool true,.bool true,.bool true,.bool true,.bool true],some (qd c3),some [.str t.name,.str t.value],some [.str u.name,.str u.value],some (qg fs),some (qd c),v,w]) ∨
  (∃ (c:List UInt8) (v w y:Option (List D)),H = [some (Enc.cells It.zero),some (X ++ [.osl 6 n 0 k 2]),some [.bool true,.bool true,.bool true,.bool true,.bool true],some (qd c3),some [.str t.name,.str t.value],some [.str u.name,.str u.value],some (qg fs),some (qd c),v,w,y])))
theorem qhd (b:List UInt8):∀ (n a:Nat) (l:List Pr) (z:Nat),a≤b.length→QZ b n a = some (l,z)→z≤b.length∧l.length≤n∧∀ p∈l,p.name.length≤b.length∧p.value.length≤b.length
 | 0,a,l,z,_,h=>by cases h
 | n+1,a,l,z,ha,h=>by
  rw [QZ] at h;cases hr:JZ (b.drop a) with
  | none=>rw [hr] at h;cases h
  | some q =>
   obtain ⟨t,k⟩:=q;rw [hr] at h;obtain ⟨k1,k2⟩:=qfh hr;simp only [jQ] at k1;simp only at h;split at h
   ·injection h with h;injection h with h1 h2;subst h1;subst h2;exact ⟨by omega,by simp,fun p hp=>by cases hp⟩
   ·split at h
    ·cases hl:QZ b n (a+k) with
     | none=>rw [hl] at h;cases h
     | some q =>
      obtain ⟨l',z'⟩:=q;rw [hl] at h;injection h with h;injection h with h1 h2;subst h1;subst h2;obtain ⟨q1,q2,q3⟩:=qhd b n (a+k) l' z' (by omega) hl;refine ⟨q1,by simpa using q2,fun p hp=>?_⟩;rcases List.mem_cons.1 hp with rfl | hp
      ·unfold J1;split
       ·exact ⟨jg _,jg _⟩
       ·split
        ·exact ⟨jg _,jg _⟩
        ·split
         ·exact ⟨jg _,jg _⟩
         ·constructor
          ·simp;omega
          ·simp;omega
      ·exact q3 p hp
    ·split at h
     ·cases h
     ·split at h
      ·cases h
      ·rename_i zR;simp only [not_or,Nat.not_lt,Nat.not_le] at zR;cases hl:QZ b n (a+k+8+leN ((b.drop (a+k)).take 8)+1) with
       | none=>rw [hl] at h;cases h
       | some q =>
        obtain ⟨l',z'⟩:=q;rw [hl] at h;injection h with h;injection h with h1 h2;subst h1;subst h2;obtain ⟨q1,q2,q3⟩:=qhd b n _ l' z' (by omega) hl;refine ⟨q1,by simpa using q2,fun p hp=>?_⟩;rcases List.mem_cons.1 hp with rfl | hp
        ·constructor
         ·show t.length≤_;omega
         ·simp;omega
        ·exact q3 p hp
set_option maxHeartbeats 4000000 in
set_option maxRecDepth 8000 in
theorem qrO [MaxL] (s:Sl UInt8) (hs:s.l.length < 1000000):call cx 152 [(.vsl s.nil (qd s.l) s.l.length)] [] = some (qd6 (Y8 s.l),[]):=by
 have hl:=qku s hs qd0 (by intro f hf;simp only [qd0,qa1,List.not_mem_nil,or_false] at hf;rcases hf with rfl | rfl | rfl | rfl | rfl | rfl <;> decide) (by decide) (by decide);replace hl:call cx 177 [(.vsl s.nil (qd s.l) s.l.length),.vsl false [.str [95,95,67,85,82,83,79,82,61],.str [95,95,82,69,65,76,84,73,77,69,95,84,73,77,69,83,84,65,77,80,61],.str [95,95,77,79,78,79,84,79,78,73,67,95,84,73,77,69,83,84,65,77,80,61],.str [95,95,83,69,81,78,85,77,61],.str [95,95,83,69,81,78,85,77,95,73,68,61],.str [95,66,79,79,84,95,73,68,61]] 6] [] = _:=hl;have z16:qd ID.zero.l = [.int .u8 0,.int .u8 0,.int .u8 0,.int .u8 0,.int .u8 0,.int .u8 0,.int .u8 0,.int .u8 0,.int .u8 0,.int .u8 0,.int .u8 0,.int .u8 0,.int .u8 0,.int .u8 0,.int .u8 0,.int .u8 0]:=rfl;unfold Y8 qd6;refine qq Tryz.func152 rfl ⟨rfl,rfl⟩ ?_;cases hL:Q5 s.l 0 qd0 with
 | none =>
  rw [hL] at hl;simp only at hl;simp [Tryz.f152,hl];rfl
 | some q =>
  obtain ⟨l,z⟩:=q;rw [hL] at hl;obtain ⟨z1,z2,z3⟩:=qdS (jg _) hL
  match l,z2,z3,hl with
  | [x0,x1,x2,x3,x4,x5],_,z3,hl =>
   have VB:=z3 x1 (by simp);have Km:=z3 x2 (by simp);have hx3:=z3 x3 (by simp);have hx4:=z3 x4 (by simp);have hx5:=z3 x5 (by simp);simp only at hl;replace hl:call cx 177 [(.vsl s.nil (qd s.l) s.l.length),.vsl false [.str [95,95,67,85,82,83,79,82,61],.str [95,95,82,69,65,76,84,73,77,69,95,84,73,77,69,83,84,65,77,80,61],.str [95,95,77,79,78,79,84,79,78,73,67,95,84,73,77,69,83,84,65,77,80,61],.str [95,95,83,69,81,78,85,77,61],.str [95,95,83,69,81,78,85,77,95,73,68,61],.str [95,66,79,79,84,95,73,68,61]] 6] [] = some (.tup [.vsl false [.str x0,.str x1,.str x2,.str x3,.str x4,.str x5] 6,.int .i64 z,.bool true],[]):=hl;have n1:=qd2 x1 (by omega);have n2:=qd2 x2 (by omega);have n3:=qd2 x3 (by omega);have i4:=qk1 x4 (by omega);have i5:=qk1 x5 (by omega);have hq:=(Kk x4).h;have hb:=(Kk x5).h;simp only;generalize Kk x4 = q at *;generalize Kk x5 = bt at *;generalize (ja x1).getD 0 = rl at *;generalize (ja x2).getD 0 = mn at *;generalize (ja x3).getD 0 = sq at *;generalize (ja x1).isSome = b1 at *;generalize (ja x2).isSome = b2 at *;generalize (ja x3).isSome = b3 at *;generalize (vO x4).isSome = b4 at *;generalize (vO x5).isSome = b5 at *;have KT:List.take 16 (qd q.l) = qd q.l:=qu (by simp);have hb16:List.take 16 (qd bt.l) = qd bt.l:=qu (by simp);by_cases vc:(b1 && b2 && b3 && b4 && b5) = true
   ·simp only [qR] at vc;obtain ⟨⟨⟨⟨rfl,rfl⟩,rfl⟩,rfl⟩,rfl⟩:=vc;simp only [Bool.and_self,if_true];obtain ⟨R,hR⟩:∃ R,QZ s.l 17 z = R:=⟨_,rfl⟩;rw [hR];have jA:=qn5 q sq rl mn bt;have JL:=qn6 q sq rl mn bt;have QP:∀ l:List Pr,Enc.cells (⟨q,false,0,0,⟨(sq:Nat),(rl:Nat),(mn:Nat),bt,Zn l⟩⟩:It) = Xa q sq rl mn bt ++ [(.vsl (Zn l).nil (qg (Zn l).l) (Zn l).l.length)]:=fun l=>by rw [It.cells];simp [Xa]
    obtain ⟨X,hX⟩:∃ X,X = Xa q sq rl mn bt:=⟨_,rfl⟩;simp [Tryz.f152,hl,n1,n2,n3,i4,i5,hq,hb,zV,qA,zA];clear n1 n2 n3 i4 i5 hl;rw [← hX] at jA JL;simp only [← hX] at QP;have hXd:List.drop 38 X = []:=zZ (by omega);have KY:List.drop 39 X = []:=zZ (by omega);have hXt:List.take 38 X = X:=qu (by omega);have qbs:List.take 39 X = X:=qu (by omega)
    have kK:∀ n,(∀ x,x∈X→closed n x = true) = True:=fun n=>eq_true (by
     have:=Vx n X JL;rw [qb2] at this;exact List.all_eq_true.1 this)
    have hzc:∀ n,(∀ x,x∈Enc.cells It.zero→closed n x = true) = True:=fun n=>by simp
    have hzt:List.drop 39 (Enc.cells It.zero) = []:=zZ (by simp)
    refine Run.loopThen (fun (q:Nat × Nat × List Pr) e H'=>q.1≤17∧q.2.1≤s.l.length∧q.2.2.length = q.1∧(match QZ s.l (17 - q.1) q.2.1 with | none=>none | some (l,z)=>some (q.2.2 ++ l,z)) = R∧q1i X q.2.2 H' ∧
      qf e 0 = some (.vsl s.nil (qd s.l) s.l.length)∧qf e 2 = some (.optr 0 39 0)∧qf e 6 = some (.int .i64 (q.2.1:Nat))∧qf e 8 = some (.optr 1 39 0)∧qf e 10 = some (.int .i64 (q.1:Nat))) (fun q=>17 - q.1) (0,z,[]) ?_ ?_
    ·refine ⟨by simp,z1,rfl,?_,.inl ⟨rfl,?_⟩,by simp,by simp,by simp,by simp,by simp⟩
     ·show (match QZ s.l 17 z with | none=>none | some (l,z)=>some ([] ++ l,z)) = R;rw [hR];cases R <;> rfl
     ·rw [hX];simp [Xa];rfl
    clear hX hR hL z1 z3;rintro ⟨n,a,fs⟩ e H' ⟨hn17,ha,YY,hG,hH,k0,k2,k6,k8,k10⟩;simp only at hn17 ha YY hG hH k6 k10;by_cases hle:n≤16
    ·have jz:(n:Int)≤16:=(by omega);have QM:IntKind.i64.wrap ((n:Int)+1) = ((n+1:Nat):Int):=(by rw [wrap_i64] <;> omega);have hfu:17 - n = (16 - n)+1:=(by omega);rw [hfu,QZ] at hG;have zT:=qkv s hs a ha;cases hr:JZ (s.l.drop a) with
     | none =>
      rw [hr] at hG zT;simp only at hG zT;subst hG;rcases hH with ⟨rfl,rfl⟩ | ⟨qr,m,k,c3,t,u,hm,hk,rfl | ⟨c,v,w,rfl⟩ | ⟨c,v,w,y,rfl⟩⟩
      all_goals
       simp [k0,k2,k6,k8,k10,jz,zT,kK,hzt];rfl
     | some q =>
      obtain ⟨t,k⟩:=q;rw [hr] at hG zT;simp only at hG zT;obtain ⟨r1,r2⟩:=qfh hr;simp only [jQ] at r1;obtain ⟨j,hj⟩:∃ j,j = a+k:=⟨_,rfl⟩;rw [← hj] at hG zT;by_cases ht:t = []
      ·rw [if_pos ht] at hG;subst hG;subst ht;rcases hH with ⟨rfl,rfl⟩ | ⟨qr,m,k,c3,t,u,hm,hk,rfl | ⟨c,v,w,rfl⟩ | ⟨c,v,w,y,rfl⟩⟩
       ·simp [k0,k2,k6,k8,k10,jz,zT,jA,qbs,kK,JL,zV,qA,hzt];rw [QP];rfl
       all_goals
        have hst:=fun {i:Nat} {H:qi} (hg:(H[i]?).getD none = some (qg fs))=>qpS JL hm.symm hk.symm hg (j:Int) true;simp [-jy,k0,k2,k6,k8,k10,jz,zT,hst,jA,qbs,kK,JL,zV,qA,hzt];rw [QP];simp [Zn,qr,hk]
      ·rw [if_neg ht] at hG;have kb:=qqU t (by omega);have KS:List.take t.length (qd t) = qd t:=qu (by simp);generalize (J1 t).1 = p at *;generalize (J1 t).2 = ec at *;by_cases hec:ec = 0
       ·rw [if_pos hec] at hG;subst hec
        have hG2:∀ F:List Pr,F = fs ++ [p]→(match QZ s.l (17 - (n+1)) j with | none=>none | some (l,z)=>some (F ++ l,z)) = R:=by
         rintro F rfl;have e1:17 - (n+1) = 16 - n:=(by omega);rw [e1,← hG];cases QZ s.l (16 - n) j with
         | none=>rfl
         | some q=>simp
        rcases hH with ⟨rfl,rfl⟩ | ⟨qr,m,k',c3,u1,u2,hm,hk,rfl | ⟨c,v,w,rfl⟩ | ⟨c,v,w,y,rfl⟩⟩
        ·simp [k0,k2,k6,k8,k10,jz,zT,KS,kb,ht,jA,KY,qA,qF];exact ⟨n+1,by omega,by omega,j,by omega,[p],by simp at YY ⊢;omega,hG2 _ rfl,.inr ⟨by simp,2,1,t,p,p,rfl,rfl,.inl rfl⟩,by omega,QM⟩
        all_goals
         have qZ:fs.length = k':=hk.symm;have zh:k' * 2 = m:=(by omega);have zX:(k'+1) * 32≤140737488355328:=(by omega);have zx:k'+1≤140737488355328:=(by omega);have Jm:k'≤140737488355327:=by omega
        ·simp [k0,k2,k6,k8,k10,jz,zT,KS,kb,ht,jA,KY,qA,qF,qZ,zh,zX,zx];exact ⟨n+1,by omega,by omega,j,by omega,fs ++ [p],by simp;omega,hG2 _ rfl,.inr ⟨by simp,m+2,k'+1,c3,u1,u2,by simp;omega,by simp;omega,.inr (.inl ⟨t,some (Enc.cells (p:Pr)),some (Enc.cells (p:Pr)),by rw [Z0];rfl⟩)⟩,by omega,QM⟩
        ·simp [k0,k2,k6,k8,k10,jz,zT,KS,kb,ht,jA,KY,kK,qA,qF,qZ,zh,zX,zx];exact ⟨n+1,by omega,by omega,j,by omega,fs ++ [p],by simp;omega,hG2 _ rfl,.inr ⟨by simp,m+2,k'+1,c3,u1,u2,by simp;omega,by simp;omega,.inr (.inr ⟨c,some (qd t),some (Enc.cells (p:Pr)),some (Enc.cells (p:Pr)),by rw [Z0];rfl⟩)⟩,by omega,QM⟩
        ·simp [k0,k2,k6,k8,k10,jz,zT,KS,kb,ht,jA,KY,kK,qA,qF,qZ,zh,zX,zx];exact ⟨n+1,by omega,by omega,j,by omega,fs ++ [p],by simp;omega,hG2 _ rfl,.inr ⟨by simp,m+2,k'+1,c3,u1,u2,by simp;omega,by simp;omega,.inr (.inr ⟨c,some (qd t),some (Enc.cells (p:Pr)),some (Enc.cells (p:Pr)),by rw [Z0];rfl⟩)⟩,by omega,QM⟩
       ·rw [if_neg hec] at hG;have qbp:¬ ec = 0:=hec;by_cases h8:s.l.length < j+8
        ·rw [if_pos h8] at hG;simp only at hG;subst hG;have qo:=qr6 s j (by omega) h8 (by omega);rcases hH with ⟨rfl,rfl⟩ | ⟨qr,m,k',c3,u1,u2,hm,hk,rfl | ⟨c,v,w,rfl⟩ | ⟨c,v,w,y,rfl⟩⟩
         all_goals
          simp [k0,k2,k6,k8,k10,jz,zT,KS,kb,qbp,ht,qo,kK,hzt];rfl
        ·rw [if_neg h8] at hG;have qo:=qk3 s j (by omega) (by omega)
         have hN64:leN ((s.l.drop j).take 8) < 18446744073709551616:=by
          refine jM (Xz _) ?_;have VG:((s.l.drop j).take 8).length≤8:=(by simp;omega);exact kn (Y2 (by decide) VG) (by decide)
         obtain ⟨N,hN⟩:∃ N,N = leN ((s.l.drop j).take 8):=⟨_,rfl⟩;rw [← hN] at hG qo hN64;have w1:IntKind.i64.wrap ((s.l.length:Int) - (j:Int)) = (s.l.length:Int) - (j:Int):=(by rw [wrap_i64];omega);have w2:IntKind.i64.wrap ((s.l.length:Int) - (j:Int) - 8) = (s.l.length:Int) - (j:Int) - 8:=(by rw [wrap_i64];omega);by_cases hb1:256 < N
         ·rw [if_pos (.inl hb1)] at hG;simp only at hG;subst hG;have qbq:(256:Int) < (N:Int):=(by omega);rcases hH with ⟨rfl,rfl⟩ | ⟨qr,m,k',c3,u1,u2,hm,hk,rfl | ⟨c,v,w,rfl⟩ | ⟨c,v,w,y,rfl⟩⟩
          all_goals
           simp [k0,k2,k6,k8,k10,jz,zT,KS,kb,qbp,ht,qo,qbq,kK,hzt];rfl
         ·have qbq:¬ (256:Int) < (N:Int):=(by omega);have wN:IntKind.i64.wrap (N:Int) = (N:Int):=(by rw [wrap_i64] <;> omega);by_cases zy:s.l.length - j - 8≤N
          ·rw [if_pos (.inr (.inl zy))] at hG;simp only at hG;subst hG;have qaa:(s.l.length:Int) - (j:Int) - 8≤(N:Int):=(by omega);rcases hH with ⟨rfl,rfl⟩ | ⟨qr,m,k',c3,u1,u2,hm,hk,rfl | ⟨c,v,w,rfl⟩ | ⟨c,v,w,y,rfl⟩⟩
           all_goals
            simp [k0,k2,k6,k8,k10,jz,zT,KS,kb,qbp,ht,qo,qbq,w1,w2,wN,qaa,kK,hzt];rfl
          ·have qaa:¬ (s.l.length:Int) - (j:Int) - 8≤(N:Int):=(by omega);obtain ⟨j8,hj8⟩:∃ j8,j8 = j+8:=⟨_,rfl⟩;obtain ⟨P,hP⟩:∃ P,P = j8+N:=⟨_,rfl⟩;rw [← hj8,← hP] at hG;have w3:IntKind.i64.wrap ((j:Int)+8) = (j8:Int):=(by rw [wrap_i64] <;> omega);have w4:IntKind.i64.wrap ((j8:Int)+(N:Int)) = (P:Int):=(by rw [wrap_i64] <;> omega);have hPl:P < s.l.length:=(by omega);have hPl':(P:Int) < (s.l.length:Int):=(by omega);have hPle:(P:Int)≤(s.l.length:Int):=(by omega);have hPle2:P≤s.l.length:=(by omega);have hnn:=Sl.nn hPl;rw [hnn] at zT qo;have hA:=jo hPl;have hgd:s.l.getD P 0 = s.l[P]:=(by rw [List.getD,zg hPl];rfl);rw [hgd] at hG;generalize s.l[P] = c10 at *;by_cases ZH:c10 = 10
           ·have zR:¬ (256 < N∨s.l.length - j - 8≤N∨c10≠10):=by
             rintro (h | h | h)
             ·exact hb1 h
             ·exact zy h
             ·exact h ZH
            rw [if_neg zR] at hG;subst ZH;obtain ⟨V,hV⟩:∃ V,V = (s.l.drop j8).take N:=⟨_,rfl⟩;rw [← hV] at hG;have hVl:V.length = N:=(by rw [hV];simp;omega);have g1:(j8:Int)≤(P:Int):=(by omega);have g1n:j8≤P:=(by omega);have g2:((P:Int) - (j8:Int)).toNat = N:=(by omega);have g3:P - j8 = N:=(by omega);have tv:List.take N (List.drop j8 (qd s.l)) = qd V:=(by rw [Zb,kr,← hV]);have tvb:ky (qd V) = some V:=Yy _;have tvt:List.take N (qd V) = qd V:=qu (by simp;omega);have w5:IntKind.i64.wrap ((P:Int)+1) = ((P+1:Nat):Int):=(by rw [wrap_i64] <;> omega);clear hN hV
            have hG2:∀ F:List Pr,F = fs ++ [⟨t,V⟩]→(match QZ s.l (17 - (n+1)) (P+1) with | none=>none | some (l,z)=>some (F ++ l,z)) = R:=by
             rintro F rfl;have e1:17 - (n+1) = 16 - n:=(by omega);rw [e1,← hG];cases QZ s.l (16 - n) (P+1) with
             | none=>rfl
             | some q=>simp
            rcases hH with ⟨rfl,rfl⟩ | ⟨qr,m,k',c3,u1,u2,hm,hk,rfl | ⟨c,v,w,rfl⟩ | ⟨c,v,w,y,rfl⟩⟩
            ·simp [k0,k2,k6,k8,k10,jz,zT,KS,kb,ht,qbp,qo,qbq,w1,w2,wN,qaa,w3,w4,w5,hPl',hPle,hnn,hA,g1,g3,tv,tvb,hVl,jA,KY,qA,qF];exact ⟨n+1,by omega,by omega,(P+1),by omega,[⟨t,V⟩],by simp at YY ⊢;omega,hG2 _ rfl,.inr ⟨by simp,2,1,t,⟨t,V⟩,⟨t,V⟩,rfl,rfl,.inl rfl⟩,by omega,QM⟩
            all_goals
             have qZ:fs.length = k':=hk.symm;have zh:k' * 2 = m:=(by omega);have zX:(k'+1) * 32≤140737488355328:=(by omega);have zx:k'+1≤140737488355328:=(by omega);have Jm:k'≤140737488355327:=by omega
            ·simp [k0,k2,k6,k8,k10,jz,zT,KS,kb,ht,qbp,qo,qbq,w1,w2,wN,qaa,w3,w4,w5,hPl',hPle,hnn,hA,g1,g3,tv,tvb,hVl,jA,KY,qA,qF,qZ,zh,zX,zx];exact ⟨n+1,by omega,by omega,(P+1),by omega,fs ++ [⟨t,V⟩],by simp;omega,hG2 _ rfl,.inr ⟨by simp,m+2,k'+1,c3,u1,u2,by simp;omega,by simp;omega,.inr (.inl ⟨t,some (Enc.cells (⟨t,V⟩:Pr)),some (Enc.cells (⟨t,V⟩:Pr)),by rw [Z0];rfl⟩)⟩,by omega,QM⟩
            ·simp [k0,k2,k6,k8,k10,jz,zT,KS,kb,ht,qbp,qo,qbq,w1,w2,wN,qaa,w3,w4,w5,hPl',hPle,hnn,hA,g1,g3,tv,tvb,hVl,jA,KY,kK,qA,qF,qZ,zh,zX,zx];exact ⟨n+1,by omega,by omega,(P+1),by omega,fs ++ [⟨t,V⟩],by simp;omega,hG2 _ rfl,.inr ⟨by simp,m+2,k'+1,c3,u1,u2,by simp;omega,by simp;omega,.inr (.inr ⟨c,some (qd t),some (Enc.cells (⟨t,V⟩:Pr)),some (Enc.cells (⟨t,V⟩:Pr)),by rw [Z0];rfl⟩)⟩,by omega,QM⟩
            ·simp [k0,k2,k6,k8,k10,jz,zT,KS,kb,ht,qbp,qo,qbq,w1,w2,wN,qaa,w3,w4,w5,hPl',hPle,hnn,hA,g1,g3,tv,tvb,hVl,jA,KY,kK,qA,qF,qZ,zh,zX,zx];exact ⟨n+1,by omega,by omega,(P+1),by omega,fs ++ [⟨t,V⟩],by simp;omega,hG2 _ rfl,.inr ⟨by simp,m+2,k'+1,c3,u1,u2,by simp;omega,by simp;omega,.inr (.inr ⟨c,some (qd t),some (Enc.cells (⟨t,V⟩:Pr)),some (Enc.cells (⟨t,V⟩:Pr)),by rw [Z0];rfl⟩)⟩,by omega,QM⟩
           ·have hb3':¬ (c10.toNat:Int) = 10:=by
             intro e;exact ZH (UInt8.toNat_inj.1 (by show c10.toNat = 10;omega))
            have hb3n:¬ c10.toNat = 10:=(by omega);rw [if_pos (.inr (.inr ZH))] at hG;simp only at hG;subst hG;rcases hH with ⟨rfl,rfl⟩ | ⟨qr,m,k',c3,u1,u2,hm,hk,rfl | ⟨c,v,w,rfl⟩ | ⟨c,v,w,y,rfl⟩⟩
            all_goals
             simp [k0,k2,k6,k8,k10,jz,zT,KS,kb,qbp,ht,qo,qbq,w1,w2,wN,qaa,w3,w4,hPl',hnn,hA,hb3',kK,hzt];rfl
    ·have jz:¬ (n:Int)≤16:=(by omega);have hfu:17 - n = 0:=(by omega);rw [hfu,QZ] at hG;simp only at hG;subst hG;rcases hH with ⟨rfl,rfl⟩ | ⟨qr,m,k,c3,t,u,hm,hk,rfl | ⟨c,v,w,rfl⟩ | ⟨c,v,w,y,rfl⟩⟩
     all_goals
      simp [k0,k2,k6,k8,k10,jz,kK,hzt];rfl
   ·rw [if_neg vc];cases b1 with
    | false=>simp [Tryz.f152,hl,n1,n2,n3,i4,i5,hq,hb,zV,qA,zA];rfl
    | true =>
     cases b2 with
     | false=>simp [Tryz.f152,hl,n1,n2,n3,i4,i5,hq,hb,zV,qA,zA];rfl
     | true =>
      cases b3 with
      | false=>simp [Tryz.f152,hl,n1,n2,n3,i4,i5,hq,hb,zV,qA,zA];rfl
      | true =>
       cases b4 with
       | false=>simp [Tryz.f152,hl,n1,n2,n3,i4,i5,hq,hb,zV,qA,zA];rfl
       | true =>
        cases b5 with
        | false=>simp [Tryz.f152,hl,n1,n2,n3,i4,i5,hq,hb,zV,qA,zA];rfl
        | true=>exact absurd rfl vc
theorem qkc [MaxL] (it:It) (hi:it.Ok) (hb:∀ p∈it.rc.fields.l,Qv p) (hn:it.rc.fields.l.length < 1000000):call cx 89 [.agg (Enc.cells it)] [] = some (qbK it,[]):=by
 unfold qbK zF;cases ho:zK it with
 | false=>exact qqP it hi hb hn ho
 | true =>
  cases hg:it.gap with
  | true=>exact qqO it hi hg hb hn ho
  | false=>exact qqM it hi hg ho
theorem qdN (s:List UInt8):qy ((ja s).getD 0:Nat):=by
 have:(ja s).getD 0 < 18446744073709551616:=by
  cases h:ja s with
  | none=>decide
  | some v =>
   unfold ja at h;split at h
   ·cases h
   ·exact qcC 10 _ _ _ (by decide) h
 unfold qy;omega
theorem It.zero_ok:It.zero.Ok:=⟨Y4,Y4,Rec.zero_ok⟩
structure ReadQ (b:List UInt8) (q:It × Nat × Bool):Prop where
 ok:q.1.Ok
 bs:∀ p∈q.1.rc.fields.l,p.name.length≤b.length∧p.value.length≤b.length
 n:q.1.rc.fields.l.length≤17
 le:q.2.1≤b.length
theorem qdA (b:List UInt8):ReadQ b (It.zero,0,false):=⟨It.zero_ok,fun p hp=>(by cases hp),jg _,jg _⟩
theorem qrD (b:List UInt8):ReadQ b (Kc b):=by
 unfold Kc;split
 ·rename_i x y w z hL;obtain ⟨z1,-,-⟩:=qdS (jg _) hL;split
  ·exact qdA b
  ·exact ⟨⟨qdN _,qdN _,Rec.zero_ok⟩,fun p hp=>(by cases hp),jg _,z1⟩
 ·exact qdA b
theorem qrQ (b:List UInt8):ReadQ b (Y8 b):=by
 unfold Y8;split
 ·rename_i x0 x1 x2 x3 x4 x5 z hL;obtain ⟨z1,-,-⟩:=qdS (jg _) hL;split
  ·cases hF:QZ b 17 z with
   | none=>exact qdA b
   | some q =>
    obtain ⟨l,z'⟩:=q;obtain ⟨f1,f2,f3⟩:=qhd b 17 z l z' z1 hF;exact ⟨⟨Y4,Y4,qdN _,qdN _,qdN _⟩,f3,f2,f1⟩
  ·exact qdA b
 ·exact qdA b
def Zp (b:List UInt8):It × Nat × Bool:=if (Kc b).2.2 then Kc b else Y8 b
theorem qgZ (b:List UInt8):ReadQ b (Zp b):=by
 unfold Zp;split
 ·exact qrD b
 ·exact qrQ b
def qa8 (b:List UInt8):Bool:=(Zp b).2.2 && (zK (Zp b).1 && (zF (Zp b).1 == b.take (Zp b).2.1))
def qfd (b:List UInt8):D:=if qa8 b then .tup [.agg (Enc.cells (Zp b).1),.int .i64 ((Zp b).2.1:Nat),.int .i64 0] else .tup [.agg (Enc.cells It.zero),.int .i64 0,.int .i64 20]
set_option maxHeartbeats 4000000 in
set_option maxRecDepth 8000 in
theorem qrg [MaxL] (s:Sl UInt8) (hs:s.l.length < 1000000):call cx 118 [(.vsl s.nil (qd s.l) s.l.length)] [] = some (qfd s.l,[]):=by
 have hg:=qrA s hs;have he:=qrO s hs;obtain ⟨q1,q2,q3,q4⟩:=qgZ s.l
 have hb:∀ p∈(Zp s.l).1.rc.fields.l,Qv p:=fun p hp=>by
  have:=q2 p hp;exact ⟨by omega,by omega⟩
 have hr:=qd1 (Zp s.l).1 q1 hb (by omega);have ht:=qkc (Zp s.l).1 q1 hb (by omega);clear q1 q2 q3 hb;unfold qfd qa8;have hS:Zp s.l = if (Kc s.l).2.2 then Kc s.l else Y8 s.l:=rfl;unfold qd6 at hg he;unfold qbK at ht;generalize Zp s.l = q at *;obtain ⟨it,n,b⟩:=q;simp only at hr ht q4 ⊢;generalize Kc s.l = g at *;obtain ⟨gi,gn,gb⟩:=g;generalize Y8 s.l = q at *;obtain ⟨ei,en,eb⟩:=q;simp only at hg he hS;have q4':(n:Int)≤(s.l.length:Int):=by omega
 have t1:List.take n (qd s.l) = qd (s.l.take n):=kr _ _;have t1l:(s.l.take n).length = n:=by simp;omega
 have t1b:ky (qd (s.l.take n)) = some (s.l.take n):=Yy _;have t1t:List.take n (qd (s.l.take n)) = qd (s.l.take n):=qu (by simp;omega);refine qq Tryz.func118 rfl ⟨rfl,rfl⟩ ?_;cases gb with
 | true =>
  simp only [if_true,qM] at hS;obtain ⟨rfl,rfl,rfl⟩:=hS;cases ho:zK it with
  | false =>
   rw [ho] at hr;simp [Tryz.f118,hg,hr];rfl
  | true =>
   rw [ho] at hr ht;simp only [if_true] at ht;generalize zF it = t at *;have tt:List.take t.length (qd t) = qd t:=qu (by simp);have ttb:ky (qd t) = some t:=Yy _;by_cases hEq:t = s.l.take n
   ·have zy:(t == s.l.take n) = true:=(by rw [hEq];simp);simp [Tryz.f118,hg,hr,ht,q4',t1,t1l,t1b,ttb,zy]
   ·have zy:(t == s.l.take n) = false:=beq_eq_false_iff_ne.2 hEq;simp [Tryz.f118,hg,hr,ht,q4',t1,t1l,t1b,ttb,zy];rfl
 | false =>
  simp only [vC,if_false,qM] at hS;obtain ⟨rfl,rfl,rfl⟩:=hS;cases b with
  | false =>
   simp [Tryz.f118,hg,he];rfl
  | true =>
   cases ho:zK it with
   | false =>
    rw [ho] at hr;simp [Tryz.f118,hg,he,hr];rfl
   | true =>
    rw [ho] at hr ht;simp only [if_true] at ht;generalize zF it = t at *;have tt:List.take t.length (qd t) = qd t:=qu (by simp);have ttb:ky (qd t) = some t:=Yy _;by_cases hEq:t = s.l.take n
    ·have zy:(t == s.l.take n) = true:=(by rw [hEq];simp);simp [Tryz.f118,hg,he,hr,ht,q4',t1,t1l,t1b,ttb,zy]
    ·have zy:(t == s.l.take n) = false:=beq_eq_false_iff_ne.2 hEq;simp [Tryz.f118,hg,he,hr,ht,q4',t1,t1l,t1b,ttb,zy];rfl
theorem qnA {k:Nat} (h:k < 10):Xd (UInt8.ofNat (48+k)) = some k:=by
 have e:(UInt8.ofNat (48+k)).toNat = 48+k:=VR (show 48+k < 256 by omega);unfold Xd;rw [if_pos (by rw [e];omega),e];congr 1;omega
theorem qkV (b:Nat):∀ (l r:List UInt8) (n:Nat),jv b (l ++ r) n = match jv b l n with
  | none=>none
  | some m=>jv b r m
 | [],r,n=>by simp [jv]
 | c :: l,r,n=>by
  simp only [vU,jv];cases Xd c with
  | none=>rfl
  | some d =>
   simp only;split
   ·rfl
   ·split
    ·rfl
    ·exact qkV b l r _
theorem qkT:∀ (f v:Nat),v < 10 ^ f→1≤f→v < 18446744073709551616→jv 10 (km f v) 0 = some v
 | f+1,v,h,_,VM=>by
  rw [km];by_cases hv:v < 10
  ·rw [if_pos hv];simp only [jv,qnA hv];rw [if_neg (by omega),if_neg (by omega)];congr 1;omega
  ·rw [if_neg hv,qkV]
   have hf:1≤f:=by
    rcases f with _ | f
    ·simp at h;omega
    ·omega
   rw [qkT f (v / 10) (by rw [XJ] at h;omega) hf (by omega)];simp only [jv,qnA (JU v (by decide:10 > 0))];rw [if_neg (by omega),if_neg (by omega)];congr 1;omega
theorem qnQ:∀ (f v:Nat),v < 10 ^ f→(km f v).head? = some 48→v = 0∧(km f v).length≤1
 | 0,v,_,h=>by simp [km] at h
 | f+1,v,hv,h=>by
  rw [km] at h ⊢;by_cases jc:v < 10
  ·rw [if_pos jc] at h ⊢;simp only [List.head?_cons,qs] at h;have:=congrArg UInt8.toNat h;rw [VR (show 48+v < 256 by omega)] at this;simp at this;exact ⟨by omega,by simp⟩
  ·rw [if_neg jc] at h;exfalso;rcases f with _ | f
   ·simp at hv;omega
   ·have hp:v / 10 < 10 ^ (f+1):=by rw [XJ] at hv;omega
    have qr:km (f+1) (v / 10)≠[]:=by
     rw [km];split <;> simp
    have h':(km (f+1) (v / 10)).head? = some 48:=by
     obtain ⟨a,l,kx⟩:=List.exists_cons_of_ne_nil qr;rw [kx] at h ⊢;exact h
    have:=(qnQ (f+1) (v / 10) hp h').1;omega
theorem qbX {v:Nat} (h:v < 18446744073709551616):ja (qD v) = some v:=by
 have h1:=qnK v;have h2:=kL v;have h3:=qnQ 20 v (Nat.lt_trans h (by decide));unfold ja;rw [if_neg]
 ·exact qkT 20 v (Nat.lt_trans h (by decide)) (by decide) h
 ·rintro (e | e | ⟨e1,e2⟩)
  ·rw [e] at h1;simp at h1
  ·omega
  ·have:=(h3 e1).2;unfold qD at e2;omega
theorem qnR:∀ (f v:Nat),∀ x∈km f v,48≤x.toNat∧x.toNat≤57
 | 0,_,x,h=>by simp [km] at h
 | f+1,v,x,h=>by
  rw [km] at h;split at h
  ·rename_i hv;rw [List.mem_singleton.1 h,VR (show 48+v < 256 by omega)];omega
  ·rcases List.mem_append.1 h with h | h
   ·exact qnR f _ x h
   ·rw [List.mem_singleton.1 h,VR (show 48+v % 10 < 256 by omega)];omega
theorem qnM (v:Nat):∀ x∈qD v,48≤x.toNat∧x.toNat≤57:=qnR 20 v
theorem qfR:∀ k,k < 16→48≤(jI k).toNat:=by decide
theorem qdY:∀ (l:List UInt8),∀ x∈zq l,48≤x.toNat
 | [],x,h=>by simp [zq] at h
 | b :: l,x,h=>by
  rw [zq] at h;have hb:=b.toNat_lt;rcases List.mem_cons.1 h with rfl | h
  ·exact qfR _ (by omega)
  ·rcases List.mem_cons.1 h with rfl | h
   ·exact qfR _ (by omega)
   ·exact qdY l x h
theorem qea:∀ (f v:Nat),∀ x∈Qr f v,48≤x.toNat
 | 0,_,x,h=>by simp [Qr] at h
 | f+1,v,x,h=>by
  rw [Qr] at h;split at h
  ·rename_i hv;rw [List.mem_singleton.1 h];exact qfR _ hv
  ·rcases List.mem_append.1 h with h | h
   ·exact qea f _ x h
   ·rw [List.mem_singleton.1 h];exact qfR _ (JU _ (by decide))
theorem qqo (c:Cur):∀ x∈JY c,48≤x.toNat:=by
 intro x h;unfold JY at h;simp only [qbD] at h;have k:∀ l:List UInt8,(∀ y∈l,48≤y.toNat)→x∈l→48≤x.toNat:=fun l hl hx=>hl x hx;rcases h with h | h | h | h | h | h | h | h | h | h | h | h
 ·exact k kS (by decide) h
 ·exact qdY _ x h
 ·exact k kI (by decide) h
 ·exact qea 16 _ x h
 ·exact k kB (by decide) h
 ·exact qdY _ x h
 ·exact k kM (by decide) h
 ·exact qea 16 _ x h
 ·exact k kT (by decide) h
 ·exact qea 16 _ x h
 ·exact k kX (by decide) h
 ·exact qea 16 _ x h
theorem qfz {x c:UInt8} (h:c.toNat < x.toNat):x≠c:=by rintro rfl;omega
theorem qfy {l:List UInt8} (h:∀ x∈l,48≤x.toNat):∀ x∈l,x≠10:=fun x hx=>qfz (by have:=h x hx;show 10 < x.toNat;omega)
theorem Xw {a b:List UInt8} (ha:∀ x∈a,x≠10) (hb:∀ x∈b,x≠10):∀ x∈a ++ b,x≠10:=fun x hx=>(List.mem_append.1 hx).elim (ha x) (hb x)
theorem qfK (c:UInt8):∀ (A B:List UInt8) (n:Nat),(∀ x∈A,x≠c)→qX c (A ++ c :: B) n = ((n+A.length:Nat):Int)
 | [],B,n,_=>by simp [qX]
 | x :: A,B,n,h=>by
  rw [vU,qX,if_neg (h x (by simp)),qfK c A B (n+1) fun y hy=>h y (by simp [hy])];simp;omega
theorem qmr (c:UInt8):∀ (A:List UInt8) (n:Nat),(∀ x∈A,x≠c)→qX c A n = -1
 | [],n,_=>by simp [qX]
 | x :: A,n,h=>by rw [qX,if_neg (h x (by simp)),qmr c A (n+1) fun y hy=>h y (by simp [hy])]
theorem qiB (c:UInt8) {A:List UInt8} (h:∀ x∈A,x≠c) (B:List UInt8):jL [c] (A ++ c :: B) = (A,B,true):=by
 have h1:=qmm c A B 0 h;rw [vT] at h1;unfold jL;rw [h1,if_neg (by omega)];have e:((A.length:Nat):Int).toNat = A.length:=by omega
 rw [e];simp [qA]
theorem qaP {A:List UInt8} (h:∀ x∈A,x≠10) (B:List UInt8):jW (A ++ 10 :: B) = A:=by unfold jW;rw [qiB 10 h]
theorem qaO {A:List UInt8} (h:∀ x∈A,x≠10) (B:List UInt8):zH (A ++ 10 :: B) = B:=by unfold zH;rw [qiB 10 h]
theorem qd3 {A:List UInt8} (h:∀ x∈A,x≠10) (B:List UInt8):JZ (A ++ 10 :: B) = some (A,A.length+1):=by
 have h1:=qfK 10 A B 0 h;rw [vT] at h1;unfold JZ;rw [h1,if_neg (by omega)];have e:((A.length:Nat):Int).toNat = A.length:=by omega
 rw [e];simp
theorem qht (p x:List UInt8):pre p (p ++ x) = true:=by unfold pre;simp
theorem qbJ (p x:List UInt8):ve p (p ++ x) = x:=by unfold ve;rw [if_pos (qht p x)];simp
theorem qaE {v:Nat} (h:v < 18446744073709551616):pu 10 (qD v) = some v:=by
 have hn:=qbX h;have hp:=qnK v;unfold ja at hn;split at hn
 ·cases hn
 ·unfold pu;rw [if_neg (by intro e;rw [e] at hp;simp at hp)];exact hn
theorem qnC (A B:List UInt8):(A ++ 10 :: B).drop (A.length+1) = B:=by
 rw [qA];simp
theorem YF {b B x f:List UInt8} {a:Nat} {fs:List (List UInt8)} (hb:b.drop a = (f ++ x) ++ 10 :: B) (jc:∀ y∈f ++ x,y≠10) {l:List (List UInt8)} {z:Nat} (h:Q5 b (a+((f ++ x).length+1)) fs = some (l,z)) :
  Q5 b a (f :: fs) = some (x :: l,z):=by
 rw [Q5,hb,qd3 jc];simp only [qht,if_true,h];simp
theorem qaq {b A B:List UInt8} {a:Nat} (hb:b.drop a = A ++ 10 :: B):b.drop (a+(A.length+1)) = B:=by
 rw [← kC,hb,qnC]
theorem qhA {n:List UInt8} (h:kU n = true):n≠[]∧n.length≤64∧∀ x∈n,48≤x.toNat∧x≠61:=by
 unfold kU at h;split at h
 ·cases h
 ·rename_i c l;simp only [qR,decide_eq_true_eq,Y3] at h;refine ⟨by simp,h.1.1,fun x hx=>?_⟩;have:=h.2 x hx;unfold Zc at this;simp only [qbG,qR,decide_eq_true_eq] at this;refine ⟨by omega,?_⟩;rintro rfl;have e:(61:UInt8).toNat = 61:=rfl;rw [e] at this;omega
theorem qhx {v:List UInt8} (h:Xr v = true):∀ x∈v,x≠10:=by
 intro x hx;unfold Xr at h;have:=List.all_eq_true.1 h x hx;unfold Z5 at this;rintro rfl;revert this;decide
theorem qkZ {p:Pr} (h:kR p = true):kU p.name = true∧p.value.length≤256:=by
 unfold kR at h;simp only [qR,decide_eq_true_eq] at h;exact h
theorem qoD:∀ (A B:List UInt8) (c:UInt8) (n:Nat),(∀ x∈A,x≠61∧x≠10)→c = 61∨c = 10→zU (A ++ c :: B) n = ((n+A.length:Nat):Int)
 | [],B,c,n,_,hc=>by simp [zU,hc]
 | x :: A,B,c,n,h,hc=>by
  have hx:=h x (by simp);rw [vU,zU,if_neg (by rintro (e | e);exact hx.1 e;exact hx.2 e),qoD A B c (n+1) (fun y hy=>h y (by simp [hy])) hc];simp;omega
theorem quj (v:Nat) (hv:v < 18446744073709551616) (R:List UInt8):Q6 (qG 8 v ++ R) 0 8 = some v:=by
 have hl:=X1 8 v;unfold Q6;rw [if_pos ⟨by decide,by decide,by simp [hl];omega⟩]
 have e:((qG 8 v ++ R).drop (0:Int).toNat).take (8:Int).toNat = qG 8 v:=by
  show ((qG 8 v ++ R).drop 0).take 8 = _;rw [List.drop_zero,List.take_left' hl]
 rw [e,qhQ,qbB (by simpa using hv)]
theorem qsL {p:Pr} (h:kR p = true) (R:List UInt8):Ql (Q0 p ++ R) = some (p,R):=by
 obtain ⟨hn,hv⟩:=qkZ h;obtain ⟨n0,n1,n2⟩:=qhA hn;have qr:∀ x∈p.name,x≠61∧x≠10:=fun x hx=>⟨(n2 x hx).2,qfz (by have:=(n2 x hx).1;show 10 < x.toNat;omega)⟩
 have kc:1≤p.name.length:=by
  cases hc:p.name with
  | nil=>exact absurd hc n0
  | cons=>simp
 have gen:∀ (c:UInt8) (T:List UInt8),c = 61∨c = 10→Ql (p.name ++ c :: T) = if c = 61 then some (⟨p.name,jW T⟩,zH T) else match Q6 T 0 8 with
   | none=>none
   | some n=>if 256 < n∨T.length < 9+n then none else some (⟨p.name,(T.drop 8).take n⟩,T.drop (9+n)):=by
  intro c T hc;have ha:=qoD p.name T c 0 qr hc;rw [vT] at ha;have e:((p.name.length:Nat):Int).toNat = p.name.length:=by omega
  have d1:(p.name ++ c :: T).drop (p.name.length+1) = T:=by rw [qA];simp
  have d2:(p.name ++ c :: T).getD p.name.length 0 = c:=by simp [List.getD]
  have d3:(p.name ++ c :: T).take p.name.length = p.name:=by simp
  unfold Ql;rw [ha,if_neg (by omega),e,d1,d2,d3]
  all_goals (cases Q6 T 0 8 <;> rfl)
 unfold Q0;cases hp:Xr p.value with
 | true =>
  have e:(if true = true then ((p.name ++ [61]) ++ p.value) ++ [10] else (((p.name ++ [10]) ++ qG 8 p.value.length) ++ p.value) ++ [10]) ++ R = p.name ++ 61 :: (p.value ++ 10 :: R):=by simp
  rw [e,gen 61 _ (.inl rfl),if_pos rfl,qaP (qhx hp),qaO (qhx hp)]
 | false =>
  have e:(if false = true then ((p.name ++ [61]) ++ p.value) ++ [10] else (((p.name ++ [10]) ++ qG 8 p.value.length) ++ p.value) ++ [10]) ++ R = p.name ++ 10 :: (qG 8 p.value.length ++ (p.value ++ 10 :: R)):=by simp
  rw [e,gen 10 _ (.inr rfl),if_neg (by decide),quj _ (by omega)];have hl:=X1 8 p.value.length
  have zR:¬ (256 < p.value.length∨(qG 8 p.value.length ++ (p.value ++ 10 :: R)).length < 9+p.value.length):=by
   rintro (h | h)
   ·omega
   ·simp [hl] at h;omega
  simp only [zR,if_false];have d1:(qG 8 p.value.length ++ (p.value ++ 10 :: R)).drop 8 = p.value ++ 10 :: R:=qcx hl
  have d2:(qG 8 p.value.length ++ (p.value ++ 10 :: R)).drop (9+p.value.length) = R:=by
   rw [show 9+p.value.length = 8+(p.value.length+1) by omega,← kC,d1,qnC]
  rw [d1,d2];simp
theorem qsM (R:List UInt8):Ql (10 :: R) = none:=by
 unfold Ql;rw [if_pos (by simp [zU])]
theorem qnd:∀ (F:List Pr) (n:Nat) (R:List UInt8),F.length≤n→(∀ p∈F,kR p = true)→QU n (jl F ++ 10 :: R) = F
 | [],0,R,_,_=>rfl
 | [],n+1,R,_,_=>by
  rw [QU];show (match Ql (10 :: R) with | none=>[] | some (p,r)=>p :: QU n r) = [];rw [qsM]
 | p :: F,0,R,h,_=>by simp at h
 | p :: F,n+1,R,h,hp=>by
  have e:jl (p :: F) ++ 10 :: R = Q0 p ++ (jl F ++ 10 :: R):=by simp [jl]
  rw [e,QU,qsL (hp p (by simp))];show p :: QU n (jl F ++ 10 :: R) = _;rw [qnd F n R (by simpa using h) fun q hq=>hp q (by simp [hq])]
theorem qqb {n v:List UInt8} (hn:kU n = true) (hv:v.length≤256):J1 (n ++ 61 :: v) = (⟨n,v⟩,0):=by
 obtain ⟨n0,n1,n2⟩:=qhA hn;have h1:=qfK 61 n v 0 (fun x hx=>(n2 x hx).2);rw [vT] at h1;have e:((n.length:Nat):Int).toNat = n.length:=by omega
 have d1:(n ++ 61 :: v).take n.length = n:=by simp
 have d2:(n ++ 61 :: v).drop (n.length+1) = v:=by rw [qA];simp
 unfold J1;rw [h1,if_neg (by omega),e,d1,if_neg (by rw [hn];simp),if_neg (by simp;omega),d2]
theorem qqa {n:List UInt8} (h:∀ x∈n,x≠61):(J1 n).2 = 20:=by
 unfold J1;rw [if_pos (by rw [qmr 61 n 0 h];decide)]
theorem qk5:∀ (F:List Pr) (n:Nat) (b R:List UInt8) (a:Nat),F.length < n→(∀ p∈F,kR p = true)→b.drop a = jl F ++ 10 :: R→QZ b n a = some (F,a+(jl F).length+1)
 | [],n+1,b,R,a,_,_,hb=>by
  replace hb:b.drop a = [] ++ 10 :: R:=hb;rw [QZ,hb,qd3 (by intro x hx;cases hx)];rfl
 | p :: F,n+1,b,R,a,h,hp,hb=>by
  have hpo:=hp p (by simp);obtain ⟨hn,hv⟩:=qkZ hpo;obtain ⟨n0,n1,n2⟩:=qhA hn;have qr:∀ x∈p.name,x≠10:=fun x hx=>qfz (by have:=(n2 x hx).1;show 10 < x.toNat;omega);have Zk:(jl (p :: F)).length = (Q0 p).length+(jl F).length:=by simp [jl]
  have hb1:b.drop a = Q0 p ++ (jl F ++ 10 :: R):=by rw [hb];simp [jl]
  have zl:b.length = a+((Q0 p).length+(jl F ++ 10 :: R).length):=by
   have h1:=congrArg List.length hb1;rw [jQ,qC] at h1;have h2:1≤(jl F ++ 10 :: R).length:=(by simp;omega);omega
  have hnext:b.drop (a+(Q0 p).length) = jl F ++ 10 :: R:=by
   rw [← kC,hb1];simp
  have ih:=qk5 F n b R (a+(Q0 p).length) (by simpa using h) (fun q hq=>hp q (by simp [hq])) hnext;rw [QZ];unfold Q0 at hb1 zl Zk ih;cases hpv:Xr p.value with
  | true =>
   rw [hpv,if_pos rfl] at hb1 zl Zk ih;have e:((p.name ++ [61]) ++ p.value) ++ [10] ++ (jl F ++ 10 :: R) = (p.name ++ 61 :: p.value) ++ 10 :: (jl F ++ 10 :: R):=by simp
   have jc:∀ x∈p.name ++ 61 :: p.value,x≠10:=by
    intro x hx;rcases List.mem_append.1 hx with hx | hx
    ·exact qr x hx
    ·rcases List.mem_cons.1 hx with rfl | hx
     ·decide
     ·exact qhx hpv x hx
   rw [hb1,e,qd3 jc];simp only;rw [if_neg (by simp),qqb hn hv,if_pos rfl];have ea:a+((p.name ++ 61 :: p.value).length+1) = a+(((p.name ++ [61]) ++ p.value) ++ [10]).length:=(by simp;omega);rw [ea,ih];simp only [qs,qM,true_and];omega
  | false =>
   rw [hpv,if_neg (by decide)] at hb1 zl Zk ih;have e:(((p.name ++ [10]) ++ qG 8 p.value.length) ++ p.value) ++ [10] ++ (jl F ++ 10 :: R) = p.name ++ 10 :: (qG 8 p.value.length ++ (p.value ++ 10 :: (jl F ++ 10 :: R))):=(by simp);rw [e] at hb1;have VG:=X1 8 p.value.length;have Yn:b.drop (a+(p.name.length+1)) = qG 8 p.value.length ++ (p.value ++ 10 :: (jl F ++ 10 :: R)):=qaq hb1
   have vS:b.drop (a+(p.name.length+1)+8) = p.value ++ 10 :: (jl F ++ 10 :: R):=by
    rw [← kC,Yn];exact qcx VG
   have hd3:b.drop (a+(p.name.length+1)+8+p.value.length) = 10 :: (jl F ++ 10 :: R):=by
    rw [← kC,vS];simp
   have hN:leN ((b.drop (a+(p.name.length+1))).take 8) = p.value.length:=by
    rw [Yn,List.take_left' VG,qhQ,qbB (by omega)]
   have hlen2:b.length = a+(p.name.length+1)+8+p.value.length+1+(jl F ++ 10 :: R).length:=by
    rw [zl];simp [VG];omega
   have hg:b.getD (a+(p.name.length+1)+8+p.value.length) 0 = 10:=by
    have h1:=QC (xs:=b) (i:=a+(p.name.length+1)+8+p.value.length) (j:=0);rw [hd3] at h1;simp at h1;rw [List.getD,show a+(p.name.length+1)+8+p.value.length = a+(p.name.length+1)+8+p.value.length from rfl,← h1];rfl
   rw [hb1,qd3 qr];simp only
   rw [if_neg n0,if_neg (by rw [qqa fun x hx=>(n2 x hx).2];decide),hN,if_neg (by omega),if_neg (by
    rintro (h | h | h)
    ·omega
    ·omega
    ·exact h hg)]
   have ea:a+(p.name.length+1)+8+p.value.length+1 = a+((((p.name ++ [10]) ++ qG 8 p.value.length) ++ p.value) ++ [10]).length:=(by simp [VG];omega);rw [ea,ih,vS];simp only [qs,qM,List.take_left'];refine ⟨by simp,?_⟩;omega
def KN (it:It):It:=if it.gap then ⟨it.id,true,it.fr,it.til,Rec.zero⟩ else it
theorem qcP (a:List UInt8) (L:List (List UInt8)) (R:List UInt8):Zv (a :: L) ++ R = a ++ 10 :: (Zv L ++ R):=by simp [Zv]
theorem qxS (R:List UInt8):Zv [] ++ R = R:=by simp [Zv]
theorem qdn (it:It) (more:List UInt8):vp it ++ more = (KP ++ JY (JQ it.id it.rc)) ++ 10 :: ((JE ++ qD it.rc.real.toNat) ++ 10 :: ((JF ++ qD it.rc.mono.toNat) ++ 10 :: ((JD ++ qD it.rc.seq.toNat) ++ 10 :: ((jS ++ zq it.id.l) ++ 10 :: ((Z7 ++ zq it.rc.boot.l) ++ 10 :: (jl it.rc.fields.l ++ 10 :: more)))))):=by
 unfold vp J2;rw [ko,ko,qcP,qcP,qcP,qcP,qcP,qcP,qxS];rfl
theorem qeM (it:It) (more:List UInt8):J0 it ++ more = (jO ++ (qD it.fr.toNat ++ 45 :: qD it.til.toNat)) ++ 10 :: ((jS ++ zq it.id.l) ++ 10 :: ([] ++ 10 :: more)):=by
 unfold J0;simp
theorem k10:(∀ x∈KP,x≠10)∧(∀ x∈JE,x≠10)∧(∀ x∈JF,x≠10)∧(∀ x∈JD,x≠10)∧(∀ x∈jS,x≠10)∧(∀ x∈Z7,x≠10)∧∀ x∈jO,x≠10:=by decide
theorem qb0 (v:Nat):∀ x∈qD v,x≠10:=qfy fun x h=>(qnM v x h).1
theorem qnS (v:Nat):∀ x∈qD v,x≠45:=fun x h=>qfz (by have:=(qnM v x h).1;show 45 < x.toNat;omega)
theorem qir (it:It):∀ x∈jO ++ (qD it.fr.toNat ++ 45 :: qD it.til.toNat),x≠10:=by
 refine Xw k10.2.2.2.2.2.2 (Xw (qb0 _) fun x h=>?_);rcases List.mem_cons.1 h with rfl | h
 ·decide
 ·exact qb0 _ x h
theorem qfM (i:ID):∀ x∈jS ++ zq i.l,x≠10:=Xw k10.2.2.2.2.1 (qfy (qdY _))
theorem qo0 (i:ID):∀ x∈Z7 ++ zq i.l,x≠10:=Xw k10.2.2.2.2.2.1 (qfy (qdY _))
theorem qhz (c:Cur):∀ x∈KP ++ JY c,x≠10:=Xw k10.1 (qfy (qqo _))
theorem qiq {it:It} (hi:it.Ok) (ho:zK it = true) (hg:it.gap = true):it.fr.toNat < 18446744073709551616∧it.til.toNat < 18446744073709551616∧((it.fr.toNat:Nat):Int) = it.fr∧((it.til.toNat:Nat):Int) = it.til∧it.rc.seq = 0∧it.rc.real = 0∧it.rc.mono = 0∧it.rc.boot = ID.zero∧it.rc.fields.l = []∧qak it = true:=by
 have h1:=hi.fr;have h2:=hi.til;unfold qy at h1 h2;unfold zK at ho;rw [hg,if_pos rfl] at ho;have ho':=ho;unfold qak at ho;simp only [qR,decide_eq_true_eq] at ho;obtain ⟨⟨⟨⟨⟨⟨a1,a2⟩,a3⟩,a4⟩,a5⟩,a6⟩,a7⟩:=ho;exact ⟨by omega,by omega,by omega,by omega,a3,a4,a5,a6,VV a7,ho'⟩
theorem qhm {it:It} (hi:it.Ok) (ho:zK it = true) (hg:it.gap = false):(it.rc.real.toNat < 18446744073709551616∧it.rc.mono.toNat < 18446744073709551616∧it.rc.seq.toNat < 18446744073709551616)∧(((it.rc.real.toNat:Nat):Int) = it.rc.real∧((it.rc.mono.toNat:Nat):Int) = it.rc.mono∧((it.rc.seq.toNat:Nat):Int) = it.rc.seq)∧it.fr = 0∧it.til = 0∧1≤it.rc.fields.l.length∧it.rc.fields.l.length≤16∧(∀ p∈it.rc.fields.l,kR p = true)∧Zq it = true:=by
 have h1:=hi.rc.seq;have h2:=hi.rc.real;have h3:=hi.rc.mono;unfold qy at h1 h2 h3;unfold zK at ho;rw [hg,if_neg (by decide)] at ho;have ho':=ho;unfold Zq at ho;simp only [qR,decide_eq_true_eq,Y3] at ho;obtain ⟨⟨⟨⟨⟨a1,a2⟩,a3⟩,a4⟩,a5⟩,a6⟩:=ho;exact ⟨⟨by omega,by omega,by omega⟩,⟨by omega,by omega,by omega⟩,a1,a2,a4,a5,a6,ho'⟩
theorem qjL (s:Sl Pr) (h:1≤s.l.length):Zn s.l = s:=by
 obtain ⟨n,l,hn⟩:=s;cases l with
 | nil=>simp at h
 | cons a l =>
  cases n with
  | true=>exact absurd (hn rfl) (by simp)
  | false=>rfl
theorem qyg {it:It} (hi:it.Ok) (ho:zK it = true) (hg:it.gap = true) (more:List UInt8):qby (J0 it ++ more) = KN it:=by
 obtain ⟨f1,t1,f2,t2,-⟩:=qiq hi ho hg;unfold qby KN;rw [qeM,qaP (qir it),qaO (qir it),qbJ,qiB 45 (qnS _),hg,if_pos rfl];simp only [qaE f1,qaE t1,Ju,f2,t2];unfold Qo;rw [qaP (qfM it.id),qbJ,qdV]
theorem qyT {it:It} (hi:it.Ok) (ho:zK it = true) (hg:it.gap = false) (more:List UInt8):qbz (vp it ++ more) = it:=by
 obtain ⟨⟨r1,m1,s1⟩,⟨r2,m2,s2⟩,a1,a2,a3,a4,a5,-⟩:=qhm hi ho hg;have l0:=qhz (JQ it.id it.rc);have l1:=Xw k10.2.1 (qb0 it.rc.real.toNat);have l2:=Xw k10.2.2.1 (qb0 it.rc.mono.toNat);have l3:=Xw k10.2.2.2.1 (qb0 it.rc.seq.toNat);have l4:=qfM it.id;have l5:=qo0 it.rc.boot;unfold qbz;rw [qdn,qaO l0,qaO l1,qaO l2,qaO l3,qaO l4,qaO l5,qnd _ 17 _ (by omega) a5];unfold Qm Qo;rw [qaP l1,qaP l2,qaP l3,qaP l4,qaP l5,qbJ,qbJ,qbJ,qbJ,qbJ,qaE r1,qaE m1,qaE s1,qdV,qdV,qjL _ a3];simp only [Ju,r2,m2,s2];obtain ⟨i,g,f,t,r⟩:=it;simp only at hg a1 a2;subst hg a1 a2;rfl
theorem qmQ (R:List UInt8):pre jO (KP ++ R) = false:=rfl
theorem qmb {it:It} (hi:it.Ok) (ho:zK it = true) (more:List UInt8):jp (zF it ++ more) = KN it:=by
 unfold zF jp;cases hg:it.gap with
 | true =>
  rw [if_pos rfl,if_pos (by rw [qeM,ko];exact qht _ _),qyg hi ho hg]
 | false =>
  simp only [vC,if_false];rw [if_neg (by rw [qdn,ko,qmQ];decide),qyT hi ho hg];unfold KN;rw [hg,if_neg (by decide)]
theorem qlR (b:List UInt8) (a:Nat):Q5 b a [] = some ([],a):=rfl
theorem qrB {it:It} (hi:it.Ok) (ho:zK it = true) (hg:it.gap = true) (more:List UInt8):Kc (J0 it ++ more) = (KN it,(J0 it).length,true):=by
 obtain ⟨f1,t1,f2,t2,-⟩:=qiq hi ho hg;have e0:(J0 it ++ more).drop 0 = (jO ++ (qD it.fr.toNat ++ 45 :: qD it.til.toNat)) ++ 10 :: ((jS ++ zq it.id.l) ++ 10 :: ([] ++ 10 :: more)):=qeM it more;have e1:=qaq e0;have e2:=qaq e1;have hL:=YF e0 (qir it) (YF e1 (qfM it.id) (YF (f:=[]) (x:=[]) e2 (by intro y hy;cases hy) (qlR (J0 it ++ more) _)));unfold Kc;unfold jS at hL;unfold jO at hL;have h45:=qfK 45 (qD it.fr.toNat) (qD it.til.toNat) 0 (qnS _);rw [vT] at h45;have e:(((qD it.fr.toNat).length:Nat):Int).toNat = (qD it.fr.toNat).length:=by omega
 have d1:(qD it.fr.toNat ++ 45 :: qD it.til.toNat).take (qD it.fr.toNat).length = qD it.fr.toNat:=by simp
 have d2:(qD it.fr.toNat ++ 45 :: qD it.til.toNat).drop ((qD it.fr.toNat).length+1) = qD it.til.toNat:=by rw [qA];simp
 unfold jO jS;rw [hL];simp only [h45,e,d1,d2];rw [if_neg (by omega),qbX f1,qbX t1,qdV,qfL it.id.h];unfold KN;rw [hg,if_pos rfl];simp only [Ju,f2,t2]
 have hl:(J0 it).length = (jO ++ (qD it.fr.toNat ++ 45 :: qD it.til.toNat)).length+1+((jS ++ zq it.id.l).length+1)+1:=by
  have:=congrArg List.length (qeM it []);rw [Z2] at this;rw [this];simp;omega
 rw [hl];unfold jO jS;simp
theorem qrP {it:It} (hi:it.Ok) (ho:zK it = true) (hg:it.gap = false) (more:List UInt8):Y8 (vp it ++ more) = (it,(vp it).length,true):=by
 obtain ⟨⟨r1,m1,s1⟩,⟨r2,m2,s2⟩,a1,a2,a3,a4,a5,-⟩:=qhm hi ho hg;have l0:=qhz (JQ it.id it.rc);have l1:=Xw k10.2.1 (qb0 it.rc.real.toNat);have l2:=Xw k10.2.2.1 (qb0 it.rc.mono.toNat);have l3:=Xw k10.2.2.2.1 (qb0 it.rc.seq.toNat);have l4:=qfM it.id;have l5:=qo0 it.rc.boot;have e0:(vp it ++ more).drop 0 = _:=qdn it more;have e1:=qaq e0;have e2:=qaq e1;have e3:=qaq e2;have e4:=qaq e3;have e5:=qaq e4;have e6:=qaq e5;have hL:=YF e0 l0 (YF e1 l1 (YF e2 l2 (YF e3 l3 (YF e4 l4 (YF e5 l5 (qlR (vp it ++ more) _))))));have hF:=qk5 it.rc.fields.l 17 _ _ _ (by omega) a5 e6
 have hl:(vp it).length = 0+((KP ++ JY (JQ it.id it.rc)).length+1)+((JE ++ qD it.rc.real.toNat).length+1)+((JF ++ qD it.rc.mono.toNat).length+1)+((JD ++ qD it.rc.seq.toNat).length+1)+((jS ++ zq it.id.l).length+1)+((Z7 ++ zq it.rc.boot.l).length+1)+(jl it.rc.fields.l).length+1:=by
  have:=congrArg List.length (qdn it []);rw [Z2] at this;rw [this];simp only [qC,qH,zb];omega
 unfold Y8 qd0;rw [hL];simp only;rw [qbX r1,qbX m1,qbX s1,qfL it.id.h,qfL it.rc.boot.h,if_pos (by rfl),hF];simp only [Ju,r2,m2,s2,qdV,qjL _ a3];rw [hl];obtain ⟨i,g,f,t,r⟩:=it;simp only at hg a1 a2;subst hg a1 a2;rfl
theorem qrC (it:It) (more:List UInt8):(Kc (vp it ++ more)).2.2 = false:=by
 have e0:(vp it ++ more).drop 0 = _:=qdn it more
 have hL:Q5 (vp it ++ more) 0 [jO,jS,[]] = none:=by
  rw [Q5,e0,qd3 (qhz _)];simp only;rw [if_neg (by rw [qmQ];decide)]
 unfold Kc;rw [hL]
theorem qqZ {it:It} (hi:it.Ok) (ho:zK it = true) (more:List UInt8):Zp (zF it ++ more) = (KN it,(zF it).length,true):=by
 unfold Zp zF;cases hg:it.gap with
 | true =>
  rw [if_pos rfl,qrB hi ho hg];rfl
 | false =>
  simp only [vC,if_false];rw [qrC,if_neg Bool.false_ne_true,qrP hi ho hg];unfold KN;rw [hg,if_neg (by decide)]
theorem qtr (it:It):zF (KN it) = zF it:=by
 unfold KN;cases hg:it.gap with
 | true =>
  rw [if_pos rfl];unfold zF;rw [hg,if_pos rfl,if_pos rfl];rfl
 | false=>rw [if_neg (by decide)]
theorem qts {it:It} (hi:it.Ok) (ho:zK it = true):zK (KN it) = true:=by
 unfold KN;cases hg:it.gap with
 | true =>
  obtain ⟨-,-,-,-,-,-,-,-,-,h⟩:=qiq hi ho hg;rw [if_pos rfl];unfold zK;rw [if_pos rfl];unfold qak at h ⊢;simp only [qR,decide_eq_true_eq] at h ⊢;exact ⟨⟨⟨⟨⟨⟨h.1.1.1.1.1.1,h.1.1.1.1.1.2⟩,rfl⟩,rfl⟩,rfl⟩,rfl⟩,rfl⟩
 | false=>rw [if_neg (by decide)];exact ho
theorem qgD {it:It} (hi:it.Ok) (ho:zK it = true):(zF it).length≤10000∧1≤(zF it).length:=by
 unfold zF;cases hg:it.gap with
 | true =>
  rw [if_pos rfl];have l1:=kL it.fr.toNat;have l2:=kL it.til.toNat;have l3:=Zu it.id.l;rw [it.id.h] at l3;unfold J0 jO jS;simp;omega
 | false =>
  rw [if_neg (by decide)];obtain ⟨-,-,-,-,-,-,-,h⟩:=qhm hi ho hg;obtain ⟨b1,-,b3⟩:=qhw h;have h1:=qfS (J2 it) (qgO it hi);have h2:=qe1 it.rc.fields.l 400 b3;have h3:(J2 it).length = 6:=rfl;rw [h3] at h1;unfold vp;simp only [qC,qH,zb];have h4:it.rc.fields.l.length * 400≤16 * 400:=qbA _ b1;omega
theorem qhu {p s:List UInt8} (h:pre p s = true):s = p ++ s.drop p.length:=by
 unfold pre at h;have h1:=beq_iff_eq.1 h;have h2:=V1 p.length s;rw [h1] at h2;exact h2.symm
theorem qrS (b:List UInt8):qfd b = qcA b:=by
 have hi:=qfD b
 have fwd:Jd b = true→qa8 b = true∧Zp b = (jp b,(zF (jp b)).length,true):=by
  intro h;unfold Jd at h;rw [qR] at h;obtain ⟨ho,hp⟩:=h;have hb:=qhu hp;have h1:=qmb hi ho (b.drop (zF (jp b)).length);have h2:=qqZ hi ho (b.drop (zF (jp b)).length);rw [← hb] at h1 h2;rw [← h1] at h2;refine ⟨?_,h2⟩;unfold qa8;rw [h2];simp only [vV,ho];unfold pre at hp;rw [beq_iff_eq] at hp ⊢;exact hp.symm
 have bwd:qa8 b = true→Jd b = true:=by
  intro h;unfold qa8 at h;simp only [qR,beq_iff_eq] at h;obtain ⟨-,ho,ht⟩:=h;have hq:=(qgZ b).ok;have hle:=(qgZ b).le
  have hb:b = zF (Zp b).1 ++ b.drop (Zp b).2.1:=by
   rw [ht];exact (V1 _ _).symm
  have h1:=qmb hq ho (b.drop (Zp b).2.1);rw [← hb] at h1;unfold Jd;rw [h1,qts hq ho,qtr,vV];unfold pre;rw [ht,jn,Nat.min_eq_left hle,beq_self_eq_true]
 unfold qfd qcA;cases h:Jd b with
 | true =>
  obtain ⟨h1,h2⟩:=fwd h;rw [h1,h2]
 | false =>
  have h1:qa8 b = false:=by
   cases hr:qa8 b with
   | false=>rfl
   | true=>rw [bwd hr] at h;cases h
  rw [h1];rfl
def qfa (r s:Rec):Bool:=r.seq == s.seq && (r.real == s.real && (r.mono == s.mono && (r.boot == s.boot && r.fields.l == s.fields.l)))
def qc7 (x y:It):Bool:=x.id == y.id && (x.gap == y.gap && (x.fr == y.fr && (x.til == y.til && qfa x.rc y.rc)))
theorem qyO (p q:Pr):(p == q) = (decide (p.name = q.name) && decide (p.value = q.value)):=by
 obtain ⟨a,b⟩:=p;obtain ⟨c,d⟩:=q;rw [Bool.eq_iff_iff];simp
theorem q01 {a b:List Pr} {k:Nat} (ha:k < a.length) (hb:k < b.length):(a.drop k == b.drop k) = (a[k] == b[k] && a.drop (k+1) == b.drop (k+1)):=by
 rw [zo ha,zo hb];rfl
set_option maxHeartbeats 1000000 in
theorem qro [MaxL] (a b:Sl Pr) (ha:a.l.length < 1000000) (_:b.l.length < 1000000):call cx 120 [(.vsl a.nil (qg a.l) a.l.length),(.vsl b.nil (qg b.l) b.l.length)] [] = some (.bool (a.l == b.l),[]):=by
 refine qq Tryz.func120 rfl ⟨rfl,rfl⟩ ?_;by_cases qr:a.l.length = b.l.length
 case neg =>
  have hne':¬ (a.l.length:Int) = (b.l.length:Int):=by omega
  have hf:(a.l == b.l) = false:=beq_eq_false_iff_ne.2 fun e=>qr (by rw [e]);rw [hf];simp [Tryz.f120,hne']
 have hne':(a.l.length:Int) = (b.l.length:Int):=by omega
 simp [Tryz.f120,qr];refine Run.loopThen (fun (k:Nat) e H'=>k≤a.l.length∧(a.l == b.l) = (a.l.drop k == b.l.drop k)∧qf e 0 = some (.vsl a.nil (qg a.l) a.l.length)∧qf e 1 = some (.vsl b.nil (qg b.l) b.l.length)∧qf e 5 = some (.int .i64 (k:Nat))∧H' = []) (fun k=>a.l.length - k) 0 ?_ ?_
 ·simp [qr]
 rintro k e H' ⟨hk,hR,k0,k1,k5,rfl⟩;rw [hR];by_cases qh:k < a.l.length
 ·have qk:(k:Int) < (a.l.length:Int):=by omega
  have hlb:k < b.l.length:=by omega
  have hlb':(k:Int) < (b.l.length:Int):=by omega
  have hw:IntKind.i64.wrap ((k:Int)+1) = ((k+1:Nat):Int):=by rw [wrap_i64] <;> omega
  have n1:a.nil = false:=Sl.nn qh;have n2:b.nil = false:=Sl.nn hlb;have hE:(a.l[k] == b.l[k]) = (decide (a.l[k].name = b.l[k].name) && decide (a.l[k].value = b.l[k].value)):=qyO a.l[k] b.l[k];rw [q01 qh hlb,hE];by_cases h1:a.l[k].name = b.l[k].name
  ·by_cases h2:a.l[k].value = b.l[k].value
   ·simp [k0,k1,k5,qh,hlb,qk,hlb',n1,n2,Pr.cells,h1,h2,hw];exact ⟨k+1,by omega,by omega,rfl,rfl⟩
   ·simp [k0,k1,k5,qh,hlb,qk,hlb',n1,n2,Pr.cells,h1,h2]
  ·simp [k0,k1,k5,qh,hlb,qk,hlb',n1,n2,Pr.cells,h1]
 ·have qk:¬ (k:Int) < (a.l.length:Int):=by omega
  rw [zZ (by omega),zZ (by omega)];have vE:¬ (k:Int) < (b.l.length:Int):=by omega
  simp [k0,k1,k5,vE,hne']
set_option maxHeartbeats 1000000 in
theorem qrf [MaxL] (r s:Rec) (ha:r.fields.l.length < 1000000) (hb:s.fields.l.length < 1000000):call cx 81 [.agg (Enc.cells r),.agg (Enc.cells s)] [] = some (.bool (qfa r s),[]):=by
 have hp:=qro r.fields s.fields ha hb;have t1:List.take 16 (qd r.boot.l ++ [(.vsl r.fields.nil (qg r.fields.l) r.fields.l.length)]) = qd r.boot.l:=by rw [zV];simp
 have t2:List.take 16 (qd s.boot.l ++ [(.vsl s.fields.nil (qg s.fields.l) s.fields.l.length)]) = qd s.boot.l:=by rw [zV];simp
 have d1:List.drop 16 (qd r.boot.l ++ [(.vsl r.fields.nil (qg r.fields.l) r.fields.l.length)]) = [(.vsl r.fields.nil (qg r.fields.l) r.fields.l.length)]:=by rw [qA];simp
 have d2:List.drop 16 (qd s.boot.l ++ [(.vsl s.fields.nil (qg s.fields.l) s.fields.l.length)]) = [(.vsl s.fields.nil (qg s.fields.l) s.fields.l.length)]:=by rw [qA];simp
 have b1:(qd r.boot.l).length = 16:=by simp
 have b2:(qd s.boot.l).length = 16:=by simp
 unfold qfa;refine qq Tryz.func81 rfl ⟨rfl,rfl⟩ ?_;rw [Rec.cells,Rec.cells];cases h1:(r.seq == s.seq) <;> cases h2:(r.real == s.real) <;> cases h3:(r.mono == s.mono) <;> cases h4:(r.boot == s.boot) <;> simp [Tryz.f81,hp,t1,t2,d1,d2,b1,b2,h1,h2,h3,h4]
set_option maxHeartbeats 1000000 in
theorem qrv [MaxL] (x y:It) (ha:x.rc.fields.l.length < 1000000) (hb:y.rc.fields.l.length < 1000000):call cx 42 [.agg (Enc.cells x),.agg (Enc.cells y)] [] = some (.bool (qc7 x y),[]):=by
 have hp:=qrf x.rc y.rc ha hb;have u1:List.take 17 (qd x.rc.boot.l ++ [(.vsl x.rc.fields.nil (qg x.rc.fields.l) x.rc.fields.l.length)]) = qd x.rc.boot.l ++ [(.vsl x.rc.fields.nil (qg x.rc.fields.l) x.rc.fields.l.length)]:=qu (by simp);have u2:List.take 17 (qd y.rc.boot.l ++ [(.vsl y.rc.fields.nil (qg y.rc.fields.l) y.rc.fields.l.length)]) = qd y.rc.boot.l ++ [(.vsl y.rc.fields.nil (qg y.rc.fields.l) y.rc.fields.l.length)]:=qu (by simp);rw [Rec.cells,Rec.cells] at hp;simp only [vU,ZU] at hp;unfold qc7;refine qq Tryz.func42 rfl ⟨rfl,rfl⟩ ?_;cases h1:(x.id == y.id) <;> cases h2:(x.gap == y.gap) <;> cases h3:(x.fr == y.fr) <;> cases h4:(x.til == y.til) <;> simp [Tryz.f42,u1,u2,hp,h1,h2,h3,h4]
def KK (b:List UInt8):It:=if Jd b then jp b else It.zero
def V5 (b:List UInt8):Nat:=if Jd b then (zF (jp b)).length else 0
def J7 (b:List UInt8):Int:=if Jd b then 0 else 20
theorem qkK (b:List UInt8):qcA b = .tup [.agg (Enc.cells (KK b)),.int .i64 (V5 b:Nat),.int .i64 (J7 b)]:=by
 unfold qcA KK V5 J7;split <;> rfl
theorem qrV [MaxL] (s:Sl UInt8) (hs:s.l.length < 1000000):call cx 109 [(.vsl s.nil (qd s.l) s.l.length)] [] = some (.tup [.agg (Enc.cells (KK s.l)),.int .i64 (V5 s.l:Nat),.int .i64 (J7 s.l)],[]):=by
 have h1:=qrU s hs fun h=>by have:=qgD (qfD s.l) h;omega
 rw [qkK] at h1;exact h1
theorem qz7 [MaxL] [TxtC] (x y:Sl UInt8):call cx 67 [(.vsl x.nil (qd x.l) x.l.length),(.vsl y.nil (qd y.l) y.l.length)] [] = some (.int .i64 (qx x.l y.l),[]):=by
 have h:call cx 105 [(.vsl x.nil (qd x.l) x.l.length),(.vsl y.nil (qd y.l) y.l.length)] [] = some (.int .i64 (qx x.l y.l),[]):=by
  rw [qiM (X:=cx) (f:=105) rfl Tryz.func105 rfl,qnn,qzM x.nil y.nil x.l y.l x.h y.h];rfl
 refine qq Tryz.func67 rfl ⟨rfl,rfl⟩ ?_;simp [Tryz.f67,h]
theorem qiE [MaxL] [TxtC] (x y:ID):call cx 67 [.vsl false (qd x.l) 16,.vsl false (qd y.l) 16] [] = some (.int .i64 (qx x.l y.l),[]):=by
 have h:=qz7 (.of x.l) (.of y.l);simpa using h
def zB:List Mk→Bool
 | a :: b :: l=>decide (qx a.id.l b.id.l < 0) && zB (b :: l)
 | _=>true
def jE (l:List Mk):Bool:=decide (l.length≤4) && zB l
theorem qk0 [MaxL] [TxtC] (s:Sl Mk) (hn:s.l.length < 4611686018427387904) :
  call cx 62 [(.vsl s.nil (qg s.l) s.l.length)] [] = some (.bool (jE s.l),[]):=by
 refine qq Tryz.func62 rfl ⟨rfl,rfl⟩ ?_;by_cases h4:s.l.length≤4
 ·have ZM:¬ (4:Int) < (s.l.length:Int):=by omega
  simp [Tryz.f62,ZM,jE,h4];refine Run.loopThen (fun (i:Nat) e H=>1≤i∧(i≤s.l.length∨i = 1)∧H = []∧qf e 0 = some (.vsl s.nil (qg s.l) s.l.length)∧qf e 3 = some (.int .i64 i)∧zB s.l = zB (s.l.drop (i - 1))) (fun i=>s.l.length - i) 1 (by simp) ?_;rintro i e H ⟨hi,YS,rfl,h0,h3,hr⟩;by_cases qh:i < s.l.length
  ·obtain ⟨k,hk⟩:∃ k,k+1 = i:=⟨i - 1,by omega⟩;have qk:(i:Int) < (s.l.length:Int):=(by omega);have ke:k < s.l.length:=(by omega);have ku:(k:Int) < (s.l.length:Int):=(by omega);have hw:IntKind.i64.wrap ((i:Int) - 1) = (k:Int):=(by rw [wrap_i64] <;> omega);have zt:IntKind.i64.wrap ((i:Int)+1) = ((i+1:Nat):Int):=(by rw [wrap_i64] <;> omega);have hc:=qiE s.l[k].id s.l[i].id
   have zQ:zB s.l = (decide (qx s.l[k].id.l s.l[i].id.l < 0) && zB (s.l.drop i)):=by
    have e1:i - 1 = k:=by omega
    have e2:s.l.drop k = s.l[k] :: s.l[i] :: s.l.drop (i+1):=by
     rw [zo ke];congr 1;rw [hk,zo qh]
    rw [hr,e1,e2,zB,zo qh]
   have zY:∀ k,(16≤19+k) = True:=fun k=>eq_true (by omega);have ht:∀ (m:Mk) (r:List D),(Enc.cells m ++ r).take 16 = qd m.id.l:=fun m r=>by simp [Mk.cells]
   by_cases ZF:qx s.l[k].id.l s.l[i].id.l < 0
   ·have hcm':¬ 0≤qx s.l[k].id.l s.l[i].id.l:=(by omega);rw [decide_eq_true ZF,vV] at zQ;simp [h0,h3,qk,hw,ku,Sl.nn qh,zY,qh,ke,ht,hc,hcm',zt];exact ⟨i+1,by omega,by omega,.inl (by omega),rfl,by simpa using zQ⟩
   ·have hcm':0≤qx s.l[k].id.l s.l[i].id.l:=(by omega);rw [decide_eq_false ZF,ZX] at zQ;simp [h0,h3,qk,hw,ku,Sl.nn qh,zY,qh,ke,ht,hc,hcm',zQ]
  ·have qk:¬ (i:Int) < (s.l.length:Int):=by omega
   have zQ:zB s.l = true:=by
    rw [hr];have:(s.l.drop (i - 1)).length≤1:=by rw [jQ];omega
    match s.l.drop (i - 1),this with
    | [],_=>rfl
    | [a],_=>rfl
   simp [h0,h3,qk,zQ]
 ·have ZM:(4:Int) < (s.l.length:Int):=by omega
  simp [Tryz.f62,ZM,jE,h4]
theorem XU {l:List Mk} (h:jE l = true):l.length≤4:=by
 rw [jE,qR] at h;exact of_decide_eq_true h.1
def V9 (m:Mk):List UInt8:=m.id.l ++ (qG 8 m.seq.toNat ++ (qG 8 m.lost.toNat ++ qG 8 m.over.toNat))
def JB (l:List Mk):List UInt8:=UInt8.ofNat l.length :: l.flatMap V9
theorem qtG (m:Mk):(V9 m).length = 40:=by simp [V9]
theorem qhD (l:List Mk):(l.flatMap V9).length = l.length * 40:=by
 induction l with
 | nil=>rfl
 | cons a l ih=>rw [List.flatMap_cons,qC,ih,qtG,qH];omega
theorem qhO [MaxL] [TxtC] (l:List UInt8) (v:Nat) (hn:l.length≤140737488355000) :
  call cx 63 [.vsl false (qd l) l.length,.int .i64 8,.int .u64 v] [] = some (.osl 0 (l.length+8) 0 (l.length+8) 1,[some (qd (l ++ qG 8 v))]):=by
 obtain ⟨d,H,hb,hc⟩:=qlW (.of l) 8 v (by simpa using hn);have e:Kh l 8 v = l ++ qG 8 v:=by simp [Kh,XP]
 simp only [Sl.of_l,Sl.of_nil] at hb hc;rw [e] at hb;rcases hb with ⟨rfl,h,rfl⟩ | ⟨rfl,rfl⟩
 ·have:=congrArg List.length h;simp at this
 ·rw [hc];simp
def Qi (l:List Mk):Sl UInt8:=if jE l then .of (JB l) else .none
def qbF (l:List Mk) (i:Nat) (X:List UInt8):Prop:=X = UInt8.ofNat l.length :: (l.take i).flatMap V9
set_option maxRecDepth 4000 in
set_option maxHeartbeats 2000000 in
theorem q0l [MaxL] [TxtC] (s:Sl Mk) (hn:s.l.length < 4611686018427387904) (hok:∀ m∈s.l,m.Ok) :
  call cx 66 [(.vsl s.nil (qg s.l) s.l.length)] [] = some ((.vsl (Qi s.l).nil (qd (Qi s.l).l) (Qi s.l).l.length),[]):=by
 have hr:=qk0 s hn;refine qq Tryz.func66 rfl ⟨rfl,rfl⟩ ?_;cases h:jE s.l with
 | false =>
  rw [h] at hr;simp [Tryz.f66,hr,Qi,h,qd]
 | true =>
  rw [h] at hr;have hl:=XU h;have hw8:IntKind.u8.wrap (s.l.length:Int) = (s.l.length:Int):=by rw [QE];omega
  simp [Tryz.f66,hr,Qi,h,hw8];refine Run.loopThen (fun (i:Nat) e H=>i≤s.l.length∧∃ X:List UInt8,qbF s.l i X∧H = [some (qd X)]∧qf e 3 = some (.osl 0 X.length 0 X.length 1)∧qf e 15 = some (.vsl s.nil (qg s.l) s.l.length)∧qf e 16 = some (.int .i64 s.l.length)∧qf e 17 = some (.int .i64 i)) (fun i=>s.l.length - i) 0 ?_ ?_
  ·refine ⟨by omega,[UInt8.ofNat s.l.length],by simp [qbF],?_⟩;simp [qd];omega
  rintro i e H ⟨hi,X,hX,rfl,h3,h15,zY,h17⟩;by_cases qh:i < s.l.length
  ·have qk:(i:Int) < (s.l.length:Int):=(by omega);have hw:IntKind.i64.wrap ((i:Int)+1) = ((i+1:Nat):Int):=(by rw [wrap_i64] <;> omega);have hl40:=qhD (s.l.take i);rw [jn,Nat.min_eq_left hi] at hl40
   have jG:qbF s.l (i+1) (X ++ V9 s.l[i]):=by
    unfold qbF at *;rw [hX,qbC qh,List.flatMap_append];simp
   have jA:X.length≤200:=(by rw [hX,qH,hl40];omega);clear hX hl40;have hm:=hok _ (vk qh);obtain ⟨⟨m0,m1,m2,m3⟩,hme⟩:∃ m,s.l[i] = m:=⟨_,rfl⟩;rw [hme] at jG hm;obtain ⟨a1,rfl⟩:∃ k:Nat,m1 = k:=⟨m1.toNat,by have:=hm.seq;simp [qy] at this;omega⟩;obtain ⟨a2,rfl⟩:∃ k:Nat,m2 = k:=⟨m2.toNat,by have:=hm.lost;simp [qy] at this;omega⟩;obtain ⟨a3,rfl⟩:∃ k:Nat,m3 = k:=⟨m3.toNat,by have:=hm.over;simp [qy] at this;omega⟩;have hb:X.length+16≤140737488355328:=(by omega);simp [h3,h15,zY,h17,qk,qh,Sl.nn qh,hme,qF,hb];clear h3 h15 zY h17 e;have d1:=qhO (X ++ m0.l) a1 (by simp;omega);have d2:=qhO (X ++ m0.l ++ qG 8 a1) a2 (by simp;omega);have d3:=qhO (X ++ m0.l ++ qG 8 a1 ++ qG 8 a2) a3 (by simp;omega);simp [V6,V0] at d1 d2 d3
   iterate 4
    refine Xn ?_;simp [d1,d2,d3,hw,qu]
   exact ⟨i+1,by omega,by omega,_,jG,by simp [V9,V6],by simp [V9],rfl⟩
  ·have qk:¬ (i:Int) < (s.l.length:Int):=(by omega);have vG:s.l.take i = s.l:=qu (by omega);have hXe:X = JB s.l:=(by rw [hX,vG];rfl);simp [h3,h15,zY,h17,qk,hXe]
end Go.Ev.S
namespace Go.Ev
open Go Go.Proofs
theorem qdL (s:BitVec 32):BitVec.ofInt IntKind.u32.bits (s.toNat:Int) = s:=by
 show BitVec.ofInt 32 (s.toNat:Int) = s;rw [qeA,BitVec.ofNat_toNat];simp
theorem qg6 (s:BitVec 32):IntKind.u32.wrap (s.toNat:Int) = (s.toNat:Int):=by
 have:=s.isLt;rw [KI];omega
theorem qjf (s t:BitVec 32):zp .u32 (s.toNat:Int) (t.toNat:Int) = ((s ^^^ t).toNat:Int):=by
 unfold zp;rw [qdL,qdL];exact qg6 _
theorem q0S (s t:BitVec 32):Y0 .u32 (s.toNat:Int) (t.toNat:Int) = ((s &&& t).toNat:Int):=by
 unfold Y0;rw [qdL,qdL];exact qg6 _
theorem q0x (s:BitVec 32):Y0 .u32 (s.toNat:Int) 1 = ((s.toNat % 2:Nat):Int):=by
 have h:=q0S s 1#32;have e:((1#32).toNat:Int) = 1:=rfl;rw [e] at h;rw [h];congr 1;rw [BitVec.toNat_and];exact Nat.and_one_is_mod _
theorem qmC (s:BitVec 32):(s.toNat:Int).fdiv 2 = ((s >>> 1).toNat:Int):=by
 rw [BitVec.toNat_ushiftRight,Nat.shiftRight_eq_div_pow,Int.fdiv_eq_ediv_of_nonneg _ (by decide)];omega
theorem qla (s:BitVec 32):zp .u32 (s.toNat:Int) 2197175160 = ((s ^^^ 2197175160#32).toNat:Int):=qjf s 2197175160#32
theorem qoy (s:BitVec 32) (c:UInt8):zp .u32 (s.toNat:Int) (c.toNat:Int) = ((s ^^^ BitVec.ofNat 32 c.toNat).toNat:Int):=by
 have h:=qjf s (BitVec.ofNat 32 c.toNat);have hc:=c.toNat_lt
 have e:(BitVec.ofNat 32 c.toNat).toNat = c.toNat:=by
  rw [qdg];exact qbB (by omega)
 rw [e] at h;exact h
def qem (s:BitVec 32):BitVec 32:=if s.toNat % 2 = 1 then (s >>> 1) ^^^ 2197175160#32 else s >>> 1
def ZO:Nat→BitVec 32→BitVec 32
 | 0,s=>s
 | n+1,s=>ZO n (qem s)
def qzo (s:BitVec 32) (c:UInt8):BitVec 32:=ZO 8 (s ^^^ BitVec.ofNat 32 c.toNat)
def qco (s:BitVec 32) (l:List UInt8):BitVec 32:=l.foldl qzo s
def QB (s:BitVec 32) (l:List UInt8):BitVec 32:= ~~~ qco (~~~ s) l
theorem ql2 (s:BitVec 32):IntKind.u32.wrap ((BitVec.ofInt IntKind.u32.bits 4294967295 ^^^ BitVec.ofInt IntKind.u32.bits (s.toNat:Int)).toNat:Int) = ((~~~ s).toNat:Int):=by
 rw [qdL]
 have e:(BitVec.ofInt 32 4294967295 ^^^ s) = ~~~ s:=by
  rw [show BitVec.ofInt 32 4294967295 = BitVec.allOnes 32 from by decide,BitVec.allOnes_xor]
 have h:=qg6 (~~~ s);rw [← e] at h ⊢;exact h
end Go.Ev
namespace Go.Ev.S
open Go Go.Proofs Go.Ev
theorem qtC [MaxL] [TxtC] (n b:Int):call cx 24 [.int .i64 n,.int .i64 b] [] = some (.int .i64 (if b < 1 then 0 else (IntKind.i64.wrap (n.tmod b+b)).tmod b),[]):=by
 refine qq Tryz.func24 rfl ⟨rfl,rfl⟩ ?_;by_cases h1:b < 1
 ·simp [Tryz.f24,h1]
 ·have h2:b≠0:=by omega
  simp [Tryz.f24,h1,h2]
theorem qfx [MaxL] [TxtC] (n:Int) (b:Nat) (hb:1≤b) (zy:b≤1000000):∃ x:Nat,x < b∧call cx 24 [.int .i64 n,.int .i64 b] [] = some (.int .i64 x,[]):=by
 have h1:n.tmod b < b:=Int.tmod_lt_of_pos _ (by omega)
 have h2:-(b:Int) < n.tmod b:=by
  have:=Int.tmod_lt_of_pos (-n) (show (0:Int) < b by omega);rw [Int.neg_tmod] at this;omega
 have h:=qtC n b;rw [if_neg (by omega)] at h;generalize n.tmod b = x at *;have hw:IntKind.i64.wrap (x+b) = x+b:=by rw [wrap_i64];omega
 rw [hw] at h;have h3:0≤x+b:=by omega
 have h4:=Int.tmod_nonneg (b:Int) h3;have h5:=Int.tmod_lt_of_pos (x+b) (show (0:Int) < b by omega);refine ⟨((x+b).tmod b).toNat,by omega,?_⟩;rw [h];congr 3;omega
def jD (nil:Bool) (zs:List Int) (k:Nat):List D:=[.vsl nil (jb .i64 zs) zs.length,.int .i64 k]
theorem qhW {k:IntKind} {l:List Int} {i:Nat} (h:i < l.length):(jb k l).drop i = .int k l[i] :: jb k (l.drop (i+1)):=by
 unfold jb;rw [← List.map_drop,zo h];rfl
@[simp] theorem q7C (k:IntKind) (l:List Int):(jb k l).length = l.length:=by simp [jb]
theorem qdx (nil:Bool) (zs:List Int) (k:Nat):(∀ x,x∈jD nil zs k→idFree x = true) = True:=eq_true (by
 unfold jD;simp)
theorem qdw (nil:Bool) (zs:List Int) (k:Nat):(jD nil zs k).length = 2:=rfl
theorem qdy (nil:Bool) (zs:List Int) (k n:Nat):(∀ x,x∈jD nil zs k→closed n x = true) = True:=eq_true (by
 unfold jD;simp)
theorem qtB [MaxL] [TxtC] (nil:Bool) (zs:List Int) (k:Nat):call cx 58 [.optr 0 2 0] [some (jD nil zs k)] = some (.bool (decide (k < zs.length)),[some (jD nil zs k)]):=by
 refine qq Tryz.func58 rfl ⟨rfl,rfl⟩ ?_;unfold jD;by_cases h:k < zs.length
 ·have h':(k:Int) < (zs.length:Int):=by omega
  simp [Tryz.f58,h,h']
 ·have h':¬ (k:Int) < (zs.length:Int):=by omega
  simp [Tryz.f58,h,h']
theorem ql0 [MaxL] [TxtC] (n b:Int) (hb:1≤b) (zy:b≤1000000):∃ x:Nat,(x:Int) < b∧call cx 24 [.int .i64 n,.int .i64 b] [] = some (.int .i64 x,[]):=by
 obtain ⟨x,h1,h2⟩:=qfx n b.toNat (by omega) (by omega);rw [show ((b.toNat:Nat):Int) = b by omega] at h2;exact ⟨x,by omega,h2⟩
theorem V7 [MaxL] [TxtC] (nil:Bool) (zs:List Int) (qQ:nil = true→zs = []) (hz:zs.length≤1000000) (k:Nat) (b:Int) (hb:1≤b) (zy:b≤1000000) :
  ∃ x k':Nat,(x:Int) < b∧(k < zs.length→k < k')∧call cx 59 [.optr 0 2 0,.int .i64 b] [some (jD nil zs k)] = some (.int .i64 x,[some (jD nil zs k')]):=by
 unfold jD;by_cases qh:k < zs.length
 ·have Ks:nil = false:=by
   cases nil with
   | false=>rfl
   | true=>rw [qQ rfl] at qh;simp at qh
  subst Ks;have qk:¬ (zs.length:Int)≤(k:Int):=by omega
  have vE:(k:Int) < (zs.length:Int):=by omega
  have hw:IntKind.i64.wrap ((k:Int)+1) = ((k+1:Nat):Int):=by rw [wrap_i64] <;> omega
  have zt:IntKind.i64.wrap (((k+1:Nat):Int) - 1) = (k:Int):=by rw [wrap_i64] <;> omega
  have hw3:IntKind.i64.wrap (k:Int) = (k:Int):=by rw [wrap_i64];omega
  obtain ⟨x,hx,hn⟩:=ql0 zs[k] b hb zy;refine ⟨x,k+1,hx,fun _=>Nat.lt_succ_self k,?_⟩;refine qq Tryz.func59 rfl ⟨rfl,rfl⟩ ?_;simp [Tryz.f59,qk,hw,vE,hw3,qhW qh,hn]
 ·have qk:(zs.length:Int)≤(k:Int):=by omega
  refine ⟨0,k,by omega,fun h=>absurd h qh,?_⟩;refine qq Tryz.func59 rfl ⟨rfl,rfl⟩ ?_;simp [Tryz.f59,qk]
def namesL:List (List UInt8):=[[65],[66],[77,69,83,83,65,71,69],[95,80,73,68],[88,95,49],[80,82,73,79,82,73,84,89]]
def valuesL:List (List UInt8):=[[],[48],[49],[50,50],[97,61,98],[111,110,101,10,116,119,111],[0,255],[116,97,98,9,104,101,114,101],[108,111,110,103,32,108,111,110,103,32,108,111,110,103,32,108,111,110,103,32,108,111,110,103,32,108,111,110,103,32,108,111,110,103],[126,127,128]]
def strD (l:List (List UInt8)):List D:=l.map D.str
theorem qj9 {l:List (List UInt8)} {i:Nat} (h:i < l.length):(strD l).drop i = .str l[i] :: strD (l.drop (i+1)):=by
 unfold strD;rw [← List.map_drop,zo h];rfl
theorem qty [MaxL] [TxtC]:call cx 164 [] [] = some (.vsl false (strD namesL) 6,[]):=by
 refine call_some.2 ⟨60,?_⟩;kernel_rfl
theorem qpn [MaxL] [TxtC]:call cx 165 [] [] = some (.vsl false (strD valuesL) 10,[]):=by
 refine call_some.2 ⟨60,?_⟩;kernel_rfl
def Vb (p:Pr):Bool:=kR p && (decide (p.name.length≤8) && decide (p.value.length≤36))
theorem qf0 {p:Pr} (h:Vb p = true):kR p = true:=by
 unfold Vb at h;rw [qR] at h;exact h.1
theorem qtD {p:Pr} (h:Vb p = true):p.name.length≤8∧p.value.length≤36:=by
 unfold Vb at h;simp only [qR,decide_eq_true_eq] at h;exact h.2
theorem qsJ:∀ n∈namesL,∀ v∈valuesL,Vb ⟨n,v⟩ = true:=by decide
set_option maxHeartbeats 1000000 in
theorem qtA [MaxL] [TxtC] (nil:Bool) (zs:List Int) (qQ:nil = true→zs = []) (hz:zs.length≤1000000) (k:Nat) :
  ∃ (p:Pr) (k':Nat),Vb p = true∧call cx 139 [.optr 0 2 0] [some (jD nil zs k)] = some (.agg (Enc.cells p),[some (jD nil zs k')]):=by
 obtain ⟨x,k1,hx,-,h1⟩:=V7 nil zs qQ hz k 6 (by decide) (by decide);obtain ⟨y,k2,hy,-,h2⟩:=V7 nil zs qQ hz k1 10 (by decide) (by decide);have Z8:x < namesL.length:=by show x < 6;omega
 have hy':y < valuesL.length:=by show y < 10;omega
 have g1:=qty;have g2:=qpn;refine ⟨⟨namesL[x],valuesL[y]⟩,k2,qsJ _ (vk Z8) _ (vk hy'),?_⟩;have a1:=qj9 Z8;have a2:=qj9 hy';generalize namesL[x] = n at *;generalize valuesL[y] = v at *;generalize strD namesL = N at *;generalize strD valuesL = V at *;refine qq Tryz.func139 rfl ⟨rfl,rfl⟩ ?_;unfold jD at h1 h2 ⊢;simp [Tryz.f139,h1,h2,g1,g2,a1,a2,hx,hy,Pr.cells]
def Ji (j:Nat):ID:=⟨[94,0,0,0,0,0,0,0,0,0,0,0,0,0,0,UInt8.ofNat j],rfl⟩
theorem qf1 [MaxL] [TxtC] {j:Nat} (hj:j < 5):call cx 60 [.int .i64 j] [] = some (.agg (qd (Ji j).l),[]):=by
 have h:j = 0∨j = 1∨j = 2∨j = 3∨j = 4:=by omega
 refine call_some.2 ⟨60,?_⟩;rcases h with rfl | rfl | rfl | rfl | rfl <;> kernel_rfl
theorem qtz {n:List UInt8} (h:kU n = true):n.length≤64:=by
 unfold kU at h;split at h
 ·cases h
 ·simp only [qR,decide_eq_true_eq] at h;exact h.1.1
theorem qhv {p:Pr} (h:kR p = true):kU p.name = true∧p.name.length≤64∧p.value.length≤256:=by
 unfold kR at h;simp only [qR,decide_eq_true_eq] at h;exact ⟨h.1,qtz h.1,h.2⟩
theorem qxk [MaxL] [TxtC] (p:Pr) (h:kR p = true):call cx 137 [.agg (Enc.cells p)] [] = some (.tup [.vsl false (qd (jN p)) (jN p).length,.int .i64 0],[]):=by
 obtain ⟨hn,vP,hv⟩:=qhv h;have ZB:=qkq p.name (by omega);rw [hn] at ZB;have hp:=qfo p (by omega) (by omega);have hv':¬ (256:Int) < (p.value.length:Int):=by omega
 refine qq Tryz.func137 rfl ⟨rfl,rfl⟩ ?_;rw [Pr.cells] at hp ⊢;have hl:(jN p).length≤321:=by unfold jN;simp;omega
 have qr:(jN p).length≠0:=by unfold jN;simp
 generalize jN p = w at *;have hm:w.length≤140737488355328:=by omega
 simp [Tryz.f137,ZB,hp,hv']
theorem qf4 {X:Cx} {f nt n0:Nat} {Q:Ex→qp→qi→Prop} {fs:List Fr} {c:Code} {σ:Type} (I:σ→qp→qi→Prop) (m:σ→Nat) (s:σ) (J:Ex→qp→qi→Prop) {e:qp} {H:qi} (h0:I s e H)
  (step:∀ s e H,I s e H→Run X f nt n0 (fun ex e' H'=>match ex with | .normal=>∃ s',m s' < m s∧I s' e' H' | ex=>J ex e' H') [] (code X f nt n0 c e H))
  (done:∀ ex e H,J ex e H→Run X f nt n0 Q fs (some (ex,e,H))):Run X f nt n0 Q fs (code X f nt n0 (.loop c) e H):=by
 refine Run.loopThen I m s h0 fun s e H hi=>Run.mono (step s e H hi) fun ex e H hq=>?_;rw [Ka];cases ex with
 | normal=>exact hq
 | _=>exact done _ _ _ hq
def LsM (L:List Pr) (d:D) (H:qi):Prop :=
 ∃ n k t,n = L.length * 2∧k = L.length∧((d = .osl 1 n 0 k 2∧H = [some t,some (qg L)])∨(d = .osl 0 n 0 k 2∧H = [some (qg L),some t])∨(d = .osl 0 n 0 k 2∧H = [some (qg L)]))
def LsH (out:List Pr) (d:D) (H:qi):Prop :=
 (out = []∧d = .vsl true [] 0∧H = [])∨(out≠[]∧LsM out d H)
def LsQ (q:D × qi):Prop:= ∃ out:List Pr,1≤out.length∧out.length≤4∧(∀ p∈out,Vb p = true)∧q = (.tup [.vsl false (qg out) out.length,.int .i64 0],[])
set_option maxHeartbeats 4000000 in
theorem qua [MaxL] [TxtC] (l:List Pr) (h1:1≤l.length) (h4:l.length≤4) (hok:∀ p∈l,Vb p = true):∃ q,call cx 93 [.vsl false (qg l) l.length] [] = some q∧LsQ q:=by
 refine vB (X:=cx) (f:=93) (args:=[.vsl false (qg l) l.length]) (H:=[]) LsQ Tryz.func93 rfl ⟨rfl,rfl⟩ ?_;have hz:¬ l.length = 0:=by omega
 simp [Tryz.f93,hz];refine Run.loopThen (fun (q:Nat × List Pr) e H'=>q.1≤l.length∧q.2.length≤q.1∧(1≤q.1→1≤q.2.length)∧(∀ p∈q.2,Vb p = true)∧qf e 0 = some (.vsl false (qg l) l.length)∧qf e 5 = some (.int .i64 (q.1:Nat))∧∃ d,qf e 4 = some d∧LsH q.2 d H') (fun q=>l.length - q.1) (0,[]) ?_ ?_
 ·exact ⟨by simp,by simp,by simp,by simp,by simp,by simp,_,by simp,.inl ⟨rfl,rfl,rfl⟩⟩
 rintro ⟨i,out⟩ e H' ⟨hi,ho,ho1,hp,k0,k5,d,k4,hH⟩;simp only at hi ho ho1 hp k5 hH;by_cases qh:i < l.length
 ·have qk:(i:Int) < (l.length:Int):=by omega
  have hj:=qxk l[i] (qf0 (hok _ (vk qh)));have v6:=hok _ (vk qh);obtain ⟨-,hb1,zy⟩:=qhv (qf0 v6);have hw5:IntKind.i64.wrap ((i:Int)+1) = ((i+1:Nat):Int):=by rw [wrap_i64] <;> omega
  rw [Pr.cells] at hj;rcases hH with ⟨rfl,rfl,rfl⟩ | ⟨qr,n,k,t,hn,hk,hH⟩
  ·simp [k0,k4,k5,qh,qk,hj,Pr.cells];refine Xn ?_;simp [qF];refine Xn ?_;simp [qh,qk,Pr.cells,hw5];exact ⟨i+1,by omega,by omega,[l[i]],by simp,fun _=>by simp,by simp [v6],by simp,.inr ⟨by simp,2,1,_,rfl,rfl,.inl ⟨rfl,rfl⟩⟩⟩
  have qw:List.take n (qg out) = qg out:=qu (by simp;omega);have qZ:out.length = k:=hk.symm;have zh:k * 2 = n:=by omega
  have zX:(k+1) * 32≤140737488355328:=by omega
  have zx:k+1≤140737488355328:=by omega
  have vy:IntKind.i64.wrap (k:Int) = (k:Int):=by rw [wrap_i64];omega
  rcases hH with ⟨rfl,rfl⟩ | ⟨rfl,rfl⟩ | ⟨rfl,rfl⟩
  all_goals
   simp [k0,k4,k5,qh,qk,hj,Pr.cells]
   refine qf4 (fun (z:Nat) e H'=>z≤k∧qf e 0 = some (.vsl false (qg l) l.length)∧qf e 4 = some (.osl 0 n 0 k 2)∧qf e 5 = some (.int .i64 (i:Nat))∧qf e 8 = some (.int .i64 (z:Nat))∧H' = [some (qg out)]) (fun z=>k - z) 0
    (fun ex e H'=>ex = .exit 2∧∃ z,z≤k∧qf e 0 = some (.vsl false (qg l) l.length)∧qf e 4 = some (.osl 0 n 0 k 2)∧qf e 5 = some (.int .i64 (i:Nat))∧qf e 8 = some (.int .i64 (z:Nat))∧H' = [some (qg out)]) ⟨jg _,by simp,by simp,by simp,by simp,rfl⟩ ?_ ?_
   ·clear k0 k4 k5;rintro z e H' ⟨hz,k0,k4,k5,k8,rfl⟩;have hwz:IntKind.i64.wrap ((z:Int)+1) = ((z+1:Nat):Int):=(by rw [wrap_i64] <;> omega);by_cases hzl:z < k
    ·have X3:z < out.length:=(by omega);obtain ⟨-,c1,c2⟩:=qhv (qf0 (hp _ (vk X3)));have p1:=qfo out[z] (by omega) (by omega);have p2:=qfo l[i] (by omega) (by omega);rw [Pr.cells] at p1 p2;generalize jN out[z] = w1 at *;generalize jN l[i] = w2 at *;cases hb:Op.bytesLess w1 w2 with
     | true =>
      simp [k0,k4,k5,k8,hzl,qh,qk,Pr.cells,p1,p2,hb,hwz,qZ,zh];exact ⟨z+1,by omega,by omega,rfl⟩
     | false =>
      simp [k0,k4,k5,k8,hzl,qh,qk,Pr.cells,p1,p2,hb,qZ,zh];exact ⟨z,hz,rfl⟩
    ·simp [k0,k4,k5,k8,hzl];exact ⟨z,hz,rfl⟩
   ·clear k0 k4 k5;rintro ex e H' ⟨rfl,z,hz,k0,k4,k5,k8,rfl⟩
    have hcase:(∃ h:z < out.length,out[z].name = l[i].name∧out[z].value = l[i].value)∨(∃ h:z < out.length,¬ out[z].name = l[i].name)∨(∃ h:z < out.length,out[z].name = l[i].name∧¬ out[z].value = l[i].value)∨¬ z < k:=by
     by_cases h:z < out.length
     ·by_cases h1:out[z].name = l[i].name
      ·by_cases h2:out[z].value = l[i].value
       ·exact .inl ⟨h,h1,h2⟩
       ·exact .inr (.inr (.inl ⟨h,h1,h2⟩))
      ·exact .inr (.inl ⟨h,h1⟩)
     ·exact .inr (.inr (.inr (by omega)))
    have Zj:=fun (h:z < out.length)=>(show z < k by omega);rcases hcase with ⟨X3,e1,e2⟩ | ⟨X3,e1⟩ | ⟨X3,e1,e2⟩ | hzl
    ·simp [k0,k4,k5,k8,Zj X3,qh,qk,Pr.cells,e1,e2,qZ,zh,hw5];exact ⟨i+1,by omega,by omega,out,by omega,fun _=>by omega,hp,by simp,.inr ⟨qr,n,k,t,hn,hk,.inr (.inr ⟨rfl,rfl⟩)⟩⟩
    all_goals
     first
      | simp [k0,k4,k5,k8,Zj X3,qh,qk,Pr.cells,e1,e2,qZ,zh,vy,zX,zx,qF]
      | simp [k0,k4,k5,k8,Zj X3,qh,qk,Pr.cells,e1,qZ,zh,vy,zX,zx,qF]
      | simp [k0,k4,k5,k8,hzl,qZ,zh,vy,zX,zx,qF]
     refine qf4 (fun (q:Nat × List Pr) e H'=>z≤q.1∧q.1≤k∧q.2.length = k+1∧(∀ x (h:x < q.2.length),x≠q.1→Vb q.2[x] = true)∧qf e 0 = some (.vsl false (qg l) l.length)∧qf e 4 = some (.osl 0 (n+2) 0 (k+1) 2)∧qf e 5 = some (.int .i64 (i:Nat))∧qf e 8 = some (.int .i64 (z:Nat))∧qf e 9 = some (.int .i64 (q.1:Nat))∧H' = [some (qg q.2),some [.str [],.str []]]) (fun q=>q.1 - z) (k,out ++ [⟨[],[]⟩])
      (fun ex e H'=>ex = .exit 4∧∃ L:List Pr,L.length = k+1∧(∀ x (h:x < L.length),x≠z→Vb L[x] = true)∧qf e 0 = some (.vsl false (qg l) l.length)∧qf e 4 = some (.osl 0 (n+2) 0 (k+1) 2)∧qf e 5 = some (.int .i64 (i:Nat))∧qf e 8 = some (.int .i64 (z:Nat))∧H' = [some (qg L),some [.str [],.str []]]) ?_ ?_ ?_
     ·refine ⟨hz,qz _,by simp [qZ],fun x h hx=>?_,by simp,by simp,by simp,by simp,by simp,by rw [Z0];rfl⟩;have Yd:x < out.length:=(by simp at h;omega);simp only [List.getElem_append_left Yd];exact hp _ (vk Yd)
     ·clear k0 k4 k5 k8;rintro ⟨j,L⟩ e H' ⟨hzj,X9,XE,hLp,k0,k4,k5,k8,k9,rfl⟩;simp only at hzj X9 XE hLp k9;by_cases hj2:z < j
      ·obtain ⟨a,rfl⟩:∃ a,j = a+1:=⟨j - 1,by omega⟩;have hwa:IntKind.i64.wrap (((a+1:Nat):Int) - 1) = (a:Int):=(by rw [wrap_i64] <;> omega);have hwb:IntKind.i64.wrap ((a:Int)+1 - 1) = (a:Int):=(by rw [wrap_i64] <;> omega);have KR:IntKind.i64.wrap (a:Int) = (a:Int):=(by rw [wrap_i64];omega);have hak:a < k:=(by omega);have ha1:(a:Int) < (k:Int)+1:=(by omega);have hza:(z:Int) < (a:Int)+1:=(by omega);have hza2:z < a+1:=hj2;have h0a:(0:Int)≤(a:Int)+1:=(by omega);have ha2n:(a+1) * 2≤n:=(by omega);have ha2:a < L.length:=(by omega);have ha3:a+1 < L.length:=(by omega);have hLn:L.length * 2 = n+2:=(by omega);simp [k0,k4,k5,k8,k9,KR,hak,ha1,ha2,ha3,hLn,hza,h0a,ha2n];refine ⟨a,by omega,by omega,by omega,_,by simp [XE],fun x h hx=>?_,rfl,rfl⟩;rw [List.getElem_set];split
       ·exact hLp a ha2 (by omega)
       ·exact hLp x (by simpa using h) (by omega)
      ·simp [k0,k4,k5,k8,k9,hj2];exact ⟨L,XE,fun x h hx=>hLp x h (by omega),rfl⟩
     ·clear k0 k4 k5 k8;rintro ex e H' ⟨rfl,L,XE,hLp,k0,k4,k5,k8,rfl⟩;have hzl2:z < L.length:=(by omega);have Yc:(z:Int) < (k:Int)+1:=(by omega);have Yb:z * 2≤n:=(by omega);have hLn:L.length * 2 = n+2:=(by omega);simp [k0,k4,k5,k8,hzl2,qh,qk,hw5,Yc,Yb,hLn];refine ⟨i+1,by omega,by omega,L.set z l[i],by simp [XE];omega,fun _=>by simp [XE],fun p hp=>?_,by simp,.inr ⟨fun h=>?_,n+2,k+1,_,by simp [hLn],by simp [XE],.inr (.inl ⟨rfl,rfl⟩)⟩⟩
      ·obtain ⟨x,hx,rfl⟩:=List.mem_iff_getElem.1 hp;rw [List.getElem_set];split
       ·exact v6
       ·exact hLp x (by simpa using hx) (by omega)
      ·have:=congrArg List.length h;simp [XE] at this
 ·have qk:¬ (i:Int) < (l.length:Int):=by omega
  have ho2:=ho1 (by omega);rcases hH with ⟨rfl,rfl,rfl⟩ | ⟨qr,n,k,t,hn,hk,hH⟩
  ·simp at ho2
  have zY:¬ (16:Int) < (k:Int):=by omega
  have qw:List.take n (qg out) = qg out:=qu (by simp;omega);have qZ:out.length = k:=hk.symm;have zh:k * 2 = n:=by omega
  rcases hH with ⟨rfl,rfl⟩ | ⟨rfl,rfl⟩ | ⟨rfl,rfl⟩
  all_goals
   simp [k0,k4,k5,qk,zY,qw,qZ,zh];exact ⟨out,by omega,by omega,hp,by rw [qZ]⟩
theorem qnB {l:List UInt8} {i:Nat} (h:i < l.length):(qd l).drop i = .int .u8 l[i].toNat :: qd (l.drop (i+1)):=by
 unfold qd;rw [← List.map_drop,zo h];rfl
set_option maxHeartbeats 2000000 in
theorem qzO [MaxL] [TxtC] (s:BitVec 32) (b:Sl UInt8) (hn:b.l.length < 4611686018427387904):call cx 145 [.int .u32 s.toNat,(.vsl b.nil (qd b.l) b.l.length)] [] = some (.int .u32 ((QB s b.l).toNat:Nat),[]):=by
 refine qq Tryz.func145 rfl ⟨rfl,rfl⟩ ?_;have Yf:∀ v:BitVec 32,QW .xor (.int .u32 (v.toNat:Int)) = some (.int .u32 ((~~~ v).toNat:Int)):=fun v=>congrArg (fun x=>some (D.int .u32 x)) (ql2 v);have h0:=Yf s;unfold QB;obtain ⟨g,hg⟩:∃ g,qco (~~~ s) b.l = g:=⟨_,rfl⟩;rw [hg];have h1:=Yf g;generalize ((~~~ g).toNat:Int) = r at *;generalize ~~~ s = s0 at *;clear Yf;simp [-QW,Tryz.f145,h0];refine Run.loopThen (fun (q:Nat × BitVec 32) e H'=>q.1≤b.l.length∧qco q.2 (b.l.drop q.1) = g∧qf e 0 = some (.int .u32 (q.2.toNat:Int))∧qf e 9 = some (.vsl b.nil (qd b.l) b.l.length)∧qf e 10 = some (.int .i64 b.l.length)∧qf e 11 = some (.int .i64 (q.1:Nat))∧H' = []) (fun q=>b.l.length - q.1) (0,s0) ⟨jg _,by simpa using hg,by simp,by simp,by simp,by simp,rfl⟩ ?_;rintro ⟨i,v⟩ e H' ⟨hi,hR,k0,k9,k10,k11,rfl⟩;simp only at hi hR k0 k11;by_cases qh:i < b.l.length
 ·have qk:(i:Int) < (b.l.length:Int):=by omega
  have hw:IntKind.i64.wrap ((i:Int)+1) = ((i+1:Nat):Int):=by rw [wrap_i64] <;> omega
  have hd:=qnB qh;have hb:=qoy v b.l[i];rw [zo qh] at hR;generalize b.l[i] = c at *;replace hR:qco (ZO 8 (v ^^^ BitVec.ofNat 32 c.toNat)) (b.l.drop (i+1)) = g:=hR;generalize v ^^^ BitVec.ofNat 32 c.toNat = w at *;have KR:IntKind.u32.wrap (c.toNat:Int) = (c.toNat:Int):=by have:=c.toNat_lt;rw [KI];omega
  simp [-QW,k0,k9,k10,k11,qk,Sl.nn qh,hd,KR,hb]
  refine qf4 (fun (q:Nat × BitVec 32) e H'=>q.1≤8∧ZO (8 - q.1) q.2 = ZO 8 w∧qf e 0 = some (.int .u32 (q.2.toNat:Int))∧qf e 9 = some (.vsl false (qd b.l) b.l.length)∧qf e 10 = some (.int .i64 b.l.length)∧qf e 11 = some (.int .i64 (i:Nat))∧qf e 19 = some (.int .i64 (q.1:Nat))∧H' = []) (fun q=>8 - q.1) (0,w)
   (fun ex e H'=>ex = .exit 2∧qf e 0 = some (.int .u32 ((ZO 8 w).toNat:Int))∧qf e 9 = some (.vsl false (qd b.l) b.l.length)∧qf e 10 = some (.int .i64 b.l.length)∧qf e 11 = some (.int .i64 (i:Nat))∧H' = []) ⟨jg _,rfl,by simp,by simp,by simp,by simp,by simp,rfl⟩ ?_ ?_
  ·clear k0 k9 k10 k11;rintro ⟨j,u⟩ e H' ⟨hj,hu,k0,k9,k10,k11,k19,rfl⟩;simp only at hj hu k0 k19;by_cases hj8:j < 8
   ·have Q9:(j:Int) < 8:=(by omega);have Z9:IntKind.i64.wrap ((j:Int)+1) = ((j+1:Nat):Int):=(by rw [wrap_i64] <;> omega);have hb1:=q0x u;have zy:=qmC u;rw [show (2:Int) = 2 ^ min 1 IntKind.u32.bits from rfl] at zy;have ZH:=qla (u >>> 1)
    have hst:ZO (8 - (j+1)) (qem u) = ZO 8 w:=by
     rw [← hu,show 8 - j = (8 - (j+1))+1 by omega];rfl
    unfold qem at hst;generalize u >>> 1 = h at *;by_cases hp:u.toNat % 2 = 1
    ·rw [hp] at hb1;rw [if_pos hp] at hst;generalize h ^^^ 2197175160#32 = y at *;simp [-QW,k0,k9,k10,k11,k19,Q9,Z9,hb1];exact ⟨j+1,by omega,by omega,y,hst,by rw [zy,ZH],rfl⟩
    ·have hp0:u.toNat % 2 = 0:=(by omega);rw [hp0] at hb1;rw [if_neg hp] at hst;simp [-QW,k0,k9,k10,k11,k19,Q9,Z9,hb1];exact ⟨j+1,by omega,by omega,h,hst,zy,rfl⟩
   ·have Q9:¬ (j:Int) < 8:=(by omega);have hj0:8 - j = 0:=(by omega);rw [hj0] at hu;replace hu:u = ZO 8 w:=hu;simp [-QW,k0,k9,k10,k11,k19,Q9,hu]
  ·clear k0 k9 k10 k11;rintro ex e H' ⟨rfl,k0,k9,k10,k11,rfl⟩;generalize ZO 8 w = z at *;simp [-QW,k0,k9,k10,k11,hw];exact ⟨i+1,by omega,by omega,z,hR,rfl,rfl⟩
 ·have qk:¬ (i:Int) < (b.l.length:Int):=by omega
  rw [zZ (by omega)] at hR;replace hR:v = g:=hR;subst hR;simp [-QW,k0,k9,k10,k11,qk,h1]
theorem qzn [MaxL] [TxtC] (b:Sl UInt8) (hn:b.l.length < 4611686018427387904):call cx 104 [.vsl false [(.vsl b.nil (qd b.l) b.l.length)] 1] [] = some (.int .u32 ((QB 0#32 b.l).toNat:Nat),[]):=by
 have h:=qzO 0#32 b hn;replace h:call cx 145 [.int .u32 0,(.vsl b.nil (qd b.l) b.l.length)] [] = some (.int .u32 ((QB 0#32 b.l).toNat:Nat),[]):=h;generalize ((QB 0#32 b.l).toNat:Nat) = r at *;refine qq Tryz.func104 rfl ⟨rfl,rfl⟩ ?_;simp [Tryz.f104];refine Xn ?_;simp [h];refine Xn ?_;simp
end Go.Ev.S
namespace Go.Ev
open Go Go.Proofs
def XQ (b:List UInt8):Bool:=decide (leN (b.drop (b.length - 4)) = (QB 0#32 (b.take (b.length - 4))).toNat)
def Qk (b:List UInt8):List UInt8:=b ++ qG 4 (QB 0#32 b).toNat
theorem qbN (b:List UInt8):(Qk b).length = b.length+4:=by simp [Qk]
theorem qpa {a b:Nat} (ha:a < 256) (hb:b < 256):zp .u8 (a:Int) (b:Int) = ((a ^^^ b:Nat):Int):=by
 have h:a ^^^ b < 2 ^ 8:=Nat.xor_lt_two_pow (n:=8) ha hb;unfold zp;show IntKind.u8.wrap ((BitVec.ofInt 8 (a:Int) ^^^ BitVec.ofInt 8 (b:Int)).toNat:Int) = _;rw [qeA,qeA,BitVec.toNat_xor,qdg,qdg,qbB ha,qbB hb,QE];omega
end Go.Ev
namespace Go.Ev.S
open Go Go.Proofs Go.Ev
def Kj:List UInt8:=[68,66,65,84]
def YG (it:It):List UInt8:=qG 4 (zF it).length ++ zF it
def qaB (l:List It) (m:List Mk):List UInt8:=Kj ++ (qG 2 l.length ++ (l.flatMap YG ++ JB m))
def J8 (l:List It) (m:List Mk):Bool:=decide (l.length≤64) && (jE m && l.all zK)
def Ke (l:List It) (m:List Mk):Sl UInt8:=if J8 l m && decide ((Qk (qaB l m)).length≤65536) then .of (Qk (qaB l m)) else .none
def Zz:Nat→List UInt8→List It→List It × List Mk × Int
 | 0,r,out=>if (vf r).2 = 0 then (if Go.Ev.readN (vf r) < (r.length:Int) then ([],[],21) else (out,(vf r).1,0)) else ([],[],(vf r).2)
 | k+1,r,out=>if r.length < 4∨r.length - 4 < leN (r.take 4) then ([],[],22) else if Jd ((r.drop 4).take (leN (r.take 4))) = true∧(zF (jp ((r.drop 4).take (leN (r.take 4))))).length = leN (r.take 4) then Zz k (r.drop (4+leN (r.take 4))) (out ++ [jp ((r.drop 4).take (leN (r.take 4)))]) else ([],[],20)
def qaj (x:List UInt8):List It × List Mk × Int:=if x.length < 4 then ([],[],22) else if pre Kj x then (if x.length < 6 then ([],[],22) else if 64 < leN ((x.drop 4).take 2) then ([],[],21) else Zz (leN ((x.drop 4).take 2)) (x.drop 6) []) else ([],[],6)
def vK (b:List UInt8):List It × List Mk × Int:=if b.length < 4 then ([],[],22) else if XQ b then qaj (b.take (b.length - 4)) else ([],[],19)
theorem ql8 (l:List Mk):(JB l).length = 1+l.length * 40:=by
 unfold JB;rw [qH,qhD,Nat.add_comm]
theorem qxm (it:It):(YG it).length = 4+(zF it).length:=by simp [YG]
theorem qsm {l:List It} {m:List Mk} (h:J8 l m = true):l.length≤64∧jE m = true∧∀ x∈l,zK x = true:=by
 unfold J8 at h;simp only [qR,decide_eq_true_eq,Y3] at h;exact h
theorem qju (s:BitVec 32):IntKind.u64.wrap (s.toNat:Int) = (s.toNat:Int):=by
 have:=s.isLt;rw [qS];omega
def qcE (l:List UInt8):D:=if l.length < 4 then .tup [.vsl true [] 0,.int .i64 22] else if XQ l then .tup [(.vsl ((.of (l.take (l.length - 4)):Sl UInt8)).nil (qd ((.of (l.take (l.length - 4)):Sl UInt8)).l) ((.of (l.take (l.length - 4)):Sl UInt8)).l.length),.int .i64 0] else .tup [.vsl true [] 0,.int .i64 19]
theorem quh {l:List UInt8} (h:4≤l.length):Q6 l ((l.length - 4:Nat):Int) 4 = some (leN (l.drop (l.length - 4))):=by
 unfold Q6;rw [if_pos ⟨rfl,by omega,by omega⟩];congr 2;rw [show ((l.length - 4:Nat):Int).toNat = l.length - 4 from rfl,qu (by rw [jQ];show _≤4;omega)]
theorem qzs [MaxL] [TxtC] (b:Sl UInt8) (hn:b.l.length≤140737488354000):call cx 107 [(.vsl b.nil (qd b.l) b.l.length)] [] = some (qcE b.l,[]):=by
 refine qq Tryz.func107 rfl ⟨rfl,rfl⟩ ?_;have hw0:IntKind.i64.wrap ((b.l.length:Int) - 4) = (b.l.length:Int) - 4:=by rw [wrap_i64];omega
 unfold qcE;by_cases h4:b.l.length < 4
 ·rw [if_pos h4];have qh:(b.l.length:Int) - 4 < 0:=by omega
  simp [Tryz.f107,hw0,qh]
 rw [if_neg h4];obtain ⟨n,ZC⟩:∃ n,b.l.length - 4 = n:=⟨_,rfl⟩;have qK:IntKind.i64.wrap ((b.l.length:Int) - 4) = (n:Int):=by rw [hw0];omega
 have hnn:b.nil = false:=Sl.nn (i:=0) (by omega);have hg:=qcI b (n:Int) 4 (by omega) (by omega);have hge:=quh (l:=b.l) (by omega);rw [ZC] at hge;rw [hge] at hg;have h1:=qzn (.of (b.l.take n)) (by simp;omega);have hw:=qju (QB 0#32 (b.l.take n));have j9:=qiQ (.of (b.l.take n)) (by simp;omega);have JH:(0:Int)≤(n:Int):=by omega
 have qY:n≤b.l.length:=by omega
 have jq:(b.l.take n).length = n:=by rw [jn];omega
 have qw:List.take n (qd b.l) = qd (b.l.take n):=kr _ _;have hs:XQ b.l = decide (leN (b.l.drop n) = (QB 0#32 (b.l.take n)).toNat):=by unfold XQ;rw [ZC]
 rw [hs,ZC];unfold KM at hg;simp only [Sl.of_l,Sl.of_nil,jq] at h1 hw j9;simp only [Ju,Option.isSome_some] at hg;generalize leN (b.l.drop n) = v at *;generalize QB 0#32 (b.l.take n) = c at *;generalize b.l.take n = y at *;have hcond:((v:Int) = (c.toNat:Int)) = (v = c.toNat):=propext ⟨fun h=>Int.ofNat.inj h,fun h=>congrArg _ h⟩;have hngi:¬ (n:Int) < 0:=by omega
 rw [hnn] at hg;rw [if_neg (by decide)] at j9;by_cases hv:v = c.toNat
 ·subst hv;simp [Tryz.f107,qK,hnn,hg,h1,hw,j9,JH,hngi,qY,qw,jq]
 ·rw [decide_eq_false hv];simp [Tryz.f107,qK,hnn,hg,h1,hw,JH,hngi,qY,qw,hcond,hv]
set_option maxRecDepth 4000 in
set_option maxHeartbeats 4000000 in
theorem qt6 [MaxL] [TxtC] (s:Sl UInt8) (hn:s.l.length < 4611686018427387904) :
  call cx 32 [(.vsl s.nil (qd s.l) s.l.length)] [] = some (.tup [(.vsl (Sl.grown (vf s.l).1).nil (qg (Sl.grown (vf s.l).1).l) (Sl.grown (vf s.l).1).l.length),.int .i64 (readN (vf s.l)),.int .i64 (vf s.l).2],[]):=by
 refine qq Tryz.func32 rfl ⟨rfl,rfl⟩ ?_;obtain ⟨nil,l,qQ⟩:=s;simp only at hn ⊢;cases l with
 | nil=>simp [Tryz.f32,vf,readN,Sl.grown]
 | cons c r =>
  have Ks:nil = false:=by
   cases nil with
   | false=>rfl
   | true=>simpa using qQ rfl
  subst Ks;have qr:¬ ((r.length:Int)+1 = 0):=by omega
  have kc:(0:Int) < (r.length:Int)+1:=by omega
  by_cases h4:4 < c.toNat
  ·have ZM:(4:Int) < (c.toNat:Int):=(by omega);simp [Tryz.f32,vf,readN,Sl.grown,qr,kc,YD,h4,ZM]
  ·have ZM:¬ (4:Int) < (c.toNat:Int):=(by omega);have KR:IntKind.i64.wrap (c.toNat:Int) = (c.toNat:Int):=(by rw [wrap_i64];omega);simp [Tryz.f32,qr,kc,YD,ZM,KR]
   refine Run.loopThen (fun (i:Nat) e H=>i≤c.toNat∧∃ (d:D) (out:List Mk),BufE 19 d H out∧out.length = i∧40 * i≤r.length∧qf e 0 = some (.vsl false (qd (c :: r)) (r.length+1))∧qf e 5 = some d∧qf e 21 = some (.int .i64 c.toNat)∧qf e 22 = some (.int .i64 i) ∧
    vf (c :: r) = J6 (c.toNat - i) (r.drop (40 * i)) out) (fun i=>c.toNat - i) 0 ?_ ?_
   ·refine ⟨by omega,.vsl true [] 0,[],.inl ⟨rfl,rfl,rfl⟩,rfl,by omega,?_⟩;simp [vf,h4,YD]
   ·rintro i e H ⟨hi,d,out,Zy,zl,hir,h0,h5,h21,h22,hr⟩;by_cases qh:i < c.toNat
    ·have qk:(i:Int) < (c.toNat:Int):=(by omega);have hw40:IntKind.i64.wrap (40 * (i:Int)) = 40 * (i:Int):=(by rw [wrap_i64];omega);have Ye:IntKind.i64.wrap (1+40 * (i:Int)) = 1+40 * (i:Int):=(by rw [wrap_i64];omega);have g1:(0:Int)≤1+40 * (i:Int):=(by omega);have g2:1+40 * (i:Int)≤(r.length:Int)+1:=(by omega);have g3:(1+40 * (i:Int)).toNat = 40 * i+1:=(by omega);have hk:c.toNat - i = (c.toNat - (i+1))+1:=(by omega);rw [hk,J6] at hr;have vR:(r.drop (40 * i)).length = r.length - 40 * i:=jQ;by_cases zY:r.length - 40 * i < 16
     ·rw [vR,if_pos zY] at hr;have hm:min (r.length - 40 * i) 16 = r.length - 40 * i:=(by omega);have YQ:((r.length - 40 * i:Nat):Int) < 16:=(by omega);simp [h0,h5,h21,h22,qk,hw40,Ye,g1,g2,g3,Zb,hm,YQ,hr,readN,Sl.grown]
     ·have hm:min (r.length - 40 * i) 16 = 16:=(by omega);rw [vR,if_neg zY] at hr;generalize hR:r.drop (40 * i) = R at *;have YJ:(qd R).take 16 = qd (R.take 16):=kr R 16;obtain ⟨id,Qa⟩:∃ id:ID,id.l = R.take 16:=⟨ID.mk' (R.take 16),ID.mk'_l (by rw [jn];omega)⟩;have hidm:ID.mk' (R.take 16) = id:=ID.ext' (by rw [ID.mk'_l (by rw [jn];omega),Qa]);rw [← Qa] at YJ hr;have QQ:(r.drop (40 * (i+1))) = R.drop 40:=(by rw [← hR,kC];congr 1);have Vs:R.length = r.length - 40 * i:=vR
      have fin40:Ki out id.l = false→(¬ R.length < 40→∃ a1 a2 a3:Nat,Jg R = ⟨id,a1,a2,a3⟩∧call cx 68 [.vsl false (qd R) R.length,.int .i64 16,.int .i64 8] [] = some (.tup [.int .u64 a1,.bool true],[]) ∧
        call cx 68 [.vsl false (qd R) R.length,.int .i64 24,.int .i64 8] [] = some (.tup [.int .u64 a2,.bool true],[])∧call cx 68 [.vsl false (qd R) R.length,.int .i64 32,.int .i64 8] [] = some (.tup [.int .u64 a3,.bool true],[]) ∧
        vf (c :: r) = J6 (c.toNat - (i+1)) (r.drop (40 * (i+1))) (out ++ [⟨id,a1,a2,a3⟩])):=by
       intro v7 Qe;rw [v7] at hr;simp only [vC,if_false] at hr;rw [if_neg (by omega)] at hr;have hmk:Jg R = ⟨id,leN ((R.drop 16).take 8),leN ((R.drop 24).take 8),leN ((R.drop 32).take 8)⟩:=(by unfold Jg;rw [hidm]);have q:=fun a (ha:a+8≤40)=>qcI (.of R) (a:Nat) 8 (by omega) (by simp only [Sl.of_l,Vs];simp at hn;omega)
       have ql:∀ a,a+8≤40→Q6 R (a:Nat) 8 = some (leN ((R.drop a).take 8)):=fun a ha=>by
        unfold Q6;rw [if_pos ⟨rfl,by omega,by omega⟩];simp
       refine ⟨_,_,_,hmk,?_,?_,?_,by rw [hr,QQ,hmk]⟩
       ·have:=q 16 (by omega);simp only [Sl.of_l,Sl.of_nil,ql 16 (by omega)] at this;exact this
       ·have:=q 24 (by omega);simp only [Sl.of_l,Sl.of_nil,ql 24 (by omega)] at this;exact this
       ·have:=q 32 (by omega);simp only [Sl.of_l,Sl.of_nil,ql 32 (by omega)] at this;exact this
      rw [← Vs] at hm hr;have hRd:(qd (c :: r)).drop (40 * i+1) = qd R:=by rw [Zb,List.drop_succ_cons,hR]
      have hlast0:i = 0→Ki out id.l = false:=fun h=>by
       have:out = []:=VV (by omega);subst this;rfl
      have hlastk:∀ k (hk:k < out.length),k+1 = i→Ki out id.l = decide (0≤qx out[k].id.l id.l):=fun k hk vF=>by
       unfold Ki
       have:out.getLast? = some out[k]:=by
        rw [List.getLast?_eq_getElem?,zg (by omega)];congr 2;omega
       rw [this]
      have qK:IntKind.i64.wrap ((i:Int)+1) = ((i+1:Nat):Int):=(by rw [wrap_i64] <;> omega);have hc19:(out.length+1) * 40≤140737488355328∧out.length+1≤140737488355328:=(by have:=c.toNat_lt;omega);rcases Nat.eq_zero_or_pos i with VJ | hipos
      ·have hi0':¬ 0 < i:=(by omega);have v7:=hlast0 VJ;by_cases Qe:R.length < 40
       ·have JM:(R.length:Int) < 40:=(by omega);rw [v7,if_pos Qe] at hr;simp only [vC,if_false] at hr
        rcases Zy with ⟨rfl,rfl,rfl⟩ | ⟨rfl,rfl,Kt⟩ <;>
         simp [h0,h5,h21,h22,qk,hw40,Ye,g1,g2,g3,hRd,← Vs,qu,hm,YJ,hi0',JM,hr,readN,Sl.grown]
       ·have JM:¬ (R.length:Int) < 40:=(by omega);obtain ⟨a1,a2,a3,q1,q2,q3,q4,q5⟩:=fin40 v7 Qe;have hfold:qd id.l ++ [.int .u64 (a1:Int),.int .u64 (a2:Int),.int .u64 (a3:Int)] = Enc.cells (⟨id,a1,a2,a3⟩:Mk):=rfl;clear hr;rcases Zy with ⟨rfl,rfl,rfl⟩ | ⟨rfl,rfl,Kt⟩
        ·simp [h0,h5,h21,h22,qk,hw40,Ye,g1,g2,g3,hRd,← Vs,qu,hm,YJ,hi0',JM,q2,q3,q4,hfold,qK,qF,zV,qA,zA];exact ⟨i+1,by omega,by omega,_,_,.one _,by simp at zl;simp [← zl],by omega,rfl,rfl,q5⟩
        ·simp [h0,h5,h21,h22,qk,hw40,Ye,g1,g2,g3,hRd,← Vs,qu,hm,YJ,hi0',JM,q2,q3,q4,hfold,qK,qF,hc19,zV,qA,zA];exact ⟨i+1,by omega,by omega,_,_,.snoc _ _,by simp [zl],by omega,rfl,rfl,q5⟩
      ·obtain ⟨k,vF⟩:∃ k,k+1 = i:=⟨i - 1,by omega⟩;have X8:k < out.length:=(by omega);have hko':(k:Int) < (out.length:Int):=(by omega);have vy:IntKind.i64.wrap ((i:Int) - 1) = (k:Int):=(by rw [wrap_i64] <;> omega);have v7:=hlastk k X8 vF;have ZF:=qiE out[k].id id;have h19:k * 19+16≤out.length * 19:=(by omega);have h16k:∀ k,(16≤19+k) = True:=fun k=>eq_true (by omega);rcases Zy with ⟨rfl,rfl,rfl⟩ | ⟨rfl,rfl,Kt⟩
       ·simp at X8
       ·by_cases hge:0≤qx out[k].id.l id.l
        ·rw [v7,decide_eq_true hge] at hr;simp only [if_true] at hr;simp [h0,h5,h21,h22,qk,hw40,Ye,g1,g2,g3,hRd,← Vs,qu,hm,YJ,hipos,vy,X8,hko',h19,ZF,hge,hr,readN,Sl.grown,zV,qA]
        ·rw [decide_eq_false hge] at v7;by_cases Qe:R.length < 40
         ·have JM:(R.length:Int) < 40:=(by omega);rw [v7,if_pos Qe] at hr;simp only [vC,if_false] at hr;simp [h0,h5,h21,h22,qk,hw40,Ye,g1,g2,g3,hRd,← Vs,qu,hm,YJ,hipos,vy,X8,hko',h19,ZF,hge,JM,hr,readN,Sl.grown,zV,qA]
         ·have JM:¬ (R.length:Int) < 40:=(by omega);obtain ⟨a1,a2,a3,q1,q2,q3,q4,q5⟩:=fin40 v7 Qe;have hfold:qd id.l ++ [.int .u64 (a1:Int),.int .u64 (a2:Int),.int .u64 (a3:Int)] = Enc.cells (⟨id,a1,a2,a3⟩:Mk):=rfl;clear hr;simp [h0,h5,h21,h22,qk,hw40,Ye,g1,g2,g3,hRd,← Vs,qu,hm,YJ,hipos,vy,X8,hko',h19,ZF,hge,JM,q2,q3,q4,hfold,qK,qF,hc19,zV,qA,zA];exact ⟨i+1,by omega,by omega,_,_,.snoc _ _,by simp [zl],by omega,rfl,rfl,q5⟩
    ·have qk:¬ (i:Int) < (c.toNat:Int):=(by omega);have hk:c.toNat - i = 0:=(by omega);rw [hk,J6] at hr;rcases Zy with ⟨rfl,rfl,rfl⟩ | ⟨rfl,rfl,Kt⟩
     ·simp [h0,h5,h21,h22,qk,hr,readN,Sl.grown]
     ·have qK:IntKind.i64.wrap (40 * (out.length:Int)) = 40 * (out.length:Int):=(by rw [wrap_i64];omega);have zt:IntKind.i64.wrap (1+40 * (out.length:Int)) = 1+40 * (out.length:Int):=(by rw [wrap_i64];omega);simp [h0,h5,h21,h22,qk,hr,readN,Sl.grown,qK,zt,Kt]
def jh (q:List It × List Mk × Int):D:=.tup [(.vsl (Sl.grown q.1).nil (qg (Sl.grown q.1).l) (Sl.grown q.1).l.length),(.vsl (Sl.grown q.2.1).nil (qg (Sl.grown q.2.1).l) (Sl.grown q.2.1).l.length),.int .i64 q.2.2]
theorem qlY {l:List UInt8} (n:Nat) (hn:n = 2∨n = 4) (a:Nat):Q6 l a n = if a+n≤l.length then some (leN ((l.drop a).take n)) else none:=by
 unfold Q6;have hz:XP (n:Int) = true:=by rcases hn with rfl | rfl <;> rfl
 by_cases h:a+n≤l.length
 ·rw [if_pos ⟨hz,by omega,by omega⟩,if_pos h,Int.toNat_natCast,Int.toNat_natCast]
 ·rw [if_neg (fun h'=>h (by omega)),if_neg h]
theorem qlX (l:List UInt8):leN (l.take 4) < 4294967296:=by
 have h1:=Xz (l.take 4);have h2:(l.take 4).length≤4:=by rw [jn];omega
 exact jM h1 (kn (Y2 (by decide) h2) (by decide))
def q1r (out:List It) (d:D) (H:qi):Prop:=(out = []∧d = .vsl true [] 0∧∃ t,H = [some t])∨(out≠[]∧∃ n k,n = out.length * 39∧k = out.length∧((∃ t u,d = .osl 2 n 0 k 39∧H = [some t,some u,some (qg out)])∨(∃ t u,d = .osl 0 n 0 k 39∧H = [some (qg out),some t,some u])))
set_option maxHeartbeats 4000000 in
set_option maxRecDepth 4000 in
theorem qpl [MaxL] (b:Sl UInt8) (hn:b.l.length < 1000000):call cx 71 [(.vsl b.nil (qd b.l) b.l.length)] [] = some (jh (vK b.l),[]):=by
 have je:=qzs b (by omega);refine qq Tryz.func71 rfl ⟨rfl,rfl⟩ ?_;unfold qcE at je;by_cases h4:b.l.length < 4
 ·have hg:vK b.l = ([],[],22):=by unfold vK;rw [if_pos h4]
  rw [if_pos h4] at je;rw [hg];simp [Tryz.f71,je,jh,Sl.grown]
 rw [if_neg h4] at je;cases hs:XQ b.l with
 | false =>
  have hg:vK b.l = ([],[],19):=by unfold vK;rw [if_neg h4,hs];rfl
  rw [hs,if_neg (by decide)] at je;rw [hg];simp [Tryz.f71,je,jh,Sl.grown]
 | true =>
 have hg:vK b.l = qaj (b.l.take (b.l.length - 4)):=by unfold vK;rw [if_neg h4,hs];rfl
 rw [hs,if_pos rfl] at je;rw [hg];have hxl:(b.l.take (b.l.length - 4)).length < 1000000:=by rw [jn];omega
 generalize b.l.take (b.l.length - 4) = x at *;simp only [Sl.of_l,Sl.of_nil] at je;clear hg hs h4;unfold qaj;by_cases hx4:x.length < 4
 ·have Kl:(x.length:Int) < 4:=by omega
  rw [if_pos hx4];simp [Tryz.f71,je,jh,Sl.grown,Kl]
 rw [if_neg hx4];have Kl:¬ (x.length:Int) < 4:=by omega
 have hpf:=qgt (.of x) Kj (by simpa using hxl) (by decide) (by decide);replace hpf:call cx 108 [.vsl false (qd x) x.length,.vsl false [.int .u8 68,.int .u8 66,.int .u8 65,.int .u8 84] 4] [] = some (.bool (pre Kj x),[]):=hpf;cases hp:pre Kj x with
 | false =>
  rw [hp] at hpf;rw [if_neg (by decide)];simp [Tryz.f71,je,jh,Sl.grown,Kl,hpf]
 | true =>
 rw [hp] at hpf;rw [if_pos rfl];have jr:=qcI (.of x) (4:Nat) (2:Nat) (by decide) (by simp;omega);rw [Sl.of_l,qlY 2 (.inl rfl) 4] at jr;by_cases hx6:x.length < 6
 ·rw [if_pos hx6];rw [if_neg (by omega)] at jr;unfold KM at jr;replace jr:call cx 68 [.vsl false (qd x) x.length,.int .i64 4,.int .i64 2] [] = some (.tup [.int .u64 0,.bool false],[]):=jr;simp [Tryz.f71,je,jh,Sl.grown,Kl,hpf,jr]
 rw [if_neg hx6];rw [if_pos (by omega)] at jr;unfold KM at jr;replace jr:call cx 68 [.vsl false (qd x) x.length,.int .i64 4,.int .i64 2] [] = some (.tup [.int .u64 (leN ((x.drop 4).take 2):Nat),.bool true],[]):=jr;generalize leN ((x.drop 4).take 2) = many at *;by_cases VM:64 < many
 ·rw [if_pos VM];have ZL:(64:Int) < (many:Int):=by omega
  simp [Tryz.f71,je,jh,Sl.grown,Kl,hpf,jr,ZL]
 rw [if_neg VM];have ZL:¬ (64:Int) < (many:Int):=by omega
 have h6x:(6:Int)≤(x.length:Int):=by omega
 have h6n:6≤x.length:=by omega
 have hd6:List.drop 6 (qd x) = qd (x.drop 6):=Zb _ _;have hr0:(x.drop 6).length < 1000000:=by rw [jQ];omega
 have hl6:((x.length:Int) - 6) = ((x.drop 6).length:Int):=by rw [jQ];omega
 have hl6n:x.length - 6 = (x.drop 6).length:=by rw [jQ]
 obtain ⟨G,hG⟩:∃ G,Zz many (x.drop 6) [] = G:=⟨_,rfl⟩;rw [hG];generalize x.drop 6 = r0 at *;simp [Tryz.f71,je,Kl,hpf,jr,ZL,h6x,hd6,hl6n];refine Run.loopThen (fun (q:Nat × List UInt8 × List It) e H=>q.1≤many∧Zz (many - q.1) q.2.1 q.2.2 = G∧q.2.2.length = q.1∧q.2.1.length < 1000000∧qf e 0 = some (.vsl false (qd q.2.1) q.2.1.length)∧(∃ d,qf e 8 = some d∧q1r q.2.2 d H)∧qf e 48 = some (.int .u64 (many:Nat))∧qf e 49 = some (.int .u64 (q.1:Nat))) (fun q=>many - q.1) (0,r0,[]) ?_ ?_
 ·exact ⟨jg _,hG,rfl,hr0,by simp,⟨_,by simp,.inl ⟨rfl,rfl,_,rfl⟩⟩,by simp,by simp⟩
 rintro ⟨i,r,out⟩ e H ⟨hi,hR,ho,hrl,k0,⟨d,k8,hH⟩,k48,k49⟩;simp only at hi hR ho hrl k0 hH k49
 have QS:(out = []∧d = .vsl true [] 0∧∃ t,H = [some t])∨(∃ n k,n = out.length * 39∧k = out.length∧out≠[]∧List.take n (qg out) = qg out∧k * 39 = n∧k≤64∧((∃ t u,d = .osl 2 n 0 k 39∧H = [some t,some u,some (qg out)])∨(∃ t u,d = .osl 0 n 0 k 39∧H = [some (qg out),some t,some u]))):=by
  rcases hH with h | ⟨qr,n,k,hn,hk,h⟩
  ·exact .inl h
  ·exact .inr ⟨n,k,hn,hk,qr,qu (by simp;omega),by omega,by omega,h⟩
 clear hH;by_cases qh:i < many
 ·have hw:IntKind.u64.wrap ((i:Int)+1) = ((i+1:Nat):Int):=by rw [qS] <;> omega
  have zN:=qcI (.of r) (0:Nat) (4:Nat) (by decide) (by simp;omega);rw [Sl.of_l,qlY 4 (.inr rfl) 0] at zN;rw [show many - i = (many - (i+1))+1 by omega,Zz] at hR;have hk:=qlX r;by_cases hr4:r.length < 4
  ·rw [if_pos (.inl hr4)] at hR;rw [if_neg (by omega)] at zN;unfold KM at zN;replace zN:call cx 68 [.vsl false (qd r) r.length,.int .i64 0,.int .i64 4] [] = some (.tup [.int .u64 0,.bool false],[]):=zN;subst hR;rcases QS with ⟨rfl,rfl,tt,rfl⟩ | ⟨nn,kk,hnn,hkk,qr,qw,zh,Vj,⟨tt,uu,rfl,rfl⟩ | ⟨tt,uu,rfl,rfl⟩⟩
   ·simp [k0,k8,k48,k49,qh,zN,jh,Sl.grown]
   all_goals
    have qZ:out.length = kk:=hkk.symm;simp [k0,k8,k48,k49,qh,zN,jh,Sl.grown]
  rw [if_pos (by omega),List.drop_zero] at zN;unfold KM at zN;replace zN:call cx 68 [.vsl false (qd r) r.length,.int .i64 0,.int .i64 4] [] = some (.tup [.int .u64 (leN (r.take 4):Nat),.bool true],[]):=zN;obtain ⟨n,JI⟩:∃ n,leN (r.take 4) = n:=⟨_,rfl⟩;rw [JI] at zN hR hk;have Q7:IntKind.i64.wrap ((r.length:Int) - 4) = (r.length:Int) - 4:=by rw [wrap_i64];omega
  have vx:IntKind.u64.wrap ((r.length:Int) - 4) = (r.length:Int) - 4:=by rw [qS];omega
  by_cases hbig:r.length - 4 < n
  ·rw [if_pos (.inr hbig)] at hR;have Qd:(r.length:Int) - 4 < (n:Int):=(by omega);subst hR;rcases QS with ⟨rfl,rfl,tt,rfl⟩ | ⟨nn,kk,hnn,hkk,qr,qw,zh,Vj,⟨tt,uu,rfl,rfl⟩ | ⟨tt,uu,rfl,rfl⟩⟩
   ·simp [k0,k8,k48,k49,qh,zN,Q7,vx,Qd,jh,Sl.grown]
   all_goals
    have qZ:out.length = kk:=hkk.symm;simp [k0,k8,k48,k49,qh,zN,Q7,vx,Qd,jh,Sl.grown]
  rw [if_neg (by omega)] at hR;have Qd:¬ (r.length:Int) - 4 < (n:Int):=by omega
  have Zd:IntKind.u64.wrap (4+(n:Int)) = ((4+n:Nat):Int):=by rw [qS] <;> omega
  have QM:IntKind.i64.wrap (n:Int) = (n:Int):=by rw [wrap_i64];omega
  obtain ⟨t,ht⟩:∃ t,(r.drop 4).take n = t:=⟨_,rfl⟩;have jq:t.length = n:=by rw [← ht,jn,jQ];omega
  rw [ht] at hR;have jd:=qrV (.of t) (by simp;omega);simp only [Sl.of_l,Sl.of_nil,jq] at jd;have Kn:List.take n (List.drop 4 (qd r)) = qd t:=by rw [Zb,kr,ht]
  have q1:(0:Int)≤4+(n:Int):=by omega
  have q2:(4:Int)+(n:Int)≤(r.length:Int):=by omega
  have q3:(4:Int)≤4+(n:Int):=by omega
  have q4:((4:Int)+(n:Int)).toNat = 4+n:=by omega
  have q5:4+n - 4 = n:=by omega
  have q6:r.length - (4+n) = (r.drop (4+n)).length:=by rw [jQ]
  have KW:List.drop (4+n) (qd r) = qd (r.drop (4+n)):=Zb _ _;have zQ:(r.drop (4+n)).length < 1000000:=by rw [jQ];omega
  generalize r.drop (4+n) = r2 at *;by_cases hok:Jd t = true∧(zF (jp t)).length = n
  ·rw [if_pos hok] at hR;have e1:KK t = jp t:=(by unfold KK;rw [if_pos hok.1]);have e2:V5 t = n:=(by unfold V5;rw [if_pos hok.1,hok.2]);have e3:J7 t = 0:=(by unfold J7;rw [if_pos hok.1]);rw [e1,e2,e3] at jd;have hu:IntKind.u64.wrap ((i:Int)+1) = ((i+1:Nat):Int):=hw;generalize jp t = y at *;rcases QS with ⟨rfl,rfl,tt,rfl⟩ | ⟨nn,kk,hnn,hkk,qr,qw,zh,Vj,⟨tt,uu,rfl,rfl⟩ | ⟨tt,uu,rfl,rfl⟩⟩
   ·simp [k0,k8,k48,k49,qh,zN,Q7,vx,Qd,Zd,QM,Kn,KW,jd,q1,q2,q3,q4,q5,q6,qF];exact ⟨i+1,by omega,by omega,r2,[y],hR,by rw [← ho];rfl,zQ,⟨rfl,rfl⟩,.inr ⟨by simp,39,1,rfl,rfl,.inl ⟨_,_,rfl,by rw [Xb]⟩⟩,hu⟩
   all_goals
    have qZ:out.length = kk:=hkk.symm;have m1:(kk+1) * 104≤140737488355328:=(by omega);have m2:kk≤140737488355327:=(by omega);simp [qZ,zh,k0,k8,k48,k49,qh,zN,Q7,vx,Qd,Zd,QM,Kn,KW,jd,q1,q2,q3,q4,q5,q6,qF,m1,m2];exact ⟨i+1,by omega,by omega,r2,out ++ [y],hR,by simp [ho],zQ,⟨rfl,rfl⟩,.inr ⟨by simp,nn+39,kk+1,by simp;omega,by simp [qZ],.inr ⟨_,_,rfl,by rw [Z0]⟩⟩,hu⟩
  ·rw [if_neg hok] at hR;subst hR;cases YN:Jd t with
   | false =>
    have e1:J7 t = 20:=(by unfold J7;rw [YN];rfl);rw [e1] at jd;generalize KK t = y at *;generalize V5 t = z at *;rcases QS with ⟨rfl,rfl,tt,rfl⟩ | ⟨nn,kk,hnn,hkk,qr,qw,zh,Vj,⟨tt,uu,rfl,rfl⟩ | ⟨tt,uu,rfl,rfl⟩⟩
    ·simp [k0,k8,k48,k49,qh,zN,Q7,vx,Qd,Zd,Kn,jd,q1,q2,q3,q4,q5,jh,Sl.grown]
    all_goals
     have qZ:out.length = kk:=hkk.symm;simp [k0,k8,k48,k49,qh,zN,Q7,vx,Qd,Zd,Kn,jd,q1,q2,q3,q4,q5,jh,Sl.grown]
   | true =>
    have e1:J7 t = 0:=(by unfold J7;rw [YN];rfl);have e2:¬ (zF (jp t)).length = n:=fun h=>hok ⟨YN,h⟩;have e3:V5 t = (zF (jp t)).length:=(by unfold V5;rw [YN];rfl);rw [e1,e3] at jd;generalize KK t = y at *;generalize (zF (jp t)).length = z at *;have e2':¬ (z:Int) = (n:Int):=(by omega);rcases QS with ⟨rfl,rfl,tt,rfl⟩ | ⟨nn,kk,hnn,hkk,qr,qw,zh,Vj,⟨tt,uu,rfl,rfl⟩ | ⟨tt,uu,rfl,rfl⟩⟩
    ·simp [k0,k8,k48,k49,qh,zN,Q7,vx,Qd,Zd,QM,Kn,jd,q1,q2,q3,q4,q5,e2',jh,Sl.grown]
    all_goals
     have qZ:out.length = kk:=hkk.symm;simp [k0,k8,k48,k49,qh,zN,Q7,vx,Qd,Zd,QM,Kn,jd,q1,q2,q3,q4,q5,e2',jh,Sl.grown]
 ·have hk:many - i = 0:=by omega
  rw [hk,Zz] at hR;have hm:=qt6 (.of r) (by simp;omega);simp only [Sl.of_l,Sl.of_nil] at hm;obtain ⟨q,hq⟩:∃ q,vf r = q:=⟨_,rfl⟩;rw [hq] at hm hR;by_cases h0:q.2 = 0
  ·rw [if_pos h0] at hR;have hnn:0≤Go.Ev.readN q:=(by unfold Go.Ev.readN;rw [if_pos h0];omega);by_cases hle:Go.Ev.readN q < (r.length:Int)
   ·rw [if_pos hle] at hR;subst hR;rcases QS with ⟨rfl,rfl,tt,rfl⟩ | ⟨nn,kk,hnn,hkk,qr,qw,zh,Vj,⟨tt,uu,rfl,rfl⟩ | ⟨tt,uu,rfl,rfl⟩⟩
    ·simp [k0,k8,k48,k49,qh,hm,h0,hle,jh,Sl.grown]
    all_goals
     have qZ:out.length = kk:=hkk.symm;simp [k0,k8,k48,k49,qh,hm,h0,hle,jh,Sl.grown]
   ·rw [if_neg hle] at hR;subst hR;rcases QS with ⟨rfl,rfl,tt,rfl⟩ | ⟨nn,kk,hnn,hkk,qr,qw,zh,Vj,⟨tt,uu,rfl,rfl⟩ | ⟨tt,uu,rfl,rfl⟩⟩
    ·simp [k0,k8,k48,k49,qh,hm,h0,hle,jh,Sl.grown]
    all_goals
     have qZ:out.length = kk:=hkk.symm;simp [qZ,qw,zh,k0,k8,k48,k49,qh,hm,h0,hle,jh,Sl.grown,qr]
  ·rw [if_neg h0] at hR;subst hR;rcases QS with ⟨rfl,rfl,tt,rfl⟩ | ⟨nn,kk,hnn,hkk,qr,qw,zh,Vj,⟨tt,uu,rfl,rfl⟩ | ⟨tt,uu,rfl,rfl⟩⟩
   ·simp [k0,k8,k48,k49,qh,hm,h0,jh,Sl.grown]
   all_goals
    have qZ:out.length = kk:=hkk.symm;simp [k0,k8,k48,k49,qh,hm,h0,jh,Sl.grown]
theorem qyN [MaxL] [TxtC] (m:Mk) (id:ID):call cx 174 [.agg (Enc.cells m),.vptr (qd id.l)] [] = some (.bool (m.id == id),[]):=by
 refine qq Tryz.func174 rfl ⟨rfl,rfl⟩ ?_;simp [Tryz.f174,Mk.cells]
def find? {α:Type} (p:α→Bool):List α→Int→Int
 | [],_=>-1
 | m :: l,i=>if p m then i else find? p l (i+1)
theorem qtI [MaxL] [TxtC] (s:Sl Mk) (hn:s.l.length < 4611686018427387904) (f:Nat) (caps:List D) (p:Mk→Bool) (hb:cx.byRef f = false) (JG:cx.perm f = false) (hcaps:∀ x∈caps,idFree x = true)
  (hg:∀ m∈s.l,call cx f (.agg (Enc.cells m) :: caps) [] = some (.bool (p m),[])):call cx 173 [(.vsl s.nil (qg s.l) s.l.length),.fn f caps] [] = some (.int .i64 (find? p s.l 0),[]):=by
 have hcaps':=eq_true hcaps;refine qq Tryz.func173 rfl ⟨rfl,rfl⟩ ?_;simp [Tryz.f173];refine Run.loopThen (fun (i:Nat) e H=>i≤s.l.length∧H = []∧qf e 0 = some (.vsl s.nil (qg s.l) s.l.length)∧qf e 1 = some (.fn f caps)∧qf e 7 = some (.int .i64 s.l.length)∧qf e 8 = some (.int .i64 i)∧find? p s.l 0 = find? p (s.l.drop i) i) (fun i=>s.l.length - i) 0 (by simp) ?_;rintro i e H ⟨hi,rfl,h0,h1,h7,h8,hf⟩;by_cases qh:i < s.l.length
 ·have qk:((i:Int) < (s.l.length:Int)):=by omega
  have hd:s.l.drop i = s.l[i] :: s.l.drop (i+1):=zo qh;have hc:=hg s.l[i] (vk qh);have hw:IntKind.i64.wrap ((i:Int)+1) = ((i+1:Nat):Int):=by rw [wrap_i64] <;> omega
  rw [hd,find?] at hf;cases hp:p s.l[i] with
  | true =>
   rw [hp,if_pos rfl] at hf;simp [h0,h1,h7,h8,qk,qh,Sl.nn qh,hc,hb,JG,hp,hf,hcaps']
  | false =>
   rw [hp,if_neg (by decide)] at hf;simp [h0,h1,h7,h8,qk,qh,Sl.nn qh,hc,hb,JG,hp,hf,hcaps',hw];exact ⟨i+1,by omega,by omega,rfl,rfl⟩
 ·have qk:¬ ((i:Int) < (s.l.length:Int)):=by omega
  have hd:s.l.drop i = []:=zZ (by omega);rw [hd] at hf;simp [h0,h1,h7,h8,qk,hf,find?]
theorem qit [MaxL] [TxtC] (s:Sl Mk) (hn:s.l.length < 4611686018427387904) (id:ID) :
  call cx 148 [(.vsl s.nil (qg s.l) s.l.length),.agg (qd id.l)] [] = some (.int .i64 (find? (fun m=>m.id == id) s.l 0),[]):=by
 have h:=qtI s hn 174 [.vptr (qd id.l)] (fun m=>m.id == id) rfl rfl (by simp [idFree]) (fun m hm=>qyN m id);refine qq Tryz.func148 rfl ⟨rfl,rfl⟩ ?_;simp [Tryz.f148,h]
theorem find?_spec {α:Type} (p:α→Bool):∀ (l:List α) (k:Int),(∃ (i:Nat) (m:α),l[i]? = some m∧i < l.length∧p m = true∧find? p l k = k+i∧l.find? p = some m)∨(find? p l k = -1∧l.find? p = none)
 | [],k=>.inr ⟨rfl,rfl⟩
 | m :: l,k=>by
  cases hp:p m with
  | true=>exact .inl ⟨0,m,rfl,by simp,hp,by simp [find?,hp],by simp [hp]⟩
  | false =>
   rcases find?_spec p l (k+1) with ⟨i,m',h1,h2,h3,h4,h5⟩ | ⟨h1,h2⟩
   ·exact .inl ⟨i+1,m',by simpa using h1,by simpa using h2,h3,by simp [find?,hp,h4];omega,by simp [hp,h5]⟩
   ·exact .inr ⟨by simp [find?,hp,h1],by simp [hp,h2]⟩
def zJ (l:List Mk) (id:ID):Mk:=(l.find? fun m=>m.id == id).getD ⟨id,0,0,0⟩
theorem qmH [MaxL] [TxtC] (s:Sl Mk) (hn:s.l.length < 4611686018427387904) (id:ID) :
  call cx 111 [(.vsl s.nil (qg s.l) s.l.length),.agg (qd id.l)] [] = some (.agg (Enc.cells (zJ s.l id)),[]):=by
 have h:=qit s hn id;refine qq Tryz.func111 rfl ⟨rfl,rfl⟩ ?_;rcases find?_spec (fun m=>m.id == id) s.l 0 with ⟨i,m,h1,h2,h3,h4,h5⟩ | ⟨h1,h2⟩
 ·rw [h4,Sl.nn h2] at h;have hg:s.l[i] = m:=by rw [zg h2] at h1;exact qaz h1
  simp [Tryz.f111,h,h2,Sl.nn h2,hg,zJ,h5]
 ·rw [h1] at h;simp [Tryz.f111,h,zJ,h2,Mk.cells,qu]
theorem qeb (l:List Mk) (id:ID):(zJ l id).id = id:=by
 unfold zJ;cases h:l.find? (fun m=>m.id == id) with
 | none=>rfl
 | some m=>simpa using List.find?_some h
theorem qio {l:List Mk} (hl:∀ m∈l,m.Ok) (id:ID):(zJ l id).Ok:=by
 unfold zJ;cases h:l.find? (fun m=>m.id == id) with
 | none=>exact ⟨by simp [qy],by simp [qy],by simp [qy]⟩
 | some m=>exact hl m (List.mem_of_find?_eq_some h)
theorem qzJ [MaxL] [TxtC] (x y:Mk):call cx 150 [.agg (Enc.cells x),.agg (Enc.cells y)] [] = some (.int .i64 (qx x.id.l y.id.l),[]):=by
 have h:=qiE x.id y.id;refine qq Tryz.func150 rfl ⟨rfl,rfl⟩ ?_;simp [Tryz.f150,Mk.cells,h]
def qlV:Nat→Int
 | 0=>0 | 1=>1 | 2=>2 | 3=>2 | 4=>3 | 5=>3 | 6=>3 | 7=>3 | _=>4
theorem quc [MaxL] [TxtC] (n:Nat) (hn:n≤13):call cx 176 [.int .u64 n] [] = some (.int .i64 (qlV n),[]):=by
 have h:n = 0∨n = 1∨n = 2∨n = 3∨n = 4∨n = 5∨n = 6∨n = 7∨n = 8∨n = 9∨n = 10∨n = 11∨n = 12∨n = 13:=by omega
 refine call_some.2 ⟨60,?_⟩;rcases h with rfl | rfl | rfl | rfl | rfl | rfl | rfl | rfl | rfl | rfl | rfl | rfl | rfl | rfl <;> kernel_rfl
def swp (l:List Mk) (j:Nat):List Mk :=
 match l[j]?,l[j - 1]? with
 | some a,some b=>(l.set j b).set (j - 1) a
 | _,_=>l
def JX:Nat→List Mk→List Mk
 | 0,l=>l
 | j+1,l=>match l[j+1]?,l[j]? with
  | some a,some b=>if qx a.id.l b.id.l < 0 then JX j (swp l (j+1)) else l
  | _,_=>l
def Zt:Nat→Nat→List Mk→List Mk
 | 0,_,l=>l
 | k+1,i,l=>Zt k (i+1) (JX i l)
theorem qpB (l:List Mk) (j:Nat):(swp l j).length = l.length:=by
 unfold swp;split <;> simp
theorem qeV:∀ (j:Nat) (l:List Mk),(JX j l).length = l.length
 | 0,l=>rfl
 | j+1,l=>by
  unfold JX;split
  ·split
   ·rw [qeV j,qpB]
   ·rfl
  ·rfl
theorem qhY:∀ (k i:Nat) (l:List Mk),(Zt k i l).length = l.length
 | 0,_,_=>rfl
 | k+1,i,l=>by rw [Zt,qhY k,qeV]
set_option maxHeartbeats 4000000 in
theorem qxn [MaxL] [TxtC] (n:Nat) (hn:n≤12) (H:qi) (b:Nat) (j9:H.all (kN H.length) = true) (l:List Mk) (Zi:l.length = n) (hg:qo H b = some (qg l)) :
  call cx 201 [.osl b (n * 19) 0 n 19,.int .i64 0,.int .i64 n,.fn 150 []] H = some (.tup [],H.set b (some (qg (Zt (n - 1) 1 l)))):=by
 have hb:b < H.length:=by
  rcases ZS b H.length with h | h
  ·exact h
  ·rw [qo,List.getElem?_eq_none h] at hg;cases hg
 have hset:H.set b (some (qg l)) = H:=by
  rw [qo,zg hb] at hg;simp only [Ju] at hg;rw [← hg,List.set_getElem_self]
 refine qq Tryz.func201 rfl ⟨rfl,rfl⟩ ?_;simp [Tryz.f201];refine Run.loopThen (fun (s:Nat × List Mk) e H'=>1≤s.1∧s.2.length = n∧H' = H.set b (some (qg s.2))∧Zt (n - s.1) s.1 s.2 = Zt (n - 1) 1 l∧qf e 0 = some (.osl b (n * 19) 0 n 19)∧qf e 1 = some (.int .i64 0)∧qf e 2 = some (.int .i64 n)∧qf e 3 = some (.fn 150 [])∧qf e 8 = some (.int .i64 s.1)) (fun s=>n - s.1) (1,l) (by simp [Zi,hset]) ?_;rintro ⟨i,l'⟩ e H' ⟨hi,hln',rfl,hs,h0,h1,h2,h3,h8⟩;simp only at hi hln' hs h8;by_cases Vk:i < n
 ·have hin':(i:Int) < (n:Int):=by omega
  have hw:IntKind.i64.wrap ((i:Int)+1) = ((i+1:Nat):Int):=by rw [wrap_i64] <;> omega
  have jG:Zt (n - i) i l' = Zt (n - (i+1)) (i+1) (JX i l'):=by
   have:n - i = (n - (i+1))+1:=(by omega);rw [this,Zt]
  rw [jG] at hs;simp [h0,h1,h2,h3,h8,hin'];clear h0 h1 h2 h3 h8 e;refine Run.loopThen (fun (s:Nat × List Mk) e H'=>s.1≤i∧s.2.length = n∧H' = H.set b (some (qg s.2))∧JX s.1 s.2 = JX i l'∧qf e 0 = some (.osl b (n * 19) 0 n 19)∧qf e 1 = some (.int .i64 0)∧qf e 2 = some (.int .i64 n)∧qf e 3 = some (.fn 150 [])∧qf e 8 = some (.int .i64 i)∧qf e 9 = some (.int .i64 s.1)) (fun s=>s.1) (i,l') (by simp [hln']) ?_;rintro ⟨j,l''⟩ e H' ⟨hj,hln'',rfl,VC,h0,h1,h2,h3,h8,h9⟩;simp only at hj hln'' VC h9;have zl:(qg l'').length = n * 19:=by rw [Mk.el,hln'']
  have hg:((H.set b (some (qg l'')))[b]?).getD none = some (qg l''):=by rw [List.getElem?_set_self hb];rfl
  cases j with
  | zero =>
   rw [JX] at VC;subst VC;simp [h0,h1,h2,h3,h8,h9,hw];exact ⟨i+1,by omega,by omega,_,by rw [qeV,hln'],rfl,hs,rfl⟩
  | succ k =>
   obtain ⟨j,X9⟩:∃ j,j = k+1:=⟨_,rfl⟩;rw [← X9] at hj h9 VC;have hj0:0 < j:=(by omega);have JK:(j:Int) < (n:Int):=(by omega);have zh:(k:Int) < (n:Int):=(by omega);have vy:IntKind.i64.wrap ((j:Int) - 1) = (k:Int):=(by rw [wrap_i64] <;> omega);have vn:j < l''.length:=(by omega);have ke:k < l''.length:=(by omega);have hc:=qzJ l''[j] l''[k]
   have Ve:JX j l'' = if qx l''[j].id.l l''[k].id.l < 0 then JX k (swp l'' j) else l'':=by
    subst X9;rw [JX,zg vn,zg ke]
   have hsw:swp l'' j = (l''.set j l''[k]).set k l''[j]:=by
    have:j - 1 = k:=(by omega);rw [swp,this,zg vn,zg ke]
   by_cases qh:qx l''[j].id.l l''[k].id.l < 0
   ·rw [Ve,if_pos qh,hsw] at VC;have h19:j * 19+19≤n * 19:=(by omega);have h19':k * 19+19≤n * 19:=(by omega);have hkl2:k < (l''.set j l''[k]).length:=(by simpa using ke);have hlen2:(qg (l''.set j l''[k])).length = n * 19:=(by rw [Mk.el,qcv,hln'']);simp [h0,h1,h2,h3,h8,h9,hj0,JK,zh,vy,zl,vn,ke,hc,qh,h19,h19',hb,hlen2];exact ⟨k,by omega,by omega,_,by simp [hln''],rfl,VC,rfl⟩
   ·rw [Ve,if_neg qh] at VC;subst VC;simp [h0,h1,h2,h3,h8,h9,hj0,JK,zh,vy,hg,zl,vn,ke,hc,qh,hw];exact ⟨i+1,by omega,by omega,_,by rw [qeV,hln'],rfl,hs,rfl⟩
 ·have hin':¬ (i:Int) < (n:Int):=by omega
  have h0n:n - i = 0:=by omega
  rw [h0n,Zt] at hs;subst hs;simp [h0,h1,h2,h3,h8,hin'];refine qh2 ⟨fun x hx=>?_,qu (by simp)⟩;have Z8:=Jw hx;rcases qgy Z8 with h | rfl
  ·exact List.all_eq_true.1 j9 x h
  ·exact qgf _ _
theorem qoj {H:qi} {b:Nat} {ds:List D} (j9:H.all (kN H.length) = true) (hd:ds.all (closed H.length) = true) {x:Option (List D)} {n:Nat} (hx:x∈(H.set b (some ds)).take n):kN H.length x = true:=by
 have Z8:=Jw hx;rcases qgy Z8 with h | rfl
 ·exact List.all_eq_true.1 j9 x h
 ·exact hd
theorem qsB [MaxL] [TxtC] (n:Nat) (hn:n≤12) (k:Int) (H:qi) (b:Nat) (j9:H.all (kN H.length) = true) (l:List Mk) (Zi:l.length = n) (hg:qo H b = some (qg l)) :
  call cx 175 [.osl b (n * 19) 0 n 19,.int .i64 0,.int .i64 n,.int .i64 k,.fn 150 []] H = some (.tup [],H.set b (some (qg (Zt (n - 1) 1 l)))):=by
 have h:=qxn n hn H b j9 l Zi hg;have hw:IntKind.i64.wrap (n:Int) = (n:Int):=by rw [wrap_i64];omega
 have JI:(n:Int)≤12:=by omega
 refine qq Tryz.func175 rfl ⟨rfl,rfl⟩ ?_;simp [Tryz.f175];refine qgU ?_;simp [hw,JI,h];exact qh2 ⟨fun x hx=>qoj j9 (qgf _ _) hx,qu (by simp)⟩
theorem qjI [MaxL] [TxtC] (n:Nat) (hn:n≤12) (H:qi) (b:Nat) (j9:H.all (kN H.length) = true) (l:List Mk) (Zi:l.length = n) (hg:qo H b = some (qg l)) :
  call cx 149 [.osl b (n * 19) 0 n 19,.fn 150 []] H = some (.tup [],H.set b (some (qg (Zt (n - 1) 1 l)))):=by
 have h:=qsB n hn (qlV n) H b j9 l Zi hg;have zl:=quc n (by omega);have hw:IntKind.u64.wrap (n:Int) = (n:Int):=by rw [qS];omega
 refine qq Tryz.func149 rfl ⟨rfl,rfl⟩ ?_;simp [Tryz.f149,h,zl,hw];exact qh2 ⟨fun x hx=>qoj j9 (qgf _ _) hx,qu (by simp)⟩
theorem qlE [MaxL] [TxtC] (s:Sl Mk) (hn:s.l.length≤3000000000) :
  call cx 44 [(.vsl s.nil (qg s.l) s.l.length)] [] = if s.nil then some (.vsl true [] 0,[]) else some (.osl 0 (s.l.length * 19) 0 s.l.length 19,[some (qg s.l)]):=by
 have Qe:s.l.length * 40≤140737488355328:=by omega
 have vm:s.l.length≤140737488355328:=by omega
 obtain ⟨nil,l,qQ⟩:=s;simp only at hn Qe vm ⊢;cases nil with
 | true =>
  have jH:=qQ rfl;subst jH;rw [if_pos rfl];refine qq Tryz.func44 rfl ⟨rfl,rfl⟩ ?_;simp [Tryz.f44]
 | false =>
  rw [if_neg (by decide)];refine qq Tryz.func44 rfl ⟨rfl,rfl⟩ ?_;simp [Tryz.f44,Qe,vm,qF]
def QJ (l:List Mk) (m:Mk):List Mk :=
 if find? (fun x=>x.id == m.id) l 0 < 0 then Zt l.length 1 (l ++ [m]) else l.set (find? (fun x=>x.id == m.id) l 0).toNat m
theorem qt7 [MaxL] [TxtC] (s:Sl Mk) (hn:s.l.length≤11) (m:Mk) :
  call cx 113 [(.vsl s.nil (qg s.l) s.l.length),.agg (Enc.cells m)] [] = some (.vsl false (qg (QJ s.l m)) (QJ s.l m).length,[]):=by
 have hc:=qlE s (by omega);have hf:=qit s (by omega) m.id;have qw:(Enc.cells m).take 16 = qd m.id.l:=by simp [Mk.cells]
 have jq:(qg s.l).take (s.l.length * 19) = qg s.l:=qu (by simp);by_cases qQ:s.nil = true
 ·have jH:=s.h qQ;rw [qQ,jH] at hc hf;have hs:=qjI 1 (by decide) [some (Enc.cells m),some (Enc.cells m),some (Enc.cells m)] 2 (by simp [kN]) [m] rfl (by simp [qo,Xb]);simp at hc hf hs;have hp:QJ s.l m = [m]:=by rw [jH];rfl
  refine qq Tryz.func113 rfl ⟨rfl,rfl⟩ ?_;simp [Tryz.f113,qQ,jH,hc,hf,qw,qF,find?,hs,Zt,Xb];rw [← jH,hp];simp [Xb]
 ·have Ks:s.nil = false:=by simpa using qQ
  rw [Ks] at hc hf;rw [if_neg (by decide)] at hc;rcases find?_spec (fun x=>x.id == m.id) s.l 0 with ⟨i,m',h1,h2,h3,h4,h5⟩ | ⟨h1,h2⟩
  ·rw [h4] at hf
   have hp:QJ s.l m = s.l.set i m:=by
    unfold QJ;rw [h4,if_neg (by omega)];congr 1;omega
   have h19:i * 19+19≤s.l.length * 19:=(by omega);refine qq Tryz.func113 rfl ⟨rfl,rfl⟩ ?_;simp [Tryz.f113,Ks,hc,hf,qw,jq,h2,h19,hp,qu]
  ·rw [h1] at hf
   have hp:QJ s.l m = Zt s.l.length 1 (s.l ++ [m]):=by
    unfold QJ;rw [h1,if_pos (by decide)]
   have hs:=qjI (s.l.length+1) (by omega) [some (Enc.cells m),some (qg s.l ++ Enc.cells m),some (Enc.cells m)] 1 (by simp [kN]) (s.l ++ [m]) (by simp) (by simp [qo,Z0]);have zf:s.l.length * 19+19 = (s.l.length+1) * 19:=(by omega);have Qe:(s.l.length+1) * 40≤140737488355328:=(by omega);have vm:s.l.length+1≤140737488355328:=(by omega);have YS:(Zt s.l.length 1 (s.l ++ [m])).length = s.l.length+1:=(by rw [qhY];simp);simp at hs;refine qq Tryz.func113 rfl ⟨rfl,rfl⟩ ?_;simp [Tryz.f113,Ks,hc,hf,qw,jq,qF,Qe,vm,zf,hs,hp,YS,qu]
def kO:Int:=18446744073709551615
def qbZ (v n:Int):Int:=if IntKind.u64.wrap (kO - v) < n then kO else IntKind.u64.wrap (v+n)
theorem ql7 [MaxL] [TxtC] (v n:Int):call cx 112 [.int .u64 v,.int .u64 n] [] = some (.int .u64 (qbZ v n),[]):=by
 refine qq Tryz.func112 rfl ⟨rfl,rfl⟩ ?_;by_cases h:IntKind.u64.wrap (18446744073709551615 - v) < n
 ·simp [Tryz.f112,h,qbZ,kO]
 ·simp [Tryz.f112,h,qbZ,kO]
theorem ql6 {v n:Int} (hv:qy v) (hn:qy n):qbZ v n = if kO - v < n then kO else v+n:=by
 unfold qy at hv hn;have e:IntKind.u64.wrap (kO - v) = kO - v:=by rw [qS];unfold kO;omega
 unfold qbZ;rw [e];split
 ·rfl
 ·rw [qS];unfold kO at *;omega
def Q3 (l:List Mk) (id:ID):Int :=
 if jE l = false then 1 else if l.length = 4∧find? (fun m=>m.id == id) l 0 < 0 then 15 else 0
theorem qtK [MaxL] [TxtC] (s:Sl Mk) (hn:s.l.length < 4611686018427387904) (id:ID) :
  call cx 110 [(.vsl s.nil (qg s.l) s.l.length),.agg (qd id.l)] [] = some (.int .i64 (Q3 s.l id),[]):=by
 have hr:=qk0 s hn;have hf:=qit s hn id;refine qq Tryz.func110 rfl ⟨rfl,rfl⟩ ?_;cases h:jE s.l with
 | false =>
  rw [h] at hr;simp [Tryz.f110,hr,Q3,h]
 | true =>
  rw [h] at hr;by_cases h4:s.l.length = 4
  ·rw [h4] at hf hr;by_cases qh:find? (fun m=>m.id == id) s.l 0 < 0
   ·simp [Tryz.f110,hr,Q3,h,h4,hf,qh]
   ·simp [Tryz.f110,hr,Q3,h,h4,hf,qh]
  ·have ZM:¬ ((s.l.length:Int) = 4):=(by omega);simp [Tryz.f110,hr,Q3,h,h4,ZM]
theorem qtL {l:List Mk} {id:ID} (h:Q3 l id = 0):l.length≤4:=by
 unfold Q3 at h;split at h
 ·cases h
 ·rename_i hr;rw [Bool.not_eq_false,jE,qR] at hr;exact of_decide_eq_true hr.1
def KJ (c:Int) (l:List Mk):D:=if c = 0 then .vsl false (qg l) l.length else .vsl true [] 0
def VZ (m:Mk) (it:It) (over:Bool):Mk :=
 if it.gap then { m with seq:=it.til,lost:=qbZ m.lost (IntKind.u64.wrap (IntKind.u64.wrap (it.til - it.fr)+1)) }
 else { m with seq:=it.rc.seq,over:=if over then qbZ m.over 1 else m.over }
def Qt (m:Mk) (it:It):Bool :=
 if it.gap then !(decide (it.fr≤m.seq) || decide (it.til < it.fr)) else !decide (it.rc.seq≤m.seq)
def QG (l:List Mk) (it:It):Int:=if Q3 l it.id≠0 then Q3 l it.id else if Qt (zJ l it.id) it then 0 else 13
def Z3 (l:List Mk) (it:It) (over:Bool):List Mk:=QJ l (VZ (zJ l it.id) it over)
set_option maxRecDepth 4000 in
set_option maxHeartbeats 1000000 in
theorem qj2 [MaxL] [TxtC] (s:Sl Mk) (hn:s.l.length < 4611686018427387904) (it:It) (over:Bool) :
  call cx 72 [(.vsl s.nil (qg s.l) s.l.length),.agg (Enc.cells it),.bool over] [] = some (.tup [KJ (QG s.l it) (Z3 s.l it over),.int .i64 (QG s.l it)],[]):=by
 have hm:=qtK s hn it.id;have hge:=qmH s hn it.id;have YW:=qeb s.l it.id;refine qq Tryz.func72 rfl ⟨rfl,rfl⟩ ?_;by_cases hc:Q3 s.l it.id = 0
 ·rw [hc] at hm;have hp:=qt7 s (by have:=qtL hc;omega) (VZ (zJ s.l it.id) it over);unfold QG Z3;rw [if_neg (by simpa using hc)];generalize zJ s.l it.id = g at *;generalize QJ s.l (VZ g it over) = pm at *;cases vQ:it.gap with
  | true =>
   by_cases h1:it.fr≤g.seq
   ·simp [Tryz.f72,It.cells,hm,qA,zA,hge,YW,vQ,Mk.cells,h1,Qt,KJ]
   ·by_cases h2:it.til < it.fr
    ·simp [Tryz.f72,It.cells,hm,qA,zA,hge,YW,vQ,Mk.cells,h1,h2,Qt,KJ]
    ·have KU:=ql7 g.lost (IntKind.u64.wrap (IntKind.u64.wrap (it.til - it.fr)+1));simp only [VZ,vQ,if_true,Mk.cells,YW] at hp;simp [Tryz.f72,It.cells,hm,zV,qA,zA,hge,YW,vQ,Mk.cells,h1,h2,Qt,KJ,KU];simp [hp]
  | false =>
   by_cases h1:it.rc.seq≤g.seq
   ·simp [Tryz.f72,It.cells,hm,qA,zA,hge,YW,vQ,Mk.cells,h1,Qt,KJ]
   ·have KU:=ql7 g.over 1;simp only [VZ,vQ,Mk.cells,YW] at hp;cases over with
    | false =>
     simp at hp;simp [Tryz.f72,It.cells,hm,zV,qA,zA,hge,YW,vQ,Mk.cells,h1,Qt,KJ,hp]
    | true =>
     simp at hp;simp [Tryz.f72,It.cells,hm,zV,qA,zA,hge,YW,vQ,Mk.cells,h1,Qt,KJ,hp,KU]
 ·have e:QG s.l it = Q3 s.l it.id:=by unfold QG;rw [if_pos hc]
  simp [Tryz.f72,It.cells,hm,hc,qA,KJ,e]
theorem qsp (l:List Mk) (m:Mk):(QJ l m).length≤l.length+1:=by
 unfold QJ;split
 ·rw [qhY];simp
 ·rw [qcv];omega
def kQ {α:Type} (c:Int) (s:Sl α):Sl α:=if c = 0 then s else .none
theorem qsQ [MaxL] [TxtC] (a b:Int):call cx 82 [.int .u64 a,.int .u64 b] [] = some (.int .i64 (if a < b then -1 else if b < a then 1 else 0),[]):=by
 refine qq Tryz.func82 rfl ⟨rfl,rfl⟩ ?_;by_cases h1:a < b
 ·simp [Tryz.f82,h1]
 ·by_cases h2:b < a
  ·simp [Tryz.f82,h1,h2]
  ·simp [Tryz.f82,h1,h2]
theorem qzN:∀ {x y:List UInt8} {i:Nat} (hx:i < x.length) (hy:i < y.length),qx (x.drop i) (y.drop i) = if x[i] = y[i] then qx (x.drop (i+1)) (y.drop (i+1)) else if x[i] < y[i] then -1 else 1:=by
 intro x y i hx hy;rw [zo hx,zo hy,qx]
set_option maxHeartbeats 1000000 in
theorem qic [MaxL] [TxtC] (x y:ID):call cx 47 [.agg (qd x.l),.agg (qd y.l)] [] = some (.int .i64 (qx x.l y.l),[]):=by
 refine qq Tryz.func47 rfl ⟨rfl,rfl⟩ ?_;simp [Tryz.f47];refine Run.loopThen (fun (i:Nat) e H=>i≤16∧H = [some (qd x.l),some (qd y.l)]∧qf e 2 = some (.optr 0 16 0)∧qf e 3 = some (.optr 1 16 0)∧qf e 5 = some (.int .i64 i)∧qx x.l y.l = qx (x.l.drop i) (y.l.drop i)) (fun i=>16 - i) 0 (by simp) ?_;rintro i e H ⟨hi,rfl,h2,h3,h5,hr⟩;by_cases qh:i < 16
 ·have qk:(i:Int) < 16:=by omega
  have hx:i < x.l.length:=by simp;omega
  have hy:i < y.l.length:=by simp;omega
  have hw:IntKind.i64.wrap ((i:Int)+1) = ((i+1:Nat):Int):=by rw [wrap_i64] <;> omega
  have hwx:IntKind.u64.wrap (x.l[i].toNat:Int) = (x.l[i].toNat:Int):=by rw [qS];have:=x.l[i].toNat_lt;omega
  have hwy:IntKind.u64.wrap (y.l[i].toNat:Int) = (y.l[i].toNat:Int):=by rw [qS];have:=y.l[i].toNat_lt;omega
  have ho:=qsQ (x.l[i].toNat:Int) (y.l[i].toNat:Int);rw [qzN hx hy] at hr;by_cases he:x.l[i] = y.l[i]
  ·rw [if_pos he] at hr;simp [h2,h3,h5,qk,jo hx,jo hy,he,hw];exact ⟨i+1,by omega,by omega,rfl,hr⟩
  ·have qr:¬ ((x.l[i].toNat:Int) = (y.l[i].toNat:Int)):=by
    intro h;exact he (UInt8.toNat_inj.1 (by omega))
   have hne':¬ (x.l[i].toNat = y.l[i].toNat):=fun h=>he (UInt8.toNat_inj.1 h);rw [if_neg he] at hr
   have ho':(if (x.l[i].toNat:Int) < (y.l[i].toNat:Int) then (-1:Int) else if (y.l[i].toNat:Int) < (x.l[i].toNat:Int) then 1 else 0) = qx x.l y.l:=by
    rw [hr];by_cases hl:x.l[i] < y.l[i]
    ·have:x.l[i].toNat < y.l[i].toNat:=hl;rw [if_pos hl,if_pos (by omega)]
    ·have:¬ x.l[i].toNat < y.l[i].toNat:=hl;rw [if_neg hl,if_neg (by omega),if_pos (by omega)]
   rw [ho'] at ho;simp [h2,h3,h5,qk,jo hx,jo hy,qr,hwx,hwy,ho]
 ·have qk:¬ (i:Int) < 16:=by omega
  have zY:i = 16:=by omega
  subst zY;have e1:x.l.drop 16 = []:=zZ (by simp);have e2:y.l.drop 16 = []:=zZ (by simp);rw [e1,e2,qx] at hr;simp [h2,h3,h5,hr]
set_option maxHeartbeats 1000000 in
theorem qff [MaxL] [TxtC] (s:Sl Mk) (hn:s.l.length < 4611686018427387904) :
  call cx 20 [(.vsl s.nil (qg s.l) s.l.length)] [] = some (.bool (jE s.l),[]):=by
 refine qq Tryz.func20 rfl ⟨rfl,rfl⟩ ?_;simp [Tryz.f20];refine Run.loopThen (fun (i:Nat) e H=>1≤i∧(i≤s.l.length∨i = 1)∧H = []∧qf e 0 = some (.vsl s.nil (qg s.l) s.l.length)∧qf e 3 = some (.int .i64 i)∧zB s.l = zB (s.l.drop (i - 1))) (fun i=>s.l.length - i) 1 (by simp) ?_;rintro i e H ⟨hi,YS,rfl,h0,h3,hr⟩;by_cases qh:i < s.l.length
 ·obtain ⟨k,hk⟩:∃ k,k+1 = i:=⟨i - 1,by omega⟩;have qk:(i:Int) < (s.l.length:Int):=by omega
  have ke:k < s.l.length:=by omega
  have ku:(k:Int) < (s.l.length:Int):=by omega
  have hw:IntKind.i64.wrap ((i:Int) - 1) = (k:Int):=by rw [wrap_i64] <;> omega
  have zt:IntKind.i64.wrap ((i:Int)+1) = ((i+1:Nat):Int):=by rw [wrap_i64] <;> omega
  have hc:=qic s.l[k].id s.l[i].id
  have zQ:zB s.l = (decide (qx s.l[k].id.l s.l[i].id.l < 0) && zB (s.l.drop i)):=by
   have e1:i - 1 = k:=by omega
   have e2:s.l.drop k = s.l[k] :: s.l[i] :: s.l.drop (i+1):=by
    rw [zo ke];congr 1;rw [hk,zo qh]
   rw [hr,e1,e2,zB,zo qh]
  have zY:∀ k,(16≤19+k) = True:=fun k=>eq_true (by omega);by_cases ZF:qx s.l[k].id.l s.l[i].id.l < 0
  ·have hcm':¬ 0≤qx s.l[k].id.l s.l[i].id.l:=(by omega);rw [decide_eq_true ZF,vV] at zQ;simp [h0,h3,qk,hw,ku,Sl.nn qh,zY,qh,ke,hc,hcm',zt];exact ⟨i+1,by omega,by omega,.inl (by omega),rfl,by simpa using zQ⟩
  ·have hcm':0≤qx s.l[k].id.l s.l[i].id.l:=(by omega);rw [decide_eq_false ZF,ZX] at zQ;simp [h0,h3,qk,hw,ku,Sl.nn qh,zY,qh,ke,hc,hcm',zQ,jE]
 ·have qk:¬ (i:Int) < (s.l.length:Int):=by omega
  have zQ:zB s.l = true:=by
   rw [hr];have:(s.l.drop (i - 1)).length≤1:=by rw [jQ];omega
   match s.l.drop (i - 1),this with
   | [],_=>rfl
   | [a],_=>rfl
  by_cases h4:s.l.length≤4
  ·have ZM:(s.l.length:Int)≤4:=(by omega);simp [h0,h3,qk,zQ,h4,ZM,jE]
  ·have ZM:¬ (s.l.length:Int)≤4:=(by omega);simp [h0,h3,qk,zQ,h4,ZM,jE]
def vZ (a b:List Mk):Bool:=a.all fun m=>decide (m.seq≤(zJ b m.id).seq)
theorem qoG {α:Type} (p:α→Bool) {l:List α} {i:Nat} (h:i < l.length):(l.drop i).all p = (p l[i] && (l.drop (i+1)).all p):=by
 rw [zo h,XM]
set_option maxHeartbeats 1000000 in
theorem qfB [MaxL] [TxtC] (a b:Sl Mk) (ha:a.l.length < 4611686018427387904) (hb:b.l.length < 4611686018427387904) :
  call cx 73 [(.vsl a.nil (qg a.l) a.l.length),(.vsl b.nil (qg b.l) b.l.length)] [] = some (.bool (vZ a.l b.l),[]):=by
 refine qq Tryz.func73 rfl ⟨rfl,rfl⟩ ?_;simp [Tryz.f73];refine Run.loopThen (fun (i:Nat) e H=>i≤a.l.length∧H = []∧qf e 1 = some (.vsl b.nil (qg b.l) b.l.length)∧qf e 7 = some (.vsl a.nil (qg a.l) a.l.length)∧qf e 8 = some (.int .i64 a.l.length)∧qf e 9 = some (.int .i64 i)∧vZ a.l b.l = vZ (a.l.drop i) b.l) (fun i=>a.l.length - i) 0 (by simp) ?_;rintro i e H ⟨hi,rfl,h1,h7,h8,h9,hr⟩;by_cases qh:i < a.l.length
 ·have qk:(i:Int) < (a.l.length:Int):=by omega
  have hw:IntKind.i64.wrap ((i:Int)+1) = ((i+1:Nat):Int):=by rw [wrap_i64] <;> omega
  have hg:=qmH b hb a.l[i].id;unfold vZ at hr ⊢;rw [qoG _ qh] at hr;by_cases hs:(zJ b.l a.l[i].id).seq < a.l[i].seq
  ·have kY:¬ a.l[i].seq≤(zJ b.l a.l[i].id).seq:=(by omega);simp only [kY,decide_false,ZX] at hr;simp [h1,h7,h8,h9,qk,qh,Sl.nn qh,hg,hs,hr]
  ·have kY:a.l[i].seq≤(zJ b.l a.l[i].id).seq:=(by omega);simp only [kY,decide_true,vV] at hr;simp [h1,h7,h8,h9,qk,qh,Sl.nn qh,hg,hs,hw];exact ⟨i+1,by omega,by omega,rfl,hr⟩
 ·have qk:¬ (i:Int) < (a.l.length:Int):=by omega
  have hd:a.l.drop i = []:=zZ (by omega);rw [hd] at hr;have he:vZ [] b.l = true:=rfl;rw [he] at hr;simp [h1,h7,h8,h9,qk,hr]
end Go.Ev.S
namespace Go.Ev
open Go Go.Proofs
structure I6 where
 v:Int
instance:Enc I6:=⟨1,fun x=>[.int .i64 x.v],fun _=>rfl,fun _=>rfl⟩
theorem I6.cells (x:I6):Enc.cells x = [.int .i64 x.v]:=rfl
@[simp] theorem I6.size:Enc.size I6 = 1:=rfl
@[simp] theorem I6.cl (a:I6):(Enc.cells a).length = 1:=Enc.len a
@[simp] theorem I6.ct (a:I6) (r:List D):(Enc.cells a ++ r).take 1 = Enc.cells a:=Xg rfl a r
@[simp] theorem I6.ct' (a:I6):(Enc.cells a).take 1 = Enc.cells a:=Xf rfl a
@[simp] theorem I6.cd (a:I6) (r:List D):(Enc.cells a ++ r).drop 1 = r:=Xh rfl a r
@[simp] theorem I6.el (l:List I6):(qg l).length = l.length * 1:=Xc rfl l
@[simp] theorem I6.ed (l:List I6) (i:Nat):(qg l).drop (i * 1) = qg (l.drop i):=VN rfl l i
@[simp] theorem I6.et (l:List I6) (i:Nat):(qg l).take (i * 1) = qg (l.take i):=Ky rfl l i
@[simp high] theorem I6.ea {l:List I6} {i:Nat} (h:i < l.length):(qg l).drop (i * 1) = Enc.cells l[i] ++ qg (l.drop (i+1)):=VO rfl h
@[simp high] theorem I6.es (m:I6) {l:List I6} {j:Nat} (h:j < l.length):qE (qg l) (j * 1) (Enc.cells m) = qg (l.set j m):=Kz rfl m l h
theorem qyX (l:List I6):qg l = jb .i64 (l.map (·.v)):=by
 unfold jb
 induction l with
 | nil=>rfl
 | cons a l ih=>rw [ZN,ih];rfl
structure DoI where
 kind:Int
 epoch:Int
 number:Int
 ln:Sl I6
 ats:Sl I6
 byv:Int
 b:Sl UInt8
instance:Enc DoI:=⟨7,fun m=>(.int .i64 m.kind :: (.int .i64 m.epoch :: (.int .i64 m.number :: ((.vsl m.ln.nil (qg m.ln.l) m.ln.l.length) :: ((.vsl m.ats.nil (qg m.ats.l) m.ats.l.length) :: (.int .u8 m.byv :: ((.vsl m.b.nil (qd m.b.l) m.b.l.length) :: ([]:List D)))))))),fun m=>by simp,fun m=>by simp [idFree]⟩
theorem DoI.cells (m:DoI):Enc.cells m = (.int .i64 m.kind :: (.int .i64 m.epoch :: (.int .i64 m.number :: ((.vsl m.ln.nil (qg m.ln.l) m.ln.l.length) :: ((.vsl m.ats.nil (qg m.ats.l) m.ats.l.length) :: (.int .u8 m.byv :: ((.vsl m.b.nil (qd m.b.l) m.b.l.length) :: ([]:List D)))))))):=rfl
@[simp] theorem DoI.size:Enc.size DoI = 7:=rfl
@[simp] theorem DoI.cl (a:DoI):(Enc.cells a).length = 7:=Enc.len a
@[simp] theorem DoI.ct (a:DoI) (r:List D):(Enc.cells a ++ r).take 7 = Enc.cells a:=Xg rfl a r
@[simp] theorem DoI.ct' (a:DoI):(Enc.cells a).take 7 = Enc.cells a:=Xf rfl a
@[simp] theorem DoI.cd (a:DoI) (r:List D):(Enc.cells a ++ r).drop 7 = r:=Xh rfl a r
@[simp] theorem DoI.el (l:List DoI):(qg l).length = l.length * 7:=Xc rfl l
@[simp] theorem DoI.ed (l:List DoI) (i:Nat):(qg l).drop (i * 7) = qg (l.drop i):=VN rfl l i
@[simp] theorem DoI.et (l:List DoI) (i:Nat):(qg l).take (i * 7) = qg (l.take i):=Ky rfl l i
@[simp high] theorem DoI.ea {l:List DoI} {i:Nat} (h:i < l.length):(qg l).drop (i * 7) = Enc.cells l[i] ++ qg (l.drop (i+1)):=VO rfl h
@[simp high] theorem DoI.es (m:DoI) {l:List DoI} {j:Nat} (h:j < l.length):qE (qg l) (j * 7) (Enc.cells m) = qg (l.set j m):=Kz rfl m l h
@[simp] theorem DoI.g0 (m:DoI) (h):(Enc.cells m)[0]'h = .int .i64 m.kind:=by simp [DoI.cells]
@[simp] theorem DoI.q0 (m:DoI):(Enc.cells m)[0]? = some (.int .i64 m.kind):=by simp [DoI.cells]
@[simp] theorem DoI.s0 (m:DoI) (x:Int):qE (Enc.cells m) 0 [.int .i64 x] = Enc.cells { m with kind:=x }:=by simp [DoI.cells]
@[simp] theorem DoI.d1 (m:DoI):(Enc.cells m).drop 1 = (.int .i64 m.epoch :: (.int .i64 m.number :: ((.vsl m.ln.nil (qg m.ln.l) m.ln.l.length) :: ((.vsl m.ats.nil (qg m.ats.l) m.ats.l.length) :: (.int .u8 m.byv :: ((.vsl m.b.nil (qd m.b.l) m.b.l.length) :: ([]:List D))))))):=by simp [DoI.cells]
@[simp] theorem DoI.d1' (m:DoI) (r:List D):(Enc.cells m ++ r).drop 1 = (.int .i64 m.epoch :: (.int .i64 m.number :: ((.vsl m.ln.nil (qg m.ln.l) m.ln.l.length) :: ((.vsl m.ats.nil (qg m.ats.l) m.ats.l.length) :: (.int .u8 m.byv :: ((.vsl m.b.nil (qd m.b.l) m.b.l.length) :: ([]:List D))))))) ++ r:=by simp [DoI.cells]
@[simp] theorem DoI.g1 (m:DoI) (h):(Enc.cells m)[1]'h = .int .i64 m.epoch:=by simp [DoI.cells]
@[simp] theorem DoI.q1 (m:DoI):(Enc.cells m)[1]? = some (.int .i64 m.epoch):=by simp [DoI.cells]
@[simp] theorem DoI.s1 (m:DoI) (x:Int):qE (Enc.cells m) 1 [.int .i64 x] = Enc.cells { m with epoch:=x }:=by simp [DoI.cells]
@[simp] theorem DoI.d2 (m:DoI):(Enc.cells m).drop 2 = (.int .i64 m.number :: ((.vsl m.ln.nil (qg m.ln.l) m.ln.l.length) :: ((.vsl m.ats.nil (qg m.ats.l) m.ats.l.length) :: (.int .u8 m.byv :: ((.vsl m.b.nil (qd m.b.l) m.b.l.length) :: ([]:List D)))))):=by simp [DoI.cells]
@[simp] theorem DoI.d2' (m:DoI) (r:List D):(Enc.cells m ++ r).drop 2 = (.int .i64 m.number :: ((.vsl m.ln.nil (qg m.ln.l) m.ln.l.length) :: ((.vsl m.ats.nil (qg m.ats.l) m.ats.l.length) :: (.int .u8 m.byv :: ((.vsl m.b.nil (qd m.b.l) m.b.l.length) :: ([]:List D)))))) ++ r:=by simp [DoI.cells]
@[simp] theorem DoI.g2 (m:DoI) (h):(Enc.cells m)[2]'h = .int .i64 m.number:=by simp [DoI.cells]
@[simp] theorem DoI.q2 (m:DoI):(Enc.cells m)[2]? = some (.int .i64 m.number):=by simp [DoI.cells]
@[simp] theorem DoI.s2 (m:DoI) (x:Int):qE (Enc.cells m) 2 [.int .i64 x] = Enc.cells { m with number:=x }:=by simp [DoI.cells]
@[simp] theorem DoI.d3 (m:DoI):(Enc.cells m).drop 3 = ((.vsl m.ln.nil (qg m.ln.l) m.ln.l.length) :: ((.vsl m.ats.nil (qg m.ats.l) m.ats.l.length) :: (.int .u8 m.byv :: ((.vsl m.b.nil (qd m.b.l) m.b.l.length) :: ([]:List D))))):=by simp [DoI.cells]
@[simp] theorem DoI.d3' (m:DoI) (r:List D):(Enc.cells m ++ r).drop 3 = ((.vsl m.ln.nil (qg m.ln.l) m.ln.l.length) :: ((.vsl m.ats.nil (qg m.ats.l) m.ats.l.length) :: (.int .u8 m.byv :: ((.vsl m.b.nil (qd m.b.l) m.b.l.length) :: ([]:List D))))) ++ r:=by simp [DoI.cells]
@[simp] theorem DoI.g3 (m:DoI) (h):(Enc.cells m)[3]'h = (.vsl m.ln.nil (qg m.ln.l) m.ln.l.length):=by simp [DoI.cells]
@[simp] theorem DoI.q3 (m:DoI):(Enc.cells m)[3]? = some ((.vsl m.ln.nil (qg m.ln.l) m.ln.l.length)):=by simp [DoI.cells]
@[simp] theorem DoI.s3 (m:DoI) (x:Sl I6):qE (Enc.cells m) 3 [(.vsl x.nil (qg x.l) x.l.length)] = Enc.cells { m with ln:=x }:=by simp [DoI.cells]
@[simp] theorem DoI.d4 (m:DoI):(Enc.cells m).drop 4 = ((.vsl m.ats.nil (qg m.ats.l) m.ats.l.length) :: (.int .u8 m.byv :: ((.vsl m.b.nil (qd m.b.l) m.b.l.length) :: ([]:List D)))):=by simp [DoI.cells]
@[simp] theorem DoI.d4' (m:DoI) (r:List D):(Enc.cells m ++ r).drop 4 = ((.vsl m.ats.nil (qg m.ats.l) m.ats.l.length) :: (.int .u8 m.byv :: ((.vsl m.b.nil (qd m.b.l) m.b.l.length) :: ([]:List D)))) ++ r:=by simp [DoI.cells]
@[simp] theorem DoI.g4 (m:DoI) (h):(Enc.cells m)[4]'h = (.vsl m.ats.nil (qg m.ats.l) m.ats.l.length):=by simp [DoI.cells]
@[simp] theorem DoI.q4 (m:DoI):(Enc.cells m)[4]? = some ((.vsl m.ats.nil (qg m.ats.l) m.ats.l.length)):=by simp [DoI.cells]
@[simp] theorem DoI.s4 (m:DoI) (x:Sl I6):qE (Enc.cells m) 4 [(.vsl x.nil (qg x.l) x.l.length)] = Enc.cells { m with ats:=x }:=by simp [DoI.cells]
@[simp] theorem DoI.d5 (m:DoI):(Enc.cells m).drop 5 = (.int .u8 m.byv :: ((.vsl m.b.nil (qd m.b.l) m.b.l.length) :: ([]:List D))):=by simp [DoI.cells]
@[simp] theorem DoI.d5' (m:DoI) (r:List D):(Enc.cells m ++ r).drop 5 = (.int .u8 m.byv :: ((.vsl m.b.nil (qd m.b.l) m.b.l.length) :: ([]:List D))) ++ r:=by simp [DoI.cells]
@[simp] theorem DoI.g5 (m:DoI) (h):(Enc.cells m)[5]'h = .int .u8 m.byv:=by simp [DoI.cells]
@[simp] theorem DoI.q5 (m:DoI):(Enc.cells m)[5]? = some (.int .u8 m.byv):=by simp [DoI.cells]
@[simp] theorem DoI.s5 (m:DoI) (x:Int):qE (Enc.cells m) 5 [.int .u8 x] = Enc.cells { m with byv:=x }:=by simp [DoI.cells]
@[simp] theorem DoI.d6 (m:DoI):(Enc.cells m).drop 6 = ((.vsl m.b.nil (qd m.b.l) m.b.l.length) :: ([]:List D)):=by simp [DoI.cells]
@[simp] theorem DoI.d6' (m:DoI) (r:List D):(Enc.cells m ++ r).drop 6 = ((.vsl m.b.nil (qd m.b.l) m.b.l.length) :: ([]:List D)) ++ r:=by simp [DoI.cells]
@[simp] theorem DoI.g6 (m:DoI) (h):(Enc.cells m)[6]'h = (.vsl m.b.nil (qd m.b.l) m.b.l.length):=by simp [DoI.cells]
@[simp] theorem DoI.q6 (m:DoI):(Enc.cells m)[6]? = some ((.vsl m.b.nil (qd m.b.l) m.b.l.length)):=by simp [DoI.cells]
@[simp] theorem DoI.s6 (m:DoI) (x:Sl UInt8):qE (Enc.cells m) 6 [(.vsl x.nil (qd x.l) x.l.length)] = Enc.cells { m with b:=x }:=by simp [DoI.cells]
structure RcP where
 epoch:Int
 last:Int
 items:Sl It
 marks:Sl Mk
instance:Enc RcP:=⟨4,fun m=>(.int .u64 m.epoch :: (.int .u64 m.last :: ((.vsl m.items.nil (qg m.items.l) m.items.l.length) :: ((.vsl m.marks.nil (qg m.marks.l) m.marks.l.length) :: ([]:List D))))),fun m=>by simp,fun m=>by simp [idFree]⟩
theorem RcP.cells (m:RcP):Enc.cells m = (.int .u64 m.epoch :: (.int .u64 m.last :: ((.vsl m.items.nil (qg m.items.l) m.items.l.length) :: ((.vsl m.marks.nil (qg m.marks.l) m.marks.l.length) :: ([]:List D))))):=rfl
@[simp] theorem RcP.size:Enc.size RcP = 4:=rfl
@[simp] theorem RcP.cl (a:RcP):(Enc.cells a).length = 4:=Enc.len a
@[simp] theorem RcP.ct (a:RcP) (r:List D):(Enc.cells a ++ r).take 4 = Enc.cells a:=Xg rfl a r
@[simp] theorem RcP.ct' (a:RcP):(Enc.cells a).take 4 = Enc.cells a:=Xf rfl a
@[simp] theorem RcP.cd (a:RcP) (r:List D):(Enc.cells a ++ r).drop 4 = r:=Xh rfl a r
@[simp] theorem RcP.el (l:List RcP):(qg l).length = l.length * 4:=Xc rfl l
@[simp] theorem RcP.ed (l:List RcP) (i:Nat):(qg l).drop (i * 4) = qg (l.drop i):=VN rfl l i
@[simp] theorem RcP.et (l:List RcP) (i:Nat):(qg l).take (i * 4) = qg (l.take i):=Ky rfl l i
@[simp high] theorem RcP.ea {l:List RcP} {i:Nat} (h:i < l.length):(qg l).drop (i * 4) = Enc.cells l[i] ++ qg (l.drop (i+1)):=VO rfl h
@[simp high] theorem RcP.es (m:RcP) {l:List RcP} {j:Nat} (h:j < l.length):qE (qg l) (j * 4) (Enc.cells m) = qg (l.set j m):=Kz rfl m l h
@[simp] theorem RcP.g0 (m:RcP) (h):(Enc.cells m)[0]'h = .int .u64 m.epoch:=by simp [RcP.cells]
@[simp] theorem RcP.q0 (m:RcP):(Enc.cells m)[0]? = some (.int .u64 m.epoch):=by simp [RcP.cells]
@[simp] theorem RcP.s0 (m:RcP) (x:Int):qE (Enc.cells m) 0 [.int .u64 x] = Enc.cells { m with epoch:=x }:=by simp [RcP.cells]
@[simp] theorem RcP.d1 (m:RcP):(Enc.cells m).drop 1 = (.int .u64 m.last :: ((.vsl m.items.nil (qg m.items.l) m.items.l.length) :: ((.vsl m.marks.nil (qg m.marks.l) m.marks.l.length) :: ([]:List D)))):=by simp [RcP.cells]
@[simp] theorem RcP.d1' (m:RcP) (r:List D):(Enc.cells m ++ r).drop 1 = (.int .u64 m.last :: ((.vsl m.items.nil (qg m.items.l) m.items.l.length) :: ((.vsl m.marks.nil (qg m.marks.l) m.marks.l.length) :: ([]:List D)))) ++ r:=by simp [RcP.cells]
@[simp] theorem RcP.g1 (m:RcP) (h):(Enc.cells m)[1]'h = .int .u64 m.last:=by simp [RcP.cells]
@[simp] theorem RcP.q1 (m:RcP):(Enc.cells m)[1]? = some (.int .u64 m.last):=by simp [RcP.cells]
@[simp] theorem RcP.s1 (m:RcP) (x:Int):qE (Enc.cells m) 1 [.int .u64 x] = Enc.cells { m with last:=x }:=by simp [RcP.cells]
@[simp] theorem RcP.d2 (m:RcP):(Enc.cells m).drop 2 = ((.vsl m.items.nil (qg m.items.l) m.items.l.length) :: ((.vsl m.marks.nil (qg m.marks.l) m.marks.l.length) :: ([]:List D))):=by simp [RcP.cells]
@[simp] theorem RcP.d2' (m:RcP) (r:List D):(Enc.cells m ++ r).drop 2 = ((.vsl m.items.nil (qg m.items.l) m.items.l.length) :: ((.vsl m.marks.nil (qg m.marks.l) m.marks.l.length) :: ([]:List D))) ++ r:=by simp [RcP.cells]
@[simp] theorem RcP.g2 (m:RcP) (h):(Enc.cells m)[2]'h = (.vsl m.items.nil (qg m.items.l) m.items.l.length):=by simp [RcP.cells]
@[simp] theorem RcP.q2 (m:RcP):(Enc.cells m)[2]? = some ((.vsl m.items.nil (qg m.items.l) m.items.l.length)):=by simp [RcP.cells]
@[simp] theorem RcP.s2 (m:RcP) (x:Sl It):qE (Enc.cells m) 2 [(.vsl x.nil (qg x.l) x.l.length)] = Enc.cells { m with items:=x }:=by simp [RcP.cells]
@[simp] theorem RcP.d3 (m:RcP):(Enc.cells m).drop 3 = ((.vsl m.marks.nil (qg m.marks.l) m.marks.l.length) :: ([]:List D)):=by simp [RcP.cells]
@[simp] theorem RcP.d3' (m:RcP) (r:List D):(Enc.cells m ++ r).drop 3 = ((.vsl m.marks.nil (qg m.marks.l) m.marks.l.length) :: ([]:List D)) ++ r:=by simp [RcP.cells]
@[simp] theorem RcP.g3 (m:RcP) (h):(Enc.cells m)[3]'h = (.vsl m.marks.nil (qg m.marks.l) m.marks.l.length):=by simp [RcP.cells]
@[simp] theorem RcP.q3 (m:RcP):(Enc.cells m)[3]? = some ((.vsl m.marks.nil (qg m.marks.l) m.marks.l.length)):=by simp [RcP.cells]
@[simp] theorem RcP.s3 (m:RcP) (x:Sl Mk):qE (Enc.cells m) 3 [(.vsl x.nil (qg x.l) x.l.length)] = Enc.cells { m with marks:=x }:=by simp [RcP.cells]
structure RcD where
 epoch:Int
 last:Int
 marks:Sl Mk
 items:Sl It
instance:Enc RcD:=⟨4,fun m=>(.int .u64 m.epoch :: (.int .u64 m.last :: ((.vsl m.marks.nil (qg m.marks.l) m.marks.l.length) :: ((.vsl m.items.nil (qg m.items.l) m.items.l.length) :: ([]:List D))))),fun m=>by simp,fun m=>by simp [idFree]⟩
theorem RcD.cells (m:RcD):Enc.cells m = (.int .u64 m.epoch :: (.int .u64 m.last :: ((.vsl m.marks.nil (qg m.marks.l) m.marks.l.length) :: ((.vsl m.items.nil (qg m.items.l) m.items.l.length) :: ([]:List D))))):=rfl
@[simp] theorem RcD.size:Enc.size RcD = 4:=rfl
@[simp] theorem RcD.cl (a:RcD):(Enc.cells a).length = 4:=Enc.len a
@[simp] theorem RcD.ct (a:RcD) (r:List D):(Enc.cells a ++ r).take 4 = Enc.cells a:=Xg rfl a r
@[simp] theorem RcD.ct' (a:RcD):(Enc.cells a).take 4 = Enc.cells a:=Xf rfl a
@[simp] theorem RcD.cd (a:RcD) (r:List D):(Enc.cells a ++ r).drop 4 = r:=Xh rfl a r
@[simp] theorem RcD.el (l:List RcD):(qg l).length = l.length * 4:=Xc rfl l
@[simp] theorem RcD.ed (l:List RcD) (i:Nat):(qg l).drop (i * 4) = qg (l.drop i):=VN rfl l i
@[simp] theorem RcD.et (l:List RcD) (i:Nat):(qg l).take (i * 4) = qg (l.take i):=Ky rfl l i
@[simp high] theorem RcD.ea {l:List RcD} {i:Nat} (h:i < l.length):(qg l).drop (i * 4) = Enc.cells l[i] ++ qg (l.drop (i+1)):=VO rfl h
@[simp high] theorem RcD.es (m:RcD) {l:List RcD} {j:Nat} (h:j < l.length):qE (qg l) (j * 4) (Enc.cells m) = qg (l.set j m):=Kz rfl m l h
@[simp] theorem RcD.g0 (m:RcD) (h):(Enc.cells m)[0]'h = .int .u64 m.epoch:=by simp [RcD.cells]
@[simp] theorem RcD.q0 (m:RcD):(Enc.cells m)[0]? = some (.int .u64 m.epoch):=by simp [RcD.cells]
@[simp] theorem RcD.s0 (m:RcD) (x:Int):qE (Enc.cells m) 0 [.int .u64 x] = Enc.cells { m with epoch:=x }:=by simp [RcD.cells]
@[simp] theorem RcD.d1 (m:RcD):(Enc.cells m).drop 1 = (.int .u64 m.last :: ((.vsl m.marks.nil (qg m.marks.l) m.marks.l.length) :: ((.vsl m.items.nil (qg m.items.l) m.items.l.length) :: ([]:List D)))):=by simp [RcD.cells]
@[simp] theorem RcD.d1' (m:RcD) (r:List D):(Enc.cells m ++ r).drop 1 = (.int .u64 m.last :: ((.vsl m.marks.nil (qg m.marks.l) m.marks.l.length) :: ((.vsl m.items.nil (qg m.items.l) m.items.l.length) :: ([]:List D)))) ++ r:=by simp [RcD.cells]
@[simp] theorem RcD.g1 (m:RcD) (h):(Enc.cells m)[1]'h = .int .u64 m.last:=by simp [RcD.cells]
@[simp] theorem RcD.q1 (m:RcD):(Enc.cells m)[1]? = some (.int .u64 m.last):=by simp [RcD.cells]
@[simp] theorem RcD.s1 (m:RcD) (x:Int):qE (Enc.cells m) 1 [.int .u64 x] = Enc.cells { m with last:=x }:=by simp [RcD.cells]
@[simp] theorem RcD.d2 (m:RcD):(Enc.cells m).drop 2 = ((.vsl m.marks.nil (qg m.marks.l) m.marks.l.length) :: ((.vsl m.items.nil (qg m.items.l) m.items.l.length) :: ([]:List D))):=by simp [RcD.cells]
@[simp] theorem RcD.d2' (m:RcD) (r:List D):(Enc.cells m ++ r).drop 2 = ((.vsl m.marks.nil (qg m.marks.l) m.marks.l.length) :: ((.vsl m.items.nil (qg m.items.l) m.items.l.length) :: ([]:List D))) ++ r:=by simp [RcD.cells]
@[simp] theorem RcD.g2 (m:RcD) (h):(Enc.cells m)[2]'h = (.vsl m.marks.nil (qg m.marks.l) m.marks.l.length):=by simp [RcD.cells]
@[simp] theorem RcD.q2 (m:RcD):(Enc.cells m)[2]? = some ((.vsl m.marks.nil (qg m.marks.l) m.marks.l.length)):=by simp [RcD.cells]
@[simp] theorem RcD.s2 (m:RcD) (x:Sl Mk):qE (Enc.cells m) 2 [(.vsl x.nil (qg x.l) x.l.length)] = Enc.cells { m with marks:=x }:=by simp [RcD.cells]
@[simp] theorem RcD.d3 (m:RcD):(Enc.cells m).drop 3 = ((.vsl m.items.nil (qg m.items.l) m.items.l.length) :: ([]:List D)):=by simp [RcD.cells]
@[simp] theorem RcD.d3' (m:RcD) (r:List D):(Enc.cells m ++ r).drop 3 = ((.vsl m.items.nil (qg m.items.l) m.items.l.length) :: ([]:List D)) ++ r:=by simp [RcD.cells]
@[simp] theorem RcD.g3 (m:RcD) (h):(Enc.cells m)[3]'h = (.vsl m.items.nil (qg m.items.l) m.items.l.length):=by simp [RcD.cells]
@[simp] theorem RcD.q3 (m:RcD):(Enc.cells m)[3]? = some ((.vsl m.items.nil (qg m.items.l) m.items.l.length)):=by simp [RcD.cells]
@[simp] theorem RcD.s3 (m:RcD) (x:Sl It):qE (Enc.cells m) 3 [(.vsl x.nil (qg x.l) x.l.length)] = Enc.cells { m with items:=x }:=by simp [RcD.cells]
end Go.Ev
namespace Go.Ev
attribute [simp] Yv qcZ mv mv.mvL V8 Jb qdb qc9
end Go.Ev
namespace Go.Ev.S
open Go Go.Proofs Go.Ev
def q1p {α:Type} [Enc α] (S:List D) (sz:Nat) (l:List α) (d:D) (H:qi):Prop :=
 (l = []∧d = .vsl true [] 0∧H = [some S])∨(l≠[]∧∃ n k t,n = l.length * sz∧k = l.length∧((d = .osl 2 n 0 k sz∧H = [some S,some t,some (qg l)])∨(d = .osl 1 n 0 k sz∧H = [some S,some (qg l),some t])))
def qoO (nil:Bool) (zs:List Int) (q:D × qi):Prop:= ∃ (l:List Pr) (k':Nat),1≤l.length∧l.length≤4∧(∀ p∈l,Vb p = true)∧q = (.vsl false (qg l) l.length,[some (jD nil zs k')])
set_option maxHeartbeats 1000000 in
theorem qt8 [MaxL] [TxtC] (nil:Bool) (zs:List Int) (qQ:nil = true→zs = []) (hz:zs.length≤1000000) (k:Nat) :
  ∃ q,call cx 94 [.optr 0 2 0,.int .i64 4] [some (jD nil zs k)] = some q∧qoO nil zs q:=by
 obtain ⟨x,k1,hx,-,h1⟩:=V7 nil zs qQ hz k 4 (by decide) (by decide);refine vB (X:=cx) (f:=94) (args:=[.optr 0 2 0,.int .i64 4]) (H:=[some (jD nil zs k)]) (qoO nil zs) Tryz.func94 rfl ⟨rfl,rfl⟩ ?_;have hw:IntKind.i64.wrap ((x:Int)+1) = ((x+1:Nat):Int):=by rw [wrap_i64] <;> omega
 have sf:=qdx nil zs;have sl:=qdw nil zs;have sc:=qdy nil zs;simp [Tryz.f94,h1,sf];refine Run.loopThen (fun (q:List Pr × Nat × Nat) e H'=>q.1.length+q.2.1 = x+1∧(∀ p∈q.1,Vb p = true)∧qf e 0 = some (.optr 0 2 0)∧qf e 6 = some (.int .i64 (q.2.1:Nat))∧∃ d,qf e 5 = some d∧q1p (jD nil zs q.2.2) 2 q.1 d H') (fun q=>q.2.1) ([],x+1,k1) ?_ ?_
 ·exact ⟨by simp,by simp,by simp,by simp [hw],_,by simp,.inl ⟨rfl,rfl,rfl⟩⟩
 rintro ⟨l,i,k2⟩ e H' ⟨hi,hok,k0,k6,d,k5,hH⟩;simp only at hi hok k6 hH;obtain ⟨p,k3,hp,h2⟩:=qtA nil zs qQ hz k2;rcases hH with ⟨rfl,rfl,rfl⟩ | ⟨qr,n,m,t,hn,hm,hH⟩
 ·have VJ:0 < i:=by simp at hi;omega
  have zt:IntKind.i64.wrap ((i:Int) - 1) = ((i - 1:Nat):Int):=by rw [wrap_i64] <;> (simp at hi;omega)
  simp [k0,k5,k6,VJ,h2,sf,sc,zt,Pr.cells,qF];exact ⟨[p],i - 1,by omega,by simp at hi ⊢;omega,by simp [hp],rfl,k3,.inr ⟨by simp,2,1,_,rfl,rfl,.inl ⟨rfl,rfl⟩⟩⟩
 ·have zX:(m+1) * 32≤140737488355328:=by omega
  have zx:m+1≤140737488355328:=by omega
  have qZ:l.length = m:=hm.symm;have zh:m * 2 = n:=by omega
  have qw:List.take n (qg l) = qg l:=qu (by simp;omega);by_cases VJ:0 < i
  ·have zt:IntKind.i64.wrap ((i:Int) - 1) = ((i - 1:Nat):Int):=(by rw [wrap_i64] <;> omega);rcases hH with ⟨rfl,rfl⟩ | ⟨rfl,rfl⟩
   all_goals
    simp [k0,k5,k6,VJ,h2,sf,sc,zt,Pr.cells,qF,qZ,zh,zX,zx];refine ⟨l ++ [p],i - 1,by omega,by simp;omega,fun q hq=>?_,rfl,k3,.inr ⟨by simp,n+2,m+1,_,by simp;omega,by simp [qZ],.inr ⟨rfl,by rw [Z0];rfl⟩⟩⟩;rcases List.mem_append.1 hq with h | h
    ·exact hok q h
    ·rw [List.mem_singleton.1 h];exact hp
  ·have XA:l.isEmpty = false:=by simpa using qr
   have zT:1≤l.length:=by
    cases l with
    | nil=>exact absurd rfl qr
    | cons=>simp
   rcases hH with ⟨rfl,rfl⟩ | ⟨rfl,rfl⟩
   all_goals
    simp [k0,k5,k6,VJ,sc,qZ,zh,qw];exact ⟨l,k2,zT,by omega,hok,by rw [qZ]⟩
def qoN (n:Nat) (r:Rec):Prop:=r.seq = n∧r.Ok∧1≤r.fields.l.length∧r.fields.l.length≤4∧∀ p∈r.fields.l,Vb p = true
theorem qdm {n:Nat} (h:n < 18446744073709551616):qy (n:Int):=by
 unfold qy;omega
set_option maxHeartbeats 1000000 in
theorem qt1 [MaxL] [TxtC] (nil:Bool) (zs:List Int) (qQ:nil = true→zs = []) (hz:zs.length≤1000000) (k:Nat) (n:Nat) (hn:n < 18446744073709551616) :
  ∃ (r:Rec) (k':Nat),qoN n r∧call cx 61 [.optr 0 2 0,.int .u64 n] [some (jD nil zs k)] = some (.agg (Enc.cells r),[some (jD nil zs k')]):=by
 obtain ⟨q,h1,l,k1,zT,zN,hp,rfl⟩:=qt8 nil zs qQ hz k;obtain ⟨q,h2,out,ho1,ho4,je,rfl⟩:=qua l zT zN hp;obtain ⟨x,k2,hx,-,h3⟩:=V7 nil zs qQ hz k1 40 (by decide) (by decide);obtain ⟨y,k3,hy,-,h4⟩:=V7 nil zs qQ hz k2 9 (by decide) (by decide);obtain ⟨z,k4,hz3,-,h5⟩:=V7 nil zs qQ hz k3 3 (by decide) (by decide);have h6:=qf1 (j:=z) (by omega);refine ⟨⟨n,x,y,Ji z,.of out⟩,k4,⟨rfl,⟨qdm hn,qdm (by omega),qdm (by omega)⟩,ho1,ho4,je⟩,?_⟩;have sf:=qdx nil zs;have sl:=qdw nil zs;have sc:=qdy nil zs;have hx64:IntKind.u64.wrap (x:Int) = (x:Int):=by rw [qS];omega
 have hy64:IntKind.u64.wrap (y:Int) = (y:Int):=by rw [qS];omega
 have hi:=(Ji z).h;generalize Ji z = iz at *;have ht:List.take 16 (qd iz.l) = qd iz.l:=qu (by simp);have hd:List.drop 17 (qd iz.l ++ [D.vsl true [] 0]) = []:=zZ (by simp);refine qq Tryz.func61 rfl ⟨rfl,rfl⟩ ?_;simp [Tryz.f61,h1,h2,h3,h4,h5,h6,sf,sc,hx64,hy64,Rec.cells,hi,hd,zV]
def qe5 (it:It):Prop:=it.Ok∧zK it = true∧it.rc.fields.l.length≤4∧∀ p∈it.rc.fields.l,Vb p = true
theorem qdl:qy 0:=by unfold qy;decide
def qd9:Rec:=⟨0,0,0,ID.zero,.none⟩
theorem qtQ (q:ID) {n t:Nat} (h1:1≤n) (h2:n≤t) (h3:t < 18446744073709551616):qe5 ⟨q,true,n,t,qd9⟩:=by
 refine ⟨⟨qdm (by omega),qdm (by omega),⟨qdl,qdl,qdl⟩⟩,?_,jg _,fun p hp=>by cases hp⟩;unfold zK qak;simp [qd9,Sl.none];omega
theorem qtO (q:ID) {n:Nat} {r:Rec} (h1:1≤n) (h:qoN n r):qe5 ⟨q,false,0,0,r⟩:=by
 obtain ⟨a,b,c,d,e⟩:=h;refine ⟨⟨qdl,qdl,b⟩,?_,d,e⟩;unfold zK Zq;simp [a];exact ⟨⟨⟨by omega,c⟩,by omega⟩,fun p hp=>qf0 (e p hp)⟩
theorem qxq {k:IntKind} {l:List Int} {i:Nat} {v:Int} (h:i < l.length):qE (jb k l) i [.int k v] = jb k (l.set i v):=by
 have hi:i < (jb k l).length:=by simpa using h
 have e:(jb k l).set i (.int k v) = jb k (l.set i v):=by unfold jb;rw [List.map_set]
 rw [← e,List.set_eq_take_append_cons_drop,if_pos hi];unfold qE;simp
theorem qmR (q:ID) (n t:Int):Enc.cells (⟨q,true,n,t,qd9⟩:It) = qd q.l ++ [.bool true,.int .u64 n,.int .u64 t,.int .u64 0,.int .u64 0,.int .u64 0,.int .u8 0,.int .u8 0,.int .u8 0,.int .u8 0,.int .u8 0,.int .u8 0,.int .u8 0,.int .u8 0,.int .u8 0,.int .u8 0,.int .u8 0,.int .u8 0,.int .u8 0,.int .u8 0,.int .u8 0,.int .u8 0,.vsl true [] 0]:=by
 rw [It.cells];rfl
theorem qkI (q:ID) (r:Rec):Enc.cells (⟨q,false,0,0,r⟩:It) = qd q.l ++ (.bool false :: .int .u64 0 :: .int .u64 0 :: Enc.cells r):=by
 rw [It.cells,Rec.cells];rfl
theorem qrR (r:Rec):noZ.noZL (Enc.cells r) = true:=by
 rw [Rec.cells];simp
def q1m (S:List D) (out:List It) (last:List Int) (d5 d6:D) (H:qi):Prop :=
 (out = []∧d5 = .vsl true [] 0∧d6 = .optr 1 3 0∧H = [some S,some (jb .u64 last)]) ∨
 (out≠[]∧∃ n m t,n = out.length * 39∧m = out.length∧((d5 = .osl 3 n 0 m 39∧d6 = .optr 1 3 0∧H = [some S,some (jb .u64 last),some t,some (qg out)])∨(d5 = .osl 1 n 0 m 39∧d6 = .optr 2 3 0∧H = [some S,some (qg out),some (jb .u64 last),some t])))
def qoS (nil:Bool) (zs:List Int) (most:Nat) (q:D × qi):Prop:= ∃ (out:List It) (k':Nat),out.length≤most∧(∀ it∈out,qe5 it) ∧
 ((out = []∧q = (.vsl true [] 0,[some (jD nil zs k')]))∨(out≠[]∧∃ n m,n = out.length * 39∧m = out.length∧q = (.osl 1 n 0 m 39,[some (jD nil zs k'),some (qg out)])))
set_option maxHeartbeats 4000000 in
theorem qxl [MaxL] [TxtC] (nil:Bool) (zs:List Int) (qQ:nil = true→zs = []) (hz:zs.length≤1000000) (k:Nat) (most:Nat) (hmost:most≤100) :
  ∃ q,call cx 30 [.optr 0 2 0,.int .i64 most] [some (jD nil zs k)] = some q∧qoS nil zs most q:=by
 refine vB (X:=cx) (f:=30) (args:=[.optr 0 2 0,.int .i64 most]) (H:=[some (jD nil zs k)]) (qoS nil zs most) Tryz.func30 rfl ⟨rfl,rfl⟩ ?_;have sf:=qdx nil zs;have sl:=qdw nil zs;have sc:=qdy nil zs;simp [Tryz.f30];refine Run.loopThen (fun (q:List It × List Int × Nat) e H'=>q.1.length≤most∧(∀ it∈q.1,qe5 it)∧q.2.1.length = 3∧(∀ v∈q.2.1,0≤v∧v≤q.1.length * 6)∧qf e 0 = some (.optr 0 2 0)∧qf e 1 = some (.int .i64 most)∧∃ d5 d6,qf e 5 = some d5∧qf e 6 = some d6∧q1m (jD nil zs q.2.2) q.1 q.2.1 d5 d6 H') (fun q=>most - q.1.length) ([],[0,0,0],k) ?_ ?_
 ·exact ⟨by simp,by simp,by simp,by simp,by simp,by simp,_,_,by simp,by simp,.inl ⟨rfl,rfl,rfl,rfl⟩⟩
 rintro ⟨out,last,k1⟩ e H' ⟨ho,hmade,zj,hlast,k0,k1',d5,d6,k5,k6,hH⟩;simp only at ho hmade zj hlast hH;have KU:=qtB nil zs k1;have hlf:(∀ x,x∈jb .u64 last→idFree x = true) = True:=eq_true (by simp [jb]);have qO:∀ n,(∀ x,x∈jb .u64 last→closed n x = true) = True:=fun n=>eq_true (by simp [jb]);obtain ⟨x1,k2,VB,-,c1⟩:=V7 nil zs qQ hz k1 3 (by decide) (by decide);obtain ⟨x2,k3,Km,-,c2⟩:=V7 nil zs qQ hz k2 3 (by decide) (by decide);obtain ⟨x3,k4,hx3,-,c3⟩:=V7 nil zs qQ hz k3 4 (by decide) (by decide);obtain ⟨x4,k5',hx4,-,c4⟩:=V7 nil zs qQ hz k4 4 (by decide) (by decide);have Qa:=qf1 (j:=x1) (by omega);have hx1l:x1 < last.length:=by omega
 have qU:=qhW (k:=.u64) hx1l;have hx1i:(x1:Int) < 3:=VB;have hxn:x1 < 3:=by omega
 have hxn2:x1+1≤3:=by omega
 obtain ⟨hv0,YH⟩:=hlast _ (vk hx1l);obtain ⟨v,hv⟩:∃ v:Nat,last[x1] = (v:Int):=⟨last[x1].toNat,by omega⟩;rw [hv] at qU hv0 YH;have w1:IntKind.u64.wrap ((v:Int)+1) = (v:Int)+1:=by rw [qS];omega
 have w2:IntKind.u64.wrap (x2:Int) = (x2:Int):=by rw [qS];omega
 have w3:IntKind.u64.wrap ((v:Int)+1+(x2:Int)) = (v:Int)+1+(x2:Int):=by rw [qS];omega
 have w4:IntKind.u64.wrap (x4:Int) = (x4:Int):=by rw [qS];omega
 have w5:IntKind.u64.wrap ((v:Int)+1+(x2:Int)+(x4:Int)) = (v:Int)+1+(x2:Int)+(x4:Int):=by rw [qS];omega
 obtain ⟨r,k6',hr,c6⟩:=qt1 nil zs qQ hz k4 (v+1+x2) (by omega);rw [show ((v+1+x2:Nat):Int) = (v:Int)+1+x2 by omega] at c6;have hq:=(Ji x1).h;have Vl:=qtQ (Ji x1) (n:=v+1+x2) (t:=v+1+x2+x4) (by omega) (by omega) (by omega);have Kq:=qtO (Ji x1) (n:=v+1+x2) (by omega) hr;rw [show ((v+1+x2:Nat):Int) = (v:Int)+1+x2 by omega] at Vl;rw [show ((v+1+x2+x4:Nat):Int) = (v:Int)+1+x2+x4 by omega] at Vl;generalize Ji x1 = iq at *;have KT:List.take 16 (qd iq.l) = qd iq.l:=qu (by simp);have qbb:List.take 39 (qd iq.l) = qd iq.l:=qu (by simp);have hset1:=fun x=>qxq (k:=.u64) (v:=x) hx1l
 have hlast1:∀ x:Int,0≤x→x≤(out.length+1:Nat) * 6→∀ y∈last.set x1 x,0≤y∧y≤(out.length+1:Nat) * 6:=by
  intro x h1 h2 y hy;rcases qgy hy with h | rfl
  ·have:=hlast y h;omega
  ·exact ⟨h1,h2⟩
 have hrz:=qrR r;by_cases h0:out.length < most
 case neg =>
  rcases hH with ⟨rfl,rfl,rfl,rfl⟩ | ⟨qr,n,m,t,hn,hm,hH⟩
  ·have Kw:¬ 0 < most:=h0;simp [k0,k1',k5,k6,sc,hlf,Kw];exact ⟨[],k1,by simp,by simp,.inl ⟨rfl,rfl⟩⟩
  have Kw:¬ m < most:=by omega
  have zh:m * 39 = n:=by omega
  have qZ:out.length = m:=hm.symm;have qw:List.take n (qg out) = qg out:=qu (by simp;omega);rcases hH with ⟨rfl,rfl,rfl⟩ | ⟨rfl,rfl,rfl⟩
  all_goals
   simp [k0,k1',k5,k6,sc,hlf,Kw,qZ];exact ⟨out,k1,by omega,hmade,.inr ⟨qr,n,m,by omega,by omega,rfl⟩⟩
 cases hmm:decide (k1 < zs.length) with
 | false =>
  rw [hmm] at KU;rcases hH with ⟨rfl,rfl,rfl,rfl⟩ | ⟨qr,n,m,t,hn,hm,hH⟩
  ·have Kw:0 < most:=h0;simp [k0,k1',k5,k6,KU,sf,sc,hlf,Kw];exact ⟨[],k1,by simp,by simp,.inl ⟨rfl,rfl⟩⟩
  have Kw:m < most:=by omega
  have zh:m * 39 = n:=by omega
  have qZ:out.length = m:=hm.symm;have qw:List.take n (qg out) = qg out:=qu (by simp;omega);rcases hH with ⟨rfl,rfl,rfl⟩ | ⟨rfl,rfl,rfl⟩
  all_goals
   simp [k0,k1',k5,k6,KU,sf,sc,hlf,Kw,qZ];exact ⟨out,k1,by omega,hmade,.inr ⟨qr,n,m,by omega,by omega,rfl⟩⟩
 | true =>
  rw [hmm] at KU;rcases hH with ⟨rfl,rfl,rfl,rfl⟩ | ⟨qr,n,m,t,hn,hm,hH⟩
  ·have Kw:0 < most:=h0;by_cases h3:x3 = 0
   ·subst h3;simp [k0,k1',k5,k6,KU,sf,sc,hlf,zj,Kw,c1,c2,c3,c4,qU,hx1i,hxn2,w1,w2,w3,w4,w5,Qa,qF,hq,qbb,zV,qA,zA,hset1];refine ⟨[⟨iq,true,(v:Int)+1+x2,(v:Int)+1+x2+x4,qd9⟩],by simp;omega,by simp;omega,by simpa using Vl,last.set x1 ((v:Int)+1+x2+x4),by simp [zj],hlast1 _ (by omega) (by simp at YH ⊢;omega),k5',.inr ⟨by simp,39,1,_,rfl,rfl,.inl ⟨rfl,rfl,by rw [Xb,qmR]⟩⟩⟩
   ·have h3':¬ (x3:Int) = 0:=(by omega);simp [k0,k1',k5,k6,KU,sf,sc,hlf,zj,Kw,c1,c2,c3,h3,c6,hrz,qU,hx1i,hxn2,w1,w2,w3,Qa,qF,hq,qbb,zV,qA,zA,hset1];refine ⟨[⟨iq,false,0,0,r⟩],by simp;omega,by simp;omega,by simpa using Kq,last.set x1 ((v:Int)+1+x2),by simp [zj],hlast1 _ (by omega) (by simp at YH ⊢;omega),k6',.inr ⟨by simp,39,1,_,rfl,rfl,.inl ⟨rfl,rfl,by rw [Xb,qkI]⟩⟩⟩
  have Kw:m < most:=by omega
  have zh:m * 39 = n:=by omega
  have qZ:out.length = m:=hm.symm;have qw:List.take n (qg out) = qg out:=qu (by simp;omega);have zX:(m+1) * 104≤140737488355328:=by omega
  have zx:m+1≤140737488355328:=by omega
  rcases hH with ⟨rfl,rfl,rfl⟩ | ⟨rfl,rfl,rfl⟩
  all_goals
   by_cases h3:x3 = 0
   ·subst h3;simp [k0,k1',k5,k6,KU,sf,sc,hlf,zj,Kw,zh,qZ,zX,zx,c1,c2,c3,c4,qU,hx1i,hxn2,w1,w2,w3,w4,w5,Qa,qF,hq,qbb,zV,qA,zA,hset1];refine ⟨out ++ [⟨iq,true,(v:Int)+1+x2,(v:Int)+1+x2+x4,qd9⟩],by simp;omega,by simp;omega,fun it h=>?_,last.set x1 ((v:Int)+1+x2+x4),by simp [zj],by simpa using hlast1 _ (by omega) (by simp at YH ⊢;omega),k5',.inr ⟨by simp,n+39,m+1,_,by simp;omega,by simp [qZ],.inr ⟨rfl,rfl,by rw [Z0,qmR]⟩⟩⟩;rcases List.mem_append.1 h with h | h
    ·exact hmade it h
    ·rw [List.mem_singleton.1 h];exact Vl
   ·have h3':¬ (x3:Int) = 0:=(by omega);simp [k0,k1',k5,k6,KU,sf,sc,hlf,zj,Kw,zh,qZ,zX,zx,c1,c2,c3,h3,c6,hrz,qU,hx1i,hxn2,w1,w2,w3,Qa,qF,hq,qbb,zV,qA,zA,hset1];refine ⟨out ++ [⟨iq,false,0,0,r⟩],by simp;omega,by simp;omega,fun it h=>?_,last.set x1 ((v:Int)+1+x2),by simp [zj],by simpa using hlast1 _ (by omega) (by simp at YH ⊢;omega),k6',.inr ⟨by simp,n+39,m+1,_,by simp;omega,by simp [qZ],.inr ⟨rfl,rfl,by rw [Z0,qkI]⟩⟩⟩;rcases List.mem_append.1 h with h | h
    ·exact hmade it h
    ·rw [List.mem_singleton.1 h];exact Kq
theorem qx3:∀ j < 4,∀ i < j,qx (Ji i).l (Ji j).l < 0:=by decide
structure FewN (i:Nat) (l:List Mk):Prop where
 rises:zB l = true
 ok:∀ m∈l,m.Ok
 id:∀ m∈l,∃ j,j < i∧m.id = Ji j
 len:l.length≤i
theorem qkw:∀ {l:List Mk} {m:Mk},zB l = true→(∀ x∈l,qx x.id.l m.id.l < 0)→zB (l ++ [m]) = true
 | [],_,_,_=>rfl
 | [a],m,_,h=>by simp [zB,h a (kA ..)]
 | a :: b :: l,m,hr,h=>by
  simp only [zB,qR] at hr;have:=qkw (l:=b :: l) hr.2 fun x hx=>h x (vu _ hx);simp only [vU,zB,qR] at this ⊢;exact ⟨hr.1,this⟩
theorem FewN.same {i:Nat} {l:List Mk} (h:FewN i l):FewN (i+1) l :=
 ⟨h.rises,h.ok,fun m hm=>by obtain ⟨j,h1,h2⟩:=h.id m hm;exact ⟨j,by omega,h2⟩,by have:=h.len;omega⟩
theorem FewN.add {i:Nat} {l:List Mk} (h:FewN i l) (hi:i < 4) {a b c:Nat} (ha:a < 1000) (hb:b < 1000) (hc:c < 1000):FewN (i+1) (l ++ [⟨Ji i,a,b,c⟩]):=by
 refine ⟨qkw h.rises fun x hx=>?_,fun m hm=>?_,fun m hm=>?_,by have:=h.len;simp;omega⟩
 ·obtain ⟨j,h1,h2⟩:=h.id x hx;rw [h2];exact qx3 i hi j h1
 ·rcases List.mem_append.1 hm with h' | h'
  ·exact h.ok m h'
  ·rw [List.mem_singleton.1 h'];exact ⟨by simp only [qy];omega,by simp only [qy];omega,by simp only [qy];omega⟩
 ·rcases List.mem_append.1 hm with h' | h'
  ·obtain ⟨j,h1,h2⟩:=h.id m h';exact ⟨j,by omega,h2⟩
  ·rw [List.mem_singleton.1 h'];exact ⟨i,by omega,rfl⟩
def q1o (S:List D) (l:List Mk) (d:D) (H:qi):Prop :=
 (l = []∧d = .vsl true [] 0∧H = [some S])∨(l≠[]∧∃ n k t,n = l.length * 19∧k = l.length∧((d = .osl 2 n 0 k 19∧H = [some S,some t,some (qg l)])∨(d = .osl 1 n 0 k 19∧H = [some S,some (qg l),some t])∨(d = .osl 1 n 0 k 19∧H = [some S,some (qg l)])))
def qoQ (nil:Bool) (zs:List Int) (q:D × qi):Prop:= ∃ (l:List Mk) (k':Nat),FewN 4 l∧q = ((.vsl ((⟨l.isEmpty,l,fun h=>by simpa using h⟩:Sl Mk)).nil (qg ((⟨l.isEmpty,l,fun h=>by simpa using h⟩:Sl Mk)).l) ((⟨l.isEmpty,l,fun h=>by simpa using h⟩:Sl Mk)).l.length),[some (jD nil zs k')])
set_option maxHeartbeats 2000000 in
theorem qhC [MaxL] [TxtC] (nil:Bool) (zs:List Int) (qQ:nil = true→zs = []) (hz:zs.length≤1000000) (k:Nat) :
  ∃ q,call cx 54 [.optr 0 2 0] [some (jD nil zs k)] = some q∧qoQ nil zs q:=by
 refine vB (X:=cx) (f:=54) (args:=[.optr 0 2 0]) (H:=[some (jD nil zs k)]) (qoQ nil zs) Tryz.func54 rfl ⟨rfl,rfl⟩ ?_;have sf:=qdx nil zs;have sl:=qdw nil zs;have sc:=qdy nil zs;simp [Tryz.f54];refine Run.loopThen (fun (q:List Mk × Nat × Nat) e H'=>q.2.1≤4∧FewN q.2.1 q.1∧qf e 0 = some (.optr 0 2 0)∧qf e 4 = some (.int .i64 (q.2.1:Nat))∧∃ d,qf e 3 = some d∧q1o (jD nil zs q.2.2) q.1 d H') (fun q=>4 - q.2.1) ([],0,k) ?_ ?_
 ·exact ⟨by simp,⟨rfl,by simp,by simp,by simp⟩,by simp,by simp,_,by simp,.inl ⟨rfl,rfl,rfl⟩⟩
 rintro ⟨l,i,k1⟩ e H' ⟨hi,hf,k0,k4,d,k3,hH⟩;simp only at hi hf k4 hH;have zl:=hf.len;obtain ⟨x,k2,hx,-,c1⟩:=V7 nil zs qQ hz k1 2 (by decide) (by decide);obtain ⟨a,k5,ha,-,c2⟩:=V7 nil zs qQ hz k2 9 (by decide) (by decide);obtain ⟨b,k6,hb,-,c3⟩:=V7 nil zs qQ hz k5 9 (by decide) (by decide);obtain ⟨c,k7,hc,-,c4⟩:=V7 nil zs qQ hz k6 9 (by decide) (by decide);have hw:IntKind.i64.wrap ((i:Int)+1) = ((i+1:Nat):Int):=by rw [wrap_i64] <;> omega
 have wa:IntKind.u64.wrap (a:Int) = (a:Int):=by rw [qS];omega
 have wb:IntKind.u64.wrap (b:Int) = (b:Int):=by rw [qS];omega
 have wc:IntKind.u64.wrap (c:Int) = (c:Int):=by rw [qS];omega
 rcases hH with ⟨rfl,rfl,rfl⟩ | ⟨qr,n,m,t,hn,hm,hH⟩
 ·by_cases h4:i < 4
  ·have h4i:(i:Int) < 4:=(by omega);have Qa:=qf1 (j:=i) (by omega);have hadd:=hf.add h4 (a:=a) (b:=b) (c:=c) (by omega) (by omega) (by omega);have hsame:=hf.same;generalize Ji i = q at *;have hq:=q.h;have KT:List.take 16 (qd q.l) = qd q.l:=qu (by simp);by_cases VB:x = 1
   ·subst VB;simp [k0,k3,k4,h4i,c1,c2,c3,c4,Qa,sf,sc,hw,wa,wb,wc,hq,qF,zV,qA,zA];exact ⟨[⟨q,a,b,c⟩],i+1,by omega,by omega,hadd,by simp,k7,.inr ⟨by simp,19,1,_,rfl,rfl,.inl ⟨rfl,by rw [Xb];rfl⟩⟩⟩
   ·have hx1':¬ (x:Int) = 1:=(by omega);simp [k0,k3,k4,h4i,c1,hx1',sf,sc,hw];exact ⟨[],i+1,by omega,by omega,hsame,by simp,k2,.inl ⟨rfl,rfl,rfl⟩⟩
  ·have h4i:¬ (i:Int) < 4:=(by omega);simp [k0,k3,k4,h4i,sc];have hi4:i = 4:=(by omega);subst hi4;exact ⟨[],k1,hf,rfl⟩
 ·have qZ:l.length = m:=hm.symm;have zh:m * 19 = n:=by omega
  have qw:List.take n (qg l) = qg l:=qu (by simp;omega);have zX:(m+1) * 40≤140737488355328:=by omega
  have zx:m+1≤140737488355328:=by omega
  by_cases h4:i < 4
  ·have h4i:(i:Int) < 4:=(by omega);have Qa:=qf1 (j:=i) (by omega);have hadd:=hf.add h4 (a:=a) (b:=b) (c:=c) (by omega) (by omega) (by omega);have hsame:=hf.same;generalize Ji i = q at *;have hq:=q.h;have KT:List.take 16 (qd q.l) = qd q.l:=qu (by simp);rcases hH with ⟨rfl,rfl⟩ | ⟨rfl,rfl⟩ | ⟨rfl,rfl⟩
   all_goals
    by_cases VB:x = 1
    ·subst VB;simp [k0,k3,k4,h4i,c1,c2,c3,c4,Qa,sf,sc,hw,wa,wb,wc,hq,qF,zV,qA,zA,qZ,zh,zX,zx];exact ⟨l ++ [⟨q,a,b,c⟩],i+1,by omega,by omega,hadd,by simp,k7,.inr ⟨by simp,n+19,m+1,_,by simp;omega,by simp [qZ],.inr (.inl ⟨rfl,by rw [Z0];rfl⟩)⟩⟩
    ·have hx1':¬ (x:Int) = 1:=(by omega);simp [k0,k3,k4,h4i,c1,hx1',sf,sc,hw];exact ⟨l,i+1,by omega,by omega,hsame,by simp,k2,.inr ⟨qr,n,m,[],hn,hm,.inr (.inr ⟨rfl,rfl⟩)⟩⟩
  ·have h4i:¬ (i:Int) < 4:=(by omega);have XA:l.isEmpty = false:=(by simpa using qr);rcases hH with ⟨rfl,rfl⟩ | ⟨rfl,rfl⟩ | ⟨rfl,rfl⟩
   all_goals
    simp [k0,k3,k4,h4i,sc,qZ,zh,qw];have hi4:i = 4:=(by omega);subst hi4;exact ⟨l,k1,hf,by simp [XA,qZ]⟩
theorem qmM:∀ (k:Nat) (r:List UInt8) (out:List It),(Zz k r out).1.length≤out.length+k
 | 0,r,out=>by
  unfold Zz;split
  ·split <;> simp
  ·simp
 | k+1,r,out=>by
  rw [Zz];split
  ·simp
  ·split
   ·have:=qmM k (r.drop (4+leN (r.take 4))) (out ++ [jp ((r.drop 4).take (leN (r.take 4)))]);rw [qC] at this;simp only [qH,zb] at this;omega
   ·simp
theorem qmK (b:List UInt8):(vK b).1.length≤64:=by
 unfold vK qaj
 repeat' split
 all_goals first | (simp;done) | skip
 have:=qmM (leN (((b.take (b.length - 4)).drop 4).take 2)) ((b.take (b.length - 4)).drop 6) [];simp only [zb] at this;omega
theorem qkJ:∀ (k:Nat) (r:List UInt8) (out:List Mk),(J6 k r out).1.length≤out.length+k
 | 0,r,out=>by simp [J6]
 | k+1,r,out=>by
  rw [J6];split
  ·simp
  ·split
   ·simp
   ·split
    ·simp
    ·have:=qkJ k (r.drop 40) (out ++ [Jg r]);rw [qC] at this;simp only [qH,zb] at this;omega
theorem qsa (b:List UInt8):(vf b).1.length≤4:=by
 unfold vf;split
 ·simp
 ·split
  ·simp
  ·rename_i c r h;have:=qkJ c.toNat r [];simp only [zb] at this;omega
theorem qmL:∀ (k:Nat) (r:List UInt8) (out:List It),(Zz k r out).2.1.length≤4
 | 0,r,out=>by
  unfold Zz;split
  ·split
   ·simp
   ·exact qsa r
  ·simp
 | k+1,r,out=>by
  rw [Zz];split
  ·simp
  ·split
   ·exact qmL k _ _
   ·simp
theorem qmJ (b:List UInt8):(vK b).2.1.length≤4:=by
 unfold vK qaj
 repeat' split
 all_goals first | (simp;done) | skip
 exact qmL _ _ _
structure RSt where
 ep:Int
 la:Int
 its:List It
 mks:Sl Mk
def RSt.A (s:RSt) (d:D):List D:=[.int .u64 s.ep,.int .u64 s.la,d,(.vsl s.mks.nil (qg s.mks.l) s.mks.l.length)]
def VS (L:List It) (d:D) (T:qi):Prop:=(L = []∧d = .vsl true [] 0∧T = [])∨(L≠[]∧∃ n k,n = L.length * 39∧k = L.length∧d = .osl 1 n 0 k 39∧T = [some (qg L)])
def vt:List It→List Mk→Option (List Mk)
 | [],m=>some m
 | x :: l,m=>if QG m x = 0 then vt l (Z3 m x false) else none
theorem qeO (m:List Mk) (x:It) (o:Bool):(Z3 m x o).length≤m.length+1:=qsp _ _
def qau (s:RSt) (n:Int) (g:List It × List Mk × Int):Int × RSt :=
 if g.2.2≠0 then (400,s)
 else match vt g.1 s.mks.l with
  | none=>(400,s)
  | some m=>if (vZ m g.2.1 && vZ s.mks.l g.2.1) = true then (200,⟨s.ep,n,s.its ++ g.1,Sl.grown g.2.1⟩) else (400,s)
def jt (s:RSt) (q:Rq):Int × RSt :=
 if s.ep < q.epoch then (409,s)
 else if q.number = s.la∧q.number≠0 then (200,s)
 else if q.number≠IntKind.u64.wrap (s.la+1)∨q.number = 0 then (409,s)
 else qau s q.number (vK q.body.l)
def BatQ2 (s:RSt) (q:Rq) (r:D × qi):Prop:= ∃ d' T',VS (jt s q).2.its d' T'∧r = (.int .i64 (jt s q).1,some ((jt s q).2.A d') :: T')
theorem BatQ2.mk {s s':RSt} {q:Rq} {c:Int} {d':D} {T':qi} (hb:jt s q = (c,s')) (hs:VS s'.its d' T'):BatQ2 s q (.int .i64 c,some (s'.A d') :: T'):=⟨d',T',by rw [hb];exact hs,by rw [hb]⟩
set_option maxHeartbeats 8000000 in
set_option maxRecDepth 8000 in
theorem qse [MaxL] (s:RSt) (q:Rq) (hq:q.body.l.length < 1000000) (hm:s.mks.l.length≤1000000) (hL:s.its.length≤1000000000) (d:D) (T:qi) (zW:VS s.its d T) :
  ∃ r,call cx 36 [.optr 0 4 0,.agg (Enc.cells q)] (some (s.A d) :: T) = some r∧BatQ2 s q r:=by
 obtain ⟨ep,la,its,mk⟩:=s;obtain ⟨p,e,n,o⟩:=q;simp only at hq hm hL zW;have hg:=qpl o hq;have kg:=qmK o.l;have Vl:=qmJ o.l;obtain ⟨w1,qK⟩:∃ w1,IntKind.u64.wrap (la+1) = w1:=⟨_,rfl⟩;rcases zW with ⟨rfl,rfl,rfl⟩ | ⟨qr,n1,k1,zM,hk1,rfl,rfl⟩
 ·refine vB (X:=cx) (f:=36) (args:=[.optr 0 4 0,.agg [.str p,.int .u64 e,.int .u64 n,(.vsl o.nil (qd o.l) o.l.length)]]) (H:=[some [.int .u64 ep,.int .u64 la,.vsl true [] 0,(.vsl mk.nil (qg mk.l) mk.l.length)]]) (BatQ2 ⟨ep,la,[],mk⟩ ⟨p,e,n,o⟩) Tryz.func36 rfl ⟨rfl,rfl⟩ ?_;by_cases c1:ep < e
  ·have hb:jt ⟨ep,la,[],mk⟩ ⟨p,e,n,o⟩ = (409,⟨ep,la,[],mk⟩):=(by unfold jt;rw [if_pos c1]);simp [Tryz.f36,c1];exact BatQ2.mk hb (.inl ⟨rfl,rfl,rfl⟩)
  by_cases c2:n = la∧n≠0
  ·have hb:jt ⟨ep,la,[],mk⟩ ⟨p,e,n,o⟩ = (200,⟨ep,la,[],mk⟩):=(by unfold jt;rw [if_neg c1,if_pos c2]);obtain ⟨rfl,c3⟩:=c2;simp [Tryz.f36,c1,c3];exact BatQ2.mk hb (.inl ⟨rfl,rfl,rfl⟩)
  by_cases c3:n≠w1∨n = 0
  ·have hb:jt ⟨ep,la,[],mk⟩ ⟨p,e,n,o⟩ = (409,⟨ep,la,[],mk⟩):=(by unfold jt;simp only;rw [if_neg c1,if_neg c2,if_pos (by rw [qK];exact c3)]);by_cases c4:n = la
   ·have c5:n = 0:=qdf fun h=>c2 ⟨c4,h⟩;subst c4;subst c5;by_cases c6:(0:Int) = w1
    ·simp [Tryz.f36,c1];exact BatQ2.mk hb (.inl ⟨rfl,rfl,rfl⟩)
    ·simp [Tryz.f36,c1];exact BatQ2.mk hb (.inl ⟨rfl,rfl,rfl⟩)
   ·by_cases c6:n = w1
    ·have c5:n = 0:=c3.resolve_left fun h=>h c6;subst c6;subst c5;simp [Tryz.f36,c1,qK,c4];exact BatQ2.mk hb (.inl ⟨rfl,rfl,rfl⟩)
    ·simp [Tryz.f36,c1,qK,c4,c6];exact BatQ2.mk hb (.inl ⟨rfl,rfl,rfl⟩)
  have c4:¬ n = la:=fun h=>c2 ⟨h,fun h0=>c3 (.inr h0)⟩;have c5:n = w1:=qdf fun h=>c3 (.inl h);have c6:¬ n = 0:=fun h=>c3 (.inr h)
  have hB:jt ⟨ep,la,[],mk⟩ ⟨p,e,n,o⟩ = qau ⟨ep,la,[],mk⟩ n (vK o.l):=by
   unfold jt;simp only;rw [if_neg c1,if_neg c2,if_neg (by rw [qK];exact c3)]
  unfold jh at hg;obtain ⟨⟨l,en,c⟩,hgp⟩:∃ g,g = vK o.l:=⟨_,rfl⟩;rw [← hgp] at hg kg Vl hB;unfold qau at hB;simp only at hg kg Vl hB;clear hgp;obtain ⟨lS,KV⟩:∃ lS,lS = Sl.grown l:=⟨_,rfl⟩;obtain ⟨E,hE⟩:∃ E,E = Sl.grown en:=⟨_,rfl⟩;have qbh:lS.l = l:=by rw [KV];rfl
  have ZK:E.l = en:=by rw [hE];rfl
  rw [← KV,← hE,qbh,ZK] at hg;subst c5;by_cases c7:c = 0
  case neg =>
   rw [if_pos c7] at hB;simp [Tryz.f36,c1,qK,c4,c6,hg,c7];exact BatQ2.mk hB (.inl ⟨rfl,rfl,rfl⟩)
  rw [if_neg (fun h=>h c7)] at hB;simp [Tryz.f36,c1,qK,c4,c6,hg,c7]
  refine Run.loopThen (fun (k:Nat × Sl Mk) e' H=>k.1≤l.length∧k.2.l.length≤mk.l.length+k.1∧vt (l.drop k.1) k.2.l = vt l mk.l∧(H = [some [.int .u64 ep,.int .u64 la,.vsl true [] 0,(.vsl mk.nil (qg mk.l) mk.l.length)],some [.str p,.int .u64 e,.int .u64 n,(.vsl o.nil (qd o.l) o.l.length)]]∨∃ w,H = [some [.int .u64 ep,.int .u64 la,.vsl true [] 0,(.vsl mk.nil (qg mk.l) mk.l.length)],some [.str p,.int .u64 e,.int .u64 n,(.vsl o.nil (qd o.l) o.l.length)],w]) ∧
   qf e' 0 = some (.optr 0 4 0)∧qf e' 3 = some (.optr 1 4 0)∧qf e' 5 = some (.vsl lS.nil (qg l) l.length)∧qf e' 6 = some (.vsl E.nil (qg en) en.length)∧qf e' 8 = some (.vsl k.2.nil (qg k.2.l) k.2.l.length)∧qf e' 59 = some (.vsl lS.nil (qg l) l.length)∧qf e' 60 = some (.int .i64 l.length)∧qf e' 61 = some (.int .i64 k.1)) (fun k=>l.length - k.1) (0,mk) ?_ ?_
  ·simp
  rintro ⟨k,t⟩ e' H ⟨hk,jq,hf,hH,k0,k3,k5,k6,k8,k59,k60,k61⟩;simp only at hk jq hf k8 k61;by_cases qh:k < l.length
  ·have qk:(k:Int) < (l.length:Int):=(by omega);have hw:IntKind.i64.wrap ((k:Int)+1) = ((k+1:Nat):Int):=(by rw [wrap_i64] <;> omega);have qQ:lS.nil = false:=Sl.nn (i:=k) (by rw [qbh];exact qh);have jZ:List.drop (k * 39) (qg l) = Enc.cells l[k] ++ qg (l.drop (k+1)):=It.ea qh;have qw:=qj2 t (by omega) l[k] false;have JN:39≤39+(l.length - (k+1)) * 39:=(by omega);rw [zo qh,vt] at hf;have htl2:=qeO t.l l[k] false;generalize l[k] = x at *;by_cases c8:QG t.l x = 0
   ·rw [if_pos c8] at hf;rw [c8] at qw;unfold KJ at qw;rw [if_pos rfl] at qw;rcases hH with rfl | ⟨w,rfl⟩
    ·simp [-It.ea,k0,k3,k5,k6,k8,k59,k60,k61,qk,hw,qQ,jZ,qw,JN];exact ⟨k+1,by omega,by omega,.of (Z3 t.l x false),by rw [Sl.of_l];omega,hf,⟨rfl,rfl,rfl⟩,by omega⟩
    ·simp [-It.ea,k0,k3,k5,k6,k8,k59,k60,k61,qk,hw,qQ,jZ,qw,JN];exact ⟨k+1,by omega,by omega,.of (Z3 t.l x false),by rw [Sl.of_l];omega,hf,⟨rfl,rfl,rfl⟩,by omega⟩
   ·rw [if_neg c8] at hf;rw [← hf] at hB;unfold KJ at qw;rw [if_neg c8] at qw;rcases hH with rfl | ⟨w,rfl⟩
    ·simp [-It.ea,k0,k3,k5,k6,k8,k59,k60,k61,qk,qQ,jZ,qw,JN,c8];exact BatQ2.mk hB (.inl ⟨rfl,rfl,rfl⟩)
    ·simp [-It.ea,k0,k3,k5,k6,k8,k59,k60,k61,qk,qQ,jZ,qw,JN,c8];exact BatQ2.mk hB (.inl ⟨rfl,rfl,rfl⟩)
  ·have qk:¬ (k:Int) < (l.length:Int):=(by omega);rw [zZ (by omega),vt] at hf;rw [← hf] at hB;simp only at hB;have h1:=qfB t E (by omega) (by rw [ZK];omega);have h2:=qfB mk E (by omega) (by rw [ZK];omega);rw [ZK] at h1 h2;cases c8:vZ t.l en with
   | false =>
    rw [c8,ZX,if_neg (by decide)] at hB;rw [c8] at h1;rcases hH with rfl | ⟨w,rfl⟩
    ·simp [k0,k3,k5,k6,k8,k59,k60,k61,qk,h1];exact BatQ2.mk hB (.inl ⟨rfl,rfl,rfl⟩)
    ·simp [k0,k3,k5,k6,k8,k59,k60,k61,qk,h1];exact BatQ2.mk hB (.inl ⟨rfl,rfl,rfl⟩)
   | true =>
    rw [c8] at h1;cases c9:vZ mk.l en with
    | false =>
     rw [c8,c9,vV,if_neg (by decide)] at hB;rw [c9] at h2;rcases hH with rfl | ⟨w,rfl⟩
     ·simp [k0,k3,k5,k6,k8,k59,k60,k61,qk,h1,h2];exact BatQ2.mk hB (.inl ⟨rfl,rfl,rfl⟩)
     ·simp [k0,k3,k5,k6,k8,k59,k60,k61,qk,h1,h2];exact BatQ2.mk hB (.inl ⟨rfl,rfl,rfl⟩)
    | true =>
     rw [c8,c9,vV,if_pos rfl] at hB;rw [c9] at h2;subst hE;by_cases jH:l = []
     ·subst jH;have Zh:lS.nil = true:=(by rw [KV];rfl);have kv:¬ (k:Int) < 0:=by omega
      skip
      rcases hH with rfl | ⟨w,rfl⟩
      ·simp [k0,k3,k5,k6,k8,k59,k60,k61,h1,h2,Zh,kv];exact BatQ2.mk hB (.inl ⟨rfl,rfl,rfl⟩)
      ·simp [k0,k3,k5,k6,k8,k59,k60,k61,h1,h2,Zh,kv];exact BatQ2.mk hB (.inl ⟨rfl,rfl,rfl⟩)
     ·have Zh:lS.nil = false:=(by rw [KV];exact List.isEmpty_eq_false_iff.2 jH);have hb1:l.length * 104≤140737488355328:=(by omega);have zy:l.length≤140737488355328:=(by omega);have zT:¬ l.length = 0:=fun h=>jH (VV h);rcases hH with rfl | ⟨w,rfl⟩
      ·simp [k0,k3,k5,k6,k8,k59,k60,k61,qk,h1,h2,Zh,qF,hb1,zy,zT,qbT,qcc];exact BatQ2.mk hB (.inr ⟨jH,_,_,rfl,rfl,rfl,rfl⟩)
      ·simp [k0,k3,k5,k6,k8,k59,k60,k61,qk,h1,h2,Zh,qF,hb1,zy,zT,qbT,qcc];exact BatQ2.mk hB (.inr ⟨jH,_,_,rfl,rfl,rfl,rfl⟩)
 ·refine vB (X:=cx) (f:=36) (args:=[.optr 0 4 0,.agg [.str p,.int .u64 e,.int .u64 n,(.vsl o.nil (qd o.l) o.l.length)]]) (H:=[some [.int .u64 ep,.int .u64 la,.osl 1 n1 0 k1 39,(.vsl mk.nil (qg mk.l) mk.l.length)],some (qg its)]) (BatQ2 ⟨ep,la,its,mk⟩ ⟨p,e,n,o⟩) Tryz.func36 rfl ⟨rfl,rfl⟩ ?_;by_cases c1:ep < e
  ·have hb:jt ⟨ep,la,its,mk⟩ ⟨p,e,n,o⟩ = (409,⟨ep,la,its,mk⟩):=(by unfold jt;rw [if_pos c1]);simp [Tryz.f36,c1];exact BatQ2.mk hb (.inr ⟨qr,n1,k1,zM,hk1,rfl,rfl⟩)
  by_cases c2:n = la∧n≠0
  ·have hb:jt ⟨ep,la,its,mk⟩ ⟨p,e,n,o⟩ = (200,⟨ep,la,its,mk⟩):=(by unfold jt;rw [if_neg c1,if_pos c2]);obtain ⟨rfl,c3⟩:=c2;simp [Tryz.f36,c1,c3];exact BatQ2.mk hb (.inr ⟨qr,n1,k1,zM,hk1,rfl,rfl⟩)
  by_cases c3:n≠w1∨n = 0
  ·have hb:jt ⟨ep,la,its,mk⟩ ⟨p,e,n,o⟩ = (409,⟨ep,la,its,mk⟩):=(by unfold jt;simp only;rw [if_neg c1,if_neg c2,if_pos (by rw [qK];exact c3)]);by_cases c4:n = la
   ·have c5:n = 0:=qdf fun h=>c2 ⟨c4,h⟩;subst c4;subst c5;by_cases c6:(0:Int) = w1
    ·simp [Tryz.f36,c1];exact BatQ2.mk hb (.inr ⟨qr,n1,k1,zM,hk1,rfl,rfl⟩)
    ·simp [Tryz.f36,c1];exact BatQ2.mk hb (.inr ⟨qr,n1,k1,zM,hk1,rfl,rfl⟩)
   ·by_cases c6:n = w1
    ·have c5:n = 0:=c3.resolve_left fun h=>h c6;subst c6;subst c5;simp [Tryz.f36,c1,qK,c4];exact BatQ2.mk hb (.inr ⟨qr,n1,k1,zM,hk1,rfl,rfl⟩)
    ·simp [Tryz.f36,c1,qK,c4,c6];exact BatQ2.mk hb (.inr ⟨qr,n1,k1,zM,hk1,rfl,rfl⟩)
  have c4:¬ n = la:=fun h=>c2 ⟨h,fun h0=>c3 (.inr h0)⟩;have c5:n = w1:=qdf fun h=>c3 (.inl h);have c6:¬ n = 0:=fun h=>c3 (.inr h)
  have hB:jt ⟨ep,la,its,mk⟩ ⟨p,e,n,o⟩ = qau ⟨ep,la,its,mk⟩ n (vK o.l):=by
   unfold jt;simp only;rw [if_neg c1,if_neg c2,if_neg (by rw [qK];exact c3)]
  unfold jh at hg;obtain ⟨⟨l,en,c⟩,hgp⟩:∃ g,g = vK o.l:=⟨_,rfl⟩;rw [← hgp] at hg kg Vl hB;unfold qau at hB;simp only at hg kg Vl hB;clear hgp;obtain ⟨lS,KV⟩:∃ lS,lS = Sl.grown l:=⟨_,rfl⟩;obtain ⟨E,hE⟩:∃ E,E = Sl.grown en:=⟨_,rfl⟩;have qbh:lS.l = l:=by rw [KV];rfl
  have ZK:E.l = en:=by rw [hE];rfl
  rw [← KV,← hE,qbh,ZK] at hg;subst c5;by_cases c7:c = 0
  case neg =>
   rw [if_pos c7] at hB;simp [Tryz.f36,c1,qK,c4,c6,hg,c7];exact BatQ2.mk hB (.inr ⟨qr,n1,k1,zM,hk1,rfl,rfl⟩)
  rw [if_neg (fun h=>h c7)] at hB;simp [Tryz.f36,c1,qK,c4,c6,hg,c7]
  refine Run.loopThen (fun (k:Nat × Sl Mk) e' H=>k.1≤l.length∧k.2.l.length≤mk.l.length+k.1∧vt (l.drop k.1) k.2.l = vt l mk.l∧(H = [some [.int .u64 ep,.int .u64 la,.osl 1 n1 0 k1 39,(.vsl mk.nil (qg mk.l) mk.l.length)],some (qg its),some [.str p,.int .u64 e,.int .u64 n,(.vsl o.nil (qd o.l) o.l.length)]]∨∃ w,H = [some [.int .u64 ep,.int .u64 la,.osl 1 n1 0 k1 39,(.vsl mk.nil (qg mk.l) mk.l.length)],some (qg its),some [.str p,.int .u64 e,.int .u64 n,(.vsl o.nil (qd o.l) o.l.length)],w]) ∧
   qf e' 0 = some (.optr 0 4 0)∧qf e' 3 = some (.optr 2 4 0)∧qf e' 5 = some (.vsl lS.nil (qg l) l.length)∧qf e' 6 = some (.vsl E.nil (qg en) en.length)∧qf e' 8 = some (.vsl k.2.nil (qg k.2.l) k.2.l.length)∧qf e' 59 = some (.vsl lS.nil (qg l) l.length)∧qf e' 60 = some (.int .i64 l.length)∧qf e' 61 = some (.int .i64 k.1)) (fun k=>l.length - k.1) (0,mk) ?_ ?_
  ·simp
  rintro ⟨k,t⟩ e' H ⟨hk,jq,hf,hH,k0,k3,k5,k6,k8,k59,k60,k61⟩;simp only at hk jq hf k8 k61;by_cases qh:k < l.length
  ·have qk:(k:Int) < (l.length:Int):=(by omega);have hw:IntKind.i64.wrap ((k:Int)+1) = ((k+1:Nat):Int):=(by rw [wrap_i64] <;> omega);have qQ:lS.nil = false:=Sl.nn (i:=k) (by rw [qbh];exact qh);have jZ:List.drop (k * 39) (qg l) = Enc.cells l[k] ++ qg (l.drop (k+1)):=It.ea qh;have qw:=qj2 t (by omega) l[k] false;have JN:39≤39+(l.length - (k+1)) * 39:=(by omega);rw [zo qh,vt] at hf;have htl2:=qeO t.l l[k] false;generalize l[k] = x at *;by_cases c8:QG t.l x = 0
   ·rw [if_pos c8] at hf;rw [c8] at qw;unfold KJ at qw;rw [if_pos rfl] at qw;rcases hH with rfl | ⟨w,rfl⟩
    ·simp [-It.ea,k0,k3,k5,k6,k8,k59,k60,k61,qk,hw,qQ,jZ,qw,JN];exact ⟨k+1,by omega,by omega,.of (Z3 t.l x false),by rw [Sl.of_l];omega,hf,⟨rfl,rfl,rfl⟩,by omega⟩
    ·simp [-It.ea,k0,k3,k5,k6,k8,k59,k60,k61,qk,hw,qQ,jZ,qw,JN];exact ⟨k+1,by omega,by omega,.of (Z3 t.l x false),by rw [Sl.of_l];omega,hf,⟨rfl,rfl,rfl⟩,by omega⟩
   ·rw [if_neg c8] at hf;rw [← hf] at hB;unfold KJ at qw;rw [if_neg c8] at qw;rcases hH with rfl | ⟨w,rfl⟩
    ·simp [-It.ea,k0,k3,k5,k6,k8,k59,k60,k61,qk,qQ,jZ,qw,JN,c8];exact BatQ2.mk hB (.inr ⟨qr,n1,k1,zM,hk1,rfl,rfl⟩)
    ·simp [-It.ea,k0,k3,k5,k6,k8,k59,k60,k61,qk,qQ,jZ,qw,JN,c8];exact BatQ2.mk hB (.inr ⟨qr,n1,k1,zM,hk1,rfl,rfl⟩)
  ·have qk:¬ (k:Int) < (l.length:Int):=(by omega);rw [zZ (by omega),vt] at hf;rw [← hf] at hB;simp only at hB;have h1:=qfB t E (by omega) (by rw [ZK];omega);have h2:=qfB mk E (by omega) (by rw [ZK];omega);rw [ZK] at h1 h2;cases c8:vZ t.l en with
   | false =>
    rw [c8,ZX,if_neg (by decide)] at hB;rw [c8] at h1;rcases hH with rfl | ⟨w,rfl⟩
    ·simp [k0,k3,k5,k6,k8,k59,k60,k61,qk,h1];exact BatQ2.mk hB (.inr ⟨qr,n1,k1,zM,hk1,rfl,rfl⟩)
    ·simp [k0,k3,k5,k6,k8,k59,k60,k61,qk,h1];exact BatQ2.mk hB (.inr ⟨qr,n1,k1,zM,hk1,rfl,rfl⟩)
   | true =>
    rw [c8] at h1;cases c9:vZ mk.l en with
    | false =>
     rw [c8,c9,vV,if_neg (by decide)] at hB;rw [c9] at h2;rcases hH with rfl | ⟨w,rfl⟩
     ·simp [k0,k3,k5,k6,k8,k59,k60,k61,qk,h1,h2];exact BatQ2.mk hB (.inr ⟨qr,n1,k1,zM,hk1,rfl,rfl⟩)
     ·simp [k0,k3,k5,k6,k8,k59,k60,k61,qk,h1,h2];exact BatQ2.mk hB (.inr ⟨qr,n1,k1,zM,hk1,rfl,rfl⟩)
    | true =>
     rw [c8,c9,vV,if_pos rfl] at hB;rw [c9] at h2;subst hE;by_cases jH:l = []
     ·subst jH;have Zh:lS.nil = true:=(by rw [KV];rfl);have kv:¬ (k:Int) < 0:=(by omega);have hle:(qg its).length = n1:=(by rw [It.el,zM]);have zh:k1 * 39 = n1:=(by rw [hk1,zM]);have hb1:k1 * 104≤140737488355328:=(by omega);have zy:k1≤140737488355328:=(by omega);rw [Z2] at hB;rcases hH with rfl | ⟨w,rfl⟩
      ·simp [k0,k3,k5,k6,k8,k59,k60,k61,h1,h2,Zh,kv,qF,hb1,zy,hle,zh];exact BatQ2.mk hB (.inr ⟨qr,n1,k1,zM,hk1,rfl,rfl⟩)
      ·simp [k0,k3,k5,k6,k8,k59,k60,k61,h1,h2,Zh,kv,qF,hb1,zy,hle,zh];exact BatQ2.mk hB (.inr ⟨qr,n1,k1,zM,hk1,rfl,rfl⟩)
     ·have Zh:lS.nil = false:=(by rw [KV];exact List.isEmpty_eq_false_iff.2 jH);have hle:(qg its).length = n1:=(by rw [It.el,zM]);have zh:k1 * 39 = n1:=(by rw [hk1,zM]);have hb1:(k1+l.length) * 104≤140737488355328:=(by omega);have zy:k1+l.length≤140737488355328:=(by omega);have ZH:List.take (l.length * 39) (qg l) = qg l:=qu (by rw [It.el];omega);rcases hH with rfl | ⟨w,rfl⟩
      ·simp [k0,k3,k5,k6,k8,k59,k60,k61,qk,h1,h2,Zh,qF,hb1,zy,hle,zh];exact BatQ2.mk hB (.inr ⟨by simp [qr],_,_,by rw [qC,vL,zM],by rw [qC,hk1],rfl,by rw [qap]⟩)
      ·simp [k0,k3,k5,k6,k8,k59,k60,k61,qk,h1,h2,Zh,qF,hb1,zy,hle,zh];exact BatQ2.mk hB (.inr ⟨by simp [qr],_,_,by rw [qC,vL,zM],by rw [qC,hk1],rfl,by rw [qap]⟩)
theorem qzi [MaxL] [TxtC] (s p:List UInt8) (hs:s.length < 1000000) (hp:p.length < 1000000):call cx 126 [.str s,.str p] [] = some (.tup [.str (if pre p s then s.drop p.length else s),.bool (pre p s)],[]):=by
 have h:=qlc s p hs hp
 have h2:call cx 155 [.str s,.str p] [] = some (.tup [.str (if pre p s then s.drop p.length else s),.bool (pre p s)],[]):=by
  refine qq Tryz.func155 rfl ⟨rfl,rfl⟩ ?_;cases hq:pre p s with
  | true =>
   have:=qkX hq;have g:(p.length:Int)≤(s.length:Int):=(by omega);rw [hq] at h;simp [Tryz.f155,h,g];exact qu (by simp)
  | false =>
   rw [hq] at h;simp [Tryz.f155,h]
 refine qq Tryz.func126 rfl ⟨rfl,rfl⟩ ?_;simp [Tryz.f126,h2]
end Go.Ev.S
