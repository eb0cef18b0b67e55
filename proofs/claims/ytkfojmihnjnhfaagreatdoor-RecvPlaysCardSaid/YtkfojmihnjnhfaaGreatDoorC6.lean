import Derived.Test.YtkfojmihnjnhfaaGreatDoorC5
namespace Go.Ev.S
open Go Go.Proofs Go.Ev Go.RowKit
def asc:List D:=(List.range 256).map fun i=>.bool (decide (i = 61∨i = 10))
theorem qwn [MaxL]:call cx 229 [.str [61,10]] [] = some (.tup [.agg asc,.bool true],[]):=call_some.2 ⟨60,by kernel_rfl⟩
theorem qkm:asc.length = 256:=by simp [asc]
theorem qwo (c:UInt8):asc.drop c.toNat = .bool (decide (c = 61∨c = 10)) :: asc.drop (c.toNat+1):=by
 have hl:c.toNat < asc.length:=by rw [qkm];exact c.toNat_lt
 rw [List.drop_eq_getElem_cons hl];congr 1;simp only [asc,List.getElem_map,List.getElem_range];congr 1;have h1:c.toNat = 61↔c = 61:=⟨fun h=>UInt8.toNat_inj.1 h,fun h=>by rw [h];rfl⟩;have h2:c.toNat = 10↔c = 10:=⟨fun h=>UInt8.toNat_inj.1 h,fun h=>by rw [h];rfl⟩;rw [decide_eq_decide,h1,h2]
theorem qwm [MaxL] (c:UInt8):call cx 230 [.vptr asc,.int .u8 c.toNat] [] = some (.bool (decide (c = 61∨c = 10)),[]):=by
 have ha:=qwo c;have hc:=c.toNat_lt;have hc':(c.toNat:Int) < 256:=by omega
 generalize decide (c = 61∨c = 10) = b at *;refine qq Tryz.func230 rfl ⟨rfl,rfl⟩ ?_;simp [Tryz.f230,ha,hc']
set_option maxHeartbeats 2000000 in
set_option maxRecDepth 8000 in
theorem qww [MaxL] (s:List UInt8) (h8:8 < s.length) (hn:s.length < 1000000):call cx 200 [.vsl false (qd s) s.length,.str [61,10]] [] = some (.int .i64 (zG s 0),[]):=by
 have hus:=qdK s.length;simp only [h8,decide_true] at hus;have zx:¬ (s.length:Int) = 1:=by omega
 have ha:=qwn;have vP:=qkm;have haf:asc.all idFree = true:=by unfold asc;rw [List.all_map,List.all_eq_true];intro x _;rfl
 have hac:asc.all (closed 0) = true:=by unfold asc;rw [List.all_map,List.all_eq_true];intro x _;rfl
 have hafL:idFree.idFreeL asc = true:=by rw [XK];exact haf
 have haf2:(∀ x,x∈asc→idFree x = true) = True:=eq_true (List.all_eq_true.1 haf);have hacs:∀ n,asc.all (closed n) = true:=fun n=>by unfold asc;rw [List.all_map,List.all_eq_true];intro x _;rfl
 have hhas:=qwm
 have vO:freeze.freezeL [some asc] asc = some asc:=by
  have:=qbG [] [some asc] asc hafL;rw [this]
  have gen:∀ (l:List D),(∀ d∈l,∃ b,d = .bool b)→freeze.freezeL [] l = some l:=by
   intro l
   induction l with
   | nil=>intro _;rfl
   | cons a l ih =>
    intro h;obtain ⟨b,rfl⟩:=h a (by simp);have:=ih fun d hd=>h d (by simp [hd]);rw [freeze.freezeL,this];rfl
  refine gen _ fun d hd=>?_;simp only [asc,List.mem_map] at hd;obtain ⟨i,_,rfl⟩:=hd;exact ⟨_,rfl⟩
 have zA:shift.shiftL 0 asc = asc:=Ym 0 asc hafL;obtain ⟨r,hr⟩:∃ r,zG s 0 = r:=⟨_,rfl⟩;rw [hr];have qu:List.take 256 asc = asc:=List.take_of_length_le (by omega);generalize hA:asc = A at *;clear hA;refine qq Tryz.func200 rfl ⟨rfl,qjB s false (.inr h8)⟩ ?_;simp [-List.reduceReplicate,Tryz.f200,zx,hus,ha,vP,hacs,zA];refine Run.loopThen (fun (k:Nat) e H'=>k≤s.length∧zG (s.drop k) k = r∧H' = [some A]∧qf e 7 = some (.optr 0 256 0)∧qf e 60 = some (.vsl false (qd s) s.length)∧qf e 61 = some (.int .i64 s.length)∧qf e 62 = some (.int .i64 k)) (fun k=>s.length - k) 0 ?_ ?_
 ·simpa using hr
 rintro k e H' ⟨hk,hR,rfl,k7,k60,k61,k62⟩;by_cases qg:k < s.length
 ·have qk:(k:Int) < (s.length:Int):=by omega
  have hw:IntKind.i64.wrap ((k:Int)+1) = ((k+1:Nat):Int):=by rw [wrap_i64] <;> omega
  have qM:=zW qg;rw [List.drop_eq_getElem_cons qg,zG] at hR;have hh:=hhas s[k];generalize s[k] = c at *;by_cases hc:c = 61∨c = 10
  ·rw [if_pos hc] at hR;simp only [hc,decide_true] at hh;simp [k7,k60,k61,k62,qk,qM,hh,vP,haf2];exact hR
  ·rw [if_neg hc] at hR;simp only [hc,decide_false] at hh;simp [k7,k60,k61,k62,qk,qM,hh,vP,haf2,hw];exact ⟨k+1,by omega,qg,hR,by omega⟩
 ·have qk:¬ (k:Int) < (s.length:Int):=by omega
  rw [List.drop_eq_nil_of_le (by omega),zG] at hR;simp [k7,k60,k61,k62,qk];exact hR
theorem qwu [MaxL] (b:Bool):call cx 200 [.vsl b [] 0,.str [61,10]] [] = some (.int .i64 (-1),[]):=by
 have hus:call cx 228 [.int .i64 0] [] = some (.bool false,[]):=qdK 0;refine qq Tryz.func200 rfl ⟨rfl,qjB [] b (.inl rfl)⟩ ?_;simp [Tryz.f200,hus];refine JL ?_;simp
theorem qwv [MaxL] (s:Sl UInt8) (hn:s.l.length < 1000000):call cx 200 [(.vsl s.nil (qd s.l) s.l.length),.str [61,10]] [] = some (.int .i64 (zG s.l 0),[]):=by
 by_cases h0:s.l.length = 0
 ·have hl:s.l = []:=List.length_eq_zero_iff.1 h0;rw [hl];exact qwu s.nil
 ·have hnn:s.nil = false:=by
   cases h:s.nil with
   | false=>rfl
   | true=>exact absurd (by rw [s.h h];rfl) h0
  rw [hnn];by_cases h8:8 < s.l.length
  ·exact qww s.l h8 hn
  ·exact Vv (qve s.l (by omega) (by omega))
end Go.Ev.S
namespace Go.Ev.S
open Go Go.Proofs Go.Ev
theorem qwb [MaxL] (s:Sl UInt8) (hs:s.l.length < 1000000):call cx 83 [(.vsl s.nil (qd s.l) s.l.length),.vsl false [.int .u8 10] 1] [] = some (.int .i64 (zT [10] s.l 0),[]):=by
 refine Vv ?_;rw [qey];have zM:ZK [.int .u8 10] = some [10]:=rfl;have h2:s.l.length < 4294967281:=by omega
 simp [XR,zM,h2]
theorem qwf [MaxL] (s:Sl UInt8) (hs:s.l.length < 1000000):∃ (a r:Sl UInt8) (f:Bool),a.l = jB s.l∧r.l = zt s.l∧call cx 198 [(.vsl s.nil (qd s.l) s.l.length),.vsl false [.int .u8 10] 1] [] = some (.tup [(.vsl a.nil (qd a.l) a.l.length),(.vsl r.nil (qd r.l) r.l.length),.bool f],[]):=by
 have h:=qwb s hs;rcases XI [10] s.l 0 with ⟨i,h1,h2,-⟩ | h1
 ·simp only [Nat.zero_add,List.length_cons,List.length_nil] at h1 h2;have hn:¬ ((i:Nat):Int) = -1:=by omega
  refine ⟨⟨s.nil,s.l.take i,fun e=>by rw [s.h e];simp⟩,⟨s.nil,s.l.drop (i+1),fun e=>by rw [s.h e];simp⟩,true,?_,?_,?_⟩
  ·simp [jB,jt,h1,hn]
  ·simp [zt,jt,h1,hn]
  ·rw [h1] at h;have hw:IntKind.i64.wrap ((i:Int)+1) = ((i+1:Nat):Int):=(by rw [wrap_i64] <;> omega);have g1:i≤s.l.length:=(by omega);have g2:i+1≤s.l.length:=(by omega);have g1':(i:Int)≤(s.l.length:Int):=(by omega);have g2':((i+1:Nat):Int)≤(s.l.length:Int):=(by omega);have t1:List.take i (qd s.l) = qd (s.l.take i):=vK _ _
   have t2:List.take (s.l.length - (i+1)) (List.drop (i+1) (qd s.l)) = qd (s.l.drop (i+1)):=by
    rw [Qy];exact List.take_of_length_le (by simp)
   have l1:(s.l.take i).length = i:=(by simp;omega);have l2:(s.l.drop (i+1)).length = s.l.length - (i+1):=(by simp);obtain ⟨j,hj⟩:∃ j,j = i+1:=⟨_,rfl⟩;rw [← hj] at hw g2 g2' t2 l2 ⊢;have g3:((s.l.length:Int) - (j:Int)).toNat = s.l.length - j:=(by omega);refine qq Tryz.func198 rfl ⟨rfl,rfl⟩ ?_;simp [Tryz.f198,h,hw,g1',g2',t1,t2,l1,l2]
 ·refine ⟨s,.none,false,?_,?_,?_⟩
  ·simp [jB,jt,h1]
  ·simp [zt,jt,h1]
  ·rw [h1] at h;refine qq Tryz.func198 rfl ⟨rfl,rfl⟩ ?_;simp [Tryz.f198,h,Sl.none]
theorem YJ [MaxL] (s:Sl UInt8) (hs:s.l.length < 1000000) (p:List UInt8) (hp:p.length < 1000):∃ r:Sl UInt8,r.l = zt s.l∧call cx 169 [.optr 0 1 0,.str p] [some [(.vsl s.nil (qd s.l) s.l.length)]] = some (.str (jF p (jB s.l)),[some [(.vsl r.nil (qd r.l) r.l.length)]]):=by
 obtain ⟨a,r,f,h1,h2,h3⟩:=qwf s hs;refine ⟨r,h2,?_⟩;have hl:=YH s.l;have ht:=qfc (jB s.l) p (by omega) (by omega);have hb:vQ (qd a.l) = some a.l:=Vz a.l;have ht2:List.take a.l.length (qd a.l) = qd a.l:=List.take_of_length_le (by simp);rw [← h1] at ht ⊢;refine qq Tryz.func169 rfl ⟨rfl,rfl⟩ ?_;simp [Tryz.f169,h3,ht,hb,jF]
theorem qdr [MaxL] (s:Sl UInt8) (hs:s.l.length < 1000000) (p:List UInt8) (hp:p.length < 1000):∃ r:Sl UInt8,r.l = zt s.l∧call cx 171 [.optr 0 1 0,.str p] [some [(.vsl s.nil (qd s.l) s.l.length)]] = some (.int .u64 (kx p s.l:Nat),[some [(.vsl r.nil (qd r.l) r.l.length)]]):=by
 obtain ⟨r,h1,h2⟩:=YJ s hs p hp;refine ⟨r,h1,?_⟩;have hl:=YH s.l;have ht:=qaA p (jB s.l);unfold kx;rcases qda 10 (.inl rfl) (jF p (jB s.l)) (by omega) with ⟨v,e1,e2⟩ | ⟨e1,x,d,e2⟩
 ·rw [e1];have e3:call cx 128 [.str (jF p (jB s.l)),.int .i64 10,.int .i64 64] [] = some (.tup [.int .u64 v,.nili],[]):=e2;refine qq Tryz.func171 rfl ⟨rfl,rfl⟩ ?_;simp [Tryz.f171,h2,e3]
 ·rw [e1];have e3:call cx 128 [.str (jF p (jB s.l)),.int .i64 10,.int .i64 64] [] = some (.tup [.int .u64 x,.iface 232 (.vptr d)],[]):=e2;refine qq Tryz.func171 rfl ⟨rfl,rfl⟩ ?_;simp [Tryz.f171,h2,e3]
theorem qdJ [MaxL] (s:Sl UInt8) (hs:s.l.length < 1000000) (p:List UInt8) (hp:p.length < 1000):∃ r:Sl UInt8,r.l = zt s.l∧call cx 170 [.optr 0 1 0,.str p] [some [(.vsl s.nil (qd s.l) s.l.length)]] = some (.agg (qd (ky p s.l).l),[some [(.vsl r.nil (qd r.l) r.l.length)]]):=by
 obtain ⟨r,h1,h2⟩:=YJ s hs p hp;refine ⟨r,h1,?_⟩;have hl:=YH s.l;have ht:=qaA p (jB s.l);have kl:=qsV (jF p (jB s.l)) (by omega);have e:(ky p s.l).l = (vq (jF p (jB s.l))).getD zero16:=rfl;rw [← e] at kl;have hl16:=(ky p s.l).h;have ht16:List.take 16 (qd (ky p s.l).l) = qd (ky p s.l).l:=List.take_of_length_le (by simp);refine qq Tryz.func170 rfl ⟨rfl,rfl⟩ ?_;simp [Tryz.f170,h2,kl,hl16,ht16]
end Go.Ev.S
namespace Go.Ev
open Go Go.Proofs
mutual
theorem qhn:∀ (d:D),idFree d = true→noZ d = true
 | .agg cs,h=>by simp only [idFree] at h;simp only [noZ];exact Xf cs h
 | .tup cs,h=>by simp only [idFree] at h;simp only [noZ];exact Xf cs h
 | .fn _ cs,h=>by simp only [idFree] at h;simp only [noZ];exact Xf cs h
 | .iface _ d,h=>by simp only [idFree] at h;simp only [noZ];exact qhn d h
 | .optr ..,h=>by simp [idFree] at h
 | .osl ..,h=>by simp [idFree] at h
 | .bool _,_=>rfl
 | .int _ _,_=>rfl
 | .str _,_=>rfl
 | .nilp,_=>rfl
 | .nilf,_=>rfl
 | .nili,_=>rfl
 | .vptr _,_=>rfl
 | .vsl ..,_=>rfl
 | .raw _,_=>rfl
theorem Xf:∀ (l:List D),idFree.idFreeL l = true→noZ.noZL l = true
 | [],_=>rfl
 | d :: l,h=>by
  simp only [idFree.idFreeL,Bool.and_eq_true] at h;simp only [noZ.noZL,qhn d h.1,Xf l h.2,Bool.and_self]
end
@[simp] theorem qz8 (a b:List D):noZ.noZL (a ++ b) = (noZ.noZL a && noZ.noZL b):=by
 induction a with
 | nil=>simp [noZ.noZL]
 | cons d l ih=>simp [noZ.noZL,ih,Bool.and_assoc]
@[simp] theorem qz5 (l:List UInt8):noZ.noZL (qd l) = true:=Xf _ (by simp)
@[simp] theorem qz7 {α:Type} [Enc α] (a:α):noZ.noZL (Enc.cells a) = true:=Xf _ (qe0 a)
@[simp] theorem qz6 {α:Type} [Enc α] (l:List α):noZ.noZL (qh l) = true:=Xf _ (qen l)
end Go.Ev
namespace Go.Ev.S
open Go Go.Proofs Go.Ev
theorem qkp:∀ (l:List UInt8) (n:Nat),(∃ k:Nat,zG l n = ((n+k:Nat):Int)∧∃ h:k < l.length,(l[k] = 61∨l[k] = 10)∧∀ j (hj:j < k),l[j]≠61∧l[j]≠10)∨zG l n = -1
 | [],n=>.inr rfl
 | b :: l,n=>by
  by_cases hb:b = 61∨b = 10
  ·exact .inl ⟨0,by rw [zG,if_pos hb];simp,by simp,hb,fun j hj=>by omega⟩
  ·rw [zG,if_neg hb];rcases qkp l (n+1) with ⟨k,h1,h2,h3,h4⟩ | h
   ·refine .inl ⟨k+1,by rw [h1];congr 1;omega,by simpa using h2,by simpa using h3,fun j hj=>?_⟩;cases j with
    | zero=>exact ⟨fun e=>hb (.inl e),fun e=>hb (.inr e)⟩
    | succ j=>exact h4 j (by omega)
   ·exact .inr h
def kw (b:List UInt8):Option (Pr × List UInt8) :=
 if zG b 0 < 1 then none
 else if b.getD (zG b 0).toNat 0 = 61 then some (⟨b.take (zG b 0).toNat,jB (b.drop ((zG b 0).toNat+1))⟩,zt (b.drop ((zG b 0).toNat+1)))
 else match kV (b.drop ((zG b 0).toNat+1)) 0 8 with
  | none=>none
  | some n=>if 256 < n∨(b.drop ((zG b 0).toNat+1)).length < 9+n then none
   else some (⟨b.take (zG b 0).toNat,((b.drop ((zG b 0).toNat+1)).drop 8).take n⟩,(b.drop ((zG b 0).toNat+1)).drop (9+n))
theorem qpw (l:List UInt8) (n:Nat) (h:kV l 0 8 = some n):n < 18446744073709551616∧8≤l.length:=by
 unfold kV at h;split at h
 ·rename_i hc;injection h with h;refine ⟨?_,by omega⟩;rw [← h];have:=JX ((l.drop (0:Int).toNat).take (8:Int).toNat);refine Nat.lt_of_lt_of_le this ?_;have hl:((l.drop (0:Int).toNat).take (8:Int).toNat).length≤8:=by simp;omega
  exact Nat.le_trans (Nat.pow_le_pow_right (by decide) hl) (by decide)
 ·cases h
set_option maxHeartbeats 4000000 in
set_option maxRecDepth 8000 in
theorem qpi [MaxL] (s:Sl UInt8) (hs:s.l.length < 1000000):∃ r:Sl UInt8,(∀ p b,kw s.l = some (p,b)→r.l = b) ∧
  call cx 172 [.optr 0 1 0] [some [(.vsl s.nil (qd s.l) s.l.length)]] = some (.tup [.agg (match kw s.l with | some (p,_)=>[.str p.name,.str p.value] | none=>[.str [],.str []]),.bool (kw s.l).isSome],[some [(.vsl r.nil (qd r.l) r.l.length)]]):=by
 have ha:=qwv s hs;rcases qkp s.l 0 with ⟨k,h1,h2,h3,-⟩ | h1
 ·rw [Nat.zero_add] at h1;rw [h1] at ha;cases k with
  | zero =>
   have hP:kw s.l = none:=(by unfold kw;rw [h1,if_pos (by decide)]);rw [hP];refine ⟨s,fun p b h=>(by cases h),?_⟩;have ha0:call cx 200 [(.vsl s.nil (qd s.l) s.l.length),.str [61,10]] [] = some (.int .i64 0,[]):=ha;refine qq Tryz.func172 rfl ⟨rfl,rfl⟩ ?_;simp [Tryz.f172,ha0]
  | succ m =>
   obtain ⟨k,hk⟩:∃ k,k = m+1:=⟨_,rfl⟩;rw [← hk] at h1 ha h2;have hk1:1≤k:=(by omega);have h3':s.l[k] = 61∨s.l[k] = 10:=(by subst hk;exact h3);clear h3;have qV:¬ (k:Int) < 1:=(by omega);have hnn:s.nil = false:=Sl.nn h2;rw [hnn] at ha;have qM:=zW h2;have hgd:s.l.getD k 0 = s.l[k]:=(by rw [List.getD,List.getElem?_eq_getElem h2];rfl);have qF:IntKind.i64.wrap ((k:Int)+1) = ((k+1:Nat):Int):=(by rw [wrap_i64] <;> omega);have t1:List.take k (qd s.l) = qd (s.l.take k):=vK _ _;have t1l:(s.l.take k).length = k:=(by simp;omega);have t1b:vQ (qd (s.l.take k)) = some (s.l.take k):=Vz _;have t1t:List.take k (qd (s.l.take k)) = qd (s.l.take k):=List.take_of_length_le (by simp;omega);obtain ⟨R,hR⟩:∃ R:Sl UInt8,R = ⟨false,s.l.drop (k+1),fun e=>by cases e⟩:=⟨_,rfl⟩;have hRl:R.l = s.l.drop (k+1):=(by rw [hR]);have hRn:R.nil = false:=(by rw [hR]);have hRlen:R.l.length = s.l.length - (k+1):=by rw [hRl];simp
   have t2:List.take (s.l.length - (k+1)) (List.drop (k+1) (qd s.l)) = qd R.l:=by
    rw [Qy,← hRl];exact List.take_of_length_le (by simp [hRlen])
   have g1:k≤s.l.length:=(by omega);have g1':(k:Int)≤(s.l.length:Int):=(by omega);have g0':(k:Int) < (s.l.length:Int):=(by omega);have g2:k+1≤s.l.length:=(by omega);have g2':((k+1:Nat):Int)≤(s.l.length:Int):=(by omega);obtain ⟨j,hj⟩:∃ j,j = k+1:=⟨_,rfl⟩;have g3:((s.l.length:Int) - (j:Int)).toNat = s.l.length - j:=(by omega);have hln:=YJ R (by omega) [] (by decide);obtain ⟨r,Qk,zD⟩:=hln;have htr:jF [] (jB R.l) = jB R.l:=(by unfold jF;simp);rw [htr] at zD;have vc:=XH R 0 8 ⟨by decide,by decide⟩ (by omega)
   have hP:kw s.l = if s.l[k] = 61 then some (⟨s.l.take k,jB R.l⟩,zt R.l) else match kV R.l 0 8 with
     | none=>none
     | some n=>if 256 < n∨R.l.length < 9+n then none else some (⟨s.l.take k,(R.l.drop 8).take n⟩,R.l.drop (9+n)):=by
    unfold kw;have hkn':((k:Int)).toNat = k:=(by omega);rw [h1,if_neg qV,hkn',hgd,← hRl]
   rw [hP];have hc10:s.l[k]≠61→s.l[k] = 10:=fun h=>h3'.resolve_left h;rw [hRn] at zD vc;rw [← hRlen] at t2;generalize s.l[k] = c at *;have hsl:s.l.length - (k+1) = R.l.length:=hRlen.symm;rw [← hj] at qF t2 g2 g2' hsl;by_cases hc:c = 61
   ·rw [if_pos hc];subst hc;refine ⟨r,fun p b h=>(by injection h with h;injection h with _ h;rw [← h];exact Qk),?_⟩;clear vc hP hc10 h3';refine qq Tryz.func172 rfl ⟨rfl,rfl⟩ ?_;simp [Tryz.f172,ha,qV,hnn,qM,qF,t1,t1l,t1b,t2,g0',g1',g2',hsl,zD]
   ·rw [if_neg hc];have vX:=hc10 hc;subst vX;clear Qk zD htr hP hc10 h3' hc;cases hg:kV R.l 0 8 with
    | none =>
     rw [hg] at vc;simp only [J2,Option.getD_none,Option.isSome_none] at vc;refine ⟨R,fun p b h=>(by cases h),?_⟩;rw [hRn];refine qq Tryz.func172 rfl ⟨rfl,rfl⟩ ?_;simp [Tryz.f172,ha,qV,hnn,qM,qF,t1,t1l,t1b,t2,g0',g1',g2',hsl,vc]
    | some n =>
     obtain ⟨hn64,hR8⟩:=qpw _ _ hg;rw [hg] at vc;simp only [J2,Option.getD_some,Option.isSome_some] at vc;by_cases hbig:256 < n
     ·have kn:(256:Int) < (n:Int):=(by omega);refine ⟨R,fun p b h=>(by simp only [hbig,true_or,if_true] at h;cases h),?_⟩;rw [hRn];simp only [hbig,true_or,if_true];refine qq Tryz.func172 rfl ⟨rfl,rfl⟩ ?_;simp [Tryz.f172,ha,qV,hnn,qM,qF,t1,t1l,t1b,t2,g0',g1',g2',hsl,vc,kn]
     ·have kn:¬ (256:Int) < (n:Int):=(by omega);have Qj:IntKind.i64.wrap (n:Int) = (n:Int):=(by rw [wrap_i64] <;> omega);have hwn9:IntKind.i64.wrap (9+(n:Int)) = 9+(n:Int):=(by rw [wrap_i64] <;> omega);by_cases zA:R.l.length < 9+n
      ·have hsh':(R.l.length:Int) < 9+(n:Int):=(by omega);refine ⟨R,fun p b h=>(by simp only [zA,or_true,if_true] at h;cases h),?_⟩;rw [hRn];simp only [zA,or_true,if_true];refine qq Tryz.func172 rfl ⟨rfl,rfl⟩ ?_;simp [Tryz.f172,ha,qV,hnn,qM,qF,t1,t1l,t1b,t2,g0',g1',g2',hsl,vc,kn,Qj,hwn9,hsh']
      ·have hsh':¬ (R.l.length:Int) < 9+(n:Int):=(by omega);have zE:¬ (256 < n∨R.l.length < 9+n):=(by omega);simp only [zE,if_false];obtain ⟨V,hV⟩:∃ V,V = (R.l.drop 8).take n:=⟨_,rfl⟩;have hVl:V.length = n:=(by rw [hV];simp;omega);obtain ⟨q,hq⟩:∃ q,q = 9+n:=⟨_,rfl⟩;obtain ⟨q8,hq8⟩:∃ q,q = 8+n:=⟨_,rfl⟩;have w8:IntKind.u64.wrap (8+(n:Int)) = (q8:Int):=(by rw [qK] <;> omega);have w9:IntKind.u64.wrap (q:Int) = (q:Int):=(by rw [qK] <;> omega);have hq9:9+(n:Int) = (q:Int):=(by omega);have e8:((q8:Int) - 8).toNat = n:=(by omega);have eq9:((R.l.length:Int) - (q:Int)).toNat = R.l.length - q:=(by omega);have b1:(q8:Int)≤(R.l.length:Int):=(by omega);have b2:(8:Int)≤(q8:Int):=(by omega);have b3:(q:Int)≤(R.l.length:Int):=(by omega);have b4:q8≤R.l.length:=(by omega);have b5:8≤q8:=(by omega);have b6:q≤R.l.length:=(by omega);have b7:q8 - 8 = n:=(by omega);have tv:List.take n (List.drop 8 (qd R.l)) = qd V:=(by rw [Qy,vK,← hV]);have tvb:vQ (qd V) = some V:=Vz _;have tvt:List.take n (qd V) = qd V:=List.take_of_length_le (by simp;omega);obtain ⟨Q,hQ⟩:∃ Q:Sl UInt8,Q = ⟨false,R.l.drop q,fun e=>by cases e⟩:=⟨_,rfl⟩;have hQl:Q.l = R.l.drop q:=(by rw [hQ]);have hQn:Q.nil = false:=(by rw [hQ]);have hQlen:R.l.length - q = Q.l.length:=by rw [hQl];simp
       have tq:List.take (R.l.length - q) (List.drop q (qd R.l)) = qd Q.l:=by
        rw [Qy,← hQl];exact List.take_of_length_le (by simp [hQlen])
       rw [hQlen] at tq;refine ⟨Q,fun p b h=>(by injection h with h;injection h with _ h;rw [← h,hQl,hq]),?_⟩;rw [hQn];rw [hq9] at hsh' hwn9;rw [← hV];clear hg hV hQl hQ hR hRl zA;refine qq Tryz.func172 rfl ⟨rfl,rfl⟩ ?_;simp [Tryz.f172,ha,qV,hnn,qM,qF,t1,t1l,t1b,t2,g0',g1',g2',hsl,vc,kn,Qj,hq9,hwn9,hsh',w8,w9,b1,b2,b3,b7,tv,tvb,tq,hVl,hQlen]
 ·have hP:kw s.l = none:=by unfold kw;rw [h1,if_pos (by decide)]
  rw [hP];refine ⟨s,fun p b h=>(by cases h),?_⟩;rw [h1] at ha;refine qq Tryz.func172 rfl ⟨rfl,rfl⟩ ?_;simp [Tryz.f172,ha]
def Rec.zero:Rec:=⟨0,0,0,ID.zero,.none⟩
def Kx (b:List UInt8):It:=⟨ky jy (zt b),true,((pu 10 (jt [45] (jF jv (jB b))).1).getD 0:Nat),((pu 10 (jt [45] (jF jv (jB b))).2.1).getD 0:Nat),Rec.zero⟩
theorem qgB [MaxL] (s:List UInt8) (hs:s.length≤1000000) :
  (∃ v:Nat,(pu 10 s).getD 0 = v∧call cx 128 [.str s,.int .i64 10,.int .i64 64] [] = some (.tup [.int .u64 v,.nili],[])) ∨
  ((pu 10 s).getD 0 = 0∧∃ (x:Nat) (d:List D),call cx 128 [.str s,.int .i64 10,.int .i64 64] [] = some (.tup [.int .u64 x,.iface 232 (.vptr d)],[])):=by
 rcases qda 10 (.inl rfl) s (by omega) with ⟨v,e1,e2⟩ | ⟨e1,x,d,e2⟩
 ·exact .inl ⟨v,by rw [e1];rfl,e2⟩
 ·exact .inr ⟨by rw [e1];rfl,x,d,e2⟩
set_option maxHeartbeats 4000000 in
set_option maxRecDepth 8000 in
theorem qtF [MaxL] (s:Sl UInt8) (hs:s.l.length < 1000000):∃ r:Sl UInt8,call cx 146 [.optr 0 1 0] [some [(.vsl s.nil (qd s.l) s.l.length)]] = some (.agg (Enc.cells (Kx s.l)),[some [(.vsl r.nil (qd r.l) r.l.length)]]):=by
 obtain ⟨r1,Qk,zJ⟩:=YJ s hs jv (by decide);have hln:=YH s.l;have hlr:=ZE s.l;have jm:=qaA jv (jB s.l);obtain ⟨r2,zD,zZ⟩:=qdJ r1 (by rw [Qk];omega) jy (by decide);have ji:=qac [45] (jF jv (jB s.l));have hct:=qj7 (jF jv (jB s.l)) [45] (by omega) (by decide);have p1:=qgB (jt [45] (jF jv (jB s.l))).1 (by omega);have p2:=qgB (jt [45] (jF jv (jB s.l))).2.1 (by omega);refine ⟨r2,?_⟩;rw [It.cells];unfold Kx;simp only;rw [← Qk];generalize ky jy r1.l = q at *;generalize (jt [45] (jF jv (jB s.l))).2.2 = f at *;generalize (jt [45] (jF jv (jB s.l))).2.1 = y at *;generalize (jt [45] (jF jv (jB s.l))).1 = x at *;generalize jF jv (jB s.l) = t at *;have hq:=q.h;have hq16:List.take 16 (qd q.l) = qd q.l:=List.take_of_length_le (by simp);have hq39:List.take 39 (qd q.l) = qd q.l:=List.take_of_length_le (by simp);have z16:qd ID.zero.l = [.int .u8 0,.int .u8 0,.int .u8 0,.int .u8 0,.int .u8 0,.int .u8 0,.int .u8 0,.int .u8 0,.int .u8 0,.int .u8 0,.int .u8 0,.int .u8 0,.int .u8 0,.int .u8 0,.int .u8 0,.int .u8 0]:=rfl;clear hlr jm hln ji;simp only [jv,jy] at zJ zZ;refine qq Tryz.func146 rfl ⟨rfl,rfl⟩ ?_;rcases p1 with ⟨v1,e1,c1⟩ | ⟨e1,x1,d1,c1⟩ <;> rcases p2 with ⟨v2,e2,c2⟩ | ⟨e2,x2,d2,c2⟩ <;> rw [e1,e2] <;> clear e1 e2
 all_goals
  simp [Tryz.f146,zJ,hct];refine JL ?_;simp [c1];refine JL ?_;simp [c2];refine JL ?_;simp [zZ,hq39,hq,z16,Rec.zero,List.take_append]
def Qr:Nat→List UInt8→List Pr
 | 0,_=>[]
 | n+1,b=>match kw b with
  | none=>[]
  | some (p,r)=>p :: Qr n r
def Q7 (l:List Pr):Sl Pr:=⟨l.isEmpty,l,fun h=>by simpa using h⟩
def Ky (b:List UInt8):It:=⟨ky jy (zt (zt (zt (zt b)))),false,0,0,⟨(kx Zx (zt (zt (zt b))):Nat),(kx Zy (zt b):Nat),(kx Zz (zt (zt b)):Nat),ky QN (zt (zt (zt (zt (zt b))))),Q7 (Qr 17 (zt (zt (zt (zt (zt (zt b)))))))⟩⟩
theorem qdj {b:List UInt8} {p:Pr} {r:List UInt8} (h:kw b = some (p,r)):r.length≤b.length:=by
 unfold kw at h;split at h
 ·cases h
 ·split at h
  ·injection h with h;injection h with _ h;rw [← h];exact Nat.le_trans (ZE _) (by simp)
  ·split at h
   ·cases h
   ·split at h
    ·cases h
    ·injection h with h;injection h with _ h;rw [← h];simp
def J8 (q:ID) (sq rl mn:Nat) (bt:ID):List D:=qd q.l ++ ([.bool false,.int .u64 0,.int .u64 0,.int .u64 sq,.int .u64 rl,.int .u64 mn] ++ qd bt.l)
theorem qji (q:ID) (sq rl mn:Nat) (bt:ID):(J8 q sq rl mn bt).length = 38:=by
 simp [J8,q.h,bt.h]
theorem qjj (q:ID) (sq rl mn:Nat) (bt:ID):idFree.idFreeL (J8 q sq rl mn bt) = true:=by
 simp [J8,idFree]
def qwO (X:List D) (Z:Option (List D)) (fs:List Pr) (r:Sl UInt8) (H:qi):Prop :=
 (fs = []∧H = [some [(.vsl r.nil (qd r.l) r.l.length)],Z,some (X ++ [.vsl true [] 0])]) ∨
 (fs≠[]∧∃ (n k:Nat) (t u:Pr),n = fs.length * 2∧k = fs.length∧(H = [some [(.vsl r.nil (qd r.l) r.l.length)],Z,some (X ++ [.osl 5 n 0 k 2]),some [.str t.name,.str t.value],some [.str u.name,.str u.value],some (qh fs)] ∨
  ∃ v w:Pr,H = [some [(.vsl r.nil (qd r.l) r.l.length)],Z,some (X ++ [.osl 5 n 0 k 2]),some [.str t.name,.str t.value],some [.str u.name,.str u.value],some (qh fs),some [.str v.name,.str v.value],some [.str w.name,.str w.value]]))
theorem ql9 {X:List D} (hX:idFree.idFreeL X = true) {fs:List Pr} {i n k:Nat} (hn:fs.length * 2 = n) (hk:fs.length = k) {H:qi} (hg:(H[i]?).getD none = some (qh fs)):jg H 9 (.agg (X ++ [.osl i n 0 k 2])) = some (.agg (X ++ [.vsl false (qh fs) k]),[i]):=by
 have h8:jg H 8 (.osl i n 0 k 2) = some (.vsl false (qh fs) k,[i]):=by
  rw [jg,if_neg (by simp [idFree])];have hl:(qh fs).length = n:=by simp [hn]
  have h0:0+k * 2≤n:=by omega
  simp only [qo,hg];rw [if_pos ⟨hl,h0⟩,if_pos (by simp),List.drop_zero,List.take_of_length_le (by simp;omega)]
 rw [jg,if_neg (by simp [idFree])];simp only [qaE,qfr hX,jU,h8];rfl
set_option maxHeartbeats 4000000 in
set_option maxRecDepth 8000 in
theorem qu0 [MaxL] (s:Sl UInt8) (hs:s.l.length < 1000000):∃ q,call cx 147 [.optr 0 1 0] [some [(.vsl s.nil (qd s.l) s.l.length)]] = some q∧∃ r:Sl UInt8,q = (.agg (Enc.cells (Ky s.l)),[some [(.vsl r.nil (qd r.l) r.l.length)]]):=by
 obtain ⟨r1,Qk,zJ⟩:=YJ s hs J4 (by decide);have n0:=ZE s.l;obtain ⟨r2,zD,zZ⟩:=qdr r1 (by rw [Qk];omega) Zy (by decide);have n1:=ZE r1.l;rw [← Qk] at n0;obtain ⟨r3,hr3,qX⟩:=qdr r2 (by rw [zD];omega) Zz (by decide);have n2:=ZE r2.l;rw [← zD] at n1;obtain ⟨r4,hr4,zB⟩:=qdr r3 (by rw [hr3];omega) Zx (by decide);have n3:=ZE r3.l;rw [← hr3] at n2;obtain ⟨r5,hr5,hl5⟩:=qdJ r4 (by rw [hr4];omega) jy (by decide);have n4:=ZE r4.l;rw [← hr4] at n3;obtain ⟨r6,hr6,hl6⟩:=qdJ r5 (by rw [hr5];omega) QN (by decide);have n5:=ZE r5.l;rw [← hr5] at n4;rw [← hr6] at n5
 have hE:Enc.cells (Ky s.l) = J8 (ky jy r4.l) (kx Zx r3.l) (kx Zy r1.l) (kx Zz r2.l) (ky QN r5.l) ++ [(.vsl (Q7 (Qr 17 r6.l)).nil (qh (Q7 (Qr 17 r6.l)).l) (Q7 (Qr 17 r6.l)).l.length)]:=by
  rw [It.cells];unfold Ky J8;simp only;rw [← Qk,← zD,← hr3,← hr4,← hr5,← hr6];simp
 rw [hE];have hr6':r6.l.length < 1000000:=by omega
 clear hE n0 n1 n2 n3 n4 n5 Qk zD hr3 hr4 hr5 hr6;have jj:=qji (ky jy r4.l) (kx Zx r3.l) (kx Zy r1.l) (kx Zz r2.l) (ky QN r5.l);have hXf:=qjj (ky jy r4.l) (kx Zx r3.l) (kx Zy r1.l) (kx Zz r2.l) (ky QN r5.l);obtain ⟨X,hX⟩:∃ X,X = J8 (ky jy r4.l) (kx Zx r3.l) (kx Zy r1.l) (kx Zz r2.l) (ky QN r5.l):=⟨_,rfl⟩;rw [← hX] at jj hXf ⊢;unfold J8 at hX;obtain ⟨F,hF⟩:∃ F,F = Qr 17 r6.l:=⟨_,rfl⟩;rw [← hF];have hq:=(ky jy r4.l).h;have hb:=(ky QN r5.l).h;generalize ky jy r4.l = q at *;generalize ky QN r5.l = bt at *;generalize kx Zx r3.l = sq at *;generalize kx Zy r1.l = rl at *;generalize kx Zz r2.l = mn at *;have hq16:List.take 16 (qd q.l) = qd q.l:=List.take_of_length_le (by simp);have hb16:List.take 16 (qd bt.l) = qd bt.l:=List.take_of_length_le (by simp);simp only [J4,Zy,Zz,Zx,jy,QN] at zJ zZ qX zB hl5 hl6;have hXd:List.drop 38 X = []:=List.drop_eq_nil_of_le (by omega);have hXd9:List.drop 39 X = []:=List.drop_eq_nil_of_le (by omega);have hXt:List.take 38 X = X:=List.take_of_length_le (by omega);have hXt9:List.take 39 X = X:=List.take_of_length_le (by omega)
 have vY:∀ n,(∀ x,x∈X→closed n x = true) = True:=fun n=>eq_true (by
  have:=ZJ n X hXf;rw [KC] at this;exact List.all_eq_true.1 this)
 refine vf (X:=cx) (f:=147) (args:=[.optr 0 1 0]) (H:=[some [(.vsl s.nil (qd s.l) s.l.length)]]) (fun q=>∃ r:Sl UInt8,q = (.agg (X ++ [(.vsl (Q7 F).nil (qh (Q7 F).l) (Q7 F).l.length)]),[some [(.vsl r.nil (qd r.l) r.l.length)]])) Tryz.func147 rfl ⟨rfl,rfl⟩ ?_;simp [Tryz.f147,zJ,zZ,qX,zB,hl5,hl6,hq,hb,List.take_append,List.drop_append,zk];have hZf:idFree.idFreeL [D.int .u8 0,D.int .u8 0,D.int .u8 0,D.int .u8 0,D.int .u8 0,D.int .u8 0,D.int .u8 0,D.int .u8 0,D.int .u8 0,D.int .u8 0,D.int .u8 0,D.int .u8 0,D.int .u8 0,D.int .u8 0,D.int .u8 0,D.int .u8 0,D.bool false,D.int .u64 0,D.int .u64 0,D.int .u64 0,D.int .u64 0,D.int .u64 0,D.int .u8 0,D.int .u8 0,D.int .u8 0,D.int .u8 0,D.int .u8 0,D.int .u8 0,D.int .u8 0,D.int .u8 0,D.int .u8 0,D.int .u8 0,D.int .u8 0,D.int .u8 0,D.int .u8 0,D.int .u8 0,D.int .u8 0,D.int .u8 0,D.vsl true [] 0] = true:=rfl;have hZl:[D.int .u8 0,D.int .u8 0,D.int .u8 0,D.int .u8 0,D.int .u8 0,D.int .u8 0,D.int .u8 0,D.int .u8 0,D.int .u8 0,D.int .u8 0,D.int .u8 0,D.int .u8 0,D.int .u8 0,D.int .u8 0,D.int .u8 0,D.int .u8 0,D.bool false,D.int .u64 0,D.int .u64 0,D.int .u64 0,D.int .u64 0,D.int .u64 0,D.int .u8 0,D.int .u8 0,D.int .u8 0,D.int .u8 0,D.int .u8 0,D.int .u8 0,D.int .u8 0,D.int .u8 0,D.int .u8 0,D.int .u8 0,D.int .u8 0,D.int .u8 0,D.int .u8 0,D.int .u8 0,D.int .u8 0,D.int .u8 0,D.vsl true [] 0].length = 39:=rfl;generalize [D.int .u8 0,D.int .u8 0,D.int .u8 0,D.int .u8 0,D.int .u8 0,D.int .u8 0,D.int .u8 0,D.int .u8 0,D.int .u8 0,D.int .u8 0,D.int .u8 0,D.int .u8 0,D.int .u8 0,D.int .u8 0,D.int .u8 0,D.int .u8 0,D.bool false,D.int .u64 0,D.int .u64 0,D.int .u64 0,D.int .u64 0,D.int .u64 0,D.int .u8 0,D.int .u8 0,D.int .u8 0,D.int .u8 0,D.int .u8 0,D.int .u8 0,D.int .u8 0,D.int .u8 0,D.int .u8 0,D.int .u8 0,D.int .u8 0,D.int .u8 0,D.int .u8 0,D.int .u8 0,D.int .u8 0,D.int .u8 0,D.vsl true [] 0] = Z at *
 have hZc:∀ n,(∀ x,x∈Z→closed n x = true) = True:=fun n=>eq_true (by
  have:=ZJ n Z hZf;rw [KC] at this;exact List.all_eq_true.1 this)
 have hZd:List.drop 39 Z = []:=List.drop_eq_nil_of_le (by omega);refine Run.loopThen (fun (q:List Pr × Sl UInt8) e H'=>q.1.length≤17∧q.2.l.length < 1000000∧q.1 ++ Qr (17 - q.1.length) q.2.l = F∧qwO X (some Z) q.1 q.2 H'∧qf e 0 = some (.optr 0 1 0)∧qf e 2 = some (.optr 1 39 0)∧qf e 3 = some (.optr 2 39 0)∧qf e 4 = some (.optr 2 39 19)) (fun q=>17 - q.1.length) ([],r6) ?_ ?_
 ·refine ⟨by simp,hr6',by rw [hF];rfl,.inl ⟨rfl,?_⟩,by simp,by simp,by simp,by simp⟩;rw [hX];simp
 rintro ⟨fs,r⟩ e H' ⟨hk,hrl,hFf,hH,k0,k2,k3,k4⟩;simp only at hk hrl hFf hH;clear hX hF zJ zZ qX zB hl5 hl6 hr6';have jp:=ZE r.l;obtain ⟨r',hr',hp⟩:=qpi r hrl;rcases hH with ⟨rfl,rfl⟩ | ⟨qr,n,k,t,u,hn,hk2,hH⟩
 ·simp only [List.nil_append,List.length_nil,Nat.sub_zero,Qr] at hFf;cases hpp:kw r.l with
  | none =>
   rw [hpp] at hp hFf;simp only [Option.isSome_none] at hp hFf;subst hFf;simp [k0,k2,k3,k4,hp,jj,hXt9,vY,hXf,hZl,hZd,List.take_append,List.drop_append,Q7];exact ⟨r',rfl,rfl,rfl⟩
  | some pr =>
   obtain ⟨p,b⟩:=pr;rw [hpp] at hp hFf;simp only [Option.isSome_some] at hp hFf;have hrb:=hr' p b hpp;have Q4:=qdj hpp;simp [k0,k2,k3,k4,hp,jj,hXd9,List.drop_append,qB];exact ⟨[p],by simp,by simp,r',by rw [hrb];omega,by rw [hrb];exact hFf,.inr ⟨by simp,2,1,p,p,rfl,rfl,.inl rfl⟩⟩
 ·have hk17:(k:Int)≤16↔k≤16:=by omega
  have qR:fs.length = k:=hk2.symm;have qV:k * 2 = n:=by omega
  have zH:(k+1) * 32≤140737488355328:=by omega
  have zj:k+1≤140737488355328:=by omega
  have hie:fs.isEmpty = false:=by simpa using qr
  have qu:List.take n (qh fs) = qh fs:=List.take_of_length_le (by simp;omega);have hst:=fun {i:Nat} {H:qi}=>ql9 hXf (fs:=fs) (i:=i) (n:=n) (k:=k) hn.symm qR (H:=H);by_cases hle:k≤16
  ·have jh:(k:Int)≤16:=(by omega);have hfu:17 - fs.length = (16 - fs.length)+1:=(by omega);rw [hfu,Qr] at hFf;cases hpp:kw r.l with
   | none =>
    rw [hpp] at hp hFf;simp only [Option.isSome_none,List.append_nil] at hp hFf;subst hFf;rcases hH with rfl | ⟨v,w,rfl⟩
    ·simp [-jg,k0,k2,k3,k4,jh,hp,hst,qR,jj,hXt9,vY,hXf,hZl,hZd,List.take_append,List.drop_append,Q7,hie];exact ⟨r',rfl,rfl,rfl⟩
    ·simp [-jg,k0,k2,k3,k4,jh,hp,hst,qR,jj,hXt9,vY,hXf,hZl,hZc,hZd,List.take_append,List.drop_append,Q7,hie];exact ⟨r',rfl,rfl,rfl⟩
   | some pr =>
    obtain ⟨p,b⟩:=pr;rw [hpp] at hp hFf;simp only [Option.isSome_some] at hp hFf;have hrb:=hr' p b hpp;have Q4:=qdj hpp;rcases hH with rfl | ⟨v,w,rfl⟩
    ·simp [k0,k2,k3,k4,jh,hp,qR,qV,zH,zj,jj,hXd9,List.drop_append,qB];refine ⟨fs ++ [p],by simp;omega,by simp [qR];omega,r',by rw [hrb];omega,?_,.inr ⟨by simp,n+2,k+1,t,u,by simp;omega,by simp;omega,.inr ⟨p,p,by rw [QI];rfl⟩⟩⟩;rw [← hFf,hrb,List.append_assoc];have e1:17 - (fs ++ [p]).length = 16 - fs.length:=(by simp);rw [e1];rfl
    ·simp [k0,k2,k3,k4,jh,hp,qR,qV,zH,zj,jj,hXd9,vY,hZc,List.drop_append,qB];refine ⟨fs ++ [p],by simp;omega,by simp [qR];omega,r',by rw [hrb];omega,?_,.inr ⟨by simp,n+2,k+1,t,u,by simp;omega,by simp;omega,.inr ⟨p,p,by rw [QI];rfl⟩⟩⟩;rw [← hFf,hrb,List.append_assoc];have e1:17 - (fs ++ [p]).length = 16 - fs.length:=(by simp);rw [e1];rfl
  ·have jh:¬ (k:Int)≤16:=(by omega);have hfu:17 - fs.length = 0:=(by omega);rw [hfu,Qr,List.append_nil] at hFf;subst hFf;rcases hH with rfl | ⟨v,w,rfl⟩
   ·simp [-jg,k0,k2,k3,k4,jh,hst,qR,jj,hXt9,vY,hXf,hZl,hZd,List.take_append,List.drop_append,Q7,hie];exact ⟨r,rfl,rfl,rfl⟩
   ·simp [-jg,k0,k2,k3,k4,jh,hst,qR,jj,hXt9,vY,hXf,hZl,hZc,hZd,List.take_append,List.drop_append,Q7,hie];exact ⟨r,rfl,rfl,rfl⟩
theorem qwc [MaxL] (a b:Sl UInt8) (_:a.l.length < 1000000) (_:b.l.length < 1000000):call cx 122 [(.vsl a.nil (qd a.l) a.l.length),(.vsl b.nil (qd b.l) b.l.length)] [] = some (.bool (a.l == b.l),[]):=by
 have t1:List.take a.l.length (qd a.l) = qd a.l:=List.take_of_length_le (by simp);have t2:List.take b.l.length (qd b.l) = qd b.l:=List.take_of_length_le (by simp);refine qq Tryz.func122 rfl ⟨rfl,rfl⟩ ?_;simp [Tryz.f122]
theorem qce [MaxL] (s:Sl UInt8) (p:List UInt8) (hs:s.l.length < 1000000) (hp:p.length < 1000000) (h1:1≤p.length):call cx 108 [(.vsl s.nil (qd s.l) s.l.length),.vsl false (qd p) p.length] [] = some (.bool (pre p s.l),[]):=by
 unfold pre;refine qq Tryz.func108 rfl ⟨rfl,rfl⟩ ?_;by_cases hle:p.length≤s.l.length
 ·have jh:(p.length:Int)≤(s.l.length:Int):=by omega
  have hnn:s.nil = false:=Sl.nn (i:=0) (by omega);have he:=qwc (.of (s.l.take p.length)) (.of p) (by simp;omega) hp;simp only [Sl.of_l,Sl.of_nil] at he;have t1:List.take p.length (qd s.l) = qd (s.l.take p.length):=vK _ _;have l1:(s.l.take p.length).length = p.length:=by simp;omega
  rw [l1] at he;simp [Tryz.f108,jh,hnn,t1,he]
 ·have jh:¬ (p.length:Int)≤(s.l.length:Int):=by omega
  have qr:(s.l.take p.length == p) = false:=by
   refine beq_eq_false_iff_ne.2 fun e=>?_;have:=congrArg List.length e;simp at this;omega
  rw [qr];simp [Tryz.f108,jh]
def It.zero:It:=⟨ID.zero,false,0,0,Rec.zero⟩
theorem qcZ {s:List UInt8}:(pu 10 s).getD 0 < 18446744073709551616:=by
 cases h:pu 10 s with
 | none=>decide
 | some v =>
  unfold pu at h;split at h
  ·cases h
  ·exact XB 10 _ _ _ (by decide) h
theorem qdq (p b:List UInt8):qw (kx p b:Nat):=by
 have:kx p b < 18446744073709551616:=qcZ;unfold qw;omega
theorem V3:qw 0:=by unfold qw;decide
theorem Rec.zero_ok:Rec.zero.Ok:=⟨V3,V3,V3⟩
theorem qtH (b:List UInt8):(Kx b).Ok:=by
 have h1:=qcZ (s:=(jt [45] (jF jv (jB b))).1);have h2:=qcZ (s:=(jt [45] (jF jv (jB b))).2.1);refine ⟨?_,?_,Rec.zero_ok⟩ <;> (unfold Kx qw;simp only;omega)
theorem qu4 (b:List UInt8):(Ky b).Ok:=⟨V3,V3,qdq _ _,qdq _ _,qdq _ _⟩
theorem qoi {b:List UInt8} {p:Pr} {r:List UInt8} (h:kw b = some (p,r)):p.name.length≤b.length∧p.value.length≤b.length:=by
 unfold kw at h;split at h
 ·cases h
 ·split at h
  ·injection h with h;injection h with h _;rw [← h];exact ⟨by simp;omega,Nat.le_trans (YH _) (by simp)⟩
  ·split at h
   ·cases h
   ·split at h
    ·cases h
    ·injection h with h;injection h with h _;rw [← h];constructor
     ·simp;omega
     ·simp;omega
theorem qiH:∀ (n:Nat) (b:List UInt8),(∀ p∈Qr n b,p.name.length≤b.length∧p.value.length≤b.length)∧(Qr n b).length≤n
 | 0,b=>⟨fun p h=>by simp [Qr] at h,by simp [Qr]⟩
 | n+1,b=>by
  rw [Qr];cases h:kw b with
  | none=>exact ⟨fun p h=>by simp at h,by simp⟩
  | some q =>
   obtain ⟨p,r⟩:=q;simp only;obtain ⟨h1,h2⟩:=qiH n r;have hr:=qdj h;refine ⟨fun x hx=>?_,by simpa using h2⟩;rcases List.mem_cons.1 hx with rfl | hx
   ·exact qoi h
   ·have:=h1 x hx;omega
def zX (b:List UInt8):It:=if pre jv b then Kx b else Ky b
theorem qbz (b:List UInt8):(zX b).Ok:=by
 unfold zX;split
 ·exact qtH b
 ·exact qu4 b
theorem qhL (b:List UInt8) (hb:b.length < 1000000):(∀ p∈(zX b).rc.fields.l,kH p)∧(zX b).rc.fields.l.length < 1000000:=by
 unfold zX;split
 ·exact ⟨fun p hp=>(by cases hp),(by show (0:Nat) < 1000000;decide)⟩
 ·obtain ⟨h1,h2⟩:=qiH 17 (zt (zt (zt (zt (zt (zt b))))));have l1:=ZE b;have l2:=ZE (zt b);have l3:=ZE (zt (zt b));have l4:=ZE (zt (zt (zt b)));have l5:=ZE (zt (zt (zt (zt b))));have l6:=ZE (zt (zt (zt (zt (zt b)))));refine ⟨fun p hp=>?_,?_⟩
  ·obtain ⟨q1,q2⟩:=h1 p hp;exact ⟨by omega,by omega⟩
  ·show (Qr 17 _).length < _;omega
def QX (b:List UInt8):Bool:=zw (zX b) && pre (zp (zX b)) b
def X9 (b:List UInt8):D:=if QX b then .tup [.agg (Enc.cells (zX b)),.int .i64 (zp (zX b)).length,.int .i64 0] else .tup [.agg (Enc.cells It.zero),.int .i64 0,.int .i64 20]
set_option maxHeartbeats 4000000 in
set_option maxRecDepth 8000 in
theorem qnx [MaxL] (s:Sl UInt8) (hs:s.l.length < 1000000) (hlong:zw (zX s.l) = true→(zp (zX s.l)).length < 1000000∧1≤(zp (zX s.l)).length):call cx 109 [(.vsl s.nil (qd s.l) s.l.length)] [] = some (X9 s.l,[]):=by
 have hok:=qbz s.l;obtain ⟨hb,hn⟩:=qhL s.l hs;have ht:=qlh (zX s.l) hok hb hn;have hpg:=qce s jv hs (by decide) (by decide);obtain ⟨rg,vt⟩:=qtF s hs;obtain ⟨qe,hent,re,rfl⟩:=qu0 s hs;have hI:zX s.l = if pre jv s.l then Kx s.l else Ky s.l:=rfl;unfold X9 QX;unfold KP at ht;generalize zX s.l = it at *;replace hpg:call cx 108 [(.vsl s.nil (qd s.l) s.l.length),.vsl false [.int .u8 95,.int .u8 95,.int .u8 71,.int .u8 65,.int .u8 80,.int .u8 61] 6] [] = some (.bool (pre jv s.l),[]):=hpg;refine qq Tryz.func109 rfl ⟨rfl,rfl⟩ ?_;cases hp:pre jv s.l with
 | true =>
  rw [hp] at hI hpg;simp only [if_true] at hI;rw [← hI] at vt;cases ho:zw it with
  | true =>
   obtain ⟨q1,q2⟩:=hlong ho;rw [ho] at ht;simp only [if_true] at ht;have Q1:=qce s (zp it) hs q1 q2;have qr:¬ (zp it).length = 0:=(by omega);generalize zp it = t at *;cases hpt:pre t s.l with
   | true =>
    rw [hpt] at Q1;simp [Tryz.f109,hpg,vt,ht,Q1,qr]
   | false =>
    rw [hpt] at Q1;simp [Tryz.f109,hpg,vt,ht,Q1,qr];rfl
  | false =>
   rw [ho] at ht;simp [Tryz.f109,hpg,vt,ht];rfl
 | false =>
  rw [hp] at hI hpg;simp only [Bool.false_eq_true,if_false] at hI;rw [← hI] at hent;cases ho:zw it with
  | true =>
   obtain ⟨q1,q2⟩:=hlong ho;rw [ho] at ht;simp only [if_true] at ht;have Q1:=qce s (zp it) hs q1 q2;have qr:¬ (zp it).length = 0:=(by omega);generalize zp it = t at *;cases hpt:pre t s.l with
   | true =>
    rw [hpt] at Q1;simp [Tryz.f109,hpg,hent,ht,Q1,qr]
   | false =>
    rw [hpt] at Q1;simp [Tryz.f109,hpg,hent,ht,Q1,qr];rfl
  | false =>
   rw [ho] at ht;simp [Tryz.f109,hpg,hent,ht];rfl
def ZB (t:List UInt8):Option (List UInt8 × Nat):=if qP 10 t 0 < 0 then none else some (t.take (qP 10 t 0).toNat,(qP 10 t 0).toNat+1)
theorem qib (c:UInt8):∀ (l:List UInt8) (n m:Nat),qP c l (n+m) = if qP c l n < 0 then -1 else qP c l n+m
 | [],n,m=>by simp [qP]
 | b :: l,n,m=>by
  simp only [qP];by_cases hb:b = c
  ·simp only [hb,if_true];rw [if_neg (by omega)];omega
  ·simp only [hb,if_false];have:=qib c l (n+1) m;rw [show n+m+1 = n+1+m by omega];exact this
theorem qsS (c:UInt8) (l:List UInt8):qP c l 0 = -1∨∃ i:Nat,i < l.length∧qP c l 0 = (i:Int):=by
 rcases qdF c l 0 with h | ⟨m,h1,h2⟩
 ·exact .inl h
 ·exact .inr ⟨m,h1,by simpa using h2⟩
set_option maxHeartbeats 2000000 in
theorem qgh [MaxL] (s:Sl UInt8) (hs:s.l.length < 1000000) (at_:Nat) (qM:at_≤s.l.length):call cx 179 [(.vsl s.nil (qd s.l) s.l.length),.int .i64 at_] [] = some (.tup (match ZB (s.l.drop at_) with
  | none=>[.str [],.int .i64 0,.bool false]
  | some (t,n)=>[.str t,.int .i64 (at_+n:Nat),.bool true]),[]):=by
 refine qq Tryz.func179 rfl ⟨rfl,rfl⟩ ?_;obtain ⟨r,hr⟩:∃ r,qP 10 (s.l.drop at_) at_ = r:=⟨_,rfl⟩
 have h0:=qib 10 (s.l.drop at_) 0 at_
 rw [Nat.zero_add,hr] at h0;simp [Tryz.f179];refine Run.loopThen (fun (i:Nat) e H'=>at_≤i∧i≤s.l.length∧qP 10 (s.l.drop i) i = r∧H' = []∧qf e 0 = some (.vsl s.nil (qd s.l) s.l.length)∧qf e 1 = some (.int .i64 at_)∧qf e 7 = some (.int .i64 i)) (fun i=>s.l.length - i) at_ ?_ ?_
 ·simp [qM,hr]
 rintro i e H' ⟨h1,h2,hR,rfl,k0,k1,k7⟩;by_cases qg:i < s.l.length
 ·have qk:(i:Int) < (s.l.length:Int):=by omega
  have hw:IntKind.i64.wrap ((i:Int)+1) = ((i+1:Nat):Int):=by rw [wrap_i64] <;> omega
  have hnn:=Sl.nn qg;have hA:=zW qg;rw [List.drop_eq_getElem_cons qg,qP] at hR;generalize s.l[i] = c at *;by_cases hc:c = 10
  ·rw [if_pos hc] at hR;subst hc
   have hneg:¬ qP 10 (s.l.drop at_) 0 < 0:=by
    intro h;rw [if_pos h] at h0;omega
   rw [if_neg hneg] at h0;have hi0:qP 10 (s.l.drop at_) 0 = ((i - at_:Nat):Int):=(by omega);have g1:(at_:Int)≤(i:Int):=(by omega);have g2:(i:Int)≤(s.l.length:Int):=(by omega);have g3:((i:Int) - (at_:Int)).toNat = i - at_:=by omega
   have t1:List.take (i - at_) (List.drop at_ (qd s.l)) = qd ((s.l.drop at_).take (i - at_)):=(by rw [Qy,vK]);have t1l:((s.l.drop at_).take (i - at_)).length = i - at_:=by simp;omega
   have t1b:vQ (qd ((s.l.drop at_).take (i - at_))) = some ((s.l.drop at_).take (i - at_)):=Vz _;have t1t:List.take (i - at_) (qd ((s.l.drop at_).take (i - at_))) = qd ((s.l.drop at_).take (i - at_)):=List.take_of_length_le (by simp;omega)
   have hP:ZB (s.l.drop at_) = some ((s.l.drop at_).take (i - at_),i - at_+1):=by
    unfold ZB;rw [if_neg hneg,hi0];rfl
   rw [hP];have e1:at_+(i - at_+1) = i+1:=by omega
   simp only;generalize List.take (i - at_) (List.drop at_ s.l) = t at *;simp [k0,k1,k7,qk,hnn,hA,hw,g1,g2,t1,t1l,t1b];omega
  ·rw [if_neg hc] at hR
   have hc':¬ (c.toNat:Int) = 10:=by
    intro e;exact hc (UInt8.toNat_inj.1 (by show c.toNat = 10;omega))
   have vX:¬ c.toNat = 10:=(by omega);simp [k0,k1,k7,qk,hnn,hA,hw,hc'];exact ⟨i+1,by omega,by omega,by omega,hR,by omega⟩
 ·have qk:¬ (i:Int) < (s.l.length:Int):=by omega
  rw [List.drop_eq_nil_of_le (by omega),qP] at hR
  have hneg:qP 10 (s.l.drop at_) 0 < 0:=by
   rcases Int.lt_or_le (qP 10 (s.l.drop at_) 0) 0 with h | h
   ·exact h
   ·rw [if_neg (by omega)] at h0;omega
  have hP:ZB (s.l.drop at_) = none:=by unfold ZB;rw [if_pos hneg]
  rw [hP];simp [k0,k1,k7,qk]
def kU (b:List UInt8):Nat→List (List UInt8)→Option (List (List UInt8) × Nat)
 | a,[]=>some ([],a)
 | a,f :: fs=>match ZB (b.drop a) with
  | none=>none
  | some (t,n)=>if pre f t then match kU b (a+n) fs with
    | none=>none
    | some (l,z)=>some (t.drop f.length :: l,z)
   else none
def QU (l:List (List UInt8)):List D:=l.map D.str
theorem qfk (l:List (List UInt8)):idFree.idFreeL (QU l) = true:=by
 induction l with
 | nil=>rfl
 | cons a l ih=>simp [QU,idFree] at *;exact ih
theorem qfj (l:List (List UInt8)):(QU l).length = l.length:=by simp [QU]
theorem qaT {t s:List UInt8} {n:Nat} (h:ZB t = some (s,n)):n≤t.length∧s.length+1 = n:=by
 unfold ZB at h;rcases qsS 10 t with hr | ⟨i,hi,hr⟩
 ·rw [hr,if_pos (by decide)] at h;cases h
 ·rw [hr,if_neg (by omega)] at h;injection h with h;injection h with h1 h2;subst h1;subst h2;have e:((i:Int)).toNat = i:=by omega
  rw [e];refine ⟨by omega,?_⟩;simp;omega
theorem YI {b:List UInt8}:∀ {fs:List (List UInt8)} {a z:Nat} {l:List (List UInt8)},a≤b.length→kU b a fs = some (l,z)→z≤b.length∧l.length = fs.length∧∀ s∈l,s.length≤b.length
 | [],a,z,l,ha,h=>by
  simp only [kU,Option.some.injEq,Prod.mk.injEq] at h;obtain ⟨rfl,rfl⟩:=h;exact ⟨ha,rfl,fun s hs=>by cases hs⟩
 | f :: fs,a,z,l,ha,h=>by
  rw [kU] at h;cases hr:ZB (b.drop a) with
  | none=>rw [hr] at h;cases h
  | some q =>
   obtain ⟨t,n⟩:=q;rw [hr] at h;simp only at h;obtain ⟨k1,k2⟩:=qaT hr;simp only [List.length_drop] at k1;split at h
   ·cases hl:kU b (a+n) fs with
    | none=>rw [hl] at h;cases h
    | some q =>
     obtain ⟨l',z'⟩:=q;rw [hl] at h;simp only [Option.some.injEq,Prod.mk.injEq] at h;obtain ⟨rfl,rfl⟩:=h;obtain ⟨q1,q2,q3⟩:=YI (by omega) hl;refine ⟨q1,by simp [q2],fun s hs=>?_⟩;rcases List.mem_cons.1 hs with rfl | hs
     ·rw [List.length_drop];omega
     ·exact q3 s hs
   ·cases h
theorem qlw {l:List (List UInt8)} {k:Nat} (h:k < l.length):List.drop k (QU l) = .str l[k] :: QU (l.drop (k+1)):=by
 unfold QU;rw [← List.map_drop,List.drop_eq_getElem_cons h];rfl
theorem qlu (l:List (List UInt8)) (t:List UInt8):QU l ++ [.str t] = QU (l ++ [t]):=by simp [QU]
set_option maxHeartbeats 4000000 in
theorem qgg [MaxL] (s:Sl UInt8) (hs:s.l.length < 1000000) (fs:List (List UInt8)) (hf:∀ f∈fs,f.length < 1000) (h1:1≤fs.length) (zM:fs.length≤10):call cx 177 [(.vsl s.nil (qd s.l) s.l.length),.vsl false (QU fs) fs.length] [] = some (.tup (match kU s.l 0 fs with
  | none=>[.vsl true [] 0,.int .i64 0,.bool false]
  | some (l,z)=>[.vsl false (QU l) l.length,.int .i64 (z:Nat),.bool true]),[]):=by
 refine qq Tryz.func177 rfl ⟨rfl,rfl⟩ ?_;obtain ⟨R,hR⟩:∃ R,kU s.l 0 fs = R:=⟨_,rfl⟩;rw [hR];simp [Tryz.f177]
 refine Run.loopThen (fun (q:Nat × Nat × List (List UInt8)) e H'=>q.1≤fs.length∧q.2.1≤s.l.length∧q.2.2.length = q.1∧(match kU s.l q.2.1 (fs.drop q.1) with | none=>none | some (l,z)=>some (q.2.2 ++ l,z)) = R ∧
   ((q.2.2 = []∧H' = []∧qf e 7 = some (.vsl true [] 0))∨(∃ n,n = q.2.2.length∧q.2.2≠[]∧H' = [some (QU q.2.2)]∧qf e 7 = some (.osl 0 n 0 n 1))) ∧
   qf e 0 = some (.vsl s.nil (qd s.l) s.l.length)∧qf e 1 = some (.vsl false (QU fs) fs.length)∧qf e 8 = some (.int .i64 (q.2.1:Nat))∧qf e 9 = some (.int .i64 (q.1:Nat))) (fun q=>fs.length - q.1) (0,0,[]) ?_ ?_
 ·refine ⟨by omega,by simp,rfl,?_,.inl ⟨rfl,rfl,by simp⟩,by simp,by simp,by simp,by simp⟩;simp only [List.drop_zero,List.nil_append];rw [hR];cases R <;> rfl
 rintro ⟨k,a,o⟩ e H' ⟨hk,ha,ho,hG,hH,k0,k1,k8,k9⟩;simp only at hk ha ho hG hH k8 k9;by_cases qg:k < fs.length
 ·have qk:(k:Int) < (fs.length:Int):=by omega
  have hw:IntKind.i64.wrap ((k:Int)+1) = ((k+1:Nat):Int):=by rw [wrap_i64] <;> omega
  have hA:=qlw qg;have hfk:=hf _ (List.getElem_mem qg);rw [List.drop_eq_getElem_cons qg,kU] at hG;have hl:=qgh s hs a ha;cases hr:ZB (s.l.drop a) with
  | none =>
   rw [hr] at hG hl;simp only at hG hl;subst hG;rcases hH with ⟨rfl,rfl,k7⟩ | ⟨n,hn,qr,rfl,k7⟩ <;> simp [k0,k1,k7,k8,k9,qk,hl]
  | some q =>
   obtain ⟨t,n1⟩:=q;rw [hr] at hG hl;simp only at hG hl;obtain ⟨r1,r2⟩:=qaT hr;simp only [List.length_drop] at r1;have js:=Ya t fs[k] (by omega) (by omega);generalize fs[k] = f at *;cases hp:pre f t with
   | false =>
    rw [hp] at hG js;simp only [Bool.false_eq_true,if_false] at hG js;subst hG;rcases hH with ⟨rfl,rfl,k7⟩ | ⟨n,hn,qr,rfl,k7⟩ <;> simp [k0,k1,k7,k8,k9,qk,hl,hA,js]
   | true =>
    rw [hp] at hG js;simp only [if_true] at hG js;have han:((a+n1:Nat):Int) = (a:Int)+(n1:Int):=(by omega);rcases hH with ⟨rfl,rfl,k7⟩ | ⟨n,hn,qr,rfl,k7⟩
    ·have kj:k = 0:=(by simpa using ho.symm);simp [k0,k1,k7,k8,k9,qk,hl,hA,js,qB];refine ⟨k+1,by omega,by omega,a+n1,by omega,[t.drop f.length],by simp [kj],?_,⟨by simp,rfl,rfl⟩,by omega,hw⟩;rw [← hG];cases kU s.l (a+n1) (fs.drop (k+1)) <;> rfl
    ·have hsl:=qfj o;have hsf:=qfk o
     have hsa:(∀ x,x∈QU o→idFree x = true) = True:=eq_true (by
      rw [XK] at hsf;exact List.all_eq_true.1 hsf)
     have zH:(n+1) * 16≤140737488355328:=(by omega);have zj:n≤140737488355327:=(by omega);simp [k0,k1,k7,k8,k9,qk,hl,hA,js,hsl,hsa,← hn,zH,zj,qB];refine ⟨k+1,by omega,by omega,a+n1,by omega,o ++ [t.drop f.length],by simp [ho],?_,⟨by simp,by rw [qlu],by simp;omega⟩,by omega,hw⟩;rw [← hG];cases kU s.l (a+n1) (fs.drop (k+1)) <;> simp
 ·have qk:¬ (k:Int) < (fs.length:Int):=by omega
  rw [List.drop_eq_nil_of_le (by omega),kU] at hG;simp only [List.append_nil] at hG;subst hG;rcases hH with ⟨rfl,rfl,k7⟩ | ⟨n,hn,qr,rfl,k7⟩
  ·exfalso;simp only [List.length_nil] at ho;omega
  ·have hsl:=qfj o;have hsf:=qfk o;have qu:List.take n (QU o) = QU o:=List.take_of_length_le (by rw [hsl,hn];exact Nat.le_refl _);simp [k0,k1,k7,k8,k9,qk,hsl,hsf,qu,← hn]
theorem qdt (x:Nat) (y:Nat) (hy:y < 256) (hx:x < 256 ^ 7):IntKind.u64.wrap (IntKind.u64.wrap ((x:Int) * 256)+(y:Int)) = ((x * 256+y:Nat):Int):=by
 have e1:IntKind.u64.wrap ((x:Int) * 256) = ((x * 256:Nat):Int):=by
  rw [qK] <;> omega
 rw [e1,qK] <;> omega
set_option maxHeartbeats 1000000 in
theorem qgo [MaxL] (s:Sl UInt8) (a:Nat) (h:a+8≤s.l.length) (_:s.l.length < 4611686018427387904) :
  call cx 117 [(.vsl s.nil (qd s.l) s.l.length),.int .i64 a,.int .i64 8] [] = some (.tup [.int .u64 (leN ((s.l.drop a).take 8)),.bool true],[]):=by
 have hnn:s.nil = false:=Sl.nn (i:=a) (by omega);have g0:¬ (a:Int) < 0:=by omega
 have g1:¬ (s.l.length:Int) < (a:Int):=by omega
 have hw:IntKind.i64.wrap ((s.l.length:Int) - (a:Int)) = (s.l.length:Int) - (a:Int):=by rw [wrap_i64];omega
 have g2:¬ (s.l.length:Int) - (a:Int) < 8:=by omega
 refine qq Tryz.func117 rfl ⟨rfl,rfl⟩ ?_;simp [Tryz.f117,hnn,g0,g1,hw,g2];refine Run.loopThen (fun (i:Nat) e H=>i≤8∧H = []∧qf e 0 = some (.vsl s.nil (qd s.l) s.l.length)∧qf e 1 = some (.int .i64 a)∧qf e 8 = some (.int .u64 (leN ((s.l.drop (a+i)).take (8 - i)):Nat))∧qf e 9 = some (.int .i64 ((i:Int) - 1))) (fun i=>i) 8 (by simp [leN,hnn]) ?_;rintro i e H ⟨hi,rfl,h0,h1,h8,h9⟩;cases i with
 | zero=>simp [h0,h1,h8,h9]
 | succ j =>
  have hj:(0:Int)≤(j:Int):=by omega
  have hwj:IntKind.i64.wrap ((a:Int)+(j:Int)) = ((a+j:Nat):Int):=by rw [wrap_i64] <;> omega
  have jX:IntKind.i64.wrap ((j:Int) - 1) = (j:Int) - 1:=by rw [wrap_i64];omega
  have qg:a+j < s.l.length:=by omega
  have e1:((j+1:Nat):Int) - 1 = (j:Int):=by omega
  rw [e1] at h9
  have hd:(s.l.drop (a+j)).take (8 - j) = s.l[a+j] :: (s.l.drop (a+(j+1))).take (8 - (j+1)):=by
   rw [List.drop_eq_getElem_cons qg,show 8 - j = (8 - (j+1))+1 by omega,List.take_succ_cons,Nat.add_assoc]
  have hn8:leN ((s.l.drop (a+(j+1))).take (8 - (j+1))) < 256 ^ 7:=by
   refine Nat.lt_of_lt_of_le (JX _) (Nat.pow_le_pow_right (by decide) ?_);rw [List.length_take];omega
  have hst:=qdt (leN ((s.l.drop (a+(j+1))).take (8 - (j+1)))) s.l[a+j].toNat s.l[a+j].toNat_lt hn8;have jW:IntKind.u64.wrap (s.l[a+j].toNat:Int) = (s.l[a+j].toNat:Int):=by rw [qK];have:=s.l[a+j].toNat_lt;omega
  have g1:(0:Int)≤(a:Int)+(j:Int):=by omega
  have g2:(a:Int)+(j:Int) < (s.l.length:Int):=by omega
  have g3:((a:Int)+(j:Int)).toNat = a+j:=by omega
  simp [h0,h1,h8,h9,hj,hwj,jX,jW,hnn,g1,g2,g3,zW qg,-Nat.reduceSubDiff];rw [hst];clear hn8 hst jW;exact ⟨j,by omega,by omega,by rw [hd,leN,Nat.mul_comm,Nat.add_comm],rfl⟩
theorem qmZ [MaxL] (s:Sl UInt8) (a:Nat) (ha:a≤s.l.length) (h:s.l.length < a+8) (_:s.l.length < 4611686018427387904) :
  call cx 117 [(.vsl s.nil (qd s.l) s.l.length),.int .i64 a,.int .i64 8] [] = some (.tup [.int .u64 0,.bool false],[]):=by
 have g0:¬ (a:Int) < 0:=by omega
 have g1:¬ (s.l.length:Int) < (a:Int):=by omega
 have hw:IntKind.i64.wrap ((s.l.length:Int) - (a:Int)) = (s.l.length:Int) - (a:Int):=by rw [wrap_i64];omega
 have g2:(s.l.length:Int) - (a:Int) < 8:=by omega
 refine qq Tryz.func117 rfl ⟨rfl,rfl⟩ ?_;simp [Tryz.f117,g0,g1,hw,g2]
def Zk (b:List UInt8):Pr × Int :=
 if qP 61 b 0 < 0 then (⟨[],[]⟩,20)
 else if kf (b.take (qP 61 b 0).toNat) = false then (⟨[],[]⟩,20)
 else if 256 < b.length - (qP 61 b 0).toNat - 1 then (⟨[],[]⟩,21)
 else (⟨b.take (qP 61 b 0).toNat,b.drop ((qP 61 b 0).toNat+1)⟩,0)
set_option maxHeartbeats 4000000 in
theorem qm4 [MaxL] (s:List UInt8) (hs:s.length < 1000000):call cx 180 [.vsl false (qd s) s.length] [] = some (.tup [.agg [.str (Zk s).1.name,.str (Zk s).1.value],.int .i64 (Zk s).2],[]):=by
 refine qq Tryz.func180 rfl ⟨rfl,rfl⟩ ?_;obtain ⟨r,hr⟩:∃ r,qP 61 s 0 = r:=⟨_,rfl⟩;simp [Tryz.f180];refine Run.loopThen (fun (i:Nat) e H'=>i≤s.length∧qP 61 (s.drop i) i = r∧H' = [some [.str [],.str []]]∧qf e 0 = some (.vsl false (qd s) s.length)∧qf e 2 = some (.optr 0 2 0)∧qf e 4 = some (.int .i64 i)) (fun i=>s.length - i) 0 ?_ ?_
 ·simpa using hr
 rintro i e H' ⟨h2,hR,rfl,k0,k2,k4⟩;by_cases qg:i < s.length
 ·have qk:(i:Int) < (s.length:Int):=by omega
  have hw:IntKind.i64.wrap ((i:Int)+1) = ((i+1:Nat):Int):=by rw [wrap_i64] <;> omega
  have hA:=zW qg;rw [List.drop_eq_getElem_cons qg,qP] at hR;generalize s[i] = c at *;by_cases hc:c = 61
  ·rw [if_pos hc] at hR;subst hc;have g2:(i:Int)≤(s.length:Int):=(by omega);have t1:List.take i (qd s) = qd (s.take i):=vK _ _;have t1l:(s.take i).length = i:=(by simp;omega);have t1b:vQ (qd (s.take i)) = some (s.take i):=Vz _;have t1t:List.take i (qd (s.take i)) = qd (s.take i):=List.take_of_length_le (by simp;omega);have hnm:=qgb (s.take i) (by omega)
   have hP:Zk s = if kf (s.take i) = false then (⟨[],[]⟩,20) else if 256 < s.length - i - 1 then (⟨[],[]⟩,21) else (⟨s.take i,s.drop (i+1)⟩,0):=by
    unfold Zk;rw [hr,← hR,if_neg (by omega)];rfl
   rw [hP];have w1:IntKind.i64.wrap ((s.length:Int) - (i:Int)) = (s.length:Int) - (i:Int):=(by rw [wrap_i64];omega);have w2:IntKind.i64.wrap ((s.length:Int) - (i:Int) - 1) = (s.length:Int) - (i:Int) - 1:=(by rw [wrap_i64];omega);cases hn:kf (s.take i) with
   | false =>
    rw [hn] at hnm;simp [k0,k2,k4,qk,hA,g2,t1,t1l,t1b,hnm]
   | true =>
    rw [hn] at hnm;by_cases hb:256 < s.length - i - 1
    ·have zb:(256:Int) < (s.length:Int) - (i:Int) - 1:=(by omega);simp [k0,k2,k4,qk,hA,g2,t1,t1l,t1b,hnm,w1,w2,hb,zb]
    ·have zb:¬ (256:Int) < (s.length:Int) - (i:Int) - 1:=(by omega);obtain ⟨j,hj⟩:∃ j,j = i+1:=⟨_,rfl⟩;rw [← hj] at hw;have g3:(j:Int)≤(s.length:Int):=(by omega);have g3n:j≤s.length:=(by omega);have g4:((s.length:Int) - (j:Int)).toNat = s.length - j:=by omega
     have t2:List.take (s.length - j) (List.drop j (qd s)) = qd (s.drop j):=by
      rw [Qy];exact List.take_of_length_le (by simp)
     have t2l:(s.drop j).length = s.length - j:=(by simp);have t2b:vQ (qd (s.drop j)) = some (s.drop j):=Vz _;have t2t:List.take (s.length - j) (qd (s.drop j)) = qd (s.drop j):=List.take_of_length_le (by simp);simp only [hb,if_false,Bool.true_eq_false,← hj];simp [k0,k2,k4,qk,hA,g2,t1,t1l,t1b,hnm,w1,w2,zb,hw,g3,t2,t2l,t2b]
  ·rw [if_neg hc] at hR
   have hc':¬ (c.toNat:Int) = 61:=by
    intro e;exact hc (UInt8.toNat_inj.1 (by show c.toNat = 61;omega))
   have vX:¬ c.toNat = 61:=(by omega);simp [k0,k2,k4,qk,hA,hw,hc'];exact ⟨i+1,by omega,by omega,hR,by omega⟩
 ·have qk:¬ (i:Int) < (s.length:Int):=by omega
  rw [List.drop_eq_nil_of_le (by omega),qP] at hR
  have hP:Zk s = (⟨[],[]⟩,20):=by
   unfold Zk;rw [hr,← hR,if_pos (by decide)]
  rw [hP];simp [k0,k2,k4,qk]
def Jf (b:List UInt8):It × Nat × Bool:=match kU b 0 [jv,jy,[]] with
 | some ([x,y,_],z)=>if qP 45 x 0 < 0 then (It.zero,0,false)
  else (⟨Jo y,true,((zK (x.take (qP 45 x 0).toNat)).getD 0:Nat),((zK (x.drop ((qP 45 x 0).toNat+1))).getD 0:Nat),Rec.zero⟩,z,(vq y).isSome && (zK (x.take (qP 45 x 0).toNat)).isSome && (zK (x.drop ((qP 45 x 0).toNat+1))).isSome)
 | _=>(It.zero,0,false)
theorem Yw [MaxL] (s:List UInt8) (hs:s.length < 1000000):call cx 114 [.str s] [] = some (.tup [.int .u64 ((zK s).getD 0:Nat),.bool (zK s).isSome],[]):=by
 have h:=qaR s hs;rw [h];cases zK s <;> rfl
def Yz (q:It × Nat × Bool):D:=.tup [.agg (Enc.cells q.1),.int .i64 (q.2.1:Nat),.bool q.2.2]
set_option maxHeartbeats 4000000 in
set_option maxRecDepth 8000 in
theorem qnd [MaxL] (s:Sl UInt8) (hs:s.l.length < 1000000):call cx 151 [(.vsl s.nil (qd s.l) s.l.length)] [] = some (Yz (Jf s.l),[]):=by
 have hl:=qgg s hs [jv,jy,[]] (by intro f hf;simp only [List.mem_cons,List.not_mem_nil,or_false] at hf;rcases hf with rfl | rfl | rfl <;> decide) (by decide) (by decide);replace hl:call cx 177 [(.vsl s.nil (qd s.l) s.l.length),.vsl false [.str [95,95,71,65,80,61],.str [95,95,83,69,81,78,85,77,95,73,68,61],.str []] 3] [] = _:=hl;unfold Jf Yz;refine qq Tryz.func151 rfl ⟨rfl,rfl⟩ ?_;cases hL:kU s.l 0 [jv,jy,[]] with
 | none =>
  rw [hL] at hl;simp only at hl;simp [Tryz.f151,hl];rfl
 | some q =>
  obtain ⟨l,z⟩:=q;rw [hL] at hl;obtain ⟨z1,z2,z3⟩:=YI (Nat.zero_le _) hL
  match l,z2,z3,hl with
  | [x,y,w],_,z3,hl =>
   have hx:=z3 x (by simp);have hy:=z3 y (by simp);simp only at hl;replace hl:call cx 177 [(.vsl s.nil (qd s.l) s.l.length),.vsl false [.str [95,95,71,65,80,61],.str [95,95,83,69,81,78,85,77,95,73,68,61],.str []] 3] [] = some (.tup [.vsl false [.str x,.str y,.str w] 3,.int .i64 z,.bool true],[]):=hl;have kl:=qgn y (by omega);replace kl:call cx 178 [.str y] [] = some (.tup [.agg (qd (Jo y).l),.bool (vq y).isSome],[]):=kl;have hq:=(Jo y).h;simp only;generalize Jo y = q at *;generalize (vq y).isSome = ob at *;have hq16:List.take 16 (qd q.l) = qd q.l:=List.take_of_length_le (by simp);have hq39:List.take 39 (qd q.l) = qd q.l:=List.take_of_length_le (by simp);have z16:qd ID.zero.l = [.int .u8 0,.int .u8 0,.int .u8 0,.int .u8 0,.int .u8 0,.int .u8 0,.int .u8 0,.int .u8 0,.int .u8 0,.int .u8 0,.int .u8 0,.int .u8 0,.int .u8 0,.int .u8 0,.int .u8 0,.int .u8 0]:=rfl;obtain ⟨r,hr⟩:∃ r,qP 45 x 0 = r:=⟨_,rfl⟩;rw [hr];simp [Tryz.f151,hl,kl,hq,hq16]
   refine Run.loopThen (fun (i:Nat) e H'=>i≤x.length∧qP 45 (x.drop i) i = r∧H' = [some (Enc.cells It.zero),some (qd q.l ++ .bool true :: (Enc.cells It.zero).drop 17),some (qd q.l)] ∧
     qf e 2 = some (.optr 0 39 0)∧qf e 5 = some (.vsl false [.str x,.str y,.str w] 3)∧qf e 6 = some (.int .i64 z)∧qf e 8 = some (.optr 1 39 0)∧qf e 10 = some (.bool ob)∧qf e 11 = some (.int .i64 i)) (fun i=>x.length - i) 0 ?_ ?_
   ·refine ⟨by omega,by simpa using hr,rfl,by simp,by simp,by simp,by simp,by simp,by simp⟩
   rintro i e H' ⟨h2,hR,rfl,k2,k5,k6,k8,k10,k11⟩;by_cases qg:i < x.length
   ·have qk:(i:Int) < (x.length:Int):=(by omega);have hw:IntKind.i64.wrap ((i:Int)+1) = ((i+1:Nat):Int):=(by rw [wrap_i64] <;> omega);have hxi:x[i]? = some x[i]:=List.getElem?_eq_getElem qg;rw [List.drop_eq_getElem_cons qg,qP] at hR;generalize x[i] = c at *;by_cases hc:c = 45
    ·rw [if_pos hc] at hR;subst hc;have hneg:¬ r < 0:=(by omega);have hrn:r.toNat = i:=(by omega);have g2:(i:Int)≤(x.length:Int):=(by omega);have n1:=Yw (x.take i) (by simp;omega);have n2:=Yw (x.drop (i+1)) (by simp;omega);obtain ⟨j,hj⟩:∃ j,j = i+1:=⟨_,rfl⟩;rw [← hj] at hw n2;have g3:(j:Int)≤(x.length:Int):=(by omega);have g3n:j≤x.length:=(by omega);have g4:((x.length:Int) - (j:Int)).toNat = x.length - j:=(by omega);have t2:List.take (x.length - j) (List.drop j x) = List.drop j x:=List.take_of_length_le (by simp);simp only [hneg,if_false,hrn,← hj];generalize (zK (List.take i x)).getD 0 = v1 at *;generalize (zK (List.take i x)).isSome = b1 at *;generalize (zK (List.drop j x)).getD 0 = v2 at *;generalize (zK (List.drop j x)).isSome = b2 at *;cases ob <;> cases b1 <;> cases b2 <;> simp [k2,k5,k6,k8,k10,k11,qk,hxi,hw,g2,g3,t2,n1,n2,It.cells,It.zero,Rec.zero,z16,hq,hq39,List.take_append,List.drop_append,zk]
    ·rw [if_neg hc] at hR
     have hc':¬ (c.toNat:Int) = 45:=by
      intro e;exact hc (UInt8.toNat_inj.1 (by show c.toNat = 45;omega))
     have vX:¬ c.toNat = 45:=(by omega);simp [k2,k5,k6,k8,k10,k11,qk,hxi,hw,hc'];exact ⟨i+1,by omega,by omega,hR,by omega⟩
   ·have qk:¬ (i:Int) < (x.length:Int):=(by omega);rw [List.drop_eq_nil_of_le (by omega),qP] at hR;have hneg:r < 0:=(by omega);simp only [hneg,if_true];simp [k2,k5,k6,k8,k10,k11,qk];rfl
def Qw (b:List UInt8):Nat→Nat→Option (List Pr × Nat)
 | 0,_=>none
 | n+1,a=>match ZB (b.drop a) with
  | none=>none
  | some (t,k)=>if t = [] then some ([],a+k)
   else if (Zk t).2 = 0 then match Qw b n (a+k) with
    | none=>none
    | some (l,z)=>some ((Zk t).1 :: l,z)
   else if b.length < a+k+8 then none
   else if 256 < leN ((b.drop (a+k)).take 8)∨b.length - (a+k) - 8≤leN ((b.drop (a+k)).take 8)∨b.getD (a+k+8+leN ((b.drop (a+k)).take 8)) 0≠10 then none
   else match Qw b n (a+k+8+leN ((b.drop (a+k)).take 8)+1) with
    | none=>none
    | some (l,z)=>some (⟨t,(b.drop (a+k+8)).take (leN ((b.drop (a+k)).take 8))⟩ :: l,z)
def Yu:List (List UInt8):=[J4,Zy,Zz,Zx,jy,QN]
def V7 (b:List UInt8):It × Nat × Bool:=match kU b 0 Yu with
 | some ([_,x1,x2,x3,x4,x5],z) =>
  if (zK x1).isSome && (zK x2).isSome && (zK x3).isSome && (vq x4).isSome && (vq x5).isSome then
   match Qw b 17 z with
   | none=>(It.zero,0,false)
   | some (l,z')=>(⟨Jo x4,false,0,0,⟨((zK x3).getD 0:Nat),((zK x1).getD 0:Nat),((zK x2).getD 0:Nat),Jo x5,Q7 l⟩⟩,z',true)
  else (It.zero,0,false)
 | _=>(It.zero,0,false)
theorem qgm [MaxL] (s:List UInt8) (hs:s.length < 1000000):call cx 178 [.str s] [] = some (.tup [.agg (qd (Jo s).l),.bool (vq s).isSome],[]):=qgn s hs
theorem ql8 {X:List D} (hX:idFree.idFreeL X = true) {fs:List Pr} {i n k:Nat} (m:Nat) (hn:fs.length * 2 = n) (hk:fs.length = k) {H:qi} (hg:(H[i]?).getD none = some (qh fs)):jg H (m+2) (.agg (X ++ [.osl i n 0 k 2])) = some (.agg (X ++ [.vsl false (qh fs) k]),[i]):=by
 have h8:jg H (m+1) (.osl i n 0 k 2) = some (.vsl false (qh fs) k,[i]):=by
  rw [jg,if_neg (by simp [idFree])];have hl:(qh fs).length = n:=by simp [hn]
  have h0:0+k * 2≤n:=by omega
  simp only [qo,hg];rw [if_pos ⟨hl,h0⟩,if_pos (by simp),List.drop_zero,List.take_of_length_le (by simp;omega)]
 rw [jg,if_neg (by simp [idFree])];simp only [qaE,qaD hX,jU,h8];rfl
theorem ql7 {X:List D} (hX:idFree.idFreeL X = true) {fs:List Pr} {i n k:Nat} (hn:fs.length * 2 = n) (hk:fs.length = k) {H:qi} (hg:(H[i]?).getD none = some (qh fs)) (z:Int) (b:Bool):jg H 9 (.tup [.agg (X ++ [.osl i n 0 k 2]),.int .i64 z,.bool b]) = some (.tup [.agg (X ++ [.vsl false (qh fs) k]),.int .i64 z,.bool b],[i]):=by
 have h1:=ql8 hX 6 hn hk hg;rw [jg,if_neg (by simp [idFree])];have h2:jg H 8 (.int .i64 z) = some (.int .i64 z,[]):=qcz rfl;have h3:jg H 8 (.bool b) = some (.bool b,[]):=qcz rfl;simp only [jU,h1,h2,h3];rfl
def qwE (X:List D) (fs:List Pr) (H:qi):Prop :=
 (fs = []∧H = [some (Enc.cells It.zero),some (X ++ [.vsl true [] 0]),some [.bool true,.bool true,.bool true,.bool true,.bool true]]) ∨
 (fs≠[]∧∃ (n k:Nat) (c3:List UInt8) (t u:Pr),n = fs.length * 2∧k = fs.length ∧
  (H = [some (Enc.cells It.zero),some (X ++ [.osl 6 n 0 k 2]),some [.bool true,.bool true,.bool true,.bool true,.bool true],some (qd c3),some [.str t.name,.str t.value],some [.str u.name,.str u.value],some (qh fs)] ∨
  (∃ (c:List UInt8) (v w:Option (List D)),H = [some (Enc.cells It.zero),some (X ++ [.osl 6 n 0 k 2]),some [.bool true,.bool true,.bool true,.bool true,.bool true],some (qd c3),some [.str t.name,.str t.value],some [.str u.name,.str u.value],some (qh fs),some (qd c),v,w]) ∨
  (∃ (c:List UInt8) (v w y:Option (List D)),H = [some (Enc.cells It.zero),some (X ++ [.osl 6 n 0 k 2]),some [.bool true,.bool true,.bool true,.bool true,.bool true],some (qd c3),some [.str t.name,.str t.value],some [.str u.name,.str u.value],some (qh fs),some (qd c),v,w,y])))
theorem qcM (b:List UInt8):∀ (n a:Nat) (l:List Pr) (z:Nat),a≤b.length→Qw b n a = some (l,z)→z≤b.length∧l.length≤n∧∀ p∈l,p.name.length≤b.length∧p.value.length≤b.length
 | 0,a,l,z,_,h=>by cases h
 | n+1,a,l,z,ha,h=>by
  rw [Qw] at h;cases hr:ZB (b.drop a) with
  | none=>rw [hr] at h;cases h
  | some q =>
   obtain ⟨t,k⟩:=q;rw [hr] at h;obtain ⟨k1,k2⟩:=qaT hr;simp only [List.length_drop] at k1;simp only at h;split at h
   ·injection h with h;injection h with h1 h2;subst h1;subst h2;exact ⟨by omega,by simp,fun p hp=>by cases hp⟩
   ·split at h
    ·cases hl:Qw b n (a+k) with
     | none=>rw [hl] at h;cases h
     | some q =>
      obtain ⟨l',z'⟩:=q;rw [hl] at h;injection h with h;injection h with h1 h2;subst h1;subst h2;obtain ⟨q1,q2,q3⟩:=qcM b n (a+k) l' z' (by omega) hl;refine ⟨q1,by simpa using q2,fun p hp=>?_⟩;rcases List.mem_cons.1 hp with rfl | hp
      ·unfold Zk;split
       ·exact ⟨Nat.zero_le _,Nat.zero_le _⟩
       ·split
        ·exact ⟨Nat.zero_le _,Nat.zero_le _⟩
        ·split
         ·exact ⟨Nat.zero_le _,Nat.zero_le _⟩
         ·constructor
          ·simp;omega
          ·simp;omega
      ·exact q3 p hp
    ·split at h
     ·cases h
     ·split at h
      ·cases h
      ·rename_i zE;simp only [not_or,Nat.not_lt,Nat.not_le] at zE;cases hl:Qw b n (a+k+8+leN ((b.drop (a+k)).take 8)+1) with
       | none=>rw [hl] at h;cases h
       | some q =>
        obtain ⟨l',z'⟩:=q;rw [hl] at h;injection h with h;injection h with h1 h2;subst h1;subst h2;obtain ⟨q1,q2,q3⟩:=qcM b n _ l' z' (by omega) hl;refine ⟨q1,by simpa using q2,fun p hp=>?_⟩;rcases List.mem_cons.1 hp with rfl | hp
        ·constructor
         ·show t.length≤_;omega
         ·simp;omega
        ·exact q3 p hp
set_option maxHeartbeats 4000000 in
set_option maxRecDepth 8000 in
theorem qnr [MaxL] (s:Sl UInt8) (hs:s.l.length < 1000000):call cx 152 [(.vsl s.nil (qd s.l) s.l.length)] [] = some (Yz (V7 s.l),[]):=by
 have hl:=qgg s hs Yu (by intro f hf;simp only [Yu,List.mem_cons,List.not_mem_nil,or_false] at hf;rcases hf with rfl | rfl | rfl | rfl | rfl | rfl <;> decide) (by decide) (by decide);replace hl:call cx 177 [(.vsl s.nil (qd s.l) s.l.length),.vsl false [.str [95,95,67,85,82,83,79,82,61],.str [95,95,82,69,65,76,84,73,77,69,95,84,73,77,69,83,84,65,77,80,61],.str [95,95,77,79,78,79,84,79,78,73,67,95,84,73,77,69,83,84,65,77,80,61],.str [95,95,83,69,81,78,85,77,61],.str [95,95,83,69,81,78,85,77,95,73,68,61],.str [95,66,79,79,84,95,73,68,61]] 6] [] = _:=hl;have z16:qd ID.zero.l = [.int .u8 0,.int .u8 0,.int .u8 0,.int .u8 0,.int .u8 0,.int .u8 0,.int .u8 0,.int .u8 0,.int .u8 0,.int .u8 0,.int .u8 0,.int .u8 0,.int .u8 0,.int .u8 0,.int .u8 0,.int .u8 0]:=rfl;unfold V7 Yz;refine qq Tryz.func152 rfl ⟨rfl,rfl⟩ ?_;cases hL:kU s.l 0 Yu with
 | none =>
  rw [hL] at hl;simp only at hl;simp [Tryz.f152,hl];rfl
 | some q =>
  obtain ⟨l,z⟩:=q;rw [hL] at hl;obtain ⟨z1,z2,z3⟩:=YI (Nat.zero_le _) hL
  match l,z2,z3,hl with
  | [x0,x1,x2,x3,x4,x5],_,z3,hl =>
   have hx1:=z3 x1 (by simp);have hx2:=z3 x2 (by simp);have hx3:=z3 x3 (by simp);have hx4:=z3 x4 (by simp);have hx5:=z3 x5 (by simp);simp only at hl;replace hl:call cx 177 [(.vsl s.nil (qd s.l) s.l.length),.vsl false [.str [95,95,67,85,82,83,79,82,61],.str [95,95,82,69,65,76,84,73,77,69,95,84,73,77,69,83,84,65,77,80,61],.str [95,95,77,79,78,79,84,79,78,73,67,95,84,73,77,69,83,84,65,77,80,61],.str [95,95,83,69,81,78,85,77,61],.str [95,95,83,69,81,78,85,77,95,73,68,61],.str [95,66,79,79,84,95,73,68,61]] 6] [] = some (.tup [.vsl false [.str x0,.str x1,.str x2,.str x3,.str x4,.str x5] 6,.int .i64 z,.bool true],[]):=hl;have n1:=Yw x1 (by omega);have n2:=Yw x2 (by omega);have n3:=Yw x3 (by omega);have i4:=qgm x4 (by omega);have i5:=qgm x5 (by omega);have hq:=(Jo x4).h;have hb:=(Jo x5).h;simp only;generalize Jo x4 = q at *;generalize Jo x5 = bt at *;generalize (zK x1).getD 0 = rl at *;generalize (zK x2).getD 0 = mn at *;generalize (zK x3).getD 0 = sq at *;generalize (zK x1).isSome = b1 at *;generalize (zK x2).isSome = b2 at *;generalize (zK x3).isSome = b3 at *;generalize (vq x4).isSome = b4 at *;generalize (vq x5).isSome = b5 at *;have hq16:List.take 16 (qd q.l) = qd q.l:=List.take_of_length_le (by simp);have hb16:List.take 16 (qd bt.l) = qd bt.l:=List.take_of_length_le (by simp);by_cases jE:(b1 && b2 && b3 && b4 && b5) = true
   ·simp only [Bool.and_eq_true] at jE;obtain ⟨⟨⟨⟨rfl,rfl⟩,rfl⟩,rfl⟩,rfl⟩:=jE;simp only [Bool.and_self,if_true];obtain ⟨R,hR⟩:∃ R,Qw s.l 17 z = R:=⟨_,rfl⟩;rw [hR];have jj:=qji q sq rl mn bt;have hXf:=qjj q sq rl mn bt;have Qm:∀ l:List Pr,Enc.cells (⟨q,false,0,0,⟨(sq:Nat),(rl:Nat),(mn:Nat),bt,Q7 l⟩⟩:It) = J8 q sq rl mn bt ++ [(.vsl (Q7 l).nil (qh (Q7 l).l) (Q7 l).l.length)]:=fun l=>by rw [It.cells];simp [J8]
    obtain ⟨X,hX⟩:∃ X,X = J8 q sq rl mn bt:=⟨_,rfl⟩;simp [Tryz.f152,hl,n1,n2,n3,i4,i5,hq,hb,List.take_append,List.drop_append,zk];clear n1 n2 n3 i4 i5 hl;rw [← hX] at jj hXf;simp only [← hX] at Qm;have hXd:List.drop 38 X = []:=List.drop_eq_nil_of_le (by omega);have hXd9:List.drop 39 X = []:=List.drop_eq_nil_of_le (by omega);have hXt:List.take 38 X = X:=List.take_of_length_le (by omega);have hXt9:List.take 39 X = X:=List.take_of_length_le (by omega)
    have vY:∀ n,(∀ x,x∈X→closed n x = true) = True:=fun n=>eq_true (by
     have:=ZJ n X hXf;rw [KC] at this;exact List.all_eq_true.1 this)
    have hzc:∀ n,(∀ x,x∈Enc.cells It.zero→closed n x = true) = True:=fun n=>by simp
    have hzt:List.drop 39 (Enc.cells It.zero) = []:=List.drop_eq_nil_of_le (by simp)
    refine Run.loopThen (fun (q:Nat × Nat × List Pr) e H'=>q.1≤17∧q.2.1≤s.l.length∧q.2.2.length = q.1∧(match Qw s.l (17 - q.1) q.2.1 with | none=>none | some (l,z)=>some (q.2.2 ++ l,z)) = R∧qwE X q.2.2 H' ∧
      qf e 0 = some (.vsl s.nil (qd s.l) s.l.length)∧qf e 2 = some (.optr 0 39 0)∧qf e 6 = some (.int .i64 (q.2.1:Nat))∧qf e 8 = some (.optr 1 39 0)∧qf e 10 = some (.int .i64 (q.1:Nat))) (fun q=>17 - q.1) (0,z,[]) ?_ ?_
    ·refine ⟨by simp,z1,rfl,?_,.inl ⟨rfl,?_⟩,by simp,by simp,by simp,by simp,by simp⟩
     ·show (match Qw s.l 17 z with | none=>none | some (l,z)=>some ([] ++ l,z)) = R;rw [hR];cases R <;> rfl
     ·rw [hX];simp [J8];rfl
    clear hX hR hL z1 z3;rintro ⟨n,a,fs⟩ e H' ⟨hn17,ha,hfn,hG,hH,k0,k2,k6,k8,k10⟩;simp only at hn17 ha hfn hG hH k6 k10;by_cases hle:n≤16
    ·have jh:(n:Int)≤16:=(by omega);have Qj:IntKind.i64.wrap ((n:Int)+1) = ((n+1:Nat):Int):=(by rw [wrap_i64] <;> omega);have hfu:17 - n = (16 - n)+1:=(by omega);rw [hfu,Qw] at hG;have zJ:=qgh s hs a ha;cases hr:ZB (s.l.drop a) with
     | none =>
      rw [hr] at hG zJ;simp only at hG zJ;subst hG;rcases hH with ⟨rfl,rfl⟩ | ⟨qr,m,k,c3,t,u,hm,hk,rfl | ⟨c,v,w,rfl⟩ | ⟨c,v,w,y,rfl⟩⟩
      all_goals
       simp [k0,k2,k6,k8,k10,jh,zJ,vY,hzt];rfl
     | some q =>
      obtain ⟨t,k⟩:=q;rw [hr] at hG zJ;simp only at hG zJ;obtain ⟨r1,r2⟩:=qaT hr;simp only [List.length_drop] at r1;obtain ⟨j,hj⟩:∃ j,j = a+k:=⟨_,rfl⟩;rw [← hj] at hG zJ;by_cases ht:t = []
      ·rw [if_pos ht] at hG;subst hG;subst ht;rcases hH with ⟨rfl,rfl⟩ | ⟨qr,m,k,c3,t,u,hm,hk,rfl | ⟨c,v,w,rfl⟩ | ⟨c,v,w,y,rfl⟩⟩
       ·simp [k0,k2,k6,k8,k10,jh,zJ,jj,hXt9,vY,hXf,List.take_append,List.drop_append,hzt];rw [Qm];rfl
       all_goals
        have hst:=fun {i:Nat} {H:qi} (hg:(H[i]?).getD none = some (qh fs))=>ql7 hXf hm.symm hk.symm hg (j:Int) true;simp [-jg,k0,k2,k6,k8,k10,jh,zJ,hst,jj,hXt9,vY,hXf,List.take_append,List.drop_append,hzt];rw [Qm];simp [Q7,qr,hk]
      ·rw [if_neg ht] at hG;have v7:=qm4 t (by omega);have htt:List.take t.length (qd t) = qd t:=List.take_of_length_le (by simp);generalize (Zk t).1 = p at *;generalize (Zk t).2 = ec at *;by_cases hec:ec = 0
       ·rw [if_pos hec] at hG;subst hec
        have hG2:∀ F:List Pr,F = fs ++ [p]→(match Qw s.l (17 - (n+1)) j with | none=>none | some (l,z)=>some (F ++ l,z)) = R:=by
         rintro F rfl;have e1:17 - (n+1) = 16 - n:=(by omega);rw [e1,← hG];cases Qw s.l (16 - n) j with
         | none=>rfl
         | some q=>simp
        rcases hH with ⟨rfl,rfl⟩ | ⟨qr,m,k',c3,u1,u2,hm,hk,rfl | ⟨c,v,w,rfl⟩ | ⟨c,v,w,y,rfl⟩⟩
        ·simp [k0,k2,k6,k8,k10,jh,zJ,htt,v7,ht,jj,hXd9,List.drop_append,qB];exact ⟨n+1,by omega,by omega,j,by omega,[p],by simp at hfn ⊢;omega,hG2 _ rfl,.inr ⟨by simp,2,1,t,p,p,rfl,rfl,.inl rfl⟩,by omega,Qj⟩
        all_goals
         have qR:fs.length = k':=hk.symm;have qV:k' * 2 = m:=(by omega);have zH:(k'+1) * 32≤140737488355328:=(by omega);have zj:k'+1≤140737488355328:=(by omega);have hm3:k'≤140737488355327:=by omega
        ·simp [k0,k2,k6,k8,k10,jh,zJ,htt,v7,ht,jj,hXd9,List.drop_append,qB,qR,qV,zH,zj];exact ⟨n+1,by omega,by omega,j,by omega,fs ++ [p],by simp;omega,hG2 _ rfl,.inr ⟨by simp,m+2,k'+1,c3,u1,u2,by simp;omega,by simp;omega,.inr (.inl ⟨t,some (Enc.cells (p:Pr)),some (Enc.cells (p:Pr)),by rw [QI];rfl⟩)⟩,by omega,Qj⟩
        ·simp [k0,k2,k6,k8,k10,jh,zJ,htt,v7,ht,jj,hXd9,vY,List.drop_append,qB,qR,qV,zH,zj];exact ⟨n+1,by omega,by omega,j,by omega,fs ++ [p],by simp;omega,hG2 _ rfl,.inr ⟨by simp,m+2,k'+1,c3,u1,u2,by simp;omega,by simp;omega,.inr (.inr ⟨c,some (qd t),some (Enc.cells (p:Pr)),some (Enc.cells (p:Pr)),by rw [QI];rfl⟩)⟩,by omega,Qj⟩
        ·simp [k0,k2,k6,k8,k10,jh,zJ,htt,v7,ht,jj,hXd9,vY,List.drop_append,qB,qR,qV,zH,zj];exact ⟨n+1,by omega,by omega,j,by omega,fs ++ [p],by simp;omega,hG2 _ rfl,.inr ⟨by simp,m+2,k'+1,c3,u1,u2,by simp;omega,by simp;omega,.inr (.inr ⟨c,some (qd t),some (Enc.cells (p:Pr)),some (Enc.cells (p:Pr)),by rw [QI];rfl⟩)⟩,by omega,Qj⟩
       ·rw [if_neg hec] at hG;have hec':¬ ec = 0:=hec;by_cases h8:s.l.length < j+8
        ·rw [if_pos h8] at hG;simp only at hG;subst hG;have qo:=qmZ s j (by omega) h8 (by omega);rcases hH with ⟨rfl,rfl⟩ | ⟨qr,m,k',c3,u1,u2,hm,hk,rfl | ⟨c,v,w,rfl⟩ | ⟨c,v,w,y,rfl⟩⟩
         all_goals
          simp [k0,k2,k6,k8,k10,jh,zJ,htt,v7,hec',ht,qo,vY,hzt];rfl
        ·rw [if_neg h8] at hG;have qo:=qgo s j (by omega) (by omega)
         have hN64:leN ((s.l.drop j).take 8) < 18446744073709551616:=by
          refine Nat.lt_of_lt_of_le (JX _) ?_;have hl8:((s.l.drop j).take 8).length≤8:=(by simp;omega);exact Nat.le_trans (Nat.pow_le_pow_right (by decide) hl8) (by decide)
         obtain ⟨N,hN⟩:∃ N,N = leN ((s.l.drop j).take 8):=⟨_,rfl⟩;rw [← hN] at hG qo hN64;have w1:IntKind.i64.wrap ((s.l.length:Int) - (j:Int)) = (s.l.length:Int) - (j:Int):=(by rw [wrap_i64];omega);have w2:IntKind.i64.wrap ((s.l.length:Int) - (j:Int) - 8) = (s.l.length:Int) - (j:Int) - 8:=(by rw [wrap_i64];omega);by_cases hb1:256 < N
         ·rw [if_pos (.inl hb1)] at hG;simp only at hG;subst hG;have hb1':(256:Int) < (N:Int):=(by omega);rcases hH with ⟨rfl,rfl⟩ | ⟨qr,m,k',c3,u1,u2,hm,hk,rfl | ⟨c,v,w,rfl⟩ | ⟨c,v,w,y,rfl⟩⟩
          all_goals
           simp [k0,k2,k6,k8,k10,jh,zJ,htt,v7,hec',ht,qo,hb1',vY,hzt];rfl
         ·have hb1':¬ (256:Int) < (N:Int):=(by omega);have wN:IntKind.i64.wrap (N:Int) = (N:Int):=(by rw [wrap_i64] <;> omega);by_cases zm:s.l.length - j - 8≤N
          ·rw [if_pos (.inr (.inl zm))] at hG;simp only at hG;subst hG;have hb2':(s.l.length:Int) - (j:Int) - 8≤(N:Int):=(by omega);rcases hH with ⟨rfl,rfl⟩ | ⟨qr,m,k',c3,u1,u2,hm,hk,rfl | ⟨c,v,w,rfl⟩ | ⟨c,v,w,y,rfl⟩⟩
           all_goals
            simp [k0,k2,k6,k8,k10,jh,zJ,htt,v7,hec',ht,qo,hb1',w1,w2,wN,hb2',vY,hzt];rfl
          ·have hb2':¬ (s.l.length:Int) - (j:Int) - 8≤(N:Int):=(by omega);obtain ⟨j8,hj8⟩:∃ j8,j8 = j+8:=⟨_,rfl⟩;obtain ⟨P,hP⟩:∃ P,P = j8+N:=⟨_,rfl⟩;rw [← hj8,← hP] at hG;have w3:IntKind.i64.wrap ((j:Int)+8) = (j8:Int):=(by rw [wrap_i64] <;> omega);have w4:IntKind.i64.wrap ((j8:Int)+(N:Int)) = (P:Int):=(by rw [wrap_i64] <;> omega);have hPl:P < s.l.length:=(by omega);have hPl':(P:Int) < (s.l.length:Int):=(by omega);have hPle:(P:Int)≤(s.l.length:Int):=(by omega);have hPle2:P≤s.l.length:=(by omega);have hnn:=Sl.nn hPl;rw [hnn] at zJ qo;have hA:=zW hPl;have hgd:s.l.getD P 0 = s.l[P]:=(by rw [List.getD,List.getElem?_eq_getElem hPl];rfl);rw [hgd] at hG;generalize s.l[P] = c10 at *;by_cases hb3:c10 = 10
           ·have zE:¬ (256 < N∨s.l.length - j - 8≤N∨c10≠10):=by
             rintro (h | h | h)
             ·exact hb1 h
             ·exact zm h
             ·exact h hb3
            rw [if_neg zE] at hG;subst hb3;obtain ⟨V,hV⟩:∃ V,V = (s.l.drop j8).take N:=⟨_,rfl⟩;rw [← hV] at hG;have hVl:V.length = N:=(by rw [hV];simp;omega);have g1:(j8:Int)≤(P:Int):=(by omega);have g1n:j8≤P:=(by omega);have g2:((P:Int) - (j8:Int)).toNat = N:=(by omega);have g3:P - j8 = N:=(by omega);have tv:List.take N (List.drop j8 (qd s.l)) = qd V:=(by rw [Qy,vK,← hV]);have tvb:vQ (qd V) = some V:=Vz _;have tvt:List.take N (qd V) = qd V:=List.take_of_length_le (by simp;omega);have w5:IntKind.i64.wrap ((P:Int)+1) = ((P+1:Nat):Int):=(by rw [wrap_i64] <;> omega);clear hN hV
            have hG2:∀ F:List Pr,F = fs ++ [⟨t,V⟩]→(match Qw s.l (17 - (n+1)) (P+1) with | none=>none | some (l,z)=>some (F ++ l,z)) = R:=by
             rintro F rfl;have e1:17 - (n+1) = 16 - n:=(by omega);rw [e1,← hG];cases Qw s.l (16 - n) (P+1) with
             | none=>rfl
             | some q=>simp
            rcases hH with ⟨rfl,rfl⟩ | ⟨qr,m,k',c3,u1,u2,hm,hk,rfl | ⟨c,v,w,rfl⟩ | ⟨c,v,w,y,rfl⟩⟩
            ·simp [k0,k2,k6,k8,k10,jh,zJ,htt,v7,ht,hec',qo,hb1',w1,w2,wN,hb2',w3,w4,w5,hPl',hPle,hnn,hA,g1,g3,tv,tvb,hVl,jj,hXd9,List.drop_append,qB];exact ⟨n+1,by omega,by omega,(P+1),by omega,[⟨t,V⟩],by simp at hfn ⊢;omega,hG2 _ rfl,.inr ⟨by simp,2,1,t,⟨t,V⟩,⟨t,V⟩,rfl,rfl,.inl rfl⟩,by omega,Qj⟩
            all_goals
             have qR:fs.length = k':=hk.symm;have qV:k' * 2 = m:=(by omega);have zH:(k'+1) * 32≤140737488355328:=(by omega);have zj:k'+1≤140737488355328:=(by omega);have hm3:k'≤140737488355327:=by omega
            ·simp [k0,k2,k6,k8,k10,jh,zJ,htt,v7,ht,hec',qo,hb1',w1,w2,wN,hb2',w3,w4,w5,hPl',hPle,hnn,hA,g1,g3,tv,tvb,hVl,jj,hXd9,List.drop_append,qB,qR,qV,zH,zj];exact ⟨n+1,by omega,by omega,(P+1),by omega,fs ++ [⟨t,V⟩],by simp;omega,hG2 _ rfl,.inr ⟨by simp,m+2,k'+1,c3,u1,u2,by simp;omega,by simp;omega,.inr (.inl ⟨t,some (Enc.cells (⟨t,V⟩:Pr)),some (Enc.cells (⟨t,V⟩:Pr)),by rw [QI];rfl⟩)⟩,by omega,Qj⟩
            ·simp [k0,k2,k6,k8,k10,jh,zJ,htt,v7,ht,hec',qo,hb1',w1,w2,wN,hb2',w3,w4,w5,hPl',hPle,hnn,hA,g1,g3,tv,tvb,hVl,jj,hXd9,vY,List.drop_append,qB,qR,qV,zH,zj];exact ⟨n+1,by omega,by omega,(P+1),by omega,fs ++ [⟨t,V⟩],by simp;omega,hG2 _ rfl,.inr ⟨by simp,m+2,k'+1,c3,u1,u2,by simp;omega,by simp;omega,.inr (.inr ⟨c,some (qd t),some (Enc.cells (⟨t,V⟩:Pr)),some (Enc.cells (⟨t,V⟩:Pr)),by rw [QI];rfl⟩)⟩,by omega,Qj⟩
            ·simp [k0,k2,k6,k8,k10,jh,zJ,htt,v7,ht,hec',qo,hb1',w1,w2,wN,hb2',w3,w4,w5,hPl',hPle,hnn,hA,g1,g3,tv,tvb,hVl,jj,hXd9,vY,List.drop_append,qB,qR,qV,zH,zj];exact ⟨n+1,by omega,by omega,(P+1),by omega,fs ++ [⟨t,V⟩],by simp;omega,hG2 _ rfl,.inr ⟨by simp,m+2,k'+1,c3,u1,u2,by simp;omega,by simp;omega,.inr (.inr ⟨c,some (qd t),some (Enc.cells (⟨t,V⟩:Pr)),some (Enc.cells (⟨t,V⟩:Pr)),by rw [QI];rfl⟩)⟩,by omega,Qj⟩
           ·have hb3':¬ (c10.toNat:Int) = 10:=by
             intro e;exact hb3 (UInt8.toNat_inj.1 (by show c10.toNat = 10;omega))
            have hb3n:¬ c10.toNat = 10:=(by omega);rw [if_pos (.inr (.inr hb3))] at hG;simp only at hG;subst hG;rcases hH with ⟨rfl,rfl⟩ | ⟨qr,m,k',c3,u1,u2,hm,hk,rfl | ⟨c,v,w,rfl⟩ | ⟨c,v,w,y,rfl⟩⟩
            all_goals
             simp [k0,k2,k6,k8,k10,jh,zJ,htt,v7,hec',ht,qo,hb1',w1,w2,wN,hb2',w3,w4,hPl',hnn,hA,hb3',vY,hzt];rfl
    ·have jh:¬ (n:Int)≤16:=(by omega);have hfu:17 - n = 0:=(by omega);rw [hfu,Qw] at hG;simp only at hG;subst hG;rcases hH with ⟨rfl,rfl⟩ | ⟨qr,m,k,c3,t,u,hm,hk,rfl | ⟨c,v,w,rfl⟩ | ⟨c,v,w,y,rfl⟩⟩
     all_goals
      simp [k0,k2,k6,k8,k10,jh,vY,hzt];rfl
   ·rw [if_neg jE];cases b1 with
    | false=>simp [Tryz.f152,hl,n1,n2,n3,i4,i5,hq,hb,List.take_append,List.drop_append,zk];rfl
    | true =>
     cases b2 with
     | false=>simp [Tryz.f152,hl,n1,n2,n3,i4,i5,hq,hb,List.take_append,List.drop_append,zk];rfl
     | true =>
      cases b3 with
      | false=>simp [Tryz.f152,hl,n1,n2,n3,i4,i5,hq,hb,List.take_append,List.drop_append,zk];rfl
      | true =>
       cases b4 with
       | false=>simp [Tryz.f152,hl,n1,n2,n3,i4,i5,hq,hb,List.take_append,List.drop_append,zk];rfl
       | true =>
        cases b5 with
        | false=>simp [Tryz.f152,hl,n1,n2,n3,i4,i5,hq,hb,List.take_append,List.drop_append,zk];rfl
        | true=>exact absurd rfl jE
theorem qfJ [MaxL] (it:It) (hi:it.Ok) (hb:∀ p∈it.rc.fields.l,kH p) (hn:it.rc.fields.l.length < 1000000):call cx 89 [.agg (Enc.cells it)] [] = some (KP it,[]):=by
 unfold KP zp;cases ho:zw it with
 | false=>exact qm0 it hi hb hn ho
 | true =>
  cases hg:it.gap with
  | true=>exact qmz it hi hg hb hn ho
  | false=>exact qmy it hi hg ho
theorem YD (s:List UInt8):qw ((zK s).getD 0:Nat):=by
 have:(zK s).getD 0 < 18446744073709551616:=by
  cases h:zK s with
  | none=>decide
  | some v =>
   unfold zK at h;split at h
   ·cases h
   ·exact XB 10 _ _ _ (by decide) h
 unfold qw;omega
theorem It.zero_ok:It.zero.Ok:=⟨V3,V3,Rec.zero_ok⟩
structure ReadQ (b:List UInt8) (q:It × Nat × Bool):Prop where
 ok:q.1.Ok
 bs:∀ p∈q.1.rc.fields.l,p.name.length≤b.length∧p.value.length≤b.length
 n:q.1.rc.fields.l.length≤17
 le:q.2.1≤b.length
theorem Y3 (b:List UInt8):ReadQ b (It.zero,0,false):=⟨It.zero_ok,fun p hp=>(by cases hp),Nat.zero_le _,Nat.zero_le _⟩
theorem qng (b:List UInt8):ReadQ b (Jf b):=by
 unfold Jf;split
 ·rename_i x y w z hL;obtain ⟨z1,-,-⟩:=YI (Nat.zero_le _) hL;split
  ·exact Y3 b
  ·exact ⟨⟨YD _,YD _,Rec.zero_ok⟩,fun p hp=>(by cases hp),Nat.zero_le _,z1⟩
 ·exact Y3 b
theorem qnt (b:List UInt8):ReadQ b (V7 b):=by
 unfold V7;split
 ·rename_i x0 x1 x2 x3 x4 x5 z hL;obtain ⟨z1,-,-⟩:=YI (Nat.zero_le _) hL;split
  ·cases hF:Qw b 17 z with
   | none=>exact Y3 b
   | some q =>
    obtain ⟨l,z'⟩:=q;obtain ⟨f1,f2,f3⟩:=qcM b 17 z l z' z1 hF;exact ⟨⟨V3,V3,YD _,YD _,YD _⟩,f3,f2,f1⟩
  ·exact Y3 b
 ·exact Y3 b
def Q9 (b:List UInt8):It × Nat × Bool:=if (Jf b).2.2 then Jf b else V7 b
theorem qcH (b:List UInt8):ReadQ b (Q9 b):=by
 unfold Q9;split
 ·exact qng b
 ·exact qnt b
def Ka (b:List UInt8):Bool:=(Q9 b).2.2 && (zw (Q9 b).1 && (zp (Q9 b).1 == b.take (Q9 b).2.1))
def qaQ (b:List UInt8):D:=if Ka b then .tup [.agg (Enc.cells (Q9 b).1),.int .i64 ((Q9 b).2.1:Nat),.int .i64 0] else .tup [.agg (Enc.cells It.zero),.int .i64 0,.int .i64 20]
set_option maxHeartbeats 4000000 in
set_option maxRecDepth 8000 in
theorem qmF [MaxL] (s:Sl UInt8) (hs:s.l.length < 1000000):call cx 118 [(.vsl s.nil (qd s.l) s.l.length)] [] = some (qaQ s.l,[]):=by
 have hg:=qnd s hs;have he:=qnr s hs;obtain ⟨q1,q2,q3,q4⟩:=qcH s.l
 have hb:∀ p∈(Q9 s.l).1.rc.fields.l,kH p:=fun p hp=>by
  have:=q2 p hp;exact ⟨by omega,by omega⟩
 have hr:=Yv (Q9 s.l).1 q1 hb (by omega);have ht:=qfJ (Q9 s.l).1 q1 hb (by omega);clear q1 q2 q3 hb;unfold qaQ Ka;have hS:Q9 s.l = if (Jf s.l).2.2 then Jf s.l else V7 s.l:=rfl;unfold Yz at hg he;unfold KP at ht;generalize Q9 s.l = q at *;obtain ⟨it,n,b⟩:=q;simp only at hr ht q4 ⊢;generalize Jf s.l = g at *;obtain ⟨gi,gn,gb⟩:=g;generalize V7 s.l = q at *;obtain ⟨ei,en,eb⟩:=q;simp only at hg he hS;have q4':(n:Int)≤(s.l.length:Int):=by omega
 have t1:List.take n (qd s.l) = qd (s.l.take n):=vK _ _;have t1l:(s.l.take n).length = n:=by simp;omega
 have t1b:vQ (qd (s.l.take n)) = some (s.l.take n):=Vz _;have t1t:List.take n (qd (s.l.take n)) = qd (s.l.take n):=List.take_of_length_le (by simp;omega);refine qq Tryz.func118 rfl ⟨rfl,rfl⟩ ?_;cases gb with
 | true =>
  simp only [if_true,Prod.mk.injEq] at hS;obtain ⟨rfl,rfl,rfl⟩:=hS;cases ho:zw it with
  | false =>
   rw [ho] at hr;simp [Tryz.f118,hg,hr];rfl
  | true =>
   rw [ho] at hr ht;simp only [if_true] at ht;generalize zp it = t at *;have tt:List.take t.length (qd t) = qd t:=List.take_of_length_le (by simp);have ttb:vQ (qd t) = some t:=Vz _;by_cases hEq:t = s.l.take n
   ·have zm:(t == s.l.take n) = true:=(by rw [hEq];simp);simp [Tryz.f118,hg,hr,ht,q4',t1,t1l,t1b,ttb,zm]
   ·have zm:(t == s.l.take n) = false:=beq_eq_false_iff_ne.2 hEq;simp [Tryz.f118,hg,hr,ht,q4',t1,t1l,t1b,ttb,zm];rfl
 | false =>
  simp only [Bool.false_eq_true,if_false,Prod.mk.injEq] at hS;obtain ⟨rfl,rfl,rfl⟩:=hS;cases b with
  | false =>
   simp [Tryz.f118,hg,he];rfl
  | true =>
   cases ho:zw it with
   | false =>
    rw [ho] at hr;simp [Tryz.f118,hg,he,hr];rfl
   | true =>
    rw [ho] at hr ht;simp only [if_true] at ht;generalize zp it = t at *;have tt:List.take t.length (qd t) = qd t:=List.take_of_length_le (by simp);have ttb:vQ (qd t) = some t:=Vz _;by_cases hEq:t = s.l.take n
    ·have zm:(t == s.l.take n) = true:=(by rw [hEq];simp);simp [Tryz.f118,hg,he,hr,ht,q4',t1,t1l,t1b,ttb,zm]
    ·have zm:(t == s.l.take n) = false:=beq_eq_false_iff_ne.2 hEq;simp [Tryz.f118,hg,he,hr,ht,q4',t1,t1l,t1b,ttb,zm];rfl
theorem qjn {k:Nat} (h:k < 10):JB (UInt8.ofNat (48+k)) = some k:=by
 have e:(UInt8.ofNat (48+k)).toNat = 48+k:=UInt8.toNat_ofNat_of_lt' (show 48+k < 256 by omega);unfold JB;rw [if_pos (by rw [e];omega),e];congr 1;omega
theorem qgF (b:Nat):∀ (l r:List UInt8) (n:Nat),jb b (l ++ r) n = match jb b l n with
  | none=>none
  | some m=>jb b r m
 | [],r,n=>by simp [jb]
 | c :: l,r,n=>by
  simp only [List.cons_append,jb];cases JB c with
  | none=>rfl
  | some d =>
   simp only;split
   ·rfl
   ·split
    ·rfl
    ·exact qgF b l r _
theorem qgD:∀ (f v:Nat),v < 10 ^ f→1≤f→v < 18446744073709551616→jb 10 (vH f v) 0 = some v
 | f+1,v,h,_,h64=>by
  rw [vH];by_cases hv:v < 10
  ·rw [if_pos hv];simp only [jb,qjn hv];rw [if_neg (by omega),if_neg (by omega)];congr 1;omega
  ·rw [if_neg hv,qgF]
   have hf:1≤f:=by
    rcases f with _ | f
    ·simp at h;omega
    ·omega
   rw [qgD f (v / 10) (by rw [Nat.pow_succ] at h;omega) hf (by omega)];simp only [jb,qjn (Nat.mod_lt v (by decide:10 > 0))];rw [if_neg (by omega),if_neg (by omega)];congr 1;omega
theorem qj3:∀ (f v:Nat),v < 10 ^ f→(vH f v).head? = some 48→v = 0∧(vH f v).length≤1
 | 0,v,_,h=>by simp [vH] at h
 | f+1,v,hv,h=>by
  rw [vH] at h ⊢;by_cases zM:v < 10
  ·rw [if_pos zM] at h ⊢;simp only [List.head?_cons,Option.some.injEq] at h;have:=congrArg UInt8.toNat h;rw [UInt8.toNat_ofNat_of_lt' (show 48+v < 256 by omega)] at this;simp at this;exact ⟨by omega,by simp⟩
  ·rw [if_neg zM] at h;exfalso;rcases f with _ | f
   ·simp at hv;omega
   ·have hp:v / 10 < 10 ^ (f+1):=by rw [Nat.pow_succ] at hv;omega
    have qr:vH (f+1) (v / 10)≠[]:=by
     rw [vH];split <;> simp
    have h':(vH (f+1) (v / 10)).head? = some 48:=by
     obtain ⟨a,l,vP⟩:=List.exists_cons_of_ne_nil qr;rw [vP] at h ⊢;exact h
    have:=(qj3 (f+1) (v / 10) hp h').1;omega
theorem Xe {v:Nat} (h:v < 18446744073709551616):zK (qz v) = some v:=by
 have h1:=qjx v;have h2:=vZ v;have h3:=qj3 20 v (Nat.lt_trans h (by decide));unfold zK;rw [if_neg]
 ·exact qgD 20 v (Nat.lt_trans h (by decide)) (by decide) h
 ·rintro (e | e | ⟨e1,e2⟩)
  ·rw [e] at h1;simp at h1
  ·omega
  ·have:=(h3 e1).2;unfold qz at e2;omega
theorem qj4:∀ (f v:Nat),∀ x∈vH f v,48≤x.toNat∧x.toNat≤57
 | 0,_,x,h=>by simp [vH] at h
 | f+1,v,x,h=>by
  rw [vH] at h;split at h
  ·rename_i hv;rw [List.mem_singleton.1 h,UInt8.toNat_ofNat_of_lt' (show 48+v < 256 by omega)];omega
  ·rcases List.mem_append.1 h with h | h
   ·exact qj4 f _ x h
   ·rw [List.mem_singleton.1 h,UInt8.toNat_ofNat_of_lt' (show 48+v % 10 < 256 by omega)];omega
theorem qjz (v:Nat):∀ x∈qz v,48≤x.toNat∧x.toNat≤57:=qj4 20 v
theorem qbD:∀ k,k < 16→48≤(jq k).toNat:=by decide
theorem YP:∀ (l:List UInt8),∀ x∈zf l,48≤x.toNat
 | [],x,h=>by simp [zf] at h
 | b :: l,x,h=>by
  rw [zf] at h;have hb:=b.toNat_lt;rcases List.mem_cons.1 h with rfl | h
  ·exact qbD _ (by omega)
  ·rcases List.mem_cons.1 h with rfl | h
   ·exact qbD _ (by omega)
   ·exact YP l x h
theorem YR:∀ (f v:Nat),∀ x∈kD f v,48≤x.toNat
 | 0,_,x,h=>by simp [kD] at h
 | f+1,v,x,h=>by
  rw [kD] at h;split at h
  ·rename_i hv;rw [List.mem_singleton.1 h];exact qbD _ hv
  ·rcases List.mem_append.1 h with h | h
   ·exact YR f _ x h
   ·rw [List.mem_singleton.1 h];exact qbD _ (Nat.mod_lt _ (by decide))
theorem qlR (c:Cur):∀ x∈ZA c,48≤x.toNat:=by
 intro x h;unfold ZA at h;simp only [List.mem_append] at h;have k:∀ l:List UInt8,(∀ y∈l,48≤y.toNat)→x∈l→48≤x.toNat:=fun l hl hx=>hl x hx;rcases h with h | h | h | h | h | h | h | h | h | h | h | h
 ·exact k kS (by decide) h
 ·exact YP _ x h
 ·exact k kI (by decide) h
 ·exact YR 16 _ x h
 ·exact k kB (by decide) h
 ·exact YP _ x h
 ·exact k kM (by decide) h
 ·exact YR 16 _ x h
 ·exact k kT (by decide) h
 ·exact YR 16 _ x h
 ·exact k kX (by decide) h
 ·exact YR 16 _ x h
theorem qbl {x c:UInt8} (h:c.toNat < x.toNat):x≠c:=by rintro rfl;omega
theorem qbk {l:List UInt8} (h:∀ x∈l,48≤x.toNat):∀ x∈l,x≠10:=fun x hx=>qbl (by have:=h x hx;show 10 < x.toNat;omega)
theorem JU {a b:List UInt8} (ha:∀ x∈a,x≠10) (hb:∀ x∈b,x≠10):∀ x∈a ++ b,x≠10:=fun x hx=>(List.mem_append.1 hx).elim (ha x) (hb x)
theorem qb6 (c:UInt8):∀ (A B:List UInt8) (n:Nat),(∀ x∈A,x≠c)→qP c (A ++ c :: B) n = ((n+A.length:Nat):Int)
 | [],B,n,_=>by simp [qP]
 | x :: A,B,n,h=>by
  rw [List.cons_append,qP,if_neg (h x (by simp)),qb6 c A B (n+1) fun y hy=>h y (by simp [hy])];simp;omega
theorem qhZ (c:UInt8):∀ (A:List UInt8) (n:Nat),(∀ x∈A,x≠c)→qP c A n = -1
 | [],n,_=>by simp [qP]
 | x :: A,n,h=>by rw [qP,if_neg (h x (by simp)),qhZ c A (n+1) fun y hy=>h y (by simp [hy])]
theorem qes (c:UInt8) {A:List UInt8} (h:∀ x∈A,x≠c) (B:List UInt8):jt [c] (A ++ c :: B) = (A,B,true):=by
 have h1:=qhU c A B 0 h;rw [Nat.zero_add] at h1;unfold jt;rw [h1,if_neg (by omega)];have e:((A.length:Nat):Int).toNat = A.length:=by omega
 rw [e];simp [List.drop_append]
theorem Kt {A:List UInt8} (h:∀ x∈A,x≠10) (B:List UInt8):jB (A ++ 10 :: B) = A:=by unfold jB;rw [qes 10 h]
theorem Ks {A:List UInt8} (h:∀ x∈A,x≠10) (B:List UInt8):zt (A ++ 10 :: B) = B:=by unfold zt;rw [qes 10 h]
theorem Yx {A:List UInt8} (h:∀ x∈A,x≠10) (B:List UInt8):ZB (A ++ 10 :: B) = some (A,A.length+1):=by
 have h1:=qb6 10 A B 0 h;rw [Nat.zero_add] at h1;unfold ZB;rw [h1,if_neg (by omega)];have e:((A.length:Nat):Int).toNat = A.length:=by omega
 rw [e];simp
theorem qdb (p x:List UInt8):pre p (p ++ x) = true:=by unfold pre;simp
theorem KO (p x:List UInt8):jF p (p ++ x) = x:=by unfold jF;rw [if_pos (qdb p x)];simp
theorem Ki {v:Nat} (h:v < 18446744073709551616):pu 10 (qz v) = some v:=by
 have hn:=Xe h;have hp:=qjx v;unfold zK at hn;split at hn
 ·cases hn
 ·unfold pu;rw [if_neg (by intro e;rw [e] at hp;simp at hp)];exact hn
theorem qjp (A B:List UInt8):(A ++ 10 :: B).drop (A.length+1) = B:=by
 rw [List.drop_append];simp
theorem VE {b B x f:List UInt8} {a:Nat} {fs:List (List UInt8)} (hb:b.drop a = (f ++ x) ++ 10 :: B) (zM:∀ y∈f ++ x,y≠10) {l:List (List UInt8)} {z:Nat} (h:kU b (a+((f ++ x).length+1)) fs = some (l,z)) :
  kU b a (f :: fs) = some (x :: l,z):=by
 rw [kU,hb,Yx zM];simp only [qdb,if_true,h];simp
theorem VL {b A B:List UInt8} {a:Nat} (hb:b.drop a = A ++ 10 :: B):b.drop (a+(A.length+1)) = B:=by
 rw [← List.drop_drop,hb,qjp]
theorem qds {n:List UInt8} (h:kf n = true):n≠[]∧n.length≤64∧∀ x∈n,48≤x.toNat∧x≠61:=by
 unfold kf at h;split at h
 ·cases h
 ·rename_i c l;simp only [Bool.and_eq_true,decide_eq_true_eq,List.all_eq_true] at h;refine ⟨by simp,h.1.1,fun x hx=>?_⟩;have:=h.2 x hx;unfold Qz at this;simp only [Bool.or_eq_true,Bool.and_eq_true,decide_eq_true_eq] at this;refine ⟨by omega,?_⟩;rintro rfl;have e:(61:UInt8).toNat = 61:=rfl;rw [e] at this;omega
theorem qdf {v:List UInt8} (h:JP v = true):∀ x∈v,x≠10:=by
 intro x hx;unfold JP at h;have:=List.all_eq_true.1 h x hx;unfold QL at this;rintro rfl;revert this;decide
theorem qgJ {p:Pr} (h:ke p = true):kf p.name = true∧p.value.length≤256:=by
 unfold ke at h;simp only [Bool.and_eq_true,decide_eq_true_eq] at h;exact h
theorem qkq:∀ (A B:List UInt8) (c:UInt8) (n:Nat),(∀ x∈A,x≠61∧x≠10)→c = 61∨c = 10→zG (A ++ c :: B) n = ((n+A.length:Nat):Int)
 | [],B,c,n,_,hc=>by simp [zG,hc]
 | x :: A,B,c,n,h,hc=>by
  have hx:=h x (by simp);rw [List.cons_append,zG,if_neg (by rintro (e | e);exact hx.1 e;exact hx.2 e),qkq A B c (n+1) (fun y hy=>h y (by simp [hy])) hc];simp;omega
theorem qpz (v:Nat) (hv:v < 18446744073709551616) (R:List UInt8):kV (qC 8 v ++ R) 0 8 = some v:=by
 have hl:=JY 8 v;unfold kV;rw [if_pos ⟨by decide,by decide,by simp [hl];omega⟩]
 have e:((qC 8 v ++ R).drop (0:Int).toNat).take (8:Int).toNat = qC 8 v:=by
  show ((qC 8 v ++ R).drop 0).take 8 = _;rw [List.drop_zero,List.take_left' hl]
 rw [e,qd7,Nat.mod_eq_of_lt (by simpa using hv)]
theorem qog {p:Pr} (h:ke p = true) (R:List UInt8):kw (kO p ++ R) = some (p,R):=by
 obtain ⟨hn,hv⟩:=qgJ h;obtain ⟨n0,n1,n2⟩:=qds hn;have qr:∀ x∈p.name,x≠61∧x≠10:=fun x hx=>⟨(n2 x hx).2,qbl (by have:=(n2 x hx).1;show 10 < x.toNat;omega)⟩
 have vA:1≤p.name.length:=by
  cases hc:p.name with
  | nil=>exact absurd hc n0
  | cons=>simp
 have gen:∀ (c:UInt8) (T:List UInt8),c = 61∨c = 10→kw (p.name ++ c :: T) = if c = 61 then some (⟨p.name,jB T⟩,zt T) else match kV T 0 8 with
   | none=>none
   | some n=>if 256 < n∨T.length < 9+n then none else some (⟨p.name,(T.drop 8).take n⟩,T.drop (9+n)):=by
  intro c T hc;have ha:=qkq p.name T c 0 qr hc;rw [Nat.zero_add] at ha;have e:((p.name.length:Nat):Int).toNat = p.name.length:=by omega
  have d1:(p.name ++ c :: T).drop (p.name.length+1) = T:=by rw [List.drop_append];simp
  have d2:(p.name ++ c :: T).getD p.name.length 0 = c:=by simp [List.getD]
  have d3:(p.name ++ c :: T).take p.name.length = p.name:=by simp
  unfold kw;rw [ha,if_neg (by omega),e,d1,d2,d3]
  all_goals (cases kV T 0 8 <;> rfl)
 unfold kO;cases hp:JP p.value with
 | true =>
  have e:(if true = true then ((p.name ++ [61]) ++ p.value) ++ [10] else (((p.name ++ [10]) ++ qC 8 p.value.length) ++ p.value) ++ [10]) ++ R = p.name ++ 61 :: (p.value ++ 10 :: R):=by simp
  rw [e,gen 61 _ (.inl rfl),if_pos rfl,Kt (qdf hp),Ks (qdf hp)]
 | false =>
  have e:(if false = true then ((p.name ++ [61]) ++ p.value) ++ [10] else (((p.name ++ [10]) ++ qC 8 p.value.length) ++ p.value) ++ [10]) ++ R = p.name ++ 10 :: (qC 8 p.value.length ++ (p.value ++ 10 :: R)):=by simp
  rw [e,gen 10 _ (.inr rfl),if_neg (by decide),qpz _ (by omega)];have hl:=JY 8 p.value.length
  have zE:¬ (256 < p.value.length∨(qC 8 p.value.length ++ (p.value ++ 10 :: R)).length < 9+p.value.length):=by
   rintro (h | h)
   ·omega
   ·simp [hl] at h;omega
  simp only [zE,if_false];have d1:(qC 8 p.value.length ++ (p.value ++ 10 :: R)).drop 8 = p.value ++ 10 :: R:=List.drop_left' hl
  have d2:(qC 8 p.value.length ++ (p.value ++ 10 :: R)).drop (9+p.value.length) = R:=by
   rw [show 9+p.value.length = 8+(p.value.length+1) by omega,← List.drop_drop,d1,qjp]
  rw [d1,d2];simp
theorem qoh (R:List UInt8):kw (10 :: R) = none:=by
 unfold kw;rw [if_pos (by simp [zG])]
theorem qiG:∀ (F:List Pr) (n:Nat) (R:List UInt8),F.length≤n→(∀ p∈F,ke p = true)→Qr n (zV F ++ 10 :: R) = F
 | [],0,R,_,_=>rfl
 | [],n+1,R,_,_=>by
  rw [Qr];show (match kw (10 :: R) with | none=>[] | some (p,r)=>p :: Qr n r) = [];rw [qoh]
 | p :: F,0,R,h,_=>by simp at h
 | p :: F,n+1,R,h,hp=>by
  have e:zV (p :: F) ++ 10 :: R = kO p ++ (zV F ++ 10 :: R):=by simp [zV]
  rw [e,Qr,qog (hp p (by simp))];show p :: Qr n (zV F ++ 10 :: R) = _;rw [qiG F n R (by simpa using h) fun q hq=>hp q (by simp [hq])]
theorem qlG {n v:List UInt8} (hn:kf n = true) (hv:v.length≤256):Zk (n ++ 61 :: v) = (⟨n,v⟩,0):=by
 obtain ⟨n0,n1,n2⟩:=qds hn;have h1:=qb6 61 n v 0 (fun x hx=>(n2 x hx).2);rw [Nat.zero_add] at h1;have e:((n.length:Nat):Int).toNat = n.length:=by omega
 have d1:(n ++ 61 :: v).take n.length = n:=by simp
 have d2:(n ++ 61 :: v).drop (n.length+1) = v:=by rw [List.drop_append];simp
 unfold Zk;rw [h1,if_neg (by omega),e,d1,if_neg (by rw [hn];simp),if_neg (by simp;omega),d2]
theorem qlF {n:List UInt8} (h:∀ x∈n,x≠61):(Zk n).2 = 20:=by
 unfold Zk;rw [if_pos (by rw [qhZ 61 n 0 h];decide)]
theorem qgq:∀ (F:List Pr) (n:Nat) (b R:List UInt8) (a:Nat),F.length < n→(∀ p∈F,ke p = true)→b.drop a = zV F ++ 10 :: R→Qw b n a = some (F,a+(zV F).length+1)
 | [],n+1,b,R,a,_,_,hb=>by
  replace hb:b.drop a = [] ++ 10 :: R:=hb;rw [Qw,hb,Yx (by intro x hx;cases hx)];rfl
 | p :: F,n+1,b,R,a,h,hp,hb=>by
  have hpo:=hp p (by simp);obtain ⟨hn,hv⟩:=qgJ hpo;obtain ⟨n0,n1,n2⟩:=qds hn;have qr:∀ x∈p.name,x≠10:=fun x hx=>qbl (by have:=(n2 x hx).1;show 10 < x.toNat;omega);have Q4:(zV (p :: F)).length = (kO p).length+(zV F).length:=by simp [zV]
  have hb1:b.drop a = kO p ++ (zV F ++ 10 :: R):=by rw [hb];simp [zV]
  have qZ:b.length = a+((kO p).length+(zV F ++ 10 :: R).length):=by
   have h1:=congrArg List.length hb1;rw [List.length_drop,List.length_append] at h1;have h2:1≤(zV F ++ 10 :: R).length:=(by simp;omega);omega
  have hnext:b.drop (a+(kO p).length) = zV F ++ 10 :: R:=by
   rw [← List.drop_drop,hb1];simp
  have ih:=qgq F n b R (a+(kO p).length) (by simpa using h) (fun q hq=>hp q (by simp [hq])) hnext;rw [Qw];unfold kO at hb1 qZ Q4 ih;cases hpv:JP p.value with
  | true =>
   rw [hpv,if_pos rfl] at hb1 qZ Q4 ih;have e:((p.name ++ [61]) ++ p.value) ++ [10] ++ (zV F ++ 10 :: R) = (p.name ++ 61 :: p.value) ++ 10 :: (zV F ++ 10 :: R):=by simp
   have zM:∀ x∈p.name ++ 61 :: p.value,x≠10:=by
    intro x hx;rcases List.mem_append.1 hx with hx | hx
    ·exact qr x hx
    ·rcases List.mem_cons.1 hx with rfl | hx
     ·decide
     ·exact qdf hpv x hx
   rw [hb1,e,Yx zM];simp only;rw [if_neg (by simp),qlG hn hv,if_pos rfl];have ea:a+((p.name ++ 61 :: p.value).length+1) = a+(((p.name ++ [61]) ++ p.value) ++ [10]).length:=(by simp;omega);rw [ea,ih];simp only [Option.some.injEq,Prod.mk.injEq,true_and];omega
  | false =>
   rw [hpv,if_neg (by decide)] at hb1 qZ Q4 ih;have e:(((p.name ++ [10]) ++ qC 8 p.value.length) ++ p.value) ++ [10] ++ (zV F ++ 10 :: R) = p.name ++ 10 :: (qC 8 p.value.length ++ (p.value ++ 10 :: (zV F ++ 10 :: R))):=(by simp);rw [e] at hb1;have hl8:=JY 8 p.value.length;have hd1:b.drop (a+(p.name.length+1)) = qC 8 p.value.length ++ (p.value ++ 10 :: (zV F ++ 10 :: R)):=VL hb1
   have vv:b.drop (a+(p.name.length+1)+8) = p.value ++ 10 :: (zV F ++ 10 :: R):=by
    rw [← List.drop_drop,hd1];exact List.drop_left' hl8
   have hd3:b.drop (a+(p.name.length+1)+8+p.value.length) = 10 :: (zV F ++ 10 :: R):=by
    rw [← List.drop_drop,vv];simp
   have hN:leN ((b.drop (a+(p.name.length+1))).take 8) = p.value.length:=by
    rw [hd1,List.take_left' hl8,qd7,Nat.mod_eq_of_lt (by omega)]
   have hlen2:b.length = a+(p.name.length+1)+8+p.value.length+1+(zV F ++ 10 :: R).length:=by
    rw [qZ];simp [hl8];omega
   have hg:b.getD (a+(p.name.length+1)+8+p.value.length) 0 = 10:=by
    have h1:=List.getElem?_drop (xs:=b) (i:=a+(p.name.length+1)+8+p.value.length) (j:=0);rw [hd3] at h1;simp at h1;rw [List.getD,show a+(p.name.length+1)+8+p.value.length = a+(p.name.length+1)+8+p.value.length from rfl,← h1];rfl
   rw [hb1,Yx qr];simp only
   rw [if_neg n0,if_neg (by rw [qlF fun x hx=>(n2 x hx).2];decide),hN,if_neg (by omega),if_neg (by
    rintro (h | h | h)
    ·omega
    ·omega
    ·exact h hg)]
   have ea:a+(p.name.length+1)+8+p.value.length+1 = a+((((p.name ++ [10]) ++ qC 8 p.value.length) ++ p.value) ++ [10]).length:=(by simp [hl8];omega);rw [ea,ih,vv];simp only [Option.some.injEq,Prod.mk.injEq,List.take_left'];refine ⟨by simp,?_⟩;omega
def J3 (it:It):It:=if it.gap then ⟨it.id,true,it.fr,it.til,Rec.zero⟩ else it
theorem XN (a:List UInt8) (L:List (List UInt8)) (R:List UInt8):QF (a :: L) ++ R = a ++ 10 :: (QF L ++ R):=by simp [QF]
theorem qtx (R:List UInt8):QF [] ++ R = R:=by simp [QF]
theorem Yi (it:It) (more:List UInt8):jR it ++ more = (J4 ++ ZA (Z3 it.id it.rc)) ++ 10 :: ((Zy ++ qz it.rc.real.toNat) ++ 10 :: ((Zz ++ qz it.rc.mono.toNat) ++ 10 :: ((Zx ++ qz it.rc.seq.toNat) ++ 10 :: ((jy ++ zf it.id.l) ++ 10 :: ((QN ++ zf it.rc.boot.l) ++ 10 :: (zV it.rc.fields.l ++ 10 :: more)))))):=by
 unfold jR Zl;rw [List.append_assoc,List.append_assoc,XN,XN,XN,XN,XN,XN,qtx];rfl
theorem qaB (it:It) (more:List UInt8):Zj it ++ more = (jv ++ (qz it.fr.toNat ++ 45 :: qz it.til.toNat)) ++ 10 :: ((jy ++ zf it.id.l) ++ 10 :: ([] ++ 10 :: more)):=by
 unfold Zj;simp
theorem k10:(∀ x∈J4,x≠10)∧(∀ x∈Zy,x≠10)∧(∀ x∈Zz,x≠10)∧(∀ x∈Zx,x≠10)∧(∀ x∈jy,x≠10)∧(∀ x∈QN,x≠10)∧∀ x∈jv,x≠10:=by decide
theorem KA (v:Nat):∀ x∈qz v,x≠10:=qbk fun x h=>(qjz v x h).1
theorem qj5 (v:Nat):∀ x∈qz v,x≠45:=fun x h=>qbl (by have:=(qjz v x h).1;show 45 < x.toNat;omega)
theorem qdY (it:It):∀ x∈jv ++ (qz it.fr.toNat ++ 45 :: qz it.til.toNat),x≠10:=by
 refine JU k10.2.2.2.2.2.2 (JU (KA _) fun x h=>?_);rcases List.mem_cons.1 h with rfl | h
 ·decide
 ·exact KA _ x h
theorem qb8 (i:ID):∀ x∈jy ++ zf i.l,x≠10:=JU k10.2.2.2.2.1 (qbk (YP _))
theorem qkd (i:ID):∀ x∈QN ++ zf i.l,x≠10:=JU k10.2.2.2.2.2.1 (qbk (YP _))
theorem qdh (c:Cur):∀ x∈J4 ++ ZA c,x≠10:=JU k10.1 (qbk (qlR _))
theorem qdX {it:It} (hi:it.Ok) (ho:zw it = true) (hg:it.gap = true):it.fr.toNat < 18446744073709551616∧it.til.toNat < 18446744073709551616∧((it.fr.toNat:Nat):Int) = it.fr∧((it.til.toNat:Nat):Int) = it.til∧it.rc.seq = 0∧it.rc.real = 0∧it.rc.mono = 0∧it.rc.boot = ID.zero∧it.rc.fields.l = []∧VH it = true:=by
 have h1:=hi.fr;have h2:=hi.til;unfold qw at h1 h2;unfold zw at ho;rw [hg,if_pos rfl] at ho;have ho':=ho;unfold VH at ho;simp only [Bool.and_eq_true,decide_eq_true_eq] at ho;obtain ⟨⟨⟨⟨⟨⟨a1,a2⟩,a3⟩,a4⟩,a5⟩,a6⟩,a7⟩:=ho;exact ⟨by omega,by omega,by omega,by omega,a3,a4,a5,a6,List.eq_nil_of_length_eq_zero a7,ho'⟩
theorem qcU {it:It} (hi:it.Ok) (ho:zw it = true) (hg:it.gap = false):(it.rc.real.toNat < 18446744073709551616∧it.rc.mono.toNat < 18446744073709551616∧it.rc.seq.toNat < 18446744073709551616)∧(((it.rc.real.toNat:Nat):Int) = it.rc.real∧((it.rc.mono.toNat:Nat):Int) = it.rc.mono∧((it.rc.seq.toNat:Nat):Int) = it.rc.seq)∧it.fr = 0∧it.til = 0∧1≤it.rc.fields.l.length∧it.rc.fields.l.length≤16∧(∀ p∈it.rc.fields.l,ke p = true)∧QA it = true:=by
 have h1:=hi.rc.seq;have h2:=hi.rc.real;have h3:=hi.rc.mono;unfold qw at h1 h2 h3;unfold zw at ho;rw [hg,if_neg (by decide)] at ho;have ho':=ho;unfold QA at ho;simp only [Bool.and_eq_true,decide_eq_true_eq,List.all_eq_true] at ho;obtain ⟨⟨⟨⟨⟨a1,a2⟩,a3⟩,a4⟩,a5⟩,a6⟩:=ho;exact ⟨⟨by omega,by omega,by omega⟩,⟨by omega,by omega,by omega⟩,a1,a2,a4,a5,a6,ho'⟩
theorem qf0 (s:Sl Pr) (h:1≤s.l.length):Q7 s.l = s:=by
 obtain ⟨n,l,hn⟩:=s;cases l with
 | nil=>simp at h
 | cons a l =>
  cases n with
  | true=>exact absurd (hn rfl) (by simp)
  | false=>rfl
theorem qtG {it:It} (hi:it.Ok) (ho:zw it = true) (hg:it.gap = true) (more:List UInt8):Kx (Zj it ++ more) = J3 it:=by
 obtain ⟨f1,t1,f2,t2,-⟩:=qdX hi ho hg;unfold Kx J3;rw [qaB,Kt (qdY it),Ks (qdY it),KO,qes 45 (qj5 _),hg,if_pos rfl];simp only [Ki f1,Ki t1,Option.getD_some,f2,t2];unfold ky;rw [Kt (qb8 it.id),KO,YM]
theorem qu3 {it:It} (hi:it.Ok) (ho:zw it = true) (hg:it.gap = false) (more:List UInt8):Ky (jR it ++ more) = it:=by
 obtain ⟨⟨r1,m1,s1⟩,⟨r2,m2,s2⟩,a1,a2,a3,a4,a5,-⟩:=qcU hi ho hg;have l0:=qdh (Z3 it.id it.rc);have l1:=JU k10.2.1 (KA it.rc.real.toNat);have l2:=JU k10.2.2.1 (KA it.rc.mono.toNat);have l3:=JU k10.2.2.2.1 (KA it.rc.seq.toNat);have l4:=qb8 it.id;have l5:=qkd it.rc.boot;unfold Ky;rw [Yi,Ks l0,Ks l1,Ks l2,Ks l3,Ks l4,Ks l5,qiG _ 17 _ (by omega) a5];unfold kx ky;rw [Kt l1,Kt l2,Kt l3,Kt l4,Kt l5,KO,KO,KO,KO,KO,Ki r1,Ki m1,Ki s1,YM,YM,qf0 _ a3];simp only [Option.getD_some,r2,m2,s2];obtain ⟨i,g,f,t,r⟩:=it;simp only at hg a1 a2;subst hg a1 a2;rfl
theorem qi6 (R:List UInt8):pre jv (J4 ++ R) = false:=rfl
theorem qhK {it:It} (hi:it.Ok) (ho:zw it = true) (more:List UInt8):zX (zp it ++ more) = J3 it:=by
 unfold zp zX;cases hg:it.gap with
 | true =>
  rw [if_pos rfl,if_pos (by rw [qaB,List.append_assoc];exact qdb _ _),qtG hi ho hg]
 | false =>
  simp only [Bool.false_eq_true,if_false];rw [if_neg (by rw [Yi,List.append_assoc,qi6];decide),qu3 hi ho hg];unfold J3;rw [hg,if_neg (by decide)]
theorem qhA (b:List UInt8) (a:Nat):kU b a [] = some ([],a):=rfl
theorem qne {it:It} (hi:it.Ok) (ho:zw it = true) (hg:it.gap = true) (more:List UInt8):Jf (Zj it ++ more) = (J3 it,(Zj it).length,true):=by
 obtain ⟨f1,t1,f2,t2,-⟩:=qdX hi ho hg;have e0:(Zj it ++ more).drop 0 = (jv ++ (qz it.fr.toNat ++ 45 :: qz it.til.toNat)) ++ 10 :: ((jy ++ zf it.id.l) ++ 10 :: ([] ++ 10 :: more)):=qaB it more;have e1:=VL e0;have e2:=VL e1;have hL:=VE e0 (qdY it) (VE e1 (qb8 it.id) (VE (f:=[]) (x:=[]) e2 (by intro y hy;cases hy) (qhA (Zj it ++ more) _)));unfold Jf;unfold jy at hL;unfold jv at hL;have h45:=qb6 45 (qz it.fr.toNat) (qz it.til.toNat) 0 (qj5 _);rw [Nat.zero_add] at h45;have e:(((qz it.fr.toNat).length:Nat):Int).toNat = (qz it.fr.toNat).length:=by omega
 have d1:(qz it.fr.toNat ++ 45 :: qz it.til.toNat).take (qz it.fr.toNat).length = qz it.fr.toNat:=by simp
 have d2:(qz it.fr.toNat ++ 45 :: qz it.til.toNat).drop ((qz it.fr.toNat).length+1) = qz it.til.toNat:=by rw [List.drop_append];simp
 unfold jv jy;rw [hL];simp only [h45,e,d1,d2];rw [if_neg (by omega),Xe f1,Xe t1,YM,qb7 it.id.h];unfold J3;rw [hg,if_pos rfl];simp only [Option.getD_some,f2,t2]
 have hl:(Zj it).length = (jv ++ (qz it.fr.toNat ++ 45 :: qz it.til.toNat)).length+1+((jy ++ zf it.id.l).length+1)+1:=by
  have:=congrArg List.length (qaB it []);rw [List.append_nil] at this;rw [this];simp;omega
 rw [hl];unfold jv jy;simp
theorem qns {it:It} (hi:it.Ok) (ho:zw it = true) (hg:it.gap = false) (more:List UInt8):V7 (jR it ++ more) = (it,(jR it).length,true):=by
 obtain ⟨⟨r1,m1,s1⟩,⟨r2,m2,s2⟩,a1,a2,a3,a4,a5,-⟩:=qcU hi ho hg;have l0:=qdh (Z3 it.id it.rc);have l1:=JU k10.2.1 (KA it.rc.real.toNat);have l2:=JU k10.2.2.1 (KA it.rc.mono.toNat);have l3:=JU k10.2.2.2.1 (KA it.rc.seq.toNat);have l4:=qb8 it.id;have l5:=qkd it.rc.boot;have e0:(jR it ++ more).drop 0 = _:=Yi it more;have e1:=VL e0;have e2:=VL e1;have e3:=VL e2;have e4:=VL e3;have e5:=VL e4;have e6:=VL e5;have hL:=VE e0 l0 (VE e1 l1 (VE e2 l2 (VE e3 l3 (VE e4 l4 (VE e5 l5 (qhA (jR it ++ more) _))))));have hF:=qgq it.rc.fields.l 17 _ _ _ (by omega) a5 e6
 have hl:(jR it).length = 0+((J4 ++ ZA (Z3 it.id it.rc)).length+1)+((Zy ++ qz it.rc.real.toNat).length+1)+((Zz ++ qz it.rc.mono.toNat).length+1)+((Zx ++ qz it.rc.seq.toNat).length+1)+((jy ++ zf it.id.l).length+1)+((QN ++ zf it.rc.boot.l).length+1)+(zV it.rc.fields.l).length+1:=by
  have:=congrArg List.length (Yi it []);rw [List.append_nil] at this;rw [this];simp only [List.length_append,List.length_cons,List.length_nil];omega
 unfold V7 Yu;rw [hL];simp only;rw [Xe r1,Xe m1,Xe s1,qb7 it.id.h,qb7 it.rc.boot.h,if_pos (by rfl),hF];simp only [Option.getD_some,r2,m2,s2,YM,qf0 _ a3];rw [hl];obtain ⟨i,g,f,t,r⟩:=it;simp only at hg a1 a2;subst hg a1 a2;rfl
theorem qnf (it:It) (more:List UInt8):(Jf (jR it ++ more)).2.2 = false:=by
 have e0:(jR it ++ more).drop 0 = _:=Yi it more
 have hL:kU (jR it ++ more) 0 [jv,jy,[]] = none:=by
  rw [kU,e0,Yx (qdh _)];simp only;rw [if_neg (by rw [qi6];decide)]
 unfold Jf;rw [hL]
theorem qm9 {it:It} (hi:it.Ok) (ho:zw it = true) (more:List UInt8):Q9 (zp it ++ more) = (J3 it,(zp it).length,true):=by
 unfold Q9 zp;cases hg:it.gap with
 | true =>
  rw [if_pos rfl,qne hi ho hg];rfl
 | false =>
  simp only [Bool.false_eq_true,if_false];rw [qnf,if_neg Bool.false_ne_true,qns hi ho hg];unfold J3;rw [hg,if_neg (by decide)]
theorem qoC (it:It):zp (J3 it) = zp it:=by
 unfold J3;cases hg:it.gap with
 | true =>
  rw [if_pos rfl];unfold zp;rw [hg,if_pos rfl,if_pos rfl];rfl
 | false=>rw [if_neg (by decide)]
theorem qoD {it:It} (hi:it.Ok) (ho:zw it = true):zw (J3 it) = true:=by
 unfold J3;cases hg:it.gap with
 | true =>
  obtain ⟨-,-,-,-,-,-,-,-,-,h⟩:=qdX hi ho hg;rw [if_pos rfl];unfold zw;rw [if_pos rfl];unfold VH at h ⊢;simp only [Bool.and_eq_true,decide_eq_true_eq] at h ⊢;exact ⟨⟨⟨⟨⟨⟨h.1.1.1.1.1.1,h.1.1.1.1.1.2⟩,rfl⟩,rfl⟩,rfl⟩,rfl⟩,rfl⟩
 | false=>rw [if_neg (by decide)];exact ho
theorem qcv {it:It} (hi:it.Ok) (ho:zw it = true):(zp it).length≤10000∧1≤(zp it).length:=by
 unfold zp;cases hg:it.gap with
 | true =>
  rw [if_pos rfl];have l1:=vZ it.fr.toNat;have l2:=vZ it.til.toNat;have l3:=QE it.id.l;rw [it.id.h] at l3;unfold Zj jv jy;simp;omega
 | false =>
  rw [if_neg (by decide)];obtain ⟨-,-,-,-,-,-,-,h⟩:=qcU hi ho hg;obtain ⟨b1,-,b3⟩:=qde h;have h1:=qbE (Zl it) (qc5 it hi);have h2:=qat it.rc.fields.l 400 b3;have h3:(Zl it).length = 6:=rfl;rw [h3] at h1;unfold jR;simp only [List.length_append,List.length_cons,List.length_nil];have h4:it.rc.fields.l.length * 400≤16 * 400:=Nat.mul_le_mul_right _ b1;omega
theorem qdc {p s:List UInt8} (h:pre p s = true):s = p ++ s.drop p.length:=by
 unfold pre at h;have h1:=beq_iff_eq.1 h;have h2:=List.take_append_drop p.length s;rw [h1] at h2;exact h2.symm
theorem qnv (b:List UInt8):qaQ b = X9 b:=by
 have hi:=qbz b
 have fwd:QX b = true→Ka b = true∧Q9 b = (zX b,(zp (zX b)).length,true):=by
  intro h;unfold QX at h;rw [Bool.and_eq_true] at h;obtain ⟨ho,hp⟩:=h;have hb:=qdc hp;have h1:=qhK hi ho (b.drop (zp (zX b)).length);have h2:=qm9 hi ho (b.drop (zp (zX b)).length);rw [← hb] at h1 h2;rw [← h1] at h2;refine ⟨?_,h2⟩;unfold Ka;rw [h2];simp only [Bool.true_and,ho];unfold pre at hp;rw [beq_iff_eq] at hp ⊢;exact hp.symm
 have bwd:Ka b = true→QX b = true:=by
  intro h;unfold Ka at h;simp only [Bool.and_eq_true,beq_iff_eq] at h;obtain ⟨-,ho,ht⟩:=h;have hq:=(qcH b).ok;have hle:=(qcH b).le
  have hb:b = zp (Q9 b).1 ++ b.drop (Q9 b).2.1:=by
   rw [ht];exact (List.take_append_drop _ _).symm
  have h1:=qhK hq ho (b.drop (Q9 b).2.1);rw [← hb] at h1;unfold QX;rw [h1,qoD hq ho,qoC,Bool.true_and];unfold pre;rw [ht,List.length_take,Nat.min_eq_left hle,beq_self_eq_true]
 unfold qaQ X9;cases h:QX b with
 | true =>
  obtain ⟨h1,h2⟩:=fwd h;rw [h1,h2]
 | false =>
  have h1:Ka b = false:=by
   cases hr:Ka b with
   | false=>rfl
   | true=>rw [bwd hr] at h;cases h
  rw [h1];rfl
theorem qf9 [MaxL] (x y:Sl UInt8):call cx 26 [(.vsl x.nil (qd x.l) x.l.length),(.vsl y.nil (qd y.l) y.l.length)] [] = some (.bool (x.l == y.l),[]):=by
 refine qq Tryz.func26 rfl ⟨rfl,rfl⟩ ?_;simp [Tryz.f26]
def qaN (r s:Rec):Bool:=r.seq == s.seq && (r.real == s.real && (r.mono == s.mono && (r.boot == s.boot && r.fields.l == s.fields.l)))
def X6 (x y:It):Bool:=x.id == y.id && (x.gap == y.gap && (x.fr == y.fr && (x.til == y.til && qaN x.rc y.rc)))
theorem quy (p q:Pr):(p == q) = (decide (p.name = q.name) && decide (p.value = q.value)):=by
 obtain ⟨a,b⟩:=p;obtain ⟨c,d⟩:=q;rw [Bool.eq_iff_iff];simp
theorem qwd {a b:List Pr} {k:Nat} (ha:k < a.length) (hb:k < b.length):(a.drop k == b.drop k) = (a[k] == b[k] && a.drop (k+1) == b.drop (k+1)):=by
 rw [List.drop_eq_getElem_cons ha,List.drop_eq_getElem_cons hb];rfl
set_option maxHeartbeats 1000000 in
theorem qmN [MaxL] (a b:Sl Pr) (ha:a.l.length < 1000000) (_:b.l.length < 1000000):call cx 120 [(.vsl a.nil (qh a.l) a.l.length),(.vsl b.nil (qh b.l) b.l.length)] [] = some (.bool (a.l == b.l),[]):=by
 refine qq Tryz.func120 rfl ⟨rfl,rfl⟩ ?_;by_cases qr:a.l.length = b.l.length
 case neg =>
  have hne':¬ (a.l.length:Int) = (b.l.length:Int):=by omega
  have hf:(a.l == b.l) = false:=beq_eq_false_iff_ne.2 fun e=>qr (by rw [e]);rw [hf];simp [Tryz.f120,hne']
 have hne':(a.l.length:Int) = (b.l.length:Int):=by omega
 simp [Tryz.f120,qr];refine Run.loopThen (fun (k:Nat) e H'=>k≤a.l.length∧(a.l == b.l) = (a.l.drop k == b.l.drop k)∧qf e 0 = some (.vsl a.nil (qh a.l) a.l.length)∧qf e 1 = some (.vsl b.nil (qh b.l) b.l.length)∧qf e 5 = some (.int .i64 (k:Nat))∧H' = []) (fun k=>a.l.length - k) 0 ?_ ?_
 ·simp [qr]
 rintro k e H' ⟨hk,hR,k0,k1,k5,rfl⟩;rw [hR];by_cases qg:k < a.l.length
 ·have qk:(k:Int) < (a.l.length:Int):=by omega
  have hlb:k < b.l.length:=by omega
  have hlb':(k:Int) < (b.l.length:Int):=by omega
  have hw:IntKind.i64.wrap ((k:Int)+1) = ((k+1:Nat):Int):=by rw [wrap_i64] <;> omega
  have n1:a.nil = false:=Sl.nn qg;have n2:b.nil = false:=Sl.nn hlb;have hE:(a.l[k] == b.l[k]) = (decide (a.l[k].name = b.l[k].name) && decide (a.l[k].value = b.l[k].value)):=quy a.l[k] b.l[k];rw [qwd qg hlb,hE];by_cases h1:a.l[k].name = b.l[k].name
  ·by_cases h2:a.l[k].value = b.l[k].value
   ·simp [k0,k1,k5,qg,hlb,qk,hlb',n1,n2,Pr.cells,h1,h2,hw];exact ⟨k+1,by omega,by omega,rfl,rfl⟩
   ·simp [k0,k1,k5,qg,hlb,qk,hlb',n1,n2,Pr.cells,h1,h2]
  ·simp [k0,k1,k5,qg,hlb,qk,hlb',n1,n2,Pr.cells,h1]
 ·have qk:¬ (k:Int) < (a.l.length:Int):=by omega
  rw [List.drop_eq_nil_of_le (by omega),List.drop_eq_nil_of_le (by omega)];have ki:¬ (k:Int) < (b.l.length:Int):=by omega
  simp [k0,k1,k5,ki,hne']
set_option maxHeartbeats 1000000 in
theorem qmE [MaxL] (r s:Rec) (ha:r.fields.l.length < 1000000) (hb:s.fields.l.length < 1000000):call cx 81 [.agg (Enc.cells r),.agg (Enc.cells s)] [] = some (.bool (qaN r s),[]):=by
 have hp:=qmN r.fields s.fields ha hb;have t1:List.take 16 (qd r.boot.l ++ [(.vsl r.fields.nil (qh r.fields.l) r.fields.l.length)]) = qd r.boot.l:=by rw [List.take_append];simp
 have t2:List.take 16 (qd s.boot.l ++ [(.vsl s.fields.nil (qh s.fields.l) s.fields.l.length)]) = qd s.boot.l:=by rw [List.take_append];simp
 have d1:List.drop 16 (qd r.boot.l ++ [(.vsl r.fields.nil (qh r.fields.l) r.fields.l.length)]) = [(.vsl r.fields.nil (qh r.fields.l) r.fields.l.length)]:=by rw [List.drop_append];simp
 have d2:List.drop 16 (qd s.boot.l ++ [(.vsl s.fields.nil (qh s.fields.l) s.fields.l.length)]) = [(.vsl s.fields.nil (qh s.fields.l) s.fields.l.length)]:=by rw [List.drop_append];simp
 have b1:(qd r.boot.l).length = 16:=by simp
 have b2:(qd s.boot.l).length = 16:=by simp
 unfold qaN;refine qq Tryz.func81 rfl ⟨rfl,rfl⟩ ?_;rw [Rec.cells,Rec.cells];cases h1:(r.seq == s.seq) <;> cases h2:(r.real == s.real) <;> cases h3:(r.mono == s.mono) <;> cases h4:(r.boot == s.boot) <;> simp [Tryz.f81,hp,t1,t2,d1,d2,b1,b2,h1,h2,h3,h4]
set_option maxHeartbeats 1000000 in
theorem qmT [MaxL] (x y:It) (ha:x.rc.fields.l.length < 1000000) (hb:y.rc.fields.l.length < 1000000):call cx 42 [.agg (Enc.cells x),.agg (Enc.cells y)] [] = some (.bool (X6 x y),[]):=by
 have hp:=qmE x.rc y.rc ha hb;have u1:List.take 17 (qd x.rc.boot.l ++ [(.vsl x.rc.fields.nil (qh x.rc.fields.l) x.rc.fields.l.length)]) = qd x.rc.boot.l ++ [(.vsl x.rc.fields.nil (qh x.rc.fields.l) x.rc.fields.l.length)]:=List.take_of_length_le (by simp);have u2:List.take 17 (qd y.rc.boot.l ++ [(.vsl y.rc.fields.nil (qh y.rc.fields.l) y.rc.fields.l.length)]) = qd y.rc.boot.l ++ [(.vsl y.rc.fields.nil (qh y.rc.fields.l) y.rc.fields.l.length)]:=List.take_of_length_le (by simp);rw [Rec.cells,Rec.cells] at hp;simp only [List.cons_append,List.nil_append] at hp;unfold X6;refine qq Tryz.func42 rfl ⟨rfl,rfl⟩ ?_;cases h1:(x.id == y.id) <;> cases h2:(x.gap == y.gap) <;> cases h3:(x.fr == y.fr) <;> cases h4:(x.til == y.til) <;> simp [Tryz.f42,u1,u2,hp,h1,h2,h3,h4]
def J0 (b:List UInt8):It:=if QX b then zX b else It.zero
def ZO (b:List UInt8):Nat:=if QX b then (zp (zX b)).length else 0
def Zq (b:List UInt8):Int:=if QX b then 0 else 20
theorem qg4 (b:List UInt8):X9 b = .tup [.agg (Enc.cells (J0 b)),.int .i64 (ZO b:Nat),.int .i64 (Zq b)]:=by
 unfold X9 J0 ZO Zq;split <;> rfl
theorem qny [MaxL] (s:Sl UInt8) (hs:s.l.length < 1000000):call cx 109 [(.vsl s.nil (qd s.l) s.l.length)] [] = some (.tup [.agg (Enc.cells (J0 s.l)),.int .i64 (ZO s.l:Nat),.int .i64 (Zq s.l)],[]):=by
 have h1:=qnx s hs fun h=>by have:=qcv (qbz s.l) h;omega
 rw [qg4] at h1;exact h1
theorem qvh [MaxL] [TxtC] (x y:Sl UInt8):call cx 67 [(.vsl x.nil (qd x.l) x.l.length),(.vsl y.nil (qd y.l) y.l.length)] [] = some (.int .i64 (qt x.l y.l),[]):=by
 have h:call cx 105 [(.vsl x.nil (qd x.l) x.l.length),(.vsl y.nil (qd y.l) y.l.length)] [] = some (.int .i64 (qt x.l y.l),[]):=by
  rw [qe2 (X:=cx) (f:=105) rfl Tryz.func105 rfl,qiQ,qvx x.nil y.nil x.l y.l x.h y.h];rfl
 refine qq Tryz.func67 rfl ⟨rfl,rfl⟩ ?_;simp [Tryz.f67,h]
theorem qev [MaxL] [TxtC] (x y:ID):call cx 67 [.vsl false (qd x.l) 16,.vsl false (qd y.l) 16] [] = some (.int .i64 (qt x.l y.l),[]):=by
 have h:=qvh (.of x.l) (.of y.l);simpa using h
def zN:List Mk→Bool
 | a :: b :: l=>decide (qt a.id.l b.id.l < 0) && zN (b :: l)
 | _=>true
def jJ (l:List Mk):Bool:=decide (l.length≤4) && zN l
theorem qgl [MaxL] [TxtC] (s:Sl Mk) (hn:s.l.length < 4611686018427387904) :
  call cx 62 [(.vsl s.nil (qh s.l) s.l.length)] [] = some (.bool (jJ s.l),[]):=by
 refine qq Tryz.func62 rfl ⟨rfl,rfl⟩ ?_;by_cases h4:s.l.length≤4
 ·have h4':¬ (4:Int) < (s.l.length:Int):=by omega
  simp [Tryz.f62,h4',jJ,h4];refine Run.loopThen (fun (i:Nat) e H=>1≤i∧(i≤s.l.length∨i = 1)∧H = []∧qf e 0 = some (.vsl s.nil (qh s.l) s.l.length)∧qf e 3 = some (.int .i64 i)∧zN s.l = zN (s.l.drop (i - 1))) (fun i=>s.l.length - i) 1 (by simp) ?_;rintro i e H ⟨hi,hil,rfl,h0,h3,hr⟩;by_cases qg:i < s.l.length
  ·obtain ⟨k,hk⟩:∃ k,k+1 = i:=⟨i - 1,by omega⟩;have qk:(i:Int) < (s.l.length:Int):=(by omega);have vB:k < s.l.length:=(by omega);have vN:(k:Int) < (s.l.length:Int):=(by omega);have hw:IntKind.i64.wrap ((i:Int) - 1) = (k:Int):=(by rw [wrap_i64] <;> omega);have zg:IntKind.i64.wrap ((i:Int)+1) = ((i+1:Nat):Int):=(by rw [wrap_i64] <;> omega);have hc:=qev s.l[k].id s.l[i].id
   have zD:zN s.l = (decide (qt s.l[k].id.l s.l[i].id.l < 0) && zN (s.l.drop i)):=by
    have e1:i - 1 = k:=by omega
    have e2:s.l.drop k = s.l[k] :: s.l[i] :: s.l.drop (i+1):=by
     rw [List.drop_eq_getElem_cons vB];congr 1;rw [hk,List.drop_eq_getElem_cons qg]
    rw [hr,e1,e2,zN,List.drop_eq_getElem_cons qg]
   have zI:∀ k,(16≤19+k) = True:=fun k=>eq_true (by omega);have ht:∀ (m:Mk) (r:List D),(Enc.cells m ++ r).take 16 = qd m.id.l:=fun m r=>by simp [Mk.cells]
   by_cases hcm:qt s.l[k].id.l s.l[i].id.l < 0
   ·have hcm':¬ 0≤qt s.l[k].id.l s.l[i].id.l:=(by omega);rw [decide_eq_true hcm,Bool.true_and] at zD;simp [h0,h3,qk,hw,vN,Sl.nn qg,zI,qg,vB,ht,hc,hcm',zg];exact ⟨i+1,by omega,by omega,.inl (by omega),rfl,by simpa using zD⟩
   ·have hcm':0≤qt s.l[k].id.l s.l[i].id.l:=(by omega);rw [decide_eq_false hcm,Bool.false_and] at zD;simp [h0,h3,qk,hw,vN,Sl.nn qg,zI,qg,vB,ht,hc,hcm',zD]
  ·have qk:¬ (i:Int) < (s.l.length:Int):=by omega
   have zD:zN s.l = true:=by
    rw [hr];have:(s.l.drop (i - 1)).length≤1:=by rw [List.length_drop];omega
    match s.l.drop (i - 1),this with
    | [],_=>rfl
    | [a],_=>rfl
   simp [h0,h3,qk,zD]
 ·have h4':(4:Int) < (s.l.length:Int):=by omega
  simp [Tryz.f62,h4',jJ,h4]
theorem Kb {l:List Mk} (h:jJ l = true):l.length≤4:=by
 rw [jJ,Bool.and_eq_true] at h;exact of_decide_eq_true h.1
def ZS (m:Mk):List UInt8:=m.id.l ++ (qC 8 m.seq.toNat ++ (qC 8 m.lost.toNat ++ qC 8 m.over.toNat))
def Zv (l:List Mk):List UInt8:=UInt8.ofNat l.length :: l.flatMap ZS
theorem qoW (m:Mk):(ZS m).length = 40:=by simp [ZS]
theorem qdv (l:List Mk):(l.flatMap ZS).length = l.length * 40:=by
 induction l with
 | nil=>rfl
 | cons a l ih=>rw [List.flatMap_cons,List.length_append,ih,qoW,List.length_cons];omega
theorem qd5 [MaxL] [TxtC] (l:List UInt8) (v:Nat) (hn:l.length≤140737488355000) :
  call cx 63 [.vsl false (qd l) l.length,.int .i64 8,.int .u64 v] [] = some (.osl 0 (l.length+8) 0 (l.length+8) 1,[some (qd (l ++ qC 8 v))]):=by
 obtain ⟨d,H,hb,hc⟩:=qhF (.of l) 8 v (by simpa using hn);have e:Jk l 8 v = l ++ qC 8 v:=by simp [Jk,Vg]
 simp only [Sl.of_l,Sl.of_nil] at hb hc;rw [e] at hb;rcases hb with ⟨rfl,h,rfl⟩ | ⟨rfl,rfl⟩
 ·have:=congrArg List.length h;simp at this
 ·rw [hc];simp
def kr (l:List Mk):Sl UInt8:=if jJ l then .of (Zv l) else .none
def KL (l:List Mk) (i:Nat) (X:List UInt8):Prop:=X = UInt8.ofNat l.length :: (l.take i).flatMap ZS
set_option maxRecDepth 4000 in
set_option maxHeartbeats 2000000 in
theorem qvN [MaxL] [TxtC] (s:Sl Mk) (hn:s.l.length < 4611686018427387904) (hok:∀ m∈s.l,m.Ok) :
  call cx 66 [(.vsl s.nil (qh s.l) s.l.length)] [] = some ((.vsl (kr s.l).nil (qd (kr s.l).l) (kr s.l).l.length),[]):=by
 have hr:=qgl s hn;refine qq Tryz.func66 rfl ⟨rfl,rfl⟩ ?_;cases h:jJ s.l with
 | false =>
  rw [h] at hr;simp [Tryz.f66,hr,kr,h,qd]
 | true =>
  rw [h] at hr;have hl:=Kb h;have hw8:IntKind.u8.wrap (s.l.length:Int) = (s.l.length:Int):=by rw [Qd];omega
  simp [Tryz.f66,hr,kr,h,hw8];refine Run.loopThen (fun (i:Nat) e H=>i≤s.l.length∧∃ X:List UInt8,KL s.l i X∧H = [some (qd X)]∧qf e 3 = some (.osl 0 X.length 0 X.length 1)∧qf e 15 = some (.vsl s.nil (qh s.l) s.l.length)∧qf e 16 = some (.int .i64 s.l.length)∧qf e 17 = some (.int .i64 i)) (fun i=>s.l.length - i) 0 ?_ ?_
  ·refine ⟨by omega,[UInt8.ofNat s.l.length],by simp [KL],?_⟩;simp [qd];omega
  rintro i e H ⟨hi,X,hX,rfl,h3,h15,zI,h17⟩;by_cases qg:i < s.l.length
  ·have qk:(i:Int) < (s.l.length:Int):=(by omega);have hw:IntKind.i64.wrap ((i:Int)+1) = ((i+1:Nat):Int):=(by rw [wrap_i64] <;> omega);have hl40:=qdv (s.l.take i);rw [List.length_take,Nat.min_eq_left hi] at hl40
   have jo:KL s.l (i+1) (X ++ ZS s.l[i]):=by
    unfold KL at *;rw [hX,List.take_succ_eq_append_getElem qg,List.flatMap_append];simp
   have jj:X.length≤200:=(by rw [hX,List.length_cons,hl40];omega);clear hX hl40;have hm:=hok _ (List.getElem_mem qg);obtain ⟨⟨m0,m1,m2,m3⟩,hme⟩:∃ m,s.l[i] = m:=⟨_,rfl⟩;rw [hme] at jo hm;obtain ⟨a1,rfl⟩:∃ k:Nat,m1 = k:=⟨m1.toNat,by have:=hm.seq;simp [qw] at this;omega⟩;obtain ⟨a2,rfl⟩:∃ k:Nat,m2 = k:=⟨m2.toNat,by have:=hm.lost;simp [qw] at this;omega⟩;obtain ⟨a3,rfl⟩:∃ k:Nat,m3 = k:=⟨m3.toNat,by have:=hm.over;simp [qw] at this;omega⟩;have hb:X.length+16≤140737488355328:=(by omega);simp [h3,h15,zI,h17,qk,qg,Sl.nn qg,hme,qB,hb];clear h3 h15 zI h17 e;have d1:=qd5 (X ++ m0.l) a1 (by simp;omega);have d2:=qd5 (X ++ m0.l ++ qC 8 a1) a2 (by simp;omega);have d3:=qd5 (X ++ m0.l ++ qC 8 a1 ++ qC 8 a2) a3 (by simp;omega);simp [ZP,Nat.add_assoc] at d1 d2 d3
   iterate 4
    refine JL ?_;simp [d1,d2,d3,hw,List.take_of_length_le]
   exact ⟨i+1,by omega,by omega,_,jo,by simp [ZS,ZP],by simp [ZS],rfl⟩
  ·have qk:¬ (i:Int) < (s.l.length:Int):=(by omega);have vj:s.l.take i = s.l:=List.take_of_length_le (by omega);have hXe:X = Zv s.l:=(by rw [hX,vj];rfl);simp [h3,h15,zI,h17,qk,hXe]
end Go.Ev.S
namespace Go.Ev
open Go Go.Proofs
theorem YB (s:BitVec 32):BitVec.ofInt IntKind.u32.bits (s.toNat:Int) = s:=by
 show BitVec.ofInt 32 (s.toNat:Int) = s;rw [BitVec.ofInt_natCast,BitVec.ofNat_toNat];simp
theorem qco (s:BitVec 32):IntKind.u32.wrap (s.toNat:Int) = (s.toNat:Int):=by
 have:=s.isLt;rw [Jx];omega
theorem qeK (s t:BitVec 32):ze .u32 (s.toNat:Int) (t.toNat:Int) = ((s ^^^ t).toNat:Int):=by
 unfold ze;rw [YB,YB];exact qco _
theorem qwz (s t:BitVec 32):V1 .u32 (s.toNat:Int) (t.toNat:Int) = ((s &&& t).toNat:Int):=by
 unfold V1;rw [YB,YB];exact qco _
theorem qvZ (s:BitVec 32):V1 .u32 (s.toNat:Int) 1 = ((s.toNat % 2:Nat):Int):=by
 have h:=qwz s 1#32;have e:((1#32).toNat:Int) = 1:=rfl;rw [e] at h;rw [h];congr 1;rw [BitVec.toNat_and];exact Nat.and_one_is_mod _
theorem qit (s:BitVec 32):(s.toNat:Int).fdiv 2 = ((s >>> 1).toNat:Int):=by
 rw [BitVec.toNat_ushiftRight,Nat.shiftRight_eq_div_pow,Int.fdiv_eq_ediv_of_nonneg _ (by decide)];omega
theorem qgK (s:BitVec 32):ze .u32 (s.toNat:Int) 2197175160 = ((s ^^^ 2197175160#32).toNat:Int):=qeK s 2197175160#32
theorem qka (s:BitVec 32) (c:UInt8):ze .u32 (s.toNat:Int) (c.toNat:Int) = ((s ^^^ BitVec.ofNat 32 c.toNat).toNat:Int):=by
 have h:=qeK s (BitVec.ofNat 32 c.toNat);have hc:=c.toNat_lt
 have e:(BitVec.ofNat 32 c.toNat).toNat = c.toNat:=by
  rw [BitVec.toNat_ofNat];exact Nat.mod_eq_of_lt (by omega)
 rw [e] at h;exact h
def qad (s:BitVec 32):BitVec 32:=if s.toNat % 2 = 1 then (s >>> 1) ^^^ 2197175160#32 else s >>> 1
def QQ:Nat→BitVec 32→BitVec 32
 | 0,s=>s
 | n+1,s=>QQ n (qad s)
def quO (s:BitVec 32) (c:UInt8):BitVec 32:=QQ 8 (s ^^^ BitVec.ofNat 32 c.toNat)
def Xu (s:BitVec 32) (l:List UInt8):BitVec 32:=l.foldl quO s
def Qb (s:BitVec 32) (l:List UInt8):BitVec 32:= ~~~ Xu (~~~ s) l
theorem qhm (s:BitVec 32):IntKind.u32.wrap ((BitVec.ofInt IntKind.u32.bits 4294967295 ^^^ BitVec.ofInt IntKind.u32.bits (s.toNat:Int)).toNat:Int) = ((~~~ s).toNat:Int):=by
 rw [YB]
 have e:(BitVec.ofInt 32 4294967295 ^^^ s) = ~~~ s:=by
  rw [show BitVec.ofInt 32 4294967295 = BitVec.allOnes 32 from by decide,BitVec.allOnes_xor]
 have h:=qco (~~~ s);rw [← e] at h ⊢;exact h
end Go.Ev
namespace Go.Ev.S
open Go Go.Proofs Go.Ev
theorem qoS [MaxL] [TxtC] (n b:Int):call cx 24 [.int .i64 n,.int .i64 b] [] = some (.int .i64 (if b < 1 then 0 else (IntKind.i64.wrap (n.tmod b+b)).tmod b),[]):=by
 refine qq Tryz.func24 rfl ⟨rfl,rfl⟩ ?_;by_cases h1:b < 1
 ·simp [Tryz.f24,h1]
 ·have h2:b≠0:=by omega
  simp [Tryz.f24,h1,h2]
theorem qbj [MaxL] [TxtC] (n:Int) (b:Nat) (hb:1≤b) (zm:b≤1000000):∃ x:Nat,x < b∧call cx 24 [.int .i64 n,.int .i64 b] [] = some (.int .i64 x,[]):=by
 have h1:n.tmod b < b:=Int.tmod_lt_of_pos _ (by omega)
 have h2:-(b:Int) < n.tmod b:=by
  have:=Int.tmod_lt_of_pos (-n) (show (0:Int) < b by omega);rw [Int.neg_tmod] at this;omega
 have h:=qoS n b;rw [if_neg (by omega)] at h;generalize n.tmod b = x at *;have hw:IntKind.i64.wrap (x+b) = x+b:=by rw [wrap_i64];omega
 rw [hw] at h;have h3:0≤x+b:=by omega
 have h4:=Int.tmod_nonneg (b:Int) h3;have h5:=Int.tmod_lt_of_pos (x+b) (show (0:Int) < b by omega);refine ⟨((x+b).tmod b).toNat,by omega,?_⟩;rw [h];congr 3;omega
def jl (nil:Bool) (zs:List Int) (k:Nat):List D:=[.vsl nil (zL .i64 zs) zs.length,.int .i64 k]
theorem qdD {k:IntKind} {l:List Int} {i:Nat} (h:i < l.length):(zL k l).drop i = .int k l[i] :: zL k (l.drop (i+1)):=by
 unfold zL;rw [← List.map_drop,List.drop_eq_getElem_cons h];rfl
@[simp] theorem q3l (k:IntKind) (l:List Int):(zL k l).length = l.length:=by simp [zL]
theorem Ys (nil:Bool) (zs:List Int) (k:Nat):(∀ x,x∈jl nil zs k→idFree x = true) = True:=eq_true (by
 unfold jl;simp)
theorem Yr (nil:Bool) (zs:List Int) (k:Nat):(jl nil zs k).length = 2:=rfl
theorem Yt (nil:Bool) (zs:List Int) (k n:Nat):(∀ x,x∈jl nil zs k→closed n x = true) = True:=eq_true (by
 unfold jl;simp)
theorem qoR [MaxL] [TxtC] (nil:Bool) (zs:List Int) (k:Nat):call cx 58 [.optr 0 2 0] [some (jl nil zs k)] = some (.bool (decide (k < zs.length)),[some (jl nil zs k)]):=by
 refine qq Tryz.func58 rfl ⟨rfl,rfl⟩ ?_;unfold jl;by_cases h:k < zs.length
 ·have h':(k:Int) < (zs.length:Int):=by omega
  simp [Tryz.f58,h,h']
 ·have h':¬ (k:Int) < (zs.length:Int):=by omega
  simp [Tryz.f58,h,h']
theorem qhk [MaxL] [TxtC] (n b:Int) (hb:1≤b) (zm:b≤1000000):∃ x:Nat,(x:Int) < b∧call cx 24 [.int .i64 n,.int .i64 b] [] = some (.int .i64 x,[]):=by
 obtain ⟨x,h1,h2⟩:=qbj n b.toNat (by omega) (by omega);rw [show ((b.toNat:Nat):Int) = b by omega] at h2;exact ⟨x,by omega,h2⟩
theorem ZQ [MaxL] [TxtC] (nil:Bool) (zs:List Int) (qJ:nil = true→zs = []) (hz:zs.length≤1000000) (k:Nat) (b:Int) (hb:1≤b) (zm:b≤1000000) :
  ∃ x k':Nat,(x:Int) < b∧(k < zs.length→k < k')∧call cx 59 [.optr 0 2 0,.int .i64 b] [some (jl nil zs k)] = some (.int .i64 x,[some (jl nil zs k')]):=by
 unfold jl;by_cases qg:k < zs.length
 ·have hnf:nil = false:=by
   cases nil with
   | false=>rfl
   | true=>rw [qJ rfl] at qg;simp at qg
  subst hnf;have qk:¬ (zs.length:Int)≤(k:Int):=by omega
  have ki:(k:Int) < (zs.length:Int):=by omega
  have hw:IntKind.i64.wrap ((k:Int)+1) = ((k+1:Nat):Int):=by rw [wrap_i64] <;> omega
  have zg:IntKind.i64.wrap (((k+1:Nat):Int) - 1) = (k:Int):=by rw [wrap_i64] <;> omega
  have hw3:IntKind.i64.wrap (k:Int) = (k:Int):=by rw [wrap_i64];omega
  obtain ⟨x,hx,hn⟩:=qhk zs[k] b hb zm;refine ⟨x,k+1,hx,fun _=>Nat.lt_succ_self k,?_⟩;refine qq Tryz.func59 rfl ⟨rfl,rfl⟩ ?_;simp [Tryz.f59,qk,hw,ki,hw3,qdD qg,hn]
 ·have qk:(zs.length:Int)≤(k:Int):=by omega
  refine ⟨0,k,by omega,fun h=>absurd h qg,?_⟩;refine qq Tryz.func59 rfl ⟨rfl,rfl⟩ ?_;simp [Tryz.f59,qk]
def namesL:List (List UInt8):=[[65],[66],[77,69,83,83,65,71,69],[95,80,73,68],[88,95,49],[80,82,73,79,82,73,84,89]]
def valuesL:List (List UInt8):=[[],[48],[49],[50,50],[97,61,98],[111,110,101,10,116,119,111],[0,255],[116,97,98,9,104,101,114,101],[108,111,110,103,32,108,111,110,103,32,108,111,110,103,32,108,111,110,103,32,108,111,110,103,32,108,111,110,103,32,108,111,110,103],[126,127,128]]
def strD (l:List (List UInt8)):List D:=l.map D.str
theorem qfn {l:List (List UInt8)} {i:Nat} (h:i < l.length):(strD l).drop i = .str l[i] :: strD (l.drop (i+1)):=by
 unfold strD;rw [← List.map_drop,List.drop_eq_getElem_cons h];rfl
theorem qoJ [MaxL] [TxtC]:call cx 164 [] [] = some (.vsl false (strD namesL) 6,[]):=by
 refine call_some.2 ⟨60,?_⟩;kernel_rfl
theorem qkQ [MaxL] [TxtC]:call cx 165 [] [] = some (.vsl false (strD valuesL) 10,[]):=by
 refine call_some.2 ⟨60,?_⟩;kernel_rfl
def ZD (p:Pr):Bool:=ke p && (decide (p.name.length≤8) && decide (p.value.length≤36))
theorem qbm {p:Pr} (h:ZD p = true):ke p = true:=by
 unfold ZD at h;rw [Bool.and_eq_true] at h;exact h.1
theorem qoT {p:Pr} (h:ZD p = true):p.name.length≤8∧p.value.length≤36:=by
 unfold ZD at h;simp only [Bool.and_eq_true,decide_eq_true_eq] at h;exact h.2
theorem qoe:∀ n∈namesL,∀ v∈valuesL,ZD ⟨n,v⟩ = true:=by decide
set_option maxHeartbeats 1000000 in
theorem qoQ [MaxL] [TxtC] (nil:Bool) (zs:List Int) (qJ:nil = true→zs = []) (hz:zs.length≤1000000) (k:Nat) :
  ∃ (p:Pr) (k':Nat),ZD p = true∧call cx 139 [.optr 0 2 0] [some (jl nil zs k)] = some (.agg (Enc.cells p),[some (jl nil zs k')]):=by
 obtain ⟨x,k1,hx,-,h1⟩:=ZQ nil zs qJ hz k 6 (by decide) (by decide);obtain ⟨y,k2,hy,-,h2⟩:=ZQ nil zs qJ hz k1 10 (by decide) (by decide);have hx':x < namesL.length:=by show x < 6;omega
 have hy':y < valuesL.length:=by show y < 10;omega
 have g1:=qoJ;have g2:=qkQ;refine ⟨⟨namesL[x],valuesL[y]⟩,k2,qoe _ (List.getElem_mem hx') _ (List.getElem_mem hy'),?_⟩;have a1:=qfn hx';have a2:=qfn hy';generalize namesL[x] = n at *;generalize valuesL[y] = v at *;generalize strD namesL = N at *;generalize strD valuesL = V at *;refine qq Tryz.func139 rfl ⟨rfl,rfl⟩ ?_;unfold jl at h1 h2 ⊢;simp [Tryz.f139,h1,h2,g1,g2,a1,a2,hx,hy,Pr.cells]
def Zd (j:Nat):ID:=⟨[94,0,0,0,0,0,0,0,0,0,0,0,0,0,0,UInt8.ofNat j],rfl⟩
theorem qbn [MaxL] [TxtC] {j:Nat} (hj:j < 5):call cx 60 [.int .i64 j] [] = some (.agg (qd (Zd j).l),[]):=by
 have h:j = 0∨j = 1∨j = 2∨j = 3∨j = 4:=by omega
 refine call_some.2 ⟨60,?_⟩;rcases h with rfl | rfl | rfl | rfl | rfl <;> kernel_rfl
theorem qoK {n:List UInt8} (h:kf n = true):n.length≤64:=by
 unfold kf at h;split at h
 ·cases h
 ·simp only [Bool.and_eq_true,decide_eq_true_eq] at h;exact h.1.1
theorem qdd {p:Pr} (h:ke p = true):kf p.name = true∧p.name.length≤64∧p.value.length≤256:=by
 unfold ke at h;simp only [Bool.and_eq_true,decide_eq_true_eq] at h;exact ⟨h.1,qoK h.1,h.2⟩
theorem qsE [MaxL] [TxtC] (p:Pr) (h:ke p = true):call cx 137 [.agg (Enc.cells p)] [] = some (.tup [.vsl false (qd (ju p)) (ju p).length,.int .i64 0],[]):=by
 obtain ⟨hn,vr,hv⟩:=qdd h;have hnm:=qgb p.name (by omega);rw [hn] at hnm;have hp:=qba p (by omega) (by omega);have hv':¬ (256:Int) < (p.value.length:Int):=by omega
 refine qq Tryz.func137 rfl ⟨rfl,rfl⟩ ?_;rw [Pr.cells] at hp ⊢;have hl:(ju p).length≤321:=by unfold ju;simp;omega
 have qr:(ju p).length≠0:=by unfold ju;simp
 generalize ju p = w at *;have hm:w.length≤140737488355328:=by omega
 simp [Tryz.f137,hnm,hp,hv']
theorem qbq {X:Cx} {f nt n0:Nat} {Q:Ex→qp→qi→Prop} {fs:List Fr} {c:Code} {σ:Type} (I:σ→qp→qi→Prop) (m:σ→Nat) (s:σ) (J:Ex→qp→qi→Prop) {e:qp} {H:qi} (h0:I s e H)
  (step:∀ s e H,I s e H→Run X f nt n0 (fun ex e' H'=>match ex with | .normal=>∃ s',m s' < m s∧I s' e' H' | ex=>J ex e' H') [] (code X f nt n0 c e H))
  (done:∀ ex e H,J ex e H→Run X f nt n0 Q fs (some (ex,e,H))):Run X f nt n0 Q fs (code X f nt n0 (.loop c) e H):=by
 refine Run.loopThen I m s h0 fun s e H hi=>Run.mono (step s e H hi) fun ex e H hq=>?_;rw [Jd];cases ex with
 | normal=>exact hq
 | _=>exact done _ _ _ hq
def LsM (L:List Pr) (d:D) (H:qi):Prop :=
 ∃ n k t,n = L.length * 2∧k = L.length∧((d = .osl 1 n 0 k 2∧H = [some t,some (qh L)])∨(d = .osl 0 n 0 k 2∧H = [some (qh L),some t])∨(d = .osl 0 n 0 k 2∧H = [some (qh L)]))
def LsH (out:List Pr) (d:D) (H:qi):Prop :=
 (out = []∧d = .vsl true [] 0∧H = [])∨(out≠[]∧LsM out d H)
def LsQ (q:D × qi):Prop:= ∃ out:List Pr,1≤out.length∧out.length≤4∧(∀ p∈out,ZD p = true)∧q = (.tup [.vsl false (qh out) out.length,.int .i64 0],[])
set_option maxHeartbeats 4000000 in
theorem qpr [MaxL] [TxtC] (l:List Pr) (h1:1≤l.length) (h4:l.length≤4) (hok:∀ p∈l,ZD p = true):∃ q,call cx 93 [.vsl false (qh l) l.length] [] = some q∧LsQ q:=by
 refine vf (X:=cx) (f:=93) (args:=[.vsl false (qh l) l.length]) (H:=[]) LsQ Tryz.func93 rfl ⟨rfl,rfl⟩ ?_;have hz:¬ l.length = 0:=by omega
 simp [Tryz.f93,hz];refine Run.loopThen (fun (q:Nat × List Pr) e H'=>q.1≤l.length∧q.2.length≤q.1∧(1≤q.1→1≤q.2.length)∧(∀ p∈q.2,ZD p = true)∧qf e 0 = some (.vsl false (qh l) l.length)∧qf e 5 = some (.int .i64 (q.1:Nat))∧∃ d,qf e 4 = some d∧LsH q.2 d H') (fun q=>l.length - q.1) (0,[]) ?_ ?_
 ·exact ⟨by simp,by simp,by simp,by simp,by simp,by simp,_,by simp,.inl ⟨rfl,rfl,rfl⟩⟩
 rintro ⟨i,out⟩ e H' ⟨hi,ho,ho1,hp,k0,k5,d,k4,hH⟩;simp only at hi ho ho1 hp k5 hH;by_cases qg:i < l.length
 ·have qk:(i:Int) < (l.length:Int):=by omega
  have hj:=qsE l[i] (qbm (hok _ (List.getElem_mem qg)));have jZ:=hok _ (List.getElem_mem qg);obtain ⟨-,hb1,zm⟩:=qdd (qbm jZ);have hw5:IntKind.i64.wrap ((i:Int)+1) = ((i+1:Nat):Int):=by rw [wrap_i64] <;> omega
  rw [Pr.cells] at hj;rcases hH with ⟨rfl,rfl,rfl⟩ | ⟨qr,n,k,t,hn,hk,hH⟩
  ·simp [k0,k4,k5,qg,qk,hj,Pr.cells];refine JL ?_;simp [qB];refine JL ?_;simp [qg,qk,Pr.cells,hw5];exact ⟨i+1,by omega,by omega,[l[i]],by simp,fun _=>by simp,by simp [jZ],by simp,.inr ⟨by simp,2,1,_,rfl,rfl,.inl ⟨rfl,rfl⟩⟩⟩
  have qu:List.take n (qh out) = qh out:=List.take_of_length_le (by simp;omega);have qR:out.length = k:=hk.symm;have qV:k * 2 = n:=by omega
  have zH:(k+1) * 32≤140737488355328:=by omega
  have zj:k+1≤140737488355328:=by omega
  have jX:IntKind.i64.wrap (k:Int) = (k:Int):=by rw [wrap_i64];omega
  rcases hH with ⟨rfl,rfl⟩ | ⟨rfl,rfl⟩ | ⟨rfl,rfl⟩
  all_goals
   simp [k0,k4,k5,qg,qk,hj,Pr.cells]
   refine qbq (fun (z:Nat) e H'=>z≤k∧qf e 0 = some (.vsl false (qh l) l.length)∧qf e 4 = some (.osl 0 n 0 k 2)∧qf e 5 = some (.int .i64 (i:Nat))∧qf e 8 = some (.int .i64 (z:Nat))∧H' = [some (qh out)]) (fun z=>k - z) 0
    (fun ex e H'=>ex = .exit 2∧∃ z,z≤k∧qf e 0 = some (.vsl false (qh l) l.length)∧qf e 4 = some (.osl 0 n 0 k 2)∧qf e 5 = some (.int .i64 (i:Nat))∧qf e 8 = some (.int .i64 (z:Nat))∧H' = [some (qh out)]) ⟨Nat.zero_le _,by simp,by simp,by simp,by simp,rfl⟩ ?_ ?_
   ·clear k0 k4 k5;rintro z e H' ⟨hz,k0,k4,k5,k8,rfl⟩;have hwz:IntKind.i64.wrap ((z:Int)+1) = ((z+1:Nat):Int):=(by rw [wrap_i64] <;> omega);by_cases hzl:z < k
    ·have hzo:z < out.length:=(by omega);obtain ⟨-,c1,c2⟩:=qdd (qbm (hp _ (List.getElem_mem hzo)));have p1:=qba out[z] (by omega) (by omega);have p2:=qba l[i] (by omega) (by omega);rw [Pr.cells] at p1 p2;generalize ju out[z] = w1 at *;generalize ju l[i] = w2 at *;cases hb:Op.bytesLess w1 w2 with
     | true =>
      simp [k0,k4,k5,k8,hzl,qg,qk,Pr.cells,p1,p2,hb,hwz,qR,qV];exact ⟨z+1,by omega,by omega,rfl⟩
     | false =>
      simp [k0,k4,k5,k8,hzl,qg,qk,Pr.cells,p1,p2,hb,qR,qV];exact ⟨z,hz,rfl⟩
    ·simp [k0,k4,k5,k8,hzl];exact ⟨z,hz,rfl⟩
   ·clear k0 k4 k5;rintro ex e H' ⟨rfl,z,hz,k0,k4,k5,k8,rfl⟩
    have hcase:(∃ h:z < out.length,out[z].name = l[i].name∧out[z].value = l[i].value)∨(∃ h:z < out.length,¬ out[z].name = l[i].name)∨(∃ h:z < out.length,out[z].name = l[i].name∧¬ out[z].value = l[i].value)∨¬ z < k:=by
     by_cases h:z < out.length
     ·by_cases h1:out[z].name = l[i].name
      ·by_cases h2:out[z].value = l[i].value
       ·exact .inl ⟨h,h1,h2⟩
       ·exact .inr (.inr (.inl ⟨h,h1,h2⟩))
      ·exact .inr (.inl ⟨h,h1⟩)
     ·exact .inr (.inr (.inr (by omega)))
    have Q3:=fun (h:z < out.length)=>(show z < k by omega);rcases hcase with ⟨hzo,e1,e2⟩ | ⟨hzo,e1⟩ | ⟨hzo,e1,e2⟩ | hzl
    ·simp [k0,k4,k5,k8,Q3 hzo,qg,qk,Pr.cells,e1,e2,qR,qV,hw5];exact ⟨i+1,by omega,by omega,out,by omega,fun _=>by omega,hp,by simp,.inr ⟨qr,n,k,t,hn,hk,.inr (.inr ⟨rfl,rfl⟩)⟩⟩
    all_goals
     first
      | simp [k0,k4,k5,k8,Q3 hzo,qg,qk,Pr.cells,e1,e2,qR,qV,jX,zH,zj,qB]
      | simp [k0,k4,k5,k8,Q3 hzo,qg,qk,Pr.cells,e1,qR,qV,jX,zH,zj,qB]
      | simp [k0,k4,k5,k8,hzl,qR,qV,jX,zH,zj,qB]
     refine qbq (fun (q:Nat × List Pr) e H'=>z≤q.1∧q.1≤k∧q.2.length = k+1∧(∀ x (h:x < q.2.length),x≠q.1→ZD q.2[x] = true)∧qf e 0 = some (.vsl false (qh l) l.length)∧qf e 4 = some (.osl 0 (n+2) 0 (k+1) 2)∧qf e 5 = some (.int .i64 (i:Nat))∧qf e 8 = some (.int .i64 (z:Nat))∧qf e 9 = some (.int .i64 (q.1:Nat))∧H' = [some (qh q.2),some [.str [],.str []]]) (fun q=>q.1 - z) (k,out ++ [⟨[],[]⟩])
      (fun ex e H'=>ex = .exit 4∧∃ L:List Pr,L.length = k+1∧(∀ x (h:x < L.length),x≠z→ZD L[x] = true)∧qf e 0 = some (.vsl false (qh l) l.length)∧qf e 4 = some (.osl 0 (n+2) 0 (k+1) 2)∧qf e 5 = some (.int .i64 (i:Nat))∧qf e 8 = some (.int .i64 (z:Nat))∧H' = [some (qh L),some [.str [],.str []]]) ?_ ?_ ?_
     ·refine ⟨hz,Nat.le_refl _,by simp [qR],fun x h hx=>?_,by simp,by simp,by simp,by simp,by simp,by rw [QI];rfl⟩;have hxo:x < out.length:=(by simp at h;omega);simp only [List.getElem_append_left hxo];exact hp _ (List.getElem_mem hxo)
     ·clear k0 k4 k5 k8;rintro ⟨j,L⟩ e H' ⟨hzj,hjk,hLl,hLp,k0,k4,k5,k8,k9,rfl⟩;simp only at hzj hjk hLl hLp k9;by_cases hj2:z < j
      ·obtain ⟨a,rfl⟩:∃ a,j = a+1:=⟨j - 1,by omega⟩;have hwa:IntKind.i64.wrap (((a+1:Nat):Int) - 1) = (a:Int):=(by rw [wrap_i64] <;> omega);have hwb:IntKind.i64.wrap ((a:Int)+1 - 1) = (a:Int):=(by rw [wrap_i64] <;> omega);have hwc:IntKind.i64.wrap (a:Int) = (a:Int):=(by rw [wrap_i64];omega);have hak:a < k:=(by omega);have ha1:(a:Int) < (k:Int)+1:=(by omega);have hza:(z:Int) < (a:Int)+1:=(by omega);have hza2:z < a+1:=hj2;have h0a:(0:Int)≤(a:Int)+1:=(by omega);have ha2n:(a+1) * 2≤n:=(by omega);have ha2:a < L.length:=(by omega);have ha3:a+1 < L.length:=(by omega);have hLn:L.length * 2 = n+2:=(by omega);simp [k0,k4,k5,k8,k9,hwc,hak,ha1,ha2,ha3,hLn,hza,h0a,ha2n];refine ⟨a,by omega,by omega,by omega,_,by simp [hLl],fun x h hx=>?_,rfl,rfl⟩;rw [List.getElem_set];split
       ·exact hLp a ha2 (by omega)
       ·exact hLp x (by simpa using h) (by omega)
      ·simp [k0,k4,k5,k8,k9,hj2];exact ⟨L,hLl,fun x h hx=>hLp x h (by omega),rfl⟩
     ·clear k0 k4 k5 k8;rintro ex e H' ⟨rfl,L,hLl,hLp,k0,k4,k5,k8,rfl⟩;have hzl2:z < L.length:=(by omega);have hz1:(z:Int) < (k:Int)+1:=(by omega);have hz2:z * 2≤n:=(by omega);have hLn:L.length * 2 = n+2:=(by omega);simp [k0,k4,k5,k8,hzl2,qg,qk,hw5,hz1,hz2,hLn];refine ⟨i+1,by omega,by omega,L.set z l[i],by simp [hLl];omega,fun _=>by simp [hLl],fun p hp=>?_,by simp,.inr ⟨fun h=>?_,n+2,k+1,_,by simp [hLn],by simp [hLl],.inr (.inl ⟨rfl,rfl⟩)⟩⟩
      ·obtain ⟨x,hx,rfl⟩:=List.mem_iff_getElem.1 hp;rw [List.getElem_set];split
       ·exact jZ
       ·exact hLp x (by simpa using hx) (by omega)
      ·have:=congrArg List.length h;simp [hLl] at this
 ·have qk:¬ (i:Int) < (l.length:Int):=by omega
  have ho2:=ho1 (by omega);rcases hH with ⟨rfl,rfl,rfl⟩ | ⟨qr,n,k,t,hn,hk,hH⟩
  ·simp at ho2
  have zI:¬ (16:Int) < (k:Int):=by omega
  have qu:List.take n (qh out) = qh out:=List.take_of_length_le (by simp;omega);have qR:out.length = k:=hk.symm;have qV:k * 2 = n:=by omega
  rcases hH with ⟨rfl,rfl⟩ | ⟨rfl,rfl⟩ | ⟨rfl,rfl⟩
  all_goals
   simp [k0,k4,k5,qk,zI,qu,qR,qV];exact ⟨out,by omega,by omega,hp,by rw [qR]⟩
theorem qjo {l:List UInt8} {i:Nat} (h:i < l.length):(qd l).drop i = .int .u8 l[i].toNat :: qd (l.drop (i+1)):=by
 unfold qd;rw [← List.map_drop,List.drop_eq_getElem_cons h];rfl
set_option maxHeartbeats 2000000 in
theorem qvz [MaxL] [TxtC] (s:BitVec 32) (b:Sl UInt8) (hn:b.l.length < 4611686018427387904):call cx 145 [.int .u32 s.toNat,(.vsl b.nil (qd b.l) b.l.length)] [] = some (.int .u32 ((Qb s b.l).toNat:Nat),[]):=by
 refine qq Tryz.func145 rfl ⟨rfl,rfl⟩ ?_;have hun:∀ v:BitVec 32,Qt .xor (.int .u32 (v.toNat:Int)) = some (.int .u32 ((~~~ v).toNat:Int)):=fun v=>congrArg (fun x=>some (D.int .u32 x)) (qhm v);have h0:=hun s;unfold Qb;obtain ⟨g,hg⟩:∃ g,Xu (~~~ s) b.l = g:=⟨_,rfl⟩;rw [hg];have h1:=hun g;generalize ((~~~ g).toNat:Int) = r at *;generalize ~~~ s = s0 at *;clear hun;simp [-Qt,Tryz.f145,h0];refine Run.loopThen (fun (q:Nat × BitVec 32) e H'=>q.1≤b.l.length∧Xu q.2 (b.l.drop q.1) = g∧qf e 0 = some (.int .u32 (q.2.toNat:Int))∧qf e 9 = some (.vsl b.nil (qd b.l) b.l.length)∧qf e 10 = some (.int .i64 b.l.length)∧qf e 11 = some (.int .i64 (q.1:Nat))∧H' = []) (fun q=>b.l.length - q.1) (0,s0) ⟨Nat.zero_le _,by simpa using hg,by simp,by simp,by simp,by simp,rfl⟩ ?_;rintro ⟨i,v⟩ e H' ⟨hi,hR,k0,k9,k10,k11,rfl⟩;simp only at hi hR k0 k11;by_cases qg:i < b.l.length
 ·have qk:(i:Int) < (b.l.length:Int):=by omega
  have hw:IntKind.i64.wrap ((i:Int)+1) = ((i+1:Nat):Int):=by rw [wrap_i64] <;> omega
  have hd:=qjo qg;have hb:=qka v b.l[i];rw [List.drop_eq_getElem_cons qg] at hR;generalize b.l[i] = c at *;replace hR:Xu (QQ 8 (v ^^^ BitVec.ofNat 32 c.toNat)) (b.l.drop (i+1)) = g:=hR;generalize v ^^^ BitVec.ofNat 32 c.toNat = w at *;have hwc:IntKind.u32.wrap (c.toNat:Int) = (c.toNat:Int):=by have:=c.toNat_lt;rw [Jx];omega
  simp [-Qt,k0,k9,k10,k11,qk,Sl.nn qg,hd,hwc,hb]
  refine qbq (fun (q:Nat × BitVec 32) e H'=>q.1≤8∧QQ (8 - q.1) q.2 = QQ 8 w∧qf e 0 = some (.int .u32 (q.2.toNat:Int))∧qf e 9 = some (.vsl false (qd b.l) b.l.length)∧qf e 10 = some (.int .i64 b.l.length)∧qf e 11 = some (.int .i64 (i:Nat))∧qf e 19 = some (.int .i64 (q.1:Nat))∧H' = []) (fun q=>8 - q.1) (0,w)
   (fun ex e H'=>ex = .exit 2∧qf e 0 = some (.int .u32 ((QQ 8 w).toNat:Int))∧qf e 9 = some (.vsl false (qd b.l) b.l.length)∧qf e 10 = some (.int .i64 b.l.length)∧qf e 11 = some (.int .i64 (i:Nat))∧H' = []) ⟨Nat.zero_le _,rfl,by simp,by simp,by simp,by simp,by simp,rfl⟩ ?_ ?_
  ·clear k0 k9 k10 k11;rintro ⟨j,u⟩ e H' ⟨hj,hu,k0,k9,k10,k11,k19,rfl⟩;simp only at hj hu k0 k19;by_cases hj8:j < 8
   ·have kZ:(j:Int) < 8:=(by omega);have hwj:IntKind.i64.wrap ((j:Int)+1) = ((j+1:Nat):Int):=(by rw [wrap_i64] <;> omega);have hb1:=qvZ u;have zm:=qit u;rw [show (2:Int) = 2 ^ min 1 IntKind.u32.bits from rfl] at zm;have hb3:=qgK (u >>> 1)
    have hst:QQ (8 - (j+1)) (qad u) = QQ 8 w:=by
     rw [← hu,show 8 - j = (8 - (j+1))+1 by omega];rfl
    unfold qad at hst;generalize u >>> 1 = h at *;by_cases hp:u.toNat % 2 = 1
    ·rw [hp] at hb1;rw [if_pos hp] at hst;generalize h ^^^ 2197175160#32 = y at *;simp [-Qt,k0,k9,k10,k11,k19,kZ,hwj,hb1];exact ⟨j+1,by omega,by omega,y,hst,by rw [zm,hb3],rfl⟩
    ·have hp0:u.toNat % 2 = 0:=(by omega);rw [hp0] at hb1;rw [if_neg hp] at hst;simp [-Qt,k0,k9,k10,k11,k19,kZ,hwj,hb1];exact ⟨j+1,by omega,by omega,h,hst,zm,rfl⟩
   ·have kZ:¬ (j:Int) < 8:=(by omega);have hj0:8 - j = 0:=(by omega);rw [hj0] at hu;replace hu:u = QQ 8 w:=hu;simp [-Qt,k0,k9,k10,k11,k19,kZ,hu]
  ·clear k0 k9 k10 k11;rintro ex e H' ⟨rfl,k0,k9,k10,k11,rfl⟩;generalize QQ 8 w = z at *;simp [-Qt,k0,k9,k10,k11,hw];exact ⟨i+1,by omega,by omega,z,hR,rfl,rfl⟩
 ·have qk:¬ (i:Int) < (b.l.length:Int):=by omega
  rw [List.drop_eq_nil_of_le (by omega)] at hR;replace hR:v = g:=hR;subst hR;simp [-Qt,k0,k9,k10,k11,qk,h1]
theorem quN [MaxL] [TxtC] (b:Sl UInt8) (hn:b.l.length < 4611686018427387904):call cx 104 [.vsl false [(.vsl b.nil (qd b.l) b.l.length)] 1] [] = some (.int .u32 ((Qb 0#32 b.l).toNat:Nat),[]):=by
 have h:=qvz 0#32 b hn;replace h:call cx 145 [.int .u32 0,(.vsl b.nil (qd b.l) b.l.length)] [] = some (.int .u32 ((Qb 0#32 b.l).toNat:Nat),[]):=h;generalize ((Qb 0#32 b.l).toNat:Nat) = r at *;refine qq Tryz.func104 rfl ⟨rfl,rfl⟩ ?_;simp [Tryz.f104];refine JL ?_;simp [h];refine JL ?_;simp
end Go.Ev.S
namespace Go.Ev
open Go Go.Proofs
def Vh (b:List UInt8):Bool:=decide (leN (b.drop (b.length - 4)) = (Qb 0#32 (b.take (b.length - 4))).toNat)
def ku (b:List UInt8):List UInt8:=b ++ qC 4 (Qb 0#32 b).toNat
theorem KT (b:List UInt8):(ku b).length = b.length+4:=by simp [ku]
theorem qkD {a b:Nat} (ha:a < 256) (hb:b < 256):ze .u8 (a:Int) (b:Int) = ((a ^^^ b:Nat):Int):=by
 have h:a ^^^ b < 2 ^ 8:=Nat.xor_lt_two_pow (n:=8) ha hb;unfold ze;show IntKind.u8.wrap ((BitVec.ofInt 8 (a:Int) ^^^ BitVec.ofInt 8 (b:Int)).toNat:Int) = _;rw [BitVec.ofInt_natCast,BitVec.ofInt_natCast,BitVec.toNat_xor,BitVec.toNat_ofNat,BitVec.toNat_ofNat,Nat.mod_eq_of_lt ha,Nat.mod_eq_of_lt hb,Qd];omega
end Go.Ev
namespace Go.Ev.S
open Go Go.Proofs Go.Ev
def Jm:List UInt8:=[68,66,65,84]
def VF (it:It):List UInt8:=qC 4 (zp it).length ++ zp it
def Kf (l:List It) (m:List Mk):List UInt8:=Jm ++ (qC 2 l.length ++ (l.flatMap VF ++ Zv m))
def Zr (l:List It) (m:List Mk):Bool:=decide (l.length≤64) && (jJ m && l.all zw)
def Jh (l:List It) (m:List Mk):Sl UInt8:=if Zr l m && decide ((ku (Kf l m)).length≤65536) then .of (ku (Kf l m)) else .none
def QH:Nat→List UInt8→List It→List It × List Mk × Int
 | 0,r,out=>if (jG r).2 = 0 then (if Go.Ev.readN (jG r) < (r.length:Int) then ([],[],21) else (out,(jG r).1,0)) else ([],[],(jG r).2)
 | k+1,r,out=>if r.length < 4∨r.length - 4 < leN (r.take 4) then ([],[],22) else if QX ((r.drop 4).take (leN (r.take 4))) = true∧(zp (zX ((r.drop 4).take (leN (r.take 4))))).length = leN (r.take 4) then QH k (r.drop (4+leN (r.take 4))) (out ++ [zX ((r.drop 4).take (leN (r.take 4)))]) else ([],[],20)
def VG (x:List UInt8):List It × List Mk × Int:=if x.length < 4 then ([],[],22) else if pre Jm x then (if x.length < 6 then ([],[],22) else if 64 < leN ((x.drop 4).take 2) then ([],[],21) else QH (leN ((x.drop 4).take 2)) (x.drop 6) []) else ([],[],6)
def vo (b:List UInt8):List It × List Mk × Int:=if b.length < 4 then ([],[],22) else if Vh b then VG (b.take (b.length - 4)) else ([],[],19)
theorem qhs (l:List Mk):(Zv l).length = 1+l.length * 40:=by
 unfold Zv;rw [List.length_cons,qdv,Nat.add_comm]
theorem qsG (it:It):(VF it).length = 4+(zp it).length:=by simp [VF]
theorem qnE {l:List It} {m:List Mk} (h:Zr l m = true):l.length≤64∧jJ m = true∧∀ x∈l,zw x = true:=by
 unfold Zr at h;simp only [Bool.and_eq_true,decide_eq_true_eq,List.all_eq_true] at h;exact h
theorem qeZ (s:BitVec 32):IntKind.u64.wrap (s.toNat:Int) = (s.toNat:Int):=by
 have:=s.isLt;rw [qK];omega
def XD (l:List UInt8):D:=if l.length < 4 then .tup [.vsl true [] 0,.int .i64 22] else if Vh l then .tup [(.vsl ((.of (l.take (l.length - 4)):Sl UInt8)).nil (qd ((.of (l.take (l.length - 4)):Sl UInt8)).l) ((.of (l.take (l.length - 4)):Sl UInt8)).l.length),.int .i64 0] else .tup [.vsl true [] 0,.int .i64 19]
theorem qpx {l:List UInt8} (h:4≤l.length):kV l ((l.length - 4:Nat):Int) 4 = some (leN (l.drop (l.length - 4))):=by
 unfold kV;rw [if_pos ⟨rfl,by omega,by omega⟩];congr 2;rw [show ((l.length - 4:Nat):Int).toNat = l.length - 4 from rfl,List.take_of_length_le (by rw [List.length_drop];show _≤4;omega)]
theorem quS [MaxL] [TxtC] (b:Sl UInt8) (hn:b.l.length≤140737488354000):call cx 107 [(.vsl b.nil (qd b.l) b.l.length)] [] = some (XD b.l,[]):=by
 refine qq Tryz.func107 rfl ⟨rfl,rfl⟩ ?_;have hw0:IntKind.i64.wrap ((b.l.length:Int) - 4) = (b.l.length:Int) - 4:=by rw [wrap_i64];omega
 unfold XD;by_cases h4:b.l.length < 4
 ·rw [if_pos h4];have qg:(b.l.length:Int) - 4 < 0:=by omega
  simp [Tryz.f107,hw0,qg]
 rw [if_neg h4];obtain ⟨n,hn4⟩:∃ n,b.l.length - 4 = n:=⟨_,rfl⟩;have qF:IntKind.i64.wrap ((b.l.length:Int) - 4) = (n:Int):=by rw [hw0];omega
 have hnn:b.nil = false:=Sl.nn (i:=0) (by omega);have hg:=XH b (n:Int) 4 (by omega) (by omega);have hge:=qpx (l:=b.l) (by omega);rw [hn4] at hge;rw [hge] at hg;have h1:=quN (.of (b.l.take n)) (by simp;omega);have hw:=qeZ (Qb 0#32 (b.l.take n));have ji:=qe6 (.of (b.l.take n)) (by simp;omega);have hng:(0:Int)≤(n:Int):=by omega
 have qQ:n≤b.l.length:=by omega
 have jm:(b.l.take n).length = n:=by rw [List.length_take];omega
 have qu:List.take n (qd b.l) = qd (b.l.take n):=vK _ _;have hs:Vh b.l = decide (leN (b.l.drop n) = (Qb 0#32 (b.l.take n)).toNat):=by unfold Vh;rw [hn4]
 rw [hs,hn4];unfold J2 at hg;simp only [Sl.of_l,Sl.of_nil,jm] at h1 hw ji;simp only [Option.getD_some,Option.isSome_some] at hg;generalize leN (b.l.drop n) = v at *;generalize Qb 0#32 (b.l.take n) = c at *;generalize b.l.take n = y at *;have hcond:((v:Int) = (c.toNat:Int)) = (v = c.toNat):=propext ⟨fun h=>Int.ofNat.inj h,fun h=>congrArg _ h⟩;have hngi:¬ (n:Int) < 0:=by omega
 rw [hnn] at hg;rw [if_neg (by decide)] at ji;by_cases hv:v = c.toNat
 ·subst hv;simp [Tryz.f107,qF,hnn,hg,h1,hw,ji,hng,hngi,qQ,qu,jm]
 ·rw [decide_eq_false hv];simp [Tryz.f107,qF,hnn,hg,h1,hw,hng,hngi,qQ,qu,hcond,hv]
set_option maxRecDepth 4000 in
set_option maxHeartbeats 4000000 in
theorem qoN [MaxL] [TxtC] (s:Sl UInt8) (hn:s.l.length < 4611686018427387904) :
  call cx 32 [(.vsl s.nil (qd s.l) s.l.length)] [] = some (.tup [(.vsl (Sl.grown (jG s.l).1).nil (qh (Sl.grown (jG s.l).1).l) (Sl.grown (jG s.l).1).l.length),.int .i64 (readN (jG s.l)),.int .i64 (jG s.l).2],[]):=by
 refine qq Tryz.func32 rfl ⟨rfl,rfl⟩ ?_;obtain ⟨nil,l,qJ⟩:=s;simp only at hn ⊢;cases l with
 | nil=>simp [Tryz.f32,jG,readN,Sl.grown]
 | cons c r =>
  have hnf:nil = false:=by
   cases nil with
   | false=>rfl
   | true=>simpa using qJ rfl
  subst hnf;have qr:¬ ((r.length:Int)+1 = 0):=by omega
  have vA:(0:Int) < (r.length:Int)+1:=by omega
  by_cases h4:4 < c.toNat
  ·have h4':(4:Int) < (c.toNat:Int):=(by omega);simp [Tryz.f32,jG,readN,Sl.grown,qr,vA,VC,h4,h4']
  ·have h4':¬ (4:Int) < (c.toNat:Int):=(by omega);have hwc:IntKind.i64.wrap (c.toNat:Int) = (c.toNat:Int):=(by rw [wrap_i64];omega);simp [Tryz.f32,qr,vA,VC,h4',hwc]
   refine Run.loopThen (fun (i:Nat) e H=>i≤c.toNat∧∃ (d:D) (out:List Mk),BufE 19 d H out∧out.length = i∧40 * i≤r.length∧qf e 0 = some (.vsl false (qd (c :: r)) (r.length+1))∧qf e 5 = some d∧qf e 21 = some (.int .i64 c.toNat)∧qf e 22 = some (.int .i64 i) ∧
    jG (c :: r) = Zp (c.toNat - i) (r.drop (40 * i)) out) (fun i=>c.toNat - i) 0 ?_ ?_
   ·refine ⟨by omega,.vsl true [] 0,[],.inl ⟨rfl,rfl,rfl⟩,rfl,by omega,?_⟩;simp [jG,h4,VC]
   ·rintro i e H ⟨hi,d,out,hbuf,qZ,hir,h0,h5,h21,h22,hr⟩;by_cases qg:i < c.toNat
    ·have qk:(i:Int) < (c.toNat:Int):=(by omega);have hw40:IntKind.i64.wrap (40 * (i:Int)) = 40 * (i:Int):=(by rw [wrap_i64];omega);have hw41:IntKind.i64.wrap (1+40 * (i:Int)) = 1+40 * (i:Int):=(by rw [wrap_i64];omega);have g1:(0:Int)≤1+40 * (i:Int):=(by omega);have g2:1+40 * (i:Int)≤(r.length:Int)+1:=(by omega);have g3:(1+40 * (i:Int)).toNat = 40 * i+1:=(by omega);have hk:c.toNat - i = (c.toNat - (i+1))+1:=(by omega);rw [hk,Zp] at hr;have vu:(r.drop (40 * i)).length = r.length - 40 * i:=List.length_drop;by_cases zI:r.length - 40 * i < 16
     ·rw [vu,if_pos zI] at hr;have hm:min (r.length - 40 * i) 16 = r.length - 40 * i:=(by omega);have hm':((r.length - 40 * i:Nat):Int) < 16:=(by omega);simp [h0,h5,h21,h22,qk,hw40,hw41,g1,g2,g3,Qy,hm,hm',hr,readN,Sl.grown]
     ·have hm:min (r.length - 40 * i) 16 = 16:=(by omega);rw [vu,if_neg zI] at hr;generalize hR:r.drop (40 * i) = R at *;have ht16:(qd R).take 16 = qd (R.take 16):=vK R 16;obtain ⟨id,kl⟩:∃ id:ID,id.l = R.take 16:=⟨ID.mk' (R.take 16),ID.mk'_l (by rw [List.length_take];omega)⟩;have hidm:ID.mk' (R.take 16) = id:=ID.ext' (by rw [ID.mk'_l (by rw [List.length_take];omega),kl]);rw [← kl] at ht16 hr;have Qn:(r.drop (40 * (i+1))) = R.drop 40:=(by rw [← hR,List.drop_drop];congr 1);have hRl:R.length = r.length - 40 * i:=vu
      have fin40:Jl out id.l = false→(¬ R.length < 40→∃ a1 a2 a3:Nat,Za R = ⟨id,a1,a2,a3⟩∧call cx 68 [.vsl false (qd R) R.length,.int .i64 16,.int .i64 8] [] = some (.tup [.int .u64 a1,.bool true],[]) ∧
        call cx 68 [.vsl false (qd R) R.length,.int .i64 24,.int .i64 8] [] = some (.tup [.int .u64 a2,.bool true],[])∧call cx 68 [.vsl false (qd R) R.length,.int .i64 32,.int .i64 8] [] = some (.tup [.int .u64 a3,.bool true],[]) ∧
        jG (c :: r) = Zp (c.toNat - (i+1)) (r.drop (40 * (i+1))) (out ++ [⟨id,a1,a2,a3⟩])):=by
       intro vc ko;rw [vc] at hr;simp only [Bool.false_eq_true,if_false] at hr;rw [if_neg (by omega)] at hr;have hmk:Za R = ⟨id,leN ((R.drop 16).take 8),leN ((R.drop 24).take 8),leN ((R.drop 32).take 8)⟩:=(by unfold Za;rw [hidm]);have q:=fun a (ha:a+8≤40)=>XH (.of R) (a:Nat) 8 (by omega) (by simp only [Sl.of_l,hRl];simp at hn;omega)
       have ql:∀ a,a+8≤40→kV R (a:Nat) 8 = some (leN ((R.drop a).take 8)):=fun a ha=>by
        unfold kV;rw [if_pos ⟨rfl,by omega,by omega⟩];simp
       refine ⟨_,_,_,hmk,?_,?_,?_,by rw [hr,Qn,hmk]⟩
       ·have:=q 16 (by omega);simp only [Sl.of_l,Sl.of_nil,ql 16 (by omega)] at this;exact this
       ·have:=q 24 (by omega);simp only [Sl.of_l,Sl.of_nil,ql 24 (by omega)] at this;exact this
       ·have:=q 32 (by omega);simp only [Sl.of_l,Sl.of_nil,ql 32 (by omega)] at this;exact this
      rw [← hRl] at hm hr;have hRd:(qd (c :: r)).drop (40 * i+1) = qd R:=by rw [Qy,List.drop_succ_cons,hR]
      have hlast0:i = 0→Jl out id.l = false:=fun h=>by
       have:out = []:=List.eq_nil_of_length_eq_zero (by omega);subst this;rfl
      have hlastk:∀ k (hk:k < out.length),k+1 = i→Jl out id.l = decide (0≤qt out[k].id.l id.l):=fun k hk vi=>by
       unfold Jl
       have:out.getLast? = some out[k]:=by
        rw [List.getLast?_eq_getElem?,List.getElem?_eq_getElem (by omega)];congr 2;omega
       rw [this]
      have qF:IntKind.i64.wrap ((i:Int)+1) = ((i+1:Nat):Int):=(by rw [wrap_i64] <;> omega);have hc19:(out.length+1) * 40≤140737488355328∧out.length+1≤140737488355328:=(by have:=c.toNat_lt;omega);rcases Nat.eq_zero_or_pos i with hi0 | hipos
      ·have hi0':¬ 0 < i:=(by omega);have vc:=hlast0 hi0;by_cases ko:R.length < 40
       ·have h40':(R.length:Int) < 40:=(by omega);rw [vc,if_pos ko] at hr;simp only [Bool.false_eq_true,if_false] at hr
        rcases hbuf with ⟨rfl,rfl,rfl⟩ | ⟨rfl,rfl,hne0⟩ <;>
         simp [h0,h5,h21,h22,qk,hw40,hw41,g1,g2,g3,hRd,← hRl,List.take_of_length_le,hm,ht16,hi0',h40',hr,readN,Sl.grown]
       ·have h40':¬ (R.length:Int) < 40:=(by omega);obtain ⟨a1,a2,a3,q1,q2,q3,q4,q5⟩:=fin40 vc ko;have hfold:qd id.l ++ [.int .u64 (a1:Int),.int .u64 (a2:Int),.int .u64 (a3:Int)] = Enc.cells (⟨id,a1,a2,a3⟩:Mk):=rfl;clear hr;rcases hbuf with ⟨rfl,rfl,rfl⟩ | ⟨rfl,rfl,hne0⟩
        ·simp [h0,h5,h21,h22,qk,hw40,hw41,g1,g2,g3,hRd,← hRl,List.take_of_length_le,hm,ht16,hi0',h40',q2,q3,q4,hfold,qF,qB,List.take_append,List.drop_append,zk];exact ⟨i+1,by omega,by omega,_,_,.one _,by simp at qZ;simp [← qZ],by omega,rfl,rfl,q5⟩
        ·simp [h0,h5,h21,h22,qk,hw40,hw41,g1,g2,g3,hRd,← hRl,List.take_of_length_le,hm,ht16,hi0',h40',q2,q3,q4,hfold,qF,qB,hc19,List.take_append,List.drop_append,zk];exact ⟨i+1,by omega,by omega,_,_,.snoc _ _,by simp [qZ],by omega,rfl,rfl,q5⟩
      ·obtain ⟨k,vi⟩:∃ k,k+1 = i:=⟨i - 1,by omega⟩;have hko:k < out.length:=(by omega);have hko':(k:Int) < (out.length:Int):=(by omega);have jX:IntKind.i64.wrap ((i:Int) - 1) = (k:Int):=(by rw [wrap_i64] <;> omega);have vc:=hlastk k hko vi;have hcm:=qev out[k].id id;have h19:k * 19+16≤out.length * 19:=(by omega);have h16k:∀ k,(16≤19+k) = True:=fun k=>eq_true (by omega);rcases hbuf with ⟨rfl,rfl,rfl⟩ | ⟨rfl,rfl,hne0⟩
       ·simp at hko
       ·by_cases hge:0≤qt out[k].id.l id.l
        ·rw [vc,decide_eq_true hge] at hr;simp only [if_true] at hr;simp [h0,h5,h21,h22,qk,hw40,hw41,g1,g2,g3,hRd,← hRl,List.take_of_length_le,hm,ht16,hipos,jX,hko,hko',h19,hcm,hge,hr,readN,Sl.grown,List.take_append,List.drop_append]
        ·rw [decide_eq_false hge] at vc;by_cases ko:R.length < 40
         ·have h40':(R.length:Int) < 40:=(by omega);rw [vc,if_pos ko] at hr;simp only [Bool.false_eq_true,if_false] at hr;simp [h0,h5,h21,h22,qk,hw40,hw41,g1,g2,g3,hRd,← hRl,List.take_of_length_le,hm,ht16,hipos,jX,hko,hko',h19,hcm,hge,h40',hr,readN,Sl.grown,List.take_append,List.drop_append]
         ·have h40':¬ (R.length:Int) < 40:=(by omega);obtain ⟨a1,a2,a3,q1,q2,q3,q4,q5⟩:=fin40 vc ko;have hfold:qd id.l ++ [.int .u64 (a1:Int),.int .u64 (a2:Int),.int .u64 (a3:Int)] = Enc.cells (⟨id,a1,a2,a3⟩:Mk):=rfl;clear hr;simp [h0,h5,h21,h22,qk,hw40,hw41,g1,g2,g3,hRd,← hRl,List.take_of_length_le,hm,ht16,hipos,jX,hko,hko',h19,hcm,hge,h40',q2,q3,q4,hfold,qF,qB,hc19,List.take_append,List.drop_append,zk];exact ⟨i+1,by omega,by omega,_,_,.snoc _ _,by simp [qZ],by omega,rfl,rfl,q5⟩
    ·have qk:¬ (i:Int) < (c.toNat:Int):=(by omega);have hk:c.toNat - i = 0:=(by omega);rw [hk,Zp] at hr;rcases hbuf with ⟨rfl,rfl,rfl⟩ | ⟨rfl,rfl,hne0⟩
     ·simp [h0,h5,h21,h22,qk,hr,readN,Sl.grown]
     ·have qF:IntKind.i64.wrap (40 * (out.length:Int)) = 40 * (out.length:Int):=(by rw [wrap_i64];omega);have zg:IntKind.i64.wrap (1+40 * (out.length:Int)) = 1+40 * (out.length:Int):=(by rw [wrap_i64];omega);simp [h0,h5,h21,h22,qk,hr,readN,Sl.grown,qF,zg,hne0]
def zR (q:List It × List Mk × Int):D:=.tup [(.vsl (Sl.grown q.1).nil (qh (Sl.grown q.1).l) (Sl.grown q.1).l.length),(.vsl (Sl.grown q.2.1).nil (qh (Sl.grown q.2.1).l) (Sl.grown q.2.1).l.length),.int .i64 q.2.2]
theorem qhH {l:List UInt8} (n:Nat) (hn:n = 2∨n = 4) (a:Nat):kV l a n = if a+n≤l.length then some (leN ((l.drop a).take n)) else none:=by
 unfold kV;have hz:Vg (n:Int) = true:=by rcases hn with rfl | rfl <;> rfl
 by_cases h:a+n≤l.length
 ·rw [if_pos ⟨hz,by omega,by omega⟩,if_pos h,Int.toNat_natCast,Int.toNat_natCast]
 ·rw [if_neg (fun h'=>h (by omega)),if_neg h]
theorem qhG (l:List UInt8):leN (l.take 4) < 4294967296:=by
 have h1:=JX (l.take 4);have h2:(l.take 4).length≤4:=by rw [List.length_take];omega
 exact Nat.lt_of_lt_of_le h1 (Nat.le_trans (Nat.pow_le_pow_right (by decide) h2) (by decide))
def qwN (out:List It) (d:D) (H:qi):Prop:=(out = []∧d = .vsl true [] 0∧∃ t,H = [some t])∨(out≠[]∧∃ n k,n = out.length * 39∧k = out.length∧((∃ t u,d = .osl 2 n 0 k 39∧H = [some t,some u,some (qh out)])∨(∃ t u,d = .osl 0 n 0 k 39∧H = [some (qh out),some t,some u])))
set_option maxHeartbeats 4000000 in
set_option maxRecDepth 4000 in
theorem qkO [MaxL] (b:Sl UInt8) (hn:b.l.length < 1000000):call cx 71 [(.vsl b.nil (qd b.l) b.l.length)] [] = some (zR (vo b.l),[]):=by
 have zP:=quS b (by omega);refine qq Tryz.func71 rfl ⟨rfl,rfl⟩ ?_;unfold XD at zP;by_cases h4:b.l.length < 4
 ·have hg:vo b.l = ([],[],22):=by unfold vo;rw [if_pos h4]
  rw [if_pos h4] at zP;rw [hg];simp [Tryz.f71,zP,zR,Sl.grown]
 rw [if_neg h4] at zP;cases hs:Vh b.l with
 | false =>
  have hg:vo b.l = ([],[],19):=by unfold vo;rw [if_neg h4,hs];rfl
  rw [hs,if_neg (by decide)] at zP;rw [hg];simp [Tryz.f71,zP,zR,Sl.grown]
 | true =>
 have hg:vo b.l = VG (b.l.take (b.l.length - 4)):=by unfold vo;rw [if_neg h4,hs];rfl
 rw [hs,if_pos rfl] at zP;rw [hg];have hxl:(b.l.take (b.l.length - 4)).length < 1000000:=by rw [List.length_take];omega
 generalize b.l.take (b.l.length - 4) = x at *;simp only [Sl.of_l,Sl.of_nil] at zP;clear hg hs h4;unfold VG;by_cases hx4:x.length < 4
 ·have hx4':(x.length:Int) < 4:=by omega
  rw [if_pos hx4];simp [Tryz.f71,zP,zR,Sl.grown,hx4']
 rw [if_neg hx4];have hx4':¬ (x.length:Int) < 4:=by omega
 have hpf:=qce (.of x) Jm (by simpa using hxl) (by decide) (by decide);replace hpf:call cx 108 [.vsl false (qd x) x.length,.vsl false [.int .u8 68,.int .u8 66,.int .u8 65,.int .u8 84] 4] [] = some (.bool (pre Jm x),[]):=hpf;cases hp:pre Jm x with
 | false =>
  rw [hp] at hpf;rw [if_neg (by decide)];simp [Tryz.f71,zP,zR,Sl.grown,hx4',hpf]
 | true =>
 rw [hp] at hpf;rw [if_pos rfl];have zZ:=XH (.of x) (4:Nat) (2:Nat) (by decide) (by simp;omega);rw [Sl.of_l,qhH 2 (.inl rfl) 4] at zZ;by_cases hx6:x.length < 6
 ·rw [if_pos hx6];rw [if_neg (by omega)] at zZ;unfold J2 at zZ;replace zZ:call cx 68 [.vsl false (qd x) x.length,.int .i64 4,.int .i64 2] [] = some (.tup [.int .u64 0,.bool false],[]):=zZ;simp [Tryz.f71,zP,zR,Sl.grown,hx4',hpf,zZ]
 rw [if_neg hx6];rw [if_pos (by omega)] at zZ;unfold J2 at zZ;replace zZ:call cx 68 [.vsl false (qd x) x.length,.int .i64 4,.int .i64 2] [] = some (.tup [.int .u64 (leN ((x.drop 4).take 2):Nat),.bool true],[]):=zZ;generalize leN ((x.drop 4).take 2) = many at *;by_cases h64:64 < many
 ·rw [if_pos h64];have h64':(64:Int) < (many:Int):=by omega
  simp [Tryz.f71,zP,zR,Sl.grown,hx4',hpf,zZ,h64']
 rw [if_neg h64];have h64':¬ (64:Int) < (many:Int):=by omega
 have h6x:(6:Int)≤(x.length:Int):=by omega
 have h6n:6≤x.length:=by omega
 have hd6:List.drop 6 (qd x) = qd (x.drop 6):=Qy _ _;have hr0:(x.drop 6).length < 1000000:=by rw [List.length_drop];omega
 have hl6:((x.length:Int) - 6) = ((x.drop 6).length:Int):=by rw [List.length_drop];omega
 have hl6n:x.length - 6 = (x.drop 6).length:=by rw [List.length_drop]
 obtain ⟨G,hG⟩:∃ G,QH many (x.drop 6) [] = G:=⟨_,rfl⟩;rw [hG];generalize x.drop 6 = r0 at *;simp [Tryz.f71,zP,hx4',hpf,zZ,h64',h6x,hd6,hl6n];refine Run.loopThen (fun (q:Nat × List UInt8 × List It) e H=>q.1≤many∧QH (many - q.1) q.2.1 q.2.2 = G∧q.2.2.length = q.1∧q.2.1.length < 1000000∧qf e 0 = some (.vsl false (qd q.2.1) q.2.1.length)∧(∃ d,qf e 8 = some d∧qwN q.2.2 d H)∧qf e 48 = some (.int .u64 (many:Nat))∧qf e 49 = some (.int .u64 (q.1:Nat))) (fun q=>many - q.1) (0,r0,[]) ?_ ?_
 ·exact ⟨Nat.zero_le _,hG,rfl,hr0,by simp,⟨_,by simp,.inl ⟨rfl,rfl,_,rfl⟩⟩,by simp,by simp⟩
 rintro ⟨i,r,out⟩ e H ⟨hi,hR,ho,hrl,k0,⟨d,k8,hH⟩,k48,k49⟩;simp only at hi hR ho hrl k0 hH k49
 have Qp:(out = []∧d = .vsl true [] 0∧∃ t,H = [some t])∨(∃ n k,n = out.length * 39∧k = out.length∧out≠[]∧List.take n (qh out) = qh out∧k * 39 = n∧k≤64∧((∃ t u,d = .osl 2 n 0 k 39∧H = [some t,some u,some (qh out)])∨(∃ t u,d = .osl 0 n 0 k 39∧H = [some (qh out),some t,some u]))):=by
  rcases hH with h | ⟨qr,n,k,hn,hk,h⟩
  ·exact .inl h
  ·exact .inr ⟨n,k,hn,hk,qr,List.take_of_length_le (by simp;omega),by omega,by omega,h⟩
 clear hH;by_cases qg:i < many
 ·have hw:IntKind.u64.wrap ((i:Int)+1) = ((i+1:Nat):Int):=by rw [qK] <;> omega
  have zB:=XH (.of r) (0:Nat) (4:Nat) (by decide) (by simp;omega);rw [Sl.of_l,qhH 4 (.inr rfl) 0] at zB;rw [show many - i = (many - (i+1))+1 by omega,QH] at hR;have hk:=qhG r;by_cases hr4:r.length < 4
  ·rw [if_pos (.inl hr4)] at hR;rw [if_neg (by omega)] at zB;unfold J2 at zB;replace zB:call cx 68 [.vsl false (qd r) r.length,.int .i64 0,.int .i64 4] [] = some (.tup [.int .u64 0,.bool false],[]):=zB;subst hR;rcases Qp with ⟨rfl,rfl,tt,rfl⟩ | ⟨nn,kk,hnn,hkk,qr,qu,qV,hk64,⟨tt,uu,rfl,rfl⟩ | ⟨tt,uu,rfl,rfl⟩⟩
   ·simp [k0,k8,k48,k49,qg,zB,zR,Sl.grown]
   all_goals
    have qR:out.length = kk:=hkk.symm;simp [k0,k8,k48,k49,qg,zB,zR,Sl.grown]
  rw [if_pos (by omega),List.drop_zero] at zB;unfold J2 at zB;replace zB:call cx 68 [.vsl false (qd r) r.length,.int .i64 0,.int .i64 4] [] = some (.tup [.int .u64 (leN (r.take 4):Nat),.bool true],[]):=zB;obtain ⟨n,hn'⟩:∃ n,leN (r.take 4) = n:=⟨_,rfl⟩;rw [hn'] at zB hR hk;have kW:IntKind.i64.wrap ((r.length:Int) - 4) = (r.length:Int) - 4:=by rw [wrap_i64];omega
  have jW:IntKind.u64.wrap ((r.length:Int) - 4) = (r.length:Int) - 4:=by rw [qK];omega
  by_cases hbig:r.length - 4 < n
  ·rw [if_pos (.inr hbig)] at hR;have kn:(r.length:Int) - 4 < (n:Int):=(by omega);subst hR;rcases Qp with ⟨rfl,rfl,tt,rfl⟩ | ⟨nn,kk,hnn,hkk,qr,qu,qV,hk64,⟨tt,uu,rfl,rfl⟩ | ⟨tt,uu,rfl,rfl⟩⟩
   ·simp [k0,k8,k48,k49,qg,zB,kW,jW,kn,zR,Sl.grown]
   all_goals
    have qR:out.length = kk:=hkk.symm;simp [k0,k8,k48,k49,qg,zB,kW,jW,kn,zR,Sl.grown]
  rw [if_neg (by omega)] at hR;have kn:¬ (r.length:Int) - 4 < (n:Int):=by omega
  have Q0:IntKind.u64.wrap (4+(n:Int)) = ((4+n:Nat):Int):=by rw [qK] <;> omega
  have Qj:IntKind.i64.wrap (n:Int) = (n:Int):=by rw [wrap_i64];omega
  obtain ⟨t,ht⟩:∃ t,(r.drop 4).take n = t:=⟨_,rfl⟩;have jm:t.length = n:=by rw [← ht,List.length_take,List.length_drop];omega
  rw [ht] at hR;have zO:=qny (.of t) (by simp;omega);simp only [Sl.of_l,Sl.of_nil,jm] at zO;have htd:List.take n (List.drop 4 (qd r)) = qd t:=by rw [Qy,vK,ht]
  have q1:(0:Int)≤4+(n:Int):=by omega
  have q2:(4:Int)+(n:Int)≤(r.length:Int):=by omega
  have q3:(4:Int)≤4+(n:Int):=by omega
  have q4:((4:Int)+(n:Int)).toNat = 4+n:=by omega
  have q5:4+n - 4 = n:=by omega
  have q6:r.length - (4+n) = (r.drop (4+n)).length:=by rw [List.length_drop]
  have hdd:List.drop (4+n) (qd r) = qd (r.drop (4+n)):=Qy _ _;have zD:(r.drop (4+n)).length < 1000000:=by rw [List.length_drop];omega
  generalize r.drop (4+n) = r2 at *;by_cases hok:QX t = true∧(zp (zX t)).length = n
  ·rw [if_pos hok] at hR;have e1:J0 t = zX t:=(by unfold J0;rw [if_pos hok.1]);have e2:ZO t = n:=(by unfold ZO;rw [if_pos hok.1,hok.2]);have e3:Zq t = 0:=(by unfold Zq;rw [if_pos hok.1]);rw [e1,e2,e3] at zO;have hu:IntKind.u64.wrap ((i:Int)+1) = ((i+1:Nat):Int):=hw;generalize zX t = y at *;rcases Qp with ⟨rfl,rfl,tt,rfl⟩ | ⟨nn,kk,hnn,hkk,qr,qu,qV,hk64,⟨tt,uu,rfl,rfl⟩ | ⟨tt,uu,rfl,rfl⟩⟩
   ·simp [k0,k8,k48,k49,qg,zB,kW,jW,kn,Q0,Qj,htd,hdd,zO,q1,q2,q3,q4,q5,q6,qB];exact ⟨i+1,by omega,by omega,r2,[y],hR,by rw [← ho];rfl,zD,⟨rfl,rfl⟩,.inr ⟨by simp,39,1,rfl,rfl,.inl ⟨_,_,rfl,by rw [J9]⟩⟩,hu⟩
   all_goals
    have qR:out.length = kk:=hkk.symm;have m1:(kk+1) * 104≤140737488355328:=(by omega);have m2:kk≤140737488355327:=(by omega);simp [qR,qV,k0,k8,k48,k49,qg,zB,kW,jW,kn,Q0,Qj,htd,hdd,zO,q1,q2,q3,q4,q5,q6,qB,m1,m2];exact ⟨i+1,by omega,by omega,r2,out ++ [y],hR,by simp [ho],zD,⟨rfl,rfl⟩,.inr ⟨by simp,nn+39,kk+1,by simp;omega,by simp [qR],.inr ⟨_,_,rfl,by rw [QI]⟩⟩,hu⟩
  ·rw [if_neg hok] at hR;subst hR;cases hro:QX t with
   | false =>
    have e1:Zq t = 20:=(by unfold Zq;rw [hro];rfl);rw [e1] at zO;generalize J0 t = y at *;generalize ZO t = z at *;rcases Qp with ⟨rfl,rfl,tt,rfl⟩ | ⟨nn,kk,hnn,hkk,qr,qu,qV,hk64,⟨tt,uu,rfl,rfl⟩ | ⟨tt,uu,rfl,rfl⟩⟩
    ·simp [k0,k8,k48,k49,qg,zB,kW,jW,kn,Q0,htd,zO,q1,q2,q3,q4,q5,zR,Sl.grown]
    all_goals
     have qR:out.length = kk:=hkk.symm;simp [k0,k8,k48,k49,qg,zB,kW,jW,kn,Q0,htd,zO,q1,q2,q3,q4,q5,zR,Sl.grown]
   | true =>
    have e1:Zq t = 0:=(by unfold Zq;rw [hro];rfl);have e2:¬ (zp (zX t)).length = n:=fun h=>hok ⟨hro,h⟩;have e3:ZO t = (zp (zX t)).length:=(by unfold ZO;rw [hro];rfl);rw [e1,e3] at zO;generalize J0 t = y at *;generalize (zp (zX t)).length = z at *;have e2':¬ (z:Int) = (n:Int):=(by omega);rcases Qp with ⟨rfl,rfl,tt,rfl⟩ | ⟨nn,kk,hnn,hkk,qr,qu,qV,hk64,⟨tt,uu,rfl,rfl⟩ | ⟨tt,uu,rfl,rfl⟩⟩
    ·simp [k0,k8,k48,k49,qg,zB,kW,jW,kn,Q0,Qj,htd,zO,q1,q2,q3,q4,q5,e2',zR,Sl.grown]
    all_goals
     have qR:out.length = kk:=hkk.symm;simp [k0,k8,k48,k49,qg,zB,kW,jW,kn,Q0,Qj,htd,zO,q1,q2,q3,q4,q5,e2',zR,Sl.grown]
 ·have hk:many - i = 0:=by omega
  rw [hk,QH] at hR;have hm:=qoN (.of r) (by simp;omega);simp only [Sl.of_l,Sl.of_nil] at hm;obtain ⟨q,hq⟩:∃ q,jG r = q:=⟨_,rfl⟩;rw [hq] at hm hR;by_cases h0:q.2 = 0
  ·rw [if_pos h0] at hR;have hnn:0≤Go.Ev.readN q:=(by unfold Go.Ev.readN;rw [if_pos h0];omega);by_cases hle:Go.Ev.readN q < (r.length:Int)
   ·rw [if_pos hle] at hR;subst hR;rcases Qp with ⟨rfl,rfl,tt,rfl⟩ | ⟨nn,kk,hnn,hkk,qr,qu,qV,hk64,⟨tt,uu,rfl,rfl⟩ | ⟨tt,uu,rfl,rfl⟩⟩
    ·simp [k0,k8,k48,k49,qg,hm,h0,hle,zR,Sl.grown]
    all_goals
     have qR:out.length = kk:=hkk.symm;simp [k0,k8,k48,k49,qg,hm,h0,hle,zR,Sl.grown]
   ·rw [if_neg hle] at hR;subst hR;rcases Qp with ⟨rfl,rfl,tt,rfl⟩ | ⟨nn,kk,hnn,hkk,qr,qu,qV,hk64,⟨tt,uu,rfl,rfl⟩ | ⟨tt,uu,rfl,rfl⟩⟩
    ·simp [k0,k8,k48,k49,qg,hm,h0,hle,zR,Sl.grown]
    all_goals
     have qR:out.length = kk:=hkk.symm;simp [qR,qu,qV,k0,k8,k48,k49,qg,hm,h0,hle,zR,Sl.grown,qr]
  ·rw [if_neg h0] at hR;subst hR;rcases Qp with ⟨rfl,rfl,tt,rfl⟩ | ⟨nn,kk,hnn,hkk,qr,qu,qV,hk64,⟨tt,uu,rfl,rfl⟩ | ⟨tt,uu,rfl,rfl⟩⟩
   ·simp [k0,k8,k48,k49,qg,hm,h0,zR,Sl.grown]
   all_goals
    have qR:out.length = kk:=hkk.symm;simp [k0,k8,k48,k49,qg,hm,h0,zR,Sl.grown]
theorem qux [MaxL] [TxtC] (m:Mk) (id:ID):call cx 174 [.agg (Enc.cells m),.vptr (qd id.l)] [] = some (.bool (m.id == id),[]):=by
 refine qq Tryz.func174 rfl ⟨rfl,rfl⟩ ?_;simp [Tryz.f174,Mk.cells]
def find? {α:Type} (p:α→Bool):List α→Int→Int
 | [],_=>-1
 | m :: l,i=>if p m then i else find? p l (i+1)
theorem qoY [MaxL] [TxtC] (s:Sl Mk) (hn:s.l.length < 4611686018427387904) (f:Nat) (caps:List D) (p:Mk→Bool) (hb:cx.byRef f = false) (hpm:cx.perm f = false) (hcaps:∀ x∈caps,idFree x = true)
  (hg:∀ m∈s.l,call cx f (.agg (Enc.cells m) :: caps) [] = some (.bool (p m),[])):call cx 173 [(.vsl s.nil (qh s.l) s.l.length),.fn f caps] [] = some (.int .i64 (find? p s.l 0),[]):=by
 have hcaps':=eq_true hcaps;refine qq Tryz.func173 rfl ⟨rfl,rfl⟩ ?_;simp [Tryz.f173];refine Run.loopThen (fun (i:Nat) e H=>i≤s.l.length∧H = []∧qf e 0 = some (.vsl s.nil (qh s.l) s.l.length)∧qf e 1 = some (.fn f caps)∧qf e 7 = some (.int .i64 s.l.length)∧qf e 8 = some (.int .i64 i)∧find? p s.l 0 = find? p (s.l.drop i) i) (fun i=>s.l.length - i) 0 (by simp) ?_;rintro i e H ⟨hi,rfl,h0,h1,h7,h8,hf⟩;by_cases qg:i < s.l.length
 ·have qk:((i:Int) < (s.l.length:Int)):=by omega
  have hd:s.l.drop i = s.l[i] :: s.l.drop (i+1):=List.drop_eq_getElem_cons qg;have hc:=hg s.l[i] (List.getElem_mem qg);have hw:IntKind.i64.wrap ((i:Int)+1) = ((i+1:Nat):Int):=by rw [wrap_i64] <;> omega
  rw [hd,find?] at hf;cases hp:p s.l[i] with
  | true =>
   rw [hp,if_pos rfl] at hf;simp [h0,h1,h7,h8,qk,qg,Sl.nn qg,hc,hb,hpm,hp,hf,hcaps']
  | false =>
   rw [hp,if_neg (by decide)] at hf;simp [h0,h1,h7,h8,qk,qg,Sl.nn qg,hc,hb,hpm,hp,hf,hcaps',hw];exact ⟨i+1,by omega,by omega,rfl,rfl⟩
 ·have qk:¬ ((i:Int) < (s.l.length:Int)):=by omega
  have hd:s.l.drop i = []:=List.drop_eq_nil_of_le (by omega);rw [hd] at hf;simp [h0,h1,h7,h8,qk,hf,find?]
theorem qea [MaxL] [TxtC] (s:Sl Mk) (hn:s.l.length < 4611686018427387904) (id:ID) :
  call cx 148 [(.vsl s.nil (qh s.l) s.l.length),.agg (qd id.l)] [] = some (.int .i64 (find? (fun m=>m.id == id) s.l 0),[]):=by
 have h:=qoY s hn 174 [.vptr (qd id.l)] (fun m=>m.id == id) rfl rfl (by simp [idFree]) (fun m hm=>qux m id);refine qq Tryz.func148 rfl ⟨rfl,rfl⟩ ?_;simp [Tryz.f148,h]
theorem find?_spec {α:Type} (p:α→Bool):∀ (l:List α) (k:Int),(∃ (i:Nat) (m:α),l[i]? = some m∧i < l.length∧p m = true∧find? p l k = k+i∧l.find? p = some m)∨(find? p l k = -1∧l.find? p = none)
 | [],k=>.inr ⟨rfl,rfl⟩
 | m :: l,k=>by
  cases hp:p m with
  | true=>exact .inl ⟨0,m,rfl,by simp,hp,by simp [find?,hp],by simp [hp]⟩
  | false =>
   rcases find?_spec p l (k+1) with ⟨i,m',h1,h2,h3,h4,h5⟩ | ⟨h1,h2⟩
   ·exact .inl ⟨i+1,m',by simpa using h1,by simpa using h2,h3,by simp [find?,hp,h4];omega,by simp [hp,h5]⟩
   ·exact .inr ⟨by simp [find?,hp,h1],by simp [hp,h2]⟩
def jd (l:List Mk) (id:ID):Mk:=(l.find? fun m=>m.id == id).getD ⟨id,0,0,0⟩
theorem qix [MaxL] [TxtC] (s:Sl Mk) (hn:s.l.length < 4611686018427387904) (id:ID) :
  call cx 111 [(.vsl s.nil (qh s.l) s.l.length),.agg (qd id.l)] [] = some (.agg (Enc.cells (jd s.l id)),[]):=by
 have h:=qea s hn id;refine qq Tryz.func111 rfl ⟨rfl,rfl⟩ ?_;rcases find?_spec (fun m=>m.id == id) s.l 0 with ⟨i,m,h1,h2,h3,h4,h5⟩ | ⟨h1,h2⟩
 ·rw [h4,Sl.nn h2] at h;have hg:s.l[i] = m:=by rw [List.getElem?_eq_getElem h2] at h1;exact Option.some.inj h1
  simp [Tryz.f111,h,h2,Sl.nn h2,hg,jd,h5]
 ·rw [h1] at h;simp [Tryz.f111,h,jd,h2,Mk.cells,List.take_of_length_le]
theorem qdV (l:List Mk) (id:ID):(jd l id).id = id:=by
 unfold jd;cases h:l.find? (fun m=>m.id == id) with
 | none=>rfl
 | some m=>simpa using List.find?_some h
theorem qdU {l:List Mk} (hl:∀ m∈l,m.Ok) (id:ID):(jd l id).Ok:=by
 unfold jd;cases h:l.find? (fun m=>m.id == id) with
 | none=>exact ⟨by simp [qw],by simp [qw],by simp [qw]⟩
 | some m=>exact hl m (List.mem_of_find?_eq_some h)
theorem qvt [MaxL] [TxtC] (x y:Mk):call cx 150 [.agg (Enc.cells x),.agg (Enc.cells y)] [] = some (.int .i64 (qt x.id.l y.id.l),[]):=by
 have h:=qev x.id y.id;refine qq Tryz.func150 rfl ⟨rfl,rfl⟩ ?_;simp [Tryz.f150,Mk.cells,h]
def qhE:Nat→Int
 | 0=>0 | 1=>1 | 2=>2 | 3=>2 | 4=>3 | 5=>3 | 6=>3 | 7=>3 | _=>4
theorem qpt [MaxL] [TxtC] (n:Nat) (hn:n≤13):call cx 176 [.int .u64 n] [] = some (.int .i64 (qhE n),[]):=by
 have h:n = 0∨n = 1∨n = 2∨n = 3∨n = 4∨n = 5∨n = 6∨n = 7∨n = 8∨n = 9∨n = 10∨n = 11∨n = 12∨n = 13:=by omega
 refine call_some.2 ⟨60,?_⟩;rcases h with rfl | rfl | rfl | rfl | rfl | rfl | rfl | rfl | rfl | rfl | rfl | rfl | rfl | rfl <;> kernel_rfl
def VX (l:List Mk) (j:Nat):List Mk :=
 match l[j]?,l[j - 1]? with
 | some a,some b=>(l.set j b).set (j - 1) a
 | _,_=>l
def Z9:Nat→List Mk→List Mk
 | 0,l=>l
 | j+1,l=>match l[j+1]?,l[j]? with
  | some a,some b=>if qt a.id.l b.id.l < 0 then Z9 j (VX l (j+1)) else l
  | _,_=>l
def QD:Nat→Nat→List Mk→List Mk
 | 0,_,l=>l
 | k+1,i,l=>QD k (i+1) (Z9 i l)
theorem qlq (l:List Mk) (j:Nat):(VX l j).length = l.length:=by
 unfold VX;split <;> simp
theorem qaI:∀ (j:Nat) (l:List Mk),(Z9 j l).length = l.length
 | 0,l=>rfl
 | j+1,l=>by
  unfold Z9;split
  ·split
   ·rw [qaI j,qlq]
   ·rfl
  ·rfl
theorem qdE:∀ (k i:Nat) (l:List Mk),(QD k i l).length = l.length
 | 0,_,_=>rfl
 | k+1,i,l=>by rw [QD,qdE k,qaI]
set_option maxHeartbeats 4000000 in
theorem qsH [MaxL] [TxtC] (n:Nat) (hn:n≤12) (H:qi) (b:Nat) (ji:H.all (ka H.length) = true) (l:List Mk) (hln:l.length = n) (hg:qo H b = some (qh l)) :
  call cx 201 [.osl b (n * 19) 0 n 19,.int .i64 0,.int .i64 n,.fn 150 []] H = some (.tup [],H.set b (some (qh (QD (n - 1) 1 l)))):=by
 have hb:b < H.length:=by
  rcases Nat.lt_or_ge b H.length with h | h
  ·exact h
  ·rw [qo,List.getElem?_eq_none h] at hg;cases hg
 have hset:H.set b (some (qh l)) = H:=by
  rw [qo,List.getElem?_eq_getElem hb] at hg;simp only [Option.getD_some] at hg;rw [← hg,List.set_getElem_self]
 refine qq Tryz.func201 rfl ⟨rfl,rfl⟩ ?_;simp [Tryz.f201];refine Run.loopThen (fun (s:Nat × List Mk) e H'=>1≤s.1∧s.2.length = n∧H' = H.set b (some (qh s.2))∧QD (n - s.1) s.1 s.2 = QD (n - 1) 1 l∧qf e 0 = some (.osl b (n * 19) 0 n 19)∧qf e 1 = some (.int .i64 0)∧qf e 2 = some (.int .i64 n)∧qf e 3 = some (.fn 150 [])∧qf e 8 = some (.int .i64 s.1)) (fun s=>n - s.1) (1,l) (by simp [hln,hset]) ?_;rintro ⟨i,l'⟩ e H' ⟨hi,hln',rfl,hs,h0,h1,h2,h3,h8⟩;simp only at hi hln' hs h8;by_cases hin:i < n
 ·have hin':(i:Int) < (n:Int):=by omega
  have hw:IntKind.i64.wrap ((i:Int)+1) = ((i+1:Nat):Int):=by rw [wrap_i64] <;> omega
  have jo:QD (n - i) i l' = QD (n - (i+1)) (i+1) (Z9 i l'):=by
   have:n - i = (n - (i+1))+1:=(by omega);rw [this,QD]
  rw [jo] at hs;simp [h0,h1,h2,h3,h8,hin'];clear h0 h1 h2 h3 h8 e;refine Run.loopThen (fun (s:Nat × List Mk) e H'=>s.1≤i∧s.2.length = n∧H' = H.set b (some (qh s.2))∧Z9 s.1 s.2 = Z9 i l'∧qf e 0 = some (.osl b (n * 19) 0 n 19)∧qf e 1 = some (.int .i64 0)∧qf e 2 = some (.int .i64 n)∧qf e 3 = some (.fn 150 [])∧qf e 8 = some (.int .i64 i)∧qf e 9 = some (.int .i64 s.1)) (fun s=>s.1) (i,l') (by simp [hln']) ?_;rintro ⟨j,l''⟩ e H' ⟨hj,hln'',rfl,hs2,h0,h1,h2,h3,h8,h9⟩;simp only at hj hln'' hs2 h9;have qZ:(qh l'').length = n * 19:=by rw [Mk.el,hln'']
  have hg:((H.set b (some (qh l'')))[b]?).getD none = some (qh l''):=by rw [List.getElem?_set_self hb];rfl
  cases j with
  | zero =>
   rw [Z9] at hs2;subst hs2;simp [h0,h1,h2,h3,h8,h9,hw];exact ⟨i+1,by omega,by omega,_,by rw [qaI,hln'],rfl,hs,rfl⟩
  | succ k =>
   obtain ⟨j,hjk⟩:∃ j,j = k+1:=⟨_,rfl⟩;rw [← hjk] at hj h9 hs2;have hj0:0 < j:=(by omega);have hjn:(j:Int) < (n:Int):=(by omega);have qV:(k:Int) < (n:Int):=(by omega);have jX:IntKind.i64.wrap ((j:Int) - 1) = (k:Int):=(by rw [wrap_i64] <;> omega);have jP:j < l''.length:=(by omega);have vB:k < l''.length:=(by omega);have hc:=qvt l''[j] l''[k]
   have hsk:Z9 j l'' = if qt l''[j].id.l l''[k].id.l < 0 then Z9 k (VX l'' j) else l'':=by
    subst hjk;rw [Z9,List.getElem?_eq_getElem jP,List.getElem?_eq_getElem vB]
   have hsw:VX l'' j = (l''.set j l''[k]).set k l''[j]:=by
    have:j - 1 = k:=(by omega);rw [VX,this,List.getElem?_eq_getElem jP,List.getElem?_eq_getElem vB]
   by_cases qg:qt l''[j].id.l l''[k].id.l < 0
   ·rw [hsk,if_pos qg,hsw] at hs2;have h19:j * 19+19≤n * 19:=(by omega);have h19':k * 19+19≤n * 19:=(by omega);have hkl2:k < (l''.set j l''[k]).length:=(by simpa using vB);have hlen2:(qh (l''.set j l''[k])).length = n * 19:=(by rw [Mk.el,List.length_set,hln'']);simp [h0,h1,h2,h3,h8,h9,hj0,hjn,qV,jX,qZ,jP,vB,hc,qg,h19,h19',hb,hlen2];exact ⟨k,by omega,by omega,_,by simp [hln''],rfl,hs2,rfl⟩
   ·rw [hsk,if_neg qg] at hs2;subst hs2;simp [h0,h1,h2,h3,h8,h9,hj0,hjn,qV,jX,hg,qZ,jP,vB,hc,qg,hw];exact ⟨i+1,by omega,by omega,_,by rw [qaI,hln'],rfl,hs,rfl⟩
 ·have hin':¬ (i:Int) < (n:Int):=by omega
  have h0n:n - i = 0:=by omega
  rw [h0n,QD] at hs;subst hs;simp [h0,h1,h2,h3,h8,hin'];refine qdk ⟨fun x hx=>?_,List.take_of_length_le (by simp)⟩;have hx':=List.mem_of_mem_take hx;rcases List.mem_or_eq_of_mem_set hx' with h | rfl
  ·exact List.all_eq_true.1 ji x h
  ·exact qbP _ _
theorem qjL {H:qi} {b:Nat} {ds:List D} (ji:H.all (ka H.length) = true) (hd:ds.all (closed H.length) = true) {x:Option (List D)} {n:Nat} (hx:x∈(H.set b (some ds)).take n):ka H.length x = true:=by
 have hx':=List.mem_of_mem_take hx;rcases List.mem_or_eq_of_mem_set hx' with h | rfl
 ·exact List.all_eq_true.1 ji x h
 ·exact hd
theorem qnW [MaxL] [TxtC] (n:Nat) (hn:n≤12) (k:Int) (H:qi) (b:Nat) (ji:H.all (ka H.length) = true) (l:List Mk) (hln:l.length = n) (hg:qo H b = some (qh l)) :
  call cx 175 [.osl b (n * 19) 0 n 19,.int .i64 0,.int .i64 n,.int .i64 k,.fn 150 []] H = some (.tup [],H.set b (some (qh (QD (n - 1) 1 l)))):=by
 have h:=qsH n hn H b ji l hln hg;have hw:IntKind.i64.wrap (n:Int) = (n:Int):=by rw [wrap_i64];omega
 have hn':(n:Int)≤12:=by omega
 refine qq Tryz.func175 rfl ⟨rfl,rfl⟩ ?_;simp [Tryz.f175];refine qcD ?_;simp [hw,hn',h];exact qdk ⟨fun x hx=>qjL ji (qbP _ _) hx,List.take_of_length_le (by simp)⟩
theorem qfv [MaxL] [TxtC] (n:Nat) (hn:n≤12) (H:qi) (b:Nat) (ji:H.all (ka H.length) = true) (l:List Mk) (hln:l.length = n) (hg:qo H b = some (qh l)) :
  call cx 149 [.osl b (n * 19) 0 n 19,.fn 150 []] H = some (.tup [],H.set b (some (qh (QD (n - 1) 1 l)))):=by
 have h:=qnW n hn (qhE n) H b ji l hln hg;have qZ:=qpt n (by omega);have hw:IntKind.u64.wrap (n:Int) = (n:Int):=by rw [qK];omega
 refine qq Tryz.func149 rfl ⟨rfl,rfl⟩ ?_;simp [Tryz.f149,h,qZ,hw];exact qdk ⟨fun x hx=>qjL ji (qbP _ _) hx,List.take_of_length_le (by simp)⟩
theorem qhy [MaxL] [TxtC] (s:Sl Mk) (hn:s.l.length≤3000000000) :
  call cx 44 [(.vsl s.nil (qh s.l) s.l.length)] [] = if s.nil then some (.vsl true [] 0,[]) else some (.osl 0 (s.l.length * 19) 0 s.l.length 19,[some (qh s.l)]):=by
 have ko:s.l.length * 40≤140737488355328:=by omega
 have vh:s.l.length≤140737488355328:=by omega
 obtain ⟨nil,l,qJ⟩:=s;simp only at hn ko vh ⊢;cases nil with
 | true =>
  have jp:=qJ rfl;subst jp;rw [if_pos rfl];refine qq Tryz.func44 rfl ⟨rfl,rfl⟩ ?_;simp [Tryz.f44]
 | false =>
  rw [if_neg (by decide)];refine qq Tryz.func44 rfl ⟨rfl,rfl⟩ ?_;simp [Tryz.f44,ko,vh,qB]
def Zs (l:List Mk) (m:Mk):List Mk :=
 if find? (fun x=>x.id == m.id) l 0 < 0 then QD l.length 1 (l ++ [m]) else l.set (find? (fun x=>x.id == m.id) l 0).toNat m
theorem qoO [MaxL] [TxtC] (s:Sl Mk) (hn:s.l.length≤11) (m:Mk) :
  call cx 113 [(.vsl s.nil (qh s.l) s.l.length),.agg (Enc.cells m)] [] = some (.vsl false (qh (Zs s.l m)) (Zs s.l m).length,[]):=by
 have hc:=qhy s (by omega);have hf:=qea s (by omega) m.id;have qu:(Enc.cells m).take 16 = qd m.id.l:=by simp [Mk.cells]
 have jm:(qh s.l).take (s.l.length * 19) = qh s.l:=List.take_of_length_le (by simp);by_cases qJ:s.nil = true
 ·have jp:=s.h qJ;rw [qJ,jp] at hc hf;have hs:=qfv 1 (by decide) [some (Enc.cells m),some (Enc.cells m),some (Enc.cells m)] 2 (by simp [ka]) [m] rfl (by simp [qo,J9]);simp at hc hf hs;have hp:Zs s.l m = [m]:=by rw [jp];rfl
  refine qq Tryz.func113 rfl ⟨rfl,rfl⟩ ?_;simp [Tryz.f113,qJ,jp,hc,hf,qu,qB,find?,hs,QD,J9];rw [← jp,hp];simp [J9]
 ·have hnf:s.nil = false:=by simpa using qJ
  rw [hnf] at hc hf;rw [if_neg (by decide)] at hc;rcases find?_spec (fun x=>x.id == m.id) s.l 0 with ⟨i,m',h1,h2,h3,h4,h5⟩ | ⟨h1,h2⟩
  ·rw [h4] at hf
   have hp:Zs s.l m = s.l.set i m:=by
    unfold Zs;rw [h4,if_neg (by omega)];congr 1;omega
   have h19:i * 19+19≤s.l.length * 19:=(by omega);refine qq Tryz.func113 rfl ⟨rfl,rfl⟩ ?_;simp [Tryz.f113,hnf,hc,hf,qu,jm,h2,h19,hp,List.take_of_length_le]
  ·rw [h1] at hf
   have hp:Zs s.l m = QD s.l.length 1 (s.l ++ [m]):=by
    unfold Zs;rw [h1,if_pos (by decide)]
   have hs:=qfv (s.l.length+1) (by omega) [some (Enc.cells m),some (qh s.l ++ Enc.cells m),some (Enc.cells m)] 1 (by simp [ka]) (s.l ++ [m]) (by simp) (by simp [qo,QI]);have qU:s.l.length * 19+19 = (s.l.length+1) * 19:=(by omega);have ko:(s.l.length+1) * 40≤140737488355328:=(by omega);have vh:s.l.length+1≤140737488355328:=(by omega);have hil:(QD s.l.length 1 (s.l ++ [m])).length = s.l.length+1:=(by rw [qdE];simp);simp at hs;refine qq Tryz.func113 rfl ⟨rfl,rfl⟩ ?_;simp [Tryz.f113,hnf,hc,hf,qu,jm,qB,ko,vh,qU,hs,hp,hil,List.take_of_length_le]
def kb:Int:=18446744073709551615
def Xg (v n:Int):Int:=if IntKind.u64.wrap (kb - v) < n then kb else IntKind.u64.wrap (v+n)
theorem qhr [MaxL] [TxtC] (v n:Int):call cx 112 [.int .u64 v,.int .u64 n] [] = some (.int .u64 (Xg v n),[]):=by
 refine qq Tryz.func112 rfl ⟨rfl,rfl⟩ ?_;by_cases h:IntKind.u64.wrap (18446744073709551615 - v) < n
 ·simp [Tryz.f112,h,Xg,kb]
 ·simp [Tryz.f112,h,Xg,kb]
theorem qhq {v n:Int} (hv:qw v) (hn:qw n):Xg v n = if kb - v < n then kb else v+n:=by
 unfold qw at hv hn;have e:IntKind.u64.wrap (kb - v) = kb - v:=by rw [qK];unfold kb;omega
 unfold Xg;rw [e];split
 ·rfl
 ·rw [qK];unfold kb at *;omega
def Zb (l:List Mk) (id:ID):Int :=
 if jJ l = false then 1 else if l.length = 4∧find? (fun m=>m.id == id) l 0 < 0 then 15 else 0
theorem qpb [MaxL] [TxtC] (s:Sl Mk) (hn:s.l.length < 4611686018427387904) (id:ID) :
  call cx 110 [(.vsl s.nil (qh s.l) s.l.length),.agg (qd id.l)] [] = some (.int .i64 (Zb s.l id),[]):=by
 have hr:=qgl s hn;have hf:=qea s hn id;refine qq Tryz.func110 rfl ⟨rfl,rfl⟩ ?_;cases h:jJ s.l with
 | false =>
  rw [h] at hr;simp [Tryz.f110,hr,Zb,h]
 | true =>
  rw [h] at hr;by_cases h4:s.l.length = 4
  ·rw [h4] at hf hr;by_cases qg:find? (fun m=>m.id == id) s.l 0 < 0
   ·simp [Tryz.f110,hr,Zb,h,h4,hf,qg]
   ·simp [Tryz.f110,hr,Zb,h,h4,hf,qg]
  ·have h4':¬ ((s.l.length:Int) = 4):=(by omega);simp [Tryz.f110,hr,Zb,h,h4,h4']
theorem qpc {l:List Mk} {id:ID} (h:Zb l id = 0):l.length≤4:=by
 unfold Zb at h;split at h
 ·cases h
 ·rename_i hr;rw [Bool.not_eq_false,jJ,Bool.and_eq_true] at hr;exact of_decide_eq_true hr.1
def Jz (c:Int) (l:List Mk):D:=if c = 0 then .vsl false (qh l) l.length else .vsl true [] 0
def KQ (m:Mk) (it:It) (over:Bool):Mk :=
 if it.gap then { m with seq:=it.til,lost:=Xg m.lost (IntKind.u64.wrap (IntKind.u64.wrap (it.til - it.fr)+1)) }
 else { m with seq:=it.rc.seq,over:=if over then Xg m.over 1 else m.over }
def QG (m:Mk) (it:It):Bool :=
 if it.gap then !(decide (it.fr≤m.seq) || decide (it.til < it.fr)) else !decide (it.rc.seq≤m.seq)
def Jc (l:List Mk) (it:It):Int:=if Zb l it.id≠0 then Zb l it.id else if QG (jd l it.id) it then 0 else 13
def Jy (l:List Mk) (it:It) (over:Bool):List Mk:=Zs l (KQ (jd l it.id) it over)
set_option maxRecDepth 4000 in
set_option maxHeartbeats 1000000 in
theorem qfh [MaxL] [TxtC] (s:Sl Mk) (hn:s.l.length < 4611686018427387904) (it:It) (over:Bool) :
  call cx 72 [(.vsl s.nil (qh s.l) s.l.length),.agg (Enc.cells it),.bool over] [] = some (.tup [Jz (Jc s.l it) (Jy s.l it over),.int .i64 (Jc s.l it)],[]):=by
 have hm:=qpb s hn it.id;have hge:=qix s hn it.id;have hgid:=qdV s.l it.id;refine qq Tryz.func72 rfl ⟨rfl,rfl⟩ ?_;by_cases hc:Zb s.l it.id = 0
 ·rw [hc] at hm;have hp:=qoO s (by have:=qpc hc;omega) (KQ (jd s.l it.id) it over);unfold Jc Jy;rw [if_neg (by simpa using hc)];generalize jd s.l it.id = g at *;generalize Zs s.l (KQ g it over) = pm at *;cases vt:it.gap with
  | true =>
   by_cases h1:it.fr≤g.seq
   ·simp [Tryz.f72,It.cells,hm,List.drop_append,zk,hge,hgid,vt,Mk.cells,h1,QG,Jz]
   ·by_cases h2:it.til < it.fr
    ·simp [Tryz.f72,It.cells,hm,List.drop_append,zk,hge,hgid,vt,Mk.cells,h1,h2,QG,Jz]
    ·have hmo:=qhr g.lost (IntKind.u64.wrap (IntKind.u64.wrap (it.til - it.fr)+1));simp only [KQ,vt,if_true,Mk.cells,hgid] at hp;simp [Tryz.f72,It.cells,hm,List.take_append,List.drop_append,zk,hge,hgid,vt,Mk.cells,h1,h2,QG,Jz,hmo];simp [hp]
  | false =>
   by_cases h1:it.rc.seq≤g.seq
   ·simp [Tryz.f72,It.cells,hm,List.drop_append,zk,hge,hgid,vt,Mk.cells,h1,QG,Jz]
   ·have hmo:=qhr g.over 1;simp only [KQ,vt,Mk.cells,hgid] at hp;cases over with
    | false =>
     simp at hp;simp [Tryz.f72,It.cells,hm,List.take_append,List.drop_append,zk,hge,hgid,vt,Mk.cells,h1,QG,Jz,hp]
    | true =>
     simp at hp;simp [Tryz.f72,It.cells,hm,List.take_append,List.drop_append,zk,hge,hgid,vt,Mk.cells,h1,QG,Jz,hp,hmo]
 ·have e:Jc s.l it = Zb s.l it.id:=by unfold Jc;rw [if_pos hc]
  simp [Tryz.f72,It.cells,hm,hc,List.drop_append,Jz,e]
theorem qnI (l:List Mk) (m:Mk):(Zs l m).length≤l.length+1:=by
 unfold Zs;split
 ·rw [qdE];simp
 ·rw [List.length_set];omega
def kv {α:Type} (c:Int) (s:Sl α):Sl α:=if c = 0 then s else .none
def KU:List Mk→List Mk→Bool
 | a :: x,b :: y=>a == b && KU x y
 | [],[]=>true
 | _,_=>false
theorem qcB:∀ (x y:List Mk),KU x y = (x == y)
 | [],[]=>rfl
 | [],_ :: _=>rfl
 | _ :: _,[]=>rfl
 | a :: x,b :: y=>by rw [KU,qcB x y,List.cons_beq_cons]
theorem qol [MaxL] [TxtC] (a b:Int):call cx 82 [.int .u64 a,.int .u64 b] [] = some (.int .i64 (if a < b then -1 else if b < a then 1 else 0),[]):=by
 refine qq Tryz.func82 rfl ⟨rfl,rfl⟩ ?_;by_cases h1:a < b
 ·simp [Tryz.f82,h1]
 ·by_cases h2:b < a
  ·simp [Tryz.f82,h1,h2]
  ·simp [Tryz.f82,h1,h2]
theorem qvy:∀ {x y:List UInt8} {i:Nat} (hx:i < x.length) (hy:i < y.length),qt (x.drop i) (y.drop i) = if x[i] = y[i] then qt (x.drop (i+1)) (y.drop (i+1)) else if x[i] < y[i] then -1 else 1:=by
 intro x y i hx hy;rw [List.drop_eq_getElem_cons hx,List.drop_eq_getElem_cons hy,qt]
set_option maxHeartbeats 1000000 in
theorem qdI [MaxL] [TxtC] (x y:ID):call cx 47 [.agg (qd x.l),.agg (qd y.l)] [] = some (.int .i64 (qt x.l y.l),[]):=by
 refine qq Tryz.func47 rfl ⟨rfl,rfl⟩ ?_;simp [Tryz.f47];refine Run.loopThen (fun (i:Nat) e H=>i≤16∧H = [some (qd x.l),some (qd y.l)]∧qf e 2 = some (.optr 0 16 0)∧qf e 3 = some (.optr 1 16 0)∧qf e 5 = some (.int .i64 i)∧qt x.l y.l = qt (x.l.drop i) (y.l.drop i)) (fun i=>16 - i) 0 (by simp) ?_;rintro i e H ⟨hi,rfl,h2,h3,h5,hr⟩;by_cases qg:i < 16
 ·have qk:(i:Int) < 16:=by omega
  have hx:i < x.l.length:=by simp;omega
  have hy:i < y.l.length:=by simp;omega
  have hw:IntKind.i64.wrap ((i:Int)+1) = ((i+1:Nat):Int):=by rw [wrap_i64] <;> omega
  have hwx:IntKind.u64.wrap (x.l[i].toNat:Int) = (x.l[i].toNat:Int):=by rw [qK];have:=x.l[i].toNat_lt;omega
  have hwy:IntKind.u64.wrap (y.l[i].toNat:Int) = (y.l[i].toNat:Int):=by rw [qK];have:=y.l[i].toNat_lt;omega
  have ho:=qol (x.l[i].toNat:Int) (y.l[i].toNat:Int);rw [qvy hx hy] at hr;by_cases he:x.l[i] = y.l[i]
  ·rw [if_pos he] at hr;simp [h2,h3,h5,qk,zW hx,zW hy,he,hw];exact ⟨i+1,by omega,by omega,rfl,hr⟩
  ·have qr:¬ ((x.l[i].toNat:Int) = (y.l[i].toNat:Int)):=by
    intro h;exact he (UInt8.toNat_inj.1 (by omega))
   have hne':¬ (x.l[i].toNat = y.l[i].toNat):=fun h=>he (UInt8.toNat_inj.1 h);rw [if_neg he] at hr
   have ho':(if (x.l[i].toNat:Int) < (y.l[i].toNat:Int) then (-1:Int) else if (y.l[i].toNat:Int) < (x.l[i].toNat:Int) then 1 else 0) = qt x.l y.l:=by
    rw [hr];by_cases hl:x.l[i] < y.l[i]
    ·have:x.l[i].toNat < y.l[i].toNat:=hl;rw [if_pos hl,if_pos (by omega)]
    ·have:¬ x.l[i].toNat < y.l[i].toNat:=hl;rw [if_neg hl,if_neg (by omega),if_pos (by omega)]
   rw [ho'] at ho;simp [h2,h3,h5,qk,zW hx,zW hy,qr,hwx,hwy,ho]
 ·have qk:¬ (i:Int) < 16:=by omega
  have zI:i = 16:=by omega
  subst zI;have e1:x.l.drop 16 = []:=List.drop_eq_nil_of_le (by simp);have e2:y.l.drop 16 = []:=List.drop_eq_nil_of_le (by simp);rw [e1,e2,qt] at hr;simp [h2,h3,h5,hr]
set_option maxHeartbeats 1000000 in
theorem qcJ [MaxL] [TxtC] (s:Sl Mk) (hn:s.l.length < 4611686018427387904) :
  call cx 20 [(.vsl s.nil (qh s.l) s.l.length)] [] = some (.bool (jJ s.l),[]):=by
 refine qq Tryz.func20 rfl ⟨rfl,rfl⟩ ?_;simp [Tryz.f20];refine Run.loopThen (fun (i:Nat) e H=>1≤i∧(i≤s.l.length∨i = 1)∧H = []∧qf e 0 = some (.vsl s.nil (qh s.l) s.l.length)∧qf e 3 = some (.int .i64 i)∧zN s.l = zN (s.l.drop (i - 1))) (fun i=>s.l.length - i) 1 (by simp) ?_;rintro i e H ⟨hi,hil,rfl,h0,h3,hr⟩;by_cases qg:i < s.l.length
 ·obtain ⟨k,hk⟩:∃ k,k+1 = i:=⟨i - 1,by omega⟩;have qk:(i:Int) < (s.l.length:Int):=by omega
  have vB:k < s.l.length:=by omega
  have vN:(k:Int) < (s.l.length:Int):=by omega
  have hw:IntKind.i64.wrap ((i:Int) - 1) = (k:Int):=by rw [wrap_i64] <;> omega
  have zg:IntKind.i64.wrap ((i:Int)+1) = ((i+1:Nat):Int):=by rw [wrap_i64] <;> omega
  have hc:=qdI s.l[k].id s.l[i].id
  have zD:zN s.l = (decide (qt s.l[k].id.l s.l[i].id.l < 0) && zN (s.l.drop i)):=by
   have e1:i - 1 = k:=by omega
   have e2:s.l.drop k = s.l[k] :: s.l[i] :: s.l.drop (i+1):=by
    rw [List.drop_eq_getElem_cons vB];congr 1;rw [hk,List.drop_eq_getElem_cons qg]
   rw [hr,e1,e2,zN,List.drop_eq_getElem_cons qg]
  have zI:∀ k,(16≤19+k) = True:=fun k=>eq_true (by omega);by_cases hcm:qt s.l[k].id.l s.l[i].id.l < 0
  ·have hcm':¬ 0≤qt s.l[k].id.l s.l[i].id.l:=(by omega);rw [decide_eq_true hcm,Bool.true_and] at zD;simp [h0,h3,qk,hw,vN,Sl.nn qg,zI,qg,vB,hc,hcm',zg];exact ⟨i+1,by omega,by omega,.inl (by omega),rfl,by simpa using zD⟩
  ·have hcm':0≤qt s.l[k].id.l s.l[i].id.l:=(by omega);rw [decide_eq_false hcm,Bool.false_and] at zD;simp [h0,h3,qk,hw,vN,Sl.nn qg,zI,qg,vB,hc,hcm',zD,jJ]
 ·have qk:¬ (i:Int) < (s.l.length:Int):=by omega
  have zD:zN s.l = true:=by
   rw [hr];have:(s.l.drop (i - 1)).length≤1:=by rw [List.length_drop];omega
   match s.l.drop (i - 1),this with
   | [],_=>rfl
   | [a],_=>rfl
  by_cases h4:s.l.length≤4
  ·have h4':(s.l.length:Int)≤4:=(by omega);simp [h0,h3,qk,zD,h4,h4',jJ]
  ·have h4':¬ (s.l.length:Int)≤4:=(by omega);simp [h0,h3,qk,zD,h4,h4',jJ]
set_option maxHeartbeats 1000000 in
theorem qgc [MaxL] [TxtC] (a b:Sl Mk) (ha:a.l.length < 4611686018427387904) :
  call cx 25 [(.vsl a.nil (qh a.l) a.l.length),(.vsl b.nil (qh b.l) b.l.length)] [] = some (.bool (a.l == b.l),[]):=by
 refine qq Tryz.func25 rfl ⟨rfl,rfl⟩ ?_;by_cases hl:a.l.length = b.l.length
 ·simp [Tryz.f25,hl];refine Run.loopThen (fun (i:Nat) e H=>i≤b.l.length∧H = []∧qf e 0 = some (.vsl a.nil (qh a.l) a.l.length)∧qf e 1 = some (.vsl b.nil (qh b.l) b.l.length)∧qf e 5 = some (.int .i64 i)∧KU a.l b.l = KU (a.l.drop i) (b.l.drop i)) (fun i=>b.l.length - i) 0 (by simp [hl]) ?_;rintro i e H ⟨hi,rfl,h0,h1,h5,hr⟩;rw [qcB a.l b.l] at hr;by_cases qg:i < b.l.length
  ·have qk:(i:Int) < (b.l.length:Int):=(by omega);have hla:i < a.l.length:=(by omega);have hw:IntKind.i64.wrap ((i:Int)+1) = ((i+1:Nat):Int):=(by rw [wrap_i64] <;> omega);rw [List.drop_eq_getElem_cons qg,List.drop_eq_getElem_cons hla,KU] at hr;have hc:=qv2 a.l[i] b.l[i];cases he:a.l[i] == b.l[i] with
   | true =>
    rw [he] at hr hc;rw [Bool.true_and] at hr;simp [h0,h1,h5,hl,qk,qg,Sl.nn qg,Sl.nn hla,hc,hw];exact ⟨i+1,by omega,by omega,rfl,by rw [qcB a.l b.l];exact hr⟩
   | false =>
    rw [he] at hr hc;rw [Bool.false_and] at hr;simp [h0,h1,h5,hl,qk,qg,Sl.nn qg,Sl.nn hla,hc,hr]
  ·have qk:¬ (i:Int) < (b.l.length:Int):=(by omega);have h1d:a.l.drop i = []:=List.drop_eq_nil_of_le (by omega);have h2d:b.l.drop i = []:=List.drop_eq_nil_of_le (by omega);rw [h1d,h2d,KU] at hr;simp [h0,h1,h5,hl,qk,hr]
 ·have vM:¬ ((a.l.length:Int) = (b.l.length:Int)):=by omega
  have he:(a.l == b.l) = false:=by
   rw [beq_eq_false_iff_ne];intro h;exact hl (by rw [h])
  simp [Tryz.f25,vM,he]
def vS (a b:List Mk):Bool:=a.all fun m=>decide (m.seq≤(jd b m.id).seq)
theorem qkt {α:Type} (p:α→Bool) {l:List α} {i:Nat} (h:i < l.length):(l.drop i).all p = (p l[i] && (l.drop (i+1)).all p):=by
 rw [List.drop_eq_getElem_cons h,List.all_cons]
set_option maxHeartbeats 1000000 in
theorem qbx [MaxL] [TxtC] (a b:Sl Mk) (ha:a.l.length < 4611686018427387904) (hb:b.l.length < 4611686018427387904) :
  call cx 73 [(.vsl a.nil (qh a.l) a.l.length),(.vsl b.nil (qh b.l) b.l.length)] [] = some (.bool (vS a.l b.l),[]):=by
 refine qq Tryz.func73 rfl ⟨rfl,rfl⟩ ?_;simp [Tryz.f73];refine Run.loopThen (fun (i:Nat) e H=>i≤a.l.length∧H = []∧qf e 1 = some (.vsl b.nil (qh b.l) b.l.length)∧qf e 7 = some (.vsl a.nil (qh a.l) a.l.length)∧qf e 8 = some (.int .i64 a.l.length)∧qf e 9 = some (.int .i64 i)∧vS a.l b.l = vS (a.l.drop i) b.l) (fun i=>a.l.length - i) 0 (by simp) ?_;rintro i e H ⟨hi,rfl,h1,h7,h8,h9,hr⟩;by_cases qg:i < a.l.length
 ·have qk:(i:Int) < (a.l.length:Int):=by omega
  have hw:IntKind.i64.wrap ((i:Int)+1) = ((i+1:Nat):Int):=by rw [wrap_i64] <;> omega
  have hg:=qix b hb a.l[i].id;unfold vS at hr ⊢;rw [qkt _ qg] at hr;by_cases hs:(jd b.l a.l[i].id).seq < a.l[i].seq
  ·have jN:¬ a.l[i].seq≤(jd b.l a.l[i].id).seq:=(by omega);simp only [jN,decide_false,Bool.false_and] at hr;simp [h1,h7,h8,h9,qk,qg,Sl.nn qg,hg,hs,hr]
  ·have jN:a.l[i].seq≤(jd b.l a.l[i].id).seq:=(by omega);simp only [jN,decide_true,Bool.true_and] at hr;simp [h1,h7,h8,h9,qk,qg,Sl.nn qg,hg,hs,hw];exact ⟨i+1,by omega,by omega,rfl,hr⟩
 ·have qk:¬ (i:Int) < (a.l.length:Int):=by omega
  have hd:a.l.drop i = []:=List.drop_eq_nil_of_le (by omega);rw [hd] at hr;have he:vS [] b.l = true:=rfl;rw [he] at hr;simp [h1,h7,h8,h9,qk,hr]
end Go.Ev.S
namespace Go.Ev
open Go Go.Proofs
structure I6 where
 v:Int
instance:Enc I6:=⟨1,fun x=>[.int .i64 x.v],fun _=>rfl,fun _=>rfl⟩
theorem I6.cells (x:I6):Enc.cells x = [.int .i64 x.v]:=rfl
@[simp] theorem I6.size:Enc.size I6 = 1:=rfl
@[simp] theorem I6.cl (a:I6):(Enc.cells a).length = 1:=Enc.len a
@[simp] theorem I6.ct (a:I6) (r:List D):(Enc.cells a ++ r).take 1 = Enc.cells a:=JE rfl a r
@[simp] theorem I6.ct' (a:I6):(Enc.cells a).take 1 = Enc.cells a:=JD rfl a
@[simp] theorem I6.cd (a:I6) (r:List D):(Enc.cells a ++ r).drop 1 = r:=JF rfl a r
@[simp] theorem I6.el (l:List I6):(qh l).length = l.length * 1:=JA rfl l
@[simp] theorem I6.ed (l:List I6) (i:Nat):(qh l).drop (i * 1) = qh (l.drop i):=ZU rfl l i
@[simp] theorem I6.et (l:List I6) (i:Nat):(qh l).take (i * 1) = qh (l.take i):=Jq rfl l i
@[simp high] theorem I6.ea {l:List I6} {i:Nat} (h:i < l.length):(qh l).drop (i * 1) = Enc.cells l[i] ++ qh (l.drop (i+1)):=ZV rfl h
@[simp high] theorem I6.es (m:I6) {l:List I6} {j:Nat} (h:j < l.length):qA (qh l) (j * 1) (Enc.cells m) = qh (l.set j m):=Jr rfl m l h
theorem qu7 (l:List I6):qh l = zL .i64 (l.map (·.v)):=by
 unfold zL
 induction l with
 | nil=>rfl
 | cons a l ih=>rw [QP,ih];rfl
structure DoI where
 kind:Int
 epoch:Int
 number:Int
 ln:Sl I6
 ats:Sl I6
 byv:Int
 b:Sl UInt8
instance:Enc DoI:=⟨7,fun m=>(.int .i64 m.kind :: (.int .i64 m.epoch :: (.int .i64 m.number :: ((.vsl m.ln.nil (qh m.ln.l) m.ln.l.length) :: ((.vsl m.ats.nil (qh m.ats.l) m.ats.l.length) :: (.int .u8 m.byv :: ((.vsl m.b.nil (qd m.b.l) m.b.l.length) :: ([]:List D)))))))),fun m=>by simp,fun m=>by simp [idFree]⟩
theorem DoI.cells (m:DoI):Enc.cells m = (.int .i64 m.kind :: (.int .i64 m.epoch :: (.int .i64 m.number :: ((.vsl m.ln.nil (qh m.ln.l) m.ln.l.length) :: ((.vsl m.ats.nil (qh m.ats.l) m.ats.l.length) :: (.int .u8 m.byv :: ((.vsl m.b.nil (qd m.b.l) m.b.l.length) :: ([]:List D)))))))):=rfl
@[simp] theorem DoI.size:Enc.size DoI = 7:=rfl
@[simp] theorem DoI.cl (a:DoI):(Enc.cells a).length = 7:=Enc.len a
@[simp] theorem DoI.ct (a:DoI) (r:List D):(Enc.cells a ++ r).take 7 = Enc.cells a:=JE rfl a r
@[simp] theorem DoI.ct' (a:DoI):(Enc.cells a).take 7 = Enc.cells a:=JD rfl a
@[simp] theorem DoI.cd (a:DoI) (r:List D):(Enc.cells a ++ r).drop 7 = r:=JF rfl a r
@[simp] theorem DoI.el (l:List DoI):(qh l).length = l.length * 7:=JA rfl l
@[simp] theorem DoI.ed (l:List DoI) (i:Nat):(qh l).drop (i * 7) = qh (l.drop i):=ZU rfl l i
@[simp] theorem DoI.et (l:List DoI) (i:Nat):(qh l).take (i * 7) = qh (l.take i):=Jq rfl l i
@[simp high] theorem DoI.ea {l:List DoI} {i:Nat} (h:i < l.length):(qh l).drop (i * 7) = Enc.cells l[i] ++ qh (l.drop (i+1)):=ZV rfl h
@[simp high] theorem DoI.es (m:DoI) {l:List DoI} {j:Nat} (h:j < l.length):qA (qh l) (j * 7) (Enc.cells m) = qh (l.set j m):=Jr rfl m l h
@[simp] theorem DoI.g0 (m:DoI) (h):(Enc.cells m)[0]'h = .int .i64 m.kind:=by simp [DoI.cells]
@[simp] theorem DoI.q0 (m:DoI):(Enc.cells m)[0]? = some (.int .i64 m.kind):=by simp [DoI.cells]
@[simp] theorem DoI.s0 (m:DoI) (x:Int):qA (Enc.cells m) 0 [.int .i64 x] = Enc.cells { m with kind:=x }:=by simp [DoI.cells]
@[simp] theorem DoI.d1 (m:DoI):(Enc.cells m).drop 1 = (.int .i64 m.epoch :: (.int .i64 m.number :: ((.vsl m.ln.nil (qh m.ln.l) m.ln.l.length) :: ((.vsl m.ats.nil (qh m.ats.l) m.ats.l.length) :: (.int .u8 m.byv :: ((.vsl m.b.nil (qd m.b.l) m.b.l.length) :: ([]:List D))))))):=by simp [DoI.cells]
@[simp] theorem DoI.d1' (m:DoI) (r:List D):(Enc.cells m ++ r).drop 1 = (.int .i64 m.epoch :: (.int .i64 m.number :: ((.vsl m.ln.nil (qh m.ln.l) m.ln.l.length) :: ((.vsl m.ats.nil (qh m.ats.l) m.ats.l.length) :: (.int .u8 m.byv :: ((.vsl m.b.nil (qd m.b.l) m.b.l.length) :: ([]:List D))))))) ++ r:=by simp [DoI.cells]
@[simp] theorem DoI.g1 (m:DoI) (h):(Enc.cells m)[1]'h = .int .i64 m.epoch:=by simp [DoI.cells]
@[simp] theorem DoI.q1 (m:DoI):(Enc.cells m)[1]? = some (.int .i64 m.epoch):=by simp [DoI.cells]
@[simp] theorem DoI.s1 (m:DoI) (x:Int):qA (Enc.cells m) 1 [.int .i64 x] = Enc.cells { m with epoch:=x }:=by simp [DoI.cells]
@[simp] theorem DoI.d2 (m:DoI):(Enc.cells m).drop 2 = (.int .i64 m.number :: ((.vsl m.ln.nil (qh m.ln.l) m.ln.l.length) :: ((.vsl m.ats.nil (qh m.ats.l) m.ats.l.length) :: (.int .u8 m.byv :: ((.vsl m.b.nil (qd m.b.l) m.b.l.length) :: ([]:List D)))))):=by simp [DoI.cells]
@[simp] theorem DoI.d2' (m:DoI) (r:List D):(Enc.cells m ++ r).drop 2 = (.int .i64 m.number :: ((.vsl m.ln.nil (qh m.ln.l) m.ln.l.length) :: ((.vsl m.ats.nil (qh m.ats.l) m.ats.l.length) :: (.int .u8 m.byv :: ((.vsl m.b.nil (qd m.b.l) m.b.l.length) :: ([]:List D)))))) ++ r:=by simp [DoI.cells]
@[simp] theorem DoI.g2 (m:DoI) (h):(Enc.cells m)[2]'h = .int .i64 m.number:=by simp [DoI.cells]
@[simp] theorem DoI.q2 (m:DoI):(Enc.cells m)[2]? = some (.int .i64 m.number):=by simp [DoI.cells]
@[simp] theorem DoI.s2 (m:DoI) (x:Int):qA (Enc.cells m) 2 [.int .i64 x] = Enc.cells { m with number:=x }:=by simp [DoI.cells]
@[simp] theorem DoI.d3 (m:DoI):(Enc.cells m).drop 3 = ((.vsl m.ln.nil (qh m.ln.l) m.ln.l.length) :: ((.vsl m.ats.nil (qh m.ats.l) m.ats.l.length) :: (.int .u8 m.byv :: ((.vsl m.b.nil (qd m.b.l) m.b.l.length) :: ([]:List D))))):=by simp [DoI.cells]
@[simp] theorem DoI.d3' (m:DoI) (r:List D):(Enc.cells m ++ r).drop 3 = ((.vsl m.ln.nil (qh m.ln.l) m.ln.l.length) :: ((.vsl m.ats.nil (qh m.ats.l) m.ats.l.length) :: (.int .u8 m.byv :: ((.vsl m.b.nil (qd m.b.l) m.b.l.length) :: ([]:List D))))) ++ r:=by simp [DoI.cells]
@[simp] theorem DoI.g3 (m:DoI) (h):(Enc.cells m)[3]'h = (.vsl m.ln.nil (qh m.ln.l) m.ln.l.length):=by simp [DoI.cells]
@[simp] theorem DoI.q3 (m:DoI):(Enc.cells m)[3]? = some ((.vsl m.ln.nil (qh m.ln.l) m.ln.l.length)):=by simp [DoI.cells]
@[simp] theorem DoI.s3 (m:DoI) (x:Sl I6):qA (Enc.cells m) 3 [(.vsl x.nil (qh x.l) x.l.length)] = Enc.cells { m with ln:=x }:=by simp [DoI.cells]
@[simp] theorem DoI.d4 (m:DoI):(Enc.cells m).drop 4 = ((.vsl m.ats.nil (qh m.ats.l) m.ats.l.length) :: (.int .u8 m.byv :: ((.vsl m.b.nil (qd m.b.l) m.b.l.length) :: ([]:List D)))):=by simp [DoI.cells]
@[simp] theorem DoI.d4' (m:DoI) (r:List D):(Enc.cells m ++ r).drop 4 = ((.vsl m.ats.nil (qh m.ats.l) m.ats.l.length) :: (.int .u8 m.byv :: ((.vsl m.b.nil (qd m.b.l) m.b.l.length) :: ([]:List D)))) ++ r:=by simp [DoI.cells]
@[simp] theorem DoI.g4 (m:DoI) (h):(Enc.cells m)[4]'h = (.vsl m.ats.nil (qh m.ats.l) m.ats.l.length):=by simp [DoI.cells]
@[simp] theorem DoI.q4 (m:DoI):(Enc.cells m)[4]? = some ((.vsl m.ats.nil (qh m.ats.l) m.ats.l.length)):=by simp [DoI.cells]
@[simp] theorem DoI.s4 (m:DoI) (x:Sl I6):qA (Enc.cells m) 4 [(.vsl x.nil (qh x.l) x.l.length)] = Enc.cells { m with ats:=x }:=by simp [DoI.cells]
@[simp] theorem DoI.d5 (m:DoI):(Enc.cells m).drop 5 = (.int .u8 m.byv :: ((.vsl m.b.nil (qd m.b.l) m.b.l.length) :: ([]:List D))):=by simp [DoI.cells]
@[simp] theorem DoI.d5' (m:DoI) (r:List D):(Enc.cells m ++ r).drop 5 = (.int .u8 m.byv :: ((.vsl m.b.nil (qd m.b.l) m.b.l.length) :: ([]:List D))) ++ r:=by simp [DoI.cells]
@[simp] theorem DoI.g5 (m:DoI) (h):(Enc.cells m)[5]'h = .int .u8 m.byv:=by simp [DoI.cells]
@[simp] theorem DoI.q5 (m:DoI):(Enc.cells m)[5]? = some (.int .u8 m.byv):=by simp [DoI.cells]
@[simp] theorem DoI.s5 (m:DoI) (x:Int):qA (Enc.cells m) 5 [.int .u8 x] = Enc.cells { m with byv:=x }:=by simp [DoI.cells]
@[simp] theorem DoI.d6 (m:DoI):(Enc.cells m).drop 6 = ((.vsl m.b.nil (qd m.b.l) m.b.l.length) :: ([]:List D)):=by simp [DoI.cells]
@[simp] theorem DoI.d6' (m:DoI) (r:List D):(Enc.cells m ++ r).drop 6 = ((.vsl m.b.nil (qd m.b.l) m.b.l.length) :: ([]:List D)) ++ r:=by simp [DoI.cells]
@[simp] theorem DoI.g6 (m:DoI) (h):(Enc.cells m)[6]'h = (.vsl m.b.nil (qd m.b.l) m.b.l.length):=by simp [DoI.cells]
@[simp] theorem DoI.q6 (m:DoI):(Enc.cells m)[6]? = some ((.vsl m.b.nil (qd m.b.l) m.b.l.length)):=by simp [DoI.cells]
@[simp] theorem DoI.s6 (m:DoI) (x:Sl UInt8):qA (Enc.cells m) 6 [(.vsl x.nil (qd x.l) x.l.length)] = Enc.cells { m with b:=x }:=by simp [DoI.cells]
structure RcP where
 epoch:Int
 last:Int
 items:Sl It
 marks:Sl Mk
instance:Enc RcP:=⟨4,fun m=>(.int .u64 m.epoch :: (.int .u64 m.last :: ((.vsl m.items.nil (qh m.items.l) m.items.l.length) :: ((.vsl m.marks.nil (qh m.marks.l) m.marks.l.length) :: ([]:List D))))),fun m=>by simp,fun m=>by simp [idFree]⟩
theorem RcP.cells (m:RcP):Enc.cells m = (.int .u64 m.epoch :: (.int .u64 m.last :: ((.vsl m.items.nil (qh m.items.l) m.items.l.length) :: ((.vsl m.marks.nil (qh m.marks.l) m.marks.l.length) :: ([]:List D))))):=rfl
@[simp] theorem RcP.size:Enc.size RcP = 4:=rfl
@[simp] theorem RcP.cl (a:RcP):(Enc.cells a).length = 4:=Enc.len a
@[simp] theorem RcP.ct (a:RcP) (r:List D):(Enc.cells a ++ r).take 4 = Enc.cells a:=JE rfl a r
@[simp] theorem RcP.ct' (a:RcP):(Enc.cells a).take 4 = Enc.cells a:=JD rfl a
@[simp] theorem RcP.cd (a:RcP) (r:List D):(Enc.cells a ++ r).drop 4 = r:=JF rfl a r
@[simp] theorem RcP.el (l:List RcP):(qh l).length = l.length * 4:=JA rfl l
@[simp] theorem RcP.ed (l:List RcP) (i:Nat):(qh l).drop (i * 4) = qh (l.drop i):=ZU rfl l i
@[simp] theorem RcP.et (l:List RcP) (i:Nat):(qh l).take (i * 4) = qh (l.take i):=Jq rfl l i
@[simp high] theorem RcP.ea {l:List RcP} {i:Nat} (h:i < l.length):(qh l).drop (i * 4) = Enc.cells l[i] ++ qh (l.drop (i+1)):=ZV rfl h
@[simp high] theorem RcP.es (m:RcP) {l:List RcP} {j:Nat} (h:j < l.length):qA (qh l) (j * 4) (Enc.cells m) = qh (l.set j m):=Jr rfl m l h
@[simp] theorem RcP.g0 (m:RcP) (h):(Enc.cells m)[0]'h = .int .u64 m.epoch:=by simp [RcP.cells]
@[simp] theorem RcP.q0 (m:RcP):(Enc.cells m)[0]? = some (.int .u64 m.epoch):=by simp [RcP.cells]
@[simp] theorem RcP.s0 (m:RcP) (x:Int):qA (Enc.cells m) 0 [.int .u64 x] = Enc.cells { m with epoch:=x }:=by simp [RcP.cells]
@[simp] theorem RcP.d1 (m:RcP):(Enc.cells m).drop 1 = (.int .u64 m.last :: ((.vsl m.items.nil (qh m.items.l) m.items.l.length) :: ((.vsl m.marks.nil (qh m.marks.l) m.marks.l.length) :: ([]:List D)))):=by simp [RcP.cells]
@[simp] theorem RcP.d1' (m:RcP) (r:List D):(Enc.cells m ++ r).drop 1 = (.int .u64 m.last :: ((.vsl m.items.nil (qh m.items.l) m.items.l.length) :: ((.vsl m.marks.nil (qh m.marks.l) m.marks.l.length) :: ([]:List D)))) ++ r:=by simp [RcP.cells]
@[simp] theorem RcP.g1 (m:RcP) (h):(Enc.cells m)[1]'h = .int .u64 m.last:=by simp [RcP.cells]
@[simp] theorem RcP.q1 (m:RcP):(Enc.cells m)[1]? = some (.int .u64 m.last):=by simp [RcP.cells]
@[simp] theorem RcP.s1 (m:RcP) (x:Int):qA (Enc.cells m) 1 [.int .u64 x] = Enc.cells { m with last:=x }:=by simp [RcP.cells]
@[simp] theorem RcP.d2 (m:RcP):(Enc.cells m).drop 2 = ((.vsl m.items.nil (qh m.items.l) m.items.l.length) :: ((.vsl m.marks.nil (qh m.marks.l) m.marks.l.length) :: ([]:List D))):=by simp [RcP.cells]
@[simp] theorem RcP.d2' (m:RcP) (r:List D):(Enc.cells m ++ r).drop 2 = ((.vsl m.items.nil (qh m.items.l) m.items.l.length) :: ((.vsl m.marks.nil (qh m.marks.l) m.marks.l.length) :: ([]:List D))) ++ r:=by simp [RcP.cells]
@[simp] theorem RcP.g2 (m:RcP) (h):(Enc.cells m)[2]'h = (.vsl m.items.nil (qh m.items.l) m.items.l.length):=by simp [RcP.cells]
@[simp] theorem RcP.q2 (m:RcP):(Enc.cells m)[2]? = some ((.vsl m.items.nil (qh m.items.l) m.items.l.length)):=by simp [RcP.cells]
@[simp] theorem RcP.s2 (m:RcP) (x:Sl It):qA (Enc.cells m) 2 [(.vsl x.nil (qh x.l) x.l.length)] = Enc.cells { m with items:=x }:=by simp [RcP.cells]
@[simp] theorem RcP.d3 (m:RcP):(Enc.cells m).drop 3 = ((.vsl m.marks.nil (qh m.marks.l) m.marks.l.length) :: ([]:List D)):=by simp [RcP.cells]
@[simp] theorem RcP.d3' (m:RcP) (r:List D):(Enc.cells m ++ r).drop 3 = ((.vsl m.marks.nil (qh m.marks.l) m.marks.l.length) :: ([]:List D)) ++ r:=by simp [RcP.cells]
@[simp] theorem RcP.g3 (m:RcP) (h):(Enc.cells m)[3]'h = (.vsl m.marks.nil (qh m.marks.l) m.marks.l.length):=by simp [RcP.cells]
@[simp] theorem RcP.q3 (m:RcP):(Enc.cells m)[3]? = some ((.vsl m.marks.nil (qh m.marks.l) m.marks.l.length)):=by simp [RcP.cells]
@[simp] theorem RcP.s3 (m:RcP) (x:Sl Mk):qA (Enc.cells m) 3 [(.vsl x.nil (qh x.l) x.l.length)] = Enc.cells { m with marks:=x }:=by simp [RcP.cells]
structure RcD where
 epoch:Int
 last:Int
 marks:Sl Mk
 items:Sl It
instance:Enc RcD:=⟨4,fun m=>(.int .u64 m.epoch :: (.int .u64 m.last :: ((.vsl m.marks.nil (qh m.marks.l) m.marks.l.length) :: ((.vsl m.items.nil (qh m.items.l) m.items.l.length) :: ([]:List D))))),fun m=>by simp,fun m=>by simp [idFree]⟩
theorem RcD.cells (m:RcD):Enc.cells m = (.int .u64 m.epoch :: (.int .u64 m.last :: ((.vsl m.marks.nil (qh m.marks.l) m.marks.l.length) :: ((.vsl m.items.nil (qh m.items.l) m.items.l.length) :: ([]:List D))))):=rfl
@[simp] theorem RcD.size:Enc.size RcD = 4:=rfl
@[simp] theorem RcD.cl (a:RcD):(Enc.cells a).length = 4:=Enc.len a
@[simp] theorem RcD.ct (a:RcD) (r:List D):(Enc.cells a ++ r).take 4 = Enc.cells a:=JE rfl a r
@[simp] theorem RcD.ct' (a:RcD):(Enc.cells a).take 4 = Enc.cells a:=JD rfl a
@[simp] theorem RcD.cd (a:RcD) (r:List D):(Enc.cells a ++ r).drop 4 = r:=JF rfl a r
@[simp] theorem RcD.el (l:List RcD):(qh l).length = l.length * 4:=JA rfl l
@[simp] theorem RcD.ed (l:List RcD) (i:Nat):(qh l).drop (i * 4) = qh (l.drop i):=ZU rfl l i
@[simp] theorem RcD.et (l:List RcD) (i:Nat):(qh l).take (i * 4) = qh (l.take i):=Jq rfl l i
@[simp high] theorem RcD.ea {l:List RcD} {i:Nat} (h:i < l.length):(qh l).drop (i * 4) = Enc.cells l[i] ++ qh (l.drop (i+1)):=ZV rfl h
@[simp high] theorem RcD.es (m:RcD) {l:List RcD} {j:Nat} (h:j < l.length):qA (qh l) (j * 4) (Enc.cells m) = qh (l.set j m):=Jr rfl m l h
@[simp] theorem RcD.g0 (m:RcD) (h):(Enc.cells m)[0]'h = .int .u64 m.epoch:=by simp [RcD.cells]
@[simp] theorem RcD.q0 (m:RcD):(Enc.cells m)[0]? = some (.int .u64 m.epoch):=by simp [RcD.cells]
@[simp] theorem RcD.s0 (m:RcD) (x:Int):qA (Enc.cells m) 0 [.int .u64 x] = Enc.cells { m with epoch:=x }:=by simp [RcD.cells]
@[simp] theorem RcD.d1 (m:RcD):(Enc.cells m).drop 1 = (.int .u64 m.last :: ((.vsl m.marks.nil (qh m.marks.l) m.marks.l.length) :: ((.vsl m.items.nil (qh m.items.l) m.items.l.length) :: ([]:List D)))):=by simp [RcD.cells]
@[simp] theorem RcD.d1' (m:RcD) (r:List D):(Enc.cells m ++ r).drop 1 = (.int .u64 m.last :: ((.vsl m.marks.nil (qh m.marks.l) m.marks.l.length) :: ((.vsl m.items.nil (qh m.items.l) m.items.l.length) :: ([]:List D)))) ++ r:=by simp [RcD.cells]
@[simp] theorem RcD.g1 (m:RcD) (h):(Enc.cells m)[1]'h = .int .u64 m.last:=by simp [RcD.cells]
@[simp] theorem RcD.q1 (m:RcD):(Enc.cells m)[1]? = some (.int .u64 m.last):=by simp [RcD.cells]
@[simp] theorem RcD.s1 (m:RcD) (x:Int):qA (Enc.cells m) 1 [.int .u64 x] = Enc.cells { m with last:=x }:=by simp [RcD.cells]
@[simp] theorem RcD.d2 (m:RcD):(Enc.cells m).drop 2 = ((.vsl m.marks.nil (qh m.marks.l) m.marks.l.length) :: ((.vsl m.items.nil (qh m.items.l) m.items.l.length) :: ([]:List D))):=by simp [RcD.cells]
@[simp] theorem RcD.d2' (m:RcD) (r:List D):(Enc.cells m ++ r).drop 2 = ((.vsl m.marks.nil (qh m.marks.l) m.marks.l.length) :: ((.vsl m.items.nil (qh m.items.l) m.items.l.length) :: ([]:List D))) ++ r:=by simp [RcD.cells]
@[simp] theorem RcD.g2 (m:RcD) (h):(Enc.cells m)[2]'h = (.vsl m.marks.nil (qh m.marks.l) m.marks.l.length):=by simp [RcD.cells]
@[simp] theorem RcD.q2 (m:RcD):(Enc.cells m)[2]? = some ((.vsl m.marks.nil (qh m.marks.l) m.marks.l.length)):=by simp [RcD.cells]
@[simp] theorem RcD.s2 (m:RcD) (x:Sl Mk):qA (Enc.cells m) 2 [(.vsl x.nil (qh x.l) x.l.length)] = Enc.cells { m with marks:=x }:=by simp [RcD.cells]
@[simp] theorem RcD.d3 (m:RcD):(Enc.cells m).drop 3 = ((.vsl m.items.nil (qh m.items.l) m.items.l.length) :: ([]:List D)):=by simp [RcD.cells]
@[simp] theorem RcD.d3' (m:RcD) (r:List D):(Enc.cells m ++ r).drop 3 = ((.vsl m.items.nil (qh m.items.l) m.items.l.length) :: ([]:List D)) ++ r:=by simp [RcD.cells]
@[simp] theorem RcD.g3 (m:RcD) (h):(Enc.cells m)[3]'h = (.vsl m.items.nil (qh m.items.l) m.items.l.length):=by simp [RcD.cells]
@[simp] theorem RcD.q3 (m:RcD):(Enc.cells m)[3]? = some ((.vsl m.items.nil (qh m.items.l) m.items.l.length)):=by simp [RcD.cells]
@[simp] theorem RcD.s3 (m:RcD) (x:Sl It):qA (Enc.cells m) 3 [(.vsl x.nil (qh x.l) x.l.length)] = Enc.cells { m with items:=x }:=by simp [RcD.cells]
end Go.Ev
namespace Go.Ev
attribute [simp] Vw XX mv mv.mvL ZR QW XZ X8
end Go.Ev
namespace Go.Ev.S
open Go Go.Proofs Go.Ev
def qwL {α:Type} [Enc α] (S:List D) (sz:Nat) (l:List α) (d:D) (H:qi):Prop :=
 (l = []∧d = .vsl true [] 0∧H = [some S])∨(l≠[]∧∃ n k t,n = l.length * sz∧k = l.length∧((d = .osl 2 n 0 k sz∧H = [some S,some t,some (qh l)])∨(d = .osl 1 n 0 k sz∧H = [some S,some (qh l),some t])))
def qk1 (nil:Bool) (zs:List Int) (q:D × qi):Prop:= ∃ (l:List Pr) (k':Nat),1≤l.length∧l.length≤4∧(∀ p∈l,ZD p = true)∧q = (.vsl false (qh l) l.length,[some (jl nil zs k')])
set_option maxHeartbeats 1000000 in
theorem qoP [MaxL] [TxtC] (nil:Bool) (zs:List Int) (qJ:nil = true→zs = []) (hz:zs.length≤1000000) (k:Nat) :
  ∃ q,call cx 94 [.optr 0 2 0,.int .i64 4] [some (jl nil zs k)] = some q∧qk1 nil zs q:=by
 obtain ⟨x,k1,hx,-,h1⟩:=ZQ nil zs qJ hz k 4 (by decide) (by decide);refine vf (X:=cx) (f:=94) (args:=[.optr 0 2 0,.int .i64 4]) (H:=[some (jl nil zs k)]) (qk1 nil zs) Tryz.func94 rfl ⟨rfl,rfl⟩ ?_;have hw:IntKind.i64.wrap ((x:Int)+1) = ((x+1:Nat):Int):=by rw [wrap_i64] <;> omega
 have sf:=Ys nil zs;have sl:=Yr nil zs;have sc:=Yt nil zs;simp [Tryz.f94,h1,sf];refine Run.loopThen (fun (q:List Pr × Nat × Nat) e H'=>q.1.length+q.2.1 = x+1∧(∀ p∈q.1,ZD p = true)∧qf e 0 = some (.optr 0 2 0)∧qf e 6 = some (.int .i64 (q.2.1:Nat))∧∃ d,qf e 5 = some d∧qwL (jl nil zs q.2.2) 2 q.1 d H') (fun q=>q.2.1) ([],x+1,k1) ?_ ?_
 ·exact ⟨by simp,by simp,by simp,by simp [hw],_,by simp,.inl ⟨rfl,rfl,rfl⟩⟩
 rintro ⟨l,i,k2⟩ e H' ⟨hi,hok,k0,k6,d,k5,hH⟩;simp only at hi hok k6 hH;obtain ⟨p,k3,hp,h2⟩:=qoQ nil zs qJ hz k2;rcases hH with ⟨rfl,rfl,rfl⟩ | ⟨qr,n,m,t,hn,hm,hH⟩
 ·have hi0:0 < i:=by simp at hi;omega
  have zg:IntKind.i64.wrap ((i:Int) - 1) = ((i - 1:Nat):Int):=by rw [wrap_i64] <;> (simp at hi;omega)
  simp [k0,k5,k6,hi0,h2,sf,sc,zg,Pr.cells,qB];exact ⟨[p],i - 1,by omega,by simp at hi ⊢;omega,by simp [hp],rfl,k3,.inr ⟨by simp,2,1,_,rfl,rfl,.inl ⟨rfl,rfl⟩⟩⟩
 ·have zH:(m+1) * 32≤140737488355328:=by omega
  have zj:m+1≤140737488355328:=by omega
  have qR:l.length = m:=hm.symm;have qV:m * 2 = n:=by omega
  have qu:List.take n (qh l) = qh l:=List.take_of_length_le (by simp;omega);by_cases hi0:0 < i
  ·have zg:IntKind.i64.wrap ((i:Int) - 1) = ((i - 1:Nat):Int):=(by rw [wrap_i64] <;> omega);rcases hH with ⟨rfl,rfl⟩ | ⟨rfl,rfl⟩
   all_goals
    simp [k0,k5,k6,hi0,h2,sf,sc,zg,Pr.cells,qB,qR,qV,zH,zj];refine ⟨l ++ [p],i - 1,by omega,by simp;omega,fun q hq=>?_,rfl,k3,.inr ⟨by simp,n+2,m+1,_,by simp;omega,by simp [qR],.inr ⟨rfl,by rw [QI];rfl⟩⟩⟩;rcases List.mem_append.1 hq with h | h
    ·exact hok q h
    ·rw [List.mem_singleton.1 h];exact hp
  ·have hie:l.isEmpty = false:=by simpa using qr
   have zJ:1≤l.length:=by
    cases l with
    | nil=>exact absurd rfl qr
    | cons=>simp
   rcases hH with ⟨rfl,rfl⟩ | ⟨rfl,rfl⟩
   all_goals
    simp [k0,k5,k6,hi0,sc,qR,qV,qu];exact ⟨l,k2,zJ,by omega,hok,by rw [qR]⟩
def qk0 (n:Nat) (r:Rec):Prop:=r.seq = n∧r.Ok∧1≤r.fields.l.length∧r.fields.l.length≤4∧∀ p∈r.fields.l,ZD p = true
theorem Yh {n:Nat} (h:n < 18446744073709551616):qw (n:Int):=by
 unfold qw;omega
set_option maxHeartbeats 1000000 in
theorem qoM [MaxL] [TxtC] (nil:Bool) (zs:List Int) (qJ:nil = true→zs = []) (hz:zs.length≤1000000) (k:Nat) (n:Nat) (hn:n < 18446744073709551616) :
  ∃ (r:Rec) (k':Nat),qk0 n r∧call cx 61 [.optr 0 2 0,.int .u64 n] [some (jl nil zs k)] = some (.agg (Enc.cells r),[some (jl nil zs k')]):=by
 obtain ⟨q,h1,l,k1,zJ,zB,hp,rfl⟩:=qoP nil zs qJ hz k;obtain ⟨q,h2,out,ho1,ho4,zP,rfl⟩:=qpr l zJ zB hp;obtain ⟨x,k2,hx,-,h3⟩:=ZQ nil zs qJ hz k1 40 (by decide) (by decide);obtain ⟨y,k3,hy,-,h4⟩:=ZQ nil zs qJ hz k2 9 (by decide) (by decide);obtain ⟨z,k4,hz3,-,h5⟩:=ZQ nil zs qJ hz k3 3 (by decide) (by decide);have h6:=qbn (j:=z) (by omega);refine ⟨⟨n,x,y,Zd z,.of out⟩,k4,⟨rfl,⟨Yh hn,Yh (by omega),Yh (by omega)⟩,ho1,ho4,zP⟩,?_⟩;have sf:=Ys nil zs;have sl:=Yr nil zs;have sc:=Yt nil zs;have hx64:IntKind.u64.wrap (x:Int) = (x:Int):=by rw [qK];omega
 have hy64:IntKind.u64.wrap (y:Int) = (y:Int):=by rw [qK];omega
 have hi:=(Zd z).h;generalize Zd z = iz at *;have ht:List.take 16 (qd iz.l) = qd iz.l:=List.take_of_length_le (by simp);have hd:List.drop 17 (qd iz.l ++ [D.vsl true [] 0]) = []:=List.drop_eq_nil_of_le (by simp);refine qq Tryz.func61 rfl ⟨rfl,rfl⟩ ?_;simp [Tryz.f61,h1,h2,h3,h4,h5,h6,sf,sc,hx64,hy64,Rec.cells,hi,hd,List.take_append]
def qax (it:It):Prop:=it.Ok∧zw it = true∧it.rc.fields.l.length≤4∧∀ p∈it.rc.fields.l,ZD p = true
theorem Yg:qw 0:=by unfold qw;decide
def Y2:Rec:=⟨0,0,0,ID.zero,.none⟩
theorem qph (q:ID) {n t:Nat} (h1:1≤n) (h2:n≤t) (h3:t < 18446744073709551616):qax ⟨q,true,n,t,Y2⟩:=by
 refine ⟨⟨Yh (by omega),Yh (by omega),⟨Yg,Yg,Yg⟩⟩,?_,Nat.zero_le _,fun p hp=>by cases hp⟩;unfold zw VH;simp [Y2,Sl.none];omega
theorem qpf (q:ID) {n:Nat} {r:Rec} (h1:1≤n) (h:qk0 n r):qax ⟨q,false,0,0,r⟩:=by
 obtain ⟨a,b,c,d,e⟩:=h;refine ⟨⟨Yg,Yg,b⟩,?_,d,e⟩;unfold zw QA;simp [a];exact ⟨⟨⟨by omega,c⟩,by omega⟩,fun p hp=>qbm (e p hp)⟩
theorem qsK {k:IntKind} {l:List Int} {i:Nat} {v:Int} (h:i < l.length):qA (zL k l) i [.int k v] = zL k (l.set i v):=by
 have hi:i < (zL k l).length:=by simpa using h
 have e:(zL k l).set i (.int k v) = zL k (l.set i v):=by unfold zL;rw [List.map_set]
 rw [← e,List.set_eq_take_append_cons_drop,if_pos hi];unfold qA;simp
theorem qi7 (q:ID) (n t:Int):Enc.cells (⟨q,true,n,t,Y2⟩:It) = qd q.l ++ [.bool true,.int .u64 n,.int .u64 t,.int .u64 0,.int .u64 0,.int .u64 0,.int .u8 0,.int .u8 0,.int .u8 0,.int .u8 0,.int .u8 0,.int .u8 0,.int .u8 0,.int .u8 0,.int .u8 0,.int .u8 0,.int .u8 0,.int .u8 0,.int .u8 0,.int .u8 0,.int .u8 0,.int .u8 0,.vsl true [] 0]:=by
 rw [It.cells];rfl
theorem qg2 (q:ID) (r:Rec):Enc.cells (⟨q,false,0,0,r⟩:It) = qd q.l ++ (.bool false :: .int .u64 0 :: .int .u64 0 :: Enc.cells r):=by
 rw [It.cells,Rec.cells];rfl
theorem qnu (r:Rec):noZ.noZL (Enc.cells r) = true:=by
 rw [Rec.cells];simp
def qwI (S:List D) (out:List It) (last:List Int) (d5 d6:D) (H:qi):Prop :=
 (out = []∧d5 = .vsl true [] 0∧d6 = .optr 1 3 0∧H = [some S,some (zL .u64 last)]) ∨
 (out≠[]∧∃ n m t,n = out.length * 39∧m = out.length∧((d5 = .osl 3 n 0 m 39∧d6 = .optr 1 3 0∧H = [some S,some (zL .u64 last),some t,some (qh out)])∨(d5 = .osl 1 n 0 m 39∧d6 = .optr 2 3 0∧H = [some S,some (qh out),some (zL .u64 last),some t])))
def qk5 (nil:Bool) (zs:List Int) (most:Nat) (q:D × qi):Prop:= ∃ (out:List It) (k':Nat),out.length≤most∧(∀ it∈out,qax it) ∧
 ((out = []∧q = (.vsl true [] 0,[some (jl nil zs k')]))∨(out≠[]∧∃ n m,n = out.length * 39∧m = out.length∧q = (.osl 1 n 0 m 39,[some (jl nil zs k'),some (qh out)])))
set_option maxHeartbeats 4000000 in
theorem qsF [MaxL] [TxtC] (nil:Bool) (zs:List Int) (qJ:nil = true→zs = []) (hz:zs.length≤1000000) (k:Nat) (most:Nat) (hmost:most≤100) :
  ∃ q,call cx 30 [.optr 0 2 0,.int .i64 most] [some (jl nil zs k)] = some q∧qk5 nil zs most q:=by
 refine vf (X:=cx) (f:=30) (args:=[.optr 0 2 0,.int .i64 most]) (H:=[some (jl nil zs k)]) (qk5 nil zs most) Tryz.func30 rfl ⟨rfl,rfl⟩ ?_;have sf:=Ys nil zs;have sl:=Yr nil zs;have sc:=Yt nil zs;simp [Tryz.f30];refine Run.loopThen (fun (q:List It × List Int × Nat) e H'=>q.1.length≤most∧(∀ it∈q.1,qax it)∧q.2.1.length = 3∧(∀ v∈q.2.1,0≤v∧v≤q.1.length * 6)∧qf e 0 = some (.optr 0 2 0)∧qf e 1 = some (.int .i64 most)∧∃ d5 d6,qf e 5 = some d5∧qf e 6 = some d6∧qwI (jl nil zs q.2.2) q.1 q.2.1 d5 d6 H') (fun q=>most - q.1.length) ([],[0,0,0],k) ?_ ?_
 ·exact ⟨by simp,by simp,by simp,by simp,by simp,by simp,_,_,by simp,by simp,.inl ⟨rfl,rfl,rfl,rfl⟩⟩
 rintro ⟨out,last,k1⟩ e H' ⟨ho,hmade,qX,hlast,k0,k1',d5,d6,k5,k6,hH⟩;simp only at ho hmade qX hlast hH;have hmo:=qoR nil zs k1;have hlf:(∀ x,x∈zL .u64 last→idFree x = true) = True:=eq_true (by simp [zL]);have qI:∀ n,(∀ x,x∈zL .u64 last→closed n x = true) = True:=fun n=>eq_true (by simp [zL]);obtain ⟨x1,k2,hx1,-,c1⟩:=ZQ nil zs qJ hz k1 3 (by decide) (by decide);obtain ⟨x2,k3,hx2,-,c2⟩:=ZQ nil zs qJ hz k2 3 (by decide) (by decide);obtain ⟨x3,k4,hx3,-,c3⟩:=ZQ nil zs qJ hz k3 4 (by decide) (by decide);obtain ⟨x4,k5',hx4,-,c4⟩:=ZQ nil zs qJ hz k4 4 (by decide) (by decide);have kl:=qbn (j:=x1) (by omega);have hx1l:x1 < last.length:=by omega
 have qM:=qdD (k:=.u64) hx1l;have hx1i:(x1:Int) < 3:=hx1;have hxn:x1 < 3:=by omega
 have hxn2:x1+1≤3:=by omega
 obtain ⟨hv0,hv1⟩:=hlast _ (List.getElem_mem hx1l);obtain ⟨v,hv⟩:∃ v:Nat,last[x1] = (v:Int):=⟨last[x1].toNat,by omega⟩;rw [hv] at qM hv0 hv1;have w1:IntKind.u64.wrap ((v:Int)+1) = (v:Int)+1:=by rw [qK];omega
 have w2:IntKind.u64.wrap (x2:Int) = (x2:Int):=by rw [qK];omega
 have w3:IntKind.u64.wrap ((v:Int)+1+(x2:Int)) = (v:Int)+1+(x2:Int):=by rw [qK];omega
 have w4:IntKind.u64.wrap (x4:Int) = (x4:Int):=by rw [qK];omega
 have w5:IntKind.u64.wrap ((v:Int)+1+(x2:Int)+(x4:Int)) = (v:Int)+1+(x2:Int)+(x4:Int):=by rw [qK];omega
 obtain ⟨r,k6',hr,c6⟩:=qoM nil zs qJ hz k4 (v+1+x2) (by omega);rw [show ((v+1+x2:Nat):Int) = (v:Int)+1+x2 by omega] at c6;have hq:=(Zd x1).h;have hgm:=qph (Zd x1) (n:=v+1+x2) (t:=v+1+x2+x4) (by omega) (by omega) (by omega);have hrm:=qpf (Zd x1) (n:=v+1+x2) (by omega) hr;rw [show ((v+1+x2:Nat):Int) = (v:Int)+1+x2 by omega] at hgm;rw [show ((v+1+x2+x4:Nat):Int) = (v:Int)+1+x2+x4 by omega] at hgm;generalize Zd x1 = iq at *;have hq16:List.take 16 (qd iq.l) = qd iq.l:=List.take_of_length_le (by simp);have hq39:List.take 39 (qd iq.l) = qd iq.l:=List.take_of_length_le (by simp);have hset1:=fun x=>qsK (k:=.u64) (v:=x) hx1l
 have hlast1:∀ x:Int,0≤x→x≤(out.length+1:Nat) * 6→∀ y∈last.set x1 x,0≤y∧y≤(out.length+1:Nat) * 6:=by
  intro x h1 h2 y hy;rcases List.mem_or_eq_of_mem_set hy with h | rfl
  ·have:=hlast y h;omega
  ·exact ⟨h1,h2⟩
 have hrz:=qnu r;by_cases h0:out.length < most
 case neg =>
  rcases hH with ⟨rfl,rfl,rfl,rfl⟩ | ⟨qr,n,m,t,hn,hm,hH⟩
  ·have h00:¬ 0 < most:=h0;simp [k0,k1',k5,k6,sc,hlf,h00];exact ⟨[],k1,by simp,by simp,.inl ⟨rfl,rfl⟩⟩
  have h00:¬ m < most:=by omega
  have qV:m * 39 = n:=by omega
  have qR:out.length = m:=hm.symm;have qu:List.take n (qh out) = qh out:=List.take_of_length_le (by simp;omega);rcases hH with ⟨rfl,rfl,rfl⟩ | ⟨rfl,rfl,rfl⟩
  all_goals
   simp [k0,k1',k5,k6,sc,hlf,h00,qR];exact ⟨out,k1,by omega,hmade,.inr ⟨qr,n,m,by omega,by omega,rfl⟩⟩
 cases hmm:decide (k1 < zs.length) with
 | false =>
  rw [hmm] at hmo;rcases hH with ⟨rfl,rfl,rfl,rfl⟩ | ⟨qr,n,m,t,hn,hm,hH⟩
  ·have h00:0 < most:=h0;simp [k0,k1',k5,k6,hmo,sf,sc,hlf,h00];exact ⟨[],k1,by simp,by simp,.inl ⟨rfl,rfl⟩⟩
  have h00:m < most:=by omega
  have qV:m * 39 = n:=by omega
  have qR:out.length = m:=hm.symm;have qu:List.take n (qh out) = qh out:=List.take_of_length_le (by simp;omega);rcases hH with ⟨rfl,rfl,rfl⟩ | ⟨rfl,rfl,rfl⟩
  all_goals
   simp [k0,k1',k5,k6,hmo,sf,sc,hlf,h00,qR];exact ⟨out,k1,by omega,hmade,.inr ⟨qr,n,m,by omega,by omega,rfl⟩⟩
 | true =>
  rw [hmm] at hmo;rcases hH with ⟨rfl,rfl,rfl,rfl⟩ | ⟨qr,n,m,t,hn,hm,hH⟩
  ·have h00:0 < most:=h0;by_cases h3:x3 = 0
   ·subst h3;simp [k0,k1',k5,k6,hmo,sf,sc,hlf,qX,h00,c1,c2,c3,c4,qM,hx1i,hxn2,w1,w2,w3,w4,w5,kl,qB,hq,hq39,List.take_append,List.drop_append,zk,hset1];refine ⟨[⟨iq,true,(v:Int)+1+x2,(v:Int)+1+x2+x4,Y2⟩],by simp;omega,by simp;omega,by simpa using hgm,last.set x1 ((v:Int)+1+x2+x4),by simp [qX],hlast1 _ (by omega) (by simp at hv1 ⊢;omega),k5',.inr ⟨by simp,39,1,_,rfl,rfl,.inl ⟨rfl,rfl,by rw [J9,qi7]⟩⟩⟩
   ·have h3':¬ (x3:Int) = 0:=(by omega);simp [k0,k1',k5,k6,hmo,sf,sc,hlf,qX,h00,c1,c2,c3,h3,c6,hrz,qM,hx1i,hxn2,w1,w2,w3,kl,qB,hq,hq39,List.take_append,List.drop_append,zk,hset1];refine ⟨[⟨iq,false,0,0,r⟩],by simp;omega,by simp;omega,by simpa using hrm,last.set x1 ((v:Int)+1+x2),by simp [qX],hlast1 _ (by omega) (by simp at hv1 ⊢;omega),k6',.inr ⟨by simp,39,1,_,rfl,rfl,.inl ⟨rfl,rfl,by rw [J9,qg2]⟩⟩⟩
  have h00:m < most:=by omega
  have qV:m * 39 = n:=by omega
  have qR:out.length = m:=hm.symm;have qu:List.take n (qh out) = qh out:=List.take_of_length_le (by simp;omega);have zH:(m+1) * 104≤140737488355328:=by omega
  have zj:m+1≤140737488355328:=by omega
  rcases hH with ⟨rfl,rfl,rfl⟩ | ⟨rfl,rfl,rfl⟩
  all_goals
   by_cases h3:x3 = 0
   ·subst h3;simp [k0,k1',k5,k6,hmo,sf,sc,hlf,qX,h00,qV,qR,zH,zj,c1,c2,c3,c4,qM,hx1i,hxn2,w1,w2,w3,w4,w5,kl,qB,hq,hq39,List.take_append,List.drop_append,zk,hset1];refine ⟨out ++ [⟨iq,true,(v:Int)+1+x2,(v:Int)+1+x2+x4,Y2⟩],by simp;omega,by simp;omega,fun it h=>?_,last.set x1 ((v:Int)+1+x2+x4),by simp [qX],by simpa using hlast1 _ (by omega) (by simp at hv1 ⊢;omega),k5',.inr ⟨by simp,n+39,m+1,_,by simp;omega,by simp [qR],.inr ⟨rfl,rfl,by rw [QI,qi7]⟩⟩⟩;rcases List.mem_append.1 h with h | h
    ·exact hmade it h
    ·rw [List.mem_singleton.1 h];exact hgm
   ·have h3':¬ (x3:Int) = 0:=(by omega);simp [k0,k1',k5,k6,hmo,sf,sc,hlf,qX,h00,qV,qR,zH,zj,c1,c2,c3,h3,c6,hrz,qM,hx1i,hxn2,w1,w2,w3,kl,qB,hq,hq39,List.take_append,List.drop_append,zk,hset1];refine ⟨out ++ [⟨iq,false,0,0,r⟩],by simp;omega,by simp;omega,fun it h=>?_,last.set x1 ((v:Int)+1+x2),by simp [qX],by simpa using hlast1 _ (by omega) (by simp at hv1 ⊢;omega),k6',.inr ⟨by simp,n+39,m+1,_,by simp;omega,by simp [qR],.inr ⟨rfl,rfl,by rw [QI,qg2]⟩⟩⟩;rcases List.mem_append.1 h with h | h
    ·exact hmade it h
    ·rw [List.mem_singleton.1 h];exact hrm
theorem qsX:∀ j < 4,∀ i < j,qt (Zd i).l (Zd j).l < 0:=by decide
structure FewN (i:Nat) (l:List Mk):Prop where
 rises:zN l = true
 ok:∀ m∈l,m.Ok
 id:∀ m∈l,∃ j,j < i∧m.id = Zd j
 len:l.length≤i
theorem qgj:∀ {l:List Mk} {m:Mk},zN l = true→(∀ x∈l,qt x.id.l m.id.l < 0)→zN (l ++ [m]) = true
 | [],_,_,_=>rfl
 | [a],m,_,h=>by simp [zN,h a (List.mem_cons_self ..)]
 | a :: b :: l,m,hr,h=>by
  simp only [zN,Bool.and_eq_true] at hr;have:=qgj (l:=b :: l) hr.2 fun x hx=>h x (List.mem_cons_of_mem _ hx);simp only [List.cons_append,zN,Bool.and_eq_true] at this ⊢;exact ⟨hr.1,this⟩
theorem FewN.same {i:Nat} {l:List Mk} (h:FewN i l):FewN (i+1) l :=
 ⟨h.rises,h.ok,fun m hm=>by obtain ⟨j,h1,h2⟩:=h.id m hm;exact ⟨j,by omega,h2⟩,by have:=h.len;omega⟩
theorem FewN.add {i:Nat} {l:List Mk} (h:FewN i l) (hi:i < 4) {a b c:Nat} (ha:a < 1000) (hb:b < 1000) (hc:c < 1000):FewN (i+1) (l ++ [⟨Zd i,a,b,c⟩]):=by
 refine ⟨qgj h.rises fun x hx=>?_,fun m hm=>?_,fun m hm=>?_,by have:=h.len;simp;omega⟩
 ·obtain ⟨j,h1,h2⟩:=h.id x hx;rw [h2];exact qsX i hi j h1
 ·rcases List.mem_append.1 hm with h' | h'
  ·exact h.ok m h'
  ·rw [List.mem_singleton.1 h'];exact ⟨by simp only [qw];omega,by simp only [qw];omega,by simp only [qw];omega⟩
 ·rcases List.mem_append.1 hm with h' | h'
  ·obtain ⟨j,h1,h2⟩:=h.id m h';exact ⟨j,by omega,h2⟩
  ·rw [List.mem_singleton.1 h'];exact ⟨i,by omega,rfl⟩
def qwK (S:List D) (l:List Mk) (d:D) (H:qi):Prop :=
 (l = []∧d = .vsl true [] 0∧H = [some S])∨(l≠[]∧∃ n k t,n = l.length * 19∧k = l.length∧((d = .osl 2 n 0 k 19∧H = [some S,some t,some (qh l)])∨(d = .osl 1 n 0 k 19∧H = [some S,some (qh l),some t])∨(d = .osl 1 n 0 k 19∧H = [some S,some (qh l)])))
def qk3 (nil:Bool) (zs:List Int) (q:D × qi):Prop:= ∃ (l:List Mk) (k':Nat),FewN 4 l∧q = ((.vsl ((⟨l.isEmpty,l,fun h=>by simpa using h⟩:Sl Mk)).nil (qh ((⟨l.isEmpty,l,fun h=>by simpa using h⟩:Sl Mk)).l) ((⟨l.isEmpty,l,fun h=>by simpa using h⟩:Sl Mk)).l.length),[some (jl nil zs k')])
set_option maxHeartbeats 2000000 in
theorem qdu [MaxL] [TxtC] (nil:Bool) (zs:List Int) (qJ:nil = true→zs = []) (hz:zs.length≤1000000) (k:Nat) :
  ∃ q,call cx 54 [.optr 0 2 0] [some (jl nil zs k)] = some q∧qk3 nil zs q:=by
 refine vf (X:=cx) (f:=54) (args:=[.optr 0 2 0]) (H:=[some (jl nil zs k)]) (qk3 nil zs) Tryz.func54 rfl ⟨rfl,rfl⟩ ?_;have sf:=Ys nil zs;have sl:=Yr nil zs;have sc:=Yt nil zs;simp [Tryz.f54];refine Run.loopThen (fun (q:List Mk × Nat × Nat) e H'=>q.2.1≤4∧FewN q.2.1 q.1∧qf e 0 = some (.optr 0 2 0)∧qf e 4 = some (.int .i64 (q.2.1:Nat))∧∃ d,qf e 3 = some d∧qwK (jl nil zs q.2.2) q.1 d H') (fun q=>4 - q.2.1) ([],0,k) ?_ ?_
 ·exact ⟨by simp,⟨rfl,by simp,by simp,by simp⟩,by simp,by simp,_,by simp,.inl ⟨rfl,rfl,rfl⟩⟩
 rintro ⟨l,i,k1⟩ e H' ⟨hi,hf,k0,k4,d,k3,hH⟩;simp only at hi hf k4 hH;have qZ:=hf.len;obtain ⟨x,k2,hx,-,c1⟩:=ZQ nil zs qJ hz k1 2 (by decide) (by decide);obtain ⟨a,k5,ha,-,c2⟩:=ZQ nil zs qJ hz k2 9 (by decide) (by decide);obtain ⟨b,k6,hb,-,c3⟩:=ZQ nil zs qJ hz k5 9 (by decide) (by decide);obtain ⟨c,k7,hc,-,c4⟩:=ZQ nil zs qJ hz k6 9 (by decide) (by decide);have hw:IntKind.i64.wrap ((i:Int)+1) = ((i+1:Nat):Int):=by rw [wrap_i64] <;> omega
 have wa:IntKind.u64.wrap (a:Int) = (a:Int):=by rw [qK];omega
 have wb:IntKind.u64.wrap (b:Int) = (b:Int):=by rw [qK];omega
 have wc:IntKind.u64.wrap (c:Int) = (c:Int):=by rw [qK];omega
 rcases hH with ⟨rfl,rfl,rfl⟩ | ⟨qr,n,m,t,hn,hm,hH⟩
 ·by_cases h4:i < 4
  ·have h4i:(i:Int) < 4:=(by omega);have kl:=qbn (j:=i) (by omega);have hadd:=hf.add h4 (a:=a) (b:=b) (c:=c) (by omega) (by omega) (by omega);have hsame:=hf.same;generalize Zd i = q at *;have hq:=q.h;have hq16:List.take 16 (qd q.l) = qd q.l:=List.take_of_length_le (by simp);by_cases hx1:x = 1
   ·subst hx1;simp [k0,k3,k4,h4i,c1,c2,c3,c4,kl,sf,sc,hw,wa,wb,wc,hq,qB,List.take_append,List.drop_append,zk];exact ⟨[⟨q,a,b,c⟩],i+1,by omega,by omega,hadd,by simp,k7,.inr ⟨by simp,19,1,_,rfl,rfl,.inl ⟨rfl,by rw [J9];rfl⟩⟩⟩
   ·have hx1':¬ (x:Int) = 1:=(by omega);simp [k0,k3,k4,h4i,c1,hx1',sf,sc,hw];exact ⟨[],i+1,by omega,by omega,hsame,by simp,k2,.inl ⟨rfl,rfl,rfl⟩⟩
  ·have h4i:¬ (i:Int) < 4:=(by omega);simp [k0,k3,k4,h4i,sc];have hi4:i = 4:=(by omega);subst hi4;exact ⟨[],k1,hf,rfl⟩
 ·have qR:l.length = m:=hm.symm;have qV:m * 19 = n:=by omega
  have qu:List.take n (qh l) = qh l:=List.take_of_length_le (by simp;omega);have zH:(m+1) * 40≤140737488355328:=by omega
  have zj:m+1≤140737488355328:=by omega
  by_cases h4:i < 4
  ·have h4i:(i:Int) < 4:=(by omega);have kl:=qbn (j:=i) (by omega);have hadd:=hf.add h4 (a:=a) (b:=b) (c:=c) (by omega) (by omega) (by omega);have hsame:=hf.same;generalize Zd i = q at *;have hq:=q.h;have hq16:List.take 16 (qd q.l) = qd q.l:=List.take_of_length_le (by simp);rcases hH with ⟨rfl,rfl⟩ | ⟨rfl,rfl⟩ | ⟨rfl,rfl⟩
   all_goals
    by_cases hx1:x = 1
    ·subst hx1;simp [k0,k3,k4,h4i,c1,c2,c3,c4,kl,sf,sc,hw,wa,wb,wc,hq,qB,List.take_append,List.drop_append,zk,qR,qV,zH,zj];exact ⟨l ++ [⟨q,a,b,c⟩],i+1,by omega,by omega,hadd,by simp,k7,.inr ⟨by simp,n+19,m+1,_,by simp;omega,by simp [qR],.inr (.inl ⟨rfl,by rw [QI];rfl⟩)⟩⟩
    ·have hx1':¬ (x:Int) = 1:=(by omega);simp [k0,k3,k4,h4i,c1,hx1',sf,sc,hw];exact ⟨l,i+1,by omega,by omega,hsame,by simp,k2,.inr ⟨qr,n,m,[],hn,hm,.inr (.inr ⟨rfl,rfl⟩)⟩⟩
  ·have h4i:¬ (i:Int) < 4:=(by omega);have hie:l.isEmpty = false:=(by simpa using qr);rcases hH with ⟨rfl,rfl⟩ | ⟨rfl,rfl⟩ | ⟨rfl,rfl⟩
   all_goals
    simp [k0,k3,k4,h4i,sc,qR,qV,qu];have hi4:i = 4:=(by omega);subst hi4;exact ⟨l,k1,hf,by simp [hie,qR]⟩
end Go.Ev.S
