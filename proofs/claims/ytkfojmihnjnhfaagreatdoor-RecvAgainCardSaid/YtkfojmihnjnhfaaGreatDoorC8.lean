import Derived.Test.YtkfojmihnjnhfaaGreatDoorC7
import Derived.Handed
import Derived.LaidMore
namespace Go.Ev.S
open Go Go.Proofs Go.Ev
theorem qhf [MaxL] (p:List UInt8) (hp:p = jq∨p = zQ) (e n:Int) (he:qA e) (hn:qA n) (o:Sl UInt8) (ho:o.l.length≤65536):∃ m:Sl UInt8,m.l.length≤70000∧call cx 33 [.agg [.str p,.int .u64 e,.int .u64 n,(.vsl o.nil (qd o.l) o.l.length)]] [] = some ((.vsl m.nil (qd m.l) m.l.length),[]):=by
 have h1:=qrj ⟨p,e,n,o⟩ he hn (by show p.length≤100;rcases hp with rfl | rfl <;> decide) (by show o.l.length≤_;omega);rw [qsd p hp e n o ho] at h1;have hl:=qrh p hp e.toNat n.toNat o.l;refine ⟨.of (jZ p ++ (vk e.toNat n.toNat o.l.length ++ o.l)),by rw [Sl.of_l];omega,?_⟩;simpa [Rq.cells] using h1
def HdQ (e:qr):Prop:= ∃ (E N:Int) (p:List UInt8) (x:Sl UInt8),qA E∧qA N∧(p = jq∨p = zQ)∧x.l.length≤65536∧qf e 1 = some (.optr 0 4 0)∧qf e 2 = some (.optr 1 7 0)∧qf e 5 = some (.int .u64 E)∧qf e 6 = some (.int .u64 N)∧qf e 7 = some (.vsl x.nil (qd x.l) x.l.length)∧qf e 8 = some (.str p)
set_option maxHeartbeats 16000000 in
set_option maxRecDepth 8000 in
theorem qxJ [MaxL] (kd ep nm:Int) (n1:Bool) (z1:List Int) (h1:n1 = true→z1 = []) (Yg:z1.length≤60) (n2:Bool) (z2:List Int) (h2:n2 = true→z2 = []) (Yf:z2.length≤4) (y:UInt8) (b:Sl UInt8) (ZK:b.l.length≤300) (ep0 la0:Int) (hep:qA ep0) (mk:Sl Mk) (hR:Y5 mk.l) (hRn:mk.l.length≤1000000) (dI:D) (vo:∀ n,closed n dI = true) (hfI:idFree dI = true) (hmv:mv [0] 2 dI = dI) :
  ∃ q,call cx 11 [.agg [.int .i64 kd,.int .i64 ep,.int .i64 nm,.vsl n1 (je .i64 z1) z1.length,.vsl n2 (je .i64 z2) z2.length,.int .u8 y.toNat,(.vsl b.nil (qd b.l) b.l.length)],.optr 0 4 0] [some [.int .u64 ep0,.int .u64 la0,(.vsl mk.nil (qh mk.l) mk.l.length),dI]] = some q∧∃ o:Sl UInt8,o.l.length≤70000∧q = ((.vsl o.nil (qd o.l) o.l.length),[some [.int .u64 ep0,.int .u64 la0,(.vsl mk.nil (qh mk.l) mk.l.length),dI]]):=by
 refine vH (X:=cx) (f:=11) (args:=[.agg [.int .i64 kd,.int .i64 ep,.int .i64 nm,.vsl n1 (je .i64 z1) z1.length,.vsl n2 (je .i64 z2) z2.length,.int .u8 y.toNat,(.vsl b.nil (qd b.l) b.l.length)],.optr 0 4 0]) (H:=[some [.int .u64 ep0,.int .u64 la0,(.vsl mk.nil (qh mk.l) mk.l.length),dI]]) (fun q=>∃ o:Sl UInt8,o.l.length≤70000∧q = ((.vsl o.nil (qd o.l) o.l.length),[some [.int .u64 ep0,.int .u64 la0,(.vsl mk.nil (qh mk.l) mk.l.length),dI]])) Tryz.func11 rfl ⟨rfl,rfl⟩ ?_;obtain ⟨a,ha,c1⟩:=qdS ep 3 (by omega) (by omega);obtain ⟨c,hc,c2⟩:=qdS nm 4 (by omega) (by omega);obtain ⟨k,hk,c3⟩:=qdS kd 9 (by omega) (by omega);replace c1:call cx 24 [.int .i64 ep,.int .i64 3] [] = some (.int .i64 a,[]):=c1;replace c2:call cx 24 [.int .i64 nm,.int .i64 4] [] = some (.int .i64 c,[]):=c2;replace c3:call cx 24 [.int .i64 kd,.int .i64 9] [] = some (.int .i64 k,[]):=c3;have wa:IntKind.u64.wrap (a:Int) = (a:Int):=by rw [qU] <;> omega
 have wc:IntKind.u64.wrap (c:Int) = (c:Int):=by rw [qU] <;> omega
 obtain ⟨E0,hE0⟩:∃ E,IntKind.u64.wrap (ep0+(a:Int)) = E:=⟨_,rfl⟩;obtain ⟨N0,hN0⟩:∃ N,IntKind.u64.wrap (la0+(c:Int)) = N:=⟨_,rfl⟩;obtain ⟨E1,hE1⟩:∃ E,IntKind.u64.wrap (ep0 - 1) = E:=⟨_,rfl⟩;obtain ⟨N1,hN1⟩:∃ N,IntKind.u64.wrap (la0+1) = N:=⟨_,rfl⟩;have uE0:qA E0:=hE0 ▸ qa4 _;have uN0:qA N0:=hN0 ▸ qa4 _;have uE1:qA E1:=hE1 ▸ qa4 _;have uN1:qA N1:=hN1 ▸ qa4 _;obtain ⟨m5,hm5⟩:∃ m,ep.tmod 5 = m:=⟨_,rfl⟩;obtain ⟨m3,Jm⟩:∃ m,ep.tmod 3 = m:=⟨_,rfl⟩;obtain ⟨m4,VF⟩:∃ m,kd.tmod 4 = m:=⟨_,rfl⟩;obtain ⟨n3,Q9⟩:∃ m,nm.tmod 3 = m:=⟨_,rfl⟩;obtain ⟨q,hq,o,ho,rfl⟩:=q02 kd ep nm n1 z1 h1 Yg n2 z2 h2 Yf y b ep0 la0 mk hR hRn dI vo;have hh:(jq == [47,98,97,116,99,104]) = false:=by decide
 have hb:(zQ == [47,98,97,116,99,104]) = true:=by decide
 have h0:m5 = 0∧0 < ep0∨m5 = 0∧¬ 0 < ep0∨¬ m5 = 0∧True:=by
  by_cases h:m5 = 0
  ·by_cases h':0 < ep0
   ·exact .inl ⟨h,h'⟩
   ·exact .inr (.inl ⟨h,h'⟩)
  ·exact .inr (.inr ⟨h,trivial⟩)
 rcases h0 with ⟨d1,d2⟩ | ⟨d1,d2⟩ | ⟨d1,d2⟩
 all_goals
  simp [-qjZ,Tryz.f11,c1,c2,c3,wa,wc,hE0,hN0,hE1,hm5,d1,d2];refine Run.mono (R:=fun ex e' H'=>(ex = .ret∧qg4 cx true [ResultVar.tmp 4] 1 (fun q=>∃ o:Sl UInt8,o.l.length≤70000∧q = ((.vsl o.nil (qd o.l) o.l.length),[some [.int .u64 ep0,.int .u64 la0,(.vsl mk.nil (qh mk.l) mk.l.length),dI]])) .ret e' H')∨(ex = .normal∧H' = [some [.int .u64 ep0,.int .u64 la0,(.vsl mk.nil (qh mk.l) mk.l.length),dI],some [.int .i64 kd,.int .i64 ep,.int .i64 nm,.vsl n1 (je .i64 z1) z1.length,.vsl n2 (je .i64 z2) z2.length,.int .u8 y.toNat,(.vsl b.nil (qd b.l) b.l.length)]]∧HdQ e')) ?_ ?_
  ·by_cases k0:k = 0
   ·simp [vo,k0];exact ⟨_,_,⟨rfl,rfl⟩,b,by omega,rfl,rfl⟩
   by_cases k12:k = 1∨k = 2
   ·by_cases m0:m4 = 0
    ·rcases k12 with rfl | rfl
     ·simp [VF,m0];exact ⟨_,_,_,b,by assumption,by assumption,.inl rfl,by omega,rfl,rfl,rfl,rfl,rfl,rfl⟩
     ·simp [VF,m0];exact ⟨_,_,_,b,by assumption,by assumption,.inl rfl,by omega,rfl,rfl,rfl,rfl,rfl,rfl⟩
    ·rcases k12 with rfl | rfl
     ·simp [VF,m0];exact ⟨_,_,_,.none,by assumption,by assumption,.inl rfl,by simp,rfl,rfl,rfl,rfl,rfl,rfl⟩
     ·simp [VF,m0];exact ⟨_,_,_,.none,by assumption,by assumption,.inl rfl,by simp,rfl,rfl,rfl,rfl,rfl,rfl⟩
   ·have k1:¬ k = 1:=fun h=>k12 (.inl h);have k2:¬ k = 2:=fun h=>k12 (.inr h);have k0':¬ (k:Int) = 0:=(by omega);have k1':¬ (k:Int) = 1:=(by omega);have k2':¬ (k:Int) = 2:=(by omega);simp [hfI,k0,k1',k2',hq,hmv];exact ⟨_,_,_,o,by assumption,by assumption,.inr rfl,ho,rfl,rfl,rfl,rfl,rfl,rfl⟩
  rintro ex e' H' (⟨rfl,hf⟩ | ⟨rfl,rfl,E,N,p,x,uE,uN,hp,hx,l1,l2,l5,l6,l7,l8⟩)
  ·simp only [qgZ,Kc];exact hf
  ·rcases hp with rfl | rfl
   ·by_cases q1:0 < n3
    ·obtain ⟨m,hm,c4⟩:=qhf jq (.inl rfl) E N1 uE uN1 x hx;by_cases q2:0 < m3
     ·simp [l1,l2,l5,l6,l7,l8,Q9,Jm,q1,q2,hN1,vo,c4,hh];exact ⟨m,hm,rfl,rfl,rfl⟩
     ·simp [l1,l2,l5,l6,l7,l8,Q9,Jm,q1,q2,hN1,vo,c4];exact ⟨m,hm,rfl,rfl,rfl⟩
    ·obtain ⟨m,hm,c4⟩:=qhf jq (.inl rfl) E N uE uN x hx;by_cases q2:0 < m3
     ·simp [l1,l2,l5,l6,l7,l8,Q9,Jm,q1,q2,vo,c4,hh];exact ⟨m,hm,rfl,rfl,rfl⟩
     ·simp [l1,l2,l5,l6,l7,l8,Q9,Jm,q1,q2,vo,c4];exact ⟨m,hm,rfl,rfl,rfl⟩
   ·obtain ⟨N2,uN2,hN2⟩:∃ N2,qA N2∧(if 0 < n3 then N1 else N) = N2:=⟨_,by split <;> assumption,rfl⟩;obtain ⟨E2,uE2,hE2⟩:∃ E2,qA E2∧(if 0 < m3 then ep0 else E) = E2:=⟨_,by split <;> assumption,rfl⟩;obtain ⟨m,hm,c4⟩:=qhf zQ (.inr rfl) E2 N2 uE2 uN2 x hx;by_cases q1:0 < n3
    ·rw [if_pos q1] at hN2;by_cases q2:0 < m3
     ·rw [if_pos q2] at hE2;simp [l1,l2,l5,l6,l7,l8,Q9,Jm,q1,q2,hN1,vo,hN2,hE2,c4,hb];exact ⟨m,hm,rfl,rfl,rfl⟩
     ·rw [if_neg q2] at hE2;simp [l1,l2,l5,l6,l7,l8,Q9,Jm,q1,q2,hN1,vo,hN2,hE2,c4];exact ⟨m,hm,rfl,rfl,rfl⟩
    ·rw [if_neg q1] at hN2;by_cases q2:0 < m3
     ·rw [if_pos q2] at hE2;simp [l1,l2,l5,l6,l7,l8,Q9,Jm,q1,q2,vo,hN2,hE2,c4,hb];exact ⟨m,hm,rfl,rfl,rfl⟩
     ·rw [if_neg q2] at hE2;simp [l1,l2,l5,l6,l7,l8,Q9,Jm,q1,q2,vo,hN2,hE2,c4];exact ⟨m,hm,rfl,rfl,rfl⟩
theorem qtr [MaxL]:call cx 9 [] [] = some (.optr 0 4 0,[some [.int .u64 0,.int .u64 0,.vsl true [] 0,.vsl true [] 0]]):=by
 refine qs Tryz.func9 rfl ⟨rfl,rfl⟩ ?_;simp [Tryz.f9]
set_option maxRecDepth 100000 in
theorem qyu [MaxL]:call cx 8 [] [] = some (.bool true,[]):=call_some.2 ⟨900,by kernel_rfl⟩
theorem qqf [MaxL] (s:RSt) (d:D) (T:qi) (zY:Shp s.its d T):call cx 23 [.optr 0 4 0] (some (s.A d) :: T) = some (.int .u64 s.la,some (s.A d) :: T):=by
 obtain ⟨ep,la,its,mk⟩:=s;simp only [RSt.A] at zY ⊢;rcases zY with ⟨rfl,rfl,rfl⟩ | ⟨qt,n1,k1,zO,hk1,rfl,rfl⟩
 ·refine qs Tryz.func23 rfl ⟨rfl,rfl⟩ ?_;simp [Tryz.f23]
 ·refine qs Tryz.func23 rfl ⟨rfl,rfl⟩ ?_;simp [Tryz.f23]
theorem qqa [MaxL] (s:RSt) (hm:s.mks.l.length≤1000000) (d:D) (T:qi) (zY:Shp s.its d T):call cx 17 [.optr 0 4 0] (some (s.A d) :: T) = some ((.vsl s.mks.nil (qh s.mks.l) s.mks.l.length),some (s.A d) :: T):=by
 have h1:=qlF s.mks (by omega);obtain ⟨ep,la,its,mk⟩:=s;simp only [RSt.A] at zY h1 hm ⊢;have ht:List.take (mk.l.length * 19) (qh mk.l) = qh mk.l:=qx (by simp);rcases zY with ⟨rfl,rfl,rfl⟩ | ⟨qt,n1,k1,zO,hk1,rfl,rfl⟩
 ·refine qs Tryz.func17 rfl ⟨rfl,rfl⟩ ?_;obtain ⟨nil,ml,qM⟩:=mk;simp only at h1 ht;cases nil with
  | true =>
   have:=qM rfl;subst this;rw [if_pos rfl] at h1;simp at h1;simp [Tryz.f17,h1]
  | false =>
   rw [if_neg (by decide)] at h1;simp [Tryz.f17,h1,ht]
 ·refine qs Tryz.func17 rfl ⟨rfl,rfl⟩ ?_;obtain ⟨nil,ml,qM⟩:=mk;simp only at h1 ht;cases nil with
  | true =>
   have:=qM rfl;subst this;rw [if_pos rfl] at h1;simp at h1;simp [Tryz.f17,h1]
  | false =>
   rw [if_neg (by decide)] at h1;simp [Tryz.f17,h1,ht]
theorem qsx [MaxL] (x:Sl Pr) (hx:x.l.length < 1000000):call cx 41 [(.vsl x.nil (qh x.l) x.l.length)] [] = some ((.vsl x.nil (qh x.l) x.l.length),[]):=by
 obtain ⟨nil,l,qM⟩:=x;simp only at hx ⊢;have Qg:l.length * 32≤140737488355328:=by omega
 have vJ:l.length≤140737488355328:=by omega
 have ht:List.take (l.length * 2) (qh l) = qh l:=qx (by simp);cases nil with
 | true =>
  have:=qM rfl;subst this;refine qs Tryz.func41 rfl ⟨rfl,rfl⟩ ?_;simp [Tryz.f41]
 | false =>
  refine qs Tryz.func41 rfl ⟨rfl,rfl⟩ ?_;simp [Tryz.f41,Qg,vJ,qI,ht]
theorem qx6 [MaxL] (a:List D) (ha:(∀ x,x∈a→closed 2 x = true) = True) (l:List It) (n k:Nat) (hn:n = l.length * 39) (hk:k = l.length) (hl:l.length≤1000000000):call cx 40 [.osl 1 n 0 k 39] [some a,some (qh l)] = some (.osl 2 n 0 k 39,[some a,some (qh l),some (qh l)]):=by
 subst hn;subst hk;have Qg:l.length * 104≤140737488355328:=by omega
 have vJ:l.length≤140737488355328:=by omega
 have ht:List.take (l.length * 39) (qh l) = qh l:=qx (by simp);refine qs Tryz.func40 rfl ⟨rfl,rfl⟩ ?_;simp [Tryz.f40,Qg,vJ,qI,ht,ha]
theorem qx7 [MaxL] (a:List D) (ha:(∀ x,x∈a→closed 1 x = true) = True):call cx 40 [.vsl true [] 0] [some a] = some (.vsl true [] 0,[some a]):=by
 refine qs Tryz.func40 rfl ⟨rfl,rfl⟩ ?_;simp [Tryz.f40,ha]
set_option maxHeartbeats 4000000 in
theorem qjL [MaxL] (s:RSt) (hL:s.its.length≤1000000000) (hf:∀ x∈s.its,x.rc.fields.l.length < 1000000) (d:D) (T:qi) (zY:Shp s.its d T):call cx 14 [.optr 0 4 0] (some (s.A d) :: T) = some ((.vsl (Sl.grown s.its).nil (qh (Sl.grown s.its).l) (Sl.grown s.its).l.length),some (s.A d) :: T):=by
 obtain ⟨ep,la,its,mk⟩:=s;simp only [RSt.A] at zY hL hf ⊢;rcases zY with ⟨rfl,rfl,rfl⟩ | ⟨qt,n1,k1,zO,hk1,rfl,rfl⟩
 ·have h1:=qx7 [.int .u64 ep,.int .u64 la,.vsl true [] 0,(.vsl mk.nil (qh mk.l) mk.l.length)] (eq_true (by simp));refine qs Tryz.func14 rfl ⟨rfl,rfl⟩ ?_;simp [Tryz.f14,h1];refine qha ?_;simp;rfl
 ·have h1:=qx6 [.int .u64 ep,.int .u64 la,.osl 1 n1 0 k1 39,(.vsl mk.nil (qh mk.l) mk.l.length)] (eq_true (by simp)) its n1 k1 zO hk1 hL;have qM:(Sl.grown its).nil = false:=List.isEmpty_eq_false_iff.2 qt;have hle:(qh its).length = n1:=by rw [It.el,zO]
  have zj:k1 * 39 = n1:=by rw [hk1,zO]
  have ht:List.take n1 (qh its) = qh its:=qx (by omega);refine qs Tryz.func14 rfl ⟨rfl,rfl⟩ ?_;simp [Tryz.f14,h1];refine Run.loopThen (fun (i:Nat) e H=>i≤k1∧H = [some [.int .u64 ep,.int .u64 la,.osl 1 n1 0 k1 39,(.vsl mk.nil (qh mk.l) mk.l.length)],some (qh its),some (qh its)]∧qf e 3 = some (.osl 2 n1 0 k1 39)∧qf e 11 = some (.int .i64 k1)∧qf e 12 = some (.int .i64 i)) (fun i=>k1 - i) 0 ?_ ?_
  ·simp
  rintro i e H ⟨hi,rfl,k3,k11,k12⟩;by_cases qg:i < k1
  ·have qk:(i:Int) < (k1:Int):=(by omega);have hlL:i < its.length:=(by omega);have hw:IntKind.i64.wrap ((i:Int)+1) = ((i+1:Nat):Int):=(by rw [wrap_i64] <;> omega);have hx:=hf its[i] (vw hlL);have h2:=qsx its[i].rc.fields hx
   have vn:List.drop (i * 39+38) (qh its) = (.vsl (its[i].rc.fields).nil (qh (its[i].rc.fields).l) (its[i].rc.fields).l.length) :: qh (its.drop (i+1)):=by
    rw [← kF,It.ea hlL,List.drop_append_of_le_length (by rw [It.cl];omega),It.d38];rfl
   have hset:qH (qh its) (i * 39+38) [(.vsl (its[i].rc.fields).nil (qh (its[i].rc.fields).l) (its[i].rc.fields).l.length)] = qh its:=by
    unfold qH
    have e1:List.drop (i * 39+38+([(.vsl (its[i].rc.fields).nil (qh (its[i].rc.fields).l) (its[i].rc.fields).l.length)]:List D).length) (qh its) = qh (its.drop (i+1)):=by
     show List.drop (i * 39+38+1) _ = _;rw [← kF,vn];rfl
    rw [e1];have e2:([(.vsl (its[i].rc.fields).nil (qh (its[i].rc.fields).l) (its[i].rc.fields).l.length)]:List D) ++ qh (its.drop (i+1)) = List.drop (i * 39+38) (qh its):=(by rw [vn];rfl);rw [vI,e2,V0]
   have hb:i * 39+38+1≤n1:=(by omega);generalize its[i] = x at *;simp [k3,k11,k12,qk,hw,h2,vn,hset,hle,hb];exact ⟨i+1,by omega,by omega,by omega⟩
  ·have qk:¬ (i:Int) < (k1:Int):=(by omega);simp [k3,k11,k12,qk,hle,zj,ht,qM,hk1.symm]
def Xp:List It→List It→Bool
 | [],[]=>true
 | x :: xs,y :: ys=>qcB x y && Xp xs ys
 | _,_=>false
theorem qjT:∀ {x y:List It},Xp x y = true→x.length = y.length
 | [],[],_=>rfl
 | _ :: xs,_ :: ys,h=>by
  rw [Xp,qT] at h;rw [qG,qG,qjT h.2]
 | [],_ :: _,h=>by cases h
 | _ :: _,[],h=>by cases h
set_option maxHeartbeats 2000000 in
theorem qqX [MaxL] (a b:Sl It) (ha:∀ x∈a.l,x.rc.fields.l.length < 1000000) (hb:∀ x∈b.l,x.rc.fields.l.length < 1000000) (han:a.l.length < 1000000):call cx 15 [(.vsl a.nil (qh a.l) a.l.length),(.vsl b.nil (qh b.l) b.l.length)] [] = some (.bool (Xp a.l b.l),[]):=by
 refine qs Tryz.func15 rfl ⟨rfl,rfl⟩ ?_;by_cases hl:a.l.length = b.l.length
 case neg =>
  have hf:Xp a.l b.l = false:=by
   cases h:Xp a.l b.l with
   | false=>rfl
   | true=>exact absurd (qjT h) hl
  have ky:¬ (a.l.length:Int) = (b.l.length:Int):=by omega
  simp [Tryz.f15,ky,hf]
 obtain ⟨r,hr⟩:∃ r,Xp a.l b.l = r:=⟨_,rfl⟩;rw [hr];simp [Tryz.f15,hl];refine Run.loopThen (fun (i:Nat) e H'=>i≤b.l.length∧Xp (a.l.drop i) (b.l.drop i) = r∧qf e 0 = some (.vsl a.nil (qh a.l) a.l.length)∧qf e 1 = some (.vsl b.nil (qh b.l) b.l.length)∧qf e 5 = some (.int .i64 (i:Nat))∧H' = []) (fun i=>b.l.length - i) 0 ⟨jk _,by simpa using hr,by simp [hl],by simp,by simp,rfl⟩ ?_;rintro i e H' ⟨hi,hR,k0,k1,k5,rfl⟩;by_cases qg:i < b.l.length
 ·have qk:(i:Int) < (b.l.length:Int):=by omega
  have ZF:i < a.l.length:=by omega
  have hw:IntKind.i64.wrap ((i:Int)+1) = ((i+1:Nat):Int):=by rw [wrap_i64] <;> omega
  have hs:=qru a.l[i] b.l[i] (ha _ (vw ZF)) (hb _ (vw qg));rw [zm ZF,zm qg,Xp] at hR;have vn:List.drop (i * 39) (qh a.l) = Enc.cells a.l[i] ++ qh (a.l.drop (i+1)):=It.ea ZF;have heb:List.drop (i * 39) (qh b.l) = Enc.cells b.l[i] ++ qh (b.l.drop (i+1)):=It.ea qg;have n1:=Sl.nn ZF;have n2:=Sl.nn qg;generalize a.l[i] = x at *;generalize b.l[i] = y at *;cases hx:qcB x y with
  | true =>
   rw [hx] at hs hR;simp [-It.ea,k0,k1,k5,hl,qk,n1,n2,vn,heb,hs,hw];exact ⟨i+1,by omega,by omega,by simpa using hR,by omega⟩
  | false =>
   rw [hx] at hs hR;simp [-It.ea,k0,k1,k5,hl,qk,n1,n2,vn,heb,hs,← hR]
 ·have hi2:i = b.l.length:=by omega
  rw [zX (by omega),zX (by omega)] at hR;replace hR:true = r:=hR;subst hR;simp [k0,k1,k5,hl,qg]
def fnd (l:List Mk) (id:ID):Option Mk:=l.find? fun m=>m.id == id
theorem qxZ (l:List Mk) (id:ID):jz l id = (fnd l id).getD ⟨id,0,0,0⟩:=rfl
theorem qyn (a:Mk) (l:List Mk) (id:ID):fnd (a :: l) id = if a.id = id then some a else fnd l id:=by
 unfold fnd;rw [List.find?_cons];by_cases h:a.id = id
 ·simp [h]
 ·simp [h,beq_eq_false_iff_ne.2 h]
theorem qzE {a b:ID} (h:qy a.l b.l < 0):a≠b:=by
 rintro rfl;rw [qdb] at h;omega
theorem qym {l:List Mk} (hr:jg l = true) {x:Mk} (hx:x∈l):fnd l x.id = some x:=by
 induction l with
 | nil=>cases hx
 | cons a l ih =>
  obtain ⟨r1,r2⟩:=rises_cons.1 hr;rw [qyn];rcases List.mem_cons.1 hx with rfl | h
  ·simp
  ·rw [if_neg (qzE (r1 x h)),ih r2 h]
def mx:Option Mk→Option Mk→Option Mk
 | none,o=>o
 | some x,none=>some x
 | some x,some y=>if y.seq≤x.seq then some x else some y
def qej (x:It):Int:=if x.gap then x.fr else x.rc.seq
def qch (x:It):Int:=if x.gap then x.til else x.rc.seq
def qoJ (L:List It):Prop:= ∀ i j (hi:i < j) (hj:j < L.length),(L[i]'(by omega)).id = L[j].id→qch (L[i]'(by omega)) < qej L[j]
structure SeqR (L:List It):Prop where
 rise:qoJ L
 num:∀ x∈L,∃ j,j < 3∧x.id = Ji j∧1≤qej x∧qej x≤qch x∧qch x≤L.length * 6
structure GoodL (L:List It) (last:List Int):Prop where
 rise:qoJ L
 num:∀ x∈L,∃ j,j < 3∧x.id = Ji j∧1≤qej x∧qej x≤qch x∧∀ h:j < last.length,qch x≤last[j]
end Go.Ev.S
namespace Go.Ev
open Go Go.Proofs
end Go.Ev
namespace Go.Ev
structure Lim where
 count:Int
 bytes:Int
 hard:Int
instance:Enc Lim:=⟨3,fun m=>[.int .i64 m.count,.int .i64 m.bytes,.int .i64 m.hard],fun _=>rfl,fun _=>rfl⟩
@[simp] theorem Lim.cells (m:Lim):Enc.cells m = [.int .i64 m.count,.int .i64 m.bytes,.int .i64 m.hard]:=rfl
structure BatS where
 items:List It
 fin:List Mk
 used:Nat
 bytes:Nat
def BatS.none:BatS:=⟨[],[],0,0⟩
section
variable (tc:List Mk→It→Int) (tl:List Mk→It→Bool→List Mk) (hd:List Pr→Bool) (sz:It→Nat) (lim:Lim)
def qo4 (x:It):Bool:=x.gap || hd x.rc.fields.l
def qlp (x:It):Bool:=qo4 hd x && (!x.gap && decide (lim.hard < (sz x:Int)))
def qio (x:It):Bool:=qo4 hd x && !qlp hd sz lim x
def qpN (s:BatS) (x:It):Bool:=qio hd sz lim x && (decide ((s.items.length:Int) = lim.count) || (decide (0 < s.items.length) && decide (lim.bytes < (s.bytes:Int)+(sz x:Int))))
def qng (l:List It) (f:List Mk):List Mk:=l.foldl (fun f x=>tl f x (qlp hd sz lim x)) f
def qpB (l:List It):Nat:=(l.map sz).sum
structure BldIs (l:List It) (s r:BatS) (n:Nat):Prop where
 le:n≤l.length
 used:r.used = s.used+n
 items:r.items = s.items ++ (l.take n).filter (qio hd sz lim)
 bytes:r.bytes = s.bytes+qpB sz ((l.take n).filter (qio hd sz lim))
 fin:r.fin = qng tl hd sz lim (l.take n) s.fin
 stop:∀ h:n < l.length,qpN hd sz lim r l[n] = true∨tc r.fin l[n]≠0
 went:∀ k (_:k < n) (h:k < l.length),tc (qng tl hd sz lim (l.take k) s.fin) l[k] = 0
end
end Go.Ev
namespace Go.Ev.S
open Go Go.Proofs Go.Ev
structure MarkI (f:List Mk) (S:List It):Prop where
 rises:jg f = true
 ids:∀ m∈f,∃ j,j < 3∧m.id = Ji j
 seq:∀ id,(jz f id).seq = 0∨∃ x∈S,x.id = id∧qch x = (jz f id).seq
 last:∀ x∈S,qch x≤(jz f x.id).seq
section
variable (hd:List Pr→Bool) (sz:It→Nat) (lim:Lim)
end
end Go.Ev.S
namespace Go.Ev.S
open Go Go.Proofs Go.Ev
structure Behind (m t:List Mk):Prop where
 right:vm m = true
 ok:Y5 m
 seq:∀ x∈m,1≤x.seq∧x.seq≤(jz t x.id).seq
theorem qxW {t:List Mk} (hr:jg t = true) {x:Mk} (hx:x∈t):jz t x.id = x:=by
 rw [qxZ,qym hr hx];rfl
theorem qxK {s:RSt} {n:Nat} (hI:RInv s n) (b:List UInt8):(∃ l,(kl s b).2.its = s.its ++ l)∧s.ep≤(kl s b).2.ep∧kH s.mks.l (kl s b).2.mks.l = true:=by
 have hrefl:kH s.mks.l s.mks.l = true:=List.all_eq_true.2 fun x hx=>by
  rw [qxW (qk0 hI.right) hx,decide_eq_true_eq];exact Int.le_refl _
 have h0:(∃ l,s.its = s.its ++ l)∧s.ep≤s.ep∧kH s.mks.l s.mks.l = true:=⟨⟨[],by simp⟩,Int.le_refl _,hrefl⟩;unfold kl;by_cases hc:(zL b).2 = 0
 case neg =>
  rw [if_pos hc];exact h0
 rw [if_neg (fun h=>h hc)];obtain ⟨p,x,y,body,hp,hq,_,hx,hy,hl⟩:=qdF hc;rw [hq];unfold jc;split
 ·exact h0
 split
 ·split
  ·exact h0
  ·unfold VK;split
   ·rename_i qg;exact ⟨h0.1,by simp only at qg ⊢;omega,hrefl⟩
   ·exact h0
 ·rcases qeB s ⟨p,x,y,.of body⟩ (by simpa using hl) with ⟨h1,_⟩ | ⟨h1,_⟩ | ⟨l,m,t,hg,hf,ja,jv,_,_,h1⟩
  ·rw [h1];exact h0
  ·rw [h1];exact h0
  ·rw [h1];exact ⟨⟨l,rfl⟩,Int.le_refl _,jv⟩
def DoI.Fit (d:DoI):Prop:=0≤d.byv∧d.byv < 256
theorem qmB {n:Nat} {cs:List D} (h:ku Tryz.prog (n+1) 3 cs):∃ a:I6,cs = Enc.cells a∧qfK a.v:=by
 obtain ⟨x,rfl,w⟩:=qei un3 h;exact ⟨⟨x⟩,rfl,w⟩
theorem qxS {n:Nat} {cs:List D} (h:ku Tryz.prog (n+2+1) 36 cs):∃ d:DoI,cs = Enc.cells d∧DoI.Fit d:=by
 have h:=qxQ (P:=Tryz.prog) (n:=n+2) (t:=36) Tryz.underlying36 h;simp only [qeI] at h;obtain ⟨a,b,rfl,-,ha,c,d,rfl,-,hc,e,f,rfl,-,he,g,k,rfl,-,hg,i,j,rfl,-,hi,l,m,rfl,-,hl,o,p,rfl,-,ho,rfl⟩:=h;obtain ⟨x1,rfl,w1⟩:=qei un3 ha;obtain ⟨x2,rfl,w2⟩:=qei un3 hc;obtain ⟨x3,rfl,w3⟩:=qei un3 he;obtain ⟨s1,rfl,u1,u2⟩:=qik (α:=I6) qjv (fun l=>qmB) hg;obtain ⟨s2,rfl,u3,u4⟩:=qik (α:=I6) qjv (fun l=>qmB) hi;obtain ⟨y,rfl⟩:=qm9 un5 hl;obtain ⟨b,rfl,u5⟩:=qxR qpm un5 ho;have hy:=UInt8.toNat_lt y;exact ⟨⟨x1,x2,x3,s1,s2,y.toNat,b⟩,by simp [DoI.cells],by unfold DoI.Fit;simp only;omega⟩
theorem qyY (d:DoI) (hd:DoI.Fit d):∃ (kd ep nm:Int) (n1:Bool) (z1:List Int) (n2:Bool) (z2:List Int) (y:UInt8) (b:Sl UInt8),Enc.cells d = [.int .i64 kd,.int .i64 ep,.int .i64 nm,.vsl n1 (je .i64 z1) z1.length,.vsl n2 (je .i64 z2) z2.length,.int .u8 y.toNat,(.vsl b.nil (qd b.l) b.l.length)]∧(n1 = true→z1 = [])∧(n2 = true→z2 = []):=by
 refine ⟨d.kind,d.epoch,d.number,d.ln.nil,d.ln.l.map (·.v),d.ats.nil,d.ats.l.map (·.v),UInt8.ofNat d.byv.toNat,d.b,?_,fun h=>by rw [d.ln.h h];rfl,fun h=>by rw [d.ats.h h];rfl⟩;obtain ⟨h1,h2⟩:=hd;simp [DoI.cells,qyS];omega
theorem qyX [MaxL] (kd ep nm:Int) (n1:Bool) (z1:List Int) (n2:Bool) (z2:List Int) (y:Int) (b:Sl UInt8):call cx 10 [.agg [.int .i64 kd,.int .i64 ep,.int .i64 nm,.vsl n1 (je .i64 z1) z1.length,.vsl n2 (je .i64 z2) z2.length,.int .u8 y,(.vsl b.nil (qd b.l) b.l.length)]] [] =
  some (.bool (decide (z1.length≤60) && (decide (b.l.length≤300) && decide (z2.length≤4))),[]):=by
 refine qs Tryz.func10 rfl ⟨rfl,rfl⟩ ?_;by_cases a1:z1.length≤60
 ·have a1':(z1.length:Int)≤60:=by omega
  by_cases a2:b.l.length≤300
  ·have a2':(b.l.length:Int)≤300:=(by omega);by_cases a3:z2.length≤4
   ·have a3':(z2.length:Int)≤4:=(by omega);simp [Tryz.f10,a1,a1',a2,a2',a3,a3']
   ·have a3':¬ (z2.length:Int)≤4:=(by omega);simp [Tryz.f10,a1,a1',a2,a2',a3,a3']
  ·have a2':¬ (b.l.length:Int)≤300:=(by omega);simp [Tryz.f10,a1,a1',a2,a2']
 ·have a1':¬ (z1.length:Int)≤60:=by omega
  simp [Tryz.f10,a1,a1']
theorem qjS:∀ l:List It,Xp l l = true
 | []=>rfl
 | x :: l=>by
  show (qcB x x && Xp l l) = true;rw [qjS l,Bool.and_true];unfold qcB qfi;simp
theorem qm6 {s s':RSt} {N:Nat} (hI:RInv s N) (qt:s.its≠[]) {b:List UInt8} {w:Sl UInt8} (h:kl s b = (w,s')):s'.its≠[]:=fun h0=>by
 obtain ⟨⟨l,hl⟩,_⟩:=qxK hI b;rw [h] at hl;simp only at hl;rw [h0] at hl;exact qt (List.append_eq_nil_iff.1 hl.symm).1
def XM (L:List It) (d:D) (T:qi):Prop:=(L = []∧d = .vsl true [] 0∧T = [])∨(L≠[]∧∃ n k,n = L.length * 39∧k = L.length∧d = .osl 2 n 0 k 39∧T = [some (qh L)])
structure NB where
 b:Bool
def XR [MaxL] (F id:Nat) (s:RSt) (P:qr→Prop) (e:qr) (H:qi):Prop:= ∃ (e':qr) (d:D) (T:qi) (nl:NB),(nl.b = true→s.its = [])∧enter cx F 0 id e H = some (e',some (s.A d) :: some (s.B nl.b) :: T)∧XM s.its d T∧P e'
theorem qro [MaxL] {s:RSt} {N:Nat} (hI:RInv s N) (hN:N≤10000) (nl:Bool) (zb:nl = true→s.its = []) (kd ep nm:Int) (n1:Bool) (z1:List Int) (h1:n1 = true→z1 = []) (Yg:z1.length≤60) (n2:Bool) (z2:List Int) (h2:n2 = true→z2 = []) (Yf:z2.length≤4) (y:UInt8) (b:Sl UInt8) (ZK:b.l.length≤300) (d:D) (T:qi) (zY:Shp s.its d T) :
  ∃ (m w:Sl UInt8) (nl':Bool) (s':RSt) (d':D) (T':qi),m.l.length≤70000∧kl s m.l = (w,s')∧RInv s' (N+64)∧(nl' = true→s'.its = [])∧Shp s'.its d' T' ∧
   call cx 11 [.agg [.int .i64 kd,.int .i64 ep,.int .i64 nm,.vsl n1 (je .i64 z1) z1.length,.vsl n2 (je .i64 z2) z2.length,.int .u8 y.toNat,(.vsl b.nil (qd b.l) b.l.length)],.optr 0 4 0] [some (s.B nl)] = some ((.vsl m.nil (qd m.l) m.l.length),[some (s.B nl)]) ∧
   call cx 12 [.optr 0 4 0,(.vsl m.nil (qd m.l) m.l.length)] (some (s.A d) :: T) = some ((.vsl w.nil (qd w.l) w.l.length),some (s'.A d') :: T') ∧
   call cx 13 [.optr 0 4 0,(.vsl m.nil (qd m.l) m.l.length)] [some (s.B nl)] = some ((.vsl w.nil (qd w.l) w.l.length),[some (s'.B nl')]):=by
 obtain ⟨q,c1,m,hm,rfl⟩:=qxJ kd ep nm n1 z1 h1 Yg n2 z2 h2 Yf y b ZK s.ep s.la hI.ep s.mks hI.ok (by have:=hI.len;omega) (.vsl nl (qh s.its) s.its.length) (by simp) (by simp) rfl;obtain ⟨r,c2,d',T',vV,rfl⟩:=qm7 hI (by omega) d T zY m (by omega);obtain ⟨r,c3,nl',QA,rfl⟩:=qyZ hI (by omega) nl zb m (by omega);have hI':=qxM hI m.l;obtain ⟨w,s',he⟩:∃ w s',kl s m.l = (w,s'):=⟨_,_,rfl⟩;rw [he] at c2 c3 vV QA hI';exact ⟨m,w,nl',s',d',T',hm,he,hI',QA,vV,c1,c2,c3⟩
theorem q0K (s:RSt) (q:Rq) (hp:q.path = zQ) (hb:q.body.l.length≤65536) (h:(jc s q).1 = 200):(jc s q).2.2.la = q.number∧(jc s q).2.1 = .none∧jc (jc s q).2.2 q = (200,.none,(jc s q).2.2):=by
 have hn:¬ q.path = jq:=by rw [hp];decide
 unfold jc at h ⊢;by_cases c1:q.epoch < s.ep
 ·rw [if_pos c1] at h;cases h
 rw [if_neg c1,if_neg hn] at h ⊢;simp only at h ⊢
 have key:∀ t:RSt,t.ep = s.ep→t.la = q.number→q.number≠0→q.epoch≤s.ep→(if q.epoch < t.ep then ((409:Int),(Sl.none:Sl UInt8),t) else if q.path = jq then (if 0 < q.body.l.length then (400,.none,t) else (200,kQ t.mks.l,VK t q.epoch)) else ((jr t q).1,.none,(jr t q).2)) = (200,.none,t):=fun t h1 h2 h3 h4=>by
  rw [h1,if_neg c1,if_neg hn];unfold jr;rw [if_neg (by omega),if_pos ⟨h2.symm,h3⟩]
 rcases qeB s q hb with ⟨h1,h2⟩ | ⟨h1,h2,h3,h4,h5⟩ | ⟨l,m,t,hg,hf,ja,jv,h3,h4,h1⟩
 ·omega
 ·rw [h1];exact ⟨h4.symm,trivial,key s rfl h4.symm h5 h3⟩
 ·rw [h1];exact ⟨rfl,trivial,key _ rfl rfl h4 h3⟩
theorem qkT [MaxL] (c e n:Int) (hc:c = 200∨c = 400∨c = 409) (ue:qA e) (un:qA n) (w:Sl UInt8) (hw:w.l.length≤65536):call cx 21 [(.vsl (kc ⟨c,e,n,w⟩).nil (qd (kc ⟨c,e,n,w⟩).l) (kc ⟨c,e,n,w⟩).l.length)] [] = some (.tup [.agg [.int .i64 c,.int .u64 e,.int .u64 n,.vsl false (qd w.l) w.l.length],.int .i64 0],[]):=by
 rw [qsc c hc e n w hw];obtain ⟨e1,e2⟩:=ue;obtain ⟨n1,n2⟩:=un;have hb:=qrV e.toNat n.toNat (by omega) (by omega) w.l hw c hc;have hl:=qqY c e.toNat n.toNat w.l;have h3:=qrU (.of (vq c ++ (vk e.toNat n.toNat w.l.length ++ w.l))) (by rw [Sl.of_l];omega);rw [Sl.of_l,hb] at h3;have t1:((e.toNat:Nat):Int) = e:=by omega
 have t2:((n.toNat:Nat):Int) = n:=by omega
 rw [t1,t2] at h3;simpa [Rs.cells] using h3
theorem q0M (s:RSt) (q:Rq) (hb:q.body.l.length≤65536):(jc s q).1 = 200∨(jc s q).1 = 400∨(jc s q).1 = 409:=by
 unfold jc;split
 ·exact .inr (.inr rfl)
 split
 ·split
  ·exact .inr (.inl rfl)
  ·exact .inl rfl
 ·rcases qeB s q hb with ⟨_,h⟩ | ⟨_,h,_⟩ | ⟨l,m,t,_,_,_,_,_,_,h⟩
  ·exact .inr h
  ·exact .inl h
  ·exact .inl (by rw [h])
theorem q0L (s:RSt) (q:Rq) (hb:q.body.l.length≤65536) (h:q.path = jq∨(jc s q).1≠200):(jc s q).2.2.its.length = s.its.length:=by
 unfold jc at h ⊢;by_cases c1:q.epoch < s.ep
 ·rw [if_pos c1]
 rw [if_neg c1] at h ⊢;by_cases c2:q.path = jq
 ·rw [if_pos c2];split
  ·rfl
  ·unfold VK;split <;> rfl
 rw [if_neg c2] at h ⊢;simp only at h ⊢;rcases qeB s q hb with ⟨h1,_⟩ | ⟨h1,_⟩ | ⟨l,m,t,_,_,_,_,_,_,h1⟩
 ·rw [h1]
 ·rw [h1]
 ·rw [h1] at h;rcases h with h | h
  ·exact absurd h c2
  ·exact absurd rfl h
theorem q1a [MaxL] {s s':RSt} {N:Nat} (_:RInv s N) (hI':RInv s' (N+64)) (m:List UInt8) {w:Sl UInt8} (hh:kl s m = (w,s')):∃ (c e n:Int) (z:List UInt8),call cx 21 [(.vsl w.nil (qd w.l) w.l.length)] [] = some (.tup [.agg [.int .i64 c,.int .u64 e,.int .u64 n,.vsl false (qd z) z.length],.int .i64 0],[]) ∧
  ((s'.its.length = s.its.length∧((zL m).2≠0∨((zL m).2 = 0∧(zL m).1.path = jq)∨((zL m).2 = 0∧(zL m).1.path = zQ∧c≠200))) ∨
  ((zL m).2 = 0∧(zL m).1.path = zQ∧c = 200∧e = s'.ep∧n = (zL m).1.number∧z = []∧s'.la = (zL m).1.number∧kl s' m = (w,s'))):=by
 unfold kl at hh;by_cases hc:(zL m).2 = 0
 case neg =>
  rw [if_pos hc] at hh;cases hh;exact ⟨400,0,0,[],qkT 400 0 0 (.inr (.inl rfl)) (by constructor <;> decide) (by constructor <;> decide) .none (by simp),.inl ⟨rfl,.inl hc⟩⟩
 rw [if_neg (fun h=>h hc)] at hh;obtain ⟨p,x,y,body,hp,hq,_,hx,hy,hl⟩:=qdF hc;have hb:(zL m).1.body.l.length≤65536:=by rw [hq];exact hl
 have hny:(zL m).1.number = (y:Int):=by rw [hq]
 have VC:(zL m).1.path = jq∨(zL m).1.path = zQ:=by rw [hq];exact hp
 obtain ⟨h1,h2⟩:=Prod.mk.inj hh;have hcode:=q0M s (zL m).1 hb;have QT:=qoB s (zL m).1;rw [h2] at h1;refine ⟨_,_,_,_,by rw [← h1];exact qkT _ _ _ hcode hI'.ep (by rw [hny];exact qbN hy) _ (by omega),?_⟩;by_cases h3:(zL m).1.path = zQ∧(jc s (zL m).1).1 = 200
 ·obtain ⟨h4,h5,h6⟩:=q0K s (zL m).1 h3.1 hb h3.2;rw [h2] at h4 h6;refine .inr ⟨hc,h3.1,h3.2,rfl,rfl,by rw [h5];rfl,h4,?_⟩;unfold kl;rw [if_neg (fun h=>h hc),h6,← h1,h5,h3.2]
 ·refine .inl ⟨?_,?_⟩
  ·rw [← h2];refine q0L s _ hb ?_;rcases VC with h | h
   ·exact .inl h
   ·exact .inr fun h'=>h3 ⟨h,h'⟩
  ·rcases VC with h | h
   ·exact .inr (.inl ⟨hc,h⟩)
   ·exact .inr (.inr ⟨hc,h,fun h'=>h3 ⟨h,h'⟩⟩)
theorem Shp.one {L:List It} {d d':D} {T T':qi} (h:Shp L d T) (h':Shp L d' T'):d = d'∧T = T':=by
 rcases h with ⟨h0,rfl,rfl⟩ | ⟨h0,n,k,rfl,rfl,rfl,rfl⟩
 ·rcases h' with ⟨_,rfl,rfl⟩ | ⟨h1,_⟩
  ·exact ⟨rfl,rfl⟩
  ·exact absurd h0 h1
 ·rcases h' with ⟨h1,_⟩ | ⟨_,n',k',rfl,rfl,rfl,rfl⟩
  ·exact absurd h1 h0
  ·exact ⟨rfl,rfl⟩
def Sh4 (L:List It) (d:D) (T:qi):Prop:=(L = []∧d = .vsl true [] 0∧T = [])∨(L≠[]∧∃ n k,n = L.length * 39∧k = L.length∧d = .osl 4 n 0 k 39∧T = [some (qh L)])
def qa2 [MaxL] (F id:Nat) (s:RSt) (nl:Bool) (X Q:List D) (P:qr→Prop) (e:qr) (H:qi):Prop:= ∃ (e':qr) (d:D) (T:qi),enter cx F 0 id e H = some (e',some (s.A d) :: some (s.B nl) :: some X :: some Q :: T)∧Sh4 s.its d T∧P e'
set_option maxHeartbeats 16000000 in
set_option maxRecDepth 10000 in
theorem q0Z [MaxL] (ds:Sl DoI) (Yo:∀ d∈ds.l,DoI.Fit d) (times:Int):call cx 4 [(.vsl ds.nil (qh ds.l) ds.l.length),.int .i64 times] [] = some (.bool true,[]):=by
 have f0:=qyu;have fn:=qtr;refine qs Tryz.func4 rfl ⟨rfl,rfl⟩ ?_;by_cases h25:ds.l.length≤12
 case neg =>
  have h25':(12:Int) < (ds.l.length:Int):=by omega
  simp [Tryz.f4,f0,h25']
 have h25':¬ (12:Int) < (ds.l.length:Int):=by omega
 obtain ⟨tm,htm,ct⟩:=qdS times 4 (by omega) (by omega);replace ct:call cx 24 [.int .i64 times,.int .i64 4] [] = some (.int .i64 tm,[]):=ct;have hwt:IntKind.i64.wrap ((tm:Int)+1) = ((tm+1:Nat):Int):=by rw [wrap_i64] <;> omega
 obtain ⟨tn,htn⟩:∃ tn,tn = tm+1:=⟨_,rfl⟩;rw [← htn] at hwt;simp [Tryz.f4,f0,h25',fn];refine Run.loopThen (fun (q:Nat × RSt) e H=>q.1≤ds.l.length∧RInv q.2 (q.1 * 64)∧XR 4 8 q.2 (fun e'=>qf e' 0 = some (.vsl ds.nil (qh ds.l) ds.l.length)∧qf e' 1 = some (.int .i64 times)∧qf e' 5 = some (.bool true)∧qf e' 6 = some (.optr 0 4 0)∧qf e' 7 = some (.optr 1 4 0)∧qf e' 8 = some (.int .i64 q.1)) e H) (fun q=>ds.l.length - q.1) (0,⟨0,0,[],.none⟩) ?_ ?_
 ·refine ⟨jk _,qrw,?_⟩;unfold XR;simp [RSt.A,RSt.B,XM];exact ⟨_,_,_,⟨rfl,rfl,rfl⟩,⟨rfl,rfl⟩,rfl,rfl,rfl,rfl,rfl,rfl⟩
 rintro ⟨i,s⟩ e H ⟨hi,hI,e',d,T,⟨nl⟩,zb,v6,hS,p0,p1,p5,p6,p7,p8⟩;simp only at hi hI zb v6 hS p8;have QO:=hI.num;have hm0:=hI.len;by_cases qg:i < ds.l.length
 case neg =>
  have qk:¬ (i:Int) < (ds.l.length:Int):=by omega
  simp [-VR,v6,p0,p5,p8,qk]
 have qk:(i:Int) < (ds.l.length:Int):=by omega
 have Kq:IntKind.i64.wrap ((i:Int)+1) = ((i+1:Nat):Int):=by rw [wrap_i64] <;> omega
 obtain ⟨kd,ep,nm,n1,z1,n2,z2,yy,bb,hc,q1,q2⟩:=qyY ds.l[i] (Yo _ (vw qg));have qM:ds.nil = false:=Sl.nn qg;have KW:=qyX kd ep nm n1 z1 n2 z2 yy.toNat bb;cases hL:(decide (z1.length≤60) && (decide (bb.l.length≤300) && decide (z2.length≤4))) with
 | false =>
  rw [hL] at KW;simp [-VR,v6,p0,p1,p5,p6,p7,p8,qg,qk,qM,hc,KW]
 | true =>
  rw [hL] at KW;simp only [qT,decide_eq_true_eq] at hL;obtain ⟨g1,g2,g3⟩:=hL
  have hx:∃ (d1:D) (T1:qi),Shp s.its d1 T1∧((s.its = []∧d1 = .vsl true [] 0∧T1 = []∧d = .vsl true [] 0∧T = [])∨(s.its≠[]∧∃ n k,n = s.its.length * 39∧k = s.its.length∧d1 = .osl 1 n 0 k 39∧T1 = [some (qh s.its)]∧d = .osl 2 n 0 k 39∧T = [some (qh s.its)])):=by
   rcases hS with ⟨VB,rfl,rfl⟩ | ⟨qt,n0,k0,QO,kj,rfl,rfl⟩
   ·exact ⟨_,_,.inl ⟨VB,rfl,rfl⟩,.inl ⟨VB,rfl,rfl,rfl,rfl⟩⟩
   ·exact ⟨_,_,.inr ⟨qt,n0,k0,QO,kj,rfl,rfl⟩,.inr ⟨qt,n0,k0,QO,kj,rfl,rfl,rfl,rfl⟩⟩
  obtain ⟨d1,T1,hS1,hx⟩:=hx;obtain ⟨m,w,nl',s',d',T',hm,hh,hI',QA,vV,c1,c2,c3⟩:=qro hI (by omega) nl zb kd ep nm n1 z1 q1 g1 n2 z2 q2 g3 yy bb g2 d1 T1 hS1;have h8:=hI'.len;have h9:=hI'.num;obtain ⟨rc,re,rn,rz,c4,hcs⟩:=q1a hI hI' m.l hh;have c5:=qht m (by omega);have e0:=qjL s (by omega) (fun x hx=>(hI.its x hx).b.2) d1 T1 hS1;have e2:=qqf s' d' T' vV;have e3:=qqa s' (by omega) d' T' vV;have e4:=qjL s' (by omega) (fun x hx=>(hI'.its x hx).b.2) d' T' vV;obtain ⟨gv,hgv⟩:∃ g,g = Sl.grown s'.its:=⟨_,rfl⟩;have vu:gv.l = s'.its:=by rw [hgv];rfl
  have e5:=qrr s'.mks s'.mks (by omega);rw [beq_self_eq_true] at e5;have e6:=qqX gv gv (fun x hx=>(hI'.its x (vu ▸ hx)).b.2) (fun x hx=>(hI'.its x (vu ▸ hx)).b.2) (by rw [vu];omega);rw [qjS,vu] at e6;rw [← hgv] at e4;obtain ⟨g0,ZI⟩:∃ g,g = Sl.grown s.its:=⟨_,rfl⟩;have hg0l:g0.l = s.its:=by rw [ZI];rfl
  rw [← ZI] at e0;rcases hcs with ⟨Qq,hcs⟩ | ⟨a1,a2,a3,a4,a5,a6,a7,a8⟩
  ·have hgo:(zL m.l).2≠0∨((zL m.l).2 = 0∧((zL m.l).1.path == [47,98,97,116,99,104]) = false)∨((zL m.l).2 = 0∧((zL m.l).1.path == [47,98,97,116,99,104]) = true∧rc≠200):=by
    rcases hcs with h | ⟨h,h'⟩ | ⟨h,h',h''⟩
    ·exact .inl h
    ·exact .inr (.inl ⟨h,by rw [h'];decide⟩)
    ·exact .inr (.inr ⟨h,by rw [h'];decide,h''⟩)
   generalize zL m.l = Q at *;obtain ⟨⟨qp,qe,qn,qo⟩,qc⟩:=Q;simp only [Rq.cells] at c5 hgo;clear hcs;obtain ⟨ep0,la0,its0,mk0⟩:=s;obtain ⟨ep',la',its',mk'⟩:=s';simp only [RSt.A,RSt.B] at c1 c2 c3 e0 e2 e3 e4 v6 vV vu hg0l Qq;rw [vu] at e4;rw [hg0l] at e0;have hlq:=eq_true Qq;have hlz:((its'.length:Int) = (its0.length:Int)) = True:=eq_true (by omega);rcases hx with ⟨VB,rfl,rfl,rfl,rfl⟩ | ⟨qt,n0,k0,QO,kj,rfl,rfl,rfl,rfl⟩
   ·rcases vV with ⟨Q8,rfl,rfl⟩ | ⟨Vg,n3,k3,Q9,vl,rfl,rfl⟩
    ·rcases hgo with o1 | ⟨o1,o2⟩ | ⟨o1,o2,o3⟩
     ·simp [-VR,v6,p0,p1,p5,p6,p7,p8,qg,qk,qM,hc,KW,c1,c2,c3,c4,c5,e0,e4,Kq,o1,hlz];refine ⟨i+1,by omega,by omega,⟨ep',la',its',mk'⟩,hI'.more (by omega),?_⟩;unfold XR;simp [RSt.A,RSt.B,XM];exact ⟨_,_,_,⟨nl'⟩,QA,⟨rfl,rfl,rfl,rfl⟩,.inl ⟨Q8,rfl,rfl⟩,rfl,rfl,rfl,rfl,rfl,rfl⟩
     ·simp [-VR,v6,p0,p1,p5,p6,p7,p8,qg,qk,qM,hc,KW,c1,c2,c3,c4,c5,e0,e4,Kq,o1,o2,hlz];refine ⟨i+1,by omega,by omega,⟨ep',la',its',mk'⟩,hI'.more (by omega),?_⟩;unfold XR;simp [RSt.A,RSt.B,XM];exact ⟨_,_,_,⟨nl'⟩,QA,⟨rfl,rfl,rfl,rfl⟩,.inl ⟨Q8,rfl,rfl⟩,rfl,rfl,rfl,rfl,rfl,rfl⟩
     ·simp [-VR,v6,p0,p1,p5,p6,p7,p8,qg,qk,qM,hc,KW,c1,c2,c3,c4,c5,e0,e4,Kq,o1,o2,o3,hlz];refine ⟨i+1,by omega,by omega,⟨ep',la',its',mk'⟩,hI'.more (by omega),?_⟩;unfold XR;simp [RSt.A,RSt.B,XM];exact ⟨_,_,_,⟨nl'⟩,QA,⟨rfl,rfl,rfl,rfl⟩,.inl ⟨Q8,rfl,rfl⟩,rfl,rfl,rfl,rfl,rfl,rfl⟩
    ·exact absurd (List.length_eq_zero_iff.1 (by rw [Qq];simp only at VB;rw [VB];rfl)) Vg
   ·rcases vV with ⟨Q8,rfl,rfl⟩ | ⟨Vg,n3,k3,Q9,vl,rfl,rfl⟩
    ·exact absurd Q8 (qm6 hI qt hh)
    ·rcases hgo with o1 | ⟨o1,o2⟩ | ⟨o1,o2,o3⟩
     ·simp [-VR,v6,p0,p1,p5,p6,p7,p8,qg,qk,qM,hc,KW,c1,c2,c3,c4,c5,e0,e4,Kq,o1,hlz];refine ⟨i+1,by omega,by omega,⟨ep',la',its',mk'⟩,hI'.more (by omega),?_⟩;unfold XR;simp [RSt.A,RSt.B,XM];exact ⟨_,_,_,⟨nl'⟩,QA,⟨rfl,rfl,rfl,rfl⟩,.inr ⟨Vg,by rw [Q9,vl],rfl⟩,rfl,rfl,rfl,rfl,rfl,rfl⟩
     ·simp [-VR,v6,p0,p1,p5,p6,p7,p8,qg,qk,qM,hc,KW,c1,c2,c3,c4,c5,e0,e4,Kq,o1,o2,hlz];refine ⟨i+1,by omega,by omega,⟨ep',la',its',mk'⟩,hI'.more (by omega),?_⟩;unfold XR;simp [RSt.A,RSt.B,XM];exact ⟨_,_,_,⟨nl'⟩,QA,⟨rfl,rfl,rfl,rfl⟩,.inr ⟨Vg,by rw [Q9,vl],rfl⟩,rfl,rfl,rfl,rfl,rfl,rfl⟩
     ·simp [-VR,v6,p0,p1,p5,p6,p7,p8,qg,qk,qM,hc,KW,c1,c2,c3,c4,c5,e0,e4,Kq,o1,o2,o3,hlz];refine ⟨i+1,by omega,by omega,⟨ep',la',its',mk'⟩,hI'.more (by omega),?_⟩;unfold XR;simp [RSt.A,RSt.B,XM];exact ⟨_,_,_,⟨nl'⟩,QA,⟨rfl,rfl,rfl,rfl⟩,.inr ⟨Vg,by rw [Q9,vl],rfl⟩,rfl,rfl,rfl,rfl,rfl,rfl⟩
  ·obtain ⟨r,c6,d2,T2,ZB,rfl⟩:=qm7 hI' (by omega) d' T' vV m (by omega);rw [a8] at c6 ZB;obtain ⟨rfl,rfl⟩:=Shp.one vV ZB;clear ZB a8;generalize zL m.l = Q at *;obtain ⟨⟨qp,qe,qn,qo⟩,qc⟩:=Q;simp only at a1 a2 a3 a4 a5 a6 a7;subst a1 a2 a3 a6;obtain ⟨ep0,la0,its0,mk0⟩:=s;obtain ⟨ep',la',its',mk'⟩:=s';simp only at a4 a5 a7;subst a5 a7;obtain rfl:=a4.symm;simp only [RSt.A,RSt.B,Rq.cells] at c1 c2 c3 c5 c6 e0 e2 e3 e4 e5 v6 vV vu hg0l;rw [vu] at e4;rw [hg0l] at e0;have hbq:(zQ == [47,98,97,116,99,104]) = true:=(by decide);rcases hx with ⟨VB,rfl,rfl,rfl,rfl⟩ | ⟨qt,n0,k0,QO,kj,rfl,rfl,rfl,rfl⟩
   ·rcases vV with ⟨Q8,rfl,rfl⟩ | ⟨Vg,n3,k3,Q9,vl,rfl,rfl⟩
    ·simp [-VR,v6,p0,p1,p5,p6,p7,p8,qg,qk,qM,hc,KW,c1,c2,c3,c4,c5,e0,e2,e3,e4,hbq];refine Run.loopThen (fun (k:Nat) e H=>k≤tn∧qa2 4 24 ⟨ep',la',its',mk'⟩ nl' [.int .i64 200,.int .u64 ep',.int .u64 la',.vsl false [] 0] [.str zQ,.int .u64 qe,.int .u64 la',(.vsl qo.nil (qd qo.l) qo.l.length)] (fun e'=>qf e' 0 = some (.vsl false (qh ds.l) ds.l.length)∧qf e' 1 = some (.int .i64 times)∧qf e' 5 = some (.bool true)∧qf e' 6 = some (.optr 0 4 0)∧qf e' 7 = some (.optr 1 4 0)∧qf e' 8 = some (.int .i64 i)∧qf e' 9 = some (.vsl m.nil (qd m.l) m.l.length)∧qf e' 11 = some (.optr 2 4 0)∧qf e' 13 = some (.optr 3 4 0)∧qf e' 15 = some (.vsl gv.nil (qh its') its'.length)∧qf e' 16 = some (.int .u64 la')∧qf e' 17 = some (.vsl mk'.nil (qh mk'.l) mk'.l.length)∧qf e' 18 = some (.int .i64 k)) e H) (fun k=>tn - k) 0 ?_ ?_
     ·refine ⟨jk _,?_⟩;unfold qa2;simp [RSt.A,RSt.B,Sh4];exact ⟨_,_,_,⟨rfl,rfl,rfl⟩,.inl ⟨Q8,rfl,rfl⟩,rfl,rfl,rfl,rfl,rfl,rfl,rfl,rfl,rfl,rfl,rfl,rfl,rfl⟩
     rintro k eE H2 ⟨hk,e3',d3,T3,XG,hS2,r0,r1,r5,r6,r7,r8,r9,r11,r13,r15,r16,r17,r18⟩;rcases hS2 with ⟨hs9,rfl,rfl⟩ | ⟨hne9,n9,k9,hn9,hk9,rfl,rfl⟩
     case inr=>exact absurd Q8 hne9
     simp only [RSt.A,RSt.B] at XG;by_cases KY:k < tn
     ·have XB:(k:Int) < (tn:Int):=(by omega);have jX:IntKind.i64.wrap ((k:Int)+1) = ((k+1:Nat):Int):=(by rw [wrap_i64] <;> omega);simp [-qcW,XG,r0,r1,r5,r6,r7,r8,r9,r11,r13,r15,r16,r17,r18,ct,hwt,XB,jX,c4,c6];refine ⟨k+1,by omega,by omega,?_⟩;unfold qa2;simp [RSt.A,RSt.B,Sh4];exact ⟨_,_,_,⟨rfl,rfl,rfl⟩,.inl ⟨Q8,rfl,rfl⟩,rfl,rfl,rfl,rfl,rfl,rfl,rfl,rfl,rfl,rfl,rfl,rfl,rfl⟩
     ·have XB:¬ (k:Int) < (tn:Int):=(by omega);simp [-qcW,-VR,XG,r0,r1,r5,r6,r7,r8,r13,r15,r16,r17,r18,ct,hwt,XB,e2,e3,e4,e5,e6,Kq];refine ⟨i+1,by omega,by omega,⟨ep',la',its',mk'⟩,hI'.more (by omega),?_⟩;unfold XR;simp [RSt.A,RSt.B,XM];exact ⟨_,_,_,⟨nl'⟩,QA,⟨rfl,rfl,rfl,rfl⟩,.inl ⟨Q8,rfl,rfl⟩,rfl,rfl,rfl,rfl,rfl,rfl⟩
    ·simp [-VR,v6,p0,p1,p5,p6,p7,p8,qg,qk,qM,hc,KW,c1,c2,c3,c4,c5,e0,e2,e3,e4,hbq];refine Run.loopThen (fun (k:Nat) e H=>k≤tn∧qa2 4 24 ⟨ep',la',its',mk'⟩ nl' [.int .i64 200,.int .u64 ep',.int .u64 la',.vsl false [] 0] [.str zQ,.int .u64 qe,.int .u64 la',(.vsl qo.nil (qd qo.l) qo.l.length)] (fun e'=>qf e' 0 = some (.vsl false (qh ds.l) ds.l.length)∧qf e' 1 = some (.int .i64 times)∧qf e' 5 = some (.bool true)∧qf e' 6 = some (.optr 0 4 0)∧qf e' 7 = some (.optr 1 4 0)∧qf e' 8 = some (.int .i64 i)∧qf e' 9 = some (.vsl m.nil (qd m.l) m.l.length)∧qf e' 11 = some (.optr 2 4 0)∧qf e' 13 = some (.optr 3 4 0)∧qf e' 15 = some (.vsl gv.nil (qh its') its'.length)∧qf e' 16 = some (.int .u64 la')∧qf e' 17 = some (.vsl mk'.nil (qh mk'.l) mk'.l.length)∧qf e' 18 = some (.int .i64 k)) e H) (fun k=>tn - k) 0 ?_ ?_
     ·refine ⟨jk _,?_⟩;unfold qa2;simp [RSt.A,RSt.B,Sh4];exact ⟨_,_,_,⟨rfl,rfl,rfl⟩,.inr ⟨Vg,by rw [Q9,vl],rfl⟩,rfl,rfl,rfl,rfl,rfl,rfl,rfl,rfl,rfl,rfl,rfl,rfl,rfl⟩
     rintro k eE H2 ⟨hk,e3',d3,T3,XG,hS2,r0,r1,r5,r6,r7,r8,r9,r11,r13,r15,r16,r17,r18⟩;rcases hS2 with ⟨hs9,rfl,rfl⟩ | ⟨hne9,n9,k9,hn9,hk9,rfl,rfl⟩
     ·exact absurd hs9 Vg
     obtain rfl:n9 = n3:=by rw [hn9,Q9]
     obtain rfl:k9 = k3:=by rw [hk9,vl]
     simp only [RSt.A,RSt.B] at XG;by_cases KY:k < tn
     ·have XB:(k:Int) < (tn:Int):=(by omega);have jX:IntKind.i64.wrap ((k:Int)+1) = ((k+1:Nat):Int):=(by rw [wrap_i64] <;> omega);simp [-qcW,XG,r0,r1,r5,r6,r7,r8,r9,r11,r13,r15,r16,r17,r18,ct,hwt,XB,jX,c4,c6];refine ⟨k+1,by omega,by omega,?_⟩;unfold qa2;simp [RSt.A,RSt.B,Sh4];exact ⟨_,_,_,⟨rfl,rfl,rfl⟩,.inr ⟨Vg,by rw [hn9,hk9],rfl⟩,rfl,rfl,rfl,rfl,rfl,rfl,rfl,rfl,rfl,rfl,rfl,rfl,rfl⟩
     ·have XB:¬ (k:Int) < (tn:Int):=(by omega);simp [-qcW,-VR,XG,r0,r1,r5,r6,r7,r8,r13,r15,r16,r17,r18,ct,hwt,XB,e2,e3,e4,e5,e6,Kq];refine ⟨i+1,by omega,by omega,⟨ep',la',its',mk'⟩,hI'.more (by omega),?_⟩;unfold XR;simp [RSt.A,RSt.B,XM];exact ⟨_,_,_,⟨nl'⟩,QA,⟨rfl,rfl,rfl,rfl⟩,.inr ⟨Vg,by rw [hn9,hk9],rfl⟩,rfl,rfl,rfl,rfl,rfl,rfl⟩
   ·rcases vV with ⟨Q8,rfl,rfl⟩ | ⟨Vg,n3,k3,Q9,vl,rfl,rfl⟩
    ·exact absurd Q8 (qm6 hI qt hh)
    ·simp [-VR,v6,p0,p1,p5,p6,p7,p8,qg,qk,qM,hc,KW,c1,c2,c3,c4,c5,e0,e2,e3,e4,hbq];refine Run.loopThen (fun (k:Nat) e H=>k≤tn∧qa2 4 24 ⟨ep',la',its',mk'⟩ nl' [.int .i64 200,.int .u64 ep',.int .u64 la',.vsl false [] 0] [.str zQ,.int .u64 qe,.int .u64 la',(.vsl qo.nil (qd qo.l) qo.l.length)] (fun e'=>qf e' 0 = some (.vsl false (qh ds.l) ds.l.length)∧qf e' 1 = some (.int .i64 times)∧qf e' 5 = some (.bool true)∧qf e' 6 = some (.optr 0 4 0)∧qf e' 7 = some (.optr 1 4 0)∧qf e' 8 = some (.int .i64 i)∧qf e' 9 = some (.vsl m.nil (qd m.l) m.l.length)∧qf e' 11 = some (.optr 2 4 0)∧qf e' 13 = some (.optr 3 4 0)∧qf e' 15 = some (.vsl gv.nil (qh its') its'.length)∧qf e' 16 = some (.int .u64 la')∧qf e' 17 = some (.vsl mk'.nil (qh mk'.l) mk'.l.length)∧qf e' 18 = some (.int .i64 k)) e H) (fun k=>tn - k) 0 ?_ ?_
     ·refine ⟨jk _,?_⟩;unfold qa2;simp [RSt.A,RSt.B,Sh4];exact ⟨_,_,_,⟨rfl,rfl,rfl⟩,.inr ⟨Vg,by rw [Q9,vl],rfl⟩,rfl,rfl,rfl,rfl,rfl,rfl,rfl,rfl,rfl,rfl,rfl,rfl,rfl⟩
     rintro k eE H2 ⟨hk,e3',d3,T3,XG,hS2,r0,r1,r5,r6,r7,r8,r9,r11,r13,r15,r16,r17,r18⟩;rcases hS2 with ⟨hs9,rfl,rfl⟩ | ⟨hne9,n9,k9,hn9,hk9,rfl,rfl⟩
     ·exact absurd hs9 Vg
     obtain rfl:n9 = n3:=by rw [hn9,Q9]
     obtain rfl:k9 = k3:=by rw [hk9,vl]
     simp only [RSt.A,RSt.B] at XG;by_cases KY:k < tn
     ·have XB:(k:Int) < (tn:Int):=(by omega);have jX:IntKind.i64.wrap ((k:Int)+1) = ((k+1:Nat):Int):=(by rw [wrap_i64] <;> omega);simp [-qcW,XG,r0,r1,r5,r6,r7,r8,r9,r11,r13,r15,r16,r17,r18,ct,hwt,XB,jX,c4,c6];refine ⟨k+1,by omega,by omega,?_⟩;unfold qa2;simp [RSt.A,RSt.B,Sh4];exact ⟨_,_,_,⟨rfl,rfl,rfl⟩,.inr ⟨Vg,by rw [hn9,hk9],rfl⟩,rfl,rfl,rfl,rfl,rfl,rfl,rfl,rfl,rfl,rfl,rfl,rfl,rfl⟩
     ·have XB:¬ (k:Int) < (tn:Int):=(by omega);simp [-qcW,-VR,XG,r0,r1,r5,r6,r7,r8,r13,r15,r16,r17,r18,ct,hwt,XB,e2,e3,e4,e5,e6,Kq];refine ⟨i+1,by omega,by omega,⟨ep',la',its',mk'⟩,hI'.more (by omega),?_⟩;unfold XR;simp [RSt.A,RSt.B,XM];exact ⟨_,_,_,⟨nl'⟩,QA,⟨rfl,rfl,rfl,rfl⟩,.inr ⟨Vg,by rw [hn9,hk9],rfl⟩,rfl,rfl,rfl,rfl,rfl,rfl⟩
end Go.Ev.S
namespace Go.Ev
open Go Go.Proofs Go.ChangeShapes Go.WideShapes Go.ChangeAt Go.RowKit
theorem qxT {H:Type} {enc:TypeId × Value→H} {a:Assume} {C:Checked} {os:Os} {f:FuncId} {fn:Func} {s:ChangeSpec} {conds:List PathCond} {apart fresh handsOn again:Bool} {X:World→Array Value→Prop}
  (hX:∀ (w w':World) (args:Array Value),w.heap = w'.heap→X w args→X w' args)
  (own:ownKnob C.prog.godebug = none) (started:os.Started) (noInit:C.prog.inits.idxOf? f = none) (hfn:C.prog.funcs[f]? = some fn)
  (witness:∃ (w:World) (tape:Tape) (i:Input),w.os = os∧(w.forCall tape i).Shaped C.prog∧i.vars = []∧Input.okWide C.prog (w.forCall tape i) .any w.heap.size f i ∧
   ((s.pre enc C.prog fn conds apart (w.forCall tape i).memory i.args∧X (w.forCall tape i).memory i.args)∧sizedMet enc C.prog fn (OpenSpec.ofChange s) apart (w.forCall tape i).memory i.args)∧a.holds C.prog (lone (Frame.enter C.prog f i.args .normal) [] (w.forCall tape i)))
  (contract:∀ (W:World) (base:Nat) (args:Array Value) (ds gs:List (DataW H)) (before:List MemPlace),
   (∀ (j:Nat) t v,fn.params[j]? = some t→args[j]? = some v→Value.okWide C.prog W .any base t v) →
   DataW.Whole enc C.prog fn.params.toList s.vars apart W args.toList ds gs before→X W args→W.ShapedOpen C.prog →
   Calls C.prog f args W fun e W'=>∃ v,e = .returned v∧s.post enc C.prog fn apart fresh handsOn again W args v W') :
  ReturnsInHanded a C os f .any (fun w args=>(s.pre enc C.prog fn conds apart w args∧X w args)∧sizedMet enc C.prog fn (OpenSpec.ofChange s) apart w args) (s.post enc C.prog fn apart fresh handsOn again):=by
 refine returnsInHanded_of_calls own started noInit witness ?_;intro w tape i _ zY _ hok hpre _;obtain ⟨_,_,_,fn',hfn',_,_,_,_,hval⟩:=hok;have e:fn' = fn:=qbC (hfn'.symm.trans hfn);subst e;obtain ⟨⟨⟨ds,gs,before,hw,hc⟩,hx⟩,hz⟩:=hpre;have hw':=DataW.Whole.of_heap (w':=w.forCall tape i) (by rfl) hw;refine (contract (w.forCall tape i) w.heap.size i.args ds gs before hval hw' (hX _ _ _ (by rfl) hx) zY).mono fun e W' ⟨v,he,hp⟩=>?_;subst he;exact ChangeSpec.post_blind hp
end Go.Ev
