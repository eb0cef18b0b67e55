import Derived.Test.YtkfojmihnjnhfaaGreatDoorC7
import Derived.Handed
import Derived.LaidMore
namespace Go.Ev.S
open Go Go.Proofs Go.Ev
theorem qcI [MaxL] (p:List UInt8) (hp:p = jr∨p = zY) (e n:Int) (he:qw e) (hn:qw n) (o:Sl UInt8) (ho:o.l.length≤65536):∃ m:Sl UInt8,m.l.length≤70000∧call cx 33 [.agg [.str p,.int .u64 e,.int .u64 n,(.vsl o.nil (qd o.l) o.l.length)]] [] = some ((.vsl m.nil (qd m.l) m.l.length),[]):=by
 have h1:=qmK ⟨p,e,n,o⟩ he hn (by show p.length≤100;rcases hp with rfl | rfl <;> decide) (by show o.l.length≤_;omega);rw [qnB p hp e n o ho] at h1;have hl:=qmI p hp e.toNat n.toNat o.l;refine ⟨.of (j9 p ++ (vg e.toNat n.toNat o.l.length ++ o.l)),by rw [Sl.of_l];omega,?_⟩;simpa [Rq.cells] using h1
def HdQ (e:qp):Prop:= ∃ (E N:Int) (p:List UInt8) (x:Sl UInt8),qw E∧qw N∧(p = jr∨p = zY)∧x.l.length≤65536∧qf e 1 = some (.optr 0 4 0)∧qf e 2 = some (.optr 1 7 0)∧qf e 5 = some (.int .u64 E)∧qf e 6 = some (.int .u64 N)∧qf e 7 = some (.vsl x.nil (qd x.l) x.l.length)∧qf e 8 = some (.str p)
set_option maxHeartbeats 16000000 in
set_option maxRecDepth 8000 in
theorem qtq [MaxL] (kd ep nm:Int) (n1:Bool) (z1:List Int) (h1:n1 = true→z1 = []) (hz1:z1.length≤60) (n2:Bool) (z2:List Int) (h2:n2 = true→z2 = []) (hz2:z2.length≤4) (y:UInt8) (b:Sl UInt8) (hb3:b.l.length≤300) (ep0 la0:Int) (hep:qw ep0) (mk:Sl Mk) (hR:V2 mk.l) (hRn:mk.l.length≤1000000) (dI:D) (jL:∀ n,closed n dI = true) (hfI:idFree dI = true) (hmv:mv [0] 2 dI = dI) :
  ∃ q,call cx 11 [.agg [.int .i64 kd,.int .i64 ep,.int .i64 nm,.vsl n1 (zL .i64 z1) z1.length,.vsl n2 (zL .i64 z2) z2.length,.int .u8 y.toNat,(.vsl b.nil (qd b.l) b.l.length)],.optr 0 4 0] [some [.int .u64 ep0,.int .u64 la0,(.vsl mk.nil (qh mk.l) mk.l.length),dI]] = some q∧∃ o:Sl UInt8,o.l.length≤70000∧q = ((.vsl o.nil (qd o.l) o.l.length),[some [.int .u64 ep0,.int .u64 la0,(.vsl mk.nil (qh mk.l) mk.l.length),dI]]):=by
 refine vf (X:=cx) (f:=11) (args:=[.agg [.int .i64 kd,.int .i64 ep,.int .i64 nm,.vsl n1 (zL .i64 z1) z1.length,.vsl n2 (zL .i64 z2) z2.length,.int .u8 y.toNat,(.vsl b.nil (qd b.l) b.l.length)],.optr 0 4 0]) (H:=[some [.int .u64 ep0,.int .u64 la0,(.vsl mk.nil (qh mk.l) mk.l.length),dI]]) (fun q=>∃ o:Sl UInt8,o.l.length≤70000∧q = ((.vsl o.nil (qd o.l) o.l.length),[some [.int .u64 ep0,.int .u64 la0,(.vsl mk.nil (qh mk.l) mk.l.length),dI]])) Tryz.func11 rfl ⟨rfl,rfl⟩ ?_;obtain ⟨a,ha,c1⟩:=qbj ep 3 (by omega) (by omega);obtain ⟨c,hc,c2⟩:=qbj nm 4 (by omega) (by omega);obtain ⟨k,hk,c3⟩:=qbj kd 9 (by omega) (by omega);replace c1:call cx 24 [.int .i64 ep,.int .i64 3] [] = some (.int .i64 a,[]):=c1;replace c2:call cx 24 [.int .i64 nm,.int .i64 4] [] = some (.int .i64 c,[]):=c2;replace c3:call cx 24 [.int .i64 kd,.int .i64 9] [] = some (.int .i64 k,[]):=c3;have wa:IntKind.u64.wrap (a:Int) = (a:Int):=by rw [qK] <;> omega
 have wc:IntKind.u64.wrap (c:Int) = (c:Int):=by rw [qK] <;> omega
 obtain ⟨E0,hE0⟩:∃ E,IntKind.u64.wrap (ep0+(a:Int)) = E:=⟨_,rfl⟩;obtain ⟨N0,hN0⟩:∃ N,IntKind.u64.wrap (la0+(c:Int)) = N:=⟨_,rfl⟩;obtain ⟨E1,hE1⟩:∃ E,IntKind.u64.wrap (ep0 - 1) = E:=⟨_,rfl⟩;obtain ⟨N1,hN1⟩:∃ N,IntKind.u64.wrap (la0+1) = N:=⟨_,rfl⟩;have uE0:qw E0:=hE0 ▸ VV _;have uN0:qw N0:=hN0 ▸ VV _;have uE1:qw E1:=hE1 ▸ VV _;have uN1:qw N1:=hN1 ▸ VV _;obtain ⟨m5,hm5⟩:∃ m,ep.tmod 5 = m:=⟨_,rfl⟩;obtain ⟨m3,hm3⟩:∃ m,ep.tmod 3 = m:=⟨_,rfl⟩;obtain ⟨m4,hm4⟩:∃ m,kd.tmod 4 = m:=⟨_,rfl⟩;obtain ⟨n3,hn3⟩:∃ m,nm.tmod 3 = m:=⟨_,rfl⟩;obtain ⟨q,hq,o,ho,rfl⟩:=qwh kd ep nm n1 z1 h1 hz1 n2 z2 h2 hz2 y b ep0 la0 mk hR hRn dI jL;have hh:(jr == [47,98,97,116,99,104]) = false:=by decide
 have hb:(zY == [47,98,97,116,99,104]) = true:=by decide
 have h0:m5 = 0∧0 < ep0∨m5 = 0∧¬ 0 < ep0∨¬ m5 = 0∧True:=by
  by_cases h:m5 = 0
  ·by_cases h':0 < ep0
   ·exact .inl ⟨h,h'⟩
   ·exact .inr (.inl ⟨h,h'⟩)
  ·exact .inr (.inr ⟨h,trivial⟩)
 rcases h0 with ⟨d1,d2⟩ | ⟨d1,d2⟩ | ⟨d1,d2⟩
 all_goals
  simp [-qfG,Tryz.f11,c1,c2,c3,wa,wc,hE0,hN0,hE1,hm5,d1,d2];refine Run.mono (R:=fun ex e' H'=>(ex = .ret∧qck cx true [ResultVar.tmp 4] 1 (fun q=>∃ o:Sl UInt8,o.l.length≤70000∧q = ((.vsl o.nil (qd o.l) o.l.length),[some [.int .u64 ep0,.int .u64 la0,(.vsl mk.nil (qh mk.l) mk.l.length),dI]])) .ret e' H')∨(ex = .normal∧H' = [some [.int .u64 ep0,.int .u64 la0,(.vsl mk.nil (qh mk.l) mk.l.length),dI],some [.int .i64 kd,.int .i64 ep,.int .i64 nm,.vsl n1 (zL .i64 z1) z1.length,.vsl n2 (zL .i64 z2) z2.length,.int .u8 y.toNat,(.vsl b.nil (qd b.l) b.l.length)]]∧HdQ e')) ?_ ?_
  ·by_cases k0:k = 0
   ·simp [jL,k0];exact ⟨_,_,⟨rfl,rfl⟩,b,by omega,rfl,rfl⟩
   by_cases k12:k = 1∨k = 2
   ·by_cases m0:m4 = 0
    ·rcases k12 with rfl | rfl
     ·simp [hm4,m0];exact ⟨_,_,_,b,by assumption,by assumption,.inl rfl,by omega,rfl,rfl,rfl,rfl,rfl,rfl⟩
     ·simp [hm4,m0];exact ⟨_,_,_,b,by assumption,by assumption,.inl rfl,by omega,rfl,rfl,rfl,rfl,rfl,rfl⟩
    ·rcases k12 with rfl | rfl
     ·simp [hm4,m0];exact ⟨_,_,_,.none,by assumption,by assumption,.inl rfl,by simp,rfl,rfl,rfl,rfl,rfl,rfl⟩
     ·simp [hm4,m0];exact ⟨_,_,_,.none,by assumption,by assumption,.inl rfl,by simp,rfl,rfl,rfl,rfl,rfl,rfl⟩
   ·have k1:¬ k = 1:=fun h=>k12 (.inl h);have k2:¬ k = 2:=fun h=>k12 (.inr h);have k0':¬ (k:Int) = 0:=(by omega);have k1':¬ (k:Int) = 1:=(by omega);have k2':¬ (k:Int) = 2:=(by omega);simp [hfI,k0,k1',k2',hq,hmv];exact ⟨_,_,_,o,by assumption,by assumption,.inr rfl,ho,rfl,rfl,rfl,rfl,rfl,rfl⟩
  rintro ex e' H' (⟨rfl,hf⟩ | ⟨rfl,rfl,E,N,p,x,uE,uN,hp,hx,l1,l2,l5,l6,l7,l8⟩)
  ·simp only [qcC,Jd];exact hf
  ·rcases hp with rfl | rfl
   ·by_cases q1:0 < n3
    ·obtain ⟨m,hm,c4⟩:=qcI jr (.inl rfl) E N1 uE uN1 x hx;by_cases q2:0 < m3
     ·simp [l1,l2,l5,l6,l7,l8,hn3,hm3,q1,q2,hN1,jL,c4,hh];exact ⟨m,hm,rfl,rfl,rfl⟩
     ·simp [l1,l2,l5,l6,l7,l8,hn3,hm3,q1,q2,hN1,jL,c4];exact ⟨m,hm,rfl,rfl,rfl⟩
    ·obtain ⟨m,hm,c4⟩:=qcI jr (.inl rfl) E N uE uN x hx;by_cases q2:0 < m3
     ·simp [l1,l2,l5,l6,l7,l8,hn3,hm3,q1,q2,jL,c4,hh];exact ⟨m,hm,rfl,rfl,rfl⟩
     ·simp [l1,l2,l5,l6,l7,l8,hn3,hm3,q1,q2,jL,c4];exact ⟨m,hm,rfl,rfl,rfl⟩
   ·obtain ⟨N2,uN2,hN2⟩:∃ N2,qw N2∧(if 0 < n3 then N1 else N) = N2:=⟨_,by split <;> assumption,rfl⟩;obtain ⟨E2,uE2,hE2⟩:∃ E2,qw E2∧(if 0 < m3 then ep0 else E) = E2:=⟨_,by split <;> assumption,rfl⟩;obtain ⟨m,hm,c4⟩:=qcI zY (.inr rfl) E2 N2 uE2 uN2 x hx;by_cases q1:0 < n3
    ·rw [if_pos q1] at hN2;by_cases q2:0 < m3
     ·rw [if_pos q2] at hE2;simp [l1,l2,l5,l6,l7,l8,hn3,hm3,q1,q2,hN1,jL,hN2,hE2,c4,hb];exact ⟨m,hm,rfl,rfl,rfl⟩
     ·rw [if_neg q2] at hE2;simp [l1,l2,l5,l6,l7,l8,hn3,hm3,q1,q2,hN1,jL,hN2,hE2,c4];exact ⟨m,hm,rfl,rfl,rfl⟩
    ·rw [if_neg q1] at hN2;by_cases q2:0 < m3
     ·rw [if_pos q2] at hE2;simp [l1,l2,l5,l6,l7,l8,hn3,hm3,q1,q2,jL,hN2,hE2,c4,hb];exact ⟨m,hm,rfl,rfl,rfl⟩
     ·rw [if_neg q2] at hE2;simp [l1,l2,l5,l6,l7,l8,hn3,hm3,q1,q2,jL,hN2,hE2,c4];exact ⟨m,hm,rfl,rfl,rfl⟩
theorem qoH [MaxL]:call cx 9 [] [] = some (.optr 0 4 0,[some [.int .u64 0,.int .u64 0,.vsl true [] 0,.vsl true [] 0]]):=by
 refine qq Tryz.func9 rfl ⟨rfl,rfl⟩ ?_;simp [Tryz.f9]
set_option maxRecDepth 100000 in
theorem qtY [MaxL]:call cx 8 [] [] = some (.bool true,[]):=call_some.2 ⟨900,by kernel_rfl⟩
theorem qf8 [MaxL] (s:RSt) (d:D) (T:qi) (zA:ZY s.its d T):call cx 18 [.optr 0 4 0] (some (s.A d) :: T) = some (.int .u64 s.ep,some (s.A d) :: T):=by
 obtain ⟨ep,la,its,mk⟩:=s;simp only [RSt.A] at zA ⊢;rcases zA with ⟨rfl,rfl,rfl⟩ | ⟨qr,n1,k1,zx,hk1,rfl,rfl⟩
 ·refine qq Tryz.func18 rfl ⟨rfl,rfl⟩ ?_;simp [Tryz.f18]
 ·refine qq Tryz.func18 rfl ⟨rfl,rfl⟩ ?_;simp [Tryz.f18]
theorem qfz [MaxL] (s:RSt) (d:D) (T:qi) (zA:ZY s.its d T):call cx 23 [.optr 0 4 0] (some (s.A d) :: T) = some (.int .u64 s.la,some (s.A d) :: T):=by
 obtain ⟨ep,la,its,mk⟩:=s;simp only [RSt.A] at zA ⊢;rcases zA with ⟨rfl,rfl,rfl⟩ | ⟨qr,n1,k1,zx,hk1,rfl,rfl⟩
 ·refine qq Tryz.func23 rfl ⟨rfl,rfl⟩ ?_;simp [Tryz.f23]
 ·refine qq Tryz.func23 rfl ⟨rfl,rfl⟩ ?_;simp [Tryz.f23]
theorem qfw [MaxL] (s:RSt) (hm:s.mks.l.length≤1000000) (d:D) (T:qi) (zA:ZY s.its d T):call cx 17 [.optr 0 4 0] (some (s.A d) :: T) = some ((.vsl s.mks.nil (qh s.mks.l) s.mks.l.length),some (s.A d) :: T):=by
 have h1:=qhy s.mks (by omega);obtain ⟨ep,la,its,mk⟩:=s;simp only [RSt.A] at zA h1 hm ⊢;have ht:List.take (mk.l.length * 19) (qh mk.l) = qh mk.l:=List.take_of_length_le (by simp);rcases zA with ⟨rfl,rfl,rfl⟩ | ⟨qr,n1,k1,zx,hk1,rfl,rfl⟩
 ·refine qq Tryz.func17 rfl ⟨rfl,rfl⟩ ?_;obtain ⟨nil,ml,qJ⟩:=mk;simp only at h1 ht;cases nil with
  | true =>
   have:=qJ rfl;subst this;rw [if_pos rfl] at h1;simp at h1;simp [Tryz.f17,h1]
  | false =>
   rw [if_neg (by decide)] at h1;simp [Tryz.f17,h1,ht]
 ·refine qq Tryz.func17 rfl ⟨rfl,rfl⟩ ?_;obtain ⟨nil,ml,qJ⟩:=mk;simp only at h1 ht;cases nil with
  | true =>
   have:=qJ rfl;subst this;rw [if_pos rfl] at h1;simp at h1;simp [Tryz.f17,h1]
  | false =>
   rw [if_neg (by decide)] at h1;simp [Tryz.f17,h1,ht]
theorem qnX [MaxL] (x:Sl Pr) (hx:x.l.length < 1000000):call cx 41 [(.vsl x.nil (qh x.l) x.l.length)] [] = some ((.vsl x.nil (qh x.l) x.l.length),[]):=by
 obtain ⟨nil,l,qJ⟩:=x;simp only at hx ⊢;have ko:l.length * 32≤140737488355328:=by omega
 have vh:l.length≤140737488355328:=by omega
 have ht:List.take (l.length * 2) (qh l) = qh l:=List.take_of_length_le (by simp);cases nil with
 | true =>
  have:=qJ rfl;subst this;refine qq Tryz.func41 rfl ⟨rfl,rfl⟩ ?_;simp [Tryz.f41]
 | false =>
  refine qq Tryz.func41 rfl ⟨rfl,rfl⟩ ?_;simp [Tryz.f41,ko,vh,qB,ht]
theorem qtc [MaxL] (a:List D) (ha:(∀ x,x∈a→closed 2 x = true) = True) (l:List It) (n k:Nat) (hn:n = l.length * 39) (hk:k = l.length) (hl:l.length≤1000000000):call cx 40 [.osl 1 n 0 k 39] [some a,some (qh l)] = some (.osl 2 n 0 k 39,[some a,some (qh l),some (qh l)]):=by
 subst hn;subst hk;have ko:l.length * 104≤140737488355328:=by omega
 have vh:l.length≤140737488355328:=by omega
 have ht:List.take (l.length * 39) (qh l) = qh l:=List.take_of_length_le (by simp);refine qq Tryz.func40 rfl ⟨rfl,rfl⟩ ?_;simp [Tryz.f40,ko,vh,qB,ht,ha]
theorem qtd [MaxL] (a:List D) (ha:(∀ x,x∈a→closed 1 x = true) = True):call cx 40 [.vsl true [] 0] [some a] = some (.vsl true [] 0,[some a]):=by
 refine qq Tryz.func40 rfl ⟨rfl,rfl⟩ ?_;simp [Tryz.f40,ha]
set_option maxHeartbeats 4000000 in
theorem qf1 [MaxL] (s:RSt) (hL:s.its.length≤1000000000) (hf:∀ x∈s.its,x.rc.fields.l.length < 1000000) (d:D) (T:qi) (zA:ZY s.its d T):call cx 14 [.optr 0 4 0] (some (s.A d) :: T) = some ((.vsl (Sl.grown s.its).nil (qh (Sl.grown s.its).l) (Sl.grown s.its).l.length),some (s.A d) :: T):=by
 obtain ⟨ep,la,its,mk⟩:=s;simp only [RSt.A] at zA hL hf ⊢;rcases zA with ⟨rfl,rfl,rfl⟩ | ⟨qr,n1,k1,zx,hk1,rfl,rfl⟩
 ·have h1:=qtd [.int .u64 ep,.int .u64 la,.vsl true [] 0,(.vsl mk.nil (qh mk.l) mk.l.length)] (eq_true (by simp));refine qq Tryz.func14 rfl ⟨rfl,rfl⟩ ?_;simp [Tryz.f14,h1];refine qcD ?_;simp;rfl
 ·have h1:=qtc [.int .u64 ep,.int .u64 la,.osl 1 n1 0 k1 39,(.vsl mk.nil (qh mk.l) mk.l.length)] (eq_true (by simp)) its n1 k1 zx hk1 hL;have qJ:(Sl.grown its).nil = false:=List.isEmpty_eq_false_iff.2 qr;have hle:(qh its).length = n1:=by rw [It.el,zx]
  have qV:k1 * 39 = n1:=by rw [hk1,zx]
  have ht:List.take n1 (qh its) = qh its:=List.take_of_length_le (by omega);refine qq Tryz.func14 rfl ⟨rfl,rfl⟩ ?_;simp [Tryz.f14,h1];refine Run.loopThen (fun (i:Nat) e H=>i≤k1∧H = [some [.int .u64 ep,.int .u64 la,.osl 1 n1 0 k1 39,(.vsl mk.nil (qh mk.l) mk.l.length)],some (qh its),some (qh its)]∧qf e 3 = some (.osl 2 n1 0 k1 39)∧qf e 11 = some (.int .i64 k1)∧qf e 12 = some (.int .i64 i)) (fun i=>k1 - i) 0 ?_ ?_
  ·simp
  rintro i e H ⟨hi,rfl,k3,k11,k12⟩;by_cases qg:i < k1
  ·have qk:(i:Int) < (k1:Int):=(by omega);have hlL:i < its.length:=(by omega);have hw:IntKind.i64.wrap ((i:Int)+1) = ((i+1:Nat):Int):=(by rw [wrap_i64] <;> omega);have hx:=hf its[i] (List.getElem_mem hlL);have h2:=qnX its[i].rc.fields hx
   have jK:List.drop (i * 39+38) (qh its) = (.vsl (its[i].rc.fields).nil (qh (its[i].rc.fields).l) (its[i].rc.fields).l.length) :: qh (its.drop (i+1)):=by
    rw [← List.drop_drop,It.ea hlL,List.drop_append_of_le_length (by rw [It.cl];omega),It.d38];rfl
   have hset:qA (qh its) (i * 39+38) [(.vsl (its[i].rc.fields).nil (qh (its[i].rc.fields).l) (its[i].rc.fields).l.length)] = qh its:=by
    unfold qA
    have e1:List.drop (i * 39+38+([(.vsl (its[i].rc.fields).nil (qh (its[i].rc.fields).l) (its[i].rc.fields).l.length)]:List D).length) (qh its) = qh (its.drop (i+1)):=by
     show List.drop (i * 39+38+1) _ = _;rw [← List.drop_drop,jK];rfl
    rw [e1];have e2:([(.vsl (its[i].rc.fields).nil (qh (its[i].rc.fields).l) (its[i].rc.fields).l.length)]:List D) ++ qh (its.drop (i+1)) = List.drop (i * 39+38) (qh its):=(by rw [jK];rfl);rw [List.append_assoc,e2,List.take_append_drop]
   have hb:i * 39+38+1≤n1:=(by omega);generalize its[i] = x at *;simp [k3,k11,k12,qk,hw,h2,jK,hset,hle,hb];exact ⟨i+1,by omega,by omega,by omega⟩
  ·have qk:¬ (i:Int) < (k1:Int):=(by omega);simp [k3,k11,k12,qk,hle,qV,ht,qJ,hk1.symm]
def JK:List It→List It→Bool
 | [],[]=>true
 | x :: xs,y :: ys=>X6 x y && JK xs ys
 | _,_=>false
theorem qfA:∀ {x y:List It},JK x y = true→x.length = y.length
 | [],[],_=>rfl
 | _ :: xs,_ :: ys,h=>by
  rw [JK,Bool.and_eq_true] at h;rw [List.length_cons,List.length_cons,qfA h.2]
 | [],_ :: _,h=>by cases h
 | _ :: _,[],h=>by cases h
set_option maxHeartbeats 2000000 in
theorem qfS [MaxL] (a b:Sl It) (ha:∀ x∈a.l,x.rc.fields.l.length < 1000000) (hb:∀ x∈b.l,x.rc.fields.l.length < 1000000) (han:a.l.length < 1000000):call cx 15 [(.vsl a.nil (qh a.l) a.l.length),(.vsl b.nil (qh b.l) b.l.length)] [] = some (.bool (JK a.l b.l),[]):=by
 refine qq Tryz.func15 rfl ⟨rfl,rfl⟩ ?_;by_cases hl:a.l.length = b.l.length
 case neg =>
  have hf:JK a.l b.l = false:=by
   cases h:JK a.l b.l with
   | false=>rfl
   | true=>exact absurd (qfA h) hl
  have vM:¬ (a.l.length:Int) = (b.l.length:Int):=by omega
  simp [Tryz.f15,vM,hf]
 obtain ⟨r,hr⟩:∃ r,JK a.l b.l = r:=⟨_,rfl⟩;rw [hr];simp [Tryz.f15,hl];refine Run.loopThen (fun (i:Nat) e H'=>i≤b.l.length∧JK (a.l.drop i) (b.l.drop i) = r∧qf e 0 = some (.vsl a.nil (qh a.l) a.l.length)∧qf e 1 = some (.vsl b.nil (qh b.l) b.l.length)∧qf e 5 = some (.int .i64 (i:Nat))∧H' = []) (fun i=>b.l.length - i) 0 ⟨Nat.zero_le _,by simpa using hr,by simp [hl],by simp,by simp,rfl⟩ ?_;rintro i e H' ⟨hi,hR,k0,k1,k5,rfl⟩;by_cases qg:i < b.l.length
 ·have qk:(i:Int) < (b.l.length:Int):=by omega
  have hla:i < a.l.length:=by omega
  have hw:IntKind.i64.wrap ((i:Int)+1) = ((i+1:Nat):Int):=by rw [wrap_i64] <;> omega
  have hs:=qmT a.l[i] b.l[i] (ha _ (List.getElem_mem hla)) (hb _ (List.getElem_mem qg));rw [List.drop_eq_getElem_cons hla,List.drop_eq_getElem_cons qg,JK] at hR;have jK:List.drop (i * 39) (qh a.l) = Enc.cells a.l[i] ++ qh (a.l.drop (i+1)):=It.ea hla;have heb:List.drop (i * 39) (qh b.l) = Enc.cells b.l[i] ++ qh (b.l.drop (i+1)):=It.ea qg;have n1:=Sl.nn hla;have n2:=Sl.nn qg;generalize a.l[i] = x at *;generalize b.l[i] = y at *;cases hx:X6 x y with
  | true =>
   rw [hx] at hs hR;simp [-It.ea,k0,k1,k5,hl,qk,n1,n2,jK,heb,hs,hw];exact ⟨i+1,by omega,by omega,by simpa using hR,by omega⟩
  | false =>
   rw [hx] at hs hR;simp [-It.ea,k0,k1,k5,hl,qk,n1,n2,jK,heb,hs,← hR]
 ·have hi2:i = b.l.length:=by omega
  rw [List.drop_eq_nil_of_le (by omega),List.drop_eq_nil_of_le (by omega)] at hR;replace hR:true = r:=hR;subst hR;simp [k0,k1,k5,hl,qg]
def YT (l:List Mk) (id:ID):Option Mk:=l.find? fun m=>m.id == id
theorem qtD (l:List Mk) (id:ID):jd l id = (YT l id).getD ⟨id,0,0,0⟩:=rfl
theorem qtR (a:Mk) (l:List Mk) (id:ID):YT (a :: l) id = if a.id = id then some a else YT l id:=by
 unfold YT;rw [List.find?_cons];by_cases h:a.id = id
 ·simp [h]
 ·simp [h,beq_eq_false_iff_ne.2 h]
theorem qvu {a b:ID} (h:qt a.l b.l < 0):a≠b:=by
 rintro rfl;rw [XU] at h;omega
theorem qtQ {l:List Mk} (hr:zN l = true) {x:Mk} (hx:x∈l):YT l x.id = some x:=by
 induction l with
 | nil=>cases hx
 | cons a l ih =>
  obtain ⟨r1,r2⟩:=rises_cons.1 hr;rw [qtR];rcases List.mem_cons.1 hx with rfl | h
  ·simp
  ·rw [if_neg (qvu (r1 x h)),ih r2 h]
def mx:Option Mk→Option Mk→Option Mk
 | none,o=>o
 | some x,none=>some x
 | some x,some y=>if y.seq≤x.seq then some x else some y
def YS (x:It):Int:=if x.gap then x.fr else x.rc.seq
def Xi (x:It):Int:=if x.gap then x.til else x.rc.seq
def qkz (L:List It):Prop:= ∀ i j (hi:i < j) (hj:j < L.length),(L[i]'(by omega)).id = L[j].id→Xi (L[i]'(by omega)) < YS L[j]
structure SeqR (L:List It):Prop where
 rise:qkz L
 num:∀ x∈L,∃ j,j < 3∧x.id = Zd j∧1≤YS x∧YS x≤Xi x∧Xi x≤L.length * 6
structure GoodL (L:List It) (last:List Int):Prop where
 rise:qkz L
 num:∀ x∈L,∃ j,j < 3∧x.id = Zd j∧1≤YS x∧YS x≤Xi x∧∀ h:j < last.length,Xi x≤last[j]
end Go.Ev.S
namespace Go.Ev
open Go Go.Proofs
end Go.Ev
namespace Go.Ev
structure Lim where
 count:Int
 bytes:Int
 hard:Int
instance:Enc Lim:=⟨3,fun m=>[.int .i64 m.count,.int .i64 m.bytes,.int .i64 m.hard],fun _=>rfl,fun _=>rfl⟩
@[simp] theorem Lim.cells (m:Lim):Enc.cells m = [.int .i64 m.count,.int .i64 m.bytes,.int .i64 m.hard]:=rfl
structure BatS where
 items:List It
 fin:List Mk
 used:Nat
 bytes:Nat
def BatS.none:BatS:=⟨[],[],0,0⟩
section
variable (tc:List Mk→It→Int) (tl:List Mk→It→Bool→List Mk) (hd:List Pr→Bool) (sz:It→Nat) (lim:Lim)
def qkl (x:It):Bool:=x.gap || hd x.rc.fields.l
def qgW (x:It):Bool:=qkl hd x && (!x.gap && decide (lim.hard < (sz x:Int)))
def qdQ (x:It):Bool:=qkl hd x && !qgW hd sz lim x
def ql3 (s:BatS) (x:It):Bool:=qdQ hd sz lim x && (decide ((s.items.length:Int) = lim.count) || (decide (0 < s.items.length) && decide (lim.bytes < (s.bytes:Int)+(sz x:Int))))
def qiM (l:List It) (f:List Mk):List Mk:=l.foldl (fun f x=>tl f x (qgW hd sz lim x)) f
def qlr (l:List It):Nat:=(l.map sz).sum
structure BldIs (l:List It) (s r:BatS) (n:Nat):Prop where
 le:n≤l.length
 used:r.used = s.used+n
 items:r.items = s.items ++ (l.take n).filter (qdQ hd sz lim)
 bytes:r.bytes = s.bytes+qlr sz ((l.take n).filter (qdQ hd sz lim))
 fin:r.fin = qiM tl hd sz lim (l.take n) s.fin
 stop:∀ h:n < l.length,ql3 hd sz lim r l[n] = true∨tc r.fin l[n]≠0
 went:∀ k (_:k < n) (h:k < l.length),tc (qiM tl hd sz lim (l.take k) s.fin) l[k] = 0
end
end Go.Ev
namespace Go.Ev.S
open Go Go.Proofs Go.Ev
structure MarkI (f:List Mk) (S:List It):Prop where
 rises:zN f = true
 ids:∀ m∈f,∃ j,j < 3∧m.id = Zd j
 seq:∀ id,(jd f id).seq = 0∨∃ x∈S,x.id = id∧Xi x = (jd f id).seq
 last:∀ x∈S,Xi x≤(jd f x.id).seq
section
variable (hd:List Pr→Bool) (sz:It→Nat) (lim:Lim)
end
end Go.Ev.S
namespace Go.Ev.S
open Go Go.Proofs Go.Ev
structure Behind (m t:List Mk):Prop where
 right:jJ m = true
 ok:V2 m
 seq:∀ x∈m,1≤x.seq∧x.seq≤(jd t x.id).seq
theorem qtA {t:List Mk} (hr:zN t = true) {x:Mk} (hx:x∈t):jd t x.id = x:=by
 rw [qtD,qtQ hr hx];rfl
theorem qts {s:RSt} {n:Nat} (hI:RInv s n) (b:List UInt8):(∃ l,(kE s b).2.its = s.its ++ l)∧s.ep≤(kE s b).2.ep∧vS s.mks.l (kE s b).2.mks.l = true:=by
 have hrefl:vS s.mks.l s.mks.l = true:=List.all_eq_true.2 fun x hx=>by
  rw [qtA (qgk hI.right) hx,decide_eq_true_eq];exact Int.le_refl _
 have h0:(∃ l,s.its = s.its ++ l)∧s.ep≤s.ep∧vS s.mks.l s.mks.l = true:=⟨⟨[],by simp⟩,Int.le_refl _,hrefl⟩;unfold kE;by_cases hc:(vy b).2 = 0
 case neg =>
  rw [if_pos hc];exact h0
 rw [if_neg (fun h=>h hc)];obtain ⟨p,x,y,body,hp,hq,_,hx,hy,hl⟩:=qaY hc;rw [hq];unfold jI;split
 ·exact h0
 split
 ·split
  ·exact h0
  ·unfold J6;split
   ·rename_i qg;exact ⟨h0.1,by simp only at qg ⊢;omega,hrefl⟩
   ·exact h0
 ·rcases qkk s ⟨p,x,y,.of body⟩ (by simpa using hl) with ⟨h1,_⟩ | ⟨h1,_⟩ | ⟨l,m,t,hg,hf,zJ,zZ,_,_,h1⟩
  ·rw [h1];exact h0
  ·rw [h1];exact h0
  ·rw [h1];exact ⟨⟨l,rfl⟩,Int.le_refl _,zZ⟩
def DoI.Fit (d:DoI):Prop:=0≤d.byv∧d.byv < 256
theorem qir {n:Nat} {cs:List D} (h:vI Tryz.prog (n+1) 3 cs):∃ a:I6,cs = Enc.cells a∧qdC a.v:=by
 obtain ⟨x,rfl,w⟩:=qbF un3 h;exact ⟨⟨x⟩,rfl,w⟩
theorem qt1 {n:Nat} {cs:List D} (h:vI Tryz.prog (n+2+1) 36 cs):∃ d:DoI,cs = Enc.cells d∧DoI.Fit d:=by
 have h:=qtz (P:=Tryz.prog) (n:=n+2) (t:=36) Tryz.underlying36 h;simp only [qa0] at h;obtain ⟨a,b,rfl,-,ha,c,d,rfl,-,hc,e,f,rfl,-,he,g,k,rfl,-,hg,i,j,rfl,-,hi,l,m,rfl,-,hl,o,p,rfl,-,ho,rfl⟩:=h;obtain ⟨x1,rfl,w1⟩:=qbF un3 ha;obtain ⟨x2,rfl,w2⟩:=qbF un3 hc;obtain ⟨x3,rfl,w3⟩:=qbF un3 he;obtain ⟨s1,rfl,u1,u2⟩:=qdN (α:=I6) qeY (fun l=>qir) hg;obtain ⟨s2,rfl,u3,u4⟩:=qdN (α:=I6) qeY (fun l=>qir) hi;obtain ⟨y,rfl⟩:=qip un5 hl;obtain ⟨b,rfl,u5⟩:=qt0 qkS un5 ho;have hy:=UInt8.toNat_lt y;exact ⟨⟨x1,x2,x3,s1,s2,y.toNat,b⟩,by simp [DoI.cells],by unfold DoI.Fit;simp only;omega⟩
theorem quD (d:DoI) (hd:DoI.Fit d):∃ (kd ep nm:Int) (n1:Bool) (z1:List Int) (n2:Bool) (z2:List Int) (y:UInt8) (b:Sl UInt8),Enc.cells d = [.int .i64 kd,.int .i64 ep,.int .i64 nm,.vsl n1 (zL .i64 z1) z1.length,.vsl n2 (zL .i64 z2) z2.length,.int .u8 y.toNat,(.vsl b.nil (qd b.l) b.l.length)]∧(n1 = true→z1 = [])∧(n2 = true→z2 = []):=by
 refine ⟨d.kind,d.epoch,d.number,d.ln.nil,d.ln.l.map (·.v),d.ats.nil,d.ats.l.map (·.v),UInt8.ofNat d.byv.toNat,d.b,?_,fun h=>by rw [d.ln.h h];rfl,fun h=>by rw [d.ats.h h];rfl⟩;obtain ⟨h1,h2⟩:=hd;simp [DoI.cells,qu7];omega
theorem quC [MaxL] (kd ep nm:Int) (n1:Bool) (z1:List Int) (n2:Bool) (z2:List Int) (y:Int) (b:Sl UInt8):call cx 10 [.agg [.int .i64 kd,.int .i64 ep,.int .i64 nm,.vsl n1 (zL .i64 z1) z1.length,.vsl n2 (zL .i64 z2) z2.length,.int .u8 y,(.vsl b.nil (qd b.l) b.l.length)]] [] =
  some (.bool (decide (z1.length≤60) && (decide (b.l.length≤300) && decide (z2.length≤4))),[]):=by
 refine qq Tryz.func10 rfl ⟨rfl,rfl⟩ ?_;by_cases a1:z1.length≤60
 ·have a1':(z1.length:Int)≤60:=by omega
  by_cases a2:b.l.length≤300
  ·have a2':(b.l.length:Int)≤300:=(by omega);by_cases a3:z2.length≤4
   ·have a3':(z2.length:Int)≤4:=(by omega);simp [Tryz.f10,a1,a1',a2,a2',a3,a3']
   ·have a3':¬ (z2.length:Int)≤4:=(by omega);simp [Tryz.f10,a1,a1',a2,a2',a3,a3']
  ·have a2':¬ (b.l.length:Int)≤300:=(by omega);simp [Tryz.f10,a1,a1',a2,a2']
 ·have a1':¬ (z1.length:Int)≤60:=by omega
  simp [Tryz.f10,a1,a1']
theorem qcA:∀ l:List It,JK l l = true
 | []=>rfl
 | x :: l=>by
  show (X6 x x && JK l l) = true;rw [qcA l,Bool.and_true];unfold X6 qaN;simp
theorem qkc [MaxL] (s:RSt) (nl:Bool) (g:Sl It) (h:call cx 15 [.vsl nl (qh s.its) s.its.length,(.vsl g.nil (qh g.l) g.l.length)] [] = some (.bool true,[])):call cx 27 [.optr 0 4 0,(.vsl g.nil (qh g.l) g.l.length)] [some (s.B nl)] = some (.bool true,[some (s.B nl)]):=by
 refine qq Tryz.func27 rfl ⟨rfl,rfl⟩ ?_;simp [Tryz.f27,RSt.B,h]
theorem qtr {s s':RSt} {N:Nat} (hI:RInv s N) (qr:s.its≠[]) {b:List UInt8} {w:Sl UInt8} (h:kE s b = (w,s')):s'.its≠[]:=fun h0=>by
 obtain ⟨⟨l,hl⟩,_⟩:=qts hI b;rw [h] at hl;simp only at hl;rw [h0] at hl;exact qr (List.append_eq_nil_iff.1 hl.symm).1
def Sh2 (L:List It) (d:D) (T:qi):Prop:=(L = []∧d = .vsl true [] 0∧T = [])∨(L≠[]∧∃ n k,n = L.length * 39∧k = L.length∧d = .osl 2 n 0 k 39∧T = [some (qh L)])
structure NB where
 b:Bool
def qaz [MaxL] (F id:Nat) (s:RSt) (P:qp→Prop) (e:qp) (H:qi):Prop:= ∃ (e':qp) (d:D) (T:qi) (nl:NB),(nl.b = true→s.its = [])∧enter cx F 0 id e H = some (e',some (s.A d) :: some (s.B nl.b) :: T)∧Sh2 s.its d T∧P e'
theorem qfY [MaxL] {s:RSt} {N:Nat} (hI:RInv s N) (hN:N≤10000) (nl:Bool) (qQ:nl = true→s.its = []) (kd ep nm:Int) (n1:Bool) (z1:List Int) (h1:n1 = true→z1 = []) (hz1:z1.length≤60) (n2:Bool) (z2:List Int) (h2:n2 = true→z2 = []) (hz2:z2.length≤4) (y:UInt8) (b:Sl UInt8) (hb3:b.l.length≤300) (d:D) (T:qi) (zA:ZY s.its d T) :
  ∃ (m w:Sl UInt8) (nl':Bool) (s':RSt) (d':D) (T':qi),m.l.length≤70000∧kE s m.l = (w,s')∧RInv s' (N+64)∧(nl' = true→s'.its = [])∧ZY s'.its d' T' ∧
   call cx 11 [.agg [.int .i64 kd,.int .i64 ep,.int .i64 nm,.vsl n1 (zL .i64 z1) z1.length,.vsl n2 (zL .i64 z2) z2.length,.int .u8 y.toNat,(.vsl b.nil (qd b.l) b.l.length)],.optr 0 4 0] [some (s.B nl)] = some ((.vsl m.nil (qd m.l) m.l.length),[some (s.B nl)]) ∧
   call cx 12 [.optr 0 4 0,(.vsl m.nil (qd m.l) m.l.length)] (some (s.A d) :: T) = some ((.vsl w.nil (qd w.l) w.l.length),some (s'.A d') :: T') ∧
   call cx 13 [.optr 0 4 0,(.vsl m.nil (qd m.l) m.l.length)] [some (s.B nl)] = some ((.vsl w.nil (qd w.l) w.l.length),[some (s'.B nl')]):=by
 obtain ⟨q,c1,m,hm,rfl⟩:=qtq kd ep nm n1 z1 h1 hz1 n2 z2 h2 hz2 y b hb3 s.ep s.la hI.ep s.mks hI.ok (by have:=hI.len;omega) (.vsl nl (qh s.its) s.its.length) (by simp) (by simp) rfl;obtain ⟨r,c2,d',T',jN,rfl⟩:=qtu hI (by omega) d T zA m (by omega);obtain ⟨r,c3,nl',hn',rfl⟩:=quE hI (by omega) nl qQ m (by omega);have hI':=qtv hI m.l;obtain ⟨w,s',he⟩:∃ w s',kE s m.l = (w,s'):=⟨_,_,rfl⟩;rw [he] at c2 c3 jN hn' hI';exact ⟨m,w,nl',s',d',T',hm,he,hI',hn',jN,c1,c2,c3⟩
set_option maxHeartbeats 16000000 in
set_option maxRecDepth 10000 in
theorem qnS [MaxL] (ds:Sl DoI) (hds:∀ d∈ds.l,DoI.Fit d):call cx 5 [(.vsl ds.nil (qh ds.l) ds.l.length)] [] = some (.bool true,[]):=by
 have f0:=qtY;have fn:=qoH;refine qq Tryz.func5 rfl ⟨rfl,rfl⟩ ?_;by_cases h25:ds.l.length≤25
 case neg =>
  have h25':(25:Int) < (ds.l.length:Int):=by omega
  simp [Tryz.f5,f0,h25']
 have h25':¬ (25:Int) < (ds.l.length:Int):=by omega
 simp [Tryz.f5,f0,h25',fn];refine Run.loopThen (fun (q:Nat × RSt) e H=>q.1≤ds.l.length∧RInv q.2 (q.1 * 64)∧qaz 5 8 q.2 (fun e'=>qf e' 0 = some (.vsl ds.nil (qh ds.l) ds.l.length)∧qf e' 3 = some (.bool true)∧qf e' 4 = some (.optr 0 4 0)∧qf e' 5 = some (.optr 1 4 0)∧qf e' 6 = some (.int .i64 q.1)) e H) (fun q=>ds.l.length - q.1) (0,⟨0,0,[],.none⟩) ?_ ?_
 ·refine ⟨Nat.zero_le _,qmV,?_⟩;unfold qaz;simp [RSt.A,RSt.B,Sh2];exact ⟨_,_,_,⟨rfl,rfl,rfl⟩,⟨rfl,rfl⟩,rfl,rfl,rfl,rfl,rfl⟩
 rintro ⟨i,s⟩ e H ⟨hi,hI,e',d,T,⟨nl⟩,qQ,vW,hS,p0,p3,p4,p5,p6⟩;simp only at hi hI qQ vW hS p6;by_cases qg:i < ds.l.length
 case neg =>
  have qk:¬ (i:Int) < (ds.l.length:Int):=by omega
  simp [-qab,vW,p0,p3,p6,qk]
 have qk:(i:Int) < (ds.l.length:Int):=by omega
 have hw5:IntKind.i64.wrap ((i:Int)+1) = ((i+1:Nat):Int):=by rw [wrap_i64] <;> omega
 obtain ⟨kd,ep,nm,n1,z1,n2,z2,yy,bb,hc,q1,q2⟩:=quD ds.l[i] (hds _ (List.getElem_mem qg));have qJ:ds.nil = false:=Sl.nn qg;have hli:=quC kd ep nm n1 z1 n2 z2 yy.toNat bb;cases hL:(decide (z1.length≤60) && (decide (bb.l.length≤300) && decide (z2.length≤4))) with
 | false =>
  rw [hL] at hli;simp [-qab,vW,p0,p3,p4,p5,p6,qg,qk,qJ,hc,hli]
 | true =>
  rw [hL] at hli;simp only [Bool.and_eq_true,decide_eq_true_eq] at hL;obtain ⟨g1,g2,g3⟩:=hL;rcases hS with ⟨hs0,rfl,rfl⟩ | ⟨qr,n0,k0,hn0,kj,rfl,rfl⟩
  ·obtain ⟨m,w,nl',s',d',T',hm,hh,hI',hn',jN,c1,c2,c3⟩:=qfY hI (by omega) nl qQ kd ep nm n1 z1 q1 g1 n2 z2 q2 g3 yy bb g2 (.vsl true [] 0) [] (.inl ⟨hs0,rfl,rfl⟩);have h8:=hI'.len;have h9:=hI'.num;have e1:=qf8 s' d' T' jN;have e2:=qfz s' d' T' jN;have e3:=qfw s' (by omega) d' T' jN;have e4:=qf1 s' (by omega) (fun x hx=>(hI'.its x hx).b.2) d' T' jN;have e5:=qgc s'.mks s'.mks (by omega);have e6:=qfS ⟨nl',s'.its,hn'⟩ (Sl.grown s'.its) (fun x hx=>(hI'.its x hx).b.2) (fun x hx=>(hI'.its x hx).b.2) (by show s'.its.length < _;omega);rw [Sl.grown_l,qcA] at e6;rw [beq_self_eq_true] at e5;have e7:=qf9 w w;rw [beq_self_eq_true] at e7;have e8:=qkc s' nl' (Sl.grown s'.its) (by rw [Sl.grown_l];exact e6);obtain ⟨gv,hgv⟩:∃ g,g = Sl.grown s'.its:=⟨_,rfl⟩;have vk:gv.l = s'.its:=(by rw [hgv];rfl);rw [← hgv] at e4 e8;have hs3:=jN;obtain ⟨ep0,la0,its0,mk0⟩:=s;obtain ⟨ep',la',its',mk'⟩:=s';simp only [RSt.A,RSt.B] at c1 c2 c3 e1 e2 e3 e4 e8 vW jN vk;rw [vk] at e4 e8;rcases jN with ⟨hs1,rfl,rfl⟩ | ⟨hne1,n3,k3,hn3,vC,rfl,rfl⟩
   ·simp [-qab,vW,p0,p3,p4,p5,p6,qg,qk,qJ,hc,hli,c1,c2,c3,e1,e2,e3,e4,e5,e7,e8,hw5];refine ⟨i+1,by omega,by omega,⟨ep',la',its',mk'⟩,hI'.more (by omega),?_⟩;unfold qaz;simp [RSt.A,RSt.B,Sh2];exact ⟨_,_,_,⟨nl'⟩,hn',⟨rfl,rfl,rfl,rfl⟩,.inl ⟨hs1,rfl,rfl⟩,rfl,rfl,rfl,rfl,rfl⟩
   ·simp [-qab,vW,p0,p3,p4,p5,p6,qg,qk,qJ,hc,hli,c1,c2,c3,e1,e2,e3,e4,e5,e7,e8,hw5];refine ⟨i+1,by omega,by omega,⟨ep',la',its',mk'⟩,hI'.more (by omega),?_⟩;unfold qaz;simp [RSt.A,RSt.B,Sh2];exact ⟨_,_,_,⟨nl'⟩,hn',⟨rfl,rfl,rfl,rfl⟩,.inr ⟨hne1,by rw [hn3,vC],rfl⟩,rfl,rfl,rfl,rfl,rfl⟩
  ·obtain ⟨m,w,nl',s',d',T',hm,hh,hI',hn',jN,c1,c2,c3⟩:=qfY hI (by omega) nl qQ kd ep nm n1 z1 q1 g1 n2 z2 q2 g3 yy bb g2 (.osl 1 n0 0 k0 39) [some (qh s.its)] (.inr ⟨qr,n0,k0,hn0,kj,rfl,rfl⟩);have h8:=hI'.len;have h9:=hI'.num;have e1:=qf8 s' d' T' jN;have e2:=qfz s' d' T' jN;have e3:=qfw s' (by omega) d' T' jN;have e4:=qf1 s' (by omega) (fun x hx=>(hI'.its x hx).b.2) d' T' jN;have e5:=qgc s'.mks s'.mks (by omega);have e6:=qfS ⟨nl',s'.its,hn'⟩ (Sl.grown s'.its) (fun x hx=>(hI'.its x hx).b.2) (fun x hx=>(hI'.its x hx).b.2) (by show s'.its.length < _;omega);rw [Sl.grown_l,qcA] at e6;rw [beq_self_eq_true] at e5;have e7:=qf9 w w;rw [beq_self_eq_true] at e7;have e8:=qkc s' nl' (Sl.grown s'.its) (by rw [Sl.grown_l];exact e6);obtain ⟨gv,hgv⟩:∃ g,g = Sl.grown s'.its:=⟨_,rfl⟩;have vk:gv.l = s'.its:=(by rw [hgv];rfl);rw [← hgv] at e4 e8;have hs3:=jN;obtain ⟨ep0,la0,its0,mk0⟩:=s;obtain ⟨ep',la',its',mk'⟩:=s';simp only [RSt.A,RSt.B] at c1 c2 c3 e1 e2 e3 e4 e8 vW jN vk;rw [vk] at e4 e8;rcases jN with ⟨hs1,rfl,rfl⟩ | ⟨hne1,n3,k3,hn3,vC,rfl,rfl⟩
   ·exact absurd hs1 (qtr hI qr hh)
   ·simp [-qab,vW,p0,p3,p4,p5,p6,qg,qk,qJ,hc,hli,c1,c2,c3,e1,e2,e3,e4,e5,e7,e8,hw5];refine ⟨i+1,by omega,by omega,⟨ep',la',its',mk'⟩,hI'.more (by omega),?_⟩;unfold qaz;simp [RSt.A,RSt.B,Sh2];exact ⟨_,_,_,⟨nl'⟩,hn',⟨rfl,rfl,rfl,rfl⟩,.inr ⟨hne1,by rw [hn3,vC],rfl⟩,rfl,rfl,rfl,rfl,rfl⟩
end Go.Ev.S
namespace Go.Ev
open Go Go.Proofs Go.ChangeShapes Go.WideShapes Go.ChangeAt Go.RowKit
theorem qt6 {H:Type} {enc:TypeId × Value→H} {a:Assume} {C:Checked} {os:Os} {f:FuncId} {fn:Func} {s:ChangeSpec} {conds:List PathCond} {apart fresh handsOn again:Bool} {X:World→Array Value→Prop}
  (hX:∀ (w w':World) (args:Array Value),w.heap = w'.heap→X w args→X w' args)
  (own:ownKnob C.prog.godebug = none) (started:os.Started) (noInit:C.prog.inits.idxOf? f = none) (hfn:C.prog.funcs[f]? = some fn)
  (witness:∃ (w:World) (tape:Tape) (i:Input),w.os = os∧(w.forCall tape i).Shaped C.prog∧i.vars = []∧Input.okWide C.prog (w.forCall tape i) .any w.heap.size f i ∧
   ((s.pre enc C.prog fn conds apart (w.forCall tape i).memory i.args∧X (w.forCall tape i).memory i.args)∧sizedMet enc C.prog fn (OpenSpec.ofChange s) apart (w.forCall tape i).memory i.args)∧a.holds C.prog (lone (Frame.enter C.prog f i.args .normal) [] (w.forCall tape i)))
  (contract:∀ (W:World) (base:Nat) (args:Array Value) (ds gs:List (DataW H)) (before:List MemPlace),
   (∀ (j:Nat) t v,fn.params[j]? = some t→args[j]? = some v→Value.okWide C.prog W .any base t v) →
   DataW.Whole enc C.prog fn.params.toList s.vars apart W args.toList ds gs before→X W args→W.ShapedOpen C.prog →
   Calls C.prog f args W fun e W'=>∃ v,e = .returned v∧s.post enc C.prog fn apart fresh handsOn again W args v W') :
  ReturnsInHanded a C os f .any (fun w args=>(s.pre enc C.prog fn conds apart w args∧X w args)∧sizedMet enc C.prog fn (OpenSpec.ofChange s) apart w args) (s.post enc C.prog fn apart fresh handsOn again):=by
 refine returnsInHanded_of_calls own started noInit witness ?_;intro w tape i _ zA _ hok hpre _;obtain ⟨_,_,_,fn',hfn',_,_,_,_,hval⟩:=hok;have e:fn' = fn:=Option.some.inj (hfn'.symm.trans hfn);subst e;obtain ⟨⟨⟨ds,gs,before,hw,hc⟩,hx⟩,hz⟩:=hpre;have hw':=DataW.Whole.of_heap (w':=w.forCall tape i) (by rfl) hw;refine (contract (w.forCall tape i) w.heap.size i.args ds gs before hval hw' (hX _ _ _ (by rfl) hx) zA).mono fun e W' ⟨v,he,hp⟩=>?_;subst he;exact ChangeSpec.post_blind hp
end Go.Ev
