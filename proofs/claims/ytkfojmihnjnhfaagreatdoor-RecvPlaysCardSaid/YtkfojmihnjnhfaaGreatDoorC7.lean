import Derived.Test.YtkfojmihnjnhfaaGreatDoorC6
namespace Go.Ev.S
open Go Go.Proofs Go.Ev
theorem qi2:∀ (k:Nat) (r:List UInt8) (out:List It),(QH k r out).1.length≤out.length+k
 | 0,r,out=>by
  unfold QH;split
  ·split <;> simp
  ·simp
 | k+1,r,out=>by
  rw [QH];split
  ·simp
  ·split
   ·have:=qi2 k (r.drop (4+leN (r.take 4))) (out ++ [zX ((r.drop 4).take (leN (r.take 4)))]);rw [List.length_append] at this;simp only [List.length_cons,List.length_nil] at this;omega
   ·simp
theorem qi0 (b:List UInt8):(vo b).1.length≤64:=by
 unfold vo VG
 repeat' split
 all_goals first | (simp;done) | skip
 have:=qi2 (leN (((b.take (b.length - 4)).drop 4).take 2)) ((b.take (b.length - 4)).drop 6) [];simp only [List.length_nil] at this;omega
theorem qg3:∀ (k:Nat) (r:List UInt8) (out:List Mk),(Zp k r out).1.length≤out.length+k
 | 0,r,out=>by simp [Zp]
 | k+1,r,out=>by
  rw [Zp];split
  ·simp
  ·split
   ·simp
   ·split
    ·simp
    ·have:=qg3 k (r.drop 40) (out ++ [Za r]);rw [List.length_append] at this;simp only [List.length_cons,List.length_nil] at this;omega
theorem qn3 (b:List UInt8):(jG b).1.length≤4:=by
 unfold jG;split
 ·simp
 ·split
  ·simp
  ·rename_i c r h;have:=qg3 c.toNat r [];simp only [List.length_nil] at this;omega
theorem qi1:∀ (k:Nat) (r:List UInt8) (out:List It),(QH k r out).2.1.length≤4
 | 0,r,out=>by
  unfold QH;split
  ·split
   ·simp
   ·exact qn3 r
  ·simp
 | k+1,r,out=>by
  rw [QH];split
  ·simp
  ·split
   ·exact qi1 k _ _
   ·simp
theorem qiz (b:List UInt8):(vo b).2.1.length≤4:=by
 unfold vo VG
 repeat' split
 all_goals first | (simp;done) | skip
 exact qi1 _ _ _
structure RSt where
 ep:Int
 la:Int
 its:List It
 mks:Sl Mk
def RSt.A (s:RSt) (d:D):List D:=[.int .u64 s.ep,.int .u64 s.la,d,(.vsl s.mks.nil (qh s.mks.l) s.mks.l.length)]
def ZY (L:List It) (d:D) (T:qi):Prop:=(L = []∧d = .vsl true [] 0∧T = [])∨(L≠[]∧∃ n k,n = L.length * 39∧k = L.length∧d = .osl 1 n 0 k 39∧T = [some (qh L)])
def Z0:List It→List Mk→Option (List Mk)
 | [],m=>some m
 | x :: l,m=>if Jc m x = 0 then Z0 l (Jy m x false) else none
theorem qcx (m:List Mk) (x:It) (o:Bool):(Jy m x o).length≤m.length+1:=qnI _ _
def VP (s:RSt) (n:Int) (g:List It × List Mk × Int):Int × RSt :=
 if g.2.2≠0 then (400,s)
 else match Z0 g.1 s.mks.l with
  | none=>(400,s)
  | some m=>if (vS m g.2.1 && vS s.mks.l g.2.1) = true then (200,⟨s.ep,n,s.its ++ g.1,Sl.grown g.2.1⟩) else (400,s)
def jf (s:RSt) (q:Rq):Int × RSt :=
 if s.ep < q.epoch then (409,s)
 else if q.number = s.la∧q.number≠0 then (200,s)
 else if q.number≠IntKind.u64.wrap (s.la+1)∨q.number = 0 then (409,s)
 else VP s q.number (vo q.body.l)
def BatQ2 (s:RSt) (q:Rq) (r:D × qi):Prop:= ∃ d' T',ZY (jf s q).2.its d' T'∧r = (.int .i64 (jf s q).1,some ((jf s q).2.A d') :: T')
theorem BatQ2.mk {s s':RSt} {q:Rq} {c:Int} {d':D} {T':qi} (hb:jf s q = (c,s')) (hs:ZY s'.its d' T'):BatQ2 s q (.int .i64 c,some (s'.A d') :: T'):=⟨d',T',by rw [hb];exact hs,by rw [hb]⟩
set_option maxHeartbeats 8000000 in
set_option maxRecDepth 8000 in
theorem qn7 [MaxL] (s:RSt) (q:Rq) (hq:q.body.l.length < 1000000) (hm:s.mks.l.length≤1000000) (hL:s.its.length≤1000000000) (d:D) (T:qi) (zA:ZY s.its d T) :
  ∃ r,call cx 36 [.optr 0 4 0,.agg (Enc.cells q)] (some (s.A d) :: T) = some r∧BatQ2 s q r:=by
 obtain ⟨ep,la,its,mk⟩:=s;obtain ⟨p,e,n,o⟩:=q;simp only at hq hm hL zA;have hg:=qkO o hq;have vk:=qi0 o.l;have hgm:=qiz o.l;obtain ⟨w1,qF⟩:∃ w1,IntKind.u64.wrap (la+1) = w1:=⟨_,rfl⟩;rcases zA with ⟨rfl,rfl,rfl⟩ | ⟨qr,n1,k1,zx,hk1,rfl,rfl⟩
 ·refine vf (X:=cx) (f:=36) (args:=[.optr 0 4 0,.agg [.str p,.int .u64 e,.int .u64 n,(.vsl o.nil (qd o.l) o.l.length)]]) (H:=[some [.int .u64 ep,.int .u64 la,.vsl true [] 0,(.vsl mk.nil (qh mk.l) mk.l.length)]]) (BatQ2 ⟨ep,la,[],mk⟩ ⟨p,e,n,o⟩) Tryz.func36 rfl ⟨rfl,rfl⟩ ?_;by_cases c1:ep < e
  ·have hb:jf ⟨ep,la,[],mk⟩ ⟨p,e,n,o⟩ = (409,⟨ep,la,[],mk⟩):=(by unfold jf;rw [if_pos c1]);simp [Tryz.f36,c1];exact BatQ2.mk hb (.inl ⟨rfl,rfl,rfl⟩)
  by_cases c2:n = la∧n≠0
  ·have hb:jf ⟨ep,la,[],mk⟩ ⟨p,e,n,o⟩ = (200,⟨ep,la,[],mk⟩):=(by unfold jf;rw [if_neg c1,if_pos c2]);obtain ⟨rfl,c3⟩:=c2;simp [Tryz.f36,c1,c3];exact BatQ2.mk hb (.inl ⟨rfl,rfl,rfl⟩)
  by_cases c3:n≠w1∨n = 0
  ·have hb:jf ⟨ep,la,[],mk⟩ ⟨p,e,n,o⟩ = (409,⟨ep,la,[],mk⟩):=(by unfold jf;simp only;rw [if_neg c1,if_neg c2,if_pos (by rw [qF];exact c3)]);by_cases c4:n = la
   ·have c5:n = 0:=Classical.byContradiction fun h=>c2 ⟨c4,h⟩;subst c4;subst c5;by_cases c6:(0:Int) = w1
    ·simp [Tryz.f36,c1];exact BatQ2.mk hb (.inl ⟨rfl,rfl,rfl⟩)
    ·simp [Tryz.f36,c1];exact BatQ2.mk hb (.inl ⟨rfl,rfl,rfl⟩)
   ·by_cases c6:n = w1
    ·have c5:n = 0:=c3.resolve_left fun h=>h c6;subst c6;subst c5;simp [Tryz.f36,c1,qF,c4];exact BatQ2.mk hb (.inl ⟨rfl,rfl,rfl⟩)
    ·simp [Tryz.f36,c1,qF,c4,c6];exact BatQ2.mk hb (.inl ⟨rfl,rfl,rfl⟩)
  have c4:¬ n = la:=fun h=>c2 ⟨h,fun h0=>c3 (.inr h0)⟩;have c5:n = w1:=Classical.byContradiction fun h=>c3 (.inl h);have c6:¬ n = 0:=fun h=>c3 (.inr h)
  have hB:jf ⟨ep,la,[],mk⟩ ⟨p,e,n,o⟩ = VP ⟨ep,la,[],mk⟩ n (vo o.l):=by
   unfold jf;simp only;rw [if_neg c1,if_neg c2,if_neg (by rw [qF];exact c3)]
  unfold zR at hg;obtain ⟨⟨l,en,c⟩,hgp⟩:∃ g,g = vo o.l:=⟨_,rfl⟩;rw [← hgp] at hg vk hgm hB;unfold VP at hB;simp only at hg vk hgm hB;clear hgp;obtain ⟨lS,hlS⟩:∃ lS,lS = Sl.grown l:=⟨_,rfl⟩;obtain ⟨E,hE⟩:∃ E,E = Sl.grown en:=⟨_,rfl⟩;have hlSl:lS.l = l:=by rw [hlS];rfl
  have hEl:E.l = en:=by rw [hE];rfl
  rw [← hlS,← hE,hlSl,hEl] at hg;subst c5;by_cases c7:c = 0
  case neg =>
   rw [if_pos c7] at hB;simp [Tryz.f36,c1,qF,c4,c6,hg,c7];exact BatQ2.mk hB (.inl ⟨rfl,rfl,rfl⟩)
  rw [if_neg (fun h=>h c7)] at hB;simp [Tryz.f36,c1,qF,c4,c6,hg,c7]
  refine Run.loopThen (fun (k:Nat × Sl Mk) e' H=>k.1≤l.length∧k.2.l.length≤mk.l.length+k.1∧Z0 (l.drop k.1) k.2.l = Z0 l mk.l∧(H = [some [.int .u64 ep,.int .u64 la,.vsl true [] 0,(.vsl mk.nil (qh mk.l) mk.l.length)],some [.str p,.int .u64 e,.int .u64 n,(.vsl o.nil (qd o.l) o.l.length)]]∨∃ w,H = [some [.int .u64 ep,.int .u64 la,.vsl true [] 0,(.vsl mk.nil (qh mk.l) mk.l.length)],some [.str p,.int .u64 e,.int .u64 n,(.vsl o.nil (qd o.l) o.l.length)],w]) ∧
   qf e' 0 = some (.optr 0 4 0)∧qf e' 3 = some (.optr 1 4 0)∧qf e' 5 = some (.vsl lS.nil (qh l) l.length)∧qf e' 6 = some (.vsl E.nil (qh en) en.length)∧qf e' 8 = some (.vsl k.2.nil (qh k.2.l) k.2.l.length)∧qf e' 59 = some (.vsl lS.nil (qh l) l.length)∧qf e' 60 = some (.int .i64 l.length)∧qf e' 61 = some (.int .i64 k.1)) (fun k=>l.length - k.1) (0,mk) ?_ ?_
  ·simp
  rintro ⟨k,t⟩ e' H ⟨hk,jm,hf,hH,k0,k3,k5,k6,k8,k59,k60,k61⟩;simp only at hk jm hf k8 k61;by_cases qg:k < l.length
  ·have qk:(k:Int) < (l.length:Int):=(by omega);have hw:IntKind.i64.wrap ((k:Int)+1) = ((k+1:Nat):Int):=(by rw [wrap_i64] <;> omega);have qJ:lS.nil = false:=Sl.nn (i:=k) (by rw [hlSl];exact qg);have jK:List.drop (k * 39) (qh l) = Enc.cells l[k] ++ qh (l.drop (k+1)):=It.ea qg;have qu:=qfh t (by omega) l[k] false;have h39:39≤39+(l.length - (k+1)) * 39:=(by omega);rw [List.drop_eq_getElem_cons qg,Z0] at hf;have htl2:=qcx t.l l[k] false;generalize l[k] = x at *;by_cases c8:Jc t.l x = 0
   ·rw [if_pos c8] at hf;rw [c8] at qu;unfold Jz at qu;rw [if_pos rfl] at qu;rcases hH with rfl | ⟨w,rfl⟩
    ·simp [-It.ea,k0,k3,k5,k6,k8,k59,k60,k61,qk,hw,qJ,jK,qu,h39];exact ⟨k+1,by omega,by omega,.of (Jy t.l x false),by rw [Sl.of_l];omega,hf,⟨rfl,rfl,rfl⟩,by omega⟩
    ·simp [-It.ea,k0,k3,k5,k6,k8,k59,k60,k61,qk,hw,qJ,jK,qu,h39];exact ⟨k+1,by omega,by omega,.of (Jy t.l x false),by rw [Sl.of_l];omega,hf,⟨rfl,rfl,rfl⟩,by omega⟩
   ·rw [if_neg c8] at hf;rw [← hf] at hB;unfold Jz at qu;rw [if_neg c8] at qu;rcases hH with rfl | ⟨w,rfl⟩
    ·simp [-It.ea,k0,k3,k5,k6,k8,k59,k60,k61,qk,qJ,jK,qu,h39,c8];exact BatQ2.mk hB (.inl ⟨rfl,rfl,rfl⟩)
    ·simp [-It.ea,k0,k3,k5,k6,k8,k59,k60,k61,qk,qJ,jK,qu,h39,c8];exact BatQ2.mk hB (.inl ⟨rfl,rfl,rfl⟩)
  ·have qk:¬ (k:Int) < (l.length:Int):=(by omega);rw [List.drop_eq_nil_of_le (by omega),Z0] at hf;rw [← hf] at hB;simp only at hB;have h1:=qbx t E (by omega) (by rw [hEl];omega);have h2:=qbx mk E (by omega) (by rw [hEl];omega);rw [hEl] at h1 h2;cases c8:vS t.l en with
   | false =>
    rw [c8,Bool.false_and,if_neg (by decide)] at hB;rw [c8] at h1;rcases hH with rfl | ⟨w,rfl⟩
    ·simp [k0,k3,k5,k6,k8,k59,k60,k61,qk,h1];exact BatQ2.mk hB (.inl ⟨rfl,rfl,rfl⟩)
    ·simp [k0,k3,k5,k6,k8,k59,k60,k61,qk,h1];exact BatQ2.mk hB (.inl ⟨rfl,rfl,rfl⟩)
   | true =>
    rw [c8] at h1;cases c9:vS mk.l en with
    | false =>
     rw [c8,c9,Bool.true_and,if_neg (by decide)] at hB;rw [c9] at h2;rcases hH with rfl | ⟨w,rfl⟩
     ·simp [k0,k3,k5,k6,k8,k59,k60,k61,qk,h1,h2];exact BatQ2.mk hB (.inl ⟨rfl,rfl,rfl⟩)
     ·simp [k0,k3,k5,k6,k8,k59,k60,k61,qk,h1,h2];exact BatQ2.mk hB (.inl ⟨rfl,rfl,rfl⟩)
    | true =>
     rw [c8,c9,Bool.true_and,if_pos rfl] at hB;rw [c9] at h2;subst hE;by_cases jp:l = []
     ·subst jp;have hn0:lS.nil = true:=(by rw [hlS];rfl);have kj:¬ (k:Int) < 0:=by omega
      skip
      rcases hH with rfl | ⟨w,rfl⟩
      ·simp [k0,k3,k5,k6,k8,k59,k60,k61,h1,h2,hn0,kj];exact BatQ2.mk hB (.inl ⟨rfl,rfl,rfl⟩)
      ·simp [k0,k3,k5,k6,k8,k59,k60,k61,h1,h2,hn0,kj];exact BatQ2.mk hB (.inl ⟨rfl,rfl,rfl⟩)
     ·have hn0:lS.nil = false:=(by rw [hlS];exact List.isEmpty_eq_false_iff.2 jp);have hb1:l.length * 104≤140737488355328:=(by omega);have zm:l.length≤140737488355328:=(by omega);have zJ:¬ l.length = 0:=fun h=>jp (List.eq_nil_of_length_eq_zero h);rcases hH with rfl | ⟨w,rfl⟩
      ·simp [k0,k3,k5,k6,k8,k59,k60,k61,qk,h1,h2,hn0,qB,hb1,zm,zJ,Xa,Xk];exact BatQ2.mk hB (.inr ⟨jp,_,_,rfl,rfl,rfl,rfl⟩)
      ·simp [k0,k3,k5,k6,k8,k59,k60,k61,qk,h1,h2,hn0,qB,hb1,zm,zJ,Xa,Xk];exact BatQ2.mk hB (.inr ⟨jp,_,_,rfl,rfl,rfl,rfl⟩)
 ·refine vf (X:=cx) (f:=36) (args:=[.optr 0 4 0,.agg [.str p,.int .u64 e,.int .u64 n,(.vsl o.nil (qd o.l) o.l.length)]]) (H:=[some [.int .u64 ep,.int .u64 la,.osl 1 n1 0 k1 39,(.vsl mk.nil (qh mk.l) mk.l.length)],some (qh its)]) (BatQ2 ⟨ep,la,its,mk⟩ ⟨p,e,n,o⟩) Tryz.func36 rfl ⟨rfl,rfl⟩ ?_;by_cases c1:ep < e
  ·have hb:jf ⟨ep,la,its,mk⟩ ⟨p,e,n,o⟩ = (409,⟨ep,la,its,mk⟩):=(by unfold jf;rw [if_pos c1]);simp [Tryz.f36,c1];exact BatQ2.mk hb (.inr ⟨qr,n1,k1,zx,hk1,rfl,rfl⟩)
  by_cases c2:n = la∧n≠0
  ·have hb:jf ⟨ep,la,its,mk⟩ ⟨p,e,n,o⟩ = (200,⟨ep,la,its,mk⟩):=(by unfold jf;rw [if_neg c1,if_pos c2]);obtain ⟨rfl,c3⟩:=c2;simp [Tryz.f36,c1,c3];exact BatQ2.mk hb (.inr ⟨qr,n1,k1,zx,hk1,rfl,rfl⟩)
  by_cases c3:n≠w1∨n = 0
  ·have hb:jf ⟨ep,la,its,mk⟩ ⟨p,e,n,o⟩ = (409,⟨ep,la,its,mk⟩):=(by unfold jf;simp only;rw [if_neg c1,if_neg c2,if_pos (by rw [qF];exact c3)]);by_cases c4:n = la
   ·have c5:n = 0:=Classical.byContradiction fun h=>c2 ⟨c4,h⟩;subst c4;subst c5;by_cases c6:(0:Int) = w1
    ·simp [Tryz.f36,c1];exact BatQ2.mk hb (.inr ⟨qr,n1,k1,zx,hk1,rfl,rfl⟩)
    ·simp [Tryz.f36,c1];exact BatQ2.mk hb (.inr ⟨qr,n1,k1,zx,hk1,rfl,rfl⟩)
   ·by_cases c6:n = w1
    ·have c5:n = 0:=c3.resolve_left fun h=>h c6;subst c6;subst c5;simp [Tryz.f36,c1,qF,c4];exact BatQ2.mk hb (.inr ⟨qr,n1,k1,zx,hk1,rfl,rfl⟩)
    ·simp [Tryz.f36,c1,qF,c4,c6];exact BatQ2.mk hb (.inr ⟨qr,n1,k1,zx,hk1,rfl,rfl⟩)
  have c4:¬ n = la:=fun h=>c2 ⟨h,fun h0=>c3 (.inr h0)⟩;have c5:n = w1:=Classical.byContradiction fun h=>c3 (.inl h);have c6:¬ n = 0:=fun h=>c3 (.inr h)
  have hB:jf ⟨ep,la,its,mk⟩ ⟨p,e,n,o⟩ = VP ⟨ep,la,its,mk⟩ n (vo o.l):=by
   unfold jf;simp only;rw [if_neg c1,if_neg c2,if_neg (by rw [qF];exact c3)]
  unfold zR at hg;obtain ⟨⟨l,en,c⟩,hgp⟩:∃ g,g = vo o.l:=⟨_,rfl⟩;rw [← hgp] at hg vk hgm hB;unfold VP at hB;simp only at hg vk hgm hB;clear hgp;obtain ⟨lS,hlS⟩:∃ lS,lS = Sl.grown l:=⟨_,rfl⟩;obtain ⟨E,hE⟩:∃ E,E = Sl.grown en:=⟨_,rfl⟩;have hlSl:lS.l = l:=by rw [hlS];rfl
  have hEl:E.l = en:=by rw [hE];rfl
  rw [← hlS,← hE,hlSl,hEl] at hg;subst c5;by_cases c7:c = 0
  case neg =>
   rw [if_pos c7] at hB;simp [Tryz.f36,c1,qF,c4,c6,hg,c7];exact BatQ2.mk hB (.inr ⟨qr,n1,k1,zx,hk1,rfl,rfl⟩)
  rw [if_neg (fun h=>h c7)] at hB;simp [Tryz.f36,c1,qF,c4,c6,hg,c7]
  refine Run.loopThen (fun (k:Nat × Sl Mk) e' H=>k.1≤l.length∧k.2.l.length≤mk.l.length+k.1∧Z0 (l.drop k.1) k.2.l = Z0 l mk.l∧(H = [some [.int .u64 ep,.int .u64 la,.osl 1 n1 0 k1 39,(.vsl mk.nil (qh mk.l) mk.l.length)],some (qh its),some [.str p,.int .u64 e,.int .u64 n,(.vsl o.nil (qd o.l) o.l.length)]]∨∃ w,H = [some [.int .u64 ep,.int .u64 la,.osl 1 n1 0 k1 39,(.vsl mk.nil (qh mk.l) mk.l.length)],some (qh its),some [.str p,.int .u64 e,.int .u64 n,(.vsl o.nil (qd o.l) o.l.length)],w]) ∧
   qf e' 0 = some (.optr 0 4 0)∧qf e' 3 = some (.optr 2 4 0)∧qf e' 5 = some (.vsl lS.nil (qh l) l.length)∧qf e' 6 = some (.vsl E.nil (qh en) en.length)∧qf e' 8 = some (.vsl k.2.nil (qh k.2.l) k.2.l.length)∧qf e' 59 = some (.vsl lS.nil (qh l) l.length)∧qf e' 60 = some (.int .i64 l.length)∧qf e' 61 = some (.int .i64 k.1)) (fun k=>l.length - k.1) (0,mk) ?_ ?_
  ·simp
  rintro ⟨k,t⟩ e' H ⟨hk,jm,hf,hH,k0,k3,k5,k6,k8,k59,k60,k61⟩;simp only at hk jm hf k8 k61;by_cases qg:k < l.length
  ·have qk:(k:Int) < (l.length:Int):=(by omega);have hw:IntKind.i64.wrap ((k:Int)+1) = ((k+1:Nat):Int):=(by rw [wrap_i64] <;> omega);have qJ:lS.nil = false:=Sl.nn (i:=k) (by rw [hlSl];exact qg);have jK:List.drop (k * 39) (qh l) = Enc.cells l[k] ++ qh (l.drop (k+1)):=It.ea qg;have qu:=qfh t (by omega) l[k] false;have h39:39≤39+(l.length - (k+1)) * 39:=(by omega);rw [List.drop_eq_getElem_cons qg,Z0] at hf;have htl2:=qcx t.l l[k] false;generalize l[k] = x at *;by_cases c8:Jc t.l x = 0
   ·rw [if_pos c8] at hf;rw [c8] at qu;unfold Jz at qu;rw [if_pos rfl] at qu;rcases hH with rfl | ⟨w,rfl⟩
    ·simp [-It.ea,k0,k3,k5,k6,k8,k59,k60,k61,qk,hw,qJ,jK,qu,h39];exact ⟨k+1,by omega,by omega,.of (Jy t.l x false),by rw [Sl.of_l];omega,hf,⟨rfl,rfl,rfl⟩,by omega⟩
    ·simp [-It.ea,k0,k3,k5,k6,k8,k59,k60,k61,qk,hw,qJ,jK,qu,h39];exact ⟨k+1,by omega,by omega,.of (Jy t.l x false),by rw [Sl.of_l];omega,hf,⟨rfl,rfl,rfl⟩,by omega⟩
   ·rw [if_neg c8] at hf;rw [← hf] at hB;unfold Jz at qu;rw [if_neg c8] at qu;rcases hH with rfl | ⟨w,rfl⟩
    ·simp [-It.ea,k0,k3,k5,k6,k8,k59,k60,k61,qk,qJ,jK,qu,h39,c8];exact BatQ2.mk hB (.inr ⟨qr,n1,k1,zx,hk1,rfl,rfl⟩)
    ·simp [-It.ea,k0,k3,k5,k6,k8,k59,k60,k61,qk,qJ,jK,qu,h39,c8];exact BatQ2.mk hB (.inr ⟨qr,n1,k1,zx,hk1,rfl,rfl⟩)
  ·have qk:¬ (k:Int) < (l.length:Int):=(by omega);rw [List.drop_eq_nil_of_le (by omega),Z0] at hf;rw [← hf] at hB;simp only at hB;have h1:=qbx t E (by omega) (by rw [hEl];omega);have h2:=qbx mk E (by omega) (by rw [hEl];omega);rw [hEl] at h1 h2;cases c8:vS t.l en with
   | false =>
    rw [c8,Bool.false_and,if_neg (by decide)] at hB;rw [c8] at h1;rcases hH with rfl | ⟨w,rfl⟩
    ·simp [k0,k3,k5,k6,k8,k59,k60,k61,qk,h1];exact BatQ2.mk hB (.inr ⟨qr,n1,k1,zx,hk1,rfl,rfl⟩)
    ·simp [k0,k3,k5,k6,k8,k59,k60,k61,qk,h1];exact BatQ2.mk hB (.inr ⟨qr,n1,k1,zx,hk1,rfl,rfl⟩)
   | true =>
    rw [c8] at h1;cases c9:vS mk.l en with
    | false =>
     rw [c8,c9,Bool.true_and,if_neg (by decide)] at hB;rw [c9] at h2;rcases hH with rfl | ⟨w,rfl⟩
     ·simp [k0,k3,k5,k6,k8,k59,k60,k61,qk,h1,h2];exact BatQ2.mk hB (.inr ⟨qr,n1,k1,zx,hk1,rfl,rfl⟩)
     ·simp [k0,k3,k5,k6,k8,k59,k60,k61,qk,h1,h2];exact BatQ2.mk hB (.inr ⟨qr,n1,k1,zx,hk1,rfl,rfl⟩)
    | true =>
     rw [c8,c9,Bool.true_and,if_pos rfl] at hB;rw [c9] at h2;subst hE;by_cases jp:l = []
     ·subst jp;have hn0:lS.nil = true:=(by rw [hlS];rfl);have kj:¬ (k:Int) < 0:=(by omega);have hle:(qh its).length = n1:=(by rw [It.el,zx]);have qV:k1 * 39 = n1:=(by rw [hk1,zx]);have hb1:k1 * 104≤140737488355328:=(by omega);have zm:k1≤140737488355328:=(by omega);rw [List.append_nil] at hB;rcases hH with rfl | ⟨w,rfl⟩
      ·simp [k0,k3,k5,k6,k8,k59,k60,k61,h1,h2,hn0,kj,qB,hb1,zm,hle,qV];exact BatQ2.mk hB (.inr ⟨qr,n1,k1,zx,hk1,rfl,rfl⟩)
      ·simp [k0,k3,k5,k6,k8,k59,k60,k61,h1,h2,hn0,kj,qB,hb1,zm,hle,qV];exact BatQ2.mk hB (.inr ⟨qr,n1,k1,zx,hk1,rfl,rfl⟩)
     ·have hn0:lS.nil = false:=(by rw [hlS];exact List.isEmpty_eq_false_iff.2 jp);have hle:(qh its).length = n1:=(by rw [It.el,zx]);have qV:k1 * 39 = n1:=(by rw [hk1,zx]);have hb1:(k1+l.length) * 104≤140737488355328:=(by omega);have zm:k1+l.length≤140737488355328:=(by omega);have hb3:List.take (l.length * 39) (qh l) = qh l:=List.take_of_length_le (by rw [It.el];omega);rcases hH with rfl | ⟨w,rfl⟩
      ·simp [k0,k3,k5,k6,k8,k59,k60,k61,qk,h1,h2,hn0,qB,hb1,zm,hle,qV];exact BatQ2.mk hB (.inr ⟨by simp [qr],_,_,by rw [List.length_append,Nat.add_mul,zx],by rw [List.length_append,hk1],rfl,by rw [Kz]⟩)
      ·simp [k0,k3,k5,k6,k8,k59,k60,k61,qk,h1,h2,hn0,qB,hb1,zm,hle,qV];exact BatQ2.mk hB (.inr ⟨by simp [qr],_,_,by rw [List.length_append,Nat.add_mul,zx],by rw [List.length_append,hk1],rfl,by rw [Kz]⟩)
theorem quI [MaxL] [TxtC] (s p:List UInt8) (hs:s.length < 1000000) (hp:p.length < 1000000):call cx 126 [.str s,.str p] [] = some (.tup [.str (if pre p s then s.drop p.length else s),.bool (pre p s)],[]):=by
 have h:=qgM s p hs hp
 have h2:call cx 155 [.str s,.str p] [] = some (.tup [.str (if pre p s then s.drop p.length else s),.bool (pre p s)],[]):=by
  refine qq Tryz.func155 rfl ⟨rfl,rfl⟩ ?_;cases hq:pre p s with
  | true =>
   have:=qgH hq;have g:(p.length:Int)≤(s.length:Int):=(by omega);rw [hq] at h;simp [Tryz.f155,h,g];exact List.take_of_length_le (by simp)
  | false =>
   rw [hq] at h;simp [Tryz.f155,h]
 refine qq Tryz.func126 rfl ⟨rfl,rfl⟩ ?_;simp [Tryz.f126,h2]
theorem qeq [MaxL] [TxtC] (v:Nat) (hv:v < 18446744073709551616):call cx 130 [.int .u64 v] [] = some (.str (qz v),[]):=by
 have h:=qdZ v hv;refine qq Tryz.func130 rfl ⟨rfl,rfl⟩ ?_;simp [Tryz.f130,h]
theorem qio [MaxL] [TxtC] (b:List UInt8) (hb:b.length≤1000) (e n l:Nat) (he:e < 18446744073709551616) (hn:n < 18446744073709551616) (hl:l < 18446744073709551616) :
  call cx 86 [.str b,.int .u64 e,.int .u64 n,.int .u64 l] [] = some (.str (b ++ vg e n l),[]):=by
 have h1:=qeq e he;have h2:=qeq n hn;have h3:=qeq l hl;have l1:=vZ e;have l2:=vZ n;have l3:=vZ l;unfold vg;generalize qz e = x at *;generalize qz n = y at *;generalize qz l = z at *;clear he hn hl;obtain ⟨s1,es1⟩:∃ s,s = b ++ epochL:=⟨_,rfl⟩;have ls1:s1.length = b.length+epochL.length:=by rw [es1,List.length_append]
 obtain ⟨s2,es2⟩:∃ s,s = s1 ++ x:=⟨_,rfl⟩;have ls2:s2.length = s1.length+x.length:=by rw [es2,List.length_append]
 obtain ⟨s3,es3⟩:∃ s,s = s2 ++ crlf:=⟨_,rfl⟩;have ls3:s3.length = s2.length+crlf.length:=by rw [es3,List.length_append]
 obtain ⟨s4,es4⟩:∃ s,s = s3 ++ numberL:=⟨_,rfl⟩;have ls4:s4.length = s3.length+numberL.length:=by rw [es4,List.length_append]
 obtain ⟨s5,es5⟩:∃ s,s = s4 ++ y:=⟨_,rfl⟩;have ls5:s5.length = s4.length+y.length:=by rw [es5,List.length_append]
 obtain ⟨s6,es6⟩:∃ s,s = s5 ++ crlf:=⟨_,rfl⟩;have ls6:s6.length = s5.length+crlf.length:=by rw [es6,List.length_append]
 obtain ⟨s7,es7⟩:∃ s,s = s6 ++ lengthL:=⟨_,rfl⟩;have ls7:s7.length = s6.length+lengthL.length:=by rw [es7,List.length_append]
 obtain ⟨s8,es8⟩:∃ s,s = s7 ++ z:=⟨_,rfl⟩;have ls8:s8.length = s7.length+z.length:=by rw [es8,List.length_append]
 obtain ⟨s9,es9⟩:∃ s,s = s8 ++ crlf:=⟨_,rfl⟩;have ls9:s9.length = s8.length+crlf.length:=by rw [es9,List.length_append]
 obtain ⟨s10,es10⟩:∃ s,s = s9 ++ crlf:=⟨_,rfl⟩;have ls10:s10.length = s9.length+crlf.length:=by rw [es10,List.length_append]
 simp only [epochL,numberL,lengthL,crlf,List.length_cons,List.length_nil] at ls1 ls2 ls3 ls4 ls5 ls6 ls7 ls8 ls9 ls10;have cs1:=zU es1 (by (try simp only [epochL,List.length_cons,List.length_nil]);omega);have cs2:=zU es2 (by (try simp only [epochL,numberL,lengthL,crlf,List.length_cons,List.length_nil]);omega);have cs3:=zU es3 (by (try simp only [crlf,List.length_cons,List.length_nil]);omega);have cs4:=zU es4 (by (try simp only [numberL,List.length_cons,List.length_nil]);omega);have cs5:=zU es5 (by (try simp only [epochL,numberL,lengthL,crlf,List.length_cons,List.length_nil]);omega);have cs6:=zU es6 (by (try simp only [crlf,List.length_cons,List.length_nil]);omega);have cs7:=zU es7 (by (try simp only [lengthL,List.length_cons,List.length_nil]);omega);have cs8:=zU es8 (by (try simp only [epochL,numberL,lengthL,crlf,List.length_cons,List.length_nil]);omega);have cs9:=zU es9 (by (try simp only [crlf,List.length_cons,List.length_nil]);omega);have cs10:=zU es10 (by (try simp only [crlf,List.length_cons,List.length_nil]);omega);simp only [epochL,numberL,lengthL,crlf] at cs1 cs2 cs3 cs4 cs5 cs6 cs7 cs8 cs9 cs10
 have Qm:b ++ (epochL ++ (x ++ (crlf ++ (numberL ++ (y ++ (crlf ++ (lengthL ++ (z ++ (crlf ++ crlf))))))))) = s10:=by
  simp [es10,es9,es8,es7,es6,es5,es4,es3,es2,es1]
 rw [Qm];clear Qm es1 es2 es3 es4 es5 es6 es7 es8 es9 es10 ls1 ls2 ls3 ls4 ls5 ls6 ls7 ls8 ls9 ls10 l1 l2 l3 hb;refine qq Tryz.func86 rfl ⟨rfl,rfl⟩ ?_;simp [Tryz.f86,h1,h2,h3,-Go.Ev.strD,cs1,cs2,cs3,cs4,cs5,cs6,cs7,cs8,cs9,cs10]
def Vl (b:List UInt8) (e n:Nat) (body:List UInt8):Sl UInt8:=if 65536 < body.length then .none else .of (b ++ (vg e n body.length ++ body))
theorem qnF [MaxL] [TxtC] (b:List UInt8) (hb:b.length≤1000) (e n:Nat) (he:e < 18446744073709551616) (hn:n < 18446744073709551616) (body:Sl UInt8) (hl:body.l.length≤100000) :
  call cx 52 [.str b,.int .u64 e,.int .u64 n,(.vsl body.nil (qd body.l) body.l.length)] [] = some ((.vsl (Vl b e n body.l).nil (qd (Vl b e n body.l).l) (Vl b e n body.l).l.length),[]):=by
 refine qq Tryz.func52 rfl ⟨rfl,rfl⟩ ?_;unfold Vl;by_cases h:65536 < body.l.length
 ·have h':(65536:Int) < (body.l.length:Int):=by omega
  simp [Tryz.f52,h,h']
 ·have h':¬ (65536:Int) < (body.l.length:Int):=by omega
  have h1:=qio b hb e n body.l.length he hn (by omega);have hw:IntKind.u64.wrap (body.l.length:Int) = (body.l.length:Int):=by rw [qK];omega
  have hx:=qbh e n body.l.length;generalize vg e n body.l.length = x at *;have hm:b.length+(x.length+body.l.length)≤qB:=by unfold qB;omega
  simp [Tryz.f52,h,h',h1,hw,hm,ZP,List.take_of_length_le,Nat.add_assoc]
def postL:List UInt8:=[80,79,83,84,32]
def httpL:List UInt8:=[32,72,84,84,80,47,49,46,49]
def hostL:List UInt8:=[72,111,115,116,58,32,114,101,99,101,105,118,101,114]
def ctypeL:List UInt8:=[67,111,110,116,101,110,116,45,84,121,112,101,58,32,97,112,112,108,105,99,97,116,105,111,110,47,118,110,100,46,102,100,111,46,106,111,117,114,110,97,108]
def j9 (p:List UInt8):List UInt8:=postL ++ (p ++ (httpL ++ (crlf ++ (hostL ++ (crlf ++ (ctypeL ++ crlf))))))
theorem qwe (p:List UInt8):(j9 p).length = p.length+75:=by
 simp [j9,postL,httpL,hostL,ctypeL,crlf]
theorem qki [MaxL] [TxtC] (p:List UInt8) (hp:p.length≤100):call cx 50 [.str p] [] = some (.str (j9 p),[]):=by
 obtain ⟨s1,es1⟩:∃ s,s = postL ++ p:=⟨_,rfl⟩;have ls1:s1.length = postL.length+p.length:=by rw [es1,List.length_append]
 obtain ⟨s2,es2⟩:∃ s,s = s1 ++ httpL:=⟨_,rfl⟩;have ls2:s2.length = s1.length+httpL.length:=by rw [es2,List.length_append]
 obtain ⟨s3,es3⟩:∃ s,s = s2 ++ crlf:=⟨_,rfl⟩;have ls3:s3.length = s2.length+crlf.length:=by rw [es3,List.length_append]
 obtain ⟨s4,es4⟩:∃ s,s = s3 ++ hostL:=⟨_,rfl⟩;have ls4:s4.length = s3.length+hostL.length:=by rw [es4,List.length_append]
 obtain ⟨s5,es5⟩:∃ s,s = s4 ++ crlf:=⟨_,rfl⟩;have ls5:s5.length = s4.length+crlf.length:=by rw [es5,List.length_append]
 obtain ⟨s6,es6⟩:∃ s,s = s5 ++ ctypeL:=⟨_,rfl⟩;have ls6:s6.length = s5.length+ctypeL.length:=by rw [es6,List.length_append]
 obtain ⟨s7,es7⟩:∃ s,s = s6 ++ crlf:=⟨_,rfl⟩;have ls7:s7.length = s6.length+crlf.length:=by rw [es7,List.length_append]
 simp only [postL,httpL,hostL,ctypeL,crlf,List.length_cons,List.length_nil] at ls1 ls2 ls3 ls4 ls5 ls6 ls7;have cs1:=zU es1 (by (try simp only [postL,List.length_cons,List.length_nil]);omega);have cs2:=zU es2 (by (try simp only [httpL,List.length_cons,List.length_nil]);omega);have cs3:=zU es3 (by (try simp only [crlf,List.length_cons,List.length_nil]);omega);have cs4:=zU es4 (by (try simp only [hostL,List.length_cons,List.length_nil]);omega);have cs5:=zU es5 (by (try simp only [crlf,List.length_cons,List.length_nil]);omega);have cs6:=zU es6 (by (try simp only [ctypeL,List.length_cons,List.length_nil]);omega);have cs7:=zU es7 (by (try simp only [crlf,List.length_cons,List.length_nil]);omega);simp only [postL,httpL,hostL,ctypeL,crlf] at cs1 cs2 cs3 cs4 cs5 cs6 cs7
 have Qm:j9 p = s7:=by
  simp [j9,es7,es6,es5,es4,es3,es2,es1]
 rw [Qm];clear Qm es1 es2 es3 es4 es5 es6 es7 ls1 ls2 ls3 ls4 ls5 ls6 ls7 hp;refine qq Tryz.func50 rfl ⟨rfl,rfl⟩ ?_;simp [Tryz.f50,-Go.Ev.strD,cs1,cs2,cs3,cs4,cs5,cs6,cs7]
def qdn:List UInt8:=[50,48,48,32,79,75]
def qeA:List UInt8:=[52,48,48,32,66,97,100,32,82,101,113,117,101,115,116]
def qeu:List UInt8:=[52,48,57,32,67,111,110,102,108,105,99,116]
def Z8 (n:Int):List UInt8:=[72,84,84,80,47,49,46,49,32] ++ ((if n = 400 then qeA else if n = 409 then qeu else qdn) ++ [13,10])
theorem qlC [MaxL] [TxtC] (n:Int):call cx 49 [.int .i64 n] [] = some (.str (Z8 n),[]):=by
 refine qq Tryz.func49 rfl ⟨rfl,rfl⟩ ?_;unfold Z8;by_cases h1:n = 400
 ·simp [Tryz.f49,h1,qeA]
 ·by_cases h2:n = 409
  ·simp [Tryz.f49,h2,qeu]
  ·simp [Tryz.f49,h1,h2,qdn]
def jr:List UInt8:=[47,104,101,108,108,111]
def zY:List UInt8:=[47,98,97,116,99,104]
def XA (r:Rq):Sl UInt8:=if r.path == jr || r.path == zY then Vl (j9 r.path) r.epoch.toNat r.number.toNat r.body.l else .none
def kN (r:Rs):Sl UInt8:=if r.status = 200∨r.status = 400∨r.status = 409 then Vl (Z8 r.status) r.epoch.toNat r.number.toNat r.body.l else .none
theorem qft (n:Int):(Z8 n).length≤30:=by
 unfold Z8;split
 ·decide
 ·split <;> decide
theorem Y6 [MaxL] [TxtC] (r:Rs) (he:qw r.epoch) (hn:qw r.number) (hb:r.body.l.length≤100000):call cx 34 [.agg (Enc.cells r)] [] = some ((.vsl (kN r).nil (qd (kN r).l) (kN r).l.length),[]):=by
 have h2:=qlC r.status;have h3:=qnF (Z8 r.status) (by have:=qft r.status;omega) r.epoch.toNat r.number.toNat (by unfold qw at he;omega) (by unfold qw at hn;omega) r.body hb;have e1:((r.epoch.toNat:Nat):Int) = r.epoch:=by unfold qw at he;omega
 have e2:((r.number.toNat:Nat):Int) = r.number:=by unfold qw at hn;omega
 rw [e1,e2] at h3;refine qq Tryz.func34 rfl ⟨rfl,rfl⟩ ?_;unfold kN;generalize Vl (Z8 r.status) r.epoch.toNat r.number.toNat r.body.l = x at *;by_cases a1:r.status = 200
 ·rw [a1] at h2 h3;simp [Tryz.f34,Rs.cells,a1,h2,h3]
 ·by_cases a2:r.status = 400
  ·rw [a2] at h2 h3;simp [Tryz.f34,Rs.cells,a2,h2,h3]
  ·by_cases a3:r.status = 409
   ·rw [a3] at h2 h3;simp [Tryz.f34,Rs.cells,a3,h2,h3]
   ·simp [Tryz.f34,Rs.cells,a1,a2,a3]
def kg (line rest:List UInt8):Option (Nat × List UInt8):=match pu 10 (jF line (jt crlf rest).1) with
 | none=>none
 | some v=>some (v,(jt crlf rest).2.1)
def vz (s b:List UInt8):Option (Nat × Nat × Nat):=if pre b s then
 match kg epochL (s.drop b.length) with
 | none=>none
 | some (x,r1)=>match kg numberL r1 with
  | none=>none
  | some (y,r2)=>match kg lengthL r2 with
   | none=>none
   | some (z,_)=>if b ++ vg x y z = s then some (x,y,z) else none
 else none
theorem qdM [MaxL] [TxtC] (rest line:List UInt8) (hr:rest.length < 100000) (hl:line.length < 100) :
  ∃ a f,call cx 127 [.str rest,.str [13,10]] [] = some (.tup [.str a,.str (jt crlf rest).2.1,.bool f],[])∧call cx 129 [.str a,.str line] [] = some (.str (jF line a),[]) ∧
   ((∃ v,kg line rest = some (v,(jt crlf rest).2.1)∧v < 18446744073709551616∧call cx 128 [.str (jF line a),.int .i64 10,.int .i64 64] [] = some (.tup [.int .u64 (v:Nat),.nili],[])) ∨
   (kg line rest = none∧∃ (x:Nat) (d:List D),call cx 128 [.str (jF line a),.int .i64 10,.int .i64 64] [] = some (.tup [.int .u64 x,.iface 232 (.vptr d)],[]))):=by
 have h1:=qj7 rest crlf (by omega) (by decide);have hc:=qac crlf rest;have h2:=qfc (jt crlf rest).1 line (by omega) (by omega);refine ⟨(jt crlf rest).1,(jt crlf rest).2.2,h1,h2,?_⟩;unfold kg;have ht:=qaA line (jt crlf rest).1;rcases qda 10 (.inl rfl) (jF line (jt crlf rest).1) (by omega) with ⟨v,e1,e2⟩ | ⟨e1,x,d,e2⟩
 ·refine .inl ⟨v,by rw [e1],?_,e2⟩;unfold pu at e1;split at e1
  ·cases e1
  ·exact XB 10 _ _ _ (by decide) e1
 ·exact .inr ⟨by rw [e1],x,d,e2⟩
def qhl (r0:List UInt8):Nat→Nat→Nat→Nat→List UInt8→Prop
 | 0,x,y,z,r=>x = 0∧y = 0∧z = 0∧r = r0
 | 1,x,y,z,r=>kg epochL r0 = some (x,r)∧y = 0∧z = 0
 | 2,x,y,z,r=>z = 0∧∃ r1,kg epochL r0 = some (x,r1)∧kg numberL r1 = some (y,r)
 | _,x,y,z,r=>∃ r1 r2,kg epochL r0 = some (x,r1)∧kg numberL r1 = some (y,r2)∧kg lengthL r2 = some (z,r)
set_option maxHeartbeats 2000000 in
theorem qoA [MaxL] [TxtC] (s b:List UInt8) (hs:s.length < 100000) (hb:b.length≤1000) :
  (∃ x y z,vz s b = some (x,y,z)∧call cx 84 [.str s,.str b] [] = some (.tup [.agg [.int .u64 (x:Nat),.int .u64 (y:Nat),.int .u64 (z:Nat)],.bool true],[])) ∨
  (vz s b = none∧∃ x y z:Nat,call cx 84 [.str s,.str b] [] = some (.tup [.agg [.int .u64 x,.int .u64 y,.int .u64 z],.bool false],[])):=by
 suffices h:∃ r,call cx 84 [.str s,.str b] [] = some r∧((∃ x y z:Nat,vz s b = some (x,y,z)∧r = (.tup [.agg [.int .u64 x,.int .u64 y,.int .u64 z],.bool true],[]))∨(vz s b = none∧∃ x y z:Nat,r = (.tup [.agg [.int .u64 x,.int .u64 y,.int .u64 z],.bool false],[]))) by
  obtain ⟨r,h1,⟨x,y,z,h2,rfl⟩ | ⟨h2,x,y,z,rfl⟩⟩:=h
  ·exact .inl ⟨x,y,z,h2,h1⟩
  ·exact .inr ⟨h2,x,y,z,h1⟩
 refine vf (fun r=>(∃ x y z:Nat,vz s b = some (x,y,z)∧r = (D.tup [.agg [.int .u64 x,.int .u64 y,.int .u64 z],.bool true],[]))∨(vz s b = none∧∃ x y z:Nat,r = (D.tup [.agg [.int .u64 x,.int .u64 y,.int .u64 z],.bool false],[]))) Tryz.func84 rfl ⟨rfl,rfl⟩ ?_;have h0:=quI s b (by omega) (by omega);cases hp:pre b s with
 | false =>
  rw [hp] at h0;simp [Tryz.f84,h0,vz,hp];exact ⟨0,rfl⟩
 | true =>
  rw [hp,if_pos rfl] at h0
  have hN:vz s b = match kg epochL (s.drop b.length) with
    | none=>none
    | some (x,r1)=>match kg numberL r1 with
     | none=>none
     | some (y,r2)=>match kg lengthL r2 with
      | none=>none
      | some (z,_)=>if b ++ vg x y z = s then some (x,y,z) else none:=by rw [vz,if_pos hp]
  obtain ⟨r0,hr0⟩:∃ r,r = s.drop b.length:=⟨_,rfl⟩;rw [← hr0] at hN h0;have hr0l:r0.length≤s.length:=by rw [hr0];simp
  simp [Tryz.f84,h0]
  refine Run.loopThen (fun (q:Nat × Nat × Nat × Nat × List UInt8) e H'=>q.1≤3∧q.2.2.2.2.length≤s.length∧q.2.1 < 18446744073709551616∧q.2.2.1 < 18446744073709551616∧q.2.2.2.1 < 18446744073709551616∧qhl r0 q.1 q.2.1 q.2.2.1 q.2.2.2.1 q.2.2.2.2 ∧
   H' = [some [.int .u64 0,.int .u64 0,.int .u64 0],some [.int .u64 (q.2.1:Nat),.int .u64 (q.2.2.1:Nat),.int .u64 (q.2.2.2.1:Nat)],some [.str epochL,.str numberL,.str lengthL]] ∧
   qf e 0 = some (.str s)∧qf e 1 = some (.str b)∧qf e 4 = some (.optr 0 3 0)∧qf e 6 = some (.optr 1 3 0)∧qf e 7 = some (.str q.2.2.2.2)∧qf e 25 = some (.osl 2 3 0 3 1)∧qf e 26 = some (.int .i64 3)∧qf e 27 = some (.int .i64 (q.1:Nat))) (fun q=>3 - q.1) (0,0,0,0,r0) ?_ ?_
  ·simp [qhl,hr0l,epochL,numberL,lengthL]
  rintro ⟨i,x,y,z,r⟩ e H' ⟨hi,hrl,hx,hy,hz,hI,rfl,k0,k1,k4,k6,k7,k25,k26,k27⟩;simp only at hi hrl hx hy hz hI k7 k27;have hcut:=qac crlf r;have:i = 0∨i = 1∨i = 2∨i = 3:=by omega
  rcases this with rfl | rfl | rfl | rfl
  ·obtain ⟨rfl,rfl,rfl,rfl⟩:=hI;obtain ⟨a,f,c1,c2,⟨v,c3,hv,c4⟩ | ⟨c3,xx,d,c4⟩⟩:=qdM r epochL (by omega) (by decide)
   ·simp [k0,k1,k4,k6,k7,k25,k26,k27,c1,c2,c4];exact ⟨1,by omega,by omega,v,0,0,_,by omega,hv,by omega,by omega,⟨c3,rfl,rfl⟩,⟨rfl,rfl,rfl⟩,rfl,rfl⟩
   ·rw [c3] at hN;simp [k0,k1,k4,k6,k7,k25,k26,k27,c1,c2,c4];exact ⟨hN,0,rfl⟩
  ·obtain ⟨hI1,rfl,rfl⟩:=hI;obtain ⟨a,f,c1,c2,⟨v,c3,hv,c4⟩ | ⟨c3,xx,d,c4⟩⟩:=qdM r numberL (by omega) (by decide)
   ·simp [k0,k1,k4,k6,k7,k25,k26,k27,c1,c2,c4];exact ⟨2,by omega,by omega,x,v,0,_,by omega,hx,hv,by omega,⟨rfl,_,hI1,c3⟩,⟨rfl,rfl,rfl⟩,rfl,rfl⟩
   ·rw [hI1] at hN;simp only [c3] at hN;simp [k0,k1,k4,k6,k7,k25,k26,k27,c1,c2,c4];exact ⟨hN,⟨x,rfl⟩,0,rfl⟩
  ·obtain ⟨rfl,r1,hI1,hI2⟩:=hI;obtain ⟨a,f,c1,c2,⟨v,c3,hv,c4⟩ | ⟨c3,xx,d,c4⟩⟩:=qdM r lengthL (by omega) (by decide)
   ·simp [k0,k1,k4,k6,k7,k25,k26,k27,c1,c2,c4];exact ⟨3,by omega,by omega,x,y,v,_,by omega,hx,hy,hv,⟨_,_,hI1,hI2,c3⟩,⟨rfl,rfl,rfl⟩,rfl,rfl⟩
   ·rw [hI1] at hN;simp only [hI2,c3] at hN;simp [k0,k1,k4,k6,k7,k25,k26,k27,c1,c2,c4];exact ⟨hN,⟨x,rfl⟩,⟨y,rfl⟩,0,rfl⟩
  ·obtain ⟨r1,r2,hI1,hI2,hI3⟩:=hI;rw [hI1] at hN;simp only [hI2,hI3] at hN;have hh:=qio b hb x y z hx hy hz;by_cases he:b ++ vg x y z = s
   ·rw [if_pos he] at hN;rw [he] at hh;simp [k0,k1,k4,k6,k7,k25,k26,k27,hh];exact ⟨x,y,z,hN,rfl,rfl,rfl⟩
   ·rw [if_neg he] at hN;have he':(b ++ vg x y z == s) = false:=(by simpa using he);generalize b ++ vg x y z = w at *;simp [k0,k1,k4,k6,k7,k25,k26,k27,hh,he'];exact ⟨hN,⟨x,rfl⟩,⟨y,rfl⟩,z,rfl⟩
def stopL:List UInt8:=[13,10,13,10]
def QY (s:List UInt8) (body:List UInt8):List (List UInt8)→Nat→Msg × Int
 | [],_=>(.zero,20)
 | b :: l,k=>match vz s b with
  | none=>QY s body l (k+1)
  | some (x,y,z)=>if 65536 < z then (.zero,21) else if body.length < z then (.zero,22) else if z < body.length then (.zero,21) else (⟨k,x,y,.of body⟩,0)
def vp (b:List UInt8) (l:List (List UInt8)):Msg × Int:=if zT stopL b 0 = -1 then (.zero,22) else QY (b.take ((zT stopL b 0).toNat+4)) (b.drop ((zT stopL b 0).toNat+4)) l 0
theorem qty [MaxL] [TxtC] (b:Sl UInt8) (hb:b.l.length≤100000):call cx 83 [(.vsl b.nil (qd b.l) b.l.length),.vsl false [.int .u8 13,.int .u8 10,.int .u8 13,.int .u8 10] 4] [] = some (.int .i64 (zT stopL b.l 0),[]):=by
 refine Vv ?_;have e:[D.int .u8 13,.int .u8 10,.int .u8 13,.int .u8 10] = qd stopL:=rfl;rw [qey,e];simp only [XR,qcc];rw [if_pos ⟨trivial,rfl,by decide,by omega,by decide⟩]
structure StrE where
 s:List UInt8
instance:Enc StrE:=⟨1,fun p=>[.str p.s],fun _=>rfl,fun _=>rfl⟩
set_option maxHeartbeats 2000000 in
theorem qtl [MaxL] [TxtC] (b:Sl UInt8) (hb:b.l.length≤90000) (l:List (List UInt8)) (hl:l.length≤3) (zZ:∀ x∈l,x.length≤1000) :
  call cx 48 [(.vsl b.nil (qd b.l) b.l.length),.vsl false (l.map D.str) l.length] [] = some (.tup [.agg (Enc.cells (vp b.l l).1),.int .i64 (vp b.l l).2],[]):=by
 have hi:=qty b (by omega);refine qq Tryz.func48 rfl ⟨rfl,rfl⟩ ?_;unfold vp;rcases XI stopL b.l 0 with ⟨i,h1,h2,-⟩ | h1
 ·rw [h1] at hi;rw [h1,if_neg (by omega)];have e0:((0+i:Nat):Int).toNat = i:=by omega
  rw [e0];have kp:i+4≤b.l.length:=h2;rw [Nat.zero_add] at hi;have hi0:¬ (i:Int) < 0:=by omega
  obtain ⟨j,hj⟩:∃ j,j = i+4:=⟨_,rfl⟩;have hw:IntKind.i64.wrap ((i:Int)+4) = (j:Int):=by rw [wrap_i64] <;> omega
  have g1:(j:Int)≤(b.l.length:Int):=by omega
  have g2:j≤b.l.length:=by omega
  rw [← hj];have t1:List.take j (qd b.l) = qd (b.l.take j):=vK _ _;have t2:List.drop j (qd b.l) = qd (b.l.drop j):=Qy _ _;have hsl:(b.l.take j).length = j:=by rw [List.length_take];omega
  have Q4:(b.l.drop j).length = b.l.length - j:=List.length_drop ..
  have hbn:b.nil = false:=by
   cases hn:b.nil with
   | false=>rfl
   | true=>have:=b.h hn;rw [this] at g2;simp at g2;omega
  generalize b.l.take j = s at *;generalize zy:b.l.drop j = body at *;have hbl2:body.length≤90000:=by omega
  have t3:List.take (b.l.length - j) (qd body) = qd body:=List.take_of_length_le (by simp;omega);rw [hbn] at hi;simp [Tryz.f48,hi,hi0,hw,g1,t1,t2,t3,hbn,hsl];generalize b.l.length - j = bl at *;have wb:IntKind.u64.wrap (bl:Int) = (bl:Int):=by rw [qK];omega
  have ex:∀ k x,l[k]? = some x→(l.map D.str).drop k = .str x :: (l.map D.str).drop (k+1):=fun k x hk=>by
   have qg:k < l.length:=(List.getElem?_eq_some_iff.1 hk).1;rw [List.drop_eq_getElem_cons (by simpa using qg)];congr 1;rw [List.getElem?_eq_getElem qg] at hk;simp [Option.some.inj hk]
  refine Run.loopThen (fun (k:Nat) e H'=>k≤l.length∧QY s body (l.drop k) k = QY s body l 0 ∧
   ((H' = [some [.int .i64 0,.int .u64 0,.int .u64 0,.vsl true [] 0],some [.int .u8 13,.int .u8 10,.int .u8 13,.int .u8 10]])∨∃ w,H' = [some [.int .i64 0,.int .u64 0,.int .u64 0,.vsl true [] 0],some [.int .u8 13,.int .u8 10,.int .u8 13,.int .u8 10],w]) ∧
   qf e 4 = some (.optr 0 4 0)∧qf e 8 = some (.str s)∧qf e 9 = some (.vsl false (qd body) bl)∧qf e 35 = some (.vsl false (l.map D.str) l.length)∧qf e 36 = some (.int .i64 l.length)∧qf e 37 = some (.int .i64 k)) (fun k=>l.length - k) 0 ?_ ?_
  ·simp
  rintro k e H' ⟨hk,hr,hH,k4,k8,k9,k35,k36,k37⟩;by_cases qg:k < l.length
  ·have qk:(k:Int) < (l.length:Int):=(by omega);have hx:=ex k l[k] (List.getElem?_eq_getElem qg);have zg:IntKind.i64.wrap ((k:Int)+1) = ((k+1:Nat):Int):=(by rw [wrap_i64] <;> omega);rw [List.drop_eq_getElem_cons qg,QY] at hr;have ji:=qe6 (.of body) (by simp;omega);simp at ji;rw [Q4] at ji;rcases qoA s l[k] (by omega) (zZ _ (List.getElem_mem qg)) with ⟨x,y,z,n1,n2⟩ | ⟨n1,x,y,z,n2⟩
   ·rw [n1] at hr;simp only at hr;rw [← hr,Q4];by_cases z1:65536 < z
    ·have z1':(65536:Int) < (z:Int):=(by omega);rcases hH with rfl | ⟨w,rfl⟩ <;> simp [k4,k8,k9,k35,k36,k37,qk,hx,n2,z1,z1']
     ·rfl
     ·rfl
    ·have z1':¬ (65536:Int) < (z:Int):=(by omega);by_cases z2:bl < z
     ·have z2':(bl:Int) < (z:Int):=(by omega);rcases hH with rfl | ⟨w,rfl⟩ <;> simp [k4,k8,k9,k35,k36,k37,qk,hx,n2,z1,z1',z2,z2',wb]
      ·rfl
      ·rfl
     ·have z2':¬ (bl:Int) < (z:Int):=(by omega);by_cases z3:z < bl
      ·have z3':(z:Int) < (bl:Int):=(by omega);rcases hH with rfl | ⟨w,rfl⟩ <;> simp [k4,k8,k9,k35,k36,k37,qk,hx,n2,z1,z1',z2,z2',z3,z3',wb]
       ·rfl
       ·rfl
      ·have z3':¬ (z:Int) < (bl:Int):=(by omega);rcases hH with rfl | ⟨w,rfl⟩ <;> simp [k4,k8,k9,k35,k36,k37,qk,hx,n2,z1,z1',z2,z2',z3,z3',wb,ji]
       ·simp [Msg.cells,Q4]
       ·simp [Msg.cells,Q4]
   ·rw [n1] at hr;simp only at hr;rcases hH with rfl | ⟨w,rfl⟩ <;> simp [k4,k8,k9,k35,k36,k37,qk,hx,n2,zg]
    ·exact ⟨k+1,by omega,by omega,hr,by simp⟩
    ·exact ⟨k+1,by omega,by omega,hr,by simp⟩
  ·have qk:¬ (k:Int) < (l.length:Int):=(by omega);rw [List.drop_eq_nil_of_le (by omega),QY] at hr;rw [← hr];rcases hH with rfl | ⟨w,rfl⟩ <;> simp [k4,k8,k9,k35,k36,k37,qk]
   ·rfl
   ·rfl
 ·rw [h1] at hi;simp [Tryz.f48,hi,h1,Msg.cells,Msg.zero]
theorem qg6 (s body:List UInt8):∀ (l:List (List UInt8)) (k:Nat),(QY s body l k).2 = 0→∃ i x y z b,i < l.length∧l[i]? = some b∧vz s b = some (x,y,z)∧z = body.length∧body.length≤65536∧QY s body l k = (⟨((k+i:Nat):Int),x,y,.of body⟩,0)
 | [],k,h=>by simp [QY] at h
 | b :: l,k,h=>by
  unfold QY at h ⊢;cases hn:vz s b with
  | none =>
   rw [hn] at h;obtain ⟨i,x,y,z,b',h1,h2,h3,h4,h5,h6⟩:=qg6 s body l (k+1) h;exact ⟨i+1,x,y,z,b',by simp;omega,by simpa using h2,h3,h4,h5,by simp only;rw [h6];congr 2;congr 1;omega⟩
  | some v =>
   obtain ⟨x,y,z⟩:=v;rw [hn] at h;simp only at h ⊢;by_cases h1:65536 < z
   ·rw [if_pos h1] at h;simp at h
   ·rw [if_neg h1] at h ⊢;by_cases h2:body.length < z
    ·rw [if_pos h2] at h;simp at h
    ·rw [if_neg h2] at h ⊢;by_cases h3:z < body.length
     ·rw [if_pos h3] at h;simp at h
     ·rw [if_neg h3] at h ⊢;exact ⟨0,x,y,z,b,by simp,by simp,hn,by omega,by omega,by simp⟩
theorem qn0 {b:List UInt8} {l:List (List UInt8)} (h:(vp b l).2 = 0):∃ i x y,i < l.length∧vp b l = (⟨(i:Int),x,y,(vp b l).1.body⟩,0)∧(vp b l).1.epoch = x∧(vp b l).1.number = y:=by
 unfold vp at h ⊢;split at h
 ·simp at h
 ·rename_i hh;rw [if_neg hh];obtain ⟨i,x,y,z,b',h1,h2,h3,h4,h5,h6⟩:=qg6 _ _ l 0 h;rw [h6,Nat.zero_add];exact ⟨i,x,y,h1,rfl,rfl,rfl⟩
def Kl (k:Int):List UInt8:=if k = 0 then jr else zY
def rqL:List (List UInt8):=[j9 jr,j9 zY]
def vy (b:List UInt8):Rq × Int:=if (vp b rqL).2 = 0 then (⟨Kl (vp b rqL).1.kind,(vp b rqL).1.epoch,(vp b rqL).1.number,(vp b rqL).1.body⟩,0) else (⟨[],0,0,.none⟩,(vp b rqL).2)
theorem qg8 [MaxL] [TxtC] (b:Sl UInt8) (hb:b.l.length≤90000):call cx 22 [(.vsl b.nil (qd b.l) b.l.length)] [] = some (.tup [.agg (Enc.cells (vy b.l).1),.int .i64 (vy b.l).2],[]):=by
 have h:=qtl b hb rqL (by decide) (by decide);have h1:=qki jr (by decide);have h2:=qki zY (by decide);refine qq Tryz.func22 rfl ⟨rfl,rfl⟩ ?_;unfold vy;have e1:List.map D.str rqL = [.str (j9 jr),.str (j9 zY)]:=rfl;have e2:rqL.length = 2:=rfl;have p1:[47,104,101,108,108,111] = jr:=rfl;have p2:[47,98,97,116,99,104] = zY:=rfl;rw [e1,e2] at h;generalize hm:vp b.l rqL = m at *;by_cases hz:m.2 = 0
 ·obtain ⟨i,x,y,hi,hr,q1,q2⟩:=qn0 (b:=b.l) (l:=rqL) (by rw [hm];exact hz);rw [hm] at hr q1 q2;obtain ⟨⟨k,x',y',bd⟩,c⟩:=m;simp only [Prod.mk.injEq,Msg.mk.injEq] at hr hz q1 q2;obtain ⟨⟨rfl,rfl,rfl,-⟩,rfl⟩:=hr;have:i = 0∨i = 1:=by rw [e2] at hi;omega
  simp [Msg.cells] at h;rcases this with rfl | rfl
  ·simp [Tryz.f22,p1,p2,h1,h2,h,Kl,Rq.cells]
  ·simp [Tryz.f22,p1,p2,h1,h2,h,Kl,Rq.cells]
 ·simp [Tryz.f22,p1,p2,h1,h2,h,hz,Rq.cells]
theorem qj0:∀ (f v:Nat),∀ x∈vH f v,x≠13
 | 0,_=>by simp [vH]
 | f+1,v=>by
  have key:∀ k,k < 10→UInt8.ofNat (48+k)≠13:=fun k hk e=>by
   have:=congrArg UInt8.toNat e;rw [UInt8.toNat_ofNat_of_lt' (show 48+k < 256 by omega)] at this;simp at this;omega
  rw [vH];split
  ·intro x hx;rw [List.mem_singleton.1 hx];exact key v (by assumption)
  ·intro x hx;rcases List.mem_append.1 hx with h | h
   ·exact qj0 f _ x h
   ·rw [List.mem_singleton.1 h];exact key _ (Nat.mod_lt _ (by decide))
theorem qbS (v:Nat):∀ x∈qz v,x≠13:=qj0 20 v
theorem qhT {sep:List UInt8} {a:UInt8} (hs:sep.head? = some a):∀ (A B:List UInt8) (n:Nat),(∀ x∈A,x≠a)→zT sep (A ++ B) n = zT sep B (n+A.length)
 | [],B,n,_=>by simp
 | x :: A,B,n,h=>by
  have hx:x≠a:=h x (by simp)
  obtain ⟨sep',rfl⟩:∃ l,sep = a :: l:=by
   cases sep with
   | nil=>simp at hs
   | cons y l=>simp at hs;subst hs;exact ⟨l,rfl⟩
  rw [List.cons_append,zT]
  have:((a :: sep').isPrefixOf (x :: (A ++ B))) = false:=by
   simp only [List.isPrefixOf,Bool.and_eq_false_iff];left;simpa using Ne.symm hx
  rw [this,if_neg (by decide),qhT hs A B (n+1) fun y hy=>h y (by simp [hy])];congr 1;simp;omega
theorem qsR (sep B:List UInt8) (n:Nat) (h:sep≠[]):zT sep (sep ++ B) n = (n:Int):=by
 have hp:sep.isPrefixOf (sep ++ B) = true:=by simp
 cases sep with
 | nil=>exact absurd rfl h
 | cons a l=>rw [List.cons_append,zT,← List.cons_append,if_pos hp]
theorem quL (A B:List UInt8) (h:∀ x∈A,x≠13):jt crlf (A ++ (crlf ++ B)) = (A,B,true):=by
 have hi:zT crlf (A ++ (crlf ++ B)) 0 = (A.length:Int):=by
  rw [qhT (a:=13) rfl A _ 0 h,Nat.zero_add];exact qsR crlf B _ (by decide)
 unfold jt;rw [hi,if_neg (by omega)];have e:((A.length:Nat):Int).toNat = A.length:=by omega
 rw [e]
 have e2:List.drop (A.length+crlf.length) (A ++ (crlf ++ B)) = B:=by
  rw [← List.append_assoc,← List.length_append];exact List.drop_left
 rw [e2,List.take_left]
theorem qkX (p s:List UInt8):jF p (p ++ s) = s:=by
 unfold jF pre;simp
theorem qd1 (line:List UInt8) (hl:∀ x∈line,x≠13) {D:List UInt8} (hD:∀ x∈D,x≠13) (B:List UInt8):kg line (line ++ (D ++ (crlf ++ B))) = match pu 10 D with
  | none=>none
  | some v=>some (v,B):=by
 unfold kg
 rw [← List.append_assoc,quL (line ++ D) B (fun x hx=>by
  rcases List.mem_append.1 hx with h | h
  ·exact hl x h
  ·exact hD x h)]
 simp only [qkX] <;> cases pu 10 D <;> rfl
def Xd (e n:Nat) (D:List UInt8):List UInt8:=epochL ++ (qz e ++ (crlf ++ (numberL ++ (qz n ++ (crlf ++ (lengthL ++ (D ++ (crlf ++ crlf))))))))
theorem qhh (e n l:Nat):Xd e n (qz l) = vg e n l:=rfl
theorem qoB (b:List UInt8) (e n:Nat) (he:e < 18446744073709551616) (hn:n < 18446744073709551616) (D:List UInt8) (hD:∀ x∈D,x≠13) :
  vz (b ++ Xd e n D) b = match pu 10 D with
   | none=>none
   | some v=>if qz v = D then some (e,n,v) else none:=by
 have hpre:pre b (b ++ Xd e n D) = true:=by unfold pre;simp
 have e1:kg epochL (Xd e n D) = some (e,numberL ++ (qz n ++ (crlf ++ (lengthL ++ (D ++ (crlf ++ crlf)))))):=by
  unfold Xd;rw [qd1 epochL (by decide) (qbS e),Ki he]
 have e2:kg numberL (numberL ++ (qz n ++ (crlf ++ (lengthL ++ (D ++ (crlf ++ crlf)))))) = some (n,lengthL ++ (D ++ (crlf ++ crlf))):=by
  rw [qd1 numberL (by decide) (qbS n),Ki hn]
 have e3:kg lengthL (lengthL ++ (D ++ (crlf ++ crlf))) = match pu 10 D with
   | none=>none
   | some v=>some (v,crlf):=qd1 lengthL (by decide) hD crlf
 rw [vz,if_pos hpre,List.drop_left,e1];simp only [e2,e3];cases hp:pu 10 D with
 | none=>rfl
 | some v =>
  simp only
  have:(b ++ vg e n v = b ++ Xd e n D)↔qz v = D:=by
   rw [← qhh];unfold Xd;simp
  simp [this]
theorem qo7 (b:List UInt8) (e n l:Nat) (he:e < 18446744073709551616) (hn:n < 18446744073709551616) (hl:l < 18446744073709551616):vz (b ++ vg e n l) b = some (e,n,l):=by
 rw [← qhh,qoB b e n he hn (qz l) (qbS l),Ki hl];simp
theorem qhi {s b:List UInt8} (h:pre b s = false):vz s b = none:=by
 rw [vz,h,if_neg (by decide)]
theorem qhj {s b:List UInt8} {x y z:Nat} (h:vz s b = some (x,y,z)):s = b ++ vg x y z:=by
 unfold vz at h;split at h
 ·split at h
  ·cases h
  ·split at h
   ·cases h
   ·split at h
    ·cases h
    ·split at h
     ·rename_i he;injection h with h;injection h with h1 h;injection h with h2 h3;subst h1;subst h2;subst h3;exact he.symm
     ·cases h
 ·cases h
theorem qnN {b c:List UInt8} (X:List UInt8) (i:Nat) (hb:i < b.length) (hc:i < c.length) (h:b[i]?≠c[i]?):pre b (c ++ X) = false:=by
 unfold pre;rw [beq_eq_false_iff_ne];intro e;have:(List.take b.length (c ++ X))[i]? = b[i]?:=by rw [e]
 rw [List.getElem?_take_of_lt hb,List.getElem?_append_left hc] at this;exact h this.symm
theorem qwg (X:List UInt8):pre (j9 zY) (j9 jr ++ X) = false:=qnN X 6 (by decide) (by decide) (by decide)
def Xq (k:Nat) (x y z:Nat) (body:List UInt8):Msg × Int:=if 65536 < z then (.zero,21) else if body.length < z then (.zero,22) else if z < body.length then (.zero,21) else (⟨k,x,y,.of body⟩,0)
theorem qcW (s body b:List UInt8) (l:List (List UInt8)) (k:Nat):QY s body (b :: l) k = match vz s b with
  | none=>QY s body l (k+1)
  | some (x,y,z)=>Xq k x y z body:=rfl
section
variable (e n:Nat) (he:e < 18446744073709551616) (hn:n < 18446744073709551616) (body:List UInt8) (hb:body.length≤65536)
include he hn hb
end
end Go.Ev.S
namespace Go.Ev.S
open Go Go.Proofs Go.Ev
theorem qnB (p:List UInt8) (hp:p = jr∨p = zY) (e n:Int) (b:Sl UInt8) (hb:b.l.length≤65536):XA ⟨p,e,n,b⟩ = .of (j9 p ++ (vg e.toNat n.toNat b.l.length ++ b.l)):=by
 have h1:(p == jr || p == zY) = true:=by rcases hp with rfl | rfl <;> decide
 unfold XA Vl;simp only [h1,if_true];rw [if_neg (by omega)]
theorem qmI (p:List UInt8) (hp:p = jr∨p = zY) (e n:Nat) (b:List UInt8):(j9 p ++ (vg e n b.length ++ b)).length≤300+b.length:=by
 have h1:=qbh e n b.length;have h2:(j9 p).length = 81:=by rcases hp with rfl | rfl <;> decide
 simp only [List.length_append];omega
theorem qkj (s:RSt) (q:Rq):(jf s q).2.ep = s.ep:=by
 unfold jf VP
 repeat' split
 all_goals rfl
theorem qwi (s:RSt) (q:Rq):∃ l,(jf s q).2.its = s.its ++ l:=by
 unfold jf VP
 repeat' split
 all_goals first | exact ⟨[],(List.append_nil _).symm⟩ | exact ⟨_,rfl⟩
def HearQ (s':RSt) (x:Sl UInt8) (r:D × qi):Prop:= ∃ d' T',ZY s'.its d' T'∧r = ((.vsl x.nil (qd x.l) x.l.length),some (s'.A d') :: T')
theorem HearQ.mk {s':RSt} {x:Sl UInt8} {d':D} {T':qi} (hs:ZY s'.its d' T'):HearQ s' x ((.vsl x.nil (qd x.l) x.l.length),some (s'.A d') :: T'):=⟨d',T',hs,rfl⟩
set_option maxHeartbeats 8000000 in
set_option maxRecDepth 8000 in
theorem qtt [MaxL] (s:RSt) (hm:s.mks.l.length≤1000000) (hL:s.its.length≤1000000000) (d:D) (T:qi) (zA:ZY s.its d T) (b:Sl UInt8) (hb:b.l.length≤90000) (e n:Int) (o:Sl UInt8) (hr:vy b.l = (⟨zY,e,n,o⟩,0)) (hge:¬ e < s.ep) (hep:qw s.ep) (hnn:qw n) (ho:o.l.length < 1000000) :
  ∃ r,call cx 12 [.optr 0 4 0,(.vsl b.nil (qd b.l) b.l.length)] (some (s.A d) :: T) = some r∧HearQ (jf s ⟨zY,e,n,o⟩).2 (kN ⟨(jf s ⟨zY,e,n,o⟩).1,s.ep,n,.none⟩) r:=by
 have h1:=qg8 b hb;rw [hr] at h1;obtain ⟨r0,hc,d',T',hsh',rfl⟩:=qn7 s ⟨zY,e,n,o⟩ ho hm hL d T zA;have h2:=Y6 ⟨(jf s ⟨zY,e,n,o⟩).1,s.ep,n,.none⟩ hep hnn (by simp);have hpe:=qkj s ⟨zY,e,n,o⟩;have hpi:=qwi s ⟨zY,e,n,o⟩;generalize jf s ⟨zY,e,n,o⟩ = R at *;obtain ⟨c,s'⟩:=R;simp only at hc hsh' h2 hpe hpi ⊢;obtain ⟨ep,la,its,mk⟩:=s;obtain ⟨ep',la',its',mk'⟩:=s';simp only at hm hL zA hge hep hsh' h2 hpe hpi ⊢;subst hpe;simp only [Rq.cells,Rs.cells,RSt.A] at h1 h2 hc;generalize hz:kN ⟨c,ep',n,.none⟩ = z at *;replace h2:call cx 34 [.agg [.int .i64 c,.int .u64 ep',.int .u64 n,.vsl true [] 0]] [] = some ((.vsl z.nil (qd z.l) z.l.length),[]):=by simpa using h2
 have hs:(zY == [47,104,101,108,108,111]) = false:=by decide
 have hls:(qd o.l).length = o.l.length:=by simp
 rcases zA with ⟨rfl,rfl,rfl⟩ | ⟨qr,n1,k1,zx,hk1,rfl,rfl⟩
 ·rcases hsh' with ⟨rfl,rfl,rfl⟩ | ⟨hne2,n2,k2,vr,hk2,rfl,rfl⟩
  ·refine vf (X:=cx) (f:=12) (args:=[.optr 0 4 0,(.vsl b.nil (qd b.l) b.l.length)]) (H:=[some [.int .u64 ep',.int .u64 la,.vsl true [] 0,(.vsl mk.nil (qh mk.l) mk.l.length)]]) (HearQ ⟨ep',la',[],mk'⟩ z) Tryz.func12 rfl ⟨rfl,rfl⟩ ?_;replace hc:call cx 36 [.optr 0 4 0,.agg [.str zY,.int .u64 e,.int .u64 n,(.vsl o.nil (qd o.l) o.l.length)]] [some [.int .u64 ep',.int .u64 la,.vsl true [] 0,(.vsl mk.nil (qh mk.l) mk.l.length)]] = some (.int .i64 c,[some [.int .u64 ep',.int .u64 la',.vsl true [] 0,(.vsl mk'.nil (qh mk'.l) mk'.l.length)]]):=hc;simp [Tryz.f12,h1,hc,h2,hge,hs,Xa,Xk];exact HearQ.mk (.inl ⟨rfl,rfl,rfl⟩)
  ·refine vf (X:=cx) (f:=12) (args:=[.optr 0 4 0,(.vsl b.nil (qd b.l) b.l.length)]) (H:=[some [.int .u64 ep',.int .u64 la,.vsl true [] 0,(.vsl mk.nil (qh mk.l) mk.l.length)]]) (HearQ ⟨ep',la',its',mk'⟩ z) Tryz.func12 rfl ⟨rfl,rfl⟩ ?_;replace hc:call cx 36 [.optr 0 4 0,.agg [.str zY,.int .u64 e,.int .u64 n,(.vsl o.nil (qd o.l) o.l.length)]] [some [.int .u64 ep',.int .u64 la,.vsl true [] 0,(.vsl mk.nil (qh mk.l) mk.l.length)]] = some (.int .i64 c,[some [.int .u64 ep',.int .u64 la',.osl 1 n2 0 k2 39,(.vsl mk'.nil (qh mk'.l) mk'.l.length)],some (qh its')]):=hc;simp [Tryz.f12,h1,hc,h2,hge,hs,Xa,Xk];exact HearQ.mk (.inr ⟨hne2,n2,k2,vr,hk2,rfl,rfl⟩)
 ·rcases hsh' with ⟨rfl,rfl,rfl⟩ | ⟨hne2,n2,k2,vr,hk2,rfl,rfl⟩
  ·obtain ⟨l,hl⟩:=hpi;exact absurd (List.append_eq_nil_iff.1 hl.symm).1 qr
  ·refine vf (X:=cx) (f:=12) (args:=[.optr 0 4 0,(.vsl b.nil (qd b.l) b.l.length)]) (H:=[some [.int .u64 ep',.int .u64 la,.osl 1 n1 0 k1 39,(.vsl mk.nil (qh mk.l) mk.l.length)],some (qh its)]) (HearQ ⟨ep',la',its',mk'⟩ z) Tryz.func12 rfl ⟨rfl,rfl⟩ ?_;replace hc:call cx 36 [.optr 0 4 0,.agg [.str zY,.int .u64 e,.int .u64 n,(.vsl o.nil (qd o.l) o.l.length)]] [some [.int .u64 ep',.int .u64 la,.osl 1 n1 0 k1 39,(.vsl mk.nil (qh mk.l) mk.l.length)],some (qh its)] = some (.int .i64 c,[some [.int .u64 ep',.int .u64 la',.osl 1 n2 0 k2 39,(.vsl mk'.nil (qh mk'.l) mk'.l.length)],some (qh its')]):=hc;simp [Tryz.f12,h1,hc,h2,hge,hs,Xa,Xk];exact HearQ.mk (.inr ⟨hne2,n2,k2,vr,hk2,rfl,rfl⟩)
theorem qgE (b:Nat):∀ (s:List UInt8) (n v:Nat),n < 18446744073709551616→jb b s n = some v→v < 18446744073709551616
 | [],n,v,hn,h=>by
  unfold jb at h;injection h with h;omega
 | c :: l,n,v,hn,h=>by
  unfold jb at h;split at h
  ·cases h
  ·split at h
   ·cases h
   ·split at h
    ·cases h
    ·exact qgE b l _ v (by omega) h
theorem qtm {s:List UInt8} {v:Nat} (h:pu 10 s = some v):v < 18446744073709551616:=by
 unfold pu at h;split at h
 ·cases h
 ·exact qgE 10 s 0 v (by decide) h
theorem qhB {l s r:List UInt8} {v:Nat} (h:kg l s = some (v,r)):v < 18446744073709551616:=by
 unfold kg at h;split at h
 ·cases h
 ·rename_i hp;injection h with h;injection h with h1 h2;rw [← h1];exact qtm hp
theorem qo9 {s b:List UInt8} {x y z:Nat} (h:vz s b = some (x,y,z)):x < 18446744073709551616∧y < 18446744073709551616:=by
 unfold vz at h;split at h
 ·split at h
  ·cases h
  ·rename_i h1;split at h
   ·cases h
   ·rename_i h2;split at h
    ·cases h
    ·split at h
     ·injection h with h;injection h with e1 h;injection h with e2 e3;rw [← e1,← e2];exact ⟨qhB h1,qhB h2⟩
     ·cases h
 ·cases h
theorem qt7 {k x y z:Nat} {body:List UInt8} (h:(Xq k x y z body).2 = 0):z = body.length∧z≤65536∧Xq k x y z body = (⟨k,x,y,.of body⟩,0):=by
 unfold Xq at h ⊢;split at h
 ·cases h
 ·split at h
  ·cases h
  ·split at h
   ·cases h
   ·rw [if_neg (by assumption),if_neg (by assumption),if_neg (by assumption)];exact ⟨by omega,by omega,rfl⟩
theorem qg7 (s body:List UInt8):∀ (l:List (List UInt8)) (k:Nat),(QY s body l k).2 = 0 →
  ∃ (i:Nat) (b:List UInt8) (x y:Nat),l[i]? = some b∧QY s body l k = (⟨(k+i:Nat),x,y,.of body⟩,0)∧s = b ++ vg x y body.length∧x < 18446744073709551616∧y < 18446744073709551616∧body.length≤65536
 | [],k,h=>by
  unfold QY at h;cases h
 | b :: l,k,h=>by
  rw [qcW] at h ⊢;cases hn:vz s b with
  | none =>
   simp only [hn] at h ⊢;obtain ⟨i,b',x,y,h1,h2,h3⟩:=qg7 s body l (k+1) h;exact ⟨i+1,b',x,y,by simpa using h1,by rw [h2,show k+1+i = k+(i+1) by omega],h3⟩
  | some t =>
   obtain ⟨x,y,z⟩:=t;simp only [hn] at h ⊢;obtain ⟨h1,h2,h3⟩:=qt7 h;have h4:=qhj hn;have h5:=qo9 hn;exact ⟨0,b,x,y,rfl,h3,by rw [h4,h1],h5.1,h5.2,by omega⟩
theorem qn1 {b:List UInt8} {l:List (List UInt8)} (h:(vp b l).2 = 0) :
  ∃ (i:Nat) (c:List UInt8) (x y:Nat) (body:List UInt8),l[i]? = some c∧vp b l = (⟨(i:Nat),x,y,.of body⟩,0)∧b = c ++ (vg x y body.length ++ body)∧x < 18446744073709551616∧y < 18446744073709551616∧body.length≤65536:=by
 unfold vp at h ⊢;split at h
 ·cases h
 ·rename_i hi;rw [if_neg hi];generalize (zT stopL b 0).toNat+4 = j at *;obtain ⟨i,c,x,y,h1,h2,h3,h4⟩:=qg7 _ _ _ _ h;refine ⟨i,c,x,y,b.drop j,h1,by rw [h2,Nat.zero_add],?_,h4⟩;rw [← List.append_assoc,← h3,List.take_append_drop]
theorem qaY {b:List UInt8} (h:(vy b).2 = 0):∃ (p:List UInt8) (x y:Nat) (body:List UInt8),(p = jr∨p = zY)∧(vy b).1 = ⟨p,x,y,.of body⟩∧b = j9 p ++ (vg x y body.length ++ body)∧x < 18446744073709551616∧y < 18446744073709551616∧body.length≤65536:=by
 have hr:(vp b rqL).2 = 0:=by
  unfold vy at h;split at h
  ·assumption
  ·rename_i hn;exact absurd h hn
 obtain ⟨i,c,x,y,body,h1,h2,h3,h4⟩:=qn1 hr;refine ⟨Kl i,x,y,body,?_,?_,?_,h4⟩
 ·unfold Kl;split <;> simp
 ·unfold vy;rw [if_pos hr,h2]
 ·rw [h3]
  match i,h1 with
  | 0,h1=>injection h1 with h1;rw [← h1];rfl
  | 1,h1=>injection h1 with h1;rw [← h1];rfl
  | i+2,h1=>simp [rqL] at h1
theorem qd8 {n:Nat} {r:List UInt8} (h:n≤r.length):qC n (leN (r.take n)) = r.take n:=by
 have:=qd9 (r.take n)
 rwa [List.length_take,Nat.min_eq_left h] at this
theorem qoU (r:List UInt8):(Za r).Ok:=by
 have h:∀ l:List UInt8,leN (l.take 8) < 18446744073709551616:=fun l=>by
  have h1:=JX (l.take 8);have h2:(l.take 8).length≤8:=by rw [List.length_take];omega
  exact Nat.lt_of_lt_of_le h1 (Nat.le_trans (Nat.pow_le_pow_right (by decide) h2) (by decide))
 refine ⟨?_,?_,?_⟩ <;> simp only [Za,qw]
 ·have:=h (r.drop 16);omega
 ·have:=h (r.drop 24);omega
 ·have:=h (r.drop 32);omega
theorem qoV {r:List UInt8} (h:40≤r.length):ZS (Za r) = r.take 40:=by
 have e:∀ n,n+8≤r.length→qC 8 (leN ((r.drop n).take 8)) = (r.drop n).take 8:=fun n hn=>qd8 (by rw [List.length_drop];omega)
 have hi:(ID.mk' (r.take 16)).l = r.take 16:=by
  unfold ID.mk';rw [dif_pos (by rw [List.length_take];omega)]
 unfold ZS Za;simp only [Int.toNat_natCast];rw [e 16 (by omega),e 24 (by omega),e 32 (by omega),hi];have s:∀ (a b:Nat) (l:List UInt8),l.take (a+b) = l.take a ++ (l.drop a).take b:=fun a b l=>List.take_add;rw [show (40:Nat) = 16+(8+(8+8)) from rfl,s,s,s,List.drop_drop,List.drop_drop]
theorem qmU {out:List Mk} {m:Mk} (hr:zN out = true) (hl:Jl out m.id.l = false):zN (out ++ [m]) = true:=by
 induction out with
 | nil=>rfl
 | cons a o ih =>
  cases o with
  | nil =>
   have:qt a.id.l m.id.l < 0:=by
    simp [Jl] at hl;omega
   simp [zN,this]
  | cons b o =>
   simp only [List.cons_append,zN,Bool.and_eq_true] at hr ih ⊢;refine ⟨hr.1,ih hr.2 ?_⟩;unfold Jl at hl ⊢;rw [List.getLast?_cons_cons] at hl;exact hl
theorem qcV:∀ (k:Nat) (r:List UInt8) (out o:List Mk),zN out = true→(∀ m∈out,m.Ok)→Zp k r out = (o,0)→∃ l,o = out ++ l∧l.length = k∧40 * k≤r.length∧l.flatMap ZS = r.take (40 * k)∧zN o = true∧∀ m∈o,m.Ok
 | 0,r,out,o,hr,hok,h=>by
  rw [Zp,Prod.mk.injEq] at h;obtain ⟨rfl,-⟩:=h;exact ⟨[],by simp,rfl,by omega,by simp,hr,hok⟩
 | k+1,r,out,o,hr,hok,h=>by
  rw [Zp] at h;split at h
  ·cases h
  ·split at h
   ·cases h
   ·split at h
    ·cases h
    ·rename_i zI hl ko
     have kl:(Za r).id.l = r.take 16:=by
      unfold Za ID.mk';simp only;rw [dif_pos (by rw [List.length_take];omega)]
     have vM:Jl out (Za r).id.l = false:=by rw [kl];simpa using hl
     obtain ⟨l,e1,e2,e3,e4,e5,e6⟩:=qcV k (r.drop 40) (out ++ [Za r]) o (qmU hr vM) (fun m hm=>by
      rcases List.mem_append.1 hm with h' | h'
      ·exact hok m h'
      ·rw [List.mem_singleton.1 h'];exact qoU r) h
     rw [List.length_drop] at e3;refine ⟨Za r :: l,by rw [e1,List.append_assoc];rfl,by rw [List.length_cons,e2],by omega,?_,e5,e6⟩;rw [List.flatMap_cons,e4,qoV (by omega),show 40 * (k+1) = 40+40 * k by omega,List.take_add]
theorem qn4 {b:List UInt8} {l:List Mk} (h:jG b = (l,0)) (hn:¬ Go.Ev.readN (l,0) < (b.length:Int)):jJ l = true∧Zv l = b∧∀ m∈l,m.Ok:=by
 cases b with
 | nil=>cases h
 | cons c r =>
  unfold jG at h;simp only at h;split at h
  ·cases h
  ·rename_i h4;obtain ⟨l',e1,e2,e3,e4,e5,e6⟩:=qcV c.toNat r [] l rfl (fun m hm=>by cases hm) h;rw [List.nil_append] at e1;subst e1;unfold Go.Ev.readN at hn;rw [List.length_cons] at hn;simp only [if_true] at hn;refine ⟨?_,?_,e6⟩
   ·unfold jJ;rw [e5,Bool.and_true,decide_eq_true_eq];omega
   ·unfold Zv;rw [e4,e2,List.take_of_length_le (by omega)];simp
theorem qos {t:List UInt8} (h:QX t = true) (hl:(zp (zX t)).length = t.length):zw (zX t) = true∧zp (zX t) = t:=by
 unfold QX at h;rw [Bool.and_eq_true] at h;refine ⟨h.1,?_⟩;have:=qdc h.2;rw [hl,List.drop_length,List.append_nil] at this;exact this.symm
structure GotI (x:It):Prop where
 ok:x.Ok
 is:zw x = true
 b:(∀ p∈x.rc.fields.l,kH p)∧x.rc.fields.l.length < 1000000
theorem qi3:∀ (k:Nat) (r:List UInt8) (out o:List It) (m:List Mk),r.length < 1000000→QH k r out = (o,m,0)→∃ l,o = out ++ l∧l.length = k∧(∀ x∈l,GotI x)∧r = l.flatMap VF ++ Zv m∧jJ m = true∧∀ x∈m,x.Ok
 | 0,r,out,o,m,hb,h=>by
  rw [QH] at h;split at h
  ·rename_i h0;split at h
   ·cases h
   ·rename_i hn;simp only [Prod.mk.injEq] at h;obtain ⟨rfl,rfl,-⟩:=h;have hm:jG r = ((jG r).1,0):=Prod.ext rfl h0;rw [hm] at hn;obtain ⟨e1,e2,e3⟩:=qn4 hm hn;exact ⟨[],by simp,rfl,by simp,by simpa using e2.symm,e1,e3⟩
  ·rename_i h0;simp only [Prod.mk.injEq] at h;exact absurd h.2.2 h0
 | k+1,r,out,o,m,hb,h=>by
  rw [QH] at h;split at h
  ·cases h
  ·rename_i qU;split at h
   ·rename_i hok;obtain ⟨n,hn⟩:∃ n,leN (r.take 4) = n:=⟨_,rfl⟩;rw [hn] at h hok qU;have vu:((r.drop 4).take n).length = n:=(by rw [List.length_take,List.length_drop];omega);obtain ⟨t1,t2⟩:=qos hok.1 (by rw [hok.2,vu]);have hq:=qbz ((r.drop 4).take n);have hq2:=qhL ((r.drop 4).take n) (by omega);obtain ⟨l,e1,e2,e3,e4,e5,e6⟩:=qi3 k (r.drop (4+n)) _ o m (by rw [List.length_drop];omega) h;refine ⟨zX ((r.drop 4).take n) :: l,by rw [e1,List.append_assoc];rfl,by rw [List.length_cons,e2],fun x hx=>?_,?_,e5,e6⟩
    ·rcases List.mem_cons.1 hx with rfl | hx
     ·exact ⟨hq,t1,hq2⟩
     ·exact e3 x hx
    ·have hi:VF (zX ((r.drop 4).take n)) = r.take (4+n):=by
      unfold VF;rw [t2,vu,List.take_add,← hn,qd8 (by omega)]
     rw [List.flatMap_cons,hi,List.append_assoc,← e4,List.take_append_drop]
   ·cases h
theorem qtB {x:List UInt8} {l:List It} {m:List Mk} (hx:x.length < 1000000) (h:VG x = (l,m,0)):Zr l m = true∧Kf l m = x∧(∀ y∈l,GotI y)∧∀ y∈m,y.Ok:=by
 unfold VG at h;split at h
 ·cases h
 ·split at h
  ·rename_i h4 hp;split at h
   ·cases h
   ·rename_i h6;split at h
    ·cases h
    ·rename_i h64;obtain ⟨l',e1,e2,e3,e4,e5,e6⟩:=qi3 _ _ [] l m (by rw [List.length_drop];omega) h;rw [List.nil_append] at e1;subst e1;have hk:=qdc hp;refine ⟨?_,?_,e3,e6⟩
     ·unfold Zr;simp only [Bool.and_eq_true,decide_eq_true_eq,List.all_eq_true];exact ⟨by omega,e5,fun y hy=>(e3 y hy).is⟩
     ·unfold Kf;have zZ:qC 2 l.length = (x.drop 4).take 2:=(by rw [e2,qd8 (by rw [List.length_drop];omega)]);rw [zZ,← e4,show (6:Nat) = 4+2 from rfl,← List.drop_drop,List.take_append_drop];exact hk.symm
  ·cases h
theorem qlZ {b:List UInt8} (h4:4≤b.length) (h:Vh b = true):ku (b.take (b.length - 4)) = b:=by
 unfold Vh at h;rw [decide_eq_true_eq] at h
 have e:qC 4 (leN (b.drop (b.length - 4))) = b.drop (b.length - 4):=by
  have:=qd9 (b.drop (b.length - 4))
  rwa [List.length_drop,show b.length - (b.length - 4) = 4 by omega] at this
 unfold ku;rw [← h,e,List.take_append_drop]
theorem qdT {b:List UInt8} {l:List It} {m:List Mk} (hb:b.length≤65536) (h:vo b = (l,m,0)):Jh l m = .of b∧(∀ y∈l,GotI y)∧(∀ y∈m,y.Ok)∧l.length≤64∧m.length≤4:=by
 unfold vo at h;split at h
 ·cases h
 ·split at h
  ·rename_i h4 hs;obtain ⟨h1,h2,h3,h5⟩:=qtB (by rw [List.length_take];omega) h;have hp:=qnE h1;refine ⟨?_,h3,h5,hp.1,Kb hp.2.1⟩;unfold Jh;rw [h1,h2,qlZ (by omega) hs,decide_eq_true hb];rfl
  ·cases h
def vd (l:List Mk) (id:ID):Bool:=l.any fun m=>m.id == id
set_option maxHeartbeats 1000000 in
theorem qaS [MaxL] [TxtC] (s:Sl Mk) (hn:s.l.length < 4611686018427387904) (id:ID) :
  call cx 43 [(.vsl s.nil (qh s.l) s.l.length),.agg (qd id.l)] [] = some (.tup [.agg (Enc.cells (jd s.l id)),.bool (vd s.l id)],[]):=by
 refine qq Tryz.func43 rfl ⟨rfl,rfl⟩ ?_;simp [Tryz.f43];refine Run.loopThen (fun (i:Nat) e H=>i≤s.l.length∧(∃ z:Mk,H = [some (qd id.l),some (Enc.cells z)])∧qf e 0 = some (.vsl s.nil (qh s.l) s.l.length)∧qf e 3 = some (.optr 0 16 0)∧qf e 4 = some (.optr 1 19 0)∧qf e 6 = some (.int .i64 i)∧jd s.l id = jd (s.l.drop i) id∧vd s.l id = vd (s.l.drop i) id) (fun i=>s.l.length - i) 0 ?_ ?_
 ·simp;exact ⟨⟨ID.zero,0,0,0⟩,by simp [Mk.cells,ID.zero,qd]⟩
 rintro i e H ⟨hi,⟨z,rfl⟩,h0,h3,h4,h6,hr,zD⟩;by_cases qg:i < s.l.length
 ·have qk:(i:Int) < (s.l.length:Int):=by omega
  have hw:IntKind.i64.wrap ((i:Int)+1) = ((i+1:Nat):Int):=by rw [wrap_i64] <;> omega
  rw [List.drop_eq_getElem_cons qg] at hr zD;have zI:∀ k,(16≤19+k) = True:=fun k=>eq_true (by omega);cases he:s.l[i].id == id with
  | true =>
   simp only [jd,List.find?_cons,he,Option.getD_some] at hr;simp only [vd,List.any_cons,he,Bool.true_or] at zD;simp [h0,h3,h4,h6,qk,qg,Sl.nn qg,zI,he,jd,vd,hr,zD]
  | false =>
   simp only [jd,List.find?_cons,he] at hr;simp only [vd,List.any_cons,he,Bool.false_or] at zD;simp [h0,h3,h4,h6,qk,qg,Sl.nn qg,zI,he,hw,-List.any_eq_true];exact ⟨i+1,by omega,by omega,⟨z,rfl⟩,rfl,hr,zD⟩
 ·have qk:¬ (i:Int) < (s.l.length:Int):=by omega
  have hd:s.l.drop i = []:=List.drop_eq_nil_of_le (by omega);rw [hd] at hr zD;have e1:jd [] id = ⟨id,0,0,0⟩:=rfl;have e2:vd [] id = false:=rfl;rw [e1] at hr;rw [e2] at zD;simp [h0,h3,h4,h6,qk,hr,zD,List.take_of_length_le,Mk.cells,List.take_append,List.drop_append,zk]
set_option maxHeartbeats 1000000 in
theorem qgi [MaxL] [TxtC] (a b:Sl Mk) (ha:a.l.length < 4611686018427387904) (hb:b.l.length < 4611686018427387904) :
  call cx 16 [(.vsl a.nil (qh a.l) a.l.length),(.vsl b.nil (qh b.l) b.l.length)] [] = some (.bool (vS a.l b.l),[]):=by
 refine qq Tryz.func16 rfl ⟨rfl,rfl⟩ ?_;simp [Tryz.f16];refine Run.loopThen (fun (i:Nat) e H=>i≤a.l.length∧H = []∧qf e 0 = some (.vsl a.nil (qh a.l) a.l.length)∧qf e 1 = some (.vsl b.nil (qh b.l) b.l.length)∧qf e 5 = some (.int .i64 i)∧vS a.l b.l = vS (a.l.drop i) b.l) (fun i=>a.l.length - i) 0 (by simp) ?_;rintro i e H ⟨hi,rfl,h0,h1,h5,hr⟩;by_cases qg:i < a.l.length
 ·have qk:(i:Int) < (a.l.length:Int):=by omega
  have hw:IntKind.i64.wrap ((i:Int)+1) = ((i+1:Nat):Int):=by rw [wrap_i64] <;> omega
  have hg:=qaS b hb a.l[i].id;have zI:∀ k,(16≤19+k) = True:=fun k=>eq_true (by omega);unfold vS at hr ⊢;rw [qkt _ qg] at hr;by_cases hs:(jd b.l a.l[i].id).seq < a.l[i].seq
  ·have jN:¬ a.l[i].seq≤(jd b.l a.l[i].id).seq:=(by omega);simp only [jN,decide_false,Bool.false_and] at hr;simp [h0,h1,h5,qk,qg,Sl.nn qg,hg,hs,hr,zI]
  ·have jN:a.l[i].seq≤(jd b.l a.l[i].id).seq:=(by omega);simp only [jN,decide_true,Bool.true_and] at hr;simp [h0,h1,h5,qk,qg,Sl.nn qg,hg,hs,hw,zI];exact ⟨i+1,by omega,by omega,rfl,hr⟩
 ·have qk:¬ (i:Int) < (a.l.length:Int):=by omega
  have hd:a.l.drop i = []:=List.drop_eq_nil_of_le (by omega);rw [hd] at hr;have he:vS [] b.l = true:=rfl;rw [he] at hr;simp [h0,h1,h5,qk,hr]
theorem qo4 [MaxL] [TxtC] (a b c:Nat) (ha:a < 18446744073709551616) (hb:b < 18446744073709551616) (hc:c < 18446744073709551616) :
  call cx 115 [.vsl false [.int .u64 a,.int .u64 b,.int .u64 c] 3] [] = some (.vsl false (qd (qC 8 a ++ (qC 8 b ++ qC 8 c))) 24,[]):=by
 have h1:=qbp a ha;have h2:=qbp b hb;have h3:=qbp c hc;clear ha hb hc;refine qq Tryz.func115 rfl ⟨rfl,rfl⟩ ?_;simp [Tryz.f115]
 iterate 4
  refine JL ?_;simp [h1,h2,h3,List.take_of_length_le,qB]
 simp [ZP]
set_option maxRecDepth 4000 in
set_option maxHeartbeats 2000000 in
theorem qgf [MaxL] [TxtC] (s:Sl Mk) (hn:s.l.length < 4611686018427387904) (hok:∀ m∈s.l,m.Ok) :
  call cx 79 [(.vsl s.nil (qh s.l) s.l.length)] [] = some ((.vsl (kr s.l).nil (qd (kr s.l).l) (kr s.l).l.length),[]):=by
 have hr:=qcJ s hn;refine qq Tryz.func79 rfl ⟨rfl,rfl⟩ ?_;cases h:jJ s.l with
 | false =>
  rw [h] at hr;simp [Tryz.f79,hr,kr,h,qd]
 | true =>
  rw [h] at hr;have hl:=Kb h;clear hn;have hw8:IntKind.u8.wrap (s.l.length:Int) = (s.l.length:Int):=by rw [Qd];omega
  simp [Tryz.f79,hr,kr,h,hw8];refine Run.loopThen (fun (i:Nat) e H=>i≤s.l.length∧∃ X:List UInt8,KL s.l i X∧H = [some (qd X)]∧qf e 3 = some (.osl 0 X.length 0 X.length 1)∧qf e 0 = some (.vsl s.nil (qh s.l) s.l.length)∧qf e 4 = some (.int .i64 i)) (fun i=>s.l.length - i) 0 ?_ ?_
  ·refine ⟨by omega,[UInt8.ofNat s.l.length],by simp [KL],?_⟩;simp [qd];omega
  rintro i e H ⟨hi,X,hX,rfl,h3,h0,h4⟩;by_cases qg:i < s.l.length
  ·have qk:(i:Int) < (s.l.length:Int):=(by omega);have hw:IntKind.i64.wrap ((i:Int)+1) = ((i+1:Nat):Int):=(by rw [wrap_i64] <;> omega);have zI:∀ k,(16≤19+k) = True:=fun k=>eq_true (by omega);have hl40:=qdv (s.l.take i);rw [List.length_take,Nat.min_eq_left hi] at hl40
   have jo:KL s.l (i+1) (X ++ ZS s.l[i]):=by
    unfold KL at *;rw [hX,List.take_succ_eq_append_getElem qg,List.flatMap_append];simp
   have jj:X.length≤200:=(by rw [hX,List.length_cons,hl40];omega);clear hX hl40;have hm:=hok _ (List.getElem_mem qg);obtain ⟨⟨m0,m1,m2,m3⟩,hme⟩:∃ m,s.l[i] = m:=⟨_,rfl⟩;rw [hme] at jo hm;obtain ⟨a1,rfl⟩:∃ k:Nat,m1 = k:=⟨m1.toNat,by have:=hm.seq;simp [qw] at this;omega⟩;obtain ⟨a2,rfl⟩:∃ k:Nat,m2 = k:=⟨m2.toNat,by have:=hm.lost;simp [qw] at this;omega⟩;obtain ⟨a3,rfl⟩:∃ k:Nat,m3 = k:=⟨m3.toNat,by have:=hm.over;simp [qw] at this;omega⟩;have hN:=qo4 a1 a2 a3 (by have:=hm.seq;simp [qw] at this;omega) (by have:=hm.lost;simp [qw] at this;omega) (by have:=hm.over;simp [qw] at this;omega);have hb1:X.length+16≤140737488355328:=Nat.le_trans (Nat.add_le_add_right jj 16) (by decide);have zm:X.length+16+24≤140737488355328:=Nat.le_trans (Nat.add_le_add_right jj 40) (by decide);have hb3:X.length+40≤140737488355328:=zm;simp [h3,h0,h4,qk,qg,Sl.nn qg,hme,qB,hb1,zm,hN,hw,zI,List.take_of_length_le,Nat.add_assoc];clear hb1 zm hb3;exact ⟨i+1,by omega,by omega,_,jo,by simp [ZS,ZP],by simp [ZS],rfl⟩
  ·have qk:¬ (i:Int) < (s.l.length:Int):=(by omega);have vj:s.l.take i = s.l:=List.take_of_length_le (by omega);have hXe:X = Zv s.l:=(by rw [hX,vj];rfl);simp [h3,h0,h4,qk,hXe]
theorem qcf {n:Nat} (h:n≤1000):n * 40≤140737488355328∧n≤140737488355328:=by omega
theorem qlY {A Z:List D} {k:Nat} {x:D} (hA:A[k]? = some x) (_:k < Z.length):qA (A.take k ++ Z.drop k) k [x] = A.take (k+1) ++ Z.drop (k+1):=by
 have hk:k < A.length:=(List.getElem?_eq_some_iff.1 hA).1;have hx:A[k] = x:=by rw [List.getElem?_eq_getElem hk] at hA;exact Option.some.inj hA
 have hl:(A.take k).length = k:=by rw [List.length_take];omega
 unfold qA;rw [List.take_left' hl,List.take_succ_eq_append_getElem hk,hx,List.length_singleton,List.drop_append,hl,List.drop_of_length_le (by omega:(A.take k).length≤k+1),List.nil_append];congr 1;rw [List.drop_drop];congr 1;omega
def z19:List D:=[.int .u8 0,.int .u8 0,.int .u8 0,.int .u8 0,.int .u8 0,.int .u8 0,.int .u8 0,.int .u8 0,.int .u8 0,.int .u8 0,.int .u8 0,.int .u8 0,.int .u8 0,.int .u8 0,.int .u8 0,.int .u8 0,.int .u64 0,.int .u64 0,.int .u64 0]
def Km (R:List UInt8) (k:Nat):List D:=(qd R).take k ++ z19.drop k
theorem qod {R:List UInt8} {k:Nat} (h:k≤16) (hR:16≤R.length):(Km R k).length = 19:=by
 simp [Km,z19,List.length_take];omega
theorem qoc {R:List UInt8} {k:Nat} (h:k < 16) (hR:16≤R.length):qA (Km R k) k [.int .u8 ((R[k]'(by omega)).toNat:Int)] = Km R (k+1) :=
 qlY (by rw [List.getElem?_eq_getElem (by simp;omega),qhf]) (by simp [z19];omega)
set_option maxRecDepth 4000 in
set_option maxHeartbeats 4000000 in
theorem qmR [MaxL] (s:Sl UInt8) (hn:s.l.length < 4611686018427387904) :
  call cx 119 [(.vsl s.nil (qd s.l) s.l.length)] [] = some (.tup [(.vsl (Sl.grown (jG s.l).1).nil (qh (Sl.grown (jG s.l).1).l) (Sl.grown (jG s.l).1).l.length),.int .i64 (readN (jG s.l)),.int .i64 (jG s.l).2],[]):=by
 refine qq Tryz.func119 rfl ⟨rfl,rfl⟩ ?_;obtain ⟨nil,l,qJ⟩:=s;simp only at hn ⊢;cases l with
 | nil=>simp [Tryz.f119,jG,readN,Sl.grown]
 | cons c r =>
  simp only [List.length_cons] at hn
  have hnf:nil = false:=by
   cases nil with
   | false=>rfl
   | true=>simpa using qJ rfl
  subst hnf;have qr:¬ ((r.length:Int)+1 = 0):=by omega
  have vA:(0:Int) < (r.length:Int)+1:=by omega
  by_cases h4:4 < c.toNat
  ·have h4':(4:Int) < (c.toNat:Int):=(by omega);simp [Tryz.f119,jG,readN,Sl.grown,qr,vA,VC,h4,h4']
  ·have h4':¬ (4:Int) < (c.toNat:Int):=(by omega);have hwc:IntKind.i64.wrap (c.toNat:Int) = (c.toNat:Int):=(by rw [wrap_i64];omega);simp [Tryz.f119,qr,vA,VC,h4'];have hB:qd (c :: r) = .int .u8 (c.toNat:Int) :: qd r:=rfl
   refine Run.loopThen (fun (i:Nat) e H=>i≤c.toNat∧∃ (d:D) (out:List Mk),BufE 19 d H out∧out.length = i∧40 * i≤r.length∧qf e 0 = some (.vsl false (qd (c :: r)) (r.length+1))∧qf e 5 = some d∧qf e 6 = some (.int .i64 (1+40 * (i:Int)))∧qf e 7 = some (.int .i64 i) ∧
    jG (c :: r) = Zp (c.toNat - i) (r.drop (40 * i)) out) (fun i=>c.toNat - i) 0 ?_ ?_
   ·refine ⟨by omega,.vsl true [] 0,[],.inl ⟨rfl,rfl,rfl⟩,rfl,by omega,?_⟩;simp [jG,h4,VC]
   ·rintro i e H ⟨hi,d,out,hbuf,qZ,hir,h0,h5,h6,h7,hr⟩;by_cases qg:i < c.toNat
    ·have qk:(i:Int) < (c.toNat:Int):=(by omega);have hw41:IntKind.i64.wrap ((r.length:Int)+1 - (1+40 * (i:Int))) = ((r.length - 40 * i:Nat):Int):=(by rw [wrap_i64] <;> omega);have hk:c.toNat - i = (c.toNat - (i+1))+1:=(by omega);rw [hk,Zp] at hr;have vu:(r.drop (40 * i)).length = r.length - 40 * i:=List.length_drop;by_cases zI:r.length - 40 * i < 16
     ·rw [vu,if_pos zI] at hr;have hm':((r.length - 40 * i:Nat):Int) < 16:=(by omega);simp [h0,h5,h6,h7,qk,vA,hB,hwc,hw41,hm',hr,readN,Sl.grown]
     ·have hm':¬ ((r.length - 40 * i:Nat):Int) < 16:=(by omega);rw [vu,if_neg zI] at hr;generalize hR:r.drop (40 * i) = R at *;obtain ⟨id,kl⟩:∃ id:ID,id.l = R.take 16:=⟨ID.mk' (R.take 16),ID.mk'_l (by rw [List.length_take];omega)⟩;have hidm:ID.mk' (R.take 16) = id:=ID.ext' (by rw [ID.mk'_l (by rw [List.length_take];omega),kl]);rw [← kl] at hr;have Qn:(r.drop (40 * (i+1))) = R.drop 40:=(by rw [← hR,List.drop_drop];congr 1);have hRl:R.length = r.length - 40 * i:=vu;simp [h0,h5,h6,h7,qk,vA,hB,hwc,hw41,hm']
      have h40i:∀ k,k < R.length→(qd (c :: r)).drop (40 * i+1+k) = .int .u8 ((R[k]?.getD 0).toNat:Int) :: qd (R.drop (k+1)):=fun k hk=>by
       rw [Qy,show 40 * i+1+k = (40 * i+k)+1 by omega,List.drop_succ_cons,← List.drop_drop,hR,List.drop_eq_getElem_cons hk,VC,List.getElem?_eq_getElem hk];rfl
      clear h0 h5 h6 h7 e
      refine Run.loopThen (fun (k:Nat) e H'=>k≤16∧H' = H ++ [some (Km R k)]∧qf e 0 = some (.vsl false (qd (c :: r)) (r.length+1))∧qf e 5 = some d∧qf e 6 = some (.int .i64 (1+40 * (i:Int)))∧qf e 7 = some (.int .i64 i) ∧
       qf e 8 = some (.optr H.length 19 0)∧qf e 9 = some (.int .i64 k)) (fun k=>16 - k) 0 ?_ ?_
      ·simp [Km,z19,hB]
      rintro k e H' ⟨hk16,rfl,h0,h5,h6,h7,h8,h9⟩;by_cases hklt:k < 16
      ·have hklt':(k:Int) < 16:=(by omega);have g1:IntKind.i64.wrap (1+40 * (i:Int)+(k:Int)) = ((40 * i+1+k:Nat):Int):=(by rw [wrap_i64] <;> omega);have g2:((40 * i+1+k:Nat):Int) < (r.length:Int)+1:=(by omega);have g3:IntKind.i64.wrap ((k:Int)+1) = ((k+1:Nat):Int):=(by rw [wrap_i64] <;> omega);have g4:(0:Int)≤((40 * i+1+k:Nat):Int):=(by omega);have g5:((40 * i+1+k:Nat):Int).toNat = 40 * i+1+k:=(by omega);have hkR:k < R.length:=(by omega);have hst:=qoc hklt (R:=R) (by omega);have jZ:=qod (k:=k) (R:=R) (by omega) (by omega);have hg:=h40i k hkR;rw [List.getElem?_eq_getElem hkR,Option.getD_some] at hg;have hk19:k+1≤19:=(by omega);generalize hX:40 * i+1+k = X at *;simp [h0,h5,h6,h7,h8,h9,hklt',g1,g2,g3,g4,g5,hg,jZ,hk19,hst];exact ⟨k+1,by omega,by omega,rfl,rfl⟩
      ·have hke:k = 16:=(by omega);have hklt':¬ (k:Int) < 16:=by omega
       have hP:Km R k = Enc.cells (⟨id,0,0,0⟩:Mk):=by
        rw [hke];simp only [Km,z19,Mk.cells,kl,vK];rfl
       rw [hP];rw [← hRl] at hr
       have hlast0:i = 0→Jl out id.l = false:=fun h=>by
        have:out = []:=List.eq_nil_of_length_eq_zero (by omega);subst this;rfl
       have hlastk:∀ k (hk:k < out.length),k+1 = i→Jl out id.l = decide (0≤qt out[k].id.l id.l):=fun k hk vi=>by
        unfold Jl
        have:out.getLast? = some out[k]:=by
         rw [List.getLast?_eq_getElem?,List.getElem?_eq_getElem (by omega)];congr 2;omega
        rw [this]
       have qF:IntKind.i64.wrap ((i:Int)+1) = ((i+1:Nat):Int):=(by rw [wrap_i64] <;> omega);have hq16:IntKind.i64.wrap (1+40 * (i:Int)+16) = ((40 * i+17:Nat):Int):=(by rw [wrap_i64] <;> omega);have hq24:IntKind.i64.wrap (((40 * i+17:Nat):Int)+24) = 1+40 * (((i+1:Nat):Int)):=(by rw [wrap_i64] <;> omega);have hq8:IntKind.i64.wrap (((40 * i+17:Nat):Int)+8) = ((40 * i+25:Nat):Int):=(by rw [wrap_i64] <;> omega);have hq6:IntKind.i64.wrap (((40 * i+17:Nat):Int)+16) = ((40 * i+33:Nat):Int):=(by rw [wrap_i64] <;> omega);have hqr:IntKind.i64.wrap ((r.length:Int)+1 - ((40 * i+17:Nat):Int)) = ((R.length:Int) - 16):=by rw [wrap_i64] <;> omega
       have fin40:Jl out id.l = false→¬ R.length < 40→∃ a1 a2 a3:Nat,Za R = ⟨id,a1,a2,a3⟩∧call cx 117 [.vsl false (qd (c :: r)) (r.length+1),.int .i64 ((40 * i+17:Nat):Int),.int .i64 8] [] = some (.tup [.int .u64 a1,.bool true],[]) ∧
         call cx 117 [.vsl false (qd (c :: r)) (r.length+1),.int .i64 ((40 * i+25:Nat):Int),.int .i64 8] [] = some (.tup [.int .u64 a2,.bool true],[])∧call cx 117 [.vsl false (qd (c :: r)) (r.length+1),.int .i64 ((40 * i+33:Nat):Int),.int .i64 8] [] = some (.tup [.int .u64 a3,.bool true],[]) ∧
         jG (c :: r) = Zp (c.toNat - (i+1)) (r.drop (40 * (i+1))) (out ++ [⟨id,a1,a2,a3⟩]):=by
        intro vc ko;rw [vc] at hr;simp only [Bool.false_eq_true,if_false] at hr;rw [if_neg ko] at hr;have hmk:Za R = ⟨id,leN ((R.drop 16).take 8),leN ((R.drop 24).take 8),leN ((R.drop 32).take 8)⟩:=by unfold Za;rw [hidm]
        have q:∀ a,a+8≤40→call cx 117 [.vsl false (qd (c :: r)) (r.length+1),.int .i64 ((40 * i+1+a:Nat):Int),.int .i64 8] [] = some (.tup [.int .u64 (leN ((R.drop a).take 8)),.bool true],[]):=fun a ha=>by
         have:=qgo (.of (c :: r)) (40 * i+1+a) (by simp;omega) (by simp;omega);simp only [Sl.of_l,Sl.of_nil,List.length_cons] at this;rw [this,show 40 * i+1+a = (40 * i+a)+1 by omega,List.drop_succ_cons,← List.drop_drop,hR]
        exact ⟨_,_,_,hmk,q 16 (by omega),q 24 (by omega),q 32 (by omega),by rw [hr,Qn,hmk]⟩
       have hc19:=qcf (n:=out.length+1) (by have:=c.toNat_lt;omega);generalize hX17:40 * i+17 = X17 at *;generalize hX25:40 * i+25 = X25 at *;generalize hX33:40 * i+33 = X33 at *;rcases Nat.eq_zero_or_pos i with hi0 | hipos
       ·have hi0':¬ 0 < i:=(by omega);have vc:=hlast0 hi0;by_cases ko:R.length < 40
        ·have h40':(R.length:Int) - 16 < 24:=(by omega);rw [vc,if_pos ko] at hr;simp only [Bool.false_eq_true,if_false] at hr
         rcases hbuf with ⟨rfl,rfl,rfl⟩ | ⟨rfl,rfl,hne0⟩ <;>
          simp [h0,h5,h6,h7,h8,h9,hklt',hq16,hqr,hi0',h40',hr,readN,Sl.grown]
        ·have h40':¬ (R.length:Int) - 16 < 24:=(by omega);obtain ⟨a1,a2,a3,q1,q2,q3,q4,q5⟩:=fin40 vc ko;clear hr;rcases hbuf with ⟨rfl,rfl,rfl⟩ | ⟨rfl,rfl,hne0⟩
         ·simp [h0,h5,h6,h7,h8,h9,hklt',hq16,hq24,hq8,hq6,hqr,hi0',h40',q2,q3,q4,qF,qB];clear hc19;exact ⟨i+1,by omega,by omega,_,_,.one _,by simp at qZ;simp [← qZ],by omega,rfl,rfl,rfl,rfl,q5⟩
         ·exact absurd (List.eq_nil_of_length_eq_zero (by omega)) hne0
       ·obtain ⟨k',vi⟩:∃ k,k+1 = i:=⟨i - 1,by omega⟩;have hko:k' < out.length:=(by omega);have hko':(k':Int) < (out.length:Int):=(by omega);have jX:IntKind.i64.wrap ((i:Int) - 1) = (k':Int):=(by rw [wrap_i64] <;> omega);have vc:=hlastk k' hko vi;have hcm:=qdI out[k'].id id;have h19:k' * 19+16≤out.length * 19:=(by omega);have h16k:∀ k,(16≤19+k) = True:=fun k=>eq_true (by omega);rcases hbuf with ⟨rfl,rfl,rfl⟩ | ⟨rfl,rfl,hne0⟩
        ·simp at hko
        ·by_cases hge:0≤qt out[k'].id.l id.l
         ·rw [vc,decide_eq_true hge] at hr;simp only [if_true] at hr;simp [h0,h5,h6,h7,h8,h9,hklt',hipos,jX,hko,hko',hcm,hge,h16k,hr,readN,Sl.grown]
         ·rw [decide_eq_false hge] at vc;by_cases ko:R.length < 40
          ·have h40':(R.length:Int) - 16 < 24:=(by omega);rw [vc,if_pos ko] at hr;simp only [Bool.false_eq_true,if_false] at hr;simp [h0,h5,h6,h7,h8,h9,hklt',hq16,hqr,hipos,jX,hko,hko',hcm,hge,h16k,h40',hr,readN,Sl.grown]
          ·have h40':¬ (R.length:Int) - 16 < 24:=(by omega);obtain ⟨a1,a2,a3,q1,q2,q3,q4,q5⟩:=fin40 vc ko;clear hr;simp [h0,h5,h6,h7,h8,h9,hklt',hq16,hq24,hq8,hq6,hqr,hipos,jX,hko,hko',hcm,hge,h16k,h40',q2,q3,q4,qF,qB,hc19];clear hc19;exact ⟨i+1,by omega,by omega,_,_,.snoc _ _,by simp [qZ],by omega,rfl,rfl,rfl,rfl,q5⟩
    ·have qk:¬ (i:Int) < (c.toNat:Int):=(by omega);have hk:c.toNat - i = 0:=(by omega);rw [hk,Zp] at hr;rcases hbuf with ⟨rfl,rfl,rfl⟩ | ⟨rfl,rfl,hne0⟩
     ·simp [h0,h5,h6,h7,qk,vA,hB,hwc,hr,readN,Sl.grown];simp at qZ;omega
     ·simp [h0,h5,h6,h7,qk,vA,hB,hwc,hr,readN,Sl.grown,hne0,qZ,List.take_of_length_le]
def zS (m:Mk):List Mk→Bool→List Mk × Bool
 | [],i=>([],i)
 | x :: l,i=>let c:=qt x.id.l m.id.l
  let r:=zS m l (i || decide (0≤c))
  ((if !i && decide (0≤c) then [m] else []) ++ (if c≠0 then [x] else []) ++ r.1,r.2)
def Q8 (l:List Mk) (m:Mk):List Mk:=(zS m l false).1 ++ (if (zS m l false).2 then [] else [m])
def Zn (l:List Mk) (m:Mk):Int:=if jJ l then (if !vd l m.id && decide (4≤l.length) then 15 else 0) else 1
theorem qaP (m:Mk):∀ (l:List Mk) (i:Bool),(zS m l i).1.length≤2 * l.length
 | [],_=>by simp [zS]
 | x :: l,i=>by
  have:=qaP m l (i || decide (0≤qt x.id.l m.id.l));simp only [zS,List.length_append,List.length_cons];have h1:(if (!i && decide (0≤qt x.id.l m.id.l)) = true then [m] else []).length≤1:=by split <;> simp
  have h2:(if qt x.id.l m.id.l≠0 then [x] else []).length≤1:=by split <;> simp
  omega
theorem qfQ (m:Mk):∀ (a b:List Mk) (i:Bool),zS m (a ++ b) i = ((zS m a i).1 ++ (zS m b (zS m a i).2).1,(zS m b (zS m a i).2).2)
 | [],b,i=>by simp [zS]
 | x :: a,b,i=>by
  simp only [List.cons_append,zS,qfQ m a b,List.append_assoc]
def RS (m:Mk) (g:List Mk) (d:D) (H:qi):Prop:=(d = .vsl true [] 0∧g = []∧H = [some (Enc.cells m)])∨(d = .osl 1 (g.length * 19) 0 g.length 19∧H = [some (Enc.cells m),some (qh g)]∧g≠[])
theorem RS.app {m:Mk} {g:List Mk} {n k:Nat} {cs:List D} (qr:g≠[]) (hn:n = g.length * 19) (hk:k = g.length) (hc:cs = qh g):RS m g (.osl 1 n 0 k 19) [some (Enc.cells m),some cs]:=by
 subst hn;subst hk;subst hc;exact .inr ⟨rfl,rfl,qr⟩
theorem RS.nil {m:Mk}:RS m [] (.vsl true [] 0) [some (Enc.cells m)]:=.inl ⟨rfl,rfl,rfl⟩
theorem qm8 (m:Mk):∀ (l:List Mk),(zS m l false).2 = true→(zS m l false).1≠[]
 | [],h=>by simp [zS] at h
 | x :: l,h=>by
  simp only [zS];by_cases hc:0≤qt x.id.l m.id.l
  ·simp [hc]
  ·have h0:¬ qt x.id.l m.id.l = 0:=fun h0=>hc (by rw [h0];decide);simp [h0]
theorem tri (c:Int):(c < 0∧¬ 0≤c∧¬ c = 0)∨(c = 0∧0≤c)∨(0≤c∧¬ c = 0):=by omega
noncomputable def qcj:Code:=zo [1,1,1,1,1,1,0,1,0,0] (vx (qN Tryz.f46))
set_option maxRecDepth 4000 in
set_option maxHeartbeats 2000000 in
theorem qm6 [MaxL] [TxtC] (s:Sl Mk) (zB:s.l.length≤4) (m:Mk) (e:qp) (h0:qf e 0 = some (.vsl s.nil (qh s.l) s.l.length)) (h3:qf e 3 = some (.optr 0 19 0)) (zM:qf e 10 = some (.int .i64 0)) (h9:qf e 9 = some (.bool false)) (h8:qf e 8 = some (.vsl true [] 0)) :
  Run cx 46 69 0 (fun ex e H=>ex = .exit 0∧qf e 3 = some (.optr 0 19 0)∧qf e 9 = some (.bool (zS m s.l false).2)∧∃ d,qf e 8 = some d∧RS m (zS m s.l false).1 d H) [] (code cx 46 69 0 (.loop qcj) e [some (Enc.cells m)]):=by
 refine Run.loopThen (fun (i:Nat) e H=>i≤s.l.length∧qf e 0 = some (.vsl s.nil (qh s.l) s.l.length)∧qf e 3 = some (.optr 0 19 0)∧qf e 10 = some (.int .i64 i)∧qf e 9 = some (.bool (zS m (s.l.take i) false).2) ∧
  (∃ d,qf e 8 = some d∧RS m (zS m (s.l.take i) false).1 d H)) (fun i=>s.l.length - i) 0 ?_ ?_
 ·simp [zS,h0,h3,zM,h9,h8,RS.nil]
 clear h0 h3 zM h9 h8 e;rintro i e H ⟨hi,h0,h3,zM,h9,d,h8,hst⟩;by_cases qg:i < s.l.length
 ·have qk:(i:Int) < (s.l.length:Int):=by omega
  have hw:IntKind.i64.wrap ((i:Int)+1) = ((i+1:Nat):Int):=by rw [wrap_i64] <;> omega
  have zI:∀ k,(16≤19+k) = True:=fun k=>eq_true (by omega);have hc:=qdI s.l[i].id m.id;have vk:=qaP m (s.l.take i) false;rw [List.length_take,Nat.min_eq_left hi] at vk
  have jo:zS m (s.l.take (i+1)) false = ((zS m (s.l.take i) false).1 ++ (zS m [s.l[i]] (zS m (s.l.take i) false).2).1,(zS m [s.l[i]] (zS m (s.l.take i) false).2).2):=by
   rw [List.take_succ_eq_append_getElem qg,qfQ]
  generalize zS m (s.l.take i) false = g at *;obtain ⟨g1,g2⟩:=g;simp only at h9 hst vk jo;have hb0:g1.length≤100:=by omega
  have hb1:g1.length * 40+40≤140737488355328∧g1.length+1≤140737488355328:=by have:=qcf (n:=g1.length+1) (by omega);rwa [Nat.add_mul] at this
  have hb3:g1.length * 40+80≤140737488355328∧g1.length+2≤140737488355328:=by have:=qcf (n:=g1.length+2) (Nat.le_trans (Nat.add_le_add_right hb0 2) (by decide));rwa [Nat.add_mul] at this
  clear hb0;simp only [zS,List.append_nil] at jo;have hcc:(qt s.l[i].id.l m.id.l < 0∧¬ 0≤qt s.l[i].id.l m.id.l∧¬ qt s.l[i].id.l m.id.l = 0)∨(qt s.l[i].id.l m.id.l = 0∧0≤qt s.l[i].id.l m.id.l)∨(0≤qt s.l[i].id.l m.id.l∧¬ qt s.l[i].id.l m.id.l = 0):=tri _;generalize qt s.l[i].id.l m.id.l = c at *;simp only [qcj,zo,qN,Tryz.f46,Option.getD,vx,kc,V4]
  cases g2 <;> rcases hcc with ⟨c1,c2,c3⟩ | ⟨rfl,c1⟩ | ⟨c1,c2⟩ <;> rcases hst with ⟨rfl,rfl,rfl⟩ | ⟨rfl,rfl,qr⟩ <;>
   first
    | simp [h0,h3,zM,h9,h8,qk,qg,Sl.nn qg,zI,hc,c2,c3,hw,hb1,qB,Nat.add_mul]
    | simp [h0,h3,zM,h9,h8,qk,qg,Sl.nn qg,zI,hc,c1,c2,hw,hb1,hb3,qB,Nat.add_assoc,Nat.add_mul]
    | simp [h0,h3,zM,h9,h8,qk,qg,Sl.nn qg,zI,hc,hw,hb1,qB,Nat.add_mul]
  all_goals
   clear hb1 hb3;refine ⟨i+1,by omega,by omega,rfl,?_,?_⟩
   ·first | (rw [jo];done) | (rw [jo];simp [c2];done) | (rw [jo];simp [c1];done) | (rw [jo];simp;done)
   ·rw [jo]
    first
     | exact RS.nil
     | (refine RS.app ?_ ?_ ?_ ?_ <;> first | simp [c2,c3,Kz,Nat.add_mul,QP] | simp [c1,c2,Kz,Nat.add_mul,QP] | simp [Kz,Nat.add_mul,QP,qr] | simp [QP])
 ·have qk:¬ (i:Int) < (s.l.length:Int):=by omega
  have vj:s.l.take i = s.l:=List.take_of_length_le (by omega);rw [vj] at h9 hst;simp only [qcj,zo,qN,Tryz.f46,Option.getD,vx,kc,V4];simp [h0,h3,zM,h9,h8,qk];exact hst
set_option maxRecDepth 4000 in
set_option maxHeartbeats 1000000 in
theorem qm7 [MaxL] [TxtC] (s:Sl Mk) (hn:s.l.length < 4611686018427387904) (m:Mk) :
  call cx 46 [(.vsl s.nil (qh s.l) s.l.length),.agg (Enc.cells m)] [] = some (.tup [(.vsl (kv (Zn s.l m) (.of (Q8 s.l m))).nil (qh (kv (Zn s.l m) (.of (Q8 s.l m))).l) (kv (Zn s.l m) (.of (Q8 s.l m))).l.length),.int .i64 (Zn s.l m)],[]):=by
 have hr:=qcJ s hn;have hg:=qaS s hn m.id;refine qq Tryz.func46 rfl ⟨rfl,rfl⟩ ?_;cases h1:jJ s.l with
 | false =>
  rw [h1] at hr;simp [Tryz.f46,hr,Zn,h1,kv]
 | true =>
  rw [h1] at hr;have zB:=Kb h1;by_cases km:vd s.l m.id = false∧4≤s.l.length
  ·obtain ⟨h2,h3⟩:=km;have h3':(4:Int)≤(s.l.length:Int):=(by clear hn;omega);rw [h2] at hg;simp [Tryz.f46,hr,hg,Zn,h1,h2,h3,h3',kv]
  ·have hc0:Zn s.l m = 0:=by
    unfold Zn;rw [h1,if_pos rfl,if_neg];simp only [Bool.and_eq_true,Bool.not_eq_true',decide_eq_true_eq];exact km
   rw [hc0];have zm:vd s.l m.id = false→¬ (4:Int)≤(s.l.length:Int):=fun h h4=>km ⟨h,by clear hn;omega⟩;have hlp:=qm6 s zB m;simp only [qcj,zo,qN,Tryz.f46,Option.getD,vx,kc,V4] at hlp;have vk:=qaP m s.l false;have hb1:(zS m s.l false).1.length * 40+40≤140737488355328∧(zS m s.l false).1.length+1≤140737488355328:=(by have:=qcf (n:=(zS m s.l false).1.length+1) (by clear hn;omega);rwa [Nat.add_mul] at this);have hne0:=qm8 m s.l;cases hb:vd s.l m.id
   ·have hb2':=zm hb;rw [hb] at hg;simp [Tryz.f46,hr,hg,hb2',kv];refine Run.mono (hlp _ ?_ ?_ ?_ ?_ ?_) ?_
    iterate 5 simp
    rintro ex e H ⟨rfl,h3,h9,d,h8,hst⟩;unfold Q8;rcases hst with ⟨rfl,hz,rfl⟩ | ⟨rfl,rfl,qr⟩ <;> cases hg2:(zS m s.l false).2 <;> simp [h3,h9,h8,hg2,qB,hb1,Nat.add_mul,← QI,List.take_of_length_le]
    ·rw [hz];simp [J9]
    ·exact hne0 hg2 hz
   ·rw [hb] at hg;simp [Tryz.f46,hr,hg,kv];refine Run.mono (hlp _ ?_ ?_ ?_ ?_ ?_) ?_
    iterate 5 simp
    rintro ex e H ⟨rfl,h3,h9,d,h8,hst⟩;unfold Q8;rcases hst with ⟨rfl,hz,rfl⟩ | ⟨rfl,rfl,qr⟩ <;> cases hg2:(zS m s.l false).2 <;> simp [h3,h9,h8,hg2,qB,hb1,Nat.add_mul,← QI,List.take_of_length_le]
    ·rw [hz];simp [J9]
    ·exact hne0 hg2 hz
def Qg (v n:Int):Int:=if IntKind.u64.wrap (kb - n) < v then kb else IntKind.u64.wrap (v+n)
theorem qcK [MaxL] [TxtC] (v n:Int):call cx 45 [.int .u64 v,.int .u64 n] [] = some (.int .u64 (Qg v n),[]):=by
 refine qq Tryz.func45 rfl ⟨rfl,rfl⟩ ?_;by_cases h:IntKind.u64.wrap (18446744073709551615 - n) < v
 ·simp [Tryz.f45,h,Qg,kb]
 ·simp [Tryz.f45,h,Qg,kb]
def Zm (m:Mk) (it:It) (over:Bool):Mk :=
 if it.gap then { m with seq:=it.til,lost:=Qg m.lost (Qg (IntKind.u64.wrap (it.til - it.fr)) 1) }
 else { m with seq:=it.rc.seq,over:=if over then Qg m.over 1 else m.over }
def Vk (l:List Mk) (it:It) (over:Bool):List Mk:=Q8 l (Zm (jd l it.id) it over)
def V5 (l:List Mk) (it:It) (over:Bool):Int :=
 let c:=Zn l (Zm (jd l it.id) it over)
 if c≠0 then c else if QG (jd l it.id) it then 0 else 13
set_option maxRecDepth 4000 in
set_option maxHeartbeats 2000000 in
theorem qfL [MaxL] [TxtC] (s:Sl Mk) (hn:s.l.length < 4611686018427387904) (it:It) (over:Bool) :
  call cx 19 [(.vsl s.nil (qh s.l) s.l.length),.agg (Enc.cells it),.bool over] [] = some (.tup [(.vsl (kv (V5 s.l it over) (.of (Vk s.l it over))).nil (qh (kv (V5 s.l it over) (.of (Vk s.l it over))).l) (kv (V5 s.l it over) (.of (Vk s.l it over))).l.length),.int .i64 (V5 s.l it over)],[]):=by
 have hge:=qaS s hn it.id;have hgid:=qdV s.l it.id;have hse:=qm7 s hn (Zm (jd s.l it.id) it over);refine qq Tryz.func19 rfl ⟨rfl,rfl⟩ ?_;unfold V5 Vk;generalize jd s.l it.id = g at *;have zH:=qcK (IntKind.u64.wrap (it.til - it.fr)) 1;have zj:=qcK g.lost (Qg (IntKind.u64.wrap (it.til - it.fr)) 1);have hm3:=qcK g.over 1;have key:∀ (st:Mk) (hst:Zm g it over = st),∀ c (hc:Zn s.l st = c),∀ d (hd:Q8 s.l st = d),True:=fun _ _ _ _ _ _=>trivial;cases vt:it.gap with
 | true =>
  have hst:Zm g it over = { g with seq:=it.til,lost:=Qg g.lost (Qg (IntKind.u64.wrap (it.til - it.fr)) 1) }:=by simp [Zm,vt]
  rw [hst] at hse ⊢;generalize Zn s.l { g with seq:=it.til,lost:=Qg g.lost (Qg (IntKind.u64.wrap (it.til - it.fr)) 1) } = c at *;generalize Q8 s.l { g with seq:=it.til,lost:=Qg g.lost (Qg (IntKind.u64.wrap (it.til - it.fr)) 1) } = d at *;by_cases hc:c = 0
  ·subst hc;by_cases h1:it.fr≤g.seq
   ·simp [Tryz.f19,hge,vt,zH,zj,hse,h1,QG,kv]
   ·by_cases h2:it.til < it.fr
    ·simp [Tryz.f19,hge,vt,zH,zj,hse,h1,h2,QG,kv]
    ·simp [Tryz.f19,hge,vt,zH,zj,hse,h1,h2,QG,kv]
  ·simp [Tryz.f19,hge,vt,zH,zj,hse,hc,kv]
 | false =>
  have hst:Zm g it over = { g with seq:=it.rc.seq,over:=if over then Qg g.over 1 else g.over }:=by simp [Zm,vt]
  rw [hst] at hse ⊢;cases over with
  | false =>
   simp only [Bool.false_eq_true,if_false] at hse ⊢;generalize Zn s.l { g with seq:=it.rc.seq,over:=g.over } = c at *;generalize Q8 s.l { g with seq:=it.rc.seq,over:=g.over } = d at *;by_cases hc:c = 0
   ·subst hc;by_cases h1:it.rc.seq≤g.seq
    ·simp [Tryz.f19,hge,vt,hse,h1,QG,kv]
    ·simp [Tryz.f19,hge,vt,hse,h1,QG,kv]
   ·simp [Tryz.f19,hge,vt,hse,hc,kv]
  | true =>
   simp only [if_true] at hse ⊢;generalize Zn s.l { g with seq:=it.rc.seq,over:=Qg g.over 1 } = c at *;generalize Q8 s.l { g with seq:=it.rc.seq,over:=Qg g.over 1 } = d at *;by_cases hc:c = 0
   ·subst hc;by_cases h1:it.rc.seq≤g.seq
    ·simp [Tryz.f19,hge,vt,hm3,hse,h1,QG,kv]
    ·simp [Tryz.f19,hge,vt,hm3,hse,h1,QG,kv]
   ·simp [Tryz.f19,hge,vt,hm3,hse,hc,kv]
def Yb (l:List It):Prop:= ∀ x∈l,x.Ok∧x.rc.fields.l.length < 1000000∧∀ p∈x.rc.fields.l,kH p
theorem qtW {l:List It} (h:Yb l) (ho:∀ x∈l,zw x = true):(l.flatMap VF).length≤l.length * 10004:=by
 induction l with
 | nil=>simp
 | cons a l ih =>
  have h1:=ih (fun x hx=>h x (List.mem_cons_of_mem _ hx)) fun x hx=>ho x (List.mem_cons_of_mem _ hx);have h2:=(qcv (h a (List.mem_cons_self ..)).1 (ho a (List.mem_cons_self ..))).1;rw [List.flatMap_cons,List.length_append,qsG,List.length_cons,Nat.add_mul];omega
theorem qcY {l:List It} {m:List Mk} (h:Zr l m = false):Jh l m = .none:=by unfold Jh;rw [h];rfl
def Xx (s:List It) (i:Nat) (X:List UInt8):Prop:=X = (Jm ++ qC 2 s.length) ++ (s.take i).flatMap VF
set_option maxHeartbeats 2000000 in
theorem qge [MaxL] [TxtC] (s:BitVec 32) (b:Sl UInt8) (hn:b.l.length < 4611686018427387904):call cx 91 [.int .u32 s.toNat,(.vsl b.nil (qd b.l) b.l.length)] [] = some (.int .u32 ((Qb s b.l).toNat:Nat),[]):=by
 refine qq Tryz.func91 rfl ⟨rfl,rfl⟩ ?_;have hun:∀ v:BitVec 32,Qt .xor (.int .u32 (v.toNat:Int)) = some (.int .u32 ((~~~ v).toNat:Int)):=fun v=>congrArg (fun x=>some (D.int .u32 x)) (qhm v);have h0:=hun s;unfold Qb;obtain ⟨g,hg⟩:∃ g,Xu (~~~ s) b.l = g:=⟨_,rfl⟩;rw [hg];have h1:=hun g;generalize ((~~~ g).toNat:Int) = r at *;generalize ~~~ s = s0 at *;clear hun;simp [-Qt,Tryz.f91,h0];refine Run.loopThen (fun (q:Nat × BitVec 32) e H'=>q.1≤b.l.length∧Xu q.2 (b.l.drop q.1) = g∧qf e 0 = some (.int .u32 (q.2.toNat:Int))∧qf e 1 = some (.vsl b.nil (qd b.l) b.l.length)∧qf e 5 = some (.int .i64 (q.1:Nat))∧H' = []) (fun q=>b.l.length - q.1) (0,s0) ⟨Nat.zero_le _,by simpa using hg,by simp,by simp,by simp,rfl⟩ ?_;rintro ⟨i,v⟩ e H' ⟨hi,hR,k0,k1,k5,rfl⟩;simp only at hi hR k0 k5;by_cases qg:i < b.l.length
 ·have qk:(i:Int) < (b.l.length:Int):=by omega
  have hw:IntKind.i64.wrap ((i:Int)+1) = ((i+1:Nat):Int):=by rw [wrap_i64] <;> omega
  have hd:=qjo qg;have hb:=qka v b.l[i];rw [List.drop_eq_getElem_cons qg] at hR;generalize b.l[i] = c at *;replace hR:Xu (QQ 8 (v ^^^ BitVec.ofNat 32 c.toNat)) (b.l.drop (i+1)) = g:=hR;generalize v ^^^ BitVec.ofNat 32 c.toNat = w at *;have hwc:IntKind.u32.wrap (c.toNat:Int) = (c.toNat:Int):=by have:=c.toNat_lt;rw [Jx];omega
  simp [-Qt,k0,k1,k5,qk,Sl.nn qg,hd,hwc,hb]
  refine qbq (fun (q:Nat × BitVec 32) e H'=>q.1≤8∧QQ (8 - q.1) q.2 = QQ 8 w∧qf e 0 = some (.int .u32 (q.2.toNat:Int))∧qf e 1 = some (.vsl false (qd b.l) b.l.length)∧qf e 5 = some (.int .i64 (i:Nat))∧qf e 6 = some (.int .i64 (q.1:Nat))∧H' = []) (fun q=>8 - q.1) (0,w)
   (fun ex e H'=>ex = .exit 2∧qf e 0 = some (.int .u32 ((QQ 8 w).toNat:Int))∧qf e 1 = some (.vsl false (qd b.l) b.l.length)∧qf e 5 = some (.int .i64 (i:Nat))∧H' = []) ⟨Nat.zero_le _,rfl,by simp,by simp,by simp,by simp,rfl⟩ ?_ ?_
  ·clear k0 k1 k5;rintro ⟨j,u⟩ e H' ⟨hj,hu,k0,k1,k5,k6,rfl⟩;simp only at hj hu k0 k6;by_cases hj8:j < 8
   ·have kZ:(j:Int) < 8:=(by omega);have hwj:IntKind.i64.wrap ((j:Int)+1) = ((j+1:Nat):Int):=(by rw [wrap_i64] <;> omega);have hb1:(u.toNat:Int).tmod 2 = ((u.toNat % 2:Nat):Int):=(by rw [Int.tmod_eq_emod_of_nonneg (Int.natCast_nonneg _)];rfl);have kA:IntKind.u32.wrap ((u.toNat % 2:Nat):Int) = ((u.toNat % 2:Nat):Int):=(by rw [Jx];omega);have zm:=qit u;rw [show (2:Int) = 2 ^ min 1 IntKind.u32.bits from rfl] at zm;have hb3:=qgK (u >>> 1)
    have hst:QQ (8 - (j+1)) (qad u) = QQ 8 w:=by
     rw [← hu,show 8 - j = (8 - (j+1))+1 by omega];rfl
    unfold qad at hst;generalize u >>> 1 = h at *;by_cases hp:u.toNat % 2 = 1
    ·rw [hp] at hb1 kA;rw [if_pos hp] at hst;generalize h ^^^ 2197175160#32 = y at *;simp [-Qt,k0,k1,k5,k6,kZ,hwj,hb1];exact ⟨j+1,by omega,by omega,y,hst,by rw [zm,hb3],rfl⟩
    ·have hp0:u.toNat % 2 = 0:=(by omega);rw [hp0] at hb1 kA;rw [if_neg hp] at hst;simp [-Qt,k0,k1,k5,k6,kZ,hwj,hb1];exact ⟨j+1,by omega,by omega,h,hst,zm,rfl⟩
   ·have kZ:¬ (j:Int) < 8:=(by omega);have hj0:8 - j = 0:=(by omega);rw [hj0] at hu;replace hu:u = QQ 8 w:=hu;simp [-Qt,k0,k1,k5,k6,kZ,hu]
  ·clear k0 k1 k5;rintro ex e H' ⟨rfl,k0,k1,k5,rfl⟩;generalize QQ 8 w = z at *;simp [-Qt,k0,k1,k5,hw];exact ⟨i+1,by omega,by omega,z,hR,rfl,rfl⟩
 ·have qk:¬ (i:Int) < (b.l.length:Int):=by omega
  rw [List.drop_eq_nil_of_le (by omega)] at hR;replace hR:v = g:=hR;subst hR;simp [-Qt,k0,k1,k5,qk,h1]
theorem qdz [MaxL] [TxtC] (v n:Nat) (zx:1≤n) (hn8:n≤8) (hv:v < 18446744073709551616):call cx 87 [.int .u64 v,.int .i64 n] [] = some (.vsl false (qd (qC n v)) n,[]):=by
 refine qq Tryz.func87 rfl ⟨rfl,rfl⟩ ?_;simp [Tryz.f87];refine Run.loopThen (fun (i:Nat) e H=>i≤n∧(∃ d,qf e 5 = some d∧VU d H (qC i v))∧qf e 0 = some (.int .u64 (v / 256 ^ i:Nat))∧qf e 1 = some (.int .i64 n)∧qf e 6 = some (.int .i64 i)) (fun i=>n - i) 0 ?_ ?_
 ·simp [qC,VU]
 rintro i e H ⟨hi,⟨d,h5,hbuf⟩,h0,h1,h6⟩;by_cases qg:i < n
 ·have qk:(i:Int) < (n:Int):=by omega
  have hw:IntKind.i64.wrap ((i:Int)+1) = ((i+1:Nat):Int):=by rw [wrap_i64] <;> omega
  have jo:=qby i v;have hl:(qC i v).length≤8:=by simp;omega
  have hq:v / 256 ^ i < 18446744073709551616:=Nat.lt_of_le_of_lt (Nat.div_le_self _ _) hv;have hnx:v / 256 ^ (i+1) = v / 256 ^ i / 256:=by rw [Nat.pow_succ,Nat.div_div_eq_div_mul]
  generalize v / 256 ^ i = x at *
  have ht1:(x:Int).tmod 256 = ((x % 256:Nat):Int):=by
   rw [Int.tmod_eq_emod_of_nonneg (Int.natCast_nonneg _)];rfl
  have ht2:(x:Int).tdiv 256 = ((x / 256:Nat):Int):=by
   rw [Int.tdiv_eq_ediv_of_nonneg (Int.natCast_nonneg _)];rfl
  have hx256:x % 256 < 256:=Nat.mod_lt _ (by decide)
  have qF:IntKind.u8.wrap ((x % 256:Nat):Int) = ((UInt8.ofNat (x % 256)).toNat:Int):=by
   rw [UInt8.toNat_ofNat_of_lt' hx256];clear hv hq;generalize x % 256 = y at *;rw [Qd];omega
  have zg:IntKind.u64.wrap ((x / 256:Nat):Int) = ((x / 256:Nat):Int):=by
   have:x / 256 < 18446744073709551616:=Nat.lt_of_le_of_lt (Nat.div_le_self _ _) hq;clear hv hq;generalize x / 256 = y at *;rw [qK];omega
  generalize UInt8.ofNat (x % 256) = c at *;clear hv hq;generalize qC i v = l at *;have vh:l.length+1≤140737488355328:=Nat.le_trans (Nat.add_le_add_right hl 1) (by decide);rcases hbuf with ⟨rfl,rfl,rfl⟩ | ⟨rfl,rfl⟩
  ·simp [h5,h0,h1,h6,qk,hw,ht1,ht2,qF,zg,qB,-Int.natCast_emod,-Int.natCast_ediv];clear vh;exact ⟨i+1,by omega,by omega,.inr (by simp [jo,qd]),by rw [hnx],rfl⟩
  ·simp [h5,h0,h1,h6,qk,hw,ht1,ht2,qF,zg,qB,vh,-Int.natCast_emod,-Int.natCast_ediv];clear vh;exact ⟨i+1,by omega,by omega,.inr (by simp [jo,qd]),by rw [hnx],rfl⟩
 ·have qk:¬ (i:Int) < (n:Int):=by omega
  have h8:i = n:=by omega
  subst h8;have hl:(qC i v).length = i:=JY i v;generalize qC i v = l at *;rcases hbuf with ⟨rfl,rfl,rfl⟩ | ⟨rfl,rfl⟩
  ·simp at hl;omega
  ·simp [h5,h0,h1,h6,hl,List.take_of_length_le]
theorem qfR [MaxL] [TxtC] (b:Sl UInt8) (hn:b.l.length≤140737488354000):call cx 56 [(.vsl b.nil (qd b.l) b.l.length)] [] = some ((.vsl ((.of (ku b.l):Sl UInt8)).nil (qd ((.of (ku b.l):Sl UInt8)).l) ((.of (ku b.l):Sl UInt8)).l.length),[]):=by
 have h1:=qge 0#32 b (by omega);have h2:=qdz (Qb 0#32 b.l).toNat 4 (by decide) (by decide) (Nat.lt_trans (Qb 0#32 b.l).isLt (by decide))
 have hw:IntKind.u64.wrap ((Qb 0#32 b.l).toNat:Int) = ((Qb 0#32 b.l).toNat:Int):=by
  have:=(Qb 0#32 b.l).isLt;rw [qK];omega
 have e:ku b.l = b.l ++ qC 4 (Qb 0#32 b.l).toNat:=rfl;rw [e];simp only [BitVec.toNat_ofNat] at h1;generalize (Qb 0#32 b.l).toNat = v at *;have zB:(qC 4 v).length = 4:=JY 4 v;generalize qC 4 v = z at *
 have h3:call cx 90 [(.vsl b.nil (qd b.l) b.l.length),.int .i64 4,.int .u64 v] [] = some ((.vsl ((.of (b.l ++ z):Sl UInt8)).nil (qd ((.of (b.l ++ z):Sl UInt8)).l) ((.of (b.l ++ z):Sl UInt8)).l.length),[]):=by
  refine qq Tryz.func90 rfl ⟨rfl,rfl⟩ ?_;have zH:b.l.length≤140737488355328:=by omega
  have zj:b.l.length+4≤140737488355328:=by omega
  have qu:List.take (b.l.length+4) (qd b.l ++ qd z) = qd b.l ++ qd z:=List.take_of_length_le (by simp [zB]);replace h2:call cx 87 [.int .u64 v,.int .i64 4] [] = some (.vsl false (qd z) 4,[]):=h2;simp [Tryz.f90,h2,qB,zH,zj,zB,ZP,qu]
 refine qq Tryz.func56 rfl ⟨rfl,rfl⟩ ?_;replace h1:call cx 91 [.int .u32 0,(.vsl b.nil (qd b.l) b.l.length)] [] = some (.int .u32 v,[]):=h1;simp [Tryz.f56,h1,h3,hw]
set_option maxHeartbeats 1000000 in
theorem qnc [MaxL] (s:Sl UInt8) (a:Nat) (h:a+2≤s.l.length) (_:s.l.length < 4611686018427387904) :
  call cx 117 [(.vsl s.nil (qd s.l) s.l.length),.int .i64 a,.int .i64 2] [] = some (.tup [.int .u64 (leN ((s.l.drop a).take 2)),.bool true],[]):=by
 have hnn:s.nil = false:=Sl.nn (i:=a) (by omega);have g0:¬ (a:Int) < 0:=by omega
 have g1:¬ (s.l.length:Int) < (a:Int):=by omega
 have hw:IntKind.i64.wrap ((s.l.length:Int) - (a:Int)) = (s.l.length:Int) - (a:Int):=by rw [wrap_i64];omega
 have g2:¬ (s.l.length:Int) - (a:Int) < 2:=by omega
 refine qq Tryz.func117 rfl ⟨rfl,rfl⟩ ?_;simp [Tryz.f117,hnn,g0,g1,hw,g2];refine Run.loopThen (fun (i:Nat) e H=>i≤2∧H = []∧qf e 0 = some (.vsl s.nil (qd s.l) s.l.length)∧qf e 1 = some (.int .i64 a)∧qf e 8 = some (.int .u64 (leN ((s.l.drop (a+i)).take (2 - i)):Nat))∧qf e 9 = some (.int .i64 ((i:Int) - 1))) (fun i=>i) 2 (by simp [leN,hnn]) ?_;rintro i e H ⟨hi,rfl,h0,h1,h8,h9⟩;cases i with
 | zero=>simp [h0,h1,h8,h9]
 | succ j =>
  have hj:(0:Int)≤(j:Int):=by omega
  have hwj:IntKind.i64.wrap ((a:Int)+(j:Int)) = ((a+j:Nat):Int):=by rw [wrap_i64] <;> omega
  have jX:IntKind.i64.wrap ((j:Int) - 1) = (j:Int) - 1:=by rw [wrap_i64];omega
  have qg:a+j < s.l.length:=by omega
  have e1:((j+1:Nat):Int) - 1 = (j:Int):=by omega
  rw [e1] at h9
  have hd:(s.l.drop (a+j)).take (2 - j) = s.l[a+j] :: (s.l.drop (a+(j+1))).take (2 - (j+1)):=by
   rw [List.drop_eq_getElem_cons qg,show 2 - j = (2 - (j+1))+1 by omega,List.take_succ_cons,Nat.add_assoc]
  have hn8:leN ((s.l.drop (a+(j+1))).take (2 - (j+1))) < 256 ^ 7:=by
   refine Nat.lt_of_lt_of_le (JX _) (Nat.pow_le_pow_right (by decide) ?_);rw [List.length_take];omega
  have hst:=qdt (leN ((s.l.drop (a+(j+1))).take (2 - (j+1)))) s.l[a+j].toNat s.l[a+j].toNat_lt hn8;have jW:IntKind.u64.wrap (s.l[a+j].toNat:Int) = (s.l[a+j].toNat:Int):=by rw [qK];have:=s.l[a+j].toNat_lt;omega
  have g1:(0:Int)≤(a:Int)+(j:Int):=by omega
  have g2:(a:Int)+(j:Int) < (s.l.length:Int):=by omega
  have g3:((a:Int)+(j:Int)).toNat = a+j:=by omega
  simp [h0,h1,h8,h9,hj,hwj,jX,jW,hnn,g1,g2,g3,zW qg,-Nat.reduceSubDiff];rw [hst];clear hn8 hst jW;exact ⟨j,by omega,by omega,by rw [hd,leN,Nat.mul_comm,Nat.add_comm],rfl⟩
theorem qnb [MaxL] (s:Sl UInt8) (a:Nat) (ha:a≤s.l.length) (h:s.l.length < a+2) (_:s.l.length < 4611686018427387904) :
  call cx 117 [(.vsl s.nil (qd s.l) s.l.length),.int .i64 a,.int .i64 2] [] = some (.tup [.int .u64 0,.bool false],[]):=by
 have g0:¬ (a:Int) < 0:=by omega
 have g1:¬ (s.l.length:Int) < (a:Int):=by omega
 have hw:IntKind.i64.wrap ((s.l.length:Int) - (a:Int)) = (s.l.length:Int) - (a:Int):=by rw [wrap_i64];omega
 have g2:(s.l.length:Int) - (a:Int) < 2:=by omega
 refine qq Tryz.func117 rfl ⟨rfl,rfl⟩ ?_;simp [Tryz.f117,g0,g1,hw,g2]
set_option maxHeartbeats 1000000 in
theorem qgp [MaxL] (s:Sl UInt8) (a:Nat) (h:a+4≤s.l.length) (_:s.l.length < 4611686018427387904) :
  call cx 117 [(.vsl s.nil (qd s.l) s.l.length),.int .i64 a,.int .i64 4] [] = some (.tup [.int .u64 (leN ((s.l.drop a).take 4)),.bool true],[]):=by
 have hnn:s.nil = false:=Sl.nn (i:=a) (by omega);have g0:¬ (a:Int) < 0:=by omega
 have g1:¬ (s.l.length:Int) < (a:Int):=by omega
 have hw:IntKind.i64.wrap ((s.l.length:Int) - (a:Int)) = (s.l.length:Int) - (a:Int):=by rw [wrap_i64];omega
 have g2:¬ (s.l.length:Int) - (a:Int) < 4:=by omega
 refine qq Tryz.func117 rfl ⟨rfl,rfl⟩ ?_;simp [Tryz.f117,hnn,g0,g1,hw,g2];refine Run.loopThen (fun (i:Nat) e H=>i≤4∧H = []∧qf e 0 = some (.vsl s.nil (qd s.l) s.l.length)∧qf e 1 = some (.int .i64 a)∧qf e 8 = some (.int .u64 (leN ((s.l.drop (a+i)).take (4 - i)):Nat))∧qf e 9 = some (.int .i64 ((i:Int) - 1))) (fun i=>i) 4 (by simp [leN,hnn]) ?_;rintro i e H ⟨hi,rfl,h0,h1,h8,h9⟩;cases i with
 | zero=>simp [h0,h1,h8,h9]
 | succ j =>
  have hj:(0:Int)≤(j:Int):=by omega
  have hwj:IntKind.i64.wrap ((a:Int)+(j:Int)) = ((a+j:Nat):Int):=by rw [wrap_i64] <;> omega
  have jX:IntKind.i64.wrap ((j:Int) - 1) = (j:Int) - 1:=by rw [wrap_i64];omega
  have qg:a+j < s.l.length:=by omega
  have e1:((j+1:Nat):Int) - 1 = (j:Int):=by omega
  rw [e1] at h9
  have hd:(s.l.drop (a+j)).take (4 - j) = s.l[a+j] :: (s.l.drop (a+(j+1))).take (4 - (j+1)):=by
   rw [List.drop_eq_getElem_cons qg,show 4 - j = (4 - (j+1))+1 by omega,List.take_succ_cons,Nat.add_assoc]
  have hn8:leN ((s.l.drop (a+(j+1))).take (4 - (j+1))) < 256 ^ 7:=by
   refine Nat.lt_of_lt_of_le (JX _) (Nat.pow_le_pow_right (by decide) ?_);rw [List.length_take];omega
  have hst:=qdt (leN ((s.l.drop (a+(j+1))).take (4 - (j+1)))) s.l[a+j].toNat s.l[a+j].toNat_lt hn8;have jW:IntKind.u64.wrap (s.l[a+j].toNat:Int) = (s.l[a+j].toNat:Int):=by rw [qK];have:=s.l[a+j].toNat_lt;omega
  have g1:(0:Int)≤(a:Int)+(j:Int):=by omega
  have g2:(a:Int)+(j:Int) < (s.l.length:Int):=by omega
  have g3:((a:Int)+(j:Int)).toNat = a+j:=by omega
  simp [h0,h1,h8,h9,hj,hwj,jX,jW,hnn,g1,g2,g3,zW qg,-Nat.reduceSubDiff];rw [hst];clear hn8 hst jW;exact ⟨j,by omega,by omega,by rw [hd,leN,Nat.mul_comm,Nat.add_comm],rfl⟩
theorem qna [MaxL] (s:Sl UInt8) (a:Nat) (ha:a≤s.l.length) (h:s.l.length < a+4) (_:s.l.length < 4611686018427387904) :
  call cx 117 [(.vsl s.nil (qd s.l) s.l.length),.int .i64 a,.int .i64 4] [] = some (.tup [.int .u64 0,.bool false],[]):=by
 have g0:¬ (a:Int) < 0:=by omega
 have g1:¬ (s.l.length:Int) < (a:Int):=by omega
 have hw:IntKind.i64.wrap ((s.l.length:Int) - (a:Int)) = (s.l.length:Int) - (a:Int):=by rw [wrap_i64];omega
 have g2:(s.l.length:Int) - (a:Int) < 4:=by omega
 refine qq Tryz.func117 rfl ⟨rfl,rfl⟩ ?_;simp [Tryz.f117,g0,g1,hw,g2]
theorem qmQ [MaxL] (b:Sl UInt8) (hn:b.l.length≤140737488354000):call cx 116 [(.vsl b.nil (qd b.l) b.l.length)] [] = some (XD b.l,[]):=by
 refine qq Tryz.func116 rfl ⟨rfl,rfl⟩ ?_;unfold XD;by_cases h4:b.l.length < 4
 ·rw [if_pos h4];have qg:(b.l.length:Int) < 4:=by omega
  simp [Tryz.f116,qg]
 rw [if_neg h4];obtain ⟨n,hn4⟩:∃ n,b.l.length - 4 = n:=⟨_,rfl⟩;have qF:IntKind.i64.wrap ((b.l.length:Int) - 4) = (n:Int):=by rw [wrap_i64] <;> omega
 have qg:¬ (b.l.length:Int) < 4:=by omega
 have hnn:b.nil = false:=Sl.nn (i:=0) (by omega);have hg:=qgp b n (by omega) (by omega);rw [List.take_of_length_le (by rw [List.length_drop];omega)] at hg;have h1:=qge 0#32 (.of (b.l.take n)) (by simp;omega);have hw:=qeZ (Qb 0#32 (b.l.take n));have hng:(0:Int)≤(n:Int):=by omega
 have qQ:n≤b.l.length:=by omega
 have jm:(b.l.take n).length = n:=by rw [List.length_take];omega
 have qu:List.take n (qd b.l) = qd (b.l.take n):=vK _ _;have hs:Vh b.l = decide (leN (b.l.drop n) = (Qb 0#32 (b.l.take n)).toNat):=by unfold Vh;rw [hn4]
 rw [hs,hn4];simp only [Sl.of_l,Sl.of_nil,jm] at h1 hw;rw [hnn] at hg;generalize leN (b.l.drop n) = v at *;generalize Qb 0#32 (b.l.take n) = c at *;generalize b.l.take n = y at *;replace h1:call cx 91 [.int .u32 0,.vsl false (qd y) n] [] = some (.int .u32 (c.toNat:Nat),[]):=h1;have hcond:((v:Int) = (c.toNat:Int)) = (v = c.toNat):=propext ⟨fun h=>Int.ofNat.inj h,fun h=>congrArg _ h⟩;by_cases hv:v = c.toNat
 ·subst hv;simp [Tryz.f116,qg,qF,hnn,hg,h1,hw,hng,qQ,qu,jm]
 ·rw [decide_eq_false hv];simp [Tryz.f116,qg,qF,hnn,hg,h1,hw,hng,qQ,qu,hcond,hv]
def qwF (X:List UInt8) (d:D) (H:qi):Prop:= ∃ n,n = X.length∧d = .osl 0 n 0 n 1∧H = [some (qd X)]
set_option maxHeartbeats 4000000 in
theorem qmL [MaxL] (s:Sl It) (m:Sl Mk) (hs:Yb s.l) (hm:∀ x∈m.l,x.Ok) (hmn:m.l.length < 4611686018427387904):call cx 55 [(.vsl s.nil (qh s.l) s.l.length),(.vsl m.nil (qh m.l) m.l.length)] [] = some ((.vsl (Jh s.l m.l).nil (qd (Jh s.l m.l).l) (Jh s.l m.l).l.length),[]):=by
 have hr:=qcJ m hmn;refine qq Tryz.func55 rfl ⟨rfl,rfl⟩ ?_;by_cases h64:s.l.length≤64
 case neg =>
  have h64':(64:Int) < (s.l.length:Int):=by omega
  have hp:Zr s.l m.l = false:=by unfold Zr;rw [decide_eq_false h64,Bool.false_and]
  rw [qcY hp];simp [Tryz.f55,h64',Sl.none]
 have h64':¬ (64:Int) < (s.l.length:Int):=by omega
 cases hrm:jJ m.l with
 | false =>
  rw [hrm] at hr;have hp:Zr s.l m.l = false:=by unfold Zr;rw [hrm,Bool.false_and,Bool.and_false]
  rw [qcY hp];simp [Tryz.f55,h64',hr,Sl.none]
 | true =>
 rw [hrm] at hr;have hw0:IntKind.u64.wrap (s.l.length:Int) = (s.l.length:Int):=by rw [qK];omega
 have h0:=qdz s.l.length 2 (by decide) (by decide) (by omega);replace h0:call cx 87 [.int .u64 (s.l.length:Nat),.int .i64 2] [] = some (.vsl false (qd (qC 2 s.l.length)) 2,[]):=h0;have h0l:(qC 2 s.l.length).length = 2:=JY _ _;have hsg:qd (Jm ++ qC 2 s.l.length) = .int .u8 68 :: .int .u8 66 :: .int .u8 65 :: .int .u8 84 :: qd (qC 2 s.l.length):=by rw [ZP];rfl
 have hsl:(Jm ++ qC 2 s.l.length).length = 6:=by rw [List.length_append,h0l];rfl
 have hC0:Xx s.l 0 (Jm ++ qC 2 s.l.length):=by simp [Xx]
 generalize Jm ++ qC 2 s.l.length = X0 at *;generalize qC 2 s.l.length = z0 at *;have htz:List.take 2 (qd z0) = qd z0:=List.take_of_length_le (by simp [h0l]);simp [Tryz.f55,h64',hr,hw0,h0,qB,h0l];refine Run.loopThen (fun (q:Nat × List UInt8) e H=>q.1≤s.l.length∧Xx s.l q.1 q.2∧(∀ x∈s.l.take q.1,zw x = true)∧(∃ d,qf e 5 = some d∧qwF q.2 d H)∧qf e 1 = some (.vsl m.nil (qh m.l) m.l.length)∧qf e 0 = some (.vsl s.nil (qh s.l) s.l.length)∧qf e 6 = some (.int .i64 (q.1:Nat))) (fun q=>s.l.length - q.1) (0,X0) ?_ ?_
 ·exact ⟨Nat.zero_le _,hC0,by simp,⟨_,by simp,6,hsl.symm,rfl,by rw [← hsg]⟩,by simp,by simp,by simp⟩
 rintro ⟨i,X⟩ e H ⟨hi,hX,hok,⟨d,k5,n,hn,rfl,rfl⟩,k1,k0,k6⟩;simp only at hi hX hok hn k6;have hnX:X.length = n:=hn.symm;have htX:List.take n (qd X) = qd X:=List.take_of_length_le (by simp;omega);have hfl:=qtW (l:=s.l.take i) (fun x hx=>hs x (List.mem_of_mem_take hx)) hok
 have jj:X.length≤700000:=by
  rw [List.length_take] at hfl;have:min i s.l.length * 10004≤64 * 10004:=Nat.mul_le_mul_right _ (by omega);unfold Xx at hX;rw [hX,List.length_append,List.length_append,JY];show 4+2+_≤_;omega
 by_cases qg:i < s.l.length
 ·have qk:(i:Int) < (s.l.length:Int):=by omega
  have hw:IntKind.i64.wrap ((i:Int)+1) = ((i+1:Nat):Int):=by rw [wrap_i64] <;> omega
  obtain ⟨x1,x2,x3⟩:=hs s.l[i] (List.getElem_mem qg);have t0:=Yv s.l[i] x1 x3 x2;have t1:=qfJ s.l[i] x1 x3 x2;have jK:List.drop (i * 39) (qh s.l) = Enc.cells s.l[i] ++ qh (s.l.drop (i+1)):=It.ea qg;have htake:s.l.take (i+1) = s.l.take i ++ [s.l[i]]:=List.take_succ_eq_append_getElem qg;cases ho:zw s.l[i] with
  | false =>
   have hp:Zr s.l m.l = false:=by
    unfold Zr
    have:s.l.all zw = false:=by
     cases h:s.l.all zw with
     | false=>rfl
     | true=>rw [List.all_eq_true] at h;rw [h _ (List.getElem_mem qg)] at ho;cases ho
    rw [this,Bool.and_false,Bool.and_false]
   rw [qcY hp];rw [ho] at t0;generalize s.l[i] = x at *;simp [-It.ea,k5,k1,k0,k6,qk,Sl.nn qg,jK,t0,Sl.none]
  | true =>
   rw [ho] at t0;unfold KP at t1;rw [ho,if_pos rfl] at t1;obtain ⟨tl1,tl2⟩:=qcv x1 ho
   have hX2:Xx s.l (i+1) (X ++ qC 4 (zp s.l[i]).length ++ zp s.l[i]):=by
    unfold Xx at *;rw [hX,htake,List.flatMap_append];simp [VF]
   have hok2:∀ x∈s.l.take (i+1),zw x = true:=by
    intro x hx;rw [htake] at hx;rcases List.mem_append.1 hx with h | h
    ·exact hok x h
    ·rw [List.mem_singleton.1 h];exact ho
   have a1:=qdz (zp s.l[i]).length 4 (by decide) (by decide) (by omega);replace a1:call cx 87 [.int .u64 ((zp s.l[i]).length:Nat),.int .i64 4] [] = some (.vsl false (qd (qC 4 (zp s.l[i]).length)) 4,[]):=a1;have Q0:IntKind.u64.wrap ((zp s.l[i]).length:Int) = ((zp s.l[i]).length:Int):=(by rw [qK];omega);generalize zp s.l[i] = t at *;generalize s.l[i] = x at *;have zB:(qC 4 t.length).length = 4:=JY _ _;generalize qC 4 t.length = z at *;have htz4:List.take 4 (qd z) = qd z:=List.take_of_length_le (by simp [zB]);have hb1:n+4≤140737488355328:=(by omega);have zm:n+4+t.length≤140737488355328:=(by omega);simp [-It.ea,k5,k1,k0,k6,qk,Sl.nn qg,jK,t0,t1,hw,Q0,qB,a1,hb1,zm,hnX,zB];exact ⟨i+1,by omega,by omega,_,hX2,hok2,⟨n+4+t.length,by rw [List.length_append,List.length_append,hnX,zB],rfl,by rw [ZP,ZP,List.append_assoc]⟩,by omega⟩
 ·have qk:¬ (i:Int) < (s.l.length:Int):=by omega
  have vj:s.l.take i = s.l:=List.take_of_length_le (by omega);rw [vj] at hok;have jE:s.l.all zw = true:=List.all_eq_true.2 hok;have hp:Zr s.l m.l = true:=by unfold Zr;rw [decide_eq_true h64,hrm,jE];rfl
  have hb:=qgf m hmn hm;have hbS:kr m.l = .of (Zv m.l):=by unfold kr;rw [hrm];rfl
  rw [hbS] at hb;have hraw:X ++ Zv m.l = Kf s.l m.l:=by unfold Xx at hX;rw [hX,vj];unfold Kf;simp
  have hml:(Zv m.l).length≤161:=by rw [qhs];have:=Kb hrm;omega
  have hc:=qfR (.of (X ++ Zv m.l)) (by simp;omega)
  have hS:Jh s.l m.l = if (ku (X ++ Zv m.l)).length≤65536 then .of (ku (X ++ Zv m.l)) else .none:=by
   unfold Jh;rw [hp,hraw,Bool.true_and];by_cases h:(ku (Kf s.l m.l)).length≤65536
   ·rw [decide_eq_true h,if_pos rfl,if_pos h]
   ·rw [decide_eq_false h,if_neg (by decide),if_neg h]
  rw [hS];simp only [Sl.of_l,Sl.of_nil] at hc hb;generalize Zv m.l = y at *;have hsl:=KT (X ++ y);generalize ku (X ++ y) = z at *;rw [ZP,List.length_append,hnX] at hc;have hmn2:n+y.length≤140737488355328:=by omega
  have qu:List.take (n+y.length) (qd X ++ qd y) = qd X ++ qd y:=List.take_of_length_le (by simp;omega);by_cases h6:z.length≤65536
  ·have h6':¬ (65536:Int) < (z.length:Int):=(by omega);rw [if_pos h6];simp [k5,k1,k0,k6,qk,hb,hc,qB,h6',qu,hmn2,hnX]
  ·have h6':(65536:Int) < (z.length:Int):=(by omega);rw [if_neg h6];simp [k5,k1,k0,k6,qk,hb,hc,qB,h6',qu,hmn2,hnX,Sl.none]
theorem qoZ [MaxL] (s:Sl UInt8) (h2:s.l.length≤1000000):call cx 92 [(.vsl s.nil (qd s.l) s.l.length)] [] = some (.osl 0 s.l.length 0 s.l.length 1,[some (qd s.l)]):=by
 have hm:s.l.length≤140737488355328:=by omega
 refine qq Tryz.func92 rfl ⟨rfl,rfl⟩ ?_;simp [Tryz.f92,qB,hm]
theorem qo1 {o:List UInt8} {j:Nat} (h:j < o.length) {x:Nat} (hx:x < 256):List.take j (qd o) ++ D.int .u8 (x:Int) :: List.drop (j+1) (qd o) = qd (o.set j (UInt8.ofNat x)):=by
 rw [List.set_eq_take_append_cons_drop,if_pos h,ZP,VC,vK,Qy,UInt8.toNat_ofNat_of_lt' hx]
def qky (b:List UInt8) (q:D × qi):Prop:= ∃ o:List UInt8,o.length = b.length∧q = (.vsl false (qd o) o.length,[])
set_option maxHeartbeats 2000000 in
theorem qlE [MaxL] (b:Sl UInt8) (hb:b.l.length≤100000) (nil:Bool) (zs:List Int) (qJ:nil = true→zs = []) (hz:zs.length≤1000000) (y:UInt8):∃ q,call cx 57 [(.vsl b.nil (qd b.l) b.l.length),.vsl nil (zL .i64 zs) zs.length,.int .u8 y.toNat] [] = some q∧qky b.l q:=by
 refine vf (X:=cx) (f:=57) (args:=[(.vsl b.nil (qd b.l) b.l.length),.vsl nil (zL .i64 zs) zs.length,.int .u8 y.toNat]) (H:=[]) (qky b.l) Tryz.func57 rfl ⟨rfl,rfl⟩ ?_;have c1:=qoZ b (by omega);simp [Tryz.f57,c1];refine Run.loopThen (fun (q:Nat × List UInt8) e H'=>q.1≤zs.length∧q.2.length = b.l.length∧H' = [some (qd q.2)]∧qf e 1 = some (.vsl nil (zL .i64 zs) zs.length)∧qf e 2 = some (.int .u8 (y.toNat:Nat))∧qf e 7 = some (.osl 0 b.l.length 0 b.l.length 1)∧qf e 8 = some (.int .i64 (q.1:Nat))) (fun q=>zs.length - q.1) (0,b.l) ⟨Nat.zero_le _,rfl,by simp,by simp,by simp,by simp,by simp⟩ ?_;rintro ⟨k,o⟩ e H' ⟨hk,ho,rfl,k1,k2,k7,k8⟩;simp only at hk ho k8;by_cases qg:k < zs.length
 ·have qk:(k:Int) < (zs.length:Int):=by omega
  have hnf:nil = false:=by
   cases nil with
   | false=>rfl
   | true=>rw [qJ rfl] at qg;exact absurd qg (Nat.not_lt_zero _)
  have hw:IntKind.i64.wrap ((k:Int)+1) = ((k+1:Nat):Int):=by rw [wrap_i64] <;> omega
  have qM:=qdD (k:=.i64) qg;by_cases h0:0 < b.l.length
  ·obtain ⟨j,hj,c2⟩:=qhk zs[k] b.l.length (by omega) (by omega);have hjo:j < o.length:=(by omega);have hx:=qkD (a:=o[j].toNat) (b:=y.toNat) (UInt8.toNat_lt _) (UInt8.toNat_lt _);have hat2:=zW hjo;have hjb:j < b.l.length:=(by omega);have hj1:j+1≤b.l.length:=(by omega);have hput:=qo1 hjo (x:=o[j].toNat ^^^ y.toNat) (Nat.xor_lt_two_pow (n:=8) (UInt8.toNat_lt _) (UInt8.toNat_lt _));simp [k1,k2,k7,k8,qk,hw,qM,hnf,h0,c2,hx,hat2,hjb,ho,hj1,hput];exact ⟨k+1,by omega,by omega,_,by simp [ho],rfl,by omega⟩
  ·have jp:b.l.length = 0:=(by omega);have ho0:o = []:=List.eq_nil_of_length_eq_zero (by omega);subst ho0;simp [k1,k2,k7,k8,qk,jp];exact ⟨[],by rw [jp];rfl,rfl⟩
 ·have qk:¬ (k:Int) < (zs.length:Int):=by omega
  have qu:List.take b.l.length (qd o) = qd o:=List.take_of_length_le (by simp [ho]);simp [k1,k2,k7,k8,qk,qu,ho];exact ⟨o,ho,by rw [ho]⟩
theorem VV (z:Int):qw (IntKind.u64.wrap z):=by
 simp only [IntKind.wrap,IntKind.signed,IntKind.bits];simp;unfold qw;omega
def V2 (f:List Mk):Prop:= ∀ m∈f,m.Ok
theorem qgd (v n:Int):qw (Qg v n):=by
 unfold Qg;split
 ·unfold kb qw;decide
 ·exact VV _
theorem qfM {m:Mk} {x:It} (hm:m.Ok) (hx:x.Ok) (o:Bool):(Zm m x o).Ok:=by
 unfold Zm;split
 ·exact ⟨hx.til,qgd _ _,hm.over⟩
 ·refine ⟨hx.rc.seq,hm.lost,?_⟩;simp only;split
  ·exact qgd _ _
  ·exact hm.over
theorem qfP (m:Mk):∀ (l:List Mk) (i:Bool) (y:Mk),y∈(zS m l i).1→y = m∨y∈l
 | [],i,y,h=>by simp [zS] at h
 | a :: l,i,y,h=>by
  have ih:=qfP m l;simp only [zS,List.mem_append] at h;rcases h with (h | h) | h
  ·split at h
   ·exact .inl (List.mem_singleton.1 h)
   ·cases h
  ·split at h
   ·exact .inr (List.mem_cons.2 (.inl (List.mem_singleton.1 h)))
   ·cases h
  ·rcases ih _ _ h with h | h
   ·exact .inl h
   ·exact .inr (List.mem_cons_of_mem _ h)
theorem qfK {f:List Mk} {x:It} (hf:V2 f) (hx:x.Ok) (o:Bool):V2 (Vk f x o):=by
 intro y hy;unfold Vk Q8 at hy;rcases List.mem_append.1 hy with h | h
 ·rcases qfP _ _ _ _ h with rfl | h
  ·exact qfM (qdU hf x.id) hx o
  ·exact hf y h
 ·split at h
  ·cases h
  ·rw [List.mem_singleton.1 h];exact qfM (qdU hf x.id) hx o
theorem qm1 {f:List Mk} {x:It} {o:Bool} (h:V5 f x o = 0):(Vk f x o).length≤9:=by
 have hr:jJ f = true:=by
  cases hc:jJ f with
  | true=>rfl
  | false =>
   unfold V5 Zn at h;simp [hc] at h
 have h4:=Kb hr;unfold Vk Q8;have:=qaP (Zm (jd f x.id) x o) f false;rw [List.length_append];split <;> simp <;> omega
theorem qnD (l:List It) (m:List Mk):(Jh l m).l.length≤65536:=by
 unfold Jh;split
 ·rename_i h;rw [Bool.and_eq_true,decide_eq_true_eq] at h;simpa using h.2
 ·simp
@[simp] theorem It.s17 (m:It) (x:Int):qA (Enc.cells m) 17 [.int .u64 x] = Enc.cells { m with fr:=x }:=by simp [qA,It.cells,List.take_append,List.drop_append,zk,List.take_of_length_le]
@[simp] theorem It.s18 (m:It) (x:Int):qA (Enc.cells m) 18 [.int .u64 x] = Enc.cells { m with til:=x }:=by simp [qA,It.cells,List.take_append,List.drop_append,zk,List.take_of_length_le]
@[simp] theorem It.s19 (m:It) (x:Int):qA (Enc.cells m) 19 [.int .u64 x] = Enc.cells { m with rc:={ m.rc with seq:=x } }:=by simp [qA,It.cells,List.take_append,List.drop_append,zk,List.take_of_length_le]
def Zw (it:It) (n:Int):It:=if it.gap then { it with fr:=IntKind.u64.wrap (it.fr+n),til:=IntKind.u64.wrap (it.til+n) } else { it with rc:={ it.rc with seq:=IntKind.u64.wrap (it.rc.seq+n) } }
theorem qp1 [MaxL] (it:It) (n:Int):call cx 53 [.agg (Enc.cells it),.int .u64 n] [] = some (.agg (Enc.cells (Zw it n)),[]):=by
 refine qq Tryz.func53 rfl ⟨rfl,rfl⟩ ?_;unfold Zw;cases hg:it.gap with
 | true =>
  simp [Tryz.f53,hg]
 | false =>
  simp [Tryz.f53,hg]
theorem qp2 {it:It} {n:Int} (h:it.Ok∧it.rc.fields.l.length < 1000000∧∀ p∈it.rc.fields.l,kH p):(Zw it n).Ok∧(Zw it n).rc.fields.l.length < 1000000∧∀ p∈(Zw it n).rc.fields.l,kH p:=by
 obtain ⟨h1,h2,h3⟩:=h;unfold Zw;split
 ·exact ⟨⟨VV _,VV _,h1.rc⟩,h2,h3⟩
 ·exact ⟨⟨h1.fr,h1.til,⟨VV _,h1.rc.real,h1.rc.mono⟩⟩,h2,h3⟩
def J6 (s:RSt) (e:Int):RSt:=if s.ep < e then ⟨e,0,s.its,s.mks⟩ else s
theorem qjX (l:List Mk):(kr l).l.length≤1000:=by
 unfold kr;split
 ·rename_i h;have:=Kb h;rw [Sl.of_l,qhs];omega
 ·simp
def jI (s:RSt) (q:Rq):Int × Sl UInt8 × RSt :=
 if q.epoch < s.ep then (409,.none,s)
 else if q.path = jr then (if 0 < q.body.l.length then (400,.none,s) else (200,kr s.mks.l,J6 s q.epoch))
 else ((jf s q).1,.none,(jf s q).2)
def kE (s:RSt) (b:List UInt8):Sl UInt8 × RSt :=
 if (vy b).2≠0 then (kN ⟨400,0,0,.none⟩,s)
 else (kN ⟨(jI s (vy b).1).1,(jI s (vy b).1).2.2.ep,(vy b).1.number,(jI s (vy b).1).2.1⟩,(jI s (vy b).1).2.2)
structure RInv (s:RSt) (n:Nat):Prop where
 ep:qw s.ep
 la:qw s.la
 ok:V2 s.mks.l
 len:s.mks.l.length≤4
 right:jJ s.mks.l = true
 its:∀ x∈s.its,GotI x
 num:s.its.length≤n
theorem RInv.more {s:RSt} {n m:Nat} (h:RInv s n) (hnm:n≤m):RInv s m:=⟨h.ep,h.la,h.ok,h.len,h.right,h.its,Nat.le_trans h.num hnm⟩
theorem qmV:RInv ⟨0,0,[],.none⟩ 0:=⟨by constructor <;> decide,by constructor <;> decide,fun m hm=>(by cases hm),by simp,rfl,fun x hx=>(by cases hx),by simp⟩
theorem qtC {b:List UInt8} {l:List It} {m:List Mk} (hb:b.length≤65536) (h:vo b = (l,m,0)):jJ m = true:=by
 have h1:=(qdT hb h).1;unfold Jh at h1;by_cases hc:(Zr l m && decide ((ku (Kf l m)).length≤65536)) = true
 ·rw [Bool.and_eq_true] at hc;have:=hc.1;unfold Zr at this;simp only [Bool.and_eq_true] at this;exact this.2.1
 ·rw [if_neg hc] at h1;have:=congrArg Sl.nil h1;simp at this
theorem qkk (s:RSt) (q:Rq) (_:q.body.l.length≤65536):((jf s q).2 = s∧((jf s q).1 = 400∨(jf s q).1 = 409))∨((jf s q).2 = s∧(jf s q).1 = 200∧q.epoch≤s.ep∧q.number = s.la∧q.number≠0) ∨
  ∃ l m t,vo q.body.l = (l,m,0)∧Z0 l s.mks.l = some t∧vS t m = true∧vS s.mks.l m = true∧q.epoch≤s.ep∧q.number≠0∧jf s q = (200,⟨s.ep,q.number,s.its ++ l,Sl.grown m⟩):=by
 unfold jf;by_cases h1:s.ep < q.epoch
 ·rw [if_pos h1];exact .inl ⟨rfl,.inr rfl⟩
 rw [if_neg h1];by_cases h2:q.number = s.la∧q.number≠0
 ·rw [if_pos h2];exact .inr (.inl ⟨rfl,rfl,by omega,h2.1,h2.2⟩)
 rw [if_neg h2];by_cases h3:q.number≠IntKind.u64.wrap (s.la+1)∨q.number = 0
 ·rw [if_pos h3];exact .inl ⟨rfl,.inr rfl⟩
 rw [if_neg h3];obtain ⟨⟨l,m,c⟩,hg⟩:∃ g,g = vo q.body.l:=⟨_,rfl⟩;rw [← hg];unfold VP;simp only;by_cases hc:c = 0
 case neg =>
  rw [if_pos hc];exact .inl ⟨rfl,.inl rfl⟩
 subst hc;rw [if_neg (fun h=>h rfl)];cases hf:Z0 l s.mks.l with
 | none=>exact .inl ⟨rfl,.inl rfl⟩
 | some t =>
  simp only;by_cases hle:(vS t m && vS s.mks.l m) = true
  ·rw [if_pos hle];rw [Bool.and_eq_true] at hle;exact .inr (.inr ⟨l,m,t,rfl,hf,hle.1,hle.2,by omega,fun h=>h3 (.inr h),rfl⟩)
  ·rw [if_neg hle];exact .inl ⟨rfl,.inl rfl⟩
theorem qwj {s:RSt} {n:Nat} (h:RInv s n) (q:Rq) (hb:q.body.l.length≤65536) (hq:qw q.number):RInv (jf s q).2 (n+64):=by
 rcases qkk s q hb with ⟨h1,_⟩ | ⟨h1,_⟩ | ⟨l,m,t,hg,hf,zJ,zZ,_,_,h1⟩
 ·rw [h1];exact h.more (by omega)
 ·rw [h1];exact h.more (by omega)
 ·rw [h1];obtain ⟨h2,h3,h4,h5,h6⟩:=qdT hb hg;refine ⟨h.ep,hq,h4,h6,qtC hb hg,fun x hx=>?_,?_⟩
  ·rcases List.mem_append.1 hx with hx | hx
   ·exact h.its x hx
   ·exact h3 x hx
  ·have:=h.num;simp only [List.length_append];omega
theorem qin {s:RSt} {n:Nat} (h:RInv s n) {e:Int} (he:qw e):RInv (J6 s e) n:=by
 unfold J6;by_cases hc:s.ep < e
 ·rw [if_pos hc];exact ⟨he,by constructor <;> (simp only;decide),h.ok,h.len,h.right,h.its,h.num⟩
 ·rw [if_neg hc];exact h
theorem qkr {s:RSt} {n:Nat} (h:RInv s n) (q:Rq) (hb:q.body.l.length≤65536) (he:qw q.epoch) (hq:qw q.number):RInv (jI s q).2.2 (n+64):=by
 unfold jI
 repeat' split
 ·exact h.more (by omega)
 ·exact h.more (by omega)
 ·exact (qin h he).more (by omega)
 ·exact qwj h q hb hq
theorem X1 {n:Nat} (h:n < 18446744073709551616):qw (n:Int):=⟨by omega,by omega⟩
theorem qtv {s:RSt} {n:Nat} (h:RInv s n) (b:List UInt8):RInv (kE s b).2 (n+64):=by
 unfold kE;by_cases hc:(vy b).2 = 0
 ·rw [if_neg (fun h=>h hc)];obtain ⟨p,x,y,body,hp,hq,_,hx,hy,hl⟩:=qaY hc;rw [hq];exact qkr h _ (by simpa using hl) (X1 hx) (X1 hy)
 ·rw [if_pos hc];exact h.more (by omega)
theorem qlV [MaxL] (s:RSt) (hm:s.mks.l.length≤4) (hok:V2 s.mks.l) (d:D) (T:qi) (zA:ZY s.its d T) (e n:Int) (o:Sl UInt8) :
  call cx 35 [.optr 0 4 0,.agg [.str jr,.int .u64 e,.int .u64 n,(.vsl o.nil (qd o.l) o.l.length)]] (some (s.A d) :: T) = some (if 0 < o.l.length then .tup [.int .i64 400,.vsl true [] 0] else .tup [.int .i64 200,(.vsl (kr s.mks.l).nil (qd (kr s.mks.l).l) (kr s.mks.l).l.length)],some ((if 0 < o.l.length then s else J6 s e).A d) :: T):=by
 have h1:=qvN s.mks (by omega) hok;obtain ⟨ep,la,its,mk⟩:=s;unfold J6;simp only [RSt.A] at zA h1 hm ⊢;generalize kr mk.l = z at *;obtain ⟨on,ho⟩:∃ on,o.l.length = on:=⟨_,rfl⟩;rcases zA with ⟨rfl,rfl,rfl⟩ | ⟨qr,n1,k1,zx,hk1,rfl,rfl⟩
 ·by_cases h0:0 < on
  ·have kq:(0:Int) < (on:Int):=(by omega);rw [ho,if_pos h0,if_pos h0];refine qq Tryz.func35 rfl ⟨rfl,rfl⟩ ?_;simp [Tryz.f35,h0]
  ·have kq:on = 0:=(by omega);rw [ho,if_neg h0,if_neg h0];refine qq Tryz.func35 rfl ⟨rfl,rfl⟩ ?_;by_cases h:ep < e
   ·simp [Tryz.f35,h1,h,kq]
   ·simp [Tryz.f35,h1,h,kq]
 ·by_cases h0:0 < on
  ·have kq:(0:Int) < (on:Int):=(by omega);rw [ho,if_pos h0,if_pos h0];refine qq Tryz.func35 rfl ⟨rfl,rfl⟩ ?_;simp [Tryz.f35,h0]
  ·have kq:on = 0:=(by omega);rw [ho,if_neg h0,if_neg h0];refine qq Tryz.func35 rfl ⟨rfl,rfl⟩ ?_;by_cases h:ep < e
   ·simp [Tryz.f35,h1,h,kq]
   ·simp [Tryz.f35,h1,h,kq]
set_option maxHeartbeats 2000000 in
theorem qtu [MaxL] {s:RSt} {N:Nat} (hI:RInv s N) (hN:N≤100000) (d:D) (T:qi) (zA:ZY s.its d T) (b:Sl UInt8) (hb:b.l.length≤90000) :
  ∃ r,call cx 12 [.optr 0 4 0,(.vsl b.nil (qd b.l) b.l.length)] (some (s.A d) :: T) = some r∧HearQ (kE s b.l).2 (kE s b.l).1 r:=by
 have h1:=qg8 b hb;have hm:=hI.len;have vj:=hI.num;by_cases hc:(vy b.l).2 = 0
 case neg =>
  have hS:kE s b.l = (kN ⟨400,0,0,.none⟩,s):=by unfold kE;rw [if_pos hc]
  rw [hS];have h2:=Y6 ⟨400,0,0,.none⟩ ⟨by simp,by simp⟩ ⟨by simp,by simp⟩ (by simp);generalize (vy b.l).2 = c at *;generalize (vy b.l).1 = q0 at *;obtain ⟨p,e,n,o⟩:=q0;obtain ⟨ep,la,its,mk⟩:=s;simp only [Rq.cells,Rs.cells,RSt.A] at h1 h2 zA ⊢
  try simp at h2
  generalize kN ⟨400,0,0,.none⟩ = z at *;rcases zA with ⟨rfl,rfl,rfl⟩ | ⟨qr,n1,k1,zx,hk1,rfl,rfl⟩
  ·refine vf (X:=cx) (f:=12) (args:=[.optr 0 4 0,(.vsl b.nil (qd b.l) b.l.length)]) (H:=[some [.int .u64 ep,.int .u64 la,.vsl true [] 0,(.vsl mk.nil (qh mk.l) mk.l.length)]]) (HearQ ⟨ep,la,[],mk⟩ z) Tryz.func12 rfl ⟨rfl,rfl⟩ ?_;simp [Tryz.f12,h1,h2,hc];exact HearQ.mk (.inl ⟨rfl,rfl,rfl⟩)
  ·refine vf (X:=cx) (f:=12) (args:=[.optr 0 4 0,(.vsl b.nil (qd b.l) b.l.length)]) (H:=[some [.int .u64 ep,.int .u64 la,.osl 1 n1 0 k1 39,(.vsl mk.nil (qh mk.l) mk.l.length)],some (qh its)]) (HearQ ⟨ep,la,its,mk⟩ z) Tryz.func12 rfl ⟨rfl,rfl⟩ ?_;simp [Tryz.f12,h1,h2,hc];exact HearQ.mk (.inr ⟨qr,n1,k1,zx,hk1,rfl,rfl⟩)
 obtain ⟨p,x,y,body,hp,hq,_,hx,hy,hl⟩:=qaY hc
 have hS:kE s b.l = (kN ⟨(jI s ⟨p,x,y,.of body⟩).1,(jI s ⟨p,x,y,.of body⟩).2.2.ep,y,(jI s ⟨p,x,y,.of body⟩).2.1⟩,(jI s ⟨p,x,y,.of body⟩).2.2):=by
  unfold kE;rw [if_neg (fun h=>h hc),hq]
 have ux:=X1 hx;have uy:=X1 hy;have hr:vy b.l = (⟨p,x,y,.of body⟩,0):=by rw [← hq,← hc]
 by_cases qg:(x:Int) < s.ep
 ·have hA:jI s ⟨p,x,y,.of body⟩ = (409,.none,s):=by unfold jI;rw [if_pos qg]
  rw [hA] at hS;simp only at hS;rw [hS];rw [hr] at h1;have h2:=Y6 ⟨409,s.ep,y,.none⟩ hI.ep uy (by simp);obtain ⟨ep,la,its,mk⟩:=s;simp only [Rq.cells,Rs.cells,RSt.A] at h1 h2 zA qg ⊢
  try simp at h2
  generalize kN ⟨409,ep,y,.none⟩ = z at *;obtain ⟨o,ho⟩:∃ o,o = Sl.of body:=⟨_,rfl⟩;rw [← ho] at h1;rcases zA with ⟨rfl,rfl,rfl⟩ | ⟨qr,n1,k1,zx,hk1,rfl,rfl⟩
  ·refine vf (X:=cx) (f:=12) (args:=[.optr 0 4 0,(.vsl b.nil (qd b.l) b.l.length)]) (H:=[some [.int .u64 ep,.int .u64 la,.vsl true [] 0,(.vsl mk.nil (qh mk.l) mk.l.length)]]) (HearQ ⟨ep,la,[],mk⟩ z) Tryz.func12 rfl ⟨rfl,rfl⟩ ?_;simp [Tryz.f12,h1,h2,qg];exact HearQ.mk (.inl ⟨rfl,rfl,rfl⟩)
  ·refine vf (X:=cx) (f:=12) (args:=[.optr 0 4 0,(.vsl b.nil (qd b.l) b.l.length)]) (H:=[some [.int .u64 ep,.int .u64 la,.osl 1 n1 0 k1 39,(.vsl mk.nil (qh mk.l) mk.l.length)],some (qh its)]) (HearQ ⟨ep,la,its,mk⟩ z) Tryz.func12 rfl ⟨rfl,rfl⟩ ?_;simp [Tryz.f12,h1,h2,qg];exact HearQ.mk (.inr ⟨qr,n1,k1,zx,hk1,rfl,rfl⟩)
 rcases hp with rfl | rfl
 case inr =>
  have hA:jI s ⟨zY,x,y,.of body⟩ = ((jf s ⟨zY,x,y,.of body⟩).1,.none,(jf s ⟨zY,x,y,.of body⟩).2):=by
   unfold jI;rw [if_neg qg,if_neg (show ¬ zY = jr by decide)]
  rw [hA] at hS;rw [hS,qkj];exact qtt s (by omega) (by omega) d T zA b hb x y (.of body) hr qg hI.ep uy (by simp;omega)
 have hh:=qlV s hm hI.ok d T zA x y (.of body);have Q4:=qjX s.mks.l;have hs:(jr == [47,104,101,108,108,111]) = true:=by decide
 rw [hr] at h1;by_cases h0:0 < body.length
 ·have hA:jI s ⟨jr,x,y,.of body⟩ = (400,.none,s):=by
   unfold jI;rw [if_neg qg,if_pos rfl,if_pos (by simpa using h0)]
  rw [hA] at hS;simp only at hS;rw [hS];have kq:0 < (Sl.of body).l.length:=h0;rw [if_pos kq,if_pos kq] at hh;have h2:=Y6 ⟨400,s.ep,y,.none⟩ hI.ep uy (by simp);obtain ⟨ep,la,its,mk⟩:=s;simp only [Rq.cells,Rs.cells,RSt.A] at h1 h2 hh zA qg ⊢
  try simp at h2
  generalize kN ⟨400,ep,y,.none⟩ = z at *;obtain ⟨o,ho⟩:∃ o,o = Sl.of body:=⟨_,rfl⟩;rw [← ho] at h1 hh;rcases zA with ⟨rfl,rfl,rfl⟩ | ⟨qr,n1,k1,zx,hk1,rfl,rfl⟩
  ·refine vf (X:=cx) (f:=12) (args:=[.optr 0 4 0,(.vsl b.nil (qd b.l) b.l.length)]) (H:=[some [.int .u64 ep,.int .u64 la,.vsl true [] 0,(.vsl mk.nil (qh mk.l) mk.l.length)]]) (HearQ ⟨ep,la,[],mk⟩ z) Tryz.func12 rfl ⟨rfl,rfl⟩ ?_;simp [Tryz.f12,h1,h2,hh,qg,hs];exact HearQ.mk (.inl ⟨rfl,rfl,rfl⟩)
  ·refine vf (X:=cx) (f:=12) (args:=[.optr 0 4 0,(.vsl b.nil (qd b.l) b.l.length)]) (H:=[some [.int .u64 ep,.int .u64 la,.osl 1 n1 0 k1 39,(.vsl mk.nil (qh mk.l) mk.l.length)],some (qh its)]) (HearQ ⟨ep,la,its,mk⟩ z) Tryz.func12 rfl ⟨rfl,rfl⟩ ?_;simp [Tryz.f12,h1,h2,hh,qg,hs];exact HearQ.mk (.inr ⟨qr,n1,k1,zx,hk1,rfl,rfl⟩)
 have hA:jI s ⟨jr,x,y,.of body⟩ = (200,kr s.mks.l,J6 s x):=by
  unfold jI;rw [if_neg qg,if_pos rfl,if_neg (by simpa using h0)]
 rw [hA] at hS;simp only at hS;rw [hS];have kq:¬ 0 < (Sl.of body).l.length:=h0;rw [if_neg kq,if_neg kq] at hh;have hie:=(qin hI ux).ep;have hii:(J6 s x).its = s.its:=by unfold J6;split <;> rfl
 have h2:=Y6 ⟨200,(J6 s x).ep,y,kr s.mks.l⟩ hie uy (by simp only;omega);generalize J6 s x = s' at *;obtain ⟨ep,la,its,mk⟩:=s;obtain ⟨ep',la',its',mk'⟩:=s';simp only at hii;subst hii;simp only [Rq.cells,Rs.cells,RSt.A] at h1 h2 hh zA qg ⊢;generalize kN ⟨200,ep',y,kr mk.l⟩ = z at *;generalize kr mk.l = w at *;obtain ⟨o,ho⟩:∃ o,o = Sl.of body:=⟨_,rfl⟩;rw [← ho] at h1 hh;rcases zA with ⟨rfl,rfl,rfl⟩ | ⟨qr,n1,k1,zx,hk1,rfl,rfl⟩
 ·refine vf (X:=cx) (f:=12) (args:=[.optr 0 4 0,(.vsl b.nil (qd b.l) b.l.length)]) (H:=[some [.int .u64 ep,.int .u64 la,.vsl true [] 0,(.vsl mk.nil (qh mk.l) mk.l.length)]]) (HearQ ⟨ep',la',[],mk'⟩ z) Tryz.func12 rfl ⟨rfl,rfl⟩ ?_;simp [Tryz.f12,h1,h2,hh,qg,hs];exact HearQ.mk (.inl ⟨rfl,rfl,rfl⟩)
 ·refine vf (X:=cx) (f:=12) (args:=[.optr 0 4 0,(.vsl b.nil (qd b.l) b.l.length)]) (H:=[some [.int .u64 ep,.int .u64 la,.osl 1 n1 0 k1 39,(.vsl mk.nil (qh mk.l) mk.l.length)],some (qh its')]) (HearQ ⟨ep',la',its',mk'⟩ z) Tryz.func12 rfl ⟨rfl,rfl⟩ ?_;simp [Tryz.f12,h1,h2,hh,qg,hs];exact HearQ.mk (.inr ⟨qr,n1,k1,zx,hk1,rfl,rfl⟩)
theorem qmG [MaxL] (s:Sl UInt8) (hs:s.l.length < 1000000):call cx 118 [(.vsl s.nil (qd s.l) s.l.length)] [] = some (.tup [.agg (Enc.cells (J0 s.l)),.int .i64 (ZO s.l:Nat),.int .i64 (Zq s.l)],[]):=by
 have h:=qmF s hs
 rwa [qnv,qg4] at h
def qwM (out:List It) (d:D) (H:qi):Prop:=(out = []∧d = .vsl true [] 0∧H = [])∨(out≠[]∧∃ n k,n = out.length * 39∧k = out.length∧((∃ t u,d = .osl 2 n 0 k 39∧H = [some t,some u,some (qh out)])∨(∃ t u,d = .osl 0 n 0 k 39∧H = [some (qh out),some t,some u])))
theorem qn2 {b:List UInt8} {l:List Mk} (h:jG b = (l,0)):l.length≤4:=by
 cases b with
 | nil=>cases h
 | cons c r =>
  unfold jG at h;simp only at h;split at h
  ·cases h
  ·rename_i h4;obtain ⟨l',e1,e2,e3,e4,e5,e6⟩:=qcV c.toNat r [] l rfl (fun m hm=>by cases hm) h;rw [e1,List.nil_append];omega
set_option maxHeartbeats 4000000 in
set_option maxRecDepth 4000 in
theorem qmY [MaxL] (b:Sl UInt8) (hn:b.l.length < 1000000):call cx 80 [(.vsl b.nil (qd b.l) b.l.length)] [] = some (zR (vo b.l),[]):=by
 have zP:=qmQ b (by omega);refine qq Tryz.func80 rfl ⟨rfl,rfl⟩ ?_;unfold XD at zP;by_cases h4:b.l.length < 4
 ·have hg:vo b.l = ([],[],22):=by unfold vo;rw [if_pos h4]
  rw [if_pos h4] at zP;rw [hg];simp [Tryz.f80,zP,zR,Sl.grown]
 rw [if_neg h4] at zP;cases hs:Vh b.l with
 | false =>
  have hg:vo b.l = ([],[],19):=by unfold vo;rw [if_neg h4,hs];rfl
  rw [hs,if_neg (by decide)] at zP;rw [hg];simp [Tryz.f80,zP,zR,Sl.grown]
 | true =>
 have hg:vo b.l = VG (b.l.take (b.l.length - 4)):=by unfold vo;rw [if_neg h4,hs];rfl
 rw [hs,if_pos rfl] at zP;rw [hg];have hxl:(b.l.take (b.l.length - 4)).length < 1000000:=by rw [List.length_take];omega
 generalize b.l.take (b.l.length - 4) = x at *;simp only [Sl.of_l,Sl.of_nil] at zP;clear hg hs h4;unfold VG;by_cases hx4:x.length < 4
 ·have hx4':(x.length:Int) < 4:=by omega
  rw [if_pos hx4];simp [Tryz.f80,zP,zR,Sl.grown,hx4']
 rw [if_neg hx4];have hx4':¬ (x.length:Int) < 4:=by omega
 have hx4n:4≤x.length:=by omega
 have hx4i:(4:Int)≤(x.length:Int):=by omega
 have qu:List.take 4 (qd x) = qd (x.take 4):=vK _ _;have htl4:(x.take 4).length = 4:=by rw [List.length_take];omega
 have hpk:pre Jm x = true↔x.take 4 = [68,66,65,84]:=by
  unfold pre Jm;simp
 cases hp:pre Jm x with
 | false =>
  have qr:¬ x.take 4 = [68,66,65,84]:=fun h=>by rw [hpk.2 h] at hp;cases hp
  rw [if_neg (by decide)];generalize x.take 4 = x4 at *;simp [Tryz.f80,zP,zR,Sl.grown,hx4',hx4i,qu,qr,htl4]
 | true =>
 have hsg:=hpk.1 hp;rw [if_pos rfl];by_cases hx6:x.length < 6
 ·rw [if_pos hx6];have zZ:=qnb (.of x) 4 (by rw [Sl.of_l];omega) (by rw [Sl.of_l];omega) (by rw [Sl.of_l];omega);replace zZ:call cx 117 [.vsl false (qd x) x.length,.int .i64 4,.int .i64 2] [] = some (.tup [.int .u64 0,.bool false],[]):=zZ;simp [Tryz.f80,zP,zR,Sl.grown,hx4',hx4i,qu,hsg,zZ]
 rw [if_neg hx6];have zZ:=qnc (.of x) 4 (by rw [Sl.of_l];omega) (by rw [Sl.of_l];omega);replace zZ:call cx 117 [.vsl false (qd x) x.length,.int .i64 4,.int .i64 2] [] = some (.tup [.int .u64 (leN ((x.drop 4).take 2):Nat),.bool true],[]):=zZ;generalize leN ((x.drop 4).take 2) = many at *;by_cases h64:64 < many
 ·rw [if_pos h64];have h64':(64:Int) < (many:Int):=by omega
  simp [Tryz.f80,zP,zR,Sl.grown,hx4',hx4i,qu,hsg,zZ,h64']
 rw [if_neg h64];have h64':¬ (64:Int) < (many:Int):=by omega
 obtain ⟨G,hG⟩:∃ G,QH many (x.drop 6) [] = G:=⟨_,rfl⟩;rw [hG];simp [Tryz.f80,zP,hx4',hx4i,qu,hsg,zZ,h64'];refine Run.loopThen (fun (q:Nat × Nat × List It) e H=>q.1≤many∧QH (many - q.1) (x.drop q.2.1) q.2.2 = G∧q.2.2.length = q.1∧q.2.1≤x.length∧qf e 5 = some (.vsl false (qd x) x.length)∧(∃ d,qf e 9 = some d∧qwM q.2.2 d H)∧qf e 7 = some (.int .u64 (many:Nat))∧qf e 10 = some (.int .i64 (q.2.1:Nat))∧qf e 11 = some (.int .i64 (q.1:Nat))) (fun q=>many - q.1) (0,6,[]) ?_ ?_
 ·exact ⟨Nat.zero_le _,hG,rfl,(by omega:6≤x.length),by simp,⟨_,by simp,.inl ⟨rfl,rfl,rfl⟩⟩,by simp,by simp,by simp⟩
 rintro ⟨i,a,out⟩ e H ⟨hi,hR,ho,vP,k5,⟨d,k9,hH⟩,k7,k10,k11⟩;simp only at hi hR ho vP hH k10 k11
 have Qp:(out = []∧d = .vsl true [] 0∧H = [])∨(∃ n k,n = out.length * 39∧k = out.length∧out≠[]∧List.take n (qh out) = qh out∧k * 39 = n∧k≤64∧((∃ t u,d = .osl 2 n 0 k 39∧H = [some t,some u,some (qh out)])∨(∃ t u,d = .osl 0 n 0 k 39∧H = [some (qh out),some t,some u]))):=by
  rcases hH with h | ⟨qr,n,k,hn,hk,h⟩
  ·exact .inl h
  ·exact .inr ⟨n,k,hn,hk,qr,List.take_of_length_le (by simp;omega),by omega,by omega,h⟩
 clear hH;have kA:IntKind.i64.wrap (many:Int) = (many:Int):=by rw [wrap_i64];omega
 by_cases qg:i < many
 ·have hw:IntKind.i64.wrap ((i:Int)+1) = ((i+1:Nat):Int):=by rw [wrap_i64] <;> omega
  rw [show many - i = (many - (i+1))+1 by omega,QH] at hR;have vu:(x.drop a).length = x.length - a:=List.length_drop ..;have hk:=qhG (x.drop a);by_cases hr4:(x.drop a).length < 4
  ·rw [if_pos (.inl hr4)] at hR;have zB:=qna (.of x) a (by rw [Sl.of_l];omega) (by rw [Sl.of_l];omega) (by rw [Sl.of_l];omega);simp only [Sl.of_l,Sl.of_nil] at zB;subst hR;rcases Qp with ⟨rfl,rfl,rfl⟩ | ⟨nn,kk,hnn,hkk,qr,htk',qV,hk64,⟨tt,uu,rfl,rfl⟩ | ⟨tt,uu,rfl,rfl⟩⟩
   ·simp [k5,k9,k7,k10,k11,kA,qg,zB,zR,Sl.grown]
   all_goals
    have qR:out.length = kk:=hkk.symm;simp [k5,k9,k7,k10,k11,kA,qg,zB,zR,Sl.grown]
  have zB:=qgp (.of x) a (by rw [Sl.of_l];omega) (by rw [Sl.of_l];omega);simp only [Sl.of_l,Sl.of_nil] at zB;obtain ⟨n,hn'⟩:∃ n,leN ((x.drop a).take 4) = n:=⟨_,rfl⟩;rw [hn'] at zB hR hk;have kW:IntKind.i64.wrap ((x.length:Int) - (a:Int)) = ((x.length - a:Nat):Int):=by rw [wrap_i64] <;> omega
  have hws4:IntKind.i64.wrap (((x.length - a:Nat):Int) - 4) = ((x.length - a - 4:Nat):Int):=by rw [wrap_i64] <;> omega
  have jW:IntKind.u64.wrap ((x.length - a - 4:Nat):Int) = ((x.length - a - 4:Nat):Int):=by rw [qK] <;> omega
  by_cases hbig:(x.drop a).length - 4 < n
  ·rw [if_pos (.inr hbig)] at hR;have kn:((x.length - a - 4:Nat):Int) < (n:Int):=(by omega);generalize x.length - a - 4 = c4 at *;generalize x.length - a = c0 at *;subst hR;rcases Qp with ⟨rfl,rfl,rfl⟩ | ⟨nn,kk,hnn,hkk,qr,htk',qV,hk64,⟨tt,uu,rfl,rfl⟩ | ⟨tt,uu,rfl,rfl⟩⟩
   ·simp [k5,k9,k7,k10,k11,kA,qg,zB,kW,hws4,jW,kn,zR,Sl.grown]
   all_goals
    have qR:out.length = kk:=hkk.symm;simp [k5,k9,k7,k10,k11,kA,qg,zB,kW,hws4,jW,kn,zR,Sl.grown]
  rw [if_neg (by omega)] at hR;have kn:¬ ((x.length - a - 4:Nat):Int) < (n:Int):=by omega
  have qQ:a+4+n≤x.length:=by omega
  have w1:IntKind.i64.wrap ((a:Int)+4) = ((a+4:Nat):Int):=by rw [wrap_i64] <;> omega
  have w2:IntKind.i64.wrap (n:Int) = (n:Int):=by rw [wrap_i64];omega
  have w3:IntKind.i64.wrap (((a+4:Nat):Int)+(n:Int)) = ((a+4+n:Nat):Int):=by rw [wrap_i64] <;> omega
  obtain ⟨t,ht⟩:∃ t,((x.drop a).drop 4).take n = t:=⟨_,rfl⟩;have jm:t.length = n:=by rw [← ht,List.length_take,List.length_drop,List.length_drop];omega
  rw [ht] at hR;have zO:=qmG (.of t) (by simp;omega);simp only [Sl.of_l,Sl.of_nil,jm] at zO;have htd:List.take n (List.drop (a+4) (qd x)) = qd t:=by rw [Qy,vK,← List.drop_drop,ht]
  have hdd:(x.drop a).drop (4+n) = x.drop (a+4+n):=by rw [List.drop_drop,Nat.add_assoc]
  rw [hdd] at hR;generalize x.length - a - 4 = c4 at *;generalize x.length - a = c0 at *;have q1:a+4≤a+4+n:=Nat.le_add_right _ _;have q5:a+4+n - (a+4) = n:=by omega
  generalize hb4:a+4+n = b4 at *;generalize ha4:a+4 = a4 at *;by_cases hok:QX t = true∧(zp (zX t)).length = n
  ·rw [if_pos hok] at hR;have e1:J0 t = zX t:=(by unfold J0;rw [if_pos hok.1]);have e2:ZO t = n:=(by unfold ZO;rw [if_pos hok.1,hok.2]);have e3:Zq t = 0:=(by unfold Zq;rw [if_pos hok.1]);rw [e1,e2,e3] at zO;generalize zX t = y at *;rcases Qp with ⟨rfl,rfl,rfl⟩ | ⟨nn,kk,hnn,hkk,qr,htk',qV,hk64,⟨tt,uu,rfl,rfl⟩ | ⟨tt,uu,rfl,rfl⟩⟩
   ·simp [k5,k9,k7,k10,k11,kA,qg,zB,kW,hws4,jW,kn,w1,w2,w3,htd,q1,q5,qQ,zO,hw,qB];exact ⟨i+1,by omega,by omega,b4,[y],hR,by rw [← ho];rfl,qQ,.inr ⟨by simp,39,1,rfl,rfl,.inl ⟨_,_,rfl,by rw [J9]⟩⟩,rfl,by omega⟩
   all_goals
    have qR:out.length = kk:=hkk.symm;have m1:(kk+1) * 104≤140737488355328:=(by omega);have m2:kk≤140737488355327:=(by omega);simp [qR,qV,k5,k9,k7,k10,k11,kA,qg,zB,kW,hws4,jW,kn,w1,w2,w3,htd,q1,q5,qQ,zO,hw,qB,m1,m2];exact ⟨i+1,by omega,by omega,b4,out ++ [y],hR,by simp [ho],qQ,.inr ⟨by simp,nn+39,kk+1,by simp;omega,by simp [qR],.inr ⟨_,_,rfl,by rw [QI]⟩⟩,rfl,by omega⟩
  ·rw [if_neg hok] at hR;subst hR;cases hro:QX t with
   | false =>
    have e1:Zq t = 20:=(by unfold Zq;rw [hro];rfl);rw [e1] at zO;generalize J0 t = y at *;generalize ZO t = z at *;rcases Qp with ⟨rfl,rfl,rfl⟩ | ⟨nn,kk,hnn,hkk,qr,htk',qV,hk64,⟨tt,uu,rfl,rfl⟩ | ⟨tt,uu,rfl,rfl⟩⟩
    ·simp [k5,k9,k7,k10,k11,kA,qg,zB,kW,hws4,jW,kn,w1,w2,w3,htd,q1,q5,qQ,zO,zR,Sl.grown]
    all_goals
     have qR:out.length = kk:=hkk.symm;simp [k5,k9,k7,k10,k11,kA,qg,zB,kW,hws4,jW,kn,w1,w2,w3,htd,q1,q5,qQ,zO,zR,Sl.grown]
   | true =>
    have e1:Zq t = 0:=(by unfold Zq;rw [hro];rfl);have e2:¬ (zp (zX t)).length = n:=fun h=>hok ⟨hro,h⟩;have e3:ZO t = (zp (zX t)).length:=(by unfold ZO;rw [hro];rfl);rw [e1,e3] at zO;generalize J0 t = y at *;generalize (zp (zX t)).length = z at *;have e2':¬ (z:Int) = (n:Int):=(by omega);rcases Qp with ⟨rfl,rfl,rfl⟩ | ⟨nn,kk,hnn,hkk,qr,htk',qV,hk64,⟨tt,uu,rfl,rfl⟩ | ⟨tt,uu,rfl,rfl⟩⟩
    ·simp [k5,k9,k7,k10,k11,kA,qg,zB,kW,hws4,jW,kn,w1,w2,w3,htd,q1,q5,qQ,zO,e2',zR,Sl.grown]
    all_goals
     have qR:out.length = kk:=hkk.symm;simp [k5,k9,k7,k10,k11,kA,qg,zB,kW,hws4,jW,kn,w1,w2,w3,htd,q1,q5,qQ,zO,e2',zR,Sl.grown]
 ·have hk:many - i = 0:=by omega
  rw [hk,QH] at hR;have hm:=qmR (.of (x.drop a)) (by simp;omega);simp only [Sl.of_l,Sl.of_nil] at hm;obtain ⟨q,hq⟩:∃ q,jG (x.drop a) = q:=⟨_,rfl⟩;rw [hq] at hm hR;have Qn:List.drop a (qd x) = qd (x.drop a):=Qy _ _;have vu:x.length - a = (x.drop a).length:=(List.length_drop ..).symm;have hxa:(x.length:Int) = (a:Int)+((x.drop a).length:Int):=by omega
  generalize x.drop a = r at *;by_cases h0:q.2 = 0
  ·rw [if_pos h0] at hR;have hnn:0≤Go.Ev.readN q∧Go.Ev.readN q≤1+40 * (q.1.length:Int):=by unfold Go.Ev.readN;rw [if_pos h0];omega
   have hql:q.1.length≤4:=by
    obtain ⟨ql,qe⟩:=q;simp only at h0;subst h0;exact qn2 hq
   have jX:IntKind.i64.wrap ((a:Int)+Go.Ev.readN q) = (a:Int)+Go.Ev.readN q:=(by rw [wrap_i64];omega);by_cases hle:Go.Ev.readN q < (r.length:Int)
   ·have jh:(a:Int)+Go.Ev.readN q < (x.length:Int):=(by omega);rw [if_pos hle] at hR;subst hR;rcases Qp with ⟨rfl,rfl,rfl⟩ | ⟨nn,kk,hnn',hkk,qr,htk',qV,hk64,⟨tt,uu,rfl,rfl⟩ | ⟨tt,uu,rfl,rfl⟩⟩
    ·simp [k5,k9,k7,k10,k11,kA,qg,vP,Qn,vu,hm,h0,jX,jh,zR,Sl.grown]
    all_goals
     have qR:out.length = kk:=hkk.symm;simp [k5,k9,k7,k10,k11,kA,qg,vP,Qn,vu,hm,h0,jX,jh,zR,Sl.grown]
   ·have jh:¬ (a:Int)+Go.Ev.readN q < (x.length:Int):=(by omega);rw [if_neg hle] at hR;subst hR;rcases Qp with ⟨rfl,rfl,rfl⟩ | ⟨nn,kk,hnn',hkk,qr,htk',qV,hk64,⟨tt,uu,rfl,rfl⟩ | ⟨tt,uu,rfl,rfl⟩⟩
    ·simp [k5,k9,k7,k10,k11,kA,qg,vP,Qn,vu,hm,h0,jX,jh,zR,Sl.grown]
    all_goals
     have qR:out.length = kk:=hkk.symm;simp [qR,htk',qV,k5,k9,k7,k10,k11,kA,qg,vP,Qn,vu,hm,h0,jX,jh,zR,Sl.grown,qr]
  ·rw [if_neg h0] at hR;subst hR;rcases Qp with ⟨rfl,rfl,rfl⟩ | ⟨nn,kk,hnn,hkk,qr,htk',qV,hk64,⟨tt,uu,rfl,rfl⟩ | ⟨tt,uu,rfl,rfl⟩⟩
   ·simp [k5,k9,k7,k10,k11,kA,qg,vP,Qn,vu,hm,h0,zR,Sl.grown]
   all_goals
    have qR:out.length = kk:=hkk.symm;simp [k5,k9,k7,k10,k11,kA,qg,vP,Qn,vu,hm,h0,zR,Sl.grown]
theorem XU:∀ (x:List UInt8),qt x x = 0
 | []=>rfl
 | a :: x=>by simp [qt,XU x]
theorem XT:∀ (x y:List UInt8),qt y x = - qt x y
 | [],[]=>rfl
 | [],_ :: _=>rfl
 | _ :: _,[]=>rfl
 | a :: x,b :: y=>by
  simp only [qt];by_cases h:a = b
  ·subst h;simp [XT x y]
  ·have h':¬ b = a:=fun e=>h e.symm;rw [if_neg h,if_neg h'];by_cases hl:a < b
   ·have:¬ b < a:=UInt8.not_lt.2 (UInt8.le_of_lt hl);rw [if_pos hl,if_neg this];rfl
   ·have:b < a:=UInt8.lt_of_le_of_ne (UInt8.not_lt.1 hl) h';rw [if_neg hl,if_pos this]
theorem qan:∀ {x y:List UInt8},qt x y = 0→x = y
 | [],[],_=>rfl
 | [],_ :: _,h=>by simp [qt] at h
 | _ :: _,[],h=>by simp [qt] at h
 | a :: x,b :: y,h=>by
  simp only [qt] at h;by_cases e:a = b
  ·rw [if_pos e] at h;rw [e,qan h]
  ·rw [if_neg e] at h;split at h <;> simp at h
theorem qbV:∀ (x y:List UInt8),qt x y = -1∨qt x y = 0∨qt x y = 1
 | [],[]=>by simp [qt]
 | [],_ :: _=>by simp [qt]
 | _ :: _,[]=>by simp [qt]
 | a :: x,b :: y=>by
  simp only [qt];split
  ·exact qbV x y
  ·split <;> simp
theorem qam:∀ {x y z:List UInt8},qt x y < 0→qt y z < 0→qt x z < 0
 | [],[],_,h,_=>by simp [qt] at h
 | [],_ :: _,[],_,h=>by simp [qt] at h
 | [],_ :: _,_ :: _,_,_=>by simp [qt]
 | _ :: _,[],_,h,_=>by simp [qt] at h
 | _ :: _,_ :: _,[],_,h=>by simp [qt] at h
 | a :: x,b :: y,c :: z,h1,h2=>by
  simp only [qt] at h1 h2 ⊢;by_cases e1:a = b
  ·subst e1;rw [if_pos rfl] at h1;by_cases e2:a = c
   ·subst e2;rw [if_pos rfl] at h2 ⊢;exact qam h1 h2
   ·rw [if_neg e2] at h2 ⊢;exact h2
  ·rw [if_neg e1] at h1
   have l1:a < b:=by
    by_cases l:a < b
    ·exact l
    ·rw [if_neg l] at h1;simp at h1
   by_cases e2:b = c
   ·subst e2;rw [if_neg e1,if_pos l1];decide
   ·rw [if_neg e2] at h2
    have l2:b < c:=by
     by_cases l:b < c
     ·exact l
     ·rw [if_neg l] at h2;simp at h2
    have l3:a < c:=UInt8.lt_trans l1 l2;rw [if_neg (UInt8.ne_of_lt l3),if_pos l3];decide
theorem YL {a b:ID} (h:qt a.l b.l = 0):a = b:=ID.ext' (qan h)
def below (l:List Mk) (id:ID):Prop:= ∀ x∈l,qt x.id.l id.l < 0
theorem rises_cons {a:Mk} {l:List Mk}:zN (a :: l) = true↔(∀ x∈l,qt a.id.l x.id.l < 0)∧zN l = true:=by
 induction l generalizing a with
 | nil=>simp [zN]
 | cons b l ih =>
  simp only [zN,Bool.and_eq_true,decide_eq_true_eq,List.mem_cons,forall_eq_or_imp];constructor
  ·rintro ⟨h1,h2⟩;exact ⟨⟨h1,fun x hx=>qam h1 ((ih.1 h2).1 x hx)⟩,h2⟩
  ·rintro ⟨⟨h1,_⟩,h2⟩;exact ⟨h1,h2⟩
theorem rises_append {a b:List Mk}:zN (a ++ b) = true↔zN a = true∧zN b = true∧∀ x∈a,∀ y∈b,qt x.id.l y.id.l < 0:=by
 induction a with
 | nil=>simp [zN]
 | cons x a ih =>
  rw [List.cons_append,rises_cons,rises_cons,ih];constructor
  ·rintro ⟨h1,h2,h3,h4⟩;refine ⟨⟨fun y hy=>h1 y (List.mem_append_left _ hy),h2⟩,h3,fun y hy z hz=>?_⟩;rcases List.mem_cons.1 hy with rfl | hy
   ·exact h1 z (List.mem_append_right _ hz)
   ·exact h4 y hy z hz
  ·rintro ⟨⟨h1,h2⟩,h3,h4⟩;refine ⟨fun y hy=>?_,h2,h3,fun y hy z hz=>h4 y (List.mem_cons_of_mem _ hy) z hz⟩;rcases List.mem_append.1 hy with h | h
   ·exact h1 y h
   ·exact h4 x (List.mem_cons_self ..) y h
def Jn (m:Mk):List Mk→List Mk
 | []=>[m]
 | x :: l=>if qt x.id.l m.id.l < 0 then x :: Jn m l else m :: x :: l
theorem qhR {m:Mk}:∀ {l:List Mk},below l m.id→Jn m l = l ++ [m]
 | [],_=>rfl
 | x :: l,h=>by
  rw [Jn,if_pos (h x (List.mem_cons_self ..)),qhR fun y hy=>h y (List.mem_cons_of_mem _ hy)];rfl
theorem qhQ {m x:Mk}:∀ {l:List Mk},¬ qt x.id.l m.id.l < 0→Jn m (l ++ [x]) = Jn m l ++ [x]
 | [],h=>by simp [Jn,h]
 | y :: l,h=>by
  simp only [List.cons_append,Jn];split
  ·rw [qhQ h];rfl
  ·rfl
theorem hasM_false {l:List Mk} {id:ID}:vd l id = false↔∀ x∈l,x.id≠id:=by
 simp [vd]
theorem getElem?_mid {α:Type} (a:List α) (x:α) (b:List α):(a ++ x :: b)[a.length]? = some x:=by
 rw [List.getElem?_append_right (Nat.le_refl _),Nat.sub_self];rfl
theorem qf2 (m:Mk):∀ (n:Nat) (l t:List Mk),l.length = n→zN l = true→(∀ x∈l,x.id≠m.id)→Z9 n (l ++ m :: t) = Jn m l ++ t
 | 0,l,t,hl,_,_=>by
  have:l = []:=List.eq_nil_of_length_eq_zero hl;subst this;rfl
 | n+1,l,t,hl,hr,qr=>by
  obtain ⟨l',x,rfl⟩:∃ l' x,l = l' ++ [x]:=⟨l.dropLast,l.getLast (by intro h;subst h;simp at hl),(List.dropLast_concat_getLast _).symm⟩;have vM:l'.length = n:=by simpa using hl
  obtain ⟨r1,_,r2⟩:=rises_append.1 hr;have hx:=qr x (by simp)
  have e1:(l' ++ [x] ++ m :: t)[n+1]? = some m:=by
   rw [show n+1 = (l' ++ [x]).length by simp [vM]];exact getElem?_mid _ _ _
  have e2:(l' ++ [x] ++ m :: t)[n]? = some x:=by
   rw [List.append_assoc,← vM];exact getElem?_mid l' x (m :: t)
  rw [Z9,e1,e2];simp only;by_cases hc:qt m.id.l x.id.l < 0
  ·rw [if_pos hc]
   have hsw:VX (l' ++ [x] ++ m :: t) (n+1) = l' ++ m :: (x :: t):=by
    unfold VX;rw [e1,Nat.add_sub_cancel,e2];simp only;subst vM;rw [List.append_assoc,List.singleton_append,List.set_append_right _ _ (Nat.le_succ _),show l'.length+1 - l'.length = 1 by omega,List.set_append_right _ _ (Nat.le_refl _),Nat.sub_self];rfl
   have hxm:¬ qt x.id.l m.id.l < 0:=(by rw [XT];omega);rw [hsw,qf2 m n l' (x :: t) vM r1 (fun y hy=>qr y (List.mem_append_left _ hy)),qhQ hxm];simp
  ·rw [if_neg hc]
   have hxm:qt x.id.l m.id.l < 0:=by
    rcases qbV x.id.l m.id.l with h | h | h
    ·omega
    ·exact absurd (YL h) hx
    ·rw [XT] at hc;omega
   have hb:below (l' ++ [x]) m.id:=by
    intro y hy;rcases List.mem_append.1 hy with h | h
    ·exact qam (r2 y h x (by simp)) hxm
    ·rw [List.mem_singleton.1 h];exact hxm
   rw [qhR hb];simp
theorem qlL {l:List Mk} {t:List Mk} (hr:zN l = true) {i:Nat} (hi:i < l.length):Z9 i (l ++ t) = l ++ t:=by
 cases i with
 | zero=>rfl
 | succ j =>
  have hj:j < l.length:=by omega
  rw [Z9,List.getElem?_append_left hi,List.getElem?_append_left hj,List.getElem?_eq_getElem hi,List.getElem?_eq_getElem hj];simp only;rw [if_neg]
  have qg:qt l[j].id.l l[j+1].id.l < 0:=by
   have v7:l = l.take (j+1) ++ l.drop (j+1):=(List.take_append_drop _ _).symm;rw [v7] at hr;refine (rises_append.1 hr).2.2 _ ?_ _ ?_
   ·rw [List.mem_take_iff_getElem];exact ⟨j,by omega,rfl⟩
   ·rw [List.drop_eq_getElem_cons hi];exact List.mem_cons_self ..
  rw [XT];omega
theorem qhS {l:List Mk} {m:Mk} (hr:zN l = true) (qr:∀ x∈l,x.id≠m.id):∀ (k i:Nat),k+i = l.length+1→1≤i→QD k i (l ++ [m]) = if k = 0 then l ++ [m] else Jn m l
 | 0,i,_,_=>rfl
 | k+1,i,h,hi=>by
  rw [QD,if_neg (by omega)];rcases Nat.lt_or_ge i l.length with qg | hge
  ·rw [qlL hr qg,qhS hr qr k (i+1) (by omega) (by omega),if_neg (by omega)]
  ·have:i = l.length:=(by omega);have hk:k = 0:=(by omega);subst hk;rw [QD,qf2 m i l [] this.symm hr qr];simp
theorem find?_neg {l:List Mk} {id:ID}:find? (fun m=>m.id == id) l 0 < 0↔vd l id = false:=by
 rcases find?_spec (fun m=>m.id == id) l 0 with ⟨i,m,h1,h2,h3,h4,h5⟩ | ⟨h1,h2⟩
 ·rw [h4];constructor
  ·intro h;omega
  ·intro h;have:=hasM_false.1 h m (List.mem_of_getElem? h1);simp at h3;exact absurd h3 this
 ·rw [h1];constructor
  ·intro _;rw [hasM_false];intro x hx he;have:=List.find?_eq_none.1 h2 x hx;simp [he] at this
  ·intro _;decide
theorem qnH {l:List Mk} {m:Mk} (hr:zN l = true) (hh:vd l m.id = false):Zs l m = Jn m l:=by
 unfold Zs;rw [if_pos (find?_neg.2 hh)];cases l with
 | nil=>rfl
 | cons a l=>rw [qhS hr (hasM_false.1 hh) _ 1 rfl (Nat.le_refl _),if_neg (by simp)]
theorem qcG (m:Mk):∀ (l:List Mk),(∀ x∈l,qt x.id.l m.id.l≠0)→zS m l true = (l,true)
 | [],_=>rfl
 | x :: l,h=>by
  have ih:=qcG m l fun y hy=>h y (List.mem_cons_of_mem _ hy);have hx:=h x (List.mem_cons_self ..);simp only [zS,Bool.true_or,ih,Bool.not_true,Bool.false_and,Bool.false_eq_true,if_false,List.nil_append,ne_eq,hx,not_false_eq_true,if_true,List.singleton_append]
theorem qkx {m:Mk} {x:Mk} {l:List Mk} (hr:zN (x :: l) = true) (hx:0≤qt x.id.l m.id.l):∀ y∈l,qt y.id.l m.id.l≠0:=by
 intro y hy h0;have h1:=(rises_cons.1 hr).1 y hy;have:y.id = m.id:=YL h0;rw [this] at h1;omega
theorem qfO {m:Mk}:∀ {l:List Mk},zN l = true→vd l m.id = false→Q8 l m = Jn m l
 | [],_,_=>rfl
 | x :: l,hr,hh=>by
  have hx:qt x.id.l m.id.l≠0:=fun h=>hasM_false.1 hh x (List.mem_cons_self ..) (YL h);have hh':vd l m.id = false:=hasM_false.2 fun y hy=>hasM_false.1 hh y (List.mem_cons_of_mem _ hy);by_cases hc:qt x.id.l m.id.l < 0
  ·have hc':¬ 0≤qt x.id.l m.id.l:=(by omega);have ih:=qfO (rises_cons.1 hr).2 hh';rw [Jn,if_pos hc,← ih];simp [Q8,zS,hc',hx]
  ·have hc':0≤qt x.id.l m.id.l:=(by omega);rw [Jn,if_neg hc];have:=qcG m l (qkx hr hc');simp [Q8,zS,hc',hx,this]
def Kc (m:Mk):List Mk→List Mk
 | []=>[]
 | x :: l=>if x.id == m.id then m :: l else x :: Kc m l
theorem qfN {m:Mk}:∀ {l:List Mk},zN l = true→vd l m.id = true→Q8 l m = Kc m l
 | [],_,h=>by simp [vd] at h
 | x :: l,hr,hh=>by
  by_cases he:x.id = m.id
  ·have h0:qt x.id.l m.id.l = 0:=(by rw [he];exact XU _);have:=qcG m l (qkx hr (by omega));have hs:=XU m.id.l;simp [Q8,zS,this,Kc,he,hs]
  ·have hx:qt x.id.l m.id.l≠0:=fun h=>he (YL h);have hh':vd l m.id = true:=by simpa [vd,he] using hh
   have hc:qt x.id.l m.id.l < 0:=by
    obtain ⟨y,hy,hye⟩:∃ y∈l,y.id = m.id:=by simpa [vd] using hh'
    rw [← hye];exact (rises_cons.1 hr).1 y hy
   have hc':¬ 0≤qt x.id.l m.id.l:=(by omega);have ih:=qfN (rises_cons.1 hr).2 hh';have hb:(x.id == m.id) = false:=(by simpa using he);rw [Kc,hb,← ih];simp [Q8,zS,hc',hx]
theorem find?_set {m:Mk}:∀ {l:List Mk} (k:Nat),vd l m.id = true→∃ i,find? (fun x=>x.id == m.id) l k = ((k+i:Nat):Int)∧i < l.length∧l.set i m = Kc m l
 | [],_,h=>by simp [vd] at h
 | x :: l,k,h=>by
  cases he:x.id == m.id with
  | true=>exact ⟨0,by simp [find?,he],by simp,by simp [Kc,he]⟩
  | false =>
   have h':vd l m.id = true:=(by simpa [vd,he] using h);obtain ⟨i,h1,h2,h3⟩:=find?_set (k+1) h';refine ⟨i+1,?_,by simpa using h2,by simp [Kc,he,h3]⟩;simp only [find?,he,Bool.false_eq_true,if_false];have e:(k:Int)+1 = ((k+1:Nat):Int):=(by omega);rw [e,h1];omega
theorem qnG {l:List Mk} {m:Mk} (hh:vd l m.id = true):Zs l m = Kc m l:=by
 obtain ⟨i,h1,h2,h3⟩:=find?_set 0 hh;have Qq:find? (fun x=>x.id == m.id) l 0 = (i:Int):=by simpa using h1
 unfold Zs;rw [Qq,if_neg (by omega)];simpa using h3
theorem qnC {l:List Mk} {m:Mk} (hr:zN l = true):Zs l m = Q8 l m:=by
 cases hh:vd l m.id with
 | true=>rw [qnG hh,qfN hr hh]
 | false=>rw [qnH hr hh,qfO hr hh]
theorem qpa (l:List Mk) (m:Mk):Zb l m.id = Zn l m:=by
 unfold Zb Zn;cases hr:jJ l with
 | false=>simp
 | true =>
  have h4:=Kb hr;simp only [Bool.true_eq_false,if_false,if_true];cases hh:vd l m.id with
  | true =>
   have:¬ find? (fun x=>x.id == m.id) l 0 < 0:=fun h=>by rw [find?_neg.1 h] at hh;cases hh
   simp [this]
  | false =>
   have:=find?_neg.2 hh;by_cases h:l.length = 4
   ·simp [this,h]
   ·have h':¬ 4≤l.length:=(by omega);simp [h,h']
theorem qgk {l:List Mk} (h:jJ l = true):zN l = true:=by
 rw [jJ,Bool.and_eq_true] at h;exact h.2
theorem qmW {l:List Mk} {id:ID} (h:Zb l id = 0):jJ l = true:=by
 unfold Zb at h;cases hr:jJ l with
 | true=>rfl
 | false=>rw [hr] at h;simp at h
theorem qm2 (m:Mk) (it:It) (o:Bool):(Zm m it o).id = m.id:=by unfold Zm;split <;> rfl
theorem qlo (l:List Mk) (it:It) (o:Bool):Jc l it = V5 l it o:=by
 unfold Jc V5;have h:=qpa l (Zm (jd l it.id) it o);rw [qm2,qdV] at h;rw [h]
theorem qcL {v n:Int} (hv:qw v) (hn:qw n):Qg v n = if kb - n < v then kb else v+n:=by
 unfold qw at hv hn;have e:IntKind.u64.wrap (kb - n) = kb - n:=by rw [qK];unfold kb;omega
 unfold Qg;rw [e];split
 ·rfl
 ·rw [qK];unfold kb at *;omega
theorem ql5 {m:Mk} {it:It} {o:Bool} (hm:m.Ok) (hi:it.Ok) (hg:QG m it = true):KQ m it o = Zm m it o:=by
 have h1:=hm.seq;have h2:=hm.lost;have h3:=hm.over;have h4:=hi.fr;have h5:=hi.til;unfold KQ Zm;unfold QG at hg;cases vt:it.gap with
 | true =>
  rw [vt] at hg;simp only [if_true,Bool.not_eq_true',Bool.or_eq_false_iff,decide_eq_false_iff_not] at hg ⊢;unfold qw at h1 h2 h4 h5;have w1:IntKind.u64.wrap (it.til - it.fr) = it.til - it.fr:=by rw [qK];omega
  have w2:IntKind.u64.wrap (it.til - it.fr+1) = it.til - it.fr+1:=by rw [qK];omega
  have r1:Qg (it.til - it.fr) 1 = it.til - it.fr+1:=by
   rw [qcL (by unfold qw;omega) (by unfold qw;omega),if_neg (by unfold kb;omega)]
  rw [w1,w2,r1,qhq (by unfold qw;omega) (by unfold qw;omega),qcL (by unfold qw;omega) (by unfold qw;omega)];congr 1;unfold kb;split <;> split <;> omega
 | false =>
  simp only [Bool.false_eq_true,if_false];cases o with
  | false=>rfl
  | true =>
   simp only [if_true];rw [qhq h3 (by unfold qw;omega),qcL h3 (by unfold qw;omega)];congr 1;unfold kb;split <;> split <;> omega
theorem qln {l:List Mk} {it:It} (o:Bool) (hl:∀ m∈l,m.Ok) (hi:it.Ok) (hc:Jc l it = 0):Jy l it o = Vk l it o:=by
 have hm0:Zb l it.id = 0∧QG (jd l it.id) it = true:=by
  unfold Jc at hc;by_cases h:Zb l it.id = 0
  ·refine ⟨h,?_⟩;rw [if_neg (by simpa using h)] at hc;cases hg:QG (jd l it.id) it with
   | true=>rfl
   | false=>rw [hg] at hc;simp at hc
  ·rw [if_pos h] at hc;exact absurd hc h
 unfold Jy Vk;rw [ql5 (qdU hl it.id) hi hm0.2,qnC (qgk (qmW hm0.1))]
section
variable (e n z:Nat) (he:e < 18446744073709551616) (hn:n < 18446744073709551616) (hz:z < 18446744073709551616) (body:List UInt8)
include he hn hz
end
section
variable (e n:Nat) (he:e < 18446744073709551616) (hn:n < 18446744073709551616) (body:List UInt8) (hb:body.length≤65536)
include he hn hb
end
end Go.Ev.S
namespace Go.Ev.S
open Go Go.Proofs Go.Ev
def Xt (l:List Nat):List UInt8:=l.map fun k=>UInt8.ofNat (48+k)
def VD (n:Nat) (l:List Nat):Nat:=l.foldl (fun a k=>10 * a+k) n
theorem quG (l:List Nat):∀ n f,1≤n→1≤f→(∀ k∈l,k < 10)→vH (f+l.length) (VD n l) = vH f n ++ Xt l:=by
 induction l with
 | nil=>intro n f _ _ _;simp [VD,Xt]
 | cons k l ih =>
  intro n f hn hf h;have hk:=h k (by simp);have h4:VD n (k :: l) = VD (10 * n+k) l:=rfl;have e:Xt (k :: l) = UInt8.ofNat (48+k) :: Xt l:=rfl;have e2:f+(k :: l).length = (f+1)+l.length:=by simp;omega
  rw [h4,e2,ih (10 * n+k) (f+1) (by omega) (by omega) (fun x hx=>h x (by simp [hx])),e];rw [vH,if_neg (by omega)];have e3:(10 * n+k) / 10 = n:=by omega
  have e4:(10 * n+k) % 10 = k:=by omega
  rw [e3,e4,List.append_assoc];rfl
section
variable (e n:Nat) (he:e < 18446744073709551616) (hn:n < 18446744073709551616)
include he hn
end
end Go.Ev.S
namespace Go.Ev.S
open Go Go.Proofs Go.Ev
theorem qu8 {c:UInt8} {d:Nat} (h:JB c = some d) (hd:d < 10):c = UInt8.ofNat (48+d):=by
 apply UInt8.toNat_inj.1;rw [UInt8.toNat_ofNat_of_lt' (show 48+d < 256 by omega)];unfold JB at h;split at h
 ·injection h with h;omega
 ·split at h
  ·injection h with h;omega
  ·cases h
theorem qnL (s:List UInt8):∀ n v,jb 10 s n = some v→∃ l,s = Xt l∧(∀ k∈l,k < 10)∧v = VD n l:=by
 induction s with
 | nil =>
  intro n v h;simp only [jb,Option.some.injEq] at h;exact ⟨[],rfl,by simp,h.symm⟩
 | cons c s ih =>
  intro n v h;simp only [jb] at h;split at h
  ·cases h
  ·rename_i d hd;split at h
   ·cases h
   ·split at h
    ·cases h
    ·obtain ⟨l,h1,h2,h3⟩:=ih _ _ h;refine ⟨d :: l,?_,?_,?_⟩
     ·rw [h1,qu8 hd (by omega)];rfl
     ·intro k hk;rcases List.mem_cons.1 hk with rfl | hk
      ·omega
      ·exact h2 k hk
     ·rw [h3,Nat.mul_comm n 10];rfl
theorem qbi {s:List UInt8} {v:Nat} (h:zK s = some v):v < 18446744073709551616∧s = qz v:=by
 unfold zK at h;split at h
 ·cases h
 ·rename_i hc;have qg:v < 18446744073709551616:=XB 10 _ _ _ (by decide) h;obtain ⟨l,rfl,h2,rfl⟩:=qnL _ _ _ h;refine ⟨qg,?_⟩;have qZ:(Xt l).length = l.length:=by simp [Xt]
  rw [qZ] at hc;rcases l with _ | ⟨k,l⟩
  ·exact absurd (.inl rfl) hc
  ·have hk:=h2 k (by simp);have e0:VD 0 (k :: l) = VD k l:=(by simp [VD]);rw [e0];rcases l with _ | ⟨j,l⟩
   ·unfold qz;rw [show VD k [] = k from rfl,vH,if_pos hk];rfl
   ·have kj:1≤k:=by
     rcases Nat.eq_zero_or_pos k with rfl | hp
     ·exact absurd (.inr (.inr ⟨rfl,by simp⟩)) hc
     ·exact hp
    have hl:(j :: l).length≤19:=by
     have:¬ 20 < (k :: j :: l).length:=fun hh=>hc (.inr (.inl hh));simp at this ⊢;omega
    obtain ⟨f,hf⟩:∃ f,20 = (f+1)+(j :: l).length:=⟨19 - (j :: l).length,by omega⟩;unfold qz;rw [hf,quG (j :: l) k (f+1) kj (by omega) (fun x hx=>h2 x (List.mem_cons_of_mem _ hx)),vH,if_pos hk];rfl
def zF:List UInt8→List UInt8
 | []=>[]
 | c :: l=>if c = 13 then [] else c :: zF l
theorem qa4:∀ (s:List UInt8),(zF s).length≤s.length
 | []=>by simp [zF]
 | c :: l=>by
  unfold zF;split
  ·simp
  ·have:=qa4 l;simp;exact this
theorem Ye:∀ (s:List UInt8),s.take (zF s).length = zF s
 | []=>by simp [zF]
 | c :: l=>by
  unfold zF;split
  ·simp
  ·have:=Ye l;simp [this]
theorem qeV:∀ (A B:List UInt8),(∀ x∈A,x≠13)→zF (A ++ (13 :: B)) = A
 | [],B,_=>by simp [zF]
 | c :: A,B,h=>by
  have hc:=h c (by simp);rw [List.cons_append,zF,if_neg hc,qeV A B fun x hx=>h x (by simp [hx])]
def QC (name rest:List UInt8):Option (Nat × List UInt8):=if pre name rest then
  match zK (zF (rest.drop name.length)) with
  | none=>none
  | some v=>if ((rest.drop name.length).drop (zF (rest.drop name.length)).length).take 2 = crlf then some (v,(rest.drop name.length).drop ((zF (rest.drop name.length)).length+2)) else none
 else none
theorem qnO (a b:List UInt8):pre a (a ++ b) = true:=by unfold pre;simp
theorem qgI {a b:List UInt8} (h:pre a b = true):b = a ++ b.drop a.length:=by
 unfold pre at h;have h2:=beq_iff_eq.1 h
 conv=>lhs;rw [← List.take_append_drop a.length b]
 rw [h2]
theorem qd2 (name r:List UInt8) {v:Nat} (hv:v < 18446744073709551616):QC name (name ++ (qz v ++ (crlf ++ r))) = some (v,r):=by
 unfold QC;rw [qnO,if_pos rfl,List.drop_left];have h1:zF (qz v ++ (crlf ++ r)) = qz v:=qeV (qz v) (10 :: r) (qbS v);rw [h1,Xe hv];have d1:(qz v ++ (crlf ++ r)).drop (qz v).length = crlf ++ r:=List.drop_left
 have d2:(qz v ++ (crlf ++ r)).drop ((qz v).length+2) = r:=by
  rw [← List.drop_drop,d1];rfl
 simp only [d1,d2];rw [if_pos (by rfl)]
theorem qd3 {name rest r:List UInt8} {v:Nat} (h:QC name rest = some (v,r)):v < 18446744073709551616∧rest = name ++ (qz v ++ (crlf ++ r)):=by
 unfold QC at h;split at h
 ·rename_i hp;have hr:=qgI hp;generalize rest.drop name.length = t at *;split at h
  ·cases h
  ·rename_i v' hn;split at h
   ·rename_i hc;injection h with h;injection h with h1 h2;subst h1;obtain ⟨g1,g2⟩:=qbi hn;refine ⟨g1,?_⟩;rw [hr];congr 1;have e1:t = t.take (zF t).length ++ t.drop (zF t).length:=(List.take_append_drop _ _).symm
    have e2:t.drop (zF t).length = crlf ++ r:=by
     rw [← List.take_append_drop 2 (t.drop (zF t).length),hc,← h2,List.drop_drop]
    rw [Ye,g2] at e1;rw [e1,← g2,e2]
   ·cases h
 ·cases h
def Zi (s:List UInt8):Option (Nat × Nat × Nat):=match QC epochL s with
 | none=>none
 | some (x,r1)=>match QC numberL r1 with
  | none=>none
  | some (y,r2)=>match QC lengthL r2 with
   | none=>none
   | some (z,r3)=>if r3 = crlf then some (x,y,z) else none
theorem qla {x y z:Nat} (hx:x < 18446744073709551616) (hy:y < 18446744073709551616) (hz:z < 18446744073709551616):Zi (vg x y z) = some (x,y,z):=by
 unfold Zi vg;simp only [qd2 _ _ hx,qd2 _ _ hy,qd2 _ _ hz,if_true]
theorem qcu {s:List UInt8} {x y z:Nat} (h:Zi s = some (x,y,z)):x < 18446744073709551616∧y < 18446744073709551616∧z < 18446744073709551616∧s = vg x y z:=by
 unfold Zi at h;split at h
 ·cases h
 ·rename_i x' r1 h1;split at h
  ·cases h
  ·rename_i y' r2 h2;split at h
   ·cases h
   ·rename_i z' r3 h3;split at h
    ·rename_i h4;injection h with h;injection h with e1 h;injection h with e2 e3;subst e1;subst e2;subst e3;subst h4;obtain ⟨a1,a2⟩:=qd3 h1;obtain ⟨b1,b2⟩:=qd3 h2;obtain ⟨c1,c2⟩:=qd3 h3;exact ⟨a1,b1,c1,by rw [a2,b2,c2];rfl⟩
    ·cases h
theorem qd0 {name rest r:List UInt8} {v:Nat} (h:kg name rest = some (v,r)):v < 18446744073709551616:=by
 unfold kg at h;split at h
 ·cases h
 ·rename_i w hw;injection h with h;injection h with h1 _;subst h1;unfold pu at hw;split at hw
  ·cases hw
  ·exact XB 10 _ _ _ (by decide) hw
theorem qo8 {s b:List UInt8} {x y z:Nat} (h:vz s b = some (x,y,z)):x < 18446744073709551616∧y < 18446744073709551616∧z < 18446744073709551616:=by
 unfold vz at h;split at h
 ·split at h
  ·cases h
  ·rename_i h1;split at h
   ·cases h
   ·rename_i h2;split at h
    ·cases h
    ·rename_i h3;split at h
     ·injection h with h;injection h with e1 h;injection h with e2 e3;subst e1;subst e2;subst e3;exact ⟨qd0 h1,qd0 h2,qd0 h3⟩
     ·cases h
 ·cases h
theorem qo6 (b t:List UInt8):vz (b ++ t) b = Zi t:=by
 cases h:Zi t with
 | some q =>
  obtain ⟨x,y,z⟩:=q;obtain ⟨h1,h2,h3,rfl⟩:=qcu h;exact qo7 b x y z h1 h2 h3
 | none =>
  cases h':vz (b ++ t) b with
  | none=>rfl
  | some q =>
   obtain ⟨x,y,z⟩:=q;obtain ⟨h1,h2,h3⟩:=qo8 h';have:=List.append_cancel_left (qhj h');rw [this,qla h1 h2 h3] at h;cases h
def Kd (s body:List UInt8):List (List UInt8)→Nat→Msg × Int
 | [],_=>(.zero,20)
 | b :: l,k=>if pre b s then match Zi (s.drop b.length) with
   | none=>(.zero,20)
   | some (x,y,z)=>Xq k x y z body
  else Kd s body l (k+1)
theorem qg5 (s body:List UInt8):∀ (l:List (List UInt8)) (k:Nat),(∀ b∈l,pre b s = false)→QY s body l k = (.zero,20)
 | [],_,_=>rfl
 | b :: l,k,h=>by
  rw [qcW,qhi (h b (by simp))];exact qg5 s body l (k+1) fun x hx=>h x (by simp [hx])
def qeH (l:List (List UInt8)):Prop:=l.Pairwise fun b c=>∀ X,pre c (b ++ X) = false
theorem qg1 (s body:List UInt8):∀ (l:List (List UInt8)) (k:Nat),qeH l→Kd s body l k = QY s body l k
 | [],_,_=>rfl
 | b :: l,k,h=>by
  have h:=List.pairwise_cons.1 h;rw [qcW,Kd];cases hp:pre b s with
  | false =>
   rw [qhi hp,if_neg (by decide)];exact qg1 s body l (k+1) h.2
  | true =>
   rw [if_pos rfl];have e:=qgI hp;generalize s.drop b.length = t at *;subst e;rw [qo6];cases Zi t with
   | none=>exact (qg5 _ _ l (k+1) fun c hc=>h.1 c hc t).symm
   | some q=>rfl
theorem qmJ:qeH rqL:=by
 refine List.pairwise_cons.2 ⟨fun c hc=>?_,List.pairwise_cons.2 ⟨fun c hc=>(List.not_mem_nil hc).elim,.nil⟩⟩;rw [List.mem_singleton.1 hc];exact qwg
def crn:List UInt8:=[13,10,88,45,78,117,109,98,101,114,58,32]
def crl:List UInt8:=[13,10,67,111,110,116,101,110,116,45,76,101,110,103,116,104,58,32]
def crcr:List UInt8:=[13,10,13,10]
theorem qfZ [MaxL] [TxtC] (e n l:Nat) (he:e < 18446744073709551616) (hn:n < 18446744073709551616) (hl:l < 9223372036854775808) :
  call cx 70 [.int .u64 e,.int .u64 n,.int .i64 l] [] = some (.str (vg e n l),[]):=by
 have h1:=Ke e he;have h2:=Ke n hn;have h3:=Ke l (by omega);have l1:=vZ e;have l2:=vZ n;have l3:=vZ l;have hw:IntKind.u64.wrap (l:Int) = (l:Int):=by rw [qK];omega
 have Qm:vg e n l = epochL ++ (qz e ++ (crn ++ (qz n ++ (crl ++ (qz l ++ crcr))))):=by
  simp [vg,crn,crl,crcr,crlf,numberL,lengthL]
 rw [Qm];generalize qz e = x at *;generalize qz n = y at *;generalize qz l = z at *;clear he hn hl Qm;obtain ⟨s1,es1⟩:∃ s,s = epochL ++ x:=⟨_,rfl⟩;have ls1:s1.length = epochL.length+x.length:=by rw [es1,List.length_append]
 obtain ⟨s2,es2⟩:∃ s,s = s1 ++ crn:=⟨_,rfl⟩;have ls2:s2.length = s1.length+crn.length:=by rw [es2,List.length_append]
 obtain ⟨s3,es3⟩:∃ s,s = s2 ++ y:=⟨_,rfl⟩;have ls3:s3.length = s2.length+y.length:=by rw [es3,List.length_append]
 obtain ⟨s4,es4⟩:∃ s,s = s3 ++ crl:=⟨_,rfl⟩;have ls4:s4.length = s3.length+crl.length:=by rw [es4,List.length_append]
 obtain ⟨s5,es5⟩:∃ s,s = s4 ++ z:=⟨_,rfl⟩;have ls5:s5.length = s4.length+z.length:=by rw [es5,List.length_append]
 obtain ⟨s6,es6⟩:∃ s,s = s5 ++ crcr:=⟨_,rfl⟩;have ls6:s6.length = s5.length+crcr.length:=by rw [es6,List.length_append]
 simp only [epochL,crn,crl,crcr,List.length_cons,List.length_nil] at ls1 ls2 ls3 ls4 ls5 ls6;have cs1:=zU es1 (by (try simp only [epochL,List.length_cons,List.length_nil]);omega);have cs2:=zU es2 (by (try simp only [crn,List.length_cons,List.length_nil]);omega);have cs3:=zU es3 (by (try simp only [epochL,crn,crl,crcr,List.length_cons,List.length_nil]);omega);have cs4:=zU es4 (by (try simp only [crl,List.length_cons,List.length_nil]);omega);have cs5:=zU es5 (by (try simp only [epochL,crn,crl,crcr,List.length_cons,List.length_nil]);omega);have cs6:=zU es6 (by (try simp only [crcr,List.length_cons,List.length_nil]);omega);simp only [epochL,crn,crl,crcr] at cs1 cs2 cs3 cs4 cs5 cs6
 have Qm:epochL ++ (x ++ (crn ++ (y ++ (crl ++ (z ++ crcr))))) = s6:=by
  simp [es6,es5,es4,es3,es2,es1]
 rw [Qm];clear Qm es1 es2 es3 es4 es5 es6 ls1 ls2 ls3 ls4 ls5 ls6 l1 l2 l3;refine qq Tryz.func70 rfl ⟨rfl,rfl⟩ ?_;simp [Tryz.f70,h1,h2,h3,hw,-Go.Ev.strD,cs1,cs2,cs3,cs4,cs5,cs6]
def qaV:List UInt8:=httpL ++ (crlf ++ (hostL ++ (crlf ++ (ctypeL ++ crlf))))
theorem qcF [MaxL] [TxtC] (p:List UInt8) (hp:p.length≤100):call cx 69 [.str p] [] = some (.str (j9 p),[]):=by
 have a1:Go.Ev.strD .add postL p = some (.str (postL ++ p)):=qfo (by simp [postL];omega)
 have a2:Go.Ev.strD .add (postL ++ p) qaV = some (.str (j9 p)):=by
  rw [qfo (by simp [postL,qaV,httpL,hostL,ctypeL,crlf];omega)];simp [j9,qaV]
 simp only [postL,qaV,httpL,hostL,ctypeL,crlf,List.cons_append,List.nil_append] at a1 a2;refine qq Tryz.func69 rfl ⟨rfl,rfl⟩ ?_;generalize j9 p = w at *;generalize hq:(80 :: 79 :: 83 :: 84 :: 32 :: p:List UInt8) = q at *;simp [Tryz.f69,-Go.Ev.strD,a1,a2]
theorem qm3 [MaxL] [TxtC] (n:Int):call cx 78 [.int .i64 n] [] = some (.str (if n = 200∨n = 400∨n = 409 then Z8 n else []),[]):=by
 refine qq Tryz.func78 rfl ⟨rfl,rfl⟩ ?_;by_cases h0:n = 200
 ·subst h0;simp [Tryz.f78,Z8,qdn]
 ·by_cases h1:n = 400
  ·subst h1;simp [Tryz.f78,Z8,qeA]
  ·by_cases h2:n = 409
   ·subst h2;simp [Tryz.f78,Z8,qeu]
   ·simp [Tryz.f78,h0,h1,h2]
theorem qfU (b x body:List UInt8) (h:b.length+x.length+body.length≤200000):b.length+(x.length+body.length)≤qB:=by
 rw [← Nat.add_assoc];exact Nat.le_trans h (by decide)
theorem qmK [MaxL] [TxtC] (r:Rq) (he:qw r.epoch) (hn:qw r.number) (hp:r.path.length≤100) (hb:r.body.l.length≤100000):call cx 33 [.agg (Enc.cells r)] [] = some ((.vsl (XA r).nil (qd (XA r).l) (XA r).l.length),[]):=by
 obtain ⟨p,e,n,body⟩:=r;simp only at he hn hp hb;have e1:((e.toNat:Nat):Int) = e:=by unfold qw at he;omega
 have e2:((n.toNat:Nat):Int) = n:=by unfold qw at hn;omega
 refine qq Tryz.func33 rfl ⟨rfl,rfl⟩ ?_;have h1:(p == [47,104,101,108,108,111]) = (p == jr):=rfl;have h2:(p == [47,98,97,116,99,104]) = (p == zY):=rfl;unfold XA;simp only;cases hc:(p == jr || p == zY) with
 | false =>
  rw [Bool.or_eq_false_iff] at hc;rw [hc.1] at h1;rw [hc.2] at h2;simp [Tryz.f33,Rq.cells,h1,h2]
 | true =>
  unfold Vl;by_cases hl:65536 < body.l.length
  ·have vM:(65536:Int) < (body.l.length:Int):=(by omega);cases hc1:p == jr
   ·rw [hc1] at hc h1;rw [Bool.false_or] at hc;rw [hc] at h2;simp [Tryz.f33,Rq.cells,h1,h2,hl,vM]
   ·rw [hc1] at h1;simp [Tryz.f33,Rq.cells,h1,hl,vM]
  ·have vM:¬ (65536:Int) < (body.l.length:Int):=(by omega);have a1:=qcF p hp;have a2:=qfZ e.toNat n.toNat body.l.length (by unfold qw at he;omega) (by unfold qw at hn;omega) (by omega);have l2:=qbh e.toNat n.toNat body.l.length;have l1:=qwe p;rw [e1,e2] at a2;generalize j9 p = b at *;generalize vg e.toNat n.toNat body.l.length = x at *;have hm:=qfU b x body.l (by omega);have qU:b.length+x.length≤4611686018427387904:=(by omega);cases hc1:p == jr
   ·rw [hc1] at hc h1;rw [Bool.false_or] at hc;rw [hc] at h2;simp [Tryz.f33,Rq.cells,h1,h2,hl,vM,a1,a2,qU,hm,ZP,List.take_of_length_le,Nat.add_assoc]
   ·rw [hc1] at h1;simp [Tryz.f33,Rq.cells,h1,hl,vM,a1,a2,qU,hm,ZP,List.take_of_length_le,Nat.add_assoc]
theorem qlB (n:Int):(Z8 n == []) = false:=by unfold Z8;rfl
theorem qfT [MaxL] [TxtC] (r:Rs) (he:qw r.epoch) (hn:qw r.number) (hb:r.body.l.length≤100000):call cx 38 [.agg (Enc.cells r)] [] = some ((.vsl (kN r).nil (qd (kN r).l) (kN r).l.length),[]):=by
 obtain ⟨s,e,n,body⟩:=r;simp only at he hn hb;have e1:((e.toNat:Nat):Int) = e:=by unfold qw at he;omega
 have e2:((n.toNat:Nat):Int) = n:=by unfold qw at hn;omega
 have a1:=qm3 s;refine qq Tryz.func38 rfl ⟨rfl,rfl⟩ ?_;unfold kN;simp only;by_cases hs:s = 200∨s = 400∨s = 409
 ·rw [if_pos hs] at a1 ⊢;unfold Vl;have hnn:=qlB s;by_cases hl:65536 < body.l.length
  ·have vM:(65536:Int) < (body.l.length:Int):=(by omega);generalize Z8 s = b at *;simp [Tryz.f38,Rs.cells,a1,hnn,hl,vM]
  ·have vM:¬ (65536:Int) < (body.l.length:Int):=(by omega);have a2:=qfZ e.toNat n.toNat body.l.length (by unfold qw at he;omega) (by unfold qw at hn;omega) (by omega);have l2:=qbh e.toNat n.toNat body.l.length;have l1:=qft s;rw [e1,e2] at a2;generalize Z8 s = b at *;generalize vg e.toNat n.toNat body.l.length = x at *;have hm:=qfU b x body.l (by omega);have qU:b.length+x.length≤4611686018427387904:=(by omega);simp [Tryz.f38,Rs.cells,a1,a2,hl,vM,qU,hnn,hm,ZP,List.take_of_length_le,Nat.add_assoc]
 ·rw [if_neg hs] at a1 ⊢;simp [Tryz.f38,Rs.cells,a1]
theorem qmX [MaxL] [TxtC] (b:Sl UInt8) (hb:b.l.length≤100000):call cx 74 [(.vsl b.nil (qd b.l) b.l.length)] [] = some (.tup (if zT stopL b.l 0 = -1 then [.int .i64 0,.bool false] else [.int .i64 (zT stopL b.l 0+4),.bool true]),[]):=by
 refine qq Tryz.func74 rfl ⟨rfl,rfl⟩ ?_;simp [Tryz.f74];refine Run.loopThen (fun (k:Nat) e H'=>k≤b.l.length∧zT stopL (b.l.drop k) k = zT stopL b.l 0∧H' = []∧qf e 0 = some (.vsl b.nil (qd b.l) b.l.length)∧qf e 4 = some (.int .i64 k)) (fun k=>b.l.length - k) 0 ?_ ?_
 ·simp
 rintro k e H' ⟨hk,hi,rfl,k0,k4⟩;obtain ⟨j,hj⟩:∃ j,j = k+4:=⟨_,rfl⟩;have hw:IntKind.i64.wrap ((k:Int)+4) = (j:Int):=by rw [wrap_i64] <;> omega
 have qF:IntKind.i64.wrap ((k:Int)+1) = ((k+1:Nat):Int):=by rw [wrap_i64] <;> omega
 by_cases qg:k+4≤b.l.length
 ·have qk:(j:Int)≤(b.l.length:Int):=by omega
  have jP:j≤b.l.length:=by omega
  have hkj:(k:Int)≤(j:Int):=by omega
  have hkj2:k≤j:=by omega
  have hnn:b.nil = false:=Sl.nn (s:=b) (i:=k) (by omega);have ht:List.take 4 (List.drop k (qd b.l)) = qd ((b.l.drop k).take 4):=by rw [Qy,vK]
  have hk4:j - k = 4:=by omega
  have hwl:((b.l.drop k).take 4).length = 4:=by simp;omega
  have hj4:(j:Int) = (k:Int)+4:=by omega
  rw [List.drop_eq_getElem_cons (by omega),zT,← List.drop_eq_getElem_cons (by omega)] at hi
  have hp:stopL.isPrefixOf (b.l.drop k) = ((b.l.drop k).take 4 == stopL):=by
   rw [Bool.eq_iff_iff,List.isPrefixOf_iff_prefix,beq_iff_eq,List.prefix_iff_eq_take];exact ⟨fun h=>h.symm,fun h=>h.symm⟩
  rw [hp] at hi;cases hq:((b.l.drop k).take 4 == stopL) with
  | true =>
   rw [hq,if_pos rfl] at hi;have hq2:((b.l.drop k).take 4 == [13,10,13,10]) = true:=hq;rw [← hi,if_neg (by omega),← hj4];generalize (b.l.drop k).take 4 = w at *;simp [k0,k4,hw,qk,hkj,hnn,ht,hk4,hwl,hq2]
  | false =>
   rw [hq,if_neg (by decide)] at hi;have hq2:((b.l.drop k).take 4 == [13,10,13,10]) = false:=hq;generalize (b.l.drop k).take 4 = w at *;simp [k0,k4,hw,qF,qk,hkj,hnn,ht,hk4,hwl,hq2];exact ⟨k+1,by omega,by omega,hi,by simp⟩
 ·have qk:¬ (j:Int)≤(b.l.length:Int):=by omega
  have ki:¬ j≤b.l.length:=by omega
  have hi2:zT stopL b.l 0 = -1:=by
   rw [← hi];rcases XI stopL (b.l.drop k) k with ⟨i,h1,h2,h3⟩ | h1
   ·have:stopL.length = 4:=rfl;rw [List.length_drop] at h2;omega
   ·exact h1
  simp [k0,k4,hw,qk,hi2]
theorem qn6 [MaxL] [TxtC] (b:Sl UInt8) (hb:b.l.length≤100000) (k z:Nat) (hk:k≤b.l.length) (hk1:1≤k) (hz:z < 18446744073709551616):call cx 77 [(.vsl b.nil (qd b.l) b.l.length),.int .i64 k,.int .u64 z] [] =
  some (.tup (if 65536 < z then [.vsl true [] 0,.int .i64 21] else if (b.l.drop k).length < z then [.vsl true [] 0,.int .i64 22] else if z < (b.l.drop k).length then [.vsl true [] 0,.int .i64 21] else [(.vsl (Sl.of (b.l.drop k)).nil (qd (Sl.of (b.l.drop k)).l) (Sl.of (b.l.drop k)).l.length),.int .i64 0]),[]):=by
 refine qq Tryz.func77 rfl ⟨rfl,rfl⟩ ?_;have qF:IntKind.i64.wrap ((b.l.length:Int) - (k:Int)) = ((b.l.length - k:Nat):Int):=by rw [wrap_i64] <;> omega
 have zg:IntKind.u64.wrap ((b.l.length - k:Nat):Int) = ((b.l.length - k:Nat):Int):=by rw [qK];omega
 have hd:(b.l.drop k).length = b.l.length - k:=by simp
 have hnn:b.nil = false:=Sl.nn (s:=b) (i:=0) (by omega);rw [hd];obtain ⟨j,hj⟩:∃ j,j = b.l.length - k:=⟨_,rfl⟩;rw [← hj] at qF zg hd ⊢;by_cases z1:65536 < z
 ·have z1':(65536:Int) < (z:Int):=by omega
  simp [Tryz.f77,z1,z1']
 ·have z1':¬ (65536:Int) < (z:Int):=by omega
  by_cases z2:j < z
  ·have z2':(j:Int) < (z:Int):=(by omega);simp [Tryz.f77,z1,z1',z2,z2',qF,zg]
  ·have z2':¬ (j:Int) < (z:Int):=(by omega);by_cases z3:z < j
   ·have z3':(z:Int) < (j:Int):=(by omega);simp [Tryz.f77,z1,z1',z2,z2',z3,z3',qF,zg]
   ·have z3':¬ (z:Int) < (j:Int):=(by omega);have hk':(k:Int)≤(b.l.length:Int):=by omega
    have ht:List.take j (List.drop k (qd b.l)) = qd (b.l.drop k):=by
     rw [Qy];exact List.take_of_length_le (by simp;omega)
    have hm:j≤qB:=Nat.le_trans (show j≤100000 by omega) (by decide);simp [Tryz.f77,z1,z1',z2,z2',z3,z3',qF,zg,hnn,hk',← hj,ht,hm,hd]
theorem qa6:∀ (t:List UInt8) (k:Nat),k < (zF t).length→∃ c,t[k]? = some c∧c≠13
 | [],k,h=>by simp [zF] at h
 | c :: l,k,h=>by
  unfold zF at h;by_cases hc:c = 13
  ·rw [if_pos hc] at h;simp at h
  ·rw [if_neg hc] at h;cases k with
   | zero=>exact ⟨c,rfl,hc⟩
   | succ k=>exact qa6 l k (by simpa using h)
theorem qa5:∀ (t:List UInt8),t[(zF t).length]? = none∨t[(zF t).length]? = some 13
 | []=>by simp [zF]
 | c :: l=>by
  unfold zF;by_cases hc:c = 13
  ·rw [if_pos hc];simp [hc]
  ·rw [if_neg hc];simpa using qa5 l
def qfg (r0:List UInt8):Nat→Nat→Nat→Nat→List UInt8→Prop
 | 0,x,y,z,r=>x = 0∧y = 0∧z = 0∧r = r0
 | 1,x,y,z,r=>QC epochL r0 = some (x,r)∧y = 0∧z = 0
 | 2,x,y,z,r=>z = 0∧∃ r1,QC epochL r0 = some (x,r1)∧QC numberL r1 = some (y,r)
 | _,x,y,z,r=>∃ r1 r2,QC epochL r0 = some (x,r1)∧QC numberL r1 = some (y,r2)∧QC lengthL r2 = some (z,r)
set_option maxHeartbeats 4000000 in
set_option maxRecDepth 4000 in
theorem qff [MaxL] [TxtC] (s:List UInt8) (hs:s.length < 1000000) :
  (∃ x y z,Zi s = some (x,y,z)∧call cx 76 [.str s] [] = some (.tup [.agg [.int .u64 (x:Nat),.int .u64 (y:Nat),.int .u64 (z:Nat)],.bool true],[])) ∨
  (Zi s = none∧∃ x y z:Nat,call cx 76 [.str s] [] = some (.tup [.agg [.int .u64 x,.int .u64 y,.int .u64 z],.bool false],[])):=by
 suffices h:∃ r,call cx 76 [.str s] [] = some r∧((∃ x y z:Nat,Zi s = some (x,y,z)∧r = (.tup [.agg [.int .u64 x,.int .u64 y,.int .u64 z],.bool true],[]))∨(Zi s = none∧∃ x y z:Nat,r = (.tup [.agg [.int .u64 x,.int .u64 y,.int .u64 z],.bool false],[]))) by
  obtain ⟨r,h1,⟨x,y,z,h2,rfl⟩ | ⟨h2,x,y,z,rfl⟩⟩:=h
  ·exact .inl ⟨x,y,z,h2,h1⟩
  ·exact .inr ⟨h2,x,y,z,h1⟩
 refine vf (fun r=>(∃ x y z:Nat,Zi s = some (x,y,z)∧r = (D.tup [.agg [.int .u64 x,.int .u64 y,.int .u64 z],.bool true],[]))∨(Zi s = none∧∃ x y z:Nat,r = (D.tup [.agg [.int .u64 x,.int .u64 y,.int .u64 z],.bool false],[]))) Tryz.func76 rfl ⟨rfl,rfl⟩ ?_
 have hN:Zi s = match QC epochL s with
    | none=>none
    | some (x,r1)=>match QC numberL r1 with
     | none=>none
     | some (y,r2)=>match QC lengthL r2 with
      | none=>none
      | some (z,r3)=>if r3 = crlf then some (x,y,z) else none:=rfl
 generalize Zi s = res at *;obtain ⟨n,hn⟩:∃ n,n = s.length:=⟨_,rfl⟩;rw [← hn] at hs;simp [Tryz.f76]
 refine Run.loopThen (fun (q:Nat × Nat × Nat × Nat × List UInt8) e H'=>q.1≤3∧q.2.2.2.2.length≤n∧q.2.1 < 18446744073709551616∧q.2.2.1 < 18446744073709551616∧q.2.2.2.1 < 18446744073709551616∧qfg s q.1 q.2.1 q.2.2.1 q.2.2.2.1 q.2.2.2.2 ∧
   H' = [some [.int .u64 0,.int .u64 0,.int .u64 0],some [.int .u64 (q.2.1:Nat),.int .u64 (q.2.2.1:Nat),.int .u64 (q.2.2.2.1:Nat)],some [.str epochL,.str numberL,.str lengthL]] ∧
   qf e 2 = some (.optr 0 3 0)∧qf e 4 = some (.optr 1 3 0)∧qf e 5 = some (.osl 2 3 0 3 1)∧qf e 6 = some (.str q.2.2.2.2)∧qf e 7 = some (.int .i64 (q.1:Nat))) (fun q=>3 - q.1) (0,0,0,0,s) ?_ ?_
 ·simp [qfg,hn,epochL,numberL,lengthL]
 rintro ⟨i,x,y,z,r⟩ e H' ⟨hi,hrl,hx,hy,hz,hI,rfl,k2,k4,k5,k6,k7⟩;simp only at hi hrl hx hy hz hI k6 k7;have:i = 0∨i = 1∨i = 2∨i = 3:=by omega
 rcases this with rfl | rfl | rfl | rfl
 ·obtain ⟨rfl,rfl,rfl,rfl⟩:=hI;have hb:=Ya r epochL (by omega) (by decide)
  have qX:QC epochL r = if pre epochL r then
    match zK (zF (r.drop epochL.length)) with
    | none=>none
    | some v=>if ((r.drop epochL.length).drop (zF (r.drop epochL.length)).length).take 2 = crlf then some (v,(r.drop epochL.length).drop ((zF (r.drop epochL.length)).length+2)) else none
   else none:=rfl
  cases hp:pre epochL r with
  | false =>
   rw [hp,if_neg (by decide)] at hb qX;rw [qX] at hN;simp [k2,k4,k5,k6,k7,hb];exact ⟨hN,0,rfl⟩
  | true =>
   rw [hp,if_pos rfl] at hb qX;have jm:(r.drop epochL.length).length≤n:=(by simp;omega);generalize r.drop epochL.length = t at *;simp [k2,k4,k5,k6,k7,hb]
   refine Run.loopThen (fun (k:Nat) e H'=>k≤(zF t).length∧
     H' = [some [.int .u64 0,.int .u64 0,.int .u64 0],some [.int .u64 (0:Nat),.int .u64 (0:Nat),.int .u64 (0:Nat)],some [.str epochL,.str numberL,.str lengthL]] ∧
     qf e 2 = some (.optr 0 3 0)∧qf e 4 = some (.optr 1 3 0)∧qf e 5 = some (.osl 2 3 0 3 1)∧qf e 7 = some (.int .i64 (0:Nat))∧qf e 8 = some (.str t)∧qf e 10 = some (.int .i64 k)) (fun k=>(zF t).length - k) 0 ?_ ?_
   ·simp
   rintro k e1 H1 ⟨hk,rfl,j2,j4,j5,j7,j8,j10⟩;have hul:=qa4 t;have qF:IntKind.i64.wrap ((k:Int)+1) = ((k+1:Nat):Int):=(by rw [wrap_i64] <;> omega);by_cases qg:k < (zF t).length
   ·have qk:(k:Int) < (t.length:Int):=(by omega);have ki:k < t.length:=(by omega);obtain ⟨c,hc1,vX⟩:=qa6 t k qg;have hc3:¬ (c.toNat:Int) = 13:=fun h=>vX (UInt8.toNat_inj.1 (show c.toNat = 13 by omega));simp [j2,j4,j5,j7,j8,j10,qk,hc1,hc3,qF];exact ⟨k+1,by omega,by omega,rfl⟩
   ·have hke:k = (zF t).length:=(by omega);have zh:=qa5 t;have qu:=Ye t;have jO:=qaR (zF t) (by omega);rw [← hke] at qX zh qu;rw [← qu] at jO qX;have zg:IntKind.i64.wrap ((k:Int)+2) = ((k+2:Nat):Int):=(by rw [wrap_i64] <;> omega);have vB:k≤t.length:=(by omega);have vN:(k:Int)≤(t.length:Int):=(by omega);have e2:k+2 - k = 2:=(by omega);obtain ⟨rest,hrest⟩:∃ rest,rest = List.drop (k+2) t:=⟨_,rfl⟩;have Qn:List.take (t.length - (k+2)) (List.drop (k+2) t) = rest:=(by rw [hrest];exact List.take_of_length_le (by simp));have vu:rest.length≤n:=(by rw [hrest];simp;omega);rw [← hrest] at qX
    have t2l:k+2≤t.length∨(t.drop k).take 2≠crlf:=by
     by_cases h:k+2≤t.length
     ·exact .inl h
     ·refine .inr fun h2=>?_;have:=congrArg List.length h2;simp [crlf] at this;omega
    have htcr:((t.drop k).take 2 = crlf) = ((t.drop k).take 2 = [13,10]):=rfl;generalize hT2:(t.drop k).take 2 = t2 at *;have hl3b:=qX;cases hn:zK (List.take k t) with
    | none =>
     rw [hn] at jO qX;rw [qX] at hN;rcases zh with zh | zh
     ·have qk:¬ (k:Int) < (t.length:Int):=(by have:=List.getElem?_eq_none_iff.1 zh;omega);simp [j2,j4,j5,j7,j8,j10,qk,vN,jO];exact ⟨hN,0,rfl⟩
     ·have ki:k < t.length:=(List.getElem?_eq_some_iff.1 zh).1;have qk:(k:Int) < (t.length:Int):=(by omega);simp [j2,j4,j5,j7,j8,j10,qk,vN,zh,jO];exact ⟨hN,0,rfl⟩
    | some v =>
     have hv:=(qbi hn).1;rw [hn] at jO qX;simp only at jO qX;by_cases hcr:t2 = crlf
     ·rw [if_pos hcr] at qX;have hk2:k+2≤t.length:=t2l.resolve_right (fun h=>h hcr);have jD:¬ (t.length:Int) < ((k+2:Nat):Int):=(by omega);have hk2'':((k+2:Nat):Int)≤(t.length:Int):=(by omega);have ht2:(t2 == [13,10]) = true:=beq_iff_eq.2 hcr;rw [qX] at hN;rcases zh with zh | zh
      ·have:=List.getElem?_eq_none_iff.1 zh;omega
      ·have ki:k < t.length:=(List.getElem?_eq_some_iff.1 zh).1;have qk:(k:Int) < (t.length:Int):=(by omega);obtain ⟨k3,vC⟩:∃ k3,k3 = k+2:=⟨_,rfl⟩;have hkk:k≤k3:=(by omega);rw [← vC] at zg hk2 jD hk2'' Qn e2;simp [j2,j4,j5,j7,j8,j10,qk,vN,zh,jO,hkk,zg,jD,hk2'',e2,hT2,ht2,Qn];exact ⟨1,by omega,by omega,v,0,0,rest,by omega,hv,by omega,by omega,⟨qX,rfl,rfl⟩,⟨rfl,rfl,rfl⟩,rfl,rfl⟩
     ·rw [if_neg hcr] at qX;rw [qX] at hN;have ht2:(t2 == [13,10]) = false:=beq_eq_false_iff_ne.2 hcr;rcases zh with zh | zh
      ·have qk:¬ (k:Int) < (t.length:Int):=(by have:=List.getElem?_eq_none_iff.1 zh;omega);have jD:(t.length:Int) < ((k+2:Nat):Int):=(by omega);obtain ⟨k3,vC⟩:∃ k3,k3 = k+2:=⟨_,rfl⟩;rw [← vC] at zg jD;simp [j2,j4,j5,j7,j8,j10,qk,vN,jO,zg,jD];exact ⟨hN,0,rfl⟩
      ·have ki:k < t.length:=(List.getElem?_eq_some_iff.1 zh).1;have qk:(k:Int) < (t.length:Int):=(by omega);by_cases hk2:k+2≤t.length
       ·have jD:¬ (t.length:Int) < ((k+2:Nat):Int):=(by omega);have hk2'':((k+2:Nat):Int)≤(t.length:Int):=(by omega);obtain ⟨k3,vC⟩:∃ k3,k3 = k+2:=⟨_,rfl⟩;have hkk:k≤k3:=(by omega);rw [← vC] at zg hk2 jD hk2'' e2;simp [j2,j4,j5,j7,j8,j10,qk,vN,zh,jO,hkk,zg,jD,hk2'',e2,hT2,ht2];exact ⟨hN,0,rfl⟩
       ·have jD:(t.length:Int) < ((k+2:Nat):Int):=(by omega);obtain ⟨k3,vC⟩:∃ k3,k3 = k+2:=⟨_,rfl⟩;rw [← vC] at zg jD;simp [j2,j4,j5,j7,j8,j10,qk,vN,zh,jO,zg,jD];exact ⟨hN,0,rfl⟩
 ·obtain ⟨hI1,rfl,rfl⟩:=hI;rw [hI1] at hN;simp only at hN;have hb:=Ya r numberL (by omega) (by decide)
  have qX:QC numberL r = if pre numberL r then
    match zK (zF (r.drop numberL.length)) with
    | none=>none
    | some v=>if ((r.drop numberL.length).drop (zF (r.drop numberL.length)).length).take 2 = crlf then some (v,(r.drop numberL.length).drop ((zF (r.drop numberL.length)).length+2)) else none
   else none:=rfl
  cases hp:pre numberL r with
  | false =>
   rw [hp,if_neg (by decide)] at hb qX;rw [qX] at hN;simp [k2,k4,k5,k6,k7,hb];exact ⟨hN,⟨x,rfl⟩,0,rfl⟩
  | true =>
   rw [hp,if_pos rfl] at hb qX;have jm:(r.drop numberL.length).length≤n:=(by simp;omega);generalize r.drop numberL.length = t at *;simp [k2,k4,k5,k6,k7,hb]
   refine Run.loopThen (fun (k:Nat) e H'=>k≤(zF t).length∧
     H' = [some [.int .u64 0,.int .u64 0,.int .u64 0],some [.int .u64 (x:Nat),.int .u64 (0:Nat),.int .u64 (0:Nat)],some [.str epochL,.str numberL,.str lengthL]] ∧
     qf e 2 = some (.optr 0 3 0)∧qf e 4 = some (.optr 1 3 0)∧qf e 5 = some (.osl 2 3 0 3 1)∧qf e 7 = some (.int .i64 (1:Nat))∧qf e 8 = some (.str t)∧qf e 10 = some (.int .i64 k)) (fun k=>(zF t).length - k) 0 ?_ ?_
   ·simp
   rintro k e1 H1 ⟨hk,rfl,j2,j4,j5,j7,j8,j10⟩;have hul:=qa4 t;have qF:IntKind.i64.wrap ((k:Int)+1) = ((k+1:Nat):Int):=(by rw [wrap_i64] <;> omega);by_cases qg:k < (zF t).length
   ·have qk:(k:Int) < (t.length:Int):=(by omega);have ki:k < t.length:=(by omega);obtain ⟨c,hc1,vX⟩:=qa6 t k qg;have hc3:¬ (c.toNat:Int) = 13:=fun h=>vX (UInt8.toNat_inj.1 (show c.toNat = 13 by omega));simp [j2,j4,j5,j7,j8,j10,qk,hc1,hc3,qF];exact ⟨k+1,by omega,by omega,rfl⟩
   ·have hke:k = (zF t).length:=(by omega);have zh:=qa5 t;have qu:=Ye t;have jO:=qaR (zF t) (by omega);rw [← hke] at qX zh qu;rw [← qu] at jO qX;have zg:IntKind.i64.wrap ((k:Int)+2) = ((k+2:Nat):Int):=(by rw [wrap_i64] <;> omega);have vB:k≤t.length:=(by omega);have vN:(k:Int)≤(t.length:Int):=(by omega);have e2:k+2 - k = 2:=(by omega);obtain ⟨rest,hrest⟩:∃ rest,rest = List.drop (k+2) t:=⟨_,rfl⟩;have Qn:List.take (t.length - (k+2)) (List.drop (k+2) t) = rest:=(by rw [hrest];exact List.take_of_length_le (by simp));have vu:rest.length≤n:=(by rw [hrest];simp;omega);rw [← hrest] at qX
    have t2l:k+2≤t.length∨(t.drop k).take 2≠crlf:=by
     by_cases h:k+2≤t.length
     ·exact .inl h
     ·refine .inr fun h2=>?_;have:=congrArg List.length h2;simp [crlf] at this;omega
    have htcr:((t.drop k).take 2 = crlf) = ((t.drop k).take 2 = [13,10]):=rfl;generalize hT2:(t.drop k).take 2 = t2 at *;have hl3b:=qX;cases hn:zK (List.take k t) with
    | none =>
     rw [hn] at jO qX;rw [qX] at hN;rcases zh with zh | zh
     ·have qk:¬ (k:Int) < (t.length:Int):=(by have:=List.getElem?_eq_none_iff.1 zh;omega);simp [j2,j4,j5,j7,j8,j10,qk,vN,jO];exact ⟨hN,⟨x,rfl⟩,0,rfl⟩
     ·have ki:k < t.length:=(List.getElem?_eq_some_iff.1 zh).1;have qk:(k:Int) < (t.length:Int):=(by omega);simp [j2,j4,j5,j7,j8,j10,qk,vN,zh,jO];exact ⟨hN,⟨x,rfl⟩,0,rfl⟩
    | some v =>
     have hv:=(qbi hn).1;rw [hn] at jO qX;simp only at jO qX;by_cases hcr:t2 = crlf
     ·rw [if_pos hcr] at qX;have hk2:k+2≤t.length:=t2l.resolve_right (fun h=>h hcr);have jD:¬ (t.length:Int) < ((k+2:Nat):Int):=(by omega);have hk2'':((k+2:Nat):Int)≤(t.length:Int):=(by omega);have ht2:(t2 == [13,10]) = true:=beq_iff_eq.2 hcr;rw [qX] at hN;rcases zh with zh | zh
      ·have:=List.getElem?_eq_none_iff.1 zh;omega
      ·have ki:k < t.length:=(List.getElem?_eq_some_iff.1 zh).1;have qk:(k:Int) < (t.length:Int):=(by omega);obtain ⟨k3,vC⟩:∃ k3,k3 = k+2:=⟨_,rfl⟩;have hkk:k≤k3:=(by omega);rw [← vC] at zg hk2 jD hk2'' Qn e2;simp [j2,j4,j5,j7,j8,j10,qk,vN,zh,jO,hkk,zg,jD,hk2'',e2,hT2,ht2,Qn];exact ⟨2,by omega,by omega,x,v,0,rest,by omega,hx,hv,by omega,⟨rfl,_,hI1,qX⟩,⟨rfl,rfl,rfl⟩,rfl,rfl⟩
     ·rw [if_neg hcr] at qX;rw [qX] at hN;have ht2:(t2 == [13,10]) = false:=beq_eq_false_iff_ne.2 hcr;rcases zh with zh | zh
      ·have qk:¬ (k:Int) < (t.length:Int):=(by have:=List.getElem?_eq_none_iff.1 zh;omega);have jD:(t.length:Int) < ((k+2:Nat):Int):=(by omega);obtain ⟨k3,vC⟩:∃ k3,k3 = k+2:=⟨_,rfl⟩;rw [← vC] at zg jD;simp [j2,j4,j5,j7,j8,j10,qk,vN,jO,zg,jD];exact ⟨hN,⟨x,rfl⟩,0,rfl⟩
      ·have ki:k < t.length:=(List.getElem?_eq_some_iff.1 zh).1;have qk:(k:Int) < (t.length:Int):=(by omega);by_cases hk2:k+2≤t.length
       ·have jD:¬ (t.length:Int) < ((k+2:Nat):Int):=(by omega);have hk2'':((k+2:Nat):Int)≤(t.length:Int):=(by omega);obtain ⟨k3,vC⟩:∃ k3,k3 = k+2:=⟨_,rfl⟩;have hkk:k≤k3:=(by omega);rw [← vC] at zg hk2 jD hk2'' e2;simp [j2,j4,j5,j7,j8,j10,qk,vN,zh,jO,hkk,zg,jD,hk2'',e2,hT2,ht2];exact ⟨hN,⟨x,rfl⟩,0,rfl⟩
       ·have jD:(t.length:Int) < ((k+2:Nat):Int):=(by omega);obtain ⟨k3,vC⟩:∃ k3,k3 = k+2:=⟨_,rfl⟩;rw [← vC] at zg jD;simp [j2,j4,j5,j7,j8,j10,qk,vN,zh,jO,zg,jD];exact ⟨hN,⟨x,rfl⟩,0,rfl⟩
 ·obtain ⟨rfl,r1,hI1,hI2⟩:=hI;rw [hI1] at hN;simp only [hI2] at hN;have hb:=Ya r lengthL (by omega) (by decide)
  have qX:QC lengthL r = if pre lengthL r then
    match zK (zF (r.drop lengthL.length)) with
    | none=>none
    | some v=>if ((r.drop lengthL.length).drop (zF (r.drop lengthL.length)).length).take 2 = crlf then some (v,(r.drop lengthL.length).drop ((zF (r.drop lengthL.length)).length+2)) else none
   else none:=rfl
  cases hp:pre lengthL r with
  | false =>
   rw [hp,if_neg (by decide)] at hb qX;rw [qX] at hN;simp [k2,k4,k5,k6,k7,hb];exact ⟨hN,⟨x,rfl⟩,⟨y,rfl⟩,0,rfl⟩
  | true =>
   rw [hp,if_pos rfl] at hb qX;have jm:(r.drop lengthL.length).length≤n:=(by simp;omega);generalize r.drop lengthL.length = t at *;simp [k2,k4,k5,k6,k7,hb]
   refine Run.loopThen (fun (k:Nat) e H'=>k≤(zF t).length∧
     H' = [some [.int .u64 0,.int .u64 0,.int .u64 0],some [.int .u64 (x:Nat),.int .u64 (y:Nat),.int .u64 (0:Nat)],some [.str epochL,.str numberL,.str lengthL]] ∧
     qf e 2 = some (.optr 0 3 0)∧qf e 4 = some (.optr 1 3 0)∧qf e 5 = some (.osl 2 3 0 3 1)∧qf e 7 = some (.int .i64 (2:Nat))∧qf e 8 = some (.str t)∧qf e 10 = some (.int .i64 k)) (fun k=>(zF t).length - k) 0 ?_ ?_
   ·simp
   rintro k e1 H1 ⟨hk,rfl,j2,j4,j5,j7,j8,j10⟩;have hul:=qa4 t;have qF:IntKind.i64.wrap ((k:Int)+1) = ((k+1:Nat):Int):=(by rw [wrap_i64] <;> omega);by_cases qg:k < (zF t).length
   ·have qk:(k:Int) < (t.length:Int):=(by omega);have ki:k < t.length:=(by omega);obtain ⟨c,hc1,vX⟩:=qa6 t k qg;have hc3:¬ (c.toNat:Int) = 13:=fun h=>vX (UInt8.toNat_inj.1 (show c.toNat = 13 by omega));simp [j2,j4,j5,j7,j8,j10,qk,hc1,hc3,qF];exact ⟨k+1,by omega,by omega,rfl⟩
   ·have hke:k = (zF t).length:=(by omega);have zh:=qa5 t;have qu:=Ye t;have jO:=qaR (zF t) (by omega);rw [← hke] at qX zh qu;rw [← qu] at jO qX;have zg:IntKind.i64.wrap ((k:Int)+2) = ((k+2:Nat):Int):=(by rw [wrap_i64] <;> omega);have vB:k≤t.length:=(by omega);have vN:(k:Int)≤(t.length:Int):=(by omega);have e2:k+2 - k = 2:=(by omega);obtain ⟨rest,hrest⟩:∃ rest,rest = List.drop (k+2) t:=⟨_,rfl⟩;have Qn:List.take (t.length - (k+2)) (List.drop (k+2) t) = rest:=(by rw [hrest];exact List.take_of_length_le (by simp));have vu:rest.length≤n:=(by rw [hrest];simp;omega);rw [← hrest] at qX
    have t2l:k+2≤t.length∨(t.drop k).take 2≠crlf:=by
     by_cases h:k+2≤t.length
     ·exact .inl h
     ·refine .inr fun h2=>?_;have:=congrArg List.length h2;simp [crlf] at this;omega
    have htcr:((t.drop k).take 2 = crlf) = ((t.drop k).take 2 = [13,10]):=rfl;generalize hT2:(t.drop k).take 2 = t2 at *;have hl3b:=qX;cases hn:zK (List.take k t) with
    | none =>
     rw [hn] at jO qX;rw [qX] at hN;rcases zh with zh | zh
     ·have qk:¬ (k:Int) < (t.length:Int):=(by have:=List.getElem?_eq_none_iff.1 zh;omega);simp [j2,j4,j5,j7,j8,j10,qk,vN,jO];exact ⟨hN,⟨x,rfl⟩,⟨y,rfl⟩,0,rfl⟩
     ·have ki:k < t.length:=(List.getElem?_eq_some_iff.1 zh).1;have qk:(k:Int) < (t.length:Int):=(by omega);simp [j2,j4,j5,j7,j8,j10,qk,vN,zh,jO];exact ⟨hN,⟨x,rfl⟩,⟨y,rfl⟩,0,rfl⟩
    | some v =>
     have hv:=(qbi hn).1;rw [hn] at jO qX;simp only at jO qX;by_cases hcr:t2 = crlf
     ·rw [if_pos hcr] at qX;have hk2:k+2≤t.length:=t2l.resolve_right (fun h=>h hcr);have jD:¬ (t.length:Int) < ((k+2:Nat):Int):=(by omega);have hk2'':((k+2:Nat):Int)≤(t.length:Int):=(by omega);have ht2:(t2 == [13,10]) = true:=beq_iff_eq.2 hcr;rw [qX] at hN;rcases zh with zh | zh
      ·have:=List.getElem?_eq_none_iff.1 zh;omega
      ·have ki:k < t.length:=(List.getElem?_eq_some_iff.1 zh).1;have qk:(k:Int) < (t.length:Int):=(by omega);obtain ⟨k3,vC⟩:∃ k3,k3 = k+2:=⟨_,rfl⟩;have hkk:k≤k3:=(by omega);rw [← vC] at zg hk2 jD hk2'' Qn e2;simp [j2,j4,j5,j7,j8,j10,qk,vN,zh,jO,hkk,zg,jD,hk2'',e2,hT2,ht2,Qn];exact ⟨3,by omega,by omega,x,y,v,rest,by omega,hx,hy,hv,⟨_,_,hI1,hI2,qX⟩,⟨rfl,rfl,rfl⟩,rfl,rfl⟩
     ·rw [if_neg hcr] at qX;rw [qX] at hN;have ht2:(t2 == [13,10]) = false:=beq_eq_false_iff_ne.2 hcr;rcases zh with zh | zh
      ·have qk:¬ (k:Int) < (t.length:Int):=(by have:=List.getElem?_eq_none_iff.1 zh;omega);have jD:(t.length:Int) < ((k+2:Nat):Int):=(by omega);obtain ⟨k3,vC⟩:∃ k3,k3 = k+2:=⟨_,rfl⟩;rw [← vC] at zg jD;simp [j2,j4,j5,j7,j8,j10,qk,vN,jO,zg,jD];exact ⟨hN,⟨x,rfl⟩,⟨y,rfl⟩,0,rfl⟩
      ·have ki:k < t.length:=(List.getElem?_eq_some_iff.1 zh).1;have qk:(k:Int) < (t.length:Int):=(by omega);by_cases hk2:k+2≤t.length
       ·have jD:¬ (t.length:Int) < ((k+2:Nat):Int):=(by omega);have hk2'':((k+2:Nat):Int)≤(t.length:Int):=(by omega);obtain ⟨k3,vC⟩:∃ k3,k3 = k+2:=⟨_,rfl⟩;have hkk:k≤k3:=(by omega);rw [← vC] at zg hk2 jD hk2'' e2;simp [j2,j4,j5,j7,j8,j10,qk,vN,zh,jO,hkk,zg,jD,hk2'',e2,hT2,ht2];exact ⟨hN,⟨x,rfl⟩,⟨y,rfl⟩,0,rfl⟩
       ·have jD:(t.length:Int) < ((k+2:Nat):Int):=(by omega);obtain ⟨k3,vC⟩:∃ k3,k3 = k+2:=⟨_,rfl⟩;rw [← vC] at zg jD;simp [j2,j4,j5,j7,j8,j10,qk,vN,zh,jO,zg,jD];exact ⟨hN,⟨x,rfl⟩,⟨y,rfl⟩,0,rfl⟩
 ·obtain ⟨r1,r2,hI1,hI2,hI3⟩:=hI;rw [hI1] at hN;simp only [hI2,hI3] at hN;by_cases hr:r = crlf
  ·rw [if_pos hr] at hN;have zD:(r == [13,10]) = true:=beq_iff_eq.2 hr;simp [k2,k4,k5,k6,k7,zD];exact ⟨x,y,z,hN,rfl,rfl,rfl⟩
  ·rw [if_neg hr] at hN;have zD:(r == [13,10]) = false:=beq_eq_false_iff_ne.2 hr;simp [k2,k4,k5,k6,k7,zD];exact ⟨hN,⟨x,rfl⟩,⟨y,rfl⟩,z,rfl⟩
theorem qnz (b:List UInt8) {l:List (List UInt8)} (hl:qeH l):vp b l = if zT stopL b 0 = -1 then (.zero,22) else Kd (b.take ((zT stopL b 0).toNat+4)) (b.drop ((zT stopL b 0).toNat+4)) l 0:=by
 rw [qg1 _ _ _ _ hl];rfl
set_option maxHeartbeats 4000000 in
set_option maxRecDepth 4000 in
theorem qmH [MaxL] [TxtC] (b:Sl UInt8) (hb:b.l.length≤90000):call cx 37 [(.vsl b.nil (qd b.l) b.l.length)] [] = some (.tup [.agg (Enc.cells (vy b.l).1),.int .i64 (vy b.l).2],[]):=by
 have hh:=qmX b (by omega);have hP:=qnz b.l qmJ;have zO:vy b.l = if (vp b.l rqL).2 = 0 then (⟨Kl (vp b.l rqL).1.kind,(vp b.l rqL).1.epoch,(vp b.l rqL).1.number,(vp b.l rqL).1.body⟩,0) else (⟨[],0,0,.none⟩,(vp b.l rqL).2):=rfl;generalize vp b.l rqL = m at *;generalize vy b.l = res at *;refine qq Tryz.func37 rfl ⟨rfl,rfl⟩ ?_;rcases XI stopL b.l 0 with ⟨i,h1,h2,h3⟩ | h1
 ·rw [Nat.zero_add] at h1;have h4:stopL.length = 4:=rfl;rw [h4] at h2;have h5:¬ ((i:Nat):Int) = -1:=by omega
  have h6:((i:Int)+4) = ((i+4:Nat):Int):=by omega
  have h7:((i:Nat):Int).toNat = i:=by omega
  rw [h1,if_neg h5,h6] at hh;rw [h1,if_neg h5,h7] at hP;obtain ⟨k,hk⟩:∃ k,k = i+4:=⟨_,rfl⟩;rw [← hk] at hh hP h2;have hk1:1≤k:=by omega
  have hbody:=fun z hz=>qn6 b (by omega) k z h2 hk1 hz;have hnn:b.nil = false:=Sl.nn (s:=b) (i:=0) (by omega);have qu:List.take k (qd b.l) = qd (b.l.take k):=vK _ _;have hsl:(b.l.take k).length = k:=by rw [List.length_take];omega
  have hk':(k:Int)≤(b.l.length:Int):=by omega
  generalize b.l.take k = s at *;generalize b.l.drop k = body at *;have hsl2:s.length < 1000000:=by omega
  clear h1 h5 h6 h7 hk h3;simp [Tryz.f37,hh]
  refine Run.loopThen (fun (j:Nat) e H'=>j≤2∧Kd s body (rqL.drop j) j = m∧H' = [some [.str [],.int .u64 0,.int .u64 0,.vsl true [] 0],some [.str jr,.str zY]] ∧
   qf e 0 = some (.vsl b.nil (qd b.l) b.l.length)∧qf e 2 = some (.optr 0 4 0)∧qf e 4 = some (.int .i64 k)∧qf e 6 = some (.osl 1 2 0 2 1)∧qf e 7 = some (.int .i64 j)) (fun j=>2 - j) 0 ?_ ?_
  ·simp [hP,jr,zY]
  rintro j e H' ⟨hj,hm,rfl,k0,k2,k4,k6,k7⟩;rw [hnn] at k0 hbody;have hjs:j = 0∨j = 1∨j = 2:=by omega
  rcases hjs with rfl | rfl | rfl
  ·rw [show rqL.drop 0 = j9 jr :: rqL.drop 1 from rfl,Kd] at hm;have hst:=qcF jr (by decide);have js:=Ya s (j9 jr) hsl2 (by decide);cases hp:pre (j9 jr) s with
   | false =>
    rw [hp,if_neg (by decide)] at js hm;generalize j9 jr = w at *;simp [k0,k2,k4,k6,k7,hk',qu,hst,js,hsl];exact ⟨1,by omega,by omega,hm,by simp [hnn]⟩
   | true =>
    rw [hp,if_pos rfl] at js hm;have jm:(s.drop (j9 jr).length).length≤s.length:=(by simp);generalize s.drop (j9 jr).length = t at *;generalize j9 jr = w at *;rcases qff t (by omega) with ⟨x,y,z,n1,n2⟩ | ⟨n1,x,y,z,n2⟩
    ·rw [n1] at hm;simp only at hm;have hz:=(qcu n1).2.2.1;have Qo:=hbody z hz;unfold Xq at hm;by_cases z1:65536 < z
     ·rw [if_pos z1] at Qo hm;subst hm;rw [if_neg (by decide)] at zO;subst zO;simp [k0,k2,k4,k6,k7,hk',qu,hst,js,hsl,n2,Qo,Rq.cells]
     ·rw [if_neg z1] at Qo hm;by_cases z2:body.length < z
      ·rw [if_pos z2] at Qo hm;subst hm;rw [if_neg (by decide)] at zO;subst zO;simp [k0,k2,k4,k6,k7,hk',qu,hst,js,hsl,n2,Qo,Rq.cells]
      ·rw [if_neg z2] at Qo hm;by_cases z3:z < body.length
       ·rw [if_pos z3] at Qo hm;subst hm;rw [if_neg (by decide)] at zO;subst zO;simp [k0,k2,k4,k6,k7,hk',qu,hst,js,hsl,n2,Qo,Rq.cells]
       ·rw [if_neg z3] at Qo hm;subst hm;rw [if_pos rfl] at zO;subst zO;simp [k0,k2,k4,k6,k7,hk',qu,hst,js,hsl,n2,Qo,Rq.cells,Kl]
        try rfl
    ·rw [n1] at hm;simp only at hm;subst hm;rw [if_neg (by decide)] at zO;subst zO;simp [k0,k2,k4,k6,k7,hk',qu,hst,js,hsl,n2,Rq.cells]
  ·rw [show rqL.drop 1 = j9 zY :: rqL.drop 2 from rfl,Kd] at hm;have hst:=qcF zY (by decide);have js:=Ya s (j9 zY) hsl2 (by decide);cases hp:pre (j9 zY) s with
   | false =>
    rw [hp,if_neg (by decide)] at js hm;generalize j9 zY = w at *;simp [k0,k2,k4,k6,k7,hk',qu,hst,js,hsl];exact ⟨2,by omega,by omega,hm,by simp [hnn]⟩
   | true =>
    rw [hp,if_pos rfl] at js hm;have jm:(s.drop (j9 zY).length).length≤s.length:=(by simp);generalize s.drop (j9 zY).length = t at *;generalize j9 zY = w at *;rcases qff t (by omega) with ⟨x,y,z,n1,n2⟩ | ⟨n1,x,y,z,n2⟩
    ·rw [n1] at hm;simp only at hm;have hz:=(qcu n1).2.2.1;have Qo:=hbody z hz;unfold Xq at hm;by_cases z1:65536 < z
     ·rw [if_pos z1] at Qo hm;subst hm;rw [if_neg (by decide)] at zO;subst zO;simp [k0,k2,k4,k6,k7,hk',qu,hst,js,hsl,n2,Qo,Rq.cells]
     ·rw [if_neg z1] at Qo hm;by_cases z2:body.length < z
      ·rw [if_pos z2] at Qo hm;subst hm;rw [if_neg (by decide)] at zO;subst zO;simp [k0,k2,k4,k6,k7,hk',qu,hst,js,hsl,n2,Qo,Rq.cells]
      ·rw [if_neg z2] at Qo hm;by_cases z3:z < body.length
       ·rw [if_pos z3] at Qo hm;subst hm;rw [if_neg (by decide)] at zO;subst zO;simp [k0,k2,k4,k6,k7,hk',qu,hst,js,hsl,n2,Qo,Rq.cells]
       ·rw [if_neg z3] at Qo hm;subst hm;rw [if_pos rfl] at zO;subst zO;simp [k0,k2,k4,k6,k7,hk',qu,hst,js,hsl,n2,Qo,Rq.cells,Kl]
        try rfl
    ·rw [n1] at hm;simp only at hm;subst hm;rw [if_neg (by decide)] at zO;subst zO;simp [k0,k2,k4,k6,k7,hk',qu,hst,js,hsl,n2,Rq.cells]
  ·rw [show rqL.drop 2 = [] from rfl,Kd] at hm;subst hm;rw [if_neg (by decide)] at zO;subst zO;simp [k0,k2,k4,k6,k7,Rq.cells]
 ·rw [h1,if_pos rfl] at hh hP;subst hP;rw [if_neg (by decide)] at zO;subst zO;simp [Tryz.f37,hh,Rq.cells]
def RSt.B (s:RSt) (nl:Bool):List D:=[.int .u64 s.ep,.int .u64 s.la,(.vsl s.mks.nil (qh s.mks.l) s.mks.l.length),.vsl nl (qh s.its) s.its.length]
def AnsQ (s:RSt) (c:Int) (x:Sl UInt8) (r:D × qi):Prop:= ∃ nl,(nl = true→s.its = [])∧r = (.tup [.int .i64 c,(.vsl x.nil (qd x.l) x.l.length)],[some (s.B nl)])
theorem AnsQ.mk {s:RSt} {c:Int} {x:Sl UInt8} {nl:Bool} (h:nl = true→s.its = []):AnsQ s c x (.tup [.int .i64 c,(.vsl x.nil (qd x.l) x.l.length)],[some (s.B nl)]):=⟨nl,h,rfl⟩
set_option maxHeartbeats 8000000 in
set_option maxRecDepth 8000 in
theorem qwx [MaxL] {s:RSt} {N:Nat} (hI:RInv s N) (hN:N≤100000) (nl:Bool) (qQ:nl = true→s.its = []) (q:Rq) (hq:q.body.l.length≤65536) (hqe:qw q.epoch) (hqn:qw q.number) :
  ∃ r,call cx 39 [.optr 0 4 0,.agg (Enc.cells q)] [some (s.B nl)] = some r∧AnsQ (jI s q).2.2 (jI s q).1 (jI s q).2.1 r:=by
 have hm:=hI.len;have vj:=hI.num;have hla:=hI.la;have hok:=hI.ok;obtain ⟨ep,la,its,mk⟩:=s;obtain ⟨p,e,n,o⟩:=q;simp only at hq hqe hqn hm vj hla hok qQ;have hg:=qmY o (by omega);have hby:=qgf mk (by omega) hok;obtain ⟨w1,qF⟩:∃ w1,IntKind.u64.wrap (la+1) = w1:=⟨_,rfl⟩;have kA:la = 18446744073709551615→w1 = 0:=fun h=>by rw [← qF,h];decide
 have Qj:la≠18446744073709551615→w1≠0:=fun h=>by
  obtain ⟨h1,h2⟩:=hla;have:w1 = la+1:=by rw [← qF,qK] <;> omega
  omega
 refine vf (X:=cx) (f:=39) (args:=[.optr 0 4 0,.agg [.str p,.int .u64 e,.int .u64 n,(.vsl o.nil (qd o.l) o.l.length)]]) (H:=[some [.int .u64 ep,.int .u64 la,(.vsl mk.nil (qh mk.l) mk.l.length),.vsl nl (qh its) its.length]]) (AnsQ (jI ⟨ep,la,its,mk⟩ ⟨p,e,n,o⟩).2.2 (jI ⟨ep,la,its,mk⟩ ⟨p,e,n,o⟩).1 (jI ⟨ep,la,its,mk⟩ ⟨p,e,n,o⟩).2.1) Tryz.func39 rfl ⟨rfl,rfl⟩ ?_;obtain ⟨⟨A1,A2,A3⟩,hA⟩:∃ A,A = jI ⟨ep,la,its,mk⟩ ⟨p,e,n,o⟩:=⟨_,rfl⟩;rw [← hA];unfold jI at hA;simp only at hA ⊢;by_cases c1:e < ep
 ·rw [if_pos c1] at hA;cases hA;simp [Tryz.f39,c1];exact AnsQ.mk (x:=.none) qQ
 rw [if_neg c1] at hA;by_cases cp:p = jr
 ·rw [if_pos cp] at hA;subst cp;have hs:(jr == [47,104,101,108,108,111]) = true:=by decide
  by_cases c2:0 < o.l.length
  ·rw [if_pos c2] at hA;cases hA;simp [Tryz.f39,c1,hs,c2];exact AnsQ.mk (x:=.none) qQ
  ·rw [if_neg c2] at hA;generalize kr mk.l = z at *;unfold J6 at hA;simp only at hA;by_cases c3:ep < e
   ·rw [if_pos c3] at hA;cases hA;simp [Tryz.f39,c1,hs,c2,c3,hby];exact AnsQ.mk qQ
   ·rw [if_neg c3] at hA;cases hA;simp [Tryz.f39,c1,hs,c2,c3,hby];exact AnsQ.mk qQ
 rw [if_neg cp] at hA
 have hs:(p == [47,104,101,108,108,111]) = false:=by
  have:¬ p = [47,104,101,108,108,111]:=cp;simpa using this
 unfold jf at hA;simp only at hA;by_cases c2:ep < e
 ·rw [if_pos c2] at hA;cases hA;simp [Tryz.f39,c1,hs,c2];exact AnsQ.mk (x:=.none) qQ
 rw [if_neg c2] at hA;by_cases c3:n = la∧n≠0
 ·rw [if_pos c3] at hA;cases hA;obtain ⟨rfl,c4⟩:=c3;simp [Tryz.f39,c1,hs,c2,c4];exact AnsQ.mk (x:=.none) qQ
 rw [if_neg c3,qF] at hA;have c3':n = la→n = 0:=fun h=>Classical.byContradiction fun h0=>c3 ⟨h,h0⟩;by_cases c4:n≠w1∨n = 0
 ·rw [if_pos c4] at hA;cases hA;by_cases c5:la = 18446744073709551615
  ·have c6:¬ n = la:=fun h=>by have:=c3' h;omega
   subst c5;simp [Tryz.f39,c1,hs,c2,c6];exact AnsQ.mk (x:=.none) qQ
  ·have:=Qj c5
   have c6:¬ n = w1:=fun h=>by
    rcases c4 with h1 | h1
    ·exact h1 h
    ·omega
   by_cases c7:n = la
   ·have c8:=c3' c7;subst c7;subst c8;simp [Tryz.f39,c1,hs,c2];exact AnsQ.mk (x:=.none) qQ
   ·simp [Tryz.f39,c1,hs,c2,c7,c5,c6,qF];exact AnsQ.mk (x:=.none) qQ
 rw [if_neg c4] at hA;have c5:¬ la = 18446744073709551615:=fun h=>by have:=kA h;omega
 have c6:n = w1:=Classical.byContradiction fun h=>c4 (.inl h);have c7:¬ n = 0:=fun h=>c4 (.inr h);have c8:¬ n = la:=fun h=>c7 (c3' h);unfold zR at hg;obtain ⟨⟨l,en,c⟩,hgp⟩:∃ g,g = vo o.l:=⟨_,rfl⟩;have vk:=qi0 o.l;have hgm:=qiz o.l
 have his:c = 0→(∀ y∈l,GotI y)∧(∀ y∈en,y.Ok):=fun h=>by
  obtain ⟨_,h2,h3,_,_⟩:=qdT hq (h ▸ hgp.symm);exact ⟨h2,h3⟩
 rw [← hgp] at hg vk hgm hA;unfold VP at hA;simp only at hg vk hgm hA;clear hgp;obtain ⟨lS,hlS⟩:∃ lS,lS = Sl.grown l:=⟨_,rfl⟩;obtain ⟨E,hE⟩:∃ E,E = Sl.grown en:=⟨_,rfl⟩;have hlSl:lS.l = l:=by rw [hlS];rfl
 have hEl:E.l = en:=by rw [hE];rfl
 rw [← hlS,← hE,hlSl,hEl] at hg;rw [← hE] at hA;subst c6;by_cases hc:c = 0
 case neg =>
  rw [if_pos hc] at hA;cases hA;simp [Tryz.f39,c1,hs,c2,c8,c5,qF,hg,hc];exact AnsQ.mk (x:=.none) qQ
 obtain ⟨vL,heo⟩:=his hc;rw [if_neg (fun h=>h hc)] at hA;simp [Tryz.f39,c1,hs,c2,c8,c5,qF,hg,hc]
 refine Run.loopThen (fun (k:Nat × Sl Mk) e' H=>k.1≤l.length∧k.2.l.length≤mk.l.length+k.1∧V2 k.2.l∧Z0 (l.drop k.1) k.2.l = Z0 l mk.l∧(H = [some [.int .u64 ep,.int .u64 la,(.vsl mk.nil (qh mk.l) mk.l.length),.vsl nl (qh its) its.length],some [.str p,.int .u64 e,.int .u64 n,(.vsl o.nil (qd o.l) o.l.length)]]∨∃ w,H = [some [.int .u64 ep,.int .u64 la,(.vsl mk.nil (qh mk.l) mk.l.length),.vsl nl (qh its) its.length],some [.str p,.int .u64 e,.int .u64 n,(.vsl o.nil (qd o.l) o.l.length)],w]) ∧
  qf e' 0 = some (.optr 0 4 0)∧qf e' 3 = some (.optr 1 4 0)∧qf e' 6 = some (.vsl lS.nil (qh l) l.length)∧qf e' 7 = some (.vsl E.nil (qh en) en.length)∧qf e' 9 = some (.vsl k.2.nil (qh k.2.l) k.2.l.length)∧qf e' 10 = some (.int .i64 k.1)) (fun k=>l.length - k.1) (0,mk) ?_ ?_
 ·simp [hok]
 rintro ⟨k,t⟩ e' H ⟨hk,jm,hto,hf,hH,k0,k3,k6,k7,k9,k10⟩;simp only at hk jm hto hf k9 k10;by_cases qg:k < l.length
 ·have qk:(k:Int) < (l.length:Int):=by omega
  have hw:IntKind.i64.wrap ((k:Int)+1) = ((k+1:Nat):Int):=by rw [wrap_i64] <;> omega
  have qJ:lS.nil = false:=Sl.nn (i:=k) (by rw [hlSl];exact qg);have jK:List.drop (k * 39) (qh l) = Enc.cells l[k] ++ qh (l.drop (k+1)):=It.ea qg;have qu:=qfL t (by omega) l[k] false;have h39:39≤39+(l.length - (k+1)) * 39:=by omega
  have hxo:(l[k]).Ok:=(vL _ (List.getElem_mem qg)).ok;rw [List.drop_eq_getElem_cons qg,Z0] at hf;have htl2:=qcx t.l l[k] false;have htc:=qlo t.l l[k] false;have htw:=qln (l:=t.l) (it:=l[k]) false hto hxo;have hto2:=qfK (f:=t.l) (x:=l[k]) hto hxo false;generalize l[k] = x at *;rw [← htc] at qu;by_cases c9:Jc t.l x = 0
  ·rw [if_pos c9] at hf;rw [c9] at qu;unfold kv at qu;rw [if_pos rfl,← htw c9] at qu;rw [← htw c9] at hto2;rcases hH with rfl | ⟨w,rfl⟩
   ·simp [-It.ea,k0,k3,k6,k7,k9,k10,qk,hw,qJ,jK,qu,h39];exact ⟨k+1,by omega,by omega,.of (Jy t.l x false),by rw [Sl.of_l];omega,hto2,hf,⟨rfl,rfl,rfl⟩,by omega⟩
   ·simp [-It.ea,k0,k3,k6,k7,k9,k10,qk,hw,qJ,jK,qu,h39];exact ⟨k+1,by omega,by omega,.of (Jy t.l x false),by rw [Sl.of_l];omega,hto2,hf,⟨rfl,rfl,rfl⟩,by omega⟩
  ·rw [if_neg c9] at hf;rw [← hf] at hA;cases hA;unfold kv at qu;rw [if_neg c9] at qu;rcases hH with rfl | ⟨w,rfl⟩
   ·simp [-It.ea,k0,k3,k6,k7,k9,k10,qk,qJ,jK,qu,h39,c9];exact AnsQ.mk (x:=.none) qQ
   ·simp [-It.ea,k0,k3,k6,k7,k9,k10,qk,qJ,jK,qu,h39,c9];exact AnsQ.mk (x:=.none) qQ
 ·have qk:¬ (k:Int) < (l.length:Int):=by omega
  rw [List.drop_eq_nil_of_le (by omega),Z0] at hf;rw [← hf] at hA;simp only at hA;have h1:=qgi t E (by omega) (by rw [hEl];omega);have h2:=qgi mk E (by omega) (by rw [hEl];omega);rw [hEl] at h1 h2;cases d1:vS t.l en with
  | false =>
   rw [d1,Bool.false_and,if_neg (by decide)] at hA;cases hA;rw [d1] at h1;rcases hH with rfl | ⟨w,rfl⟩
   ·simp [k0,k3,k6,k7,k9,k10,qk,h1];exact AnsQ.mk (x:=.none) qQ
   ·simp [k0,k3,k6,k7,k9,k10,qk,h1];exact AnsQ.mk (x:=.none) qQ
  | true =>
   rw [d1] at h1;cases d2:vS mk.l en with
   | false =>
    rw [d1,d2,Bool.true_and,if_neg (by decide)] at hA;cases hA;rw [d2] at h2;rcases hH with rfl | ⟨w,rfl⟩
    ·simp [k0,k3,k6,k7,k9,k10,qk,h1,h2];exact AnsQ.mk (x:=.none) qQ
    ·simp [k0,k3,k6,k7,k9,k10,qk,h1,h2];exact AnsQ.mk (x:=.none) qQ
   | true =>
    rw [d1,d2,Bool.true_and,if_pos rfl] at hA;cases hA;rw [d2] at h2;have hb1:(its.length+l.length) * 104≤140737488355328:=(by omega);have zm:its.length+l.length≤140737488355328:=(by omega);have hb4:its.length * 104≤140737488355328:=(by omega);have hb5:its.length≤140737488355328:=(by omega);have hb3:List.take (l.length * 39) (qh l) = qh l:=List.take_of_length_le (by rw [It.el];omega);have hb6:List.take (its.length * 39) (qh its) = qh its:=List.take_of_length_le (by rw [It.el];omega);have hb7:(its.length+l.length) * 39≤its.length * 39+l.length * 39:=(by omega);have hb8:List.take ((its.length+l.length) * 39) (qh its ++ qh l) = qh its ++ qh l:=List.take_of_length_le (by rw [List.length_append,It.el,It.el];omega);rcases hH with rfl | ⟨w,rfl⟩
    ·simp [k0,k3,k6,k7,k9,k10,qk,h1,h2,qB,hb1,zm,hb4,hb5,hb7,hb8];exact ⟨false,fun h=>(by cases h),by simp [RSt.B,Kz,hEl]⟩
    ·simp [k0,k3,k6,k7,k9,k10,qk,h1,h2,qB,hb1,zm,hb4,hb5,hb7,hb8];exact ⟨false,fun h=>(by cases h),by simp [RSt.B,Kz,hEl]⟩
def DHearQ (s:RSt) (x:Sl UInt8) (r:D × qi):Prop:= ∃ nl,(nl = true→s.its = [])∧r = ((.vsl x.nil (qd x.l) x.l.length),[some (s.B nl)])
theorem DHearQ.mk {s:RSt} {x:Sl UInt8} {nl:Bool} (h:nl = true→s.its = []):DHearQ s x ((.vsl x.nil (qd x.l) x.l.length),[some (s.B nl)]):=⟨nl,h,rfl⟩
theorem qwy (s:RSt) (q:Rq):(jI s q).2.1.l.length≤1000:=by
 unfold jI
 repeat' split
 ·simp
 ·simp
 ·exact qjX _
 ·simp
set_option maxHeartbeats 2000000 in
theorem quE [MaxL] {s:RSt} {N:Nat} (hI:RInv s N) (hN:N≤90000) (nl:Bool) (qQ:nl = true→s.its = []) (b:Sl UInt8) (hb:b.l.length≤90000) :
  ∃ r,call cx 13 [.optr 0 4 0,(.vsl b.nil (qd b.l) b.l.length)] [some (s.B nl)] = some r∧DHearQ (kE s b.l).2 (kE s b.l).1 r:=by
 have h1:=qmH b hb;refine vf (X:=cx) (f:=13) (args:=[.optr 0 4 0,(.vsl b.nil (qd b.l) b.l.length)]) (H:=[some (s.B nl)]) (DHearQ (kE s b.l).2 (kE s b.l).1) Tryz.func13 rfl ⟨rfl,rfl⟩ ?_;by_cases hc:(vy b.l).2 = 0
 case neg =>
  have hS:kE s b.l = (kN ⟨400,0,0,.none⟩,s):=by unfold kE;rw [if_pos hc]
  rw [hS];have h2:=qfT ⟨400,0,0,.none⟩ ⟨by simp,by simp⟩ ⟨by simp,by simp⟩ (by simp);generalize (vy b.l).2 = c at *;generalize (vy b.l).1 = q0 at *;obtain ⟨p,e,n,o⟩:=q0;simp only [Rq.cells,Rs.cells] at h1 h2 ⊢
  try simp at h2
  generalize kN ⟨400,0,0,.none⟩ = z at *;obtain ⟨ep,la,its,mk⟩:=s;simp [Tryz.f13,RSt.B,h1,h2,hc];exact DHearQ.mk (s:=⟨ep,la,its,mk⟩) qQ
 obtain ⟨p,x,y,body,hp,hq,_,hx,hy,hl⟩:=qaY hc;have ux:=X1 hx;have uy:=X1 hy
 have hS:kE s b.l = (kN ⟨(jI s ⟨p,x,y,.of body⟩).1,(jI s ⟨p,x,y,.of body⟩).2.2.ep,y,(jI s ⟨p,x,y,.of body⟩).2.1⟩,(jI s ⟨p,x,y,.of body⟩).2.2):=by
  unfold kE;rw [if_neg (fun h=>h hc),hq]
 obtain ⟨r,ha,nl',hnl',rfl⟩:=qwx hI (by omega) nl qQ ⟨p,x,y,.of body⟩ (by simpa using hl) ux uy;have hI':=qkr hI ⟨p,x,y,.of body⟩ (by simpa using hl) ux uy;have Q4:=qwy s ⟨p,x,y,.of body⟩;rw [hS];generalize jI s ⟨p,x,y,.of body⟩ = R at *;obtain ⟨c,w,s'⟩:=R;simp only at ha hI' hnl' Q4 ⊢;have h2:=qfT ⟨c,s'.ep,y,w⟩ hI'.ep uy (by simp only;omega);rw [hq,hc] at h1;simp only [Rq.cells,Rs.cells] at h1 h2 ha;generalize kN ⟨c,s'.ep,y,w⟩ = z at *;obtain ⟨o,ho⟩:∃ o,o = Sl.of body:=⟨_,rfl⟩;rw [← ho] at h1 ha;obtain ⟨ep,la,its,mk⟩:=s;obtain ⟨ep',la',its',mk'⟩:=s';simp only [RSt.B] at ha h2 ⊢;simp [Tryz.f13,h1,h2,ha];exact DHearQ.mk (s:=⟨ep',la',its',mk'⟩) hnl'
def qk6 (H:qi) (q:D × qi):Prop:= ∃ o:Sl UInt8,o.l.length≤65536∧q = ((.vsl o.nil (qd o.l) o.l.length),H)
theorem qpg {L:List It} (h:∀ x∈L,qax x):Yb L:=fun x hx=>by
 obtain ⟨h1,h2,h3,h4⟩:=h x hx;refine ⟨h1,by omega,fun p hp=>?_⟩;have:=qoT (h4 p hp);exact ⟨by omega,by omega⟩
set_option maxHeartbeats 4000000 in
set_option maxRecDepth 8000 in
theorem qwh [MaxL] (kd ep nm:Int) (n1:Bool) (z1:List Int) (h1:n1 = true→z1 = []) (hz1:z1.length≤60) (n2:Bool) (z2:List Int) (h2:n2 = true→z2 = []) (hz2:z2.length≤4) (y:UInt8) (b:Sl UInt8) (ep0 la0:Int) (mk:Sl Mk) (hR:V2 mk.l) (hRn:mk.l.length≤1000000) (dI:D) (jL:∀ n,closed n dI = true) :
  ∃ q,call cx 29 [.agg [.int .i64 kd,.int .i64 ep,.int .i64 nm,.vsl n1 (zL .i64 z1) z1.length,.vsl n2 (zL .i64 z2) z2.length,.int .u8 y.toNat,(.vsl b.nil (qd b.l) b.l.length)],.optr 0 4 0] [some [.int .u64 ep0,.int .u64 la0,(.vsl mk.nil (qh mk.l) mk.l.length),dI]] = some q∧qk6 [some [.int .u64 ep0,.int .u64 la0,(.vsl mk.nil (qh mk.l) mk.l.length),dI]] q:=by
 refine vf (X:=cx) (f:=29) (args:=[.agg [.int .i64 kd,.int .i64 ep,.int .i64 nm,.vsl n1 (zL .i64 z1) z1.length,.vsl n2 (zL .i64 z2) z2.length,.int .u8 y.toNat,(.vsl b.nil (qd b.l) b.l.length)],.optr 0 4 0]) (H:=[some [.int .u64 ep0,.int .u64 la0,(.vsl mk.nil (qh mk.l) mk.l.length),dI]]) (qk6 [some [.int .u64 ep0,.int .u64 la0,(.vsl mk.nil (qh mk.l) mk.l.length),dI]]) Tryz.func29 rfl ⟨rfl,rfl⟩ ?_;have sf:=Ys n1 z1;have sl:=Yr n1 z1;have sc:=Yt n1 z1;obtain ⟨q,hq,L,k',hL4,hLm,zA⟩:=qsF n1 z1 h1 (by omega) 0 4 (by decide);have tailE:∀ (S:Sl It),Yb S.l→∀ (E:Sl Mk),(∀ x∈E.l,x.Ok)→E.l.length≤1000000→∃ o:Sl UInt8,o.l.length≤65536∧call cx 55 [(.vsl S.nil (qh S.l) S.l.length),(.vsl E.nil (qh E.l) E.l.length)] [] = some ((.vsl o.nil (qd o.l) o.l.length),[]):=fun S hS E hE hEn=>⟨Jh S.l E.l,qnD _ _,qmL S E hS hE (by omega)⟩
 have tail:∀ (o:Sl UInt8),o.l.length≤65536→∀ (nn:Nat),nn = o.l.length→4 < nn→0 < z2.length→∃ o2:List UInt8,o2.length≤65536∧call cx 57 [.vsl o.nil (qd (o.l.take (nn - 4))) (nn - 4),.vsl n2 (zL .i64 z2) z2.length,.int .u8 y.toNat] [] = some (.vsl false (qd o2) o2.length,[])∧o2.length = nn - 4∧call cx 56 [.vsl false (qd o2) o2.length] [] = some (.vsl false (qd (ku o2)) (ku o2).length,[]):=by
  intro o ho nn hnn h4 hz
  have hnf:o.nil = false:=by
   cases hn:o.nil with
   | false=>rfl
   | true=>have:=o.h hn;rw [this] at hnn;simp at hnn;omega
  have hl:(o.l.take (nn - 4)).length = nn - 4:=by rw [List.length_take];omega
  obtain ⟨q2,c1,o2,ho2,rfl⟩:=qlE (.of (o.l.take (nn - 4))) (by simp;omega) n2 z2 h2 (by omega) y;have c2:=qfR (.of o2) (by simp at ho2 ⊢;omega);simp only [Sl.of_l,Sl.of_nil,hl] at c1 c2 ho2;refine ⟨o2,by omega,by rw [hnf];exact c1,ho2,c2⟩
 obtain ⟨m7,kY⟩:∃ m7,kd.tmod 7 = m7:=⟨_,rfl⟩;obtain ⟨m4,hm4⟩:∃ m4,kd.tmod 4 = m4:=⟨_,rfl⟩;rcases zA with ⟨rfl,rfl⟩ | ⟨qr,n,m,hn,hm,rfl⟩
 ·replace hq:call cx 30 [.optr 0 2 0,.int .i64 4] [some [.vsl n1 (zL .i64 z1) z1.length,.int .i64 0]] = some (.vsl true [] 0,[some (jl n1 z1 k')]):=hq;simp [Tryz.f29,hq,sf];refine qcD ?_;simp;by_cases c7:m7 = 0
  ·obtain ⟨qm,hqm,M,kz,hM,rfl⟩:=qdu n1 z1 h1 (by omega) k';replace hqm:call cx 54 [.optr 0 2 0] [some (jl n1 z1 k')] = some (.vsl M.isEmpty (qh M) M.length,[some (jl n1 z1 kz)]):=hqm;have hM4:=hM.len;obtain ⟨o,ho,hp⟩:=tailE .none (by intro x hx;simp at hx) ⟨M.isEmpty,M,fun h=>by simpa using h⟩ hM.ok (by simp only;omega);simp only [Sl.none_l,Sl.none_nil,qjk,List.length_nil] at hp;obtain ⟨nn,hnn⟩:∃ nn,nn = o.l.length:=⟨_,rfl⟩;rw [← hnn] at hp;by_cases c8:0 < z2.length
   ·have c8':(0:Int) < (z2.length:Int):=(by omega);by_cases c9:4 < nn
    ·have c9':(4:Int) < (nn:Int):=(by omega);obtain ⟨o2,t1,t2,t3,t4⟩:=tail o ho nn hnn c9 c8;have Q0:IntKind.i64.wrap ((nn:Int) - 4) = ((nn - 4:Nat):Int):=(by rw [wrap_i64] <;> omega);have ht:List.take (nn - 4) (qd o.l) = qd (o.l.take (nn - 4)):=vK _ _;have hle:((nn - 4:Nat):Int)≤(nn:Int):=(by omega);have hsl:=KT o2;generalize ku o2 = o3 at *;generalize o.l.take (nn - 4) = o4 at *;obtain ⟨n4,hn4⟩:∃ n4,n4 = nn - 4:=⟨_,rfl⟩;rw [← hn4] at *;simp [sf,jL,kY,c7,hqm,hp,c8,c9',Q0,ht,hle,t2,t4,hnn.symm];exact ⟨.of o3,by rw [Sl.of_l];omega,rfl⟩
    ·have c9':¬ (4:Int) < (nn:Int):=(by omega);simp [sf,jL,kY,c7,hqm,hp,c8,c9'];exact ⟨o,ho,by rw [← hnn]⟩
   ·have c8':¬ (0:Int) < (z2.length:Int):=(by omega);simp [sf,jL,kY,c7,hqm,hp,c8];exact ⟨o,ho,by rw [← hnn]⟩
  ·obtain ⟨o,ho,hp⟩:=tailE .none (by intro x hx;simp at hx) mk hR hRn;simp only [Sl.none_l,Sl.none_nil,qjk,List.length_nil] at hp;obtain ⟨nn,hnn⟩:∃ nn,nn = o.l.length:=⟨_,rfl⟩;rw [← hnn] at hp;by_cases c8:0 < z2.length
   ·have c8':(0:Int) < (z2.length:Int):=(by omega);by_cases c9:4 < nn
    ·have c9':(4:Int) < (nn:Int):=(by omega);obtain ⟨o2,t1,t2,t3,t4⟩:=tail o ho nn hnn c9 c8;have Q0:IntKind.i64.wrap ((nn:Int) - 4) = ((nn - 4:Nat):Int):=(by rw [wrap_i64] <;> omega);have ht:List.take (nn - 4) (qd o.l) = qd (o.l.take (nn - 4)):=vK _ _;have hle:((nn - 4:Nat):Int)≤(nn:Int):=(by omega);have hsl:=KT o2;generalize ku o2 = o3 at *;generalize o.l.take (nn - 4) = o4 at *;obtain ⟨n4,hn4⟩:∃ n4,n4 = nn - 4:=⟨_,rfl⟩;rw [← hn4] at *;simp [jL,kY,c7,hp,c8,c9',Q0,ht,hle,t2,t4,hnn.symm];exact ⟨.of o3,by rw [Sl.of_l];omega,rfl⟩
    ·have c9':¬ (4:Int) < (nn:Int):=(by omega);simp [jL,kY,c7,hp,c8,c9'];exact ⟨o,ho,by rw [← hnn]⟩
   ·have c8':¬ (0:Int) < (z2.length:Int):=(by omega);simp [jL,kY,c7,hp,c8];exact ⟨o,ho,by rw [← hnn]⟩
 ·replace hq:call cx 30 [.optr 0 2 0,.int .i64 4] [some [.vsl n1 (zL .i64 z1) z1.length,.int .i64 0]] = some (.osl 1 n 0 m 39,[some (jl n1 z1 k'),some (qh L)]):=hq;simp [Tryz.f29,hq,sf]
  refine Run.loopThen (fun (q:Nat × Sl Mk × List It) e H=>q.1≤m∧(V2 q.2.1.l∧q.2.1.l.length≤1000000)∧q.2.2.length = m∧Yb q.2.2∧(H = [some [.int .u64 ep0,.int .u64 la0,(.vsl mk.nil (qh mk.l) mk.l.length),dI],some [.int .i64 kd,.int .i64 ep,.int .i64 nm,.vsl n1 (zL .i64 z1) z1.length,.vsl n2 (zL .i64 z2) z2.length,.int .u8 y.toNat,(.vsl b.nil (qd b.l) b.l.length)],some (jl n1 z1 k'),some (qh q.2.2)]∨∃ w,H = [some [.int .u64 ep0,.int .u64 la0,(.vsl mk.nil (qh mk.l) mk.l.length),dI],some [.int .i64 kd,.int .i64 ep,.int .i64 nm,.vsl n1 (zL .i64 z1) z1.length,.vsl n2 (zL .i64 z2) z2.length,.int .u8 y.toNat,(.vsl b.nil (qd b.l) b.l.length)],some (jl n1 z1 k'),some (qh q.2.2),w]) ∧
   qf e 1 = some (.optr 0 4 0)∧qf e 2 = some (.optr 1 7 0)∧qf e 5 = some (.optr 2 2 0)∧qf e 6 = some (.osl 3 n 0 m 39)∧qf e 7 = some (.vsl q.2.1.nil (qh q.2.1.l) q.2.1.l.length)∧qf e 8 = some (.int .i64 q.1)) (fun q=>m - q.1) (0,mk,L) ?_ ?_
  ·exact ⟨Nat.zero_le _,⟨hR,hRn⟩,hm.symm,qpg hLm,.inl rfl,by simp,by simp,by simp,by simp,by simp,by simp⟩
  rintro ⟨i,E,L'⟩ e H ⟨hi,⟨hE,hEn⟩,ve,hB,hH,k1,k2,k5,k6,k7,k8⟩;simp only at hi hE hEn ve hB hH k7 k8;have qQ:n = L'.length * 39:=by omega
  by_cases qg:i < m
  ·have qk:(i:Int) < (m:Int):=(by omega);have hltL:i < L'.length:=(by omega);have hw:IntKind.i64.wrap ((i:Int)+1) = ((i+1:Nat):Int):=(by rw [wrap_i64] <;> omega);have hxB:=hB L'[i] (List.getElem_mem hltL);have jK:List.drop (i * 39) (qh L') = Enc.cells L'[i] ++ qh (L'.drop (i+1)):=It.ea hltL;have hge:=qaS mk (by omega) L'[i].id;generalize jd mk.l L'[i].id = g at *;generalize vd mk.l L'[i].id = gh at *;have hlat:=qp1 L'[i] g.seq;have hlB:=qp2 (n:=g.seq) hxB
   have qu:∀ x:It,x.Ok→∃ (c:Int) (E2:Sl Mk),call cx 19 [(.vsl E.nil (qh E.l) E.l.length),.agg (Enc.cells x),.bool false] [] = some (.tup [(.vsl E2.nil (qh E2.l) E2.l.length),.int .i64 c],[])∧(c = 0→V2 E2.l∧E2.l.length≤1000000):=fun x hx=>by
    refine ⟨_,_,qfL E (by omega) x false,fun hc=>?_⟩;unfold kv;rw [if_pos hc,Sl.of_l];have:=qm1 hc;exact ⟨qfK hE hx false,by omega⟩
   have hi39:i * 39+39≤m * 39:=(by omega);have zI:16≤39+(m - (i+1)) * 39:=(by omega);by_cases c4:0 < m4
   ·have hset:qA (qh L') (i * 39) (Enc.cells (Zw L'[i] g.seq)) = qh (L'.set i (Zw L'[i] g.seq)):=It.es _ hltL;have hltS:i < (L'.set i (Zw L'[i] g.seq)).length:=by rw [List.length_set];exact hltL
    have hea2:List.drop (i * 39) (qh (L'.set i (Zw L'[i] g.seq))) = Enc.cells (Zw L'[i] g.seq) ++ qh ((L'.set i (Zw L'[i] g.seq)).drop (i+1)):=by
     rw [It.ea hltS,List.getElem_set_self]
    have hBS:Yb (L'.set i (Zw L'[i] g.seq)):=fun x hx=>by
     rcases List.mem_or_eq_of_mem_set hx with h | rfl
     ·exact hB x h
     ·exact hlB
    have hLS:(L'.set i (Zw L'[i] g.seq)).length = m:=(by rw [List.length_set];exact ve);obtain ⟨c,E2,ht,vX⟩:=qu _ hlB.1;generalize hLL:L'.set i (Zw L'[i] g.seq) = L2 at *;generalize Zw L'[i] g.seq = x2 at *;generalize L'[i] = x at *;by_cases hc:c = 0
    ·rcases hH with rfl | ⟨w,rfl⟩
     ·simp [-It.ea,-It.es,k1,k2,k5,k6,k7,k8,qk,qQ,ve,jK,hge,hm4,c4,hlat,hset,hea2,hLS,ht,hc,hw,hi39,zI];exact ⟨i+1,by omega,by omega,E2,vX hc,L2,hLS,hBS,rfl,⟨rfl,rfl,rfl⟩,by omega⟩
     ·simp [-It.ea,-It.es,k1,k2,k5,k6,k7,k8,qk,sc,jL,qQ,ve,jK,hge,hm4,c4,hlat,hset,hea2,hLS,ht,hc,hw,hi39,zI];exact ⟨i+1,by omega,by omega,E2,vX hc,L2,hLS,hBS,rfl,⟨rfl,rfl,rfl⟩,by omega⟩
    ·rcases hH with rfl | ⟨w,rfl⟩
     ·simp [-It.ea,-It.es,k1,k2,k5,k6,k7,k8,qk,qQ,ve,jK,hge,hm4,c4,hlat,hset,hea2,hLS,ht,hc,hw,hi39,zI];exact ⟨i+1,by omega,by omega,E,⟨hE,hEn⟩,L2,hLS,hBS,rfl,⟨rfl,rfl,rfl⟩,by omega⟩
     ·simp [-It.ea,-It.es,k1,k2,k5,k6,k7,k8,qk,sc,jL,qQ,ve,jK,hge,hm4,c4,hlat,hset,hea2,hLS,ht,hc,hw,hi39,zI];exact ⟨i+1,by omega,by omega,E,⟨hE,hEn⟩,L2,hLS,hBS,rfl,⟨rfl,rfl,rfl⟩,by omega⟩
   ·obtain ⟨c,E2,ht,vX⟩:=qu _ hxB.1;generalize L'[i] = x at *;by_cases hc:c = 0
    ·rcases hH with rfl | ⟨w,rfl⟩
     ·simp [-It.ea,k1,k2,k5,k6,k7,k8,qk,qQ,ve,jK,hge,hm4,c4,ht,hc,hw,zI];exact ⟨i+1,by omega,by omega,E2,vX hc,L',ve,hB,rfl,⟨rfl,rfl,rfl⟩,by omega⟩
     ·simp [-It.ea,k1,k2,k5,k6,k7,k8,qk,sc,jL,qQ,ve,jK,hge,hm4,c4,ht,hc,hw,zI];exact ⟨i+1,by omega,by omega,E2,vX hc,L',ve,hB,rfl,⟨rfl,rfl,rfl⟩,by omega⟩
    ·rcases hH with rfl | ⟨w,rfl⟩
     ·simp [-It.ea,k1,k2,k5,k6,k7,k8,qk,qQ,ve,jK,hge,hm4,c4,ht,hc,hw,zI];exact ⟨i+1,by omega,by omega,E,⟨hE,hEn⟩,L',ve,hB,rfl,⟨rfl,rfl,rfl⟩,by omega⟩
     ·simp [-It.ea,k1,k2,k5,k6,k7,k8,qk,sc,jL,qQ,ve,jK,hge,hm4,c4,ht,hc,hw,zI];exact ⟨i+1,by omega,by omega,E,⟨hE,hEn⟩,L',ve,hB,rfl,⟨rfl,rfl,rfl⟩,by omega⟩
  ·have qk:¬ (i:Int) < (m:Int):=(by omega);have vj:List.take (m * 39) (qh L') = qh L':=List.take_of_length_le (by rw [It.el];omega);rcases hH with rfl | ⟨w,rfl⟩
   ·by_cases c7:m7 = 0
    ·obtain ⟨qm,hqm,M,kz,hM,rfl⟩:=qdu n1 z1 h1 (by omega) k';replace hqm:call cx 54 [.optr 0 2 0] [some (jl n1 z1 k')] = some (.vsl M.isEmpty (qh M) M.length,[some (jl n1 z1 kz)]):=hqm;have hM4:=hM.len;obtain ⟨o,ho,hp⟩:=tailE (.of L') (by rw [Sl.of_l];exact hB) ⟨M.isEmpty,M,fun h=>by simpa using h⟩ hM.ok (by simp only;omega);simp only [Sl.of_l,Sl.of_nil,ve] at hp;obtain ⟨nn,hnn⟩:∃ nn,nn = o.l.length:=⟨_,rfl⟩;rw [← hnn] at hp;by_cases c8:0 < z2.length
     ·have c8':(0:Int) < (z2.length:Int):=(by omega);by_cases c9:4 < nn
      ·have c9':(4:Int) < (nn:Int):=(by omega);obtain ⟨o2,t1,t2,t3,t4⟩:=tail o ho nn hnn c9 c8;have Q0:IntKind.i64.wrap ((nn:Int) - 4) = ((nn - 4:Nat):Int):=(by rw [wrap_i64] <;> omega);have ht:List.take (nn - 4) (qd o.l) = qd (o.l.take (nn - 4)):=vK _ _;have hle:((nn - 4:Nat):Int)≤(nn:Int):=(by omega);have hsl:=KT o2;generalize ku o2 = o3 at *;generalize o.l.take (nn - 4) = o4 at *;obtain ⟨n4,hn4⟩:∃ n4,n4 = nn - 4:=⟨_,rfl⟩;rw [← hn4] at *;simp [k1,k2,k5,k6,k7,k8,qk,sf,jL,qQ,ve,vj,kY,c7,hqm,hp,c8,c9',Q0,ht,hle,t2,t4,hnn.symm];exact ⟨.of o3,by rw [Sl.of_l];omega,rfl⟩
      ·have c9':¬ (4:Int) < (nn:Int):=(by omega);simp [k1,k2,k5,k6,k7,k8,qk,sf,jL,qQ,ve,vj,kY,c7,hqm,hp,c8,c9'];exact ⟨o,ho,by rw [← hnn]⟩
     ·have c8':¬ (0:Int) < (z2.length:Int):=(by omega);simp [k1,k2,k5,k6,k7,k8,qk,sf,jL,qQ,ve,vj,kY,c7,hqm,hp,c8];exact ⟨o,ho,by rw [← hnn]⟩
    ·obtain ⟨o,ho,hp⟩:=tailE (.of L') (by rw [Sl.of_l];exact hB) E hE hEn;simp only [Sl.of_l,Sl.of_nil,ve] at hp;obtain ⟨nn,hnn⟩:∃ nn,nn = o.l.length:=⟨_,rfl⟩;rw [← hnn] at hp;by_cases c8:0 < z2.length
     ·have c8':(0:Int) < (z2.length:Int):=(by omega);by_cases c9:4 < nn
      ·have c9':(4:Int) < (nn:Int):=(by omega);obtain ⟨o2,t1,t2,t3,t4⟩:=tail o ho nn hnn c9 c8;have Q0:IntKind.i64.wrap ((nn:Int) - 4) = ((nn - 4:Nat):Int):=(by rw [wrap_i64] <;> omega);have ht:List.take (nn - 4) (qd o.l) = qd (o.l.take (nn - 4)):=vK _ _;have hle:((nn - 4:Nat):Int)≤(nn:Int):=(by omega);have hsl:=KT o2;generalize ku o2 = o3 at *;generalize o.l.take (nn - 4) = o4 at *;obtain ⟨n4,hn4⟩:∃ n4,n4 = nn - 4:=⟨_,rfl⟩;rw [← hn4] at *;simp [k1,k2,k5,k6,k7,k8,qk,jL,qQ,ve,vj,kY,c7,hp,c8,c9',Q0,ht,hle,t2,t4,hnn.symm];exact ⟨.of o3,by rw [Sl.of_l];omega,rfl⟩
      ·have c9':¬ (4:Int) < (nn:Int):=(by omega);simp [k1,k2,k5,k6,k7,k8,qk,jL,qQ,ve,vj,kY,c7,hp,c8,c9'];exact ⟨o,ho,by rw [← hnn]⟩
     ·have c8':¬ (0:Int) < (z2.length:Int):=(by omega);simp [k1,k2,k5,k6,k7,k8,qk,jL,qQ,ve,vj,kY,c7,hp,c8];exact ⟨o,ho,by rw [← hnn]⟩
   ·by_cases c7:m7 = 0
    ·obtain ⟨qm,hqm,M,kz,hM,rfl⟩:=qdu n1 z1 h1 (by omega) k';replace hqm:call cx 54 [.optr 0 2 0] [some (jl n1 z1 k')] = some (.vsl M.isEmpty (qh M) M.length,[some (jl n1 z1 kz)]):=hqm;have hM4:=hM.len;obtain ⟨o,ho,hp⟩:=tailE (.of L') (by rw [Sl.of_l];exact hB) ⟨M.isEmpty,M,fun h=>by simpa using h⟩ hM.ok (by simp only;omega);simp only [Sl.of_l,Sl.of_nil,ve] at hp;obtain ⟨nn,hnn⟩:∃ nn,nn = o.l.length:=⟨_,rfl⟩;rw [← hnn] at hp;by_cases c8:0 < z2.length
     ·have c8':(0:Int) < (z2.length:Int):=(by omega);by_cases c9:4 < nn
      ·have c9':(4:Int) < (nn:Int):=(by omega);obtain ⟨o2,t1,t2,t3,t4⟩:=tail o ho nn hnn c9 c8;have Q0:IntKind.i64.wrap ((nn:Int) - 4) = ((nn - 4:Nat):Int):=(by rw [wrap_i64] <;> omega);have ht:List.take (nn - 4) (qd o.l) = qd (o.l.take (nn - 4)):=vK _ _;have hle:((nn - 4:Nat):Int)≤(nn:Int):=(by omega);have hsl:=KT o2;generalize ku o2 = o3 at *;generalize o.l.take (nn - 4) = o4 at *;obtain ⟨n4,hn4⟩:∃ n4,n4 = nn - 4:=⟨_,rfl⟩;rw [← hn4] at *;simp [k1,k2,k5,k6,k7,k8,qk,sf,sc,jL,qQ,ve,vj,kY,c7,hqm,hp,c8,c9',Q0,ht,hle,t2,t4,hnn.symm];exact ⟨.of o3,by rw [Sl.of_l];omega,rfl⟩
      ·have c9':¬ (4:Int) < (nn:Int):=(by omega);simp [k1,k2,k5,k6,k7,k8,qk,sf,sc,jL,qQ,ve,vj,kY,c7,hqm,hp,c8,c9'];exact ⟨o,ho,by rw [← hnn]⟩
     ·have c8':¬ (0:Int) < (z2.length:Int):=(by omega);simp [k1,k2,k5,k6,k7,k8,qk,sf,sc,jL,qQ,ve,vj,kY,c7,hqm,hp,c8];exact ⟨o,ho,by rw [← hnn]⟩
    ·obtain ⟨o,ho,hp⟩:=tailE (.of L') (by rw [Sl.of_l];exact hB) E hE hEn;simp only [Sl.of_l,Sl.of_nil,ve] at hp;obtain ⟨nn,hnn⟩:∃ nn,nn = o.l.length:=⟨_,rfl⟩;rw [← hnn] at hp;by_cases c8:0 < z2.length
     ·have c8':(0:Int) < (z2.length:Int):=(by omega);by_cases c9:4 < nn
      ·have c9':(4:Int) < (nn:Int):=(by omega);obtain ⟨o2,t1,t2,t3,t4⟩:=tail o ho nn hnn c9 c8;have Q0:IntKind.i64.wrap ((nn:Int) - 4) = ((nn - 4:Nat):Int):=(by rw [wrap_i64] <;> omega);have ht:List.take (nn - 4) (qd o.l) = qd (o.l.take (nn - 4)):=vK _ _;have hle:((nn - 4:Nat):Int)≤(nn:Int):=(by omega);have hsl:=KT o2;generalize ku o2 = o3 at *;generalize o.l.take (nn - 4) = o4 at *;obtain ⟨n4,hn4⟩:∃ n4,n4 = nn - 4:=⟨_,rfl⟩;rw [← hn4] at *;simp [k1,k2,k5,k6,k7,k8,qk,sc,jL,qQ,ve,vj,kY,c7,hp,c8,c9',Q0,ht,hle,t2,t4,hnn.symm];exact ⟨.of o3,by rw [Sl.of_l];omega,rfl⟩
      ·have c9':¬ (4:Int) < (nn:Int):=(by omega);simp [k1,k2,k5,k6,k7,k8,qk,sc,jL,qQ,ve,vj,kY,c7,hp,c8,c9'];exact ⟨o,ho,by rw [← hnn]⟩
     ·have c8':¬ (0:Int) < (z2.length:Int):=(by omega);simp [k1,k2,k5,k6,k7,k8,qk,sc,jL,qQ,ve,vj,kY,c7,hp,c8];exact ⟨o,ho,by rw [← hnn]⟩
end Go.Ev.S
