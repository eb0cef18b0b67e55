import Derived.Test.YtkfojmihnjnhfaaGreatDoorC6
namespace Go.Ev.S
open Go Go.Proofs Go.Ev
theorem qmM:∀ (k:Nat) (r:List UInt8) (out:List It),(Zz k r out).1.length≤out.length+k
 | 0,r,out=>by
  unfold Zz;split
  ·split <;> simp
  ·simp
 | k+1,r,out=>by
  rw [Zz];split
  ·simp
  ·split
   ·have:=qmM k (r.drop (4+leN (r.take 4))) (out ++ [ju ((r.drop 4).take (leN (r.take 4)))]);rw [qC] at this;simp only [qG,qX] at this;omega
   ·simp
theorem qmK (b:List UInt8):(vP b).1.length≤64:=by
 unfold vP qam
 repeat' split
 all_goals first | (simp;done) | skip
 have:=qmM (leN (((b.take (b.length - 4)).drop 4).take 2)) ((b.take (b.length - 4)).drop 6) [];simp only [qX] at this;omega
theorem qkM:∀ (k:Nat) (r:List UInt8) (out:List Mk),(J5 k r out).1.length≤out.length+k
 | 0,r,out=>by simp [J5]
 | k+1,r,out=>by
  rw [J5];split
  ·simp
  ·split
   ·simp
   ·split
    ·simp
    ·have:=qkM k (r.drop 40) (out ++ [Jf r]);rw [qC] at this;simp only [qG,qX] at this;omega
theorem qrS (b:List UInt8):(vi b).1.length≤4:=by
 unfold vi;split
 ·simp
 ·split
  ·simp
  ·rename_i c r h;have:=qkM c.toNat r [];simp only [qX] at this;omega
theorem qmL:∀ (k:Nat) (r:List UInt8) (out:List It),(Zz k r out).2.1.length≤4
 | 0,r,out=>by
  unfold Zz;split
  ·split
   ·simp
   ·exact qrS r
  ·simp
 | k+1,r,out=>by
  rw [Zz];split
  ·simp
  ·split
   ·exact qmL k _ _
   ·simp
theorem qmJ (b:List UInt8):(vP b).2.1.length≤4:=by
 unfold vP qam
 repeat' split
 all_goals first | (simp;done) | skip
 exact qmL _ _ _
structure RSt where
 ep:Int
 la:Int
 its:List It
 mks:Sl Mk
def RSt.A (s:RSt) (d:D):List D:=[.int .u64 s.ep,.int .u64 s.la,d,(.vsl s.mks.nil (qh s.mks.l) s.mks.l.length)]
def Shp (L:List It) (d:D) (T:qi):Prop:=(L = []∧d = .vsl true [] 0∧T = [])∨(L≠[]∧∃ n k,n = L.length * 39∧k = L.length∧d = .osl 1 n 0 k 39∧T = [some (qh L)])
def JM:List It→List Mk→Option (List Mk)
 | [],m=>some m
 | x :: l,m=>if Kb m x = 0 then JM l (KK m x false) else none
theorem qgJ (m:List Mk) (x:It) (o:Bool):(KK m x o).length≤m.length+1:=qsk _ _
def qav (s:RSt) (n:Int) (g:List It × List Mk × Int):Int × RSt :=
 if g.2.2≠0 then (400,s)
 else match JM g.1 s.mks.l with
  | none=>(400,s)
  | some m=>if (kH m g.2.1 && kH s.mks.l g.2.1) = true then (200,⟨s.ep,n,s.its ++ g.1,Sl.grown g.2.1⟩) else (400,s)
def jr (s:RSt) (q:Rq):Int × RSt :=
 if s.ep < q.epoch then (409,s)
 else if q.number = s.la∧q.number≠0 then (200,s)
 else if q.number≠IntKind.u64.wrap (s.la+1)∨q.number = 0 then (409,s)
 else qav s q.number (vP q.body.l)
def BatQ2 (s:RSt) (q:Rq) (r:D × qi):Prop:= ∃ d' T',Shp (jr s q).2.its d' T'∧r = (.int .i64 (jr s q).1,some ((jr s q).2.A d') :: T')
theorem BatQ2.mk {s s':RSt} {q:Rq} {c:Int} {d':D} {T':qi} (hb:jr s q = (c,s')) (hs:Shp s'.its d' T'):BatQ2 s q (.int .i64 c,some (s'.A d') :: T'):=⟨d',T',by rw [hb];exact hs,by rw [hb]⟩
set_option maxHeartbeats 8000000 in
set_option maxRecDepth 8000 in
theorem qrY [MaxL] (s:RSt) (q:Rq) (hq:q.body.l.length < 1000000) (hm:s.mks.l.length≤1000000) (hL:s.its.length≤1000000000) (d:D) (T:qi) (zY:Shp s.its d T) :
  ∃ r,call cx 36 [.optr 0 4 0,.agg (Enc.cells q)] (some (s.A d) :: T) = some r∧BatQ2 s q r:=by
 obtain ⟨ep,la,its,mk⟩:=s;obtain ⟨p,e,n,o⟩:=q;simp only at hq hm hL zY;have hg:=qpi o hq;have vu:=qmK o.l;have Vk:=qmJ o.l;obtain ⟨w1,qO⟩:∃ w1,IntKind.u64.wrap (la+1) = w1:=⟨_,rfl⟩;rcases zY with ⟨rfl,rfl,rfl⟩ | ⟨qt,n1,k1,zO,hk1,rfl,rfl⟩
 ·refine vH (X:=cx) (f:=36) (args:=[.optr 0 4 0,.agg [.str p,.int .u64 e,.int .u64 n,(.vsl o.nil (qd o.l) o.l.length)]]) (H:=[some [.int .u64 ep,.int .u64 la,.vsl true [] 0,(.vsl mk.nil (qh mk.l) mk.l.length)]]) (BatQ2 ⟨ep,la,[],mk⟩ ⟨p,e,n,o⟩) Tryz.func36 rfl ⟨rfl,rfl⟩ ?_;by_cases c1:ep < e
  ·have hb:jr ⟨ep,la,[],mk⟩ ⟨p,e,n,o⟩ = (409,⟨ep,la,[],mk⟩):=(by unfold jr;rw [if_pos c1]);simp [Tryz.f36,c1];exact BatQ2.mk hb (.inl ⟨rfl,rfl,rfl⟩)
  by_cases c2:n = la∧n≠0
  ·have hb:jr ⟨ep,la,[],mk⟩ ⟨p,e,n,o⟩ = (200,⟨ep,la,[],mk⟩):=(by unfold jr;rw [if_neg c1,if_pos c2]);obtain ⟨rfl,c3⟩:=c2;simp [Tryz.f36,c1,c3];exact BatQ2.mk hb (.inl ⟨rfl,rfl,rfl⟩)
  by_cases c3:n≠w1∨n = 0
  ·have hb:jr ⟨ep,la,[],mk⟩ ⟨p,e,n,o⟩ = (409,⟨ep,la,[],mk⟩):=(by unfold jr;simp only;rw [if_neg c1,if_neg c2,if_pos (by rw [qO];exact c3)]);by_cases c4:n = la
   ·have c5:n = 0:=qdj fun h=>c2 ⟨c4,h⟩;subst c4;subst c5;by_cases c6:(0:Int) = w1
    ·simp [Tryz.f36,c1];exact BatQ2.mk hb (.inl ⟨rfl,rfl,rfl⟩)
    ·simp [Tryz.f36,c1];exact BatQ2.mk hb (.inl ⟨rfl,rfl,rfl⟩)
   ·by_cases c6:n = w1
    ·have c5:n = 0:=c3.resolve_left fun h=>h c6;subst c6;subst c5;simp [Tryz.f36,c1,qO,c4];exact BatQ2.mk hb (.inl ⟨rfl,rfl,rfl⟩)
    ·simp [Tryz.f36,c1,qO,c4,c6];exact BatQ2.mk hb (.inl ⟨rfl,rfl,rfl⟩)
  have c4:¬ n = la:=fun h=>c2 ⟨h,fun h0=>c3 (.inr h0)⟩;have c5:n = w1:=qdj fun h=>c3 (.inl h);have c6:¬ n = 0:=fun h=>c3 (.inr h)
  have hB:jr ⟨ep,la,[],mk⟩ ⟨p,e,n,o⟩ = qav ⟨ep,la,[],mk⟩ n (vP o.l):=by
   unfold jr;simp only;rw [if_neg c1,if_neg c2,if_neg (by rw [qO];exact c3)]
  unfold jl at hg;obtain ⟨⟨l,en,c⟩,hgp⟩:∃ g,g = vP o.l:=⟨_,rfl⟩;rw [← hgp] at hg vu Vk hB;unfold qav at hB;simp only at hg vu Vk hB;clear hgp;obtain ⟨lS,KX⟩:∃ lS,lS = Sl.grown l:=⟨_,rfl⟩;obtain ⟨E,hE⟩:∃ E,E = Sl.grown en:=⟨_,rfl⟩;have qbl:lS.l = l:=by rw [KX];rfl
  have JK:E.l = en:=by rw [hE];rfl
  rw [← KX,← hE,qbl,JK] at hg;subst c5;by_cases c7:c = 0
  case neg =>
   rw [if_pos c7] at hB;simp [Tryz.f36,c1,qO,c4,c6,hg,c7];exact BatQ2.mk hB (.inl ⟨rfl,rfl,rfl⟩)
  rw [if_neg (fun h=>h c7)] at hB;simp [Tryz.f36,c1,qO,c4,c6,hg,c7]
  refine Run.loopThen (fun (k:Nat × Sl Mk) e' H=>k.1≤l.length∧k.2.l.length≤mk.l.length+k.1∧JM (l.drop k.1) k.2.l = JM l mk.l∧(H = [some [.int .u64 ep,.int .u64 la,.vsl true [] 0,(.vsl mk.nil (qh mk.l) mk.l.length)],some [.str p,.int .u64 e,.int .u64 n,(.vsl o.nil (qd o.l) o.l.length)]]∨∃ w,H = [some [.int .u64 ep,.int .u64 la,.vsl true [] 0,(.vsl mk.nil (qh mk.l) mk.l.length)],some [.str p,.int .u64 e,.int .u64 n,(.vsl o.nil (qd o.l) o.l.length)],w]) ∧
   qf e' 0 = some (.optr 0 4 0)∧qf e' 3 = some (.optr 1 4 0)∧qf e' 5 = some (.vsl lS.nil (qh l) l.length)∧qf e' 6 = some (.vsl E.nil (qh en) en.length)∧qf e' 8 = some (.vsl k.2.nil (qh k.2.l) k.2.l.length)∧qf e' 59 = some (.vsl lS.nil (qh l) l.length)∧qf e' 60 = some (.int .i64 l.length)∧qf e' 61 = some (.int .i64 k.1)) (fun k=>l.length - k.1) (0,mk) ?_ ?_
  ·simp
  rintro ⟨k,t⟩ e' H ⟨hk,jH,hf,hH,k0,k3,k5,k6,k8,k59,k60,k61⟩;simp only at hk jH hf k8 k61;by_cases qg:k < l.length
  ·have qk:(k:Int) < (l.length:Int):=(by omega);have hw:IntKind.i64.wrap ((k:Int)+1) = ((k+1:Nat):Int):=(by rw [wrap_i64] <;> omega);have qM:lS.nil = false:=Sl.nn (i:=k) (by rw [qbl];exact qg);have vn:List.drop (k * 39) (qh l) = Enc.cells l[k] ++ qh (l.drop (k+1)):=It.ea qg;have qz:=qj4 t (by omega) l[k] false;have VO:39≤39+(l.length - (k+1)) * 39:=(by omega);rw [zm qg,JM] at hf;have htl2:=qgJ t.l l[k] false;generalize l[k] = x at *;by_cases c8:Kb t.l x = 0
   ·rw [if_pos c8] at hf;rw [c8] at qz;unfold KL at qz;rw [if_pos rfl] at qz;rcases hH with rfl | ⟨w,rfl⟩
    ·simp [-It.ea,k0,k3,k5,k6,k8,k59,k60,k61,qk,hw,qM,vn,qz,VO];exact ⟨k+1,by omega,by omega,.of (KK t.l x false),by rw [Sl.of_l];omega,hf,⟨rfl,rfl,rfl⟩,by omega⟩
    ·simp [-It.ea,k0,k3,k5,k6,k8,k59,k60,k61,qk,hw,qM,vn,qz,VO];exact ⟨k+1,by omega,by omega,.of (KK t.l x false),by rw [Sl.of_l];omega,hf,⟨rfl,rfl,rfl⟩,by omega⟩
   ·rw [if_neg c8] at hf;rw [← hf] at hB;unfold KL at qz;rw [if_neg c8] at qz;rcases hH with rfl | ⟨w,rfl⟩
    ·simp [-It.ea,k0,k3,k5,k6,k8,k59,k60,k61,qk,qM,vn,qz,VO,c8];exact BatQ2.mk hB (.inl ⟨rfl,rfl,rfl⟩)
    ·simp [-It.ea,k0,k3,k5,k6,k8,k59,k60,k61,qk,qM,vn,qz,VO,c8];exact BatQ2.mk hB (.inl ⟨rfl,rfl,rfl⟩)
  ·have qk:¬ (k:Int) < (l.length:Int):=(by omega);rw [zX (by omega),JM] at hf;rw [← hf] at hB;simp only at hB;have h1:=qfH t E (by omega) (by rw [JK];omega);have h2:=qfH mk E (by omega) (by rw [JK];omega);rw [JK] at h1 h2;cases c8:kH t.l en with
   | false =>
    rw [c8,Z3,if_neg (by decide)] at hB;rw [c8] at h1;rcases hH with rfl | ⟨w,rfl⟩
    ·simp [k0,k3,k5,k6,k8,k59,k60,k61,qk,h1];exact BatQ2.mk hB (.inl ⟨rfl,rfl,rfl⟩)
    ·simp [k0,k3,k5,k6,k8,k59,k60,k61,qk,h1];exact BatQ2.mk hB (.inl ⟨rfl,rfl,rfl⟩)
   | true =>
    rw [c8] at h1;cases c9:kH mk.l en with
    | false =>
     rw [c8,c9,vS,if_neg (by decide)] at hB;rw [c9] at h2;rcases hH with rfl | ⟨w,rfl⟩
     ·simp [k0,k3,k5,k6,k8,k59,k60,k61,qk,h1,h2];exact BatQ2.mk hB (.inl ⟨rfl,rfl,rfl⟩)
     ·simp [k0,k3,k5,k6,k8,k59,k60,k61,qk,h1,h2];exact BatQ2.mk hB (.inl ⟨rfl,rfl,rfl⟩)
    | true =>
     rw [c8,c9,vS,if_pos rfl] at hB;rw [c9] at h2;subst hE;by_cases jL:l = []
     ·subst jL;have QO:lS.nil = true:=(by rw [KX];rfl);have kj:¬ (k:Int) < 0:=by omega
      skip
      rcases hH with rfl | ⟨w,rfl⟩
      ·simp [k0,k3,k5,k6,k8,k59,k60,k61,h1,h2,QO,kj];exact BatQ2.mk hB (.inl ⟨rfl,rfl,rfl⟩)
      ·simp [k0,k3,k5,k6,k8,k59,k60,k61,h1,h2,QO,kj];exact BatQ2.mk hB (.inl ⟨rfl,rfl,rfl⟩)
     ·have QO:lS.nil = false:=(by rw [KX];exact List.isEmpty_eq_false_iff.2 jL);have hb1:l.length * 104≤140737488355328:=(by omega);have zE:l.length≤140737488355328:=(by omega);have ja:¬ l.length = 0:=fun h=>jL (VX h);rcases hH with rfl | ⟨w,rfl⟩
      ·simp [k0,k3,k5,k6,k8,k59,k60,k61,qk,h1,h2,QO,qI,hb1,zE,ja,qca,qcj];exact BatQ2.mk hB (.inr ⟨jL,_,_,rfl,rfl,rfl,rfl⟩)
      ·simp [k0,k3,k5,k6,k8,k59,k60,k61,qk,h1,h2,QO,qI,hb1,zE,ja,qca,qcj];exact BatQ2.mk hB (.inr ⟨jL,_,_,rfl,rfl,rfl,rfl⟩)
 ·refine vH (X:=cx) (f:=36) (args:=[.optr 0 4 0,.agg [.str p,.int .u64 e,.int .u64 n,(.vsl o.nil (qd o.l) o.l.length)]]) (H:=[some [.int .u64 ep,.int .u64 la,.osl 1 n1 0 k1 39,(.vsl mk.nil (qh mk.l) mk.l.length)],some (qh its)]) (BatQ2 ⟨ep,la,its,mk⟩ ⟨p,e,n,o⟩) Tryz.func36 rfl ⟨rfl,rfl⟩ ?_;by_cases c1:ep < e
  ·have hb:jr ⟨ep,la,its,mk⟩ ⟨p,e,n,o⟩ = (409,⟨ep,la,its,mk⟩):=(by unfold jr;rw [if_pos c1]);simp [Tryz.f36,c1];exact BatQ2.mk hb (.inr ⟨qt,n1,k1,zO,hk1,rfl,rfl⟩)
  by_cases c2:n = la∧n≠0
  ·have hb:jr ⟨ep,la,its,mk⟩ ⟨p,e,n,o⟩ = (200,⟨ep,la,its,mk⟩):=(by unfold jr;rw [if_neg c1,if_pos c2]);obtain ⟨rfl,c3⟩:=c2;simp [Tryz.f36,c1,c3];exact BatQ2.mk hb (.inr ⟨qt,n1,k1,zO,hk1,rfl,rfl⟩)
  by_cases c3:n≠w1∨n = 0
  ·have hb:jr ⟨ep,la,its,mk⟩ ⟨p,e,n,o⟩ = (409,⟨ep,la,its,mk⟩):=(by unfold jr;simp only;rw [if_neg c1,if_neg c2,if_pos (by rw [qO];exact c3)]);by_cases c4:n = la
   ·have c5:n = 0:=qdj fun h=>c2 ⟨c4,h⟩;subst c4;subst c5;by_cases c6:(0:Int) = w1
    ·simp [Tryz.f36,c1];exact BatQ2.mk hb (.inr ⟨qt,n1,k1,zO,hk1,rfl,rfl⟩)
    ·simp [Tryz.f36,c1];exact BatQ2.mk hb (.inr ⟨qt,n1,k1,zO,hk1,rfl,rfl⟩)
   ·by_cases c6:n = w1
    ·have c5:n = 0:=c3.resolve_left fun h=>h c6;subst c6;subst c5;simp [Tryz.f36,c1,qO,c4];exact BatQ2.mk hb (.inr ⟨qt,n1,k1,zO,hk1,rfl,rfl⟩)
    ·simp [Tryz.f36,c1,qO,c4,c6];exact BatQ2.mk hb (.inr ⟨qt,n1,k1,zO,hk1,rfl,rfl⟩)
  have c4:¬ n = la:=fun h=>c2 ⟨h,fun h0=>c3 (.inr h0)⟩;have c5:n = w1:=qdj fun h=>c3 (.inl h);have c6:¬ n = 0:=fun h=>c3 (.inr h)
  have hB:jr ⟨ep,la,its,mk⟩ ⟨p,e,n,o⟩ = qav ⟨ep,la,its,mk⟩ n (vP o.l):=by
   unfold jr;simp only;rw [if_neg c1,if_neg c2,if_neg (by rw [qO];exact c3)]
  unfold jl at hg;obtain ⟨⟨l,en,c⟩,hgp⟩:∃ g,g = vP o.l:=⟨_,rfl⟩;rw [← hgp] at hg vu Vk hB;unfold qav at hB;simp only at hg vu Vk hB;clear hgp;obtain ⟨lS,KX⟩:∃ lS,lS = Sl.grown l:=⟨_,rfl⟩;obtain ⟨E,hE⟩:∃ E,E = Sl.grown en:=⟨_,rfl⟩;have qbl:lS.l = l:=by rw [KX];rfl
  have JK:E.l = en:=by rw [hE];rfl
  rw [← KX,← hE,qbl,JK] at hg;subst c5;by_cases c7:c = 0
  case neg =>
   rw [if_pos c7] at hB;simp [Tryz.f36,c1,qO,c4,c6,hg,c7];exact BatQ2.mk hB (.inr ⟨qt,n1,k1,zO,hk1,rfl,rfl⟩)
  rw [if_neg (fun h=>h c7)] at hB;simp [Tryz.f36,c1,qO,c4,c6,hg,c7]
  refine Run.loopThen (fun (k:Nat × Sl Mk) e' H=>k.1≤l.length∧k.2.l.length≤mk.l.length+k.1∧JM (l.drop k.1) k.2.l = JM l mk.l∧(H = [some [.int .u64 ep,.int .u64 la,.osl 1 n1 0 k1 39,(.vsl mk.nil (qh mk.l) mk.l.length)],some (qh its),some [.str p,.int .u64 e,.int .u64 n,(.vsl o.nil (qd o.l) o.l.length)]]∨∃ w,H = [some [.int .u64 ep,.int .u64 la,.osl 1 n1 0 k1 39,(.vsl mk.nil (qh mk.l) mk.l.length)],some (qh its),some [.str p,.int .u64 e,.int .u64 n,(.vsl o.nil (qd o.l) o.l.length)],w]) ∧
   qf e' 0 = some (.optr 0 4 0)∧qf e' 3 = some (.optr 2 4 0)∧qf e' 5 = some (.vsl lS.nil (qh l) l.length)∧qf e' 6 = some (.vsl E.nil (qh en) en.length)∧qf e' 8 = some (.vsl k.2.nil (qh k.2.l) k.2.l.length)∧qf e' 59 = some (.vsl lS.nil (qh l) l.length)∧qf e' 60 = some (.int .i64 l.length)∧qf e' 61 = some (.int .i64 k.1)) (fun k=>l.length - k.1) (0,mk) ?_ ?_
  ·simp
  rintro ⟨k,t⟩ e' H ⟨hk,jH,hf,hH,k0,k3,k5,k6,k8,k59,k60,k61⟩;simp only at hk jH hf k8 k61;by_cases qg:k < l.length
  ·have qk:(k:Int) < (l.length:Int):=(by omega);have hw:IntKind.i64.wrap ((k:Int)+1) = ((k+1:Nat):Int):=(by rw [wrap_i64] <;> omega);have qM:lS.nil = false:=Sl.nn (i:=k) (by rw [qbl];exact qg);have vn:List.drop (k * 39) (qh l) = Enc.cells l[k] ++ qh (l.drop (k+1)):=It.ea qg;have qz:=qj4 t (by omega) l[k] false;have VO:39≤39+(l.length - (k+1)) * 39:=(by omega);rw [zm qg,JM] at hf;have htl2:=qgJ t.l l[k] false;generalize l[k] = x at *;by_cases c8:Kb t.l x = 0
   ·rw [if_pos c8] at hf;rw [c8] at qz;unfold KL at qz;rw [if_pos rfl] at qz;rcases hH with rfl | ⟨w,rfl⟩
    ·simp [-It.ea,k0,k3,k5,k6,k8,k59,k60,k61,qk,hw,qM,vn,qz,VO];exact ⟨k+1,by omega,by omega,.of (KK t.l x false),by rw [Sl.of_l];omega,hf,⟨rfl,rfl,rfl⟩,by omega⟩
    ·simp [-It.ea,k0,k3,k5,k6,k8,k59,k60,k61,qk,hw,qM,vn,qz,VO];exact ⟨k+1,by omega,by omega,.of (KK t.l x false),by rw [Sl.of_l];omega,hf,⟨rfl,rfl,rfl⟩,by omega⟩
   ·rw [if_neg c8] at hf;rw [← hf] at hB;unfold KL at qz;rw [if_neg c8] at qz;rcases hH with rfl | ⟨w,rfl⟩
    ·simp [-It.ea,k0,k3,k5,k6,k8,k59,k60,k61,qk,qM,vn,qz,VO,c8];exact BatQ2.mk hB (.inr ⟨qt,n1,k1,zO,hk1,rfl,rfl⟩)
    ·simp [-It.ea,k0,k3,k5,k6,k8,k59,k60,k61,qk,qM,vn,qz,VO,c8];exact BatQ2.mk hB (.inr ⟨qt,n1,k1,zO,hk1,rfl,rfl⟩)
  ·have qk:¬ (k:Int) < (l.length:Int):=(by omega);rw [zX (by omega),JM] at hf;rw [← hf] at hB;simp only at hB;have h1:=qfH t E (by omega) (by rw [JK];omega);have h2:=qfH mk E (by omega) (by rw [JK];omega);rw [JK] at h1 h2;cases c8:kH t.l en with
   | false =>
    rw [c8,Z3,if_neg (by decide)] at hB;rw [c8] at h1;rcases hH with rfl | ⟨w,rfl⟩
    ·simp [k0,k3,k5,k6,k8,k59,k60,k61,qk,h1];exact BatQ2.mk hB (.inr ⟨qt,n1,k1,zO,hk1,rfl,rfl⟩)
    ·simp [k0,k3,k5,k6,k8,k59,k60,k61,qk,h1];exact BatQ2.mk hB (.inr ⟨qt,n1,k1,zO,hk1,rfl,rfl⟩)
   | true =>
    rw [c8] at h1;cases c9:kH mk.l en with
    | false =>
     rw [c8,c9,vS,if_neg (by decide)] at hB;rw [c9] at h2;rcases hH with rfl | ⟨w,rfl⟩
     ·simp [k0,k3,k5,k6,k8,k59,k60,k61,qk,h1,h2];exact BatQ2.mk hB (.inr ⟨qt,n1,k1,zO,hk1,rfl,rfl⟩)
     ·simp [k0,k3,k5,k6,k8,k59,k60,k61,qk,h1,h2];exact BatQ2.mk hB (.inr ⟨qt,n1,k1,zO,hk1,rfl,rfl⟩)
    | true =>
     rw [c8,c9,vS,if_pos rfl] at hB;rw [c9] at h2;subst hE;by_cases jL:l = []
     ·subst jL;have QO:lS.nil = true:=(by rw [KX];rfl);have kj:¬ (k:Int) < 0:=(by omega);have hle:(qh its).length = n1:=(by rw [It.el,zO]);have zj:k1 * 39 = n1:=(by rw [hk1,zO]);have hb1:k1 * 104≤140737488355328:=(by omega);have zE:k1≤140737488355328:=(by omega);rw [Z2] at hB;rcases hH with rfl | ⟨w,rfl⟩
      ·simp [k0,k3,k5,k6,k8,k59,k60,k61,h1,h2,QO,kj,qI,hb1,zE,hle,zj];exact BatQ2.mk hB (.inr ⟨qt,n1,k1,zO,hk1,rfl,rfl⟩)
      ·simp [k0,k3,k5,k6,k8,k59,k60,k61,h1,h2,QO,kj,qI,hb1,zE,hle,zj];exact BatQ2.mk hB (.inr ⟨qt,n1,k1,zO,hk1,rfl,rfl⟩)
     ·have QO:lS.nil = false:=(by rw [KX];exact List.isEmpty_eq_false_iff.2 jL);have hle:(qh its).length = n1:=(by rw [It.el,zO]);have zj:k1 * 39 = n1:=(by rw [hk1,zO]);have hb1:(k1+l.length) * 104≤140737488355328:=(by omega);have zE:k1+l.length≤140737488355328:=(by omega);have ZK:List.take (l.length * 39) (qh l) = qh l:=qx (by rw [It.el];omega);rcases hH with rfl | ⟨w,rfl⟩
      ·simp [k0,k3,k5,k6,k8,k59,k60,k61,qk,h1,h2,QO,qI,hb1,zE,hle,zj];exact BatQ2.mk hB (.inr ⟨by simp [qt],_,_,by rw [qC,vR,zO],by rw [qC,hk1],rfl,by rw [qb2]⟩)
      ·simp [k0,k3,k5,k6,k8,k59,k60,k61,qk,h1,h2,QO,qI,hb1,zE,hle,zj];exact BatQ2.mk hB (.inr ⟨by simp [qt],_,_,by rw [qC,vR,zO],by rw [qC,hk1],rfl,by rw [qb2]⟩)
theorem qzd [MaxL] [TxtC] (s p:List UInt8) (hs:s.length < 1000000) (hp:p.length < 1000000):call cx 126 [.str s,.str p] [] = some (.tup [.str (if pre p s then s.drop p.length else s),.bool (pre p s)],[]):=by
 have h:=qlf s p hs hp
 have h2:call cx 155 [.str s,.str p] [] = some (.tup [.str (if pre p s then s.drop p.length else s),.bool (pre p s)],[]):=by
  refine qs Tryz.func155 rfl ⟨rfl,rfl⟩ ?_;cases hq:pre p s with
  | true =>
   have:=qla hq;have g:(p.length:Int)≤(s.length:Int):=(by omega);rw [hq] at h;simp [Tryz.f155,h,g];exact qx (by simp)
  | false =>
   rw [hq] at h;simp [Tryz.f155,h]
 refine qs Tryz.func126 rfl ⟨rfl,rfl⟩ ?_;simp [Tryz.f126,h2]
theorem qiE [MaxL] [TxtC] (v:Nat) (hv:v < 18446744073709551616):call cx 130 [.int .u64 v] [] = some (.str (qE v),[]):=by
 have h:=qix v hv;refine qs Tryz.func130 rfl ⟨rfl,rfl⟩ ?_;simp [Tryz.f130,h]
theorem qm8 [MaxL] [TxtC] (b:List UInt8) (hb:b.length≤1000) (e n l:Nat) (he:e < 18446744073709551616) (hn:n < 18446744073709551616) (hl:l < 18446744073709551616) :
  call cx 86 [.str b,.int .u64 e,.int .u64 n,.int .u64 l] [] = some (.str (b ++ vk e n l),[]):=by
 have h1:=qiE e he;have h2:=qiE n hn;have h3:=qiE l hl;have l1:=kP e;have l2:=kP n;have l3:=kP l;unfold vk;generalize qE e = x at *;generalize qE n = y at *;generalize qE l = z at *;clear he hn hl;obtain ⟨s1,es1⟩:∃ s,s = b ++ epochL:=⟨_,rfl⟩;have ls1:s1.length = b.length+epochL.length:=by rw [es1,qC]
 obtain ⟨s2,es2⟩:∃ s,s = s1 ++ x:=⟨_,rfl⟩;have ls2:s2.length = s1.length+x.length:=by rw [es2,qC]
 obtain ⟨s3,es3⟩:∃ s,s = s2 ++ crlf:=⟨_,rfl⟩;have ls3:s3.length = s2.length+crlf.length:=by rw [es3,qC]
 obtain ⟨s4,es4⟩:∃ s,s = s3 ++ numberL:=⟨_,rfl⟩;have ls4:s4.length = s3.length+numberL.length:=by rw [es4,qC]
 obtain ⟨s5,es5⟩:∃ s,s = s4 ++ y:=⟨_,rfl⟩;have ls5:s5.length = s4.length+y.length:=by rw [es5,qC]
 obtain ⟨s6,es6⟩:∃ s,s = s5 ++ crlf:=⟨_,rfl⟩;have ls6:s6.length = s5.length+crlf.length:=by rw [es6,qC]
 obtain ⟨s7,es7⟩:∃ s,s = s6 ++ lengthL:=⟨_,rfl⟩;have ls7:s7.length = s6.length+lengthL.length:=by rw [es7,qC]
 obtain ⟨s8,es8⟩:∃ s,s = s7 ++ z:=⟨_,rfl⟩;have ls8:s8.length = s7.length+z.length:=by rw [es8,qC]
 obtain ⟨s9,es9⟩:∃ s,s = s8 ++ crlf:=⟨_,rfl⟩;have ls9:s9.length = s8.length+crlf.length:=by rw [es9,qC]
 obtain ⟨s10,es10⟩:∃ s,s = s9 ++ crlf:=⟨_,rfl⟩;have ls10:s10.length = s9.length+crlf.length:=by rw [es10,qC]
 simp only [epochL,numberL,lengthL,crlf,qG,qX] at ls1 ls2 ls3 ls4 ls5 ls6 ls7 ls8 ls9 ls10;have cs1:=jn es1 (by (try simp only [epochL,qG,qX]);omega);have cs2:=jn es2 (by (try simp only [epochL,numberL,lengthL,crlf,qG,qX]);omega);have cs3:=jn es3 (by (try simp only [crlf,qG,qX]);omega);have cs4:=jn es4 (by (try simp only [numberL,qG,qX]);omega);have cs5:=jn es5 (by (try simp only [epochL,numberL,lengthL,crlf,qG,qX]);omega);have cs6:=jn es6 (by (try simp only [crlf,qG,qX]);omega);have cs7:=jn es7 (by (try simp only [lengthL,qG,qX]);omega);have cs8:=jn es8 (by (try simp only [epochL,numberL,lengthL,crlf,qG,qX]);omega);have cs9:=jn es9 (by (try simp only [crlf,qG,qX]);omega);have cs10:=jn es10 (by (try simp only [crlf,qG,qX]);omega);simp only [epochL,numberL,lengthL,crlf] at cs1 cs2 cs3 cs4 cs5 cs6 cs7 cs8 cs9 cs10
 have QQ:b ++ (epochL ++ (x ++ (crlf ++ (numberL ++ (y ++ (crlf ++ (lengthL ++ (z ++ (crlf ++ crlf))))))))) = s10:=by
  simp [es10,es9,es8,es7,es6,es5,es4,es3,es2,es1]
 rw [QQ];clear QQ es1 es2 es3 es4 es5 es6 es7 es8 es9 es10 ls1 ls2 ls3 ls4 ls5 ls6 ls7 ls8 ls9 ls10 l1 l2 l3 hb;refine qs Tryz.func86 rfl ⟨rfl,rfl⟩ ?_;simp [Tryz.f86,h1,h2,h3,-Go.Ev.strD,cs1,cs2,cs3,cs4,cs5,cs6,cs7,cs8,cs9,cs10]
def Xu (b:List UInt8) (e n:Nat) (body:List UInt8):Sl UInt8:=if 65536 < body.length then .none else .of (b ++ (vk e n body.length ++ body))
theorem qsh [MaxL] [TxtC] (b:List UInt8) (hb:b.length≤1000) (e n:Nat) (he:e < 18446744073709551616) (hn:n < 18446744073709551616) (body:Sl UInt8) (hl:body.l.length≤100000) :
  call cx 52 [.str b,.int .u64 e,.int .u64 n,(.vsl body.nil (qd body.l) body.l.length)] [] = some ((.vsl (Xu b e n body.l).nil (qd (Xu b e n body.l).l) (Xu b e n body.l).l.length),[]):=by
 refine qs Tryz.func52 rfl ⟨rfl,rfl⟩ ?_;unfold Xu;by_cases h:65536 < body.l.length
 ·have h':(65536:Int) < (body.l.length:Int):=by omega
  simp [Tryz.f52,h,h']
 ·have h':¬ (65536:Int) < (body.l.length:Int):=by omega
  have h1:=qm8 b hb e n body.l.length he hn (by omega);have hw:IntKind.u64.wrap (body.l.length:Int) = (body.l.length:Int):=by rw [qU];omega
  have hx:=qdP e n body.l.length;generalize vk e n body.l.length = x at *;have hm:b.length+(x.length+body.l.length)≤qI:=by unfold qI;omega
  simp [Tryz.f52,h,h',h1,hw,hm,V5,qx,Vz]
def postL:List UInt8:=[80,79,83,84,32]
def httpL:List UInt8:=[32,72,84,84,80,47,49,46,49]
def hostL:List UInt8:=[72,111,115,116,58,32,114,101,99,101,105,118,101,114]
def ctypeL:List UInt8:=[67,111,110,116,101,110,116,45,84,121,112,101,58,32,97,112,112,108,105,99,97,116,105,111,110,47,118,110,100,46,102,100,111,46,106,111,117,114,110,97,108]
def jZ (p:List UInt8):List UInt8:=postL ++ (p ++ (httpL ++ (crlf ++ (hostL ++ (crlf ++ (ctypeL ++ crlf))))))
theorem q0y (p:List UInt8):(jZ p).length = p.length+75:=by
 simp [jZ,postL,httpL,hostL,ctypeL,crlf]
theorem qo2 [MaxL] [TxtC] (p:List UInt8) (hp:p.length≤100):call cx 50 [.str p] [] = some (.str (jZ p),[]):=by
 obtain ⟨s1,es1⟩:∃ s,s = postL ++ p:=⟨_,rfl⟩;have ls1:s1.length = postL.length+p.length:=by rw [es1,qC]
 obtain ⟨s2,es2⟩:∃ s,s = s1 ++ httpL:=⟨_,rfl⟩;have ls2:s2.length = s1.length+httpL.length:=by rw [es2,qC]
 obtain ⟨s3,es3⟩:∃ s,s = s2 ++ crlf:=⟨_,rfl⟩;have ls3:s3.length = s2.length+crlf.length:=by rw [es3,qC]
 obtain ⟨s4,es4⟩:∃ s,s = s3 ++ hostL:=⟨_,rfl⟩;have ls4:s4.length = s3.length+hostL.length:=by rw [es4,qC]
 obtain ⟨s5,es5⟩:∃ s,s = s4 ++ crlf:=⟨_,rfl⟩;have ls5:s5.length = s4.length+crlf.length:=by rw [es5,qC]
 obtain ⟨s6,es6⟩:∃ s,s = s5 ++ ctypeL:=⟨_,rfl⟩;have ls6:s6.length = s5.length+ctypeL.length:=by rw [es6,qC]
 obtain ⟨s7,es7⟩:∃ s,s = s6 ++ crlf:=⟨_,rfl⟩;have ls7:s7.length = s6.length+crlf.length:=by rw [es7,qC]
 simp only [postL,httpL,hostL,ctypeL,crlf,qG,qX] at ls1 ls2 ls3 ls4 ls5 ls6 ls7;have cs1:=jn es1 (by (try simp only [postL,qG,qX]);omega);have cs2:=jn es2 (by (try simp only [httpL,qG,qX]);omega);have cs3:=jn es3 (by (try simp only [crlf,qG,qX]);omega);have cs4:=jn es4 (by (try simp only [hostL,qG,qX]);omega);have cs5:=jn es5 (by (try simp only [crlf,qG,qX]);omega);have cs6:=jn es6 (by (try simp only [ctypeL,qG,qX]);omega);have cs7:=jn es7 (by (try simp only [crlf,qG,qX]);omega);simp only [postL,httpL,hostL,ctypeL,crlf] at cs1 cs2 cs3 cs4 cs5 cs6 cs7
 have QQ:jZ p = s7:=by
  simp [jZ,es7,es6,es5,es4,es3,es2,es1]
 rw [QQ];clear QQ es1 es2 es3 es4 es5 es6 es7 ls1 ls2 ls3 ls4 ls5 ls6 ls7 hp;refine qs Tryz.func50 rfl ⟨rfl,rfl⟩ ?_;simp [Tryz.f50,-Go.Ev.strD,cs1,cs2,cs3,cs4,cs5,cs6,cs7]
def qdM:List UInt8:=[50,48,48,32,79,75]
def qeC:List UInt8:=[52,48,48,32,66,97,100,32,82,101,113,117,101,115,116]
def qew:List UInt8:=[52,48,57,32,67,111,110,102,108,105,99,116]
def vq (n:Int):List UInt8:=[72,84,84,80,47,49,46,49,32] ++ ((if n = 400 then qeC else if n = 409 then qew else qdM) ++ [13,10])
theorem qeY [MaxL] [TxtC] (n:Int):call cx 49 [.int .i64 n] [] = some (.str (vq n),[]):=by
 refine qs Tryz.func49 rfl ⟨rfl,rfl⟩ ?_;unfold vq;by_cases h1:n = 400
 ·simp [Tryz.f49,h1,qeC]
 ·by_cases h2:n = 409
  ·simp [Tryz.f49,h2,qew]
  ·simp [Tryz.f49,h1,h2,qdM]
def jq:List UInt8:=[47,104,101,108,108,111]
def zQ:List UInt8:=[47,98,97,116,99,104]
def qcG (r:Rq):Sl UInt8:=if r.path == jq || r.path == zQ then Xu (jZ r.path) r.epoch.toNat r.number.toNat r.body.l else .none
def kc (r:Rs):Sl UInt8:=if r.status = 200∨r.status = 400∨r.status = 409 then Xu (vq r.status) r.epoch.toNat r.number.toNat r.body.l else .none
theorem qgQ (n:Int):(vq n).length≤30:=by
 unfold vq;split
 ·decide
 ·split <;> decide
theorem qdI [MaxL] [TxtC] (r:Rs) (he:qA r.epoch) (hn:qA r.number) (hb:r.body.l.length≤100000):call cx 34 [.agg (Enc.cells r)] [] = some ((.vsl (kc r).nil (qd (kc r).l) (kc r).l.length),[]):=by
 have h2:=qeY r.status;have h3:=qsh (vq r.status) (by have:=qgQ r.status;omega) r.epoch.toNat r.number.toNat (by unfold qA at he;omega) (by unfold qA at hn;omega) r.body hb;have e1:((r.epoch.toNat:Nat):Int) = r.epoch:=by unfold qA at he;omega
 have e2:((r.number.toNat:Nat):Int) = r.number:=by unfold qA at hn;omega
 rw [e1,e2] at h3;refine qs Tryz.func34 rfl ⟨rfl,rfl⟩ ?_;unfold kc;generalize Xu (vq r.status) r.epoch.toNat r.number.toNat r.body.l = x at *;by_cases a1:r.status = 200
 ·rw [a1] at h2 h3;simp [Tryz.f34,Rs.cells,a1,h2,h3]
 ·by_cases a2:r.status = 400
  ·rw [a2] at h2 h3;simp [Tryz.f34,Rs.cells,a2,h2,h3]
  ·by_cases a3:r.status = 409
   ·rw [a3] at h2 h3;simp [Tryz.f34,Rs.cells,a3,h2,h3]
   ·simp [Tryz.f34,Rs.cells,a1,a2,a3]
def Qa (line rest:List UInt8):Option (Nat × List UInt8):=match pu 10 (vh line (jO crlf rest).1) with
 | none=>none
 | some v=>some (v,(jO crlf rest).2.1)
def ke (s b:List UInt8):Option (Nat × Nat × Nat):=if pre b s then
 match Qa epochL (s.drop b.length) with
 | none=>none
 | some (x,r1)=>match Qa numberL r1 with
  | none=>none
  | some (y,r2)=>match Qa lengthL r2 with
   | none=>none
   | some (z,_)=>if b ++ vk x y z = s then some (x,y,z) else none
 else none
theorem qij [MaxL] [TxtC] (rest line:List UInt8) (hr:rest.length < 100000) (hl:line.length < 100) :
  ∃ a f,call cx 127 [.str rest,.str [13,10]] [] = some (.tup [.str a,.str (jO crlf rest).2.1,.bool f],[])∧call cx 129 [.str a,.str line] [] = some (.str (vh line a),[]) ∧
   ((∃ v,Qa line rest = some (v,(jO crlf rest).2.1)∧v < 18446744073709551616∧call cx 128 [.str (vh line a),.int .i64 10,.int .i64 64] [] = some (.tup [.int .u64 (v:Nat),.nili],[])) ∨
   (Qa line rest = none∧∃ (x:Nat) (d:List D),call cx 128 [.str (vh line a),.int .i64 10,.int .i64 64] [] = some (.tup [.int .u64 x,.iface 232 (.vptr d)],[]))):=by
 have h1:=qnR rest crlf (by omega) (by decide);have hc:=qes crlf rest;have h2:=qjz (jO crlf rest).1 line (by omega) (by omega);refine ⟨(jO crlf rest).1,(jO crlf rest).2.2,h1,h2,?_⟩;unfold Qa;have ht:=qeT line (jO crlf rest).1;rcases qhx 10 (.inl rfl) (vh line (jO crlf rest).1) (by omega) with ⟨v,e1,e2⟩ | ⟨e1,x,d,e2⟩
 ·refine .inl ⟨v,by rw [e1],?_,e2⟩;unfold pu at e1;split at e1
  ·cases e1
  ·exact qcH 10 _ _ _ (by decide) e1
 ·exact .inr ⟨by rw [e1],x,d,e2⟩
def ql2 (r0:List UInt8):Nat→Nat→Nat→Nat→List UInt8→Prop
 | 0,x,y,z,r=>x = 0∧y = 0∧z = 0∧r = r0
 | 1,x,y,z,r=>Qa epochL r0 = some (x,r)∧y = 0∧z = 0
 | 2,x,y,z,r=>z = 0∧∃ r1,Qa epochL r0 = some (x,r1)∧Qa numberL r1 = some (y,r)
 | _,x,y,z,r=>∃ r1 r2,Qa epochL r0 = some (x,r1)∧Qa numberL r1 = some (y,r2)∧Qa lengthL r2 = some (z,r)
set_option maxHeartbeats 2000000 in
theorem qtk [MaxL] [TxtC] (s b:List UInt8) (hs:s.length < 100000) (hb:b.length≤1000) :
  (∃ x y z,ke s b = some (x,y,z)∧call cx 84 [.str s,.str b] [] = some (.tup [.agg [.int .u64 (x:Nat),.int .u64 (y:Nat),.int .u64 (z:Nat)],.bool true],[])) ∨
  (ke s b = none∧∃ x y z:Nat,call cx 84 [.str s,.str b] [] = some (.tup [.agg [.int .u64 x,.int .u64 y,.int .u64 z],.bool false],[])):=by
 suffices h:∃ r,call cx 84 [.str s,.str b] [] = some r∧((∃ x y z:Nat,ke s b = some (x,y,z)∧r = (.tup [.agg [.int .u64 x,.int .u64 y,.int .u64 z],.bool true],[]))∨(ke s b = none∧∃ x y z:Nat,r = (.tup [.agg [.int .u64 x,.int .u64 y,.int .u64 z],.bool false],[]))) by
  obtain ⟨r,h1,⟨x,y,z,h2,rfl⟩ | ⟨h2,x,y,z,rfl⟩⟩:=h
  ·exact .inl ⟨x,y,z,h2,h1⟩
  ·exact .inr ⟨h2,x,y,z,h1⟩
 refine vH (fun r=>(∃ x y z:Nat,ke s b = some (x,y,z)∧r = (D.tup [.agg [.int .u64 x,.int .u64 y,.int .u64 z],.bool true],[]))∨(ke s b = none∧∃ x y z:Nat,r = (D.tup [.agg [.int .u64 x,.int .u64 y,.int .u64 z],.bool false],[]))) Tryz.func84 rfl ⟨rfl,rfl⟩ ?_;have h0:=qzd s b (by omega) (by omega);cases hp:pre b s with
 | false =>
  rw [hp] at h0;simp [Tryz.f84,h0,ke,hp];exact ⟨0,rfl⟩
 | true =>
  rw [hp,if_pos rfl] at h0
  have hN:ke s b = match Qa epochL (s.drop b.length) with
    | none=>none
    | some (x,r1)=>match Qa numberL r1 with
     | none=>none
     | some (y,r2)=>match Qa lengthL r2 with
      | none=>none
      | some (z,_)=>if b ++ vk x y z = s then some (x,y,z) else none:=by rw [ke,if_pos hp]
  obtain ⟨r0,hr0⟩:∃ r,r = s.drop b.length:=⟨_,rfl⟩;rw [← hr0] at hN h0;have hr0l:r0.length≤s.length:=by rw [hr0];simp
  simp [Tryz.f84,h0]
  refine Run.loopThen (fun (q:Nat × Nat × Nat × Nat × List UInt8) e H'=>q.1≤3∧q.2.2.2.2.length≤s.length∧q.2.1 < 18446744073709551616∧q.2.2.1 < 18446744073709551616∧q.2.2.2.1 < 18446744073709551616∧ql2 r0 q.1 q.2.1 q.2.2.1 q.2.2.2.1 q.2.2.2.2 ∧
   H' = [some [.int .u64 0,.int .u64 0,.int .u64 0],some [.int .u64 (q.2.1:Nat),.int .u64 (q.2.2.1:Nat),.int .u64 (q.2.2.2.1:Nat)],some [.str epochL,.str numberL,.str lengthL]] ∧
   qf e 0 = some (.str s)∧qf e 1 = some (.str b)∧qf e 4 = some (.optr 0 3 0)∧qf e 6 = some (.optr 1 3 0)∧qf e 7 = some (.str q.2.2.2.2)∧qf e 25 = some (.osl 2 3 0 3 1)∧qf e 26 = some (.int .i64 3)∧qf e 27 = some (.int .i64 (q.1:Nat))) (fun q=>3 - q.1) (0,0,0,0,r0) ?_ ?_
  ·simp [ql2,hr0l,epochL,numberL,lengthL]
  rintro ⟨i,x,y,z,r⟩ e H' ⟨hi,hrl,hx,hy,hz,hI,rfl,k0,k1,k4,k6,k7,k25,k26,k27⟩;simp only at hi hrl hx hy hz hI k7 k27;have hcut:=qes crlf r;have:i = 0∨i = 1∨i = 2∨i = 3:=by omega
  rcases this with rfl | rfl | rfl | rfl
  ·obtain ⟨rfl,rfl,rfl,rfl⟩:=hI;obtain ⟨a,f,c1,c2,⟨v,c3,hv,c4⟩ | ⟨c3,xx,d,c4⟩⟩:=qij r epochL (by omega) (by decide)
   ·simp [k0,k1,k4,k6,k7,k25,k26,k27,c1,c2,c4];exact ⟨1,by omega,by omega,v,0,0,_,by omega,hv,by omega,by omega,⟨c3,rfl,rfl⟩,⟨rfl,rfl,rfl⟩,rfl,rfl⟩
   ·rw [c3] at hN;simp [k0,k1,k4,k6,k7,k25,k26,k27,c1,c2,c4];exact ⟨hN,0,rfl⟩
  ·obtain ⟨Vs,rfl,rfl⟩:=hI;obtain ⟨a,f,c1,c2,⟨v,c3,hv,c4⟩ | ⟨c3,xx,d,c4⟩⟩:=qij r numberL (by omega) (by decide)
   ·simp [k0,k1,k4,k6,k7,k25,k26,k27,c1,c2,c4];exact ⟨2,by omega,by omega,x,v,0,_,by omega,hx,hv,by omega,⟨rfl,_,Vs,c3⟩,⟨rfl,rfl,rfl⟩,rfl,rfl⟩
   ·rw [Vs] at hN;simp only [c3] at hN;simp [k0,k1,k4,k6,k7,k25,k26,k27,c1,c2,c4];exact ⟨hN,⟨x,rfl⟩,0,rfl⟩
  ·obtain ⟨rfl,r1,Vs,hI2⟩:=hI;obtain ⟨a,f,c1,c2,⟨v,c3,hv,c4⟩ | ⟨c3,xx,d,c4⟩⟩:=qij r lengthL (by omega) (by decide)
   ·simp [k0,k1,k4,k6,k7,k25,k26,k27,c1,c2,c4];exact ⟨3,by omega,by omega,x,y,v,_,by omega,hx,hy,hv,⟨_,_,Vs,hI2,c3⟩,⟨rfl,rfl,rfl⟩,rfl,rfl⟩
   ·rw [Vs] at hN;simp only [hI2,c3] at hN;simp [k0,k1,k4,k6,k7,k25,k26,k27,c1,c2,c4];exact ⟨hN,⟨x,rfl⟩,⟨y,rfl⟩,0,rfl⟩
  ·obtain ⟨r1,r2,Vs,hI2,hI3⟩:=hI;rw [Vs] at hN;simp only [hI2,hI3] at hN;have hh:=qm8 b hb x y z hx hy hz;by_cases he:b ++ vk x y z = s
   ·rw [if_pos he] at hN;rw [he] at hh;simp [k0,k1,k4,k6,k7,k25,k26,k27,hh];exact ⟨x,y,z,hN,rfl,rfl,rfl⟩
   ·rw [if_neg he] at hN;have he':(b ++ vk x y z == s) = false:=(by simpa using he);generalize b ++ vk x y z = w at *;simp [k0,k1,k4,k6,k7,k25,k26,k27,hh,he'];exact ⟨hN,⟨x,rfl⟩,⟨y,rfl⟩,z,rfl⟩
def stopL:List UInt8:=[13,10,13,10]
def Z5 (s:List UInt8) (body:List UInt8):List (List UInt8)→Nat→Msg × Int
 | [],_=>(.zero,20)
 | b :: l,k=>match ke s b with
  | none=>Z5 s body l (k+1)
  | some (x,y,z)=>if 65536 < z then (.zero,21) else if body.length < z then (.zero,22) else if z < body.length then (.zero,21) else (⟨k,x,y,.of body⟩,0)
def jI (b:List UInt8) (l:List (List UInt8)):Msg × Int:=if zA stopL b 0 = -1 then (.zero,22) else Z5 (b.take ((zA stopL b 0).toNat+4)) (b.drop ((zA stopL b 0).toNat+4)) l 0
theorem qxP [MaxL] [TxtC] (b:Sl UInt8) (hb:b.l.length≤100000):call cx 83 [(.vsl b.nil (qd b.l) b.l.length),.vsl false [.int .u8 13,.int .u8 10,.int .u8 13,.int .u8 10] 4] [] = some (.int .i64 (zA stopL b.l 0),[]):=by
 refine Yw ?_;have e:[D.int .u8 13,.int .u8 10,.int .u8 13,.int .u8 10] = qd stopL:=rfl;rw [qiL,e];simp only [qcY,qgv];rw [if_pos ⟨trivial,rfl,by decide,by omega,by decide⟩]
structure StrE where
 s:List UInt8
instance:Enc StrE:=⟨1,fun p=>[.str p.s],fun _=>rfl,fun _=>rfl⟩
set_option maxHeartbeats 2000000 in
theorem qmz [MaxL] [TxtC] (b:Sl UInt8) (hb:b.l.length≤90000) (l:List (List UInt8)) (hl:l.length≤3) (jv:∀ x∈l,x.length≤1000) :
  call cx 48 [(.vsl b.nil (qd b.l) b.l.length),.vsl false (l.map D.str) l.length] [] = some (.tup [.agg (Enc.cells (jI b.l l).1),.int .i64 (jI b.l l).2],[]):=by
 have hi:=qxP b (by omega);refine qs Tryz.func48 rfl ⟨rfl,rfl⟩ ?_;unfold jI;rcases qcO stopL b.l 0 with ⟨i,h1,h2,-⟩ | h1
 ·rw [h1] at hi;rw [h1,if_neg (by omega)];have e0:((0+i:Nat):Int).toNat = i:=by omega
  rw [e0];have Qh:i+4≤b.l.length:=h2;rw [vQ] at hi;have VJ:¬ (i:Int) < 0:=by omega
  obtain ⟨j,hj⟩:∃ j,j = i+4:=⟨_,rfl⟩;have hw:IntKind.i64.wrap ((i:Int)+4) = (j:Int):=by rw [wrap_i64] <;> omega
  have g1:(j:Int)≤(b.l.length:Int):=by omega
  have g2:j≤b.l.length:=by omega
  rw [← hj];have t1:List.take j (qd b.l) = qd (b.l.take j):=kw _ _;have t2:List.drop j (qd b.l) = qd (b.l.drop j):=Ze _ _;have hsl:(b.l.take j).length = j:=by rw [js];omega
  have QT:(b.l.drop j).length = b.l.length - j:=jU ..
  have hbn:b.nil = false:=by
   cases hn:b.nil with
   | false=>rfl
   | true=>have:=b.h hn;rw [this] at g2;simp at g2;omega
  generalize b.l.take j = s at *;generalize zN:b.l.drop j = body at *;have hbl2:body.length≤90000:=by omega
  have t3:List.take (b.l.length - j) (qd body) = qd body:=qx (by simp;omega);rw [hbn] at hi;simp [Tryz.f48,hi,VJ,hw,g1,t1,t2,t3,hbn,hsl];generalize b.l.length - j = bl at *;have wb:IntKind.u64.wrap (bl:Int) = (bl:Int):=by rw [qU];omega
  have ex:∀ k x,l[k]? = some x→(l.map D.str).drop k = .str x :: (l.map D.str).drop (k+1):=fun k x hk=>by
   have qg:k < l.length:=(List.getElem?_eq_some_iff.1 hk).1;rw [zm (by simpa using qg)];congr 1;rw [zi qg] at hk;simp [qbC hk]
  refine Run.loopThen (fun (k:Nat) e H'=>k≤l.length∧Z5 s body (l.drop k) k = Z5 s body l 0 ∧
   ((H' = [some [.int .i64 0,.int .u64 0,.int .u64 0,.vsl true [] 0],some [.int .u8 13,.int .u8 10,.int .u8 13,.int .u8 10]])∨∃ w,H' = [some [.int .i64 0,.int .u64 0,.int .u64 0,.vsl true [] 0],some [.int .u8 13,.int .u8 10,.int .u8 13,.int .u8 10],w]) ∧
   qf e 4 = some (.optr 0 4 0)∧qf e 8 = some (.str s)∧qf e 9 = some (.vsl false (qd body) bl)∧qf e 35 = some (.vsl false (l.map D.str) l.length)∧qf e 36 = some (.int .i64 l.length)∧qf e 37 = some (.int .i64 k)) (fun k=>l.length - k) 0 ?_ ?_
  ·simp
  rintro k e H' ⟨hk,hr,hH,k4,k8,k9,k35,k36,k37⟩;by_cases qg:k < l.length
  ·have qk:(k:Int) < (l.length:Int):=(by omega);have hx:=ex k l[k] (zi qg);have zw:IntKind.i64.wrap ((k:Int)+1) = ((k+1:Nat):Int):=(by rw [wrap_i64] <;> omega);rw [zm qg,Z5] at hr;have jC:=qiT (.of body) (by simp;omega);simp at jC;rw [QT] at jC;rcases qtk s l[k] (by omega) (jv _ (vw qg)) with ⟨x,y,z,n1,n2⟩ | ⟨n1,x,y,z,n2⟩
   ·rw [n1] at hr;simp only at hr;rw [← hr,QT];by_cases z1:65536 < z
    ·have z1':(65536:Int) < (z:Int):=(by omega);rcases hH with rfl | ⟨w,rfl⟩ <;> simp [k4,k8,k9,k35,k36,k37,qk,hx,n2,z1,z1']
     ·rfl
     ·rfl
    ·have z1':¬ (65536:Int) < (z:Int):=(by omega);by_cases z2:bl < z
     ·have z2':(bl:Int) < (z:Int):=(by omega);rcases hH with rfl | ⟨w,rfl⟩ <;> simp [k4,k8,k9,k35,k36,k37,qk,hx,n2,z1,z1',z2,z2',wb]
      ·rfl
      ·rfl
     ·have z2':¬ (bl:Int) < (z:Int):=(by omega);by_cases z3:z < bl
      ·have z3':(z:Int) < (bl:Int):=(by omega);rcases hH with rfl | ⟨w,rfl⟩ <;> simp [k4,k8,k9,k35,k36,k37,qk,hx,n2,z1,z1',z2,z2',z3,z3',wb]
       ·rfl
       ·rfl
      ·have z3':¬ (z:Int) < (bl:Int):=(by omega);rcases hH with rfl | ⟨w,rfl⟩ <;> simp [k4,k8,k9,k35,k36,k37,qk,hx,n2,z1,z1',z2,z2',z3,z3',wb,jC]
       ·simp [Msg.cells,QT]
       ·simp [Msg.cells,QT]
   ·rw [n1] at hr;simp only at hr;rcases hH with rfl | ⟨w,rfl⟩ <;> simp [k4,k8,k9,k35,k36,k37,qk,hx,n2,zw]
    ·exact ⟨k+1,by omega,by omega,hr,by simp⟩
    ·exact ⟨k+1,by omega,by omega,hr,by simp⟩
  ·have qk:¬ (k:Int) < (l.length:Int):=(by omega);rw [zX (by omega),Z5] at hr;rw [← hr];rcases hH with rfl | ⟨w,rfl⟩ <;> simp [k4,k8,k9,k35,k36,k37,qk]
   ·rfl
   ·rfl
 ·rw [h1] at hi;simp [Tryz.f48,hi,h1,Msg.cells,Msg.zero]
theorem qkP (s body:List UInt8):∀ (l:List (List UInt8)) (k:Nat),(Z5 s body l k).2 = 0→∃ i x y z b,i < l.length∧l[i]? = some b∧ke s b = some (x,y,z)∧z = body.length∧body.length≤65536∧Z5 s body l k = (⟨((k+i:Nat):Int),x,y,.of body⟩,0)
 | [],k,h=>by simp [Z5] at h
 | b :: l,k,h=>by
  unfold Z5 at h ⊢;cases hn:ke s b with
  | none =>
   rw [hn] at h;obtain ⟨i,x,y,z,b',h1,h2,h3,h4,h5,h6⟩:=qkP s body l (k+1) h;exact ⟨i+1,x,y,z,b',by simp;omega,by simpa using h2,h3,h4,h5,by simp only;rw [h6];congr 2;congr 1;omega⟩
  | some v =>
   obtain ⟨x,y,z⟩:=v;rw [hn] at h;simp only at h ⊢;by_cases h1:65536 < z
   ·rw [if_pos h1] at h;simp at h
   ·rw [if_neg h1] at h ⊢;by_cases h2:body.length < z
    ·rw [if_pos h2] at h;simp at h
    ·rw [if_neg h2] at h ⊢;by_cases h3:z < body.length
     ·rw [if_pos h3] at h;simp at h
     ·rw [if_neg h3] at h ⊢;exact ⟨0,x,y,z,b,by simp,by simp,hn,by omega,by omega,by simp⟩
theorem qkL {b:List UInt8} {l:List (List UInt8)} (h:(jI b l).2 = 0):∃ i x y,i < l.length∧jI b l = (⟨(i:Int),x,y,(jI b l).1.body⟩,0)∧(jI b l).1.epoch = x∧(jI b l).1.number = y:=by
 unfold jI at h ⊢;split at h
 ·simp at h
 ·rename_i hh;rw [if_neg hh];obtain ⟨i,x,y,z,b',h1,h2,h3,h4,h5,h6⟩:=qkP _ _ l 0 h;rw [h6,vQ];exact ⟨i,x,y,h1,rfl,rfl,rfl⟩
def qaK (k:Int):List UInt8:=if k = 0 then jq else zQ
def qeZ (k:Int):Int:=if k = 0 then 200 else if k = 1 then 400 else 409
def rqL:List (List UInt8):=[jZ jq,jZ zQ]
def rsL:List (List UInt8):=[vq 200,vq 400,vq 409]
def zL (b:List UInt8):Rq × Int:=if (jI b rqL).2 = 0 then (⟨qaK (jI b rqL).1.kind,(jI b rqL).1.epoch,(jI b rqL).1.number,(jI b rqL).1.body⟩,0) else (⟨[],0,0,.none⟩,(jI b rqL).2)
def qdE (b:List UInt8):Rs × Int:=if (jI b rsL).2 = 0 then (⟨qeZ (jI b rsL).1.kind,(jI b rsL).1.epoch,(jI b rsL).1.number,(jI b rsL).1.body⟩,0) else (⟨0,0,0,.none⟩,(jI b rsL).2)
theorem qht [MaxL] [TxtC] (b:Sl UInt8) (hb:b.l.length≤90000):call cx 22 [(.vsl b.nil (qd b.l) b.l.length)] [] = some (.tup [.agg (Enc.cells (zL b.l).1),.int .i64 (zL b.l).2],[]):=by
 have h:=qmz b hb rqL (by decide) (by decide);have h1:=qo2 jq (by decide);have h2:=qo2 zQ (by decide);refine qs Tryz.func22 rfl ⟨rfl,rfl⟩ ?_;unfold zL;have e1:List.map D.str rqL = [.str (jZ jq),.str (jZ zQ)]:=rfl;have e2:rqL.length = 2:=rfl;have p1:[47,104,101,108,108,111] = jq:=rfl;have p2:[47,98,97,116,99,104] = zQ:=rfl;rw [e1,e2] at h;generalize hm:jI b.l rqL = m at *;by_cases hz:m.2 = 0
 ·obtain ⟨i,x,y,hi,hr,q1,q2⟩:=qkL (b:=b.l) (l:=rqL) (by rw [hm];exact hz);rw [hm] at hr q1 q2;obtain ⟨⟨k,x',y',bd⟩,c⟩:=m;simp only [qN,Msg.mk.injEq] at hr hz q1 q2;obtain ⟨⟨rfl,rfl,rfl,-⟩,rfl⟩:=hr;have:i = 0∨i = 1:=by rw [e2] at hi;omega
  simp [Msg.cells] at h;rcases this with rfl | rfl
  ·simp [Tryz.f22,p1,p2,h1,h2,h,qaK,Rq.cells]
  ·simp [Tryz.f22,p1,p2,h1,h2,h,qaK,Rq.cells]
 ·simp [Tryz.f22,p1,p2,h1,h2,h,hz,Rq.cells]
theorem qrU [MaxL] [TxtC] (b:Sl UInt8) (hb:b.l.length≤90000):call cx 21 [(.vsl b.nil (qd b.l) b.l.length)] [] = some (.tup [.agg (Enc.cells (qdE b.l).1),.int .i64 (qdE b.l).2],[]):=by
 have h:=qmz b hb rsL (by decide) (by decide);have h1:=qeY 200;have h2:=qeY 400;have h3:=qeY 409;refine qs Tryz.func21 rfl ⟨rfl,rfl⟩ ?_;unfold qdE;have e1:List.map D.str rsL = [.str (vq 200),.str (vq 400),.str (vq 409)]:=rfl;have e2:rsL.length = 3:=rfl;rw [e1,e2] at h;generalize hm:jI b.l rsL = m at *;by_cases hz:m.2 = 0
 ·obtain ⟨i,x,y,hi,hr,q1,q2⟩:=qkL (b:=b.l) (l:=rsL) (by rw [hm];exact hz);rw [hm] at hr q1 q2;obtain ⟨⟨k,x',y',bd⟩,c⟩:=m;simp only [qN,Msg.mk.injEq] at hr hz q1 q2;obtain ⟨⟨rfl,rfl,rfl,-⟩,rfl⟩:=hr;have:i = 0∨i = 1∨i = 2:=by rw [e2] at hi;omega
  simp [Msg.cells] at h;rcases this with rfl | rfl | rfl
  ·simp [Tryz.f21,h1,h2,h3,h,qeZ,Rs.cells]
  ·simp [Tryz.f21,h1,h2,h3,h,qeZ,Rs.cells]
  ·simp [Tryz.f21,h1,h2,h3,h,qeZ,Rs.cells]
 ·simp [Tryz.f21,h1,h2,h3,h,hz,Rs.cells]
theorem qnK:∀ (f v:Nat),∀ x∈kq f v,x≠13
 | 0,_=>by simp [kq]
 | f+1,v=>by
  have key:∀ k,k < 10→UInt8.ofNat (48+k)≠13:=fun k hk e=>by
   have:=congrArg UInt8.toNat e;rw [VU (show 48+k < 256 by omega)] at this;simp at this;omega
  rw [kq];split
  ·intro x hx;rw [List.mem_singleton.1 hx];exact key v (by assumption)
  ·intro x hx;rcases List.mem_append.1 hx with h | h
   ·exact qnK f _ x h
   ·rw [List.mem_singleton.1 h];exact key _ (JT _ (by decide))
theorem qcs (v:Nat):∀ x∈qE v,x≠13:=qnK 20 v
theorem Ye {sep:List UInt8} {a:UInt8} (hs:sep.head? = some a):∀ (A B:List UInt8) (n:Nat),(∀ x∈A,x≠a)→zA sep (A ++ B) n = zA sep B (n+A.length)
 | [],B,n,_=>by simp
 | x :: A,B,n,h=>by
  have hx:x≠a:=h x (by simp)
  obtain ⟨sep',rfl⟩:∃ l,sep = a :: l:=by
   cases sep with
   | nil=>simp at hs
   | cons y l=>simp at hs;subst hs;exact ⟨l,rfl⟩
  rw [kt,zA]
  have:((a :: sep').isPrefixOf (x :: (A ++ B))) = false:=by
   simp only [List.isPrefixOf,Bool.and_eq_false_iff];left;simpa using Ne.symm hx
  rw [this,if_neg (by decide),Ye hs A B (n+1) fun y hy=>h y (by simp [hy])];congr 1;simp;omega
theorem qmk (sep B:List UInt8) (n:Nat) (h:sep≠[]):zA sep (sep ++ B) n = (n:Int):=by
 have hp:sep.isPrefixOf (sep ++ B) = true:=by simp
 cases sep with
 | nil=>exact absurd rfl h
 | cons a l=>rw [kt,zA,← kt,if_pos hp]
theorem qid (c:UInt8) (B:List UInt8) (n:Nat) (h:c≠13):zA stopL (crlf ++ (c :: B)) n = zA stopL (c :: B) (n+2):=by
 have hc:(13 == c) = false:=by simpa using Ne.symm h
 show zA stopL (13 :: 10 :: c :: B) n = _;rw [zA,if_neg (by simp [stopL,List.isPrefixOf,hc]),zA,if_neg (by simp [stopL,List.isPrefixOf])]
theorem qzg (A B:List UInt8) (h:∀ x∈A,x≠13):jO crlf (A ++ (crlf ++ B)) = (A,B,true):=by
 have hi:zA crlf (A ++ (crlf ++ B)) 0 = (A.length:Int):=by
  rw [Ye (a:=13) rfl A _ 0 h,vQ];exact qmk crlf B _ (by decide)
 unfold jO;rw [hi,if_neg (by omega)];have e:((A.length:Nat):Int).toNat = A.length:=by omega
 rw [e]
 have e2:List.drop (A.length+crlf.length) (A ++ (crlf ++ B)) = B:=by
  rw [← vI,← qC];exact List.drop_left
 rw [e2,List.take_left]
theorem qpr (p s:List UInt8):vh p (p ++ s) = s:=by
 unfold vh pre;simp
theorem qhO (line:List UInt8) (hl:∀ x∈line,x≠13) {D:List UInt8} (hD:∀ x∈D,x≠13) (B:List UInt8):Qa line (line ++ (D ++ (crlf ++ B))) = match pu 10 D with
  | none=>none
  | some v=>some (v,B):=by
 unfold Qa
 rw [← vI,qzg (line ++ D) B (fun x hx=>by
  rcases List.mem_append.1 hx with h | h
  ·exact hl x h
  ·exact hD x h)]
 simp only [qpr] <;> cases pu 10 D <;> rfl
def Q3 (e n:Nat) (D:List UInt8):List UInt8:=epochL ++ (qE e ++ (crlf ++ (numberL ++ (qE n ++ (crlf ++ (lengthL ++ (D ++ (crlf ++ crlf))))))))
theorem qf1 (e n l:Nat):Q3 e n (qE l) = vk e n l:=rfl
theorem qtl (b:List UInt8) (e n:Nat) (he:e < 18446744073709551616) (hn:n < 18446744073709551616) (D:List UInt8) (hD:∀ x∈D,x≠13) :
  ke (b ++ Q3 e n D) b = match pu 10 D with
   | none=>none
   | some v=>if qE v = D then some (e,n,v) else none:=by
 have hpre:pre b (b ++ Q3 e n D) = true:=by unfold pre;simp
 have e1:Qa epochL (Q3 e n D) = some (e,numberL ++ (qE n ++ (crlf ++ (lengthL ++ (D ++ (crlf ++ crlf)))))):=by
  unfold Q3;rw [qhO epochL (by decide) (qcs e),qaH he]
 have e2:Qa numberL (numberL ++ (qE n ++ (crlf ++ (lengthL ++ (D ++ (crlf ++ crlf)))))) = some (n,lengthL ++ (D ++ (crlf ++ crlf))):=by
  rw [qhO numberL (by decide) (qcs n),qaH hn]
 have e3:Qa lengthL (lengthL ++ (D ++ (crlf ++ crlf))) = match pu 10 D with
   | none=>none
   | some v=>some (v,crlf):=qhO lengthL (by decide) hD crlf
 rw [ke,if_pos hpre,List.drop_left,e1];simp only [e2,e3];cases hp:pu 10 D with
 | none=>rfl
 | some v =>
  simp only
  have:(b ++ vk e n v = b ++ Q3 e n D)↔qE v = D:=by
   rw [← qf1];unfold Q3;simp
  simp [this]
theorem qf2 (b:List UInt8) (e n l:Nat) (he:e < 18446744073709551616) (hn:n < 18446744073709551616) (hl:l < 18446744073709551616):ke (b ++ vk e n l) b = some (e,n,l):=by
 rw [← qf1,qtl b e n he hn (qE l) (qcs l),qaH hl];simp
theorem qdQ {s b:List UInt8} (h:pre b s = false):ke s b = none:=by
 rw [ke,h,if_neg (by decide)]
theorem ql0 {s b:List UInt8} {x y z:Nat} (h:ke s b = some (x,y,z)):s = b ++ vk x y z:=by
 unfold ke at h;split at h
 ·split at h
  ·cases h
  ·split at h
   ·cases h
   ·split at h
    ·cases h
    ·split at h
     ·rename_i he;injection h with h;injection h with h1 h;injection h with h2 h3;subst h1;subst h2;subst h3;exact he.symm
     ·cases h
 ·cases h
theorem qxu (e n:Nat) (D:List UInt8) (hD:∀ x∈D,x≠13) (body:List UInt8) (k:Nat):zA stopL (Q3 e n D ++ body) k = ((k+(Q3 e n D).length - 4:Nat):Int):=by
 unfold Q3;simp only [vI];rw [Ye (a:=13) rfl epochL _ _ (by decide),Ye (a:=13) rfl (qE e) _ _ (qcs e)];show zA stopL (crlf ++ (88 :: ([45,78,117,109,98,101,114,58,32] ++ (qE n ++ (crlf ++ (lengthL ++ (D ++ (crlf ++ (crlf ++ body))))))))) _ = _;rw [qid 88 _ _ (by decide)];show zA stopL (numberL ++ (qE n ++ (crlf ++ (lengthL ++ (D ++ (crlf ++ (crlf ++ body))))))) _ = _;rw [Ye (a:=13) rfl numberL _ _ (by decide),Ye (a:=13) rfl (qE n) _ _ (qcs n)];show zA stopL (crlf ++ (67 :: ([111,110,116,101,110,116,45,76,101,110,103,116,104,58,32] ++ (D ++ (crlf ++ (crlf ++ body)))))) _ = _;rw [qid 67 _ _ (by decide)];show zA stopL (lengthL ++ (D ++ (crlf ++ (crlf ++ body)))) _ = _;rw [Ye (a:=13) rfl lengthL _ _ (by decide),Ye (a:=13) rfl D _ _ hD];show zA stopL (stopL ++ body) _ = _;rw [qmk stopL body _ (by decide)];congr 1;simp only [qC,crlf,qG,qX];omega
def Beg (b:List UInt8):Prop:= ∀ (R:List UInt8) (k:Nat),zA stopL (b ++ (88 :: R)) k = zA stopL (88 :: R) (k+b.length)
theorem q0z (n:Int):Beg (vq n):=by
 intro R k;unfold vq
 have h:∀ x∈(if n = 400 then qeC else if n = 409 then qew else qdM),x≠13:=by
  split
  ·decide
  ·split <;> decide
 generalize (if n = 400 then qeC else if n = 409 then qew else qdM) = w at *;simp only [vI];rw [Ye (a:=13) rfl [72,84,84,80,47,49,46,49,32] _ _ (by decide),Ye (a:=13) rfl w _ _ h];show zA stopL (crlf ++ (88 :: R)) _ = _;rw [qid 88 _ _ (by decide)];congr 1;simp only [qC,qG,qX];omega
theorem qxv {b:List UInt8} (hb:Beg b) (e n:Nat) (D:List UInt8) (hD:∀ x∈D,x≠13) (body:List UInt8):zA stopL (b ++ (Q3 e n D ++ body)) 0 = ((b.length+(Q3 e n D).length - 4:Nat):Int):=by
 have h:=hb ((Q3 e n D ++ body).tail) 0
 have e1:88 :: (Q3 e n D ++ body).tail = Q3 e n D ++ body:=by
  unfold Q3 epochL;rfl
 rw [e1,vQ] at h;rw [h,qxu e n D hD body]
theorem qte (e n:Nat) (D:List UInt8):4≤(Q3 e n D).length:=by
 simp only [Q3,qC,epochL,qG,qX];omega
theorem qrQ {b:List UInt8} (hb:Beg b) (e n:Nat) (D:List UInt8) (hD:∀ x∈D,x≠13) (body:List UInt8) (l:List (List UInt8)):jI (b ++ (Q3 e n D ++ body)) l = Z5 (b ++ Q3 e n D) body l 0:=by
 have hi:=qxv hb e n D hD body;have h4:=qte e n D;unfold jI;rw [hi,if_neg (by omega)]
 have e1:((b.length+(Q3 e n D).length - 4:Nat):Int).toNat+4 = (b ++ Q3 e n D).length:=by
  rw [qC];omega
 rw [e1,← vI,List.take_left,List.drop_left]
theorem qhz {b c:List UInt8} (X:List UInt8) (i:Nat) (hb:i < b.length) (hc:i < c.length) (h:b[i]?≠c[i]?):pre b (c ++ X) = false:=by
 unfold pre;rw [beq_eq_false_iff_ne];intro e;have:(List.take b.length (c ++ X))[i]? = b[i]?:=by rw [e]
 rw [List.getElem?_take_of_lt hb,ZY hc] at this;exact h this.symm
theorem q01 (X:List UInt8):pre (jZ zQ) (jZ jq ++ X) = false:=qhz X 6 (by decide) (by decide) (by decide)
theorem qgP (s t:Int) (hs:s = 200∨s = 400∨s = 409) (ht:t = 200∨t = 400∨t = 409) (qt:s≠t) (X:List UInt8):pre (vq s) (vq t ++ X) = false:=by
 rcases hs with rfl | rfl | rfl <;> rcases ht with rfl | rfl | rfl <;> first | exact absurd rfl qt | exact qhz X 9 (by decide) (by decide) (by decide) | exact qhz X 11 (by decide) (by decide) (by decide)
def qal (k:Nat) (x y z:Nat) (body:List UInt8):Msg × Int:=if 65536 < z then (.zero,21) else if body.length < z then (.zero,22) else if z < body.length then (.zero,21) else (⟨k,x,y,.of body⟩,0)
theorem qcF (s body b:List UInt8) (l:List (List UInt8)) (k:Nat):Z5 s body (b :: l) k = match ke s b with
  | none=>Z5 s body l (k+1)
  | some (x,y,z)=>qal k x y z body:=rfl
theorem qin (k x y:Nat) (body:List UInt8) (h:body.length≤65536):qal k x y body.length body = (⟨k,x,y,.of body⟩,0):=by
 unfold qal;rw [if_neg (by omega),if_neg (by omega),if_neg (by omega)]
section
variable (e n:Nat) (he:e < 18446744073709551616) (hn:n < 18446744073709551616) (body:List UInt8) (hb:body.length≤65536)
include he hn hb
theorem qrV (s:Int) (hs:s = 200∨s = 400∨s = 409):qdE (vq s ++ (vk e n body.length ++ body)) = (⟨s,e,n,.of body⟩,0):=by
 have hr:jI (vq s ++ (vk e n body.length ++ body)) rsL = (⟨if s = 200 then 0 else if s = 400 then 1 else 2,e,n,.of body⟩,0):=by
  rw [← qf1,qrQ (q0z s) e n _ (qcs _) body,qf1];unfold rsL;rw [qcF];rcases hs with rfl | rfl | rfl
  ·rw [qf2 _ e n _ he hn (by omega)];simp only [qin 0 e n body hb,if_true];rfl
  ·rw [qdQ (qgP 200 400 (by simp) (by simp) (by decide) _)];simp only [qcF,qf2 (vq 400) e n body.length he hn (by omega),qin 1 e n body hb];rw [if_neg (by decide),if_pos trivial];rfl
  ·rw [qdQ (qgP 200 409 (by simp) (by simp) (by decide) _)];simp only [qcF,qdQ (qgP 400 409 (by simp) (by simp) (by decide) _),qf2 (vq 409) e n body.length he hn (by omega),qin 2 e n body hb];rw [if_neg (by decide),if_neg (by decide)];rfl
 unfold qdE;rw [hr,if_pos rfl];simp only;rcases hs with rfl | rfl | rfl
 ·rw [if_pos rfl];rfl
 ·rw [if_neg (by decide),if_pos rfl];rfl
 ·rw [if_neg (by decide),if_neg (by decide)];rfl
end
end Go.Ev.S
namespace Go.Ev.S
open Go Go.Proofs Go.Ev
theorem qsd (p:List UInt8) (hp:p = jq∨p = zQ) (e n:Int) (b:Sl UInt8) (hb:b.l.length≤65536):qcG ⟨p,e,n,b⟩ = .of (jZ p ++ (vk e.toNat n.toNat b.l.length ++ b.l)):=by
 have h1:(p == jq || p == zQ) = true:=by rcases hp with rfl | rfl <;> decide
 unfold qcG Xu;simp only [h1,if_true];rw [if_neg (by omega)]
theorem qsc (s:Int) (hs:s = 200∨s = 400∨s = 409) (e n:Int) (b:Sl UInt8) (hb:b.l.length≤65536):kc ⟨s,e,n,b⟩ = .of (vq s ++ (vk e.toNat n.toNat b.l.length ++ b.l)):=by
 unfold kc Xu;simp only [hs,if_true];rw [if_neg (by omega)]
theorem qrh (p:List UInt8) (hp:p = jq∨p = zQ) (e n:Nat) (b:List UInt8):(jZ p ++ (vk e n b.length ++ b)).length≤300+b.length:=by
 have h1:=qdP e n b.length;have h2:(jZ p).length = 81:=by rcases hp with rfl | rfl <;> decide
 simp only [qC];omega
theorem qqY (s:Int) (e n:Nat) (b:List UInt8):(vq s ++ (vk e n b.length ++ b)).length≤300+b.length:=by
 have h1:=qdP e n b.length;have h2:=qgQ s;simp only [qC];omega
theorem qo3 (s:RSt) (q:Rq):(jr s q).2.ep = s.ep:=by
 unfold jr qav
 repeat' split
 all_goals rfl
theorem q03 (s:RSt) (q:Rq):∃ l,(jr s q).2.its = s.its ++ l:=by
 unfold jr qav
 repeat' split
 all_goals first | exact ⟨[],(Z2 _).symm⟩ | exact ⟨_,rfl⟩
def HearQ (s':RSt) (x:Sl UInt8) (r:D × qi):Prop:= ∃ d' T',Shp s'.its d' T'∧r = ((.vsl x.nil (qd x.l) x.l.length),some (s'.A d') :: T')
theorem HearQ.mk {s':RSt} {x:Sl UInt8} {d':D} {T':qi} (hs:Shp s'.its d' T'):HearQ s' x ((.vsl x.nil (qd x.l) x.l.length),some (s'.A d') :: T'):=⟨d',T',hs,rfl⟩
set_option maxHeartbeats 8000000 in
set_option maxRecDepth 8000 in
theorem qxL [MaxL] (s:RSt) (hm:s.mks.l.length≤1000000) (hL:s.its.length≤1000000000) (d:D) (T:qi) (zY:Shp s.its d T) (b:Sl UInt8) (hb:b.l.length≤90000) (e n:Int) (o:Sl UInt8) (hr:zL b.l = (⟨zQ,e,n,o⟩,0)) (hge:¬ e < s.ep) (hep:qA s.ep) (hnn:qA n) (ho:o.l.length < 1000000) :
  ∃ r,call cx 12 [.optr 0 4 0,(.vsl b.nil (qd b.l) b.l.length)] (some (s.A d) :: T) = some r∧HearQ (jr s ⟨zQ,e,n,o⟩).2 (kc ⟨(jr s ⟨zQ,e,n,o⟩).1,s.ep,n,.none⟩) r:=by
 have h1:=qht b hb;rw [hr] at h1;obtain ⟨r0,hc,d',T',YP,rfl⟩:=qrY s ⟨zQ,e,n,o⟩ ho hm hL d T zY;have h2:=qdI ⟨(jr s ⟨zQ,e,n,o⟩).1,s.ep,n,.none⟩ hep hnn (by simp);have Yk:=qo3 s ⟨zQ,e,n,o⟩;have X9:=q03 s ⟨zQ,e,n,o⟩;generalize jr s ⟨zQ,e,n,o⟩ = R at *;obtain ⟨c,s'⟩:=R;simp only at hc YP h2 Yk X9 ⊢;obtain ⟨ep,la,its,mk⟩:=s;obtain ⟨ep',la',its',mk'⟩:=s';simp only at hm hL zY hge hep YP h2 Yk X9 ⊢;subst Yk;simp only [Rq.cells,Rs.cells,RSt.A] at h1 h2 hc;generalize hz:kc ⟨c,ep',n,.none⟩ = z at *;replace h2:call cx 34 [.agg [.int .i64 c,.int .u64 ep',.int .u64 n,.vsl true [] 0]] [] = some ((.vsl z.nil (qd z.l) z.l.length),[]):=by simpa using h2
 have hs:(zQ == [47,104,101,108,108,111]) = false:=by decide
 have hls:(qd o.l).length = o.l.length:=by simp
 rcases zY with ⟨rfl,rfl,rfl⟩ | ⟨qt,n1,k1,zO,hk1,rfl,rfl⟩
 ·rcases YP with ⟨rfl,rfl,rfl⟩ | ⟨hne2,n2,k2,vW,hk2,rfl,rfl⟩
  ·refine vH (X:=cx) (f:=12) (args:=[.optr 0 4 0,(.vsl b.nil (qd b.l) b.l.length)]) (H:=[some [.int .u64 ep',.int .u64 la,.vsl true [] 0,(.vsl mk.nil (qh mk.l) mk.l.length)]]) (HearQ ⟨ep',la',[],mk'⟩ z) Tryz.func12 rfl ⟨rfl,rfl⟩ ?_;replace hc:call cx 36 [.optr 0 4 0,.agg [.str zQ,.int .u64 e,.int .u64 n,(.vsl o.nil (qd o.l) o.l.length)]] [some [.int .u64 ep',.int .u64 la,.vsl true [] 0,(.vsl mk.nil (qh mk.l) mk.l.length)]] = some (.int .i64 c,[some [.int .u64 ep',.int .u64 la',.vsl true [] 0,(.vsl mk'.nil (qh mk'.l) mk'.l.length)]]):=hc;simp [Tryz.f12,h1,hc,h2,hge,hs,qca,qcj];exact HearQ.mk (.inl ⟨rfl,rfl,rfl⟩)
  ·refine vH (X:=cx) (f:=12) (args:=[.optr 0 4 0,(.vsl b.nil (qd b.l) b.l.length)]) (H:=[some [.int .u64 ep',.int .u64 la,.vsl true [] 0,(.vsl mk.nil (qh mk.l) mk.l.length)]]) (HearQ ⟨ep',la',its',mk'⟩ z) Tryz.func12 rfl ⟨rfl,rfl⟩ ?_;replace hc:call cx 36 [.optr 0 4 0,.agg [.str zQ,.int .u64 e,.int .u64 n,(.vsl o.nil (qd o.l) o.l.length)]] [some [.int .u64 ep',.int .u64 la,.vsl true [] 0,(.vsl mk.nil (qh mk.l) mk.l.length)]] = some (.int .i64 c,[some [.int .u64 ep',.int .u64 la',.osl 1 n2 0 k2 39,(.vsl mk'.nil (qh mk'.l) mk'.l.length)],some (qh its')]):=hc;simp [Tryz.f12,h1,hc,h2,hge,hs,qca,qcj];exact HearQ.mk (.inr ⟨hne2,n2,k2,vW,hk2,rfl,rfl⟩)
 ·rcases YP with ⟨rfl,rfl,rfl⟩ | ⟨hne2,n2,k2,vW,hk2,rfl,rfl⟩
  ·obtain ⟨l,hl⟩:=X9;exact absurd (List.append_eq_nil_iff.1 hl.symm).1 qt
  ·refine vH (X:=cx) (f:=12) (args:=[.optr 0 4 0,(.vsl b.nil (qd b.l) b.l.length)]) (H:=[some [.int .u64 ep',.int .u64 la,.osl 1 n1 0 k1 39,(.vsl mk.nil (qh mk.l) mk.l.length)],some (qh its)]) (HearQ ⟨ep',la',its',mk'⟩ z) Tryz.func12 rfl ⟨rfl,rfl⟩ ?_;replace hc:call cx 36 [.optr 0 4 0,.agg [.str zQ,.int .u64 e,.int .u64 n,(.vsl o.nil (qd o.l) o.l.length)]] [some [.int .u64 ep',.int .u64 la,.osl 1 n1 0 k1 39,(.vsl mk.nil (qh mk.l) mk.l.length)],some (qh its)] = some (.int .i64 c,[some [.int .u64 ep',.int .u64 la',.osl 1 n2 0 k2 39,(.vsl mk'.nil (qh mk'.l) mk'.l.length)],some (qh its')]):=hc;simp [Tryz.f12,h1,hc,h2,hge,hs,qca,qcj];exact HearQ.mk (.inr ⟨hne2,n2,k2,vW,hk2,rfl,rfl⟩)
theorem qkX (b:Nat):∀ (s:List UInt8) (n v:Nat),n < 18446744073709551616→jx b s n = some v→v < 18446744073709551616
 | [],n,v,hn,h=>by
  unfold jx at h;injection h with h;omega
 | c :: l,n,v,hn,h=>by
  unfold jx at h;split at h
  ·cases h
  ·split at h
   ·cases h
   ·split at h
    ·cases h
    ·exact qkX b l _ v (by omega) h
theorem qxF {s:List UInt8} {v:Nat} (h:pu 10 s = some v):v < 18446744073709551616:=by
 unfold pu at h;split at h
 ·cases h
 ·exact qkX 10 s 0 v (by decide) h
theorem qlS {l s r:List UInt8} {v:Nat} (h:Qa l s = some (v,r)):v < 18446744073709551616:=by
 unfold Qa at h;split at h
 ·cases h
 ·rename_i hp;injection h with h;injection h with h1 h2;rw [← h1];exact qxF hp
theorem qtj {s b:List UInt8} {x y z:Nat} (h:ke s b = some (x,y,z)):x < 18446744073709551616∧y < 18446744073709551616:=by
 unfold ke at h;split at h
 ·split at h
  ·cases h
  ·rename_i h1;split at h
   ·cases h
   ·rename_i h2;split at h
    ·cases h
    ·split at h
     ·injection h with h;injection h with e1 h;injection h with e2 e3;rw [← e1,← e2];exact ⟨qlS h1,qlS h2⟩
     ·cases h
 ·cases h
theorem qxU {k x y z:Nat} {body:List UInt8} (h:(qal k x y z body).2 = 0):z = body.length∧z≤65536∧qal k x y z body = (⟨k,x,y,.of body⟩,0):=by
 unfold qal at h ⊢;split at h
 ·cases h
 ·split at h
  ·cases h
  ·split at h
   ·cases h
   ·rw [if_neg (by assumption),if_neg (by assumption),if_neg (by assumption)];exact ⟨by omega,by omega,rfl⟩
theorem qkQ (s body:List UInt8):∀ (l:List (List UInt8)) (k:Nat),(Z5 s body l k).2 = 0 →
  ∃ (i:Nat) (b:List UInt8) (x y:Nat),l[i]? = some b∧Z5 s body l k = (⟨(k+i:Nat),x,y,.of body⟩,0)∧s = b ++ vk x y body.length∧x < 18446744073709551616∧y < 18446744073709551616∧body.length≤65536
 | [],k,h=>by
  unfold Z5 at h;cases h
 | b :: l,k,h=>by
  rw [qcF] at h ⊢;cases hn:ke s b with
  | none =>
   simp only [hn] at h ⊢;obtain ⟨i,b',x,y,h1,h2,h3⟩:=qkQ s body l (k+1) h;exact ⟨i+1,b',x,y,by simpa using h1,by rw [h2,show k+1+i = k+(i+1) by omega],h3⟩
  | some t =>
   obtain ⟨x,y,z⟩:=t;simp only [hn] at h ⊢;obtain ⟨h1,h2,h3⟩:=qxU h;have h4:=ql0 hn;have h5:=qtj hn;exact ⟨0,b,x,y,rfl,h3,by rw [h4,h1],h5.1,h5.2,by omega⟩
theorem qrP {b:List UInt8} {l:List (List UInt8)} (h:(jI b l).2 = 0) :
  ∃ (i:Nat) (c:List UInt8) (x y:Nat) (body:List UInt8),l[i]? = some c∧jI b l = (⟨(i:Nat),x,y,.of body⟩,0)∧b = c ++ (vk x y body.length ++ body)∧x < 18446744073709551616∧y < 18446744073709551616∧body.length≤65536:=by
 unfold jI at h ⊢;split at h
 ·cases h
 ·rename_i hi;rw [if_neg hi];generalize (zA stopL b 0).toNat+4 = j at *;obtain ⟨i,c,x,y,h1,h2,h3,h4⟩:=qkQ _ _ _ _ h;refine ⟨i,c,x,y,b.drop j,h1,by rw [h2,vQ],?_,h4⟩;rw [← vI,← h3,V0]
theorem qdF {b:List UInt8} (h:(zL b).2 = 0):∃ (p:List UInt8) (x y:Nat) (body:List UInt8),(p = jq∨p = zQ)∧(zL b).1 = ⟨p,x,y,.of body⟩∧b = jZ p ++ (vk x y body.length ++ body)∧x < 18446744073709551616∧y < 18446744073709551616∧body.length≤65536:=by
 have hr:(jI b rqL).2 = 0:=by
  unfold zL at h;split at h
  ·assumption
  ·rename_i hn;exact absurd h hn
 obtain ⟨i,c,x,y,body,h1,h2,h3,h4⟩:=qrP hr;refine ⟨qaK i,x,y,body,?_,?_,?_,h4⟩
 ·unfold qaK;split <;> simp
 ·unfold zL;rw [if_pos hr,h2]
 ·rw [h3]
  match i,h1 with
  | 0,h1=>injection h1 with h1;rw [← h1];rfl
  | 1,h1=>injection h1 with h1;rw [← h1];rfl
  | i+2,h1=>simp [rqL] at h1
theorem qhV {n:Nat} {r:List UInt8} (h:n≤r.length):qJ n (leN (r.take n)) = r.take n:=by
 have:=qhW (r.take n)
 rwa [js,Nat.min_eq_left h] at this
theorem qt8 (r:List UInt8):(Jf r).Ok:=by
 have h:∀ l:List UInt8,leN (l.take 8) < 18446744073709551616:=fun l=>by
  have h1:=X4 (l.take 8);have h2:(l.take 8).length≤8:=by rw [js];omega
  exact jP h1 (kr (Y4 (by decide) h2) (by decide))
 refine ⟨?_,?_,?_⟩ <;> simp only [Jf,qA]
 ·have:=h (r.drop 16);omega
 ·have:=h (r.drop 24);omega
 ·have:=h (r.drop 32);omega
theorem qtA {r:List UInt8} (h:40≤r.length):V8 (Jf r) = r.take 40:=by
 have e:∀ n,n+8≤r.length→qJ 8 (leN ((r.drop n).take 8)) = (r.drop n).take 8:=fun n hn=>qhV (by rw [jU];omega)
 have hi:(ID.mk' (r.take 16)).l = r.take 16:=by
  unfold ID.mk';rw [dif_pos (by rw [js];omega)]
 unfold V8 Jf;simp only [Int.toNat_natCast];rw [e 16 (by omega),e 24 (by omega),e 32 (by omega),hi];have s:∀ (a b:Nat) (l:List UInt8),l.take (a+b) = l.take a ++ (l.drop a).take b:=fun a b l=>List.take_add;rw [show (40:Nat) = 16+(8+(8+8)) from rfl,s,s,s,kF,kF]
theorem qrv {out:List Mk} {m:Mk} (hr:jg out = true) (hl:Kk out m.id.l = false):jg (out ++ [m]) = true:=by
 induction out with
 | nil=>rfl
 | cons a o ih =>
  cases o with
  | nil =>
   have:qy a.id.l m.id.l < 0:=by
    simp [Kk] at hl;omega
   simp [jg,this]
  | cons b o =>
   simp only [kt,jg,qT] at hr ih ⊢;refine ⟨hr.1,ih hr.2 ?_⟩;unfold Kk at hl ⊢;rw [List.getLast?_cons_cons] at hl;exact hl
theorem qhs:∀ (k:Nat) (r:List UInt8) (out o:List Mk),jg out = true→(∀ m∈out,m.Ok)→J5 k r out = (o,0)→∃ l,o = out ++ l∧l.length = k∧40 * k≤r.length∧l.flatMap V8 = r.take (40 * k)∧jg o = true∧∀ m∈o,m.Ok
 | 0,r,out,o,hr,hok,h=>by
  rw [J5,qN] at h;obtain ⟨rfl,-⟩:=h;exact ⟨[],by simp,rfl,by omega,by simp,hr,hok⟩
 | k+1,r,out,o,hr,hok,h=>by
  rw [J5] at h;split at h
  ·cases h
  ·split at h
   ·cases h
   ·split at h
    ·cases h
    ·rename_i jb hl Qg
     have Qd:(Jf r).id.l = r.take 16:=by
      unfold Jf ID.mk';simp only;rw [dif_pos (by rw [js];omega)]
     have ky:Kk out (Jf r).id.l = false:=by rw [Qd];simpa using hl
     obtain ⟨l,e1,e2,e3,e4,e5,e6⟩:=qhs k (r.drop 40) (out ++ [Jf r]) o (qrv hr ky) (fun m hm=>by
      rcases List.mem_append.1 hm with h' | h'
      ·exact hok m h'
      ·rw [List.mem_singleton.1 h'];exact qt8 r) h
     rw [jU] at e3;refine ⟨Jf r :: l,by rw [e1,vI];rfl,by rw [qG,e2],by omega,?_,e5,e6⟩;rw [List.flatMap_cons,e4,qtA (by omega),show 40 * (k+1) = 40+40 * k by omega,List.take_add]
theorem qrT {b:List UInt8} {l:List Mk} (h:vi b = (l,0)) (hn:¬ Go.Ev.readN (l,0) < (b.length:Int)):vm l = true∧JB l = b∧∀ m∈l,m.Ok:=by
 cases b with
 | nil=>cases h
 | cons c r =>
  unfold vi at h;simp only at h;split at h
  ·cases h
  ·rename_i h4;obtain ⟨l',e1,e2,e3,e4,e5,e6⟩:=qhs c.toNat r [] l rfl (fun m hm=>by cases hm) h;rw [ZW] at e1;subst e1;unfold Go.Ev.readN at hn;rw [qG] at hn;simp only [if_true] at hn;refine ⟨?_,?_,e6⟩
   ·unfold vm;rw [e5,Bool.and_true,decide_eq_true_eq];omega
   ·unfold JB;rw [e4,e2,qx (by omega)];simp
theorem qsS {t:List UInt8} (h:Jd t = true) (hl:(zH (ju t)).length = t.length):zM (ju t) = true∧zH (ju t) = t:=by
 unfold Jd at h;rw [qT] at h;refine ⟨h.1,?_⟩;have:=qh0 h.2;rw [hl,List.drop_length,Z2] at this;exact this.symm
structure GotI (x:It):Prop where
 ok:x.Ok
 is:zM x = true
 b:(∀ p∈x.rc.fields.l,Qw p)∧x.rc.fields.l.length < 1000000
theorem qmN:∀ (k:Nat) (r:List UInt8) (out o:List It) (m:List Mk),r.length < 1000000→Zz k r out = (o,m,0)→∃ l,o = out ++ l∧l.length = k∧(∀ x∈l,GotI x)∧r = l.flatMap YK ++ JB m∧vm m = true∧∀ x∈m,x.Ok
 | 0,r,out,o,m,hb,h=>by
  rw [Zz] at h;split at h
  ·rename_i h0;split at h
   ·cases h
   ·rename_i hn;simp only [qN] at h;obtain ⟨rfl,rfl,-⟩:=h;have hm:vi r = ((vi r).1,0):=Prod.ext rfl h0;rw [hm] at hn;obtain ⟨e1,e2,e3⟩:=qrT hm hn;exact ⟨[],by simp,rfl,by simp,by simpa using e2.symm,e1,e3⟩
  ·rename_i h0;simp only [qN] at h;exact absurd h.2.2 h0
 | k+1,r,out,o,m,hb,h=>by
  rw [Zz] at h;split at h
  ·cases h
  ·rename_i zh;split at h
   ·rename_i hok;obtain ⟨n,hn⟩:∃ n,leN (r.take 4) = n:=⟨_,rfl⟩;rw [hn] at h hok zh;have vY:((r.drop 4).take n).length = n:=(by rw [js,jU];omega);obtain ⟨t1,t2⟩:=qsS hok.1 (by rw [hok.2,vY]);have hq:=qfJ ((r.drop 4).take n);have ZC:=qmc ((r.drop 4).take n) (by omega);obtain ⟨l,e1,e2,e3,e4,e5,e6⟩:=qmN k (r.drop (4+n)) _ o m (by rw [jU];omega) h;refine ⟨ju ((r.drop 4).take n) :: l,by rw [e1,vI];rfl,by rw [qG,e2],fun x hx=>?_,?_,e5,e6⟩
    ·rcases List.mem_cons.1 hx with rfl | hx
     ·exact ⟨hq,t1,ZC⟩
     ·exact e3 x hx
    ·have hi:YK (ju ((r.drop 4).take n)) = r.take (4+n):=by
      unfold YK;rw [t2,vY,List.take_add,← hn,qhV (by omega)]
     rw [List.flatMap_cons,hi,vI,← e4,V0]
   ·cases h
theorem qxX {x:List UInt8} {l:List It} {m:List Mk} (hx:x.length < 1000000) (h:qam x = (l,m,0)):J7 l m = true∧qaE l m = x∧(∀ y∈l,GotI y)∧∀ y∈m,y.Ok:=by
 unfold qam at h;split at h
 ·cases h
 ·split at h
  ·rename_i h4 hp;split at h
   ·cases h
   ·rename_i h6;split at h
    ·cases h
    ·rename_i VN;obtain ⟨l',e1,e2,e3,e4,e5,e6⟩:=qmN _ _ [] l m (by rw [jU];omega) h;rw [ZW] at e1;subst e1;have hk:=qh0 hp;refine ⟨?_,?_,e3,e6⟩
     ·unfold J7;simp only [qT,decide_eq_true_eq,Y7];exact ⟨by omega,e5,fun y hy=>(e3 y hy).is⟩
     ·unfold qaE;have jv:qJ 2 l.length = (x.drop 4).take 2:=(by rw [e2,qhV (by rw [jU];omega)]);rw [jv,← e4,show (6:Nat) = 4+2 from rfl,← kF,V0];exact hk.symm
  ·cases h
theorem qqu {b:List UInt8} (h4:4≤b.length) (h:XV b = true):Qk (b.take (b.length - 4)) = b:=by
 unfold XV at h;rw [decide_eq_true_eq] at h
 have e:qJ 4 (leN (b.drop (b.length - 4))) = b.drop (b.length - 4):=by
  have:=qhW (b.drop (b.length - 4))
  rwa [jU,show b.length - (b.length - 4) = 4 by omega] at this
 unfold Qk;rw [← h,e,V0]
theorem qir {b:List UInt8} {l:List It} {m:List Mk} (hb:b.length≤65536) (h:vP b = (l,m,0)):Kg l m = .of b∧(∀ y∈l,GotI y)∧(∀ y∈m,y.Ok)∧l.length≤64∧m.length≤4:=by
 unfold vP at h;split at h
 ·cases h
 ·split at h
  ·rename_i h4 hs;obtain ⟨h1,h2,h3,h5⟩:=qxX (by rw [js];omega) h;have hp:=qsg h1;refine ⟨?_,h3,h5,hp.1,qaA hp.2.1⟩;unfold Kg;rw [h1,h2,qqu (by omega) hs,decide_eq_true hb];rfl
  ·cases h
def vF (l:List Mk) (id:ID):Bool:=l.any fun m=>m.id == id
set_option maxHeartbeats 1000000 in
theorem qfn [MaxL] [TxtC] (s:Sl Mk) (hn:s.l.length < 4611686018427387904) (id:ID) :
  call cx 43 [(.vsl s.nil (qh s.l) s.l.length),.agg (qd id.l)] [] = some (.tup [.agg (Enc.cells (jz s.l id)),.bool (vF s.l id)],[]):=by
 refine qs Tryz.func43 rfl ⟨rfl,rfl⟩ ?_;simp [Tryz.f43];refine Run.loopThen (fun (i:Nat) e H=>i≤s.l.length∧(∃ z:Mk,H = [some (qd id.l),some (Enc.cells z)])∧qf e 0 = some (.vsl s.nil (qh s.l) s.l.length)∧qf e 3 = some (.optr 0 16 0)∧qf e 4 = some (.optr 1 19 0)∧qf e 6 = some (.int .i64 i)∧jz s.l id = jz (s.l.drop i) id∧vF s.l id = vF (s.l.drop i) id) (fun i=>s.l.length - i) 0 ?_ ?_
 ·simp;exact ⟨⟨ID.zero,0,0,0⟩,by simp [Mk.cells,ID.zero,qd]⟩
 rintro i e H ⟨hi,⟨z,rfl⟩,h0,h3,h4,h6,hr,zS⟩;by_cases qg:i < s.l.length
 ·have qk:(i:Int) < (s.l.length:Int):=by omega
  have hw:IntKind.i64.wrap ((i:Int)+1) = ((i+1:Nat):Int):=by rw [wrap_i64] <;> omega
  rw [zm qg] at hr zS;have jb:∀ k,(16≤19+k) = True:=fun k=>eq_true (by omega);cases he:s.l[i].id == id with
  | true =>
   simp only [jz,List.find?_cons,he,Ju] at hr;simp only [vF,List.any_cons,he,Bool.true_or] at zS;simp [h0,h3,h4,h6,qk,qg,Sl.nn qg,jb,he,jz,vF,hr,zS]
  | false =>
   simp only [jz,List.find?_cons,he] at hr;simp only [vF,List.any_cons,he,Bool.false_or] at zS;simp [h0,h3,h4,h6,qk,qg,Sl.nn qg,jb,he,hw,-List.any_eq_true];exact ⟨i+1,by omega,by omega,⟨z,rfl⟩,rfl,hr,zS⟩
 ·have qk:¬ (i:Int) < (s.l.length:Int):=by omega
  have hd:s.l.drop i = []:=zX (by omega);rw [hd] at hr zS;have e1:jz [] id = ⟨id,0,0,0⟩:=rfl;have e2:vF [] id = false:=rfl;rw [e1] at hr;rw [e2] at zS;simp [h0,h3,h4,h6,qk,hr,zS,qx,Mk.cells,zW,qD,zC]
set_option maxHeartbeats 1000000 in
theorem qky [MaxL] [TxtC] (a b:Sl Mk) (ha:a.l.length < 4611686018427387904) (hb:b.l.length < 4611686018427387904) :
  call cx 16 [(.vsl a.nil (qh a.l) a.l.length),(.vsl b.nil (qh b.l) b.l.length)] [] = some (.bool (kH a.l b.l),[]):=by
 refine qs Tryz.func16 rfl ⟨rfl,rfl⟩ ?_;simp [Tryz.f16];refine Run.loopThen (fun (i:Nat) e H=>i≤a.l.length∧H = []∧qf e 0 = some (.vsl a.nil (qh a.l) a.l.length)∧qf e 1 = some (.vsl b.nil (qh b.l) b.l.length)∧qf e 5 = some (.int .i64 i)∧kH a.l b.l = kH (a.l.drop i) b.l) (fun i=>a.l.length - i) 0 (by simp) ?_;rintro i e H ⟨hi,rfl,h0,h1,h5,hr⟩;by_cases qg:i < a.l.length
 ·have qk:(i:Int) < (a.l.length:Int):=by omega
  have hw:IntKind.i64.wrap ((i:Int)+1) = ((i+1:Nat):Int):=by rw [wrap_i64] <;> omega
  have hg:=qfn b hb a.l[i].id;have jb:∀ k,(16≤19+k) = True:=fun k=>eq_true (by omega);unfold kH at hr ⊢;rw [qoD _ qg] at hr;by_cases hs:(jz b.l a.l[i].id).seq < a.l[i].seq
  ·have vV:¬ a.l[i].seq≤(jz b.l a.l[i].id).seq:=(by omega);simp only [vV,decide_false,Z3] at hr;simp [h0,h1,h5,qk,qg,Sl.nn qg,hg,hs,hr,jb]
  ·have vV:a.l[i].seq≤(jz b.l a.l[i].id).seq:=(by omega);simp only [vV,decide_true,vS] at hr;simp [h0,h1,h5,qk,qg,Sl.nn qg,hg,hs,hw,jb];exact ⟨i+1,by omega,by omega,rfl,hr⟩
 ·have qk:¬ (i:Int) < (a.l.length:Int):=by omega
  have hd:a.l.drop i = []:=zX (by omega);rw [hd] at hr;have he:kH [] b.l = true:=rfl;rw [he] at hr;simp [h0,h1,h5,qk,hr]
theorem qtf [MaxL] [TxtC] (a b c:Nat) (ha:a < 18446744073709551616) (hb:b < 18446744073709551616) (hc:c < 18446744073709551616) :
  call cx 115 [.vsl false [.int .u64 a,.int .u64 b,.int .u64 c] 3] [] = some (.vsl false (qd (qJ 8 a ++ (qJ 8 b ++ qJ 8 c))) 24,[]):=by
 have h1:=qf9 a ha;have h2:=qf9 b hb;have h3:=qf9 c hc;clear ha hb hc;refine qs Tryz.func115 rfl ⟨rfl,rfl⟩ ?_;simp [Tryz.f115]
 iterate 4
  refine Xq ?_;simp [h1,h2,h3,qx,qI]
 simp [V5]
set_option maxRecDepth 4000 in
set_option maxHeartbeats 2000000 in
theorem qkv [MaxL] [TxtC] (s:Sl Mk) (hn:s.l.length < 4611686018427387904) (hok:∀ m∈s.l,m.Ok) :
  call cx 79 [(.vsl s.nil (qh s.l) s.l.length)] [] = some ((.vsl (kQ s.l).nil (qd (kQ s.l).l) (kQ s.l).l.length),[]):=by
 have hr:=qhg s hn;refine qs Tryz.func79 rfl ⟨rfl,rfl⟩ ?_;cases h:vm s.l with
 | false =>
  rw [h] at hr;simp [Tryz.f79,hr,kQ,h,qd]
 | true =>
  rw [h] at hr;have hl:=qaA h;clear hn;have hw8:IntKind.u8.wrap (s.l.length:Int) = (s.l.length:Int):=by rw [QG];omega
  simp [Tryz.f79,hr,kQ,h,hw8];refine Run.loopThen (fun (i:Nat) e H=>i≤s.l.length∧∃ X:List UInt8,qbJ s.l i X∧H = [some (qd X)]∧qf e 3 = some (.osl 0 X.length 0 X.length 1)∧qf e 0 = some (.vsl s.nil (qh s.l) s.l.length)∧qf e 4 = some (.int .i64 i)) (fun i=>s.l.length - i) 0 ?_ ?_
  ·refine ⟨by omega,[UInt8.ofNat s.l.length],by simp [qbJ],?_⟩;simp [qd];omega
  rintro i e H ⟨hi,X,hX,rfl,h3,h0,h4⟩;by_cases qg:i < s.l.length
  ·have qk:(i:Int) < (s.l.length:Int):=(by omega);have hw:IntKind.i64.wrap ((i:Int)+1) = ((i+1:Nat):Int):=(by rw [wrap_i64] <;> omega);have jb:∀ k,(16≤19+k) = True:=fun k=>eq_true (by omega);have hl40:=qhI (s.l.take i);rw [js,Nat.min_eq_left hi] at hl40
   have jK:qbJ s.l (i+1) (X ++ V8 s.l[i]):=by
    unfold qbJ at *;rw [hX,qbF qg,List.flatMap_append];simp
   have jD:X.length≤200:=(by rw [hX,qG,hl40];omega);clear hX hl40;have hm:=hok _ (vw qg);obtain ⟨⟨m0,m1,m2,m3⟩,hme⟩:∃ m,s.l[i] = m:=⟨_,rfl⟩;rw [hme] at jK hm;obtain ⟨a1,rfl⟩:∃ k:Nat,m1 = k:=⟨m1.toNat,by have:=hm.seq;simp [qA] at this;omega⟩;obtain ⟨a2,rfl⟩:∃ k:Nat,m2 = k:=⟨m2.toNat,by have:=hm.lost;simp [qA] at this;omega⟩;obtain ⟨a3,rfl⟩:∃ k:Nat,m3 = k:=⟨m3.toNat,by have:=hm.over;simp [qA] at this;omega⟩;have hN:=qtf a1 a2 a3 (by have:=hm.seq;simp [qA] at this;omega) (by have:=hm.lost;simp [qA] at this;omega) (by have:=hm.over;simp [qA] at this;omega);have hb1:X.length+16≤140737488355328:=kr (Nat.add_le_add_right jD 16) (by decide);have zE:X.length+16+24≤140737488355328:=kr (Nat.add_le_add_right jD 40) (by decide);have ZK:X.length+40≤140737488355328:=zE;simp [h3,h0,h4,qk,qg,Sl.nn qg,hme,qI,hb1,zE,hN,hw,jb,qx,Vz];clear hb1 zE ZK;exact ⟨i+1,by omega,by omega,_,jK,by simp [V8,V5],by simp [V8],rfl⟩
  ·have qk:¬ (i:Int) < (s.l.length:Int):=(by omega);have vL:s.l.take i = s.l:=qx (by omega);have hXe:X = JB s.l:=(by rw [hX,vL];rfl);simp [h3,h0,h4,qk,hXe]
theorem qgy {n:Nat} (h:n≤1000):n * 40≤140737488355328∧n≤140737488355328:=by omega
theorem qqt {A Z:List D} {k:Nat} {x:D} (hA:A[k]? = some x) (_:k < Z.length):qH (A.take k ++ Z.drop k) k [x] = A.take (k+1) ++ Z.drop (k+1):=by
 have hk:k < A.length:=(List.getElem?_eq_some_iff.1 hA).1;have hx:A[k] = x:=by rw [zi hk] at hA;exact qbC hA
 have hl:(A.take k).length = k:=by rw [js];omega
 unfold qH;rw [List.take_left' hl,qbF hk,hx,List.length_singleton,qD,hl,List.drop_of_length_le (by omega:(A.take k).length≤k+1),ZW];congr 1;rw [kF];congr 1;omega
def z19:List D:=[.int .u8 0,.int .u8 0,.int .u8 0,.int .u8 0,.int .u8 0,.int .u8 0,.int .u8 0,.int .u8 0,.int .u8 0,.int .u8 0,.int .u8 0,.int .u8 0,.int .u8 0,.int .u8 0,.int .u8 0,.int .u8 0,.int .u64 0,.int .u64 0,.int .u64 0]
def qaL (R:List UInt8) (k:Nat):List D:=(qd R).take k ++ z19.drop k
theorem qsC {R:List UInt8} {k:Nat} (h:k≤16) (hR:16≤R.length):(qaL R k).length = 19:=by
 simp [qaL,z19,js];omega
theorem qsB {R:List UInt8} {k:Nat} (h:k < 16) (hR:16≤R.length):qH (qaL R k) k [.int .u8 ((R[k]'(by omega)).toNat:Int)] = qaL R (k+1) :=
 qqt (by rw [zi (by simp;omega),qly]) (by simp [z19];omega)
set_option maxRecDepth 4000 in
set_option maxHeartbeats 4000000 in
theorem qrs [MaxL] (s:Sl UInt8) (hn:s.l.length < 4611686018427387904) :
  call cx 119 [(.vsl s.nil (qd s.l) s.l.length)] [] = some (.tup [(.vsl (Sl.grown (vi s.l).1).nil (qh (Sl.grown (vi s.l).1).l) (Sl.grown (vi s.l).1).l.length),.int .i64 (readN (vi s.l)),.int .i64 (vi s.l).2],[]):=by
 refine qs Tryz.func119 rfl ⟨rfl,rfl⟩ ?_;obtain ⟨nil,l,qM⟩:=s;simp only at hn ⊢;cases l with
 | nil=>simp [Tryz.f119,vi,readN,Sl.grown]
 | cons c r =>
  simp only [qG] at hn
  have Ku:nil = false:=by
   cases nil with
   | false=>rfl
   | true=>simpa using qM rfl
  subst Ku;have qt:¬ ((r.length:Int)+1 = 0):=by omega
  have kh:(0:Int) < (r.length:Int)+1:=by omega
  by_cases h4:4 < c.toNat
  ·have ZO:(4:Int) < (c.toNat:Int):=(by omega);simp [Tryz.f119,vi,readN,Sl.grown,qt,kh,YH,h4,ZO]
  ·have ZO:¬ (4:Int) < (c.toNat:Int):=(by omega);have KS:IntKind.i64.wrap (c.toNat:Int) = (c.toNat:Int):=(by rw [wrap_i64];omega);simp [Tryz.f119,qt,kh,YH,ZO];have hB:qd (c :: r) = .int .u8 (c.toNat:Int) :: qd r:=rfl
   refine Run.loopThen (fun (i:Nat) e H=>i≤c.toNat∧∃ (d:D) (out:List Mk),BufE 19 d H out∧out.length = i∧40 * i≤r.length∧qf e 0 = some (.vsl false (qd (c :: r)) (r.length+1))∧qf e 5 = some d∧qf e 6 = some (.int .i64 (1+40 * (i:Int)))∧qf e 7 = some (.int .i64 i) ∧
    vi (c :: r) = J5 (c.toNat - i) (r.drop (40 * i)) out) (fun i=>c.toNat - i) 0 ?_ ?_
   ·refine ⟨by omega,.vsl true [] 0,[],.inl ⟨rfl,rfl,rfl⟩,rfl,by omega,?_⟩;simp [vi,h4,YH]
   ·rintro i e H ⟨hi,d,out,Zx,zo,hir,h0,h5,h6,h7,hr⟩;by_cases qg:i < c.toNat
    ·have qk:(i:Int) < (c.toNat:Int):=(by omega);have Yh:IntKind.i64.wrap ((r.length:Int)+1 - (1+40 * (i:Int))) = ((r.length - 40 * i:Nat):Int):=(by rw [wrap_i64] <;> omega);have hk:c.toNat - i = (c.toNat - (i+1))+1:=(by omega);rw [hk,J5] at hr;have vY:(r.drop (40 * i)).length = r.length - 40 * i:=jU;by_cases jb:r.length - 40 * i < 16
     ·rw [vY,if_pos jb] at hr;have YU:((r.length - 40 * i:Nat):Int) < 16:=(by omega);simp [h0,h5,h6,h7,qk,kh,hB,KS,Yh,YU,hr,readN,Sl.grown]
     ·have YU:¬ ((r.length - 40 * i:Nat):Int) < 16:=(by omega);rw [vY,if_neg jb] at hr;generalize hR:r.drop (40 * i) = R at *;obtain ⟨id,Qd⟩:∃ id:ID,id.l = R.take 16:=⟨ID.mk' (R.take 16),ID.mk'_l (by rw [js];omega)⟩;have hidm:ID.mk' (R.take 16) = id:=ID.ext' (by rw [ID.mk'_l (by rw [js];omega),Qd]);rw [← Qd] at hr;have QR:(r.drop (40 * (i+1))) = R.drop 40:=(by rw [← hR,kF];congr 1);have Vr:R.length = r.length - 40 * i:=vY;simp [h0,h5,h6,h7,qk,kh,hB,KS,Yh,YU]
      have h40i:∀ k,k < R.length→(qd (c :: r)).drop (40 * i+1+k) = .int .u8 ((R[k]?.getD 0).toNat:Int) :: qd (R.drop (k+1)):=fun k hk=>by
       rw [Ze,show 40 * i+1+k = (40 * i+k)+1 by omega,List.drop_succ_cons,← kF,hR,zm hk,YH,zi hk];rfl
      clear h0 h5 h6 h7 e
      refine Run.loopThen (fun (k:Nat) e H'=>k≤16∧H' = H ++ [some (qaL R k)]∧qf e 0 = some (.vsl false (qd (c :: r)) (r.length+1))∧qf e 5 = some d∧qf e 6 = some (.int .i64 (1+40 * (i:Int)))∧qf e 7 = some (.int .i64 i) ∧
       qf e 8 = some (.optr H.length 19 0)∧qf e 9 = some (.int .i64 k)) (fun k=>16 - k) 0 ?_ ?_
      ·simp [qaL,z19,hB]
      rintro k e H' ⟨hk16,rfl,h0,h5,h6,h7,h8,h9⟩;by_cases hklt:k < 16
      ·have hklt':(k:Int) < 16:=(by omega);have g1:IntKind.i64.wrap (1+40 * (i:Int)+(k:Int)) = ((40 * i+1+k:Nat):Int):=(by rw [wrap_i64] <;> omega);have g2:((40 * i+1+k:Nat):Int) < (r.length:Int)+1:=(by omega);have g3:IntKind.i64.wrap ((k:Int)+1) = ((k+1:Nat):Int):=(by rw [wrap_i64] <;> omega);have g4:(0:Int)≤((40 * i+1+k:Nat):Int):=(by omega);have g5:((40 * i+1+k:Nat):Int).toNat = 40 * i+1+k:=(by omega);have hkR:k < R.length:=(by omega);have hst:=qsB hklt (R:=R) (by omega);have vD:=qsC (k:=k) (R:=R) (by omega) (by omega);have hg:=h40i k hkR;rw [zi hkR,Ju] at hg;have hk19:k+1≤19:=(by omega);generalize hX:40 * i+1+k = X at *;simp [h0,h5,h6,h7,h8,h9,hklt',g1,g2,g3,g4,g5,hg,vD,hk19,hst];exact ⟨k+1,by omega,by omega,rfl,rfl⟩
      ·have hke:k = 16:=(by omega);have hklt':¬ (k:Int) < 16:=by omega
       have hP:qaL R k = Enc.cells (⟨id,0,0,0⟩:Mk):=by
        rw [hke];simp only [qaL,z19,Mk.cells,Qd,kw];rfl
       rw [hP];rw [← Vr] at hr
       have hlast0:i = 0→Kk out id.l = false:=fun h=>by
        have:out = []:=VX (by omega);subst this;rfl
       have hlastk:∀ k (hk:k < out.length),k+1 = i→Kk out id.l = decide (0≤qy out[k].id.l id.l):=fun k hk vK=>by
        unfold Kk
        have:out.getLast? = some out[k]:=by
         rw [List.getLast?_eq_getElem?,zi (by omega)];congr 2;omega
        rw [this]
       have qO:IntKind.i64.wrap ((i:Int)+1) = ((i+1:Nat):Int):=(by rw [wrap_i64] <;> omega);have KU:IntKind.i64.wrap (1+40 * (i:Int)+16) = ((40 * i+17:Nat):Int):=(by rw [wrap_i64] <;> omega);have hq24:IntKind.i64.wrap (((40 * i+17:Nat):Int)+24) = 1+40 * (((i+1:Nat):Int)):=(by rw [wrap_i64] <;> omega);have hq8:IntKind.i64.wrap (((40 * i+17:Nat):Int)+8) = ((40 * i+25:Nat):Int):=(by rw [wrap_i64] <;> omega);have hq6:IntKind.i64.wrap (((40 * i+17:Nat):Int)+16) = ((40 * i+33:Nat):Int):=(by rw [wrap_i64] <;> omega);have hqr:IntKind.i64.wrap ((r.length:Int)+1 - ((40 * i+17:Nat):Int)) = ((R.length:Int) - 16):=by rw [wrap_i64] <;> omega
       have fin40:Kk out id.l = false→¬ R.length < 40→∃ a1 a2 a3:Nat,Jf R = ⟨id,a1,a2,a3⟩∧call cx 117 [.vsl false (qd (c :: r)) (r.length+1),.int .i64 ((40 * i+17:Nat):Int),.int .i64 8] [] = some (.tup [.int .u64 a1,.bool true],[]) ∧
         call cx 117 [.vsl false (qd (c :: r)) (r.length+1),.int .i64 ((40 * i+25:Nat):Int),.int .i64 8] [] = some (.tup [.int .u64 a2,.bool true],[])∧call cx 117 [.vsl false (qd (c :: r)) (r.length+1),.int .i64 ((40 * i+33:Nat):Int),.int .i64 8] [] = some (.tup [.int .u64 a3,.bool true],[]) ∧
         vi (c :: r) = J5 (c.toNat - (i+1)) (r.drop (40 * (i+1))) (out ++ [⟨id,a1,a2,a3⟩]):=by
        intro vE Qg;rw [vE] at hr;simp only [vT,if_false] at hr;rw [if_neg Qg] at hr;have hmk:Jf R = ⟨id,leN ((R.drop 16).take 8),leN ((R.drop 24).take 8),leN ((R.drop 32).take 8)⟩:=by unfold Jf;rw [hidm]
        have q:∀ a,a+8≤40→call cx 117 [.vsl false (qd (c :: r)) (r.length+1),.int .i64 ((40 * i+1+a:Nat):Int),.int .i64 8] [] = some (.tup [.int .u64 (leN ((R.drop a).take 8)),.bool true],[]):=fun a ha=>by
         have:=qk4 (.of (c :: r)) (40 * i+1+a) (by simp;omega) (by simp;omega);simp only [Sl.of_l,Sl.of_nil,qG] at this;rw [this,show 40 * i+1+a = (40 * i+a)+1 by omega,List.drop_succ_cons,← kF,hR]
        exact ⟨_,_,_,hmk,q 16 (by omega),q 24 (by omega),q 32 (by omega),by rw [hr,QR,hmk]⟩
       have hc19:=qgy (n:=out.length+1) (by have:=c.toNat_lt;omega);generalize hX17:40 * i+17 = X17 at *;generalize hX25:40 * i+25 = X25 at *;generalize hX33:40 * i+33 = X33 at *;rcases Nat.eq_zero_or_pos i with VJ | hipos
       ·have hi0':¬ 0 < i:=(by omega);have vE:=hlast0 VJ;by_cases Qg:R.length < 40
        ·have JL:(R.length:Int) - 16 < 24:=(by omega);rw [vE,if_pos Qg] at hr;simp only [vT,if_false] at hr
         rcases Zx with ⟨rfl,rfl,rfl⟩ | ⟨rfl,rfl,Kv⟩ <;>
          simp [h0,h5,h6,h7,h8,h9,hklt',KU,hqr,hi0',JL,hr,readN,Sl.grown]
        ·have JL:¬ (R.length:Int) - 16 < 24:=(by omega);obtain ⟨a1,a2,a3,q1,q2,q3,q4,q5⟩:=fin40 vE Qg;clear hr;rcases Zx with ⟨rfl,rfl,rfl⟩ | ⟨rfl,rfl,Kv⟩
         ·simp [h0,h5,h6,h7,h8,h9,hklt',KU,hq24,hq8,hq6,hqr,hi0',JL,q2,q3,q4,qO,qI];clear hc19;exact ⟨i+1,by omega,by omega,_,_,.one _,by simp at zo;simp [← zo],by omega,rfl,rfl,rfl,rfl,q5⟩
         ·exact absurd (VX (by omega)) Kv
       ·obtain ⟨k',vK⟩:∃ k,k+1 = i:=⟨i - 1,by omega⟩;have XC:k' < out.length:=(by omega);have hko':(k':Int) < (out.length:Int):=(by omega);have jX:IntKind.i64.wrap ((i:Int) - 1) = (k':Int):=(by rw [wrap_i64] <;> omega);have vE:=hlastk k' XC vK;have Vn:=qif out[k'].id id;have h19:k' * 19+16≤out.length * 19:=(by omega);have h16k:∀ k,(16≤19+k) = True:=fun k=>eq_true (by omega);rcases Zx with ⟨rfl,rfl,rfl⟩ | ⟨rfl,rfl,Kv⟩
        ·simp at XC
        ·by_cases hge:0≤qy out[k'].id.l id.l
         ·rw [vE,decide_eq_true hge] at hr;simp only [if_true] at hr;simp [h0,h5,h6,h7,h8,h9,hklt',hipos,jX,XC,hko',Vn,hge,h16k,hr,readN,Sl.grown]
         ·rw [decide_eq_false hge] at vE;by_cases Qg:R.length < 40
          ·have JL:(R.length:Int) - 16 < 24:=(by omega);rw [vE,if_pos Qg] at hr;simp only [vT,if_false] at hr;simp [h0,h5,h6,h7,h8,h9,hklt',KU,hqr,hipos,jX,XC,hko',Vn,hge,h16k,JL,hr,readN,Sl.grown]
          ·have JL:¬ (R.length:Int) - 16 < 24:=(by omega);obtain ⟨a1,a2,a3,q1,q2,q3,q4,q5⟩:=fin40 vE Qg;clear hr;simp [h0,h5,h6,h7,h8,h9,hklt',KU,hq24,hq8,hq6,hqr,hipos,jX,XC,hko',Vn,hge,h16k,JL,q2,q3,q4,qO,qI,hc19];clear hc19;exact ⟨i+1,by omega,by omega,_,_,.snoc _ _,by simp [zo],by omega,rfl,rfl,rfl,rfl,q5⟩
    ·have qk:¬ (i:Int) < (c.toNat:Int):=(by omega);have hk:c.toNat - i = 0:=(by omega);rw [hk,J5] at hr;rcases Zx with ⟨rfl,rfl,rfl⟩ | ⟨rfl,rfl,Kv⟩
     ·simp [h0,h5,h6,h7,qk,kh,hB,KS,hr,readN,Sl.grown];simp at zo;omega
     ·simp [h0,h5,h6,h7,qk,kh,hB,KS,hr,readN,Sl.grown,Kv,zo,qx]
def jm (m:Mk):List Mk→Bool→List Mk × Bool
 | [],i=>([],i)
 | x :: l,i=>let c:=qy x.id.l m.id.l
  let r:=jm m l (i || decide (0≤c))
  ((if !i && decide (0≤c) then [m] else []) ++ (if c≠0 then [x] else []) ++ r.1,r.2)
def Zn (l:List Mk) (m:Mk):List Mk:=(jm m l false).1 ++ (if (jm m l false).2 then [] else [m])
def J3 (l:List Mk) (m:Mk):Int:=if vm l then (if !vF l m.id && decide (4≤l.length) then 15 else 0) else 1
theorem qfk (m:Mk):∀ (l:List Mk) (i:Bool),(jm m l i).1.length≤2 * l.length
 | [],_=>by simp [jm]
 | x :: l,i=>by
  have:=qfk m l (i || decide (0≤qy x.id.l m.id.l));simp only [jm,qC,qG];have h1:(if (!i && decide (0≤qy x.id.l m.id.l)) = true then [m] else []).length≤1:=by split <;> simp
  have h2:(if qy x.id.l m.id.l≠0 then [x] else []).length≤1:=by split <;> simp
  omega
theorem qkj (m:Mk):∀ (a b:List Mk) (i:Bool),jm m (a ++ b) i = ((jm m a i).1 ++ (jm m b (jm m a i).2).1,(jm m b (jm m a i).2).2)
 | [],b,i=>by simp [jm]
 | x :: a,b,i=>by
  simp only [kt,jm,qkj m a b,vI]
def RS (m:Mk) (g:List Mk) (d:D) (H:qi):Prop:=(d = .vsl true [] 0∧g = []∧H = [some (Enc.cells m)])∨(d = .osl 1 (g.length * 19) 0 g.length 19∧H = [some (Enc.cells m),some (qh g)]∧g≠[])
theorem RS.app {m:Mk} {g:List Mk} {n k:Nat} {cs:List D} (qt:g≠[]) (hn:n = g.length * 19) (hk:k = g.length) (hc:cs = qh g):RS m g (.osl 1 n 0 k 19) [some (Enc.cells m),some cs]:=by
 subst hn;subst hk;subst hc;exact .inr ⟨rfl,rfl,qt⟩
theorem RS.nil {m:Mk}:RS m [] (.vsl true [] 0) [some (Enc.cells m)]:=.inl ⟨rfl,rfl,rfl⟩
theorem qqV (m:Mk):∀ (l:List Mk),(jm m l false).2 = true→(jm m l false).1≠[]
 | [],h=>by simp [jm] at h
 | x :: l,h=>by
  simp only [jm];by_cases hc:0≤qy x.id.l m.id.l
  ·simp [hc]
  ·have h0:¬ qy x.id.l m.id.l = 0:=fun h0=>hc (by rw [h0];decide);simp [h0]
theorem tri (c:Int):(c < 0∧¬ 0≤c∧¬ c = 0)∨(c = 0∧0≤c)∨(0≤c∧¬ c = 0):=by omega
noncomputable def qg3:Code:=zG [1,1,1,1,1,1,0,1,0,0] (kb (qY Tryz.f46))
set_option maxRecDepth 4000 in
set_option maxHeartbeats 2000000 in
theorem qqS [MaxL] [TxtC] (s:Sl Mk) (zP:s.l.length≤4) (m:Mk) (e:qr) (h0:qf e 0 = some (.vsl s.nil (qh s.l) s.l.length)) (h3:qf e 3 = some (.optr 0 19 0)) (jf:qf e 10 = some (.int .i64 0)) (h9:qf e 9 = some (.bool false)) (h8:qf e 8 = some (.vsl true [] 0)) :
  Run cx 46 69 0 (fun ex e H=>ex = .exit 0∧qf e 3 = some (.optr 0 19 0)∧qf e 9 = some (.bool (jm m s.l false).2)∧∃ d,qf e 8 = some d∧RS m (jm m s.l false).1 d H) [] (code cx 46 69 0 (.loop qg3) e [some (Enc.cells m)]):=by
 refine Run.loopThen (fun (i:Nat) e H=>i≤s.l.length∧qf e 0 = some (.vsl s.nil (qh s.l) s.l.length)∧qf e 3 = some (.optr 0 19 0)∧qf e 10 = some (.int .i64 i)∧qf e 9 = some (.bool (jm m (s.l.take i) false).2) ∧
  (∃ d,qf e 8 = some d∧RS m (jm m (s.l.take i) false).1 d H)) (fun i=>s.l.length - i) 0 ?_ ?_
 ·simp [jm,h0,h3,jf,h9,h8,RS.nil]
 clear h0 h3 jf h9 h8 e;rintro i e H ⟨hi,h0,h3,jf,h9,d,h8,hst⟩;by_cases qg:i < s.l.length
 ·have qk:(i:Int) < (s.l.length:Int):=by omega
  have hw:IntKind.i64.wrap ((i:Int)+1) = ((i+1:Nat):Int):=by rw [wrap_i64] <;> omega
  have jb:∀ k,(16≤19+k) = True:=fun k=>eq_true (by omega);have hc:=qif s.l[i].id m.id;have vu:=qfk m (s.l.take i) false;rw [js,Nat.min_eq_left hi] at vu
  have jK:jm m (s.l.take (i+1)) false = ((jm m (s.l.take i) false).1 ++ (jm m [s.l[i]] (jm m (s.l.take i) false).2).1,(jm m [s.l[i]] (jm m (s.l.take i) false).2).2):=by
   rw [qbF qg,qkj]
  generalize jm m (s.l.take i) false = g at *;obtain ⟨g1,g2⟩:=g;simp only at h9 hst vu jK;have Kw:g1.length≤100:=by omega
  have hb1:g1.length * 40+40≤140737488355328∧g1.length+1≤140737488355328:=by have:=qgy (n:=g1.length+1) (by omega);rwa [vR] at this
  have ZK:g1.length * 40+80≤140737488355328∧g1.length+2≤140737488355328:=by have:=qgy (n:=g1.length+2) (kr (Nat.add_le_add_right Kw 2) (by decide));rwa [vR] at this
  clear Kw;simp only [jm,Z2] at jK;have Vo:(qy s.l[i].id.l m.id.l < 0∧¬ 0≤qy s.l[i].id.l m.id.l∧¬ qy s.l[i].id.l m.id.l = 0)∨(qy s.l[i].id.l m.id.l = 0∧0≤qy s.l[i].id.l m.id.l)∨(0≤qy s.l[i].id.l m.id.l∧¬ qy s.l[i].id.l m.id.l = 0):=tri _;generalize qy s.l[i].id.l m.id.l = c at *;simp only [qg3,zG,qY,Tryz.f46,Option.getD,kb,kW,Y9]
  cases g2 <;> rcases Vo with ⟨c1,c2,c3⟩ | ⟨rfl,c1⟩ | ⟨c1,c2⟩ <;> rcases hst with ⟨rfl,rfl,rfl⟩ | ⟨rfl,rfl,qt⟩ <;>
   first
    | simp [h0,h3,jf,h9,h8,qk,qg,Sl.nn qg,jb,hc,c2,c3,hw,hb1,qI,vR]
    | simp [h0,h3,jf,h9,h8,qk,qg,Sl.nn qg,jb,hc,c1,c2,hw,hb1,ZK,qI,Vz,vR]
    | simp [h0,h3,jf,h9,h8,qk,qg,Sl.nn qg,jb,hc,hw,hb1,qI,vR]
  all_goals
   clear hb1 ZK;refine ⟨i+1,by omega,by omega,rfl,?_,?_⟩
   ·first | (rw [jK];done) | (rw [jK];simp [c2];done) | (rw [jK];simp [c1];done) | (rw [jK];simp;done)
   ·rw [jK]
    first
     | exact RS.nil
     | (refine RS.app ?_ ?_ ?_ ?_ <;> first | simp [c2,c3,qb2,vR,ZP] | simp [c1,c2,qb2,vR,ZP] | simp [qb2,vR,ZP,qt] | simp [ZP])
 ·have qk:¬ (i:Int) < (s.l.length:Int):=by omega
  have vL:s.l.take i = s.l:=qx (by omega);rw [vL] at h9 hst;simp only [qg3,zG,qY,Tryz.f46,Option.getD,kb,kW,Y9];simp [h0,h3,jf,h9,h8,qk];exact hst
set_option maxRecDepth 4000 in
set_option maxHeartbeats 1000000 in
theorem qqU [MaxL] [TxtC] (s:Sl Mk) (hn:s.l.length < 4611686018427387904) (m:Mk) :
  call cx 46 [(.vsl s.nil (qh s.l) s.l.length),.agg (Enc.cells m)] [] = some (.tup [(.vsl (Ql (J3 s.l m) (.of (Zn s.l m))).nil (qh (Ql (J3 s.l m) (.of (Zn s.l m))).l) (Ql (J3 s.l m) (.of (Zn s.l m))).l.length),.int .i64 (J3 s.l m)],[]):=by
 have hr:=qhg s hn;have hg:=qfn s hn m.id;refine qs Tryz.func46 rfl ⟨rfl,rfl⟩ ?_;cases h1:vm s.l with
 | false =>
  rw [h1] at hr;simp [Tryz.f46,hr,J3,h1,Ql]
 | true =>
  rw [h1] at hr;have zP:=qaA h1;by_cases Qe:vF s.l m.id = false∧4≤s.l.length
  ·obtain ⟨h2,h3⟩:=Qe;have h3':(4:Int)≤(s.l.length:Int):=(by clear hn;omega);rw [h2] at hg;simp [Tryz.f46,hr,hg,J3,h1,h2,h3,h3',Ql]
  ·have Yq:J3 s.l m = 0:=by
    unfold J3;rw [h1,if_pos rfl,if_neg];simp only [qT,Bool.not_eq_true',decide_eq_true_eq];exact Qe
   rw [Yq];have zE:vF s.l m.id = false→¬ (4:Int)≤(s.l.length:Int):=fun h h4=>Qe ⟨h,by clear hn;omega⟩;have XA:=qqS s zP m;simp only [qg3,zG,qY,Tryz.f46,Option.getD,kb,kW,Y9] at XA;have vu:=qfk m s.l false;have hb1:(jm m s.l false).1.length * 40+40≤140737488355328∧(jm m s.l false).1.length+1≤140737488355328:=(by have:=qgy (n:=(jm m s.l false).1.length+1) (by clear hn;omega);rwa [vR] at this);have Kv:=qqV m s.l;cases hb:vF s.l m.id
   ·have qac:=zE hb;rw [hb] at hg;simp [Tryz.f46,hr,hg,qac,Ql];refine Run.mono (XA _ ?_ ?_ ?_ ?_ ?_) ?_
    iterate 5 simp
    rintro ex e H ⟨rfl,h3,h9,d,h8,hst⟩;unfold Zn;rcases hst with ⟨rfl,hz,rfl⟩ | ⟨rfl,rfl,qt⟩ <;> cases YZ:(jm m s.l false).2 <;> simp [h3,h9,h8,YZ,qI,hb1,vR,← Z0,qx]
    ·rw [hz];simp [Xe]
    ·exact Kv YZ hz
   ·rw [hb] at hg;simp [Tryz.f46,hr,hg,Ql];refine Run.mono (XA _ ?_ ?_ ?_ ?_ ?_) ?_
    iterate 5 simp
    rintro ex e H ⟨rfl,h3,h9,d,h8,hst⟩;unfold Zn;rcases hst with ⟨rfl,hz,rfl⟩ | ⟨rfl,rfl,qt⟩ <;> cases YZ:(jm m s.l false).2 <;> simp [h3,h9,h8,YZ,qI,hb1,vR,← Z0,qx]
    ·rw [hz];simp [Xe]
    ·exact Kv YZ hz
def QJ (v n:Int):Int:=if IntKind.u64.wrap (kV - n) < v then kV else IntKind.u64.wrap (v+n)
theorem qhh [MaxL] [TxtC] (v n:Int):call cx 45 [.int .u64 v,.int .u64 n] [] = some (.int .u64 (QJ v n),[]):=by
 refine qs Tryz.func45 rfl ⟨rfl,rfl⟩ ?_;by_cases h:IntKind.u64.wrap (18446744073709551615 - n) < v
 ·simp [Tryz.f45,h,QJ,kV]
 ·simp [Tryz.f45,h,QJ,kV]
def J2 (m:Mk) (it:It) (over:Bool):Mk :=
 if it.gap then { m with seq:=it.til,lost:=QJ m.lost (QJ (IntKind.u64.wrap (it.til - it.fr)) 1) }
 else { m with seq:=it.rc.seq,over:=if over then QJ m.over 1 else m.over }
def XY (l:List Mk) (it:It) (over:Bool):List Mk:=Zn l (J2 (jz l it.id) it over)
def YA (l:List Mk) (it:It) (over:Bool):Int :=
 let c:=J3 l (J2 (jz l it.id) it over)
 if c≠0 then c else if Zy (jz l it.id) it then 0 else 13
set_option maxRecDepth 4000 in
set_option maxHeartbeats 2000000 in
theorem qke [MaxL] [TxtC] (s:Sl Mk) (hn:s.l.length < 4611686018427387904) (it:It) (over:Bool) :
  call cx 19 [(.vsl s.nil (qh s.l) s.l.length),.agg (Enc.cells it),.bool over] [] = some (.tup [(.vsl (Ql (YA s.l it over) (.of (XY s.l it over))).nil (qh (Ql (YA s.l it over) (.of (XY s.l it over))).l) (Ql (YA s.l it over) (.of (XY s.l it over))).l.length),.int .i64 (YA s.l it over)],[]):=by
 have hge:=qfn s hn it.id;have YY:=qit s.l it.id;have Jj:=qqU s hn (J2 (jz s.l it.id) it over);refine qs Tryz.func19 rfl ⟨rfl,rfl⟩ ?_;unfold YA XY;generalize jz s.l it.id = g at *;have zZ:=qhh (IntKind.u64.wrap (it.til - it.fr)) 1;have zB:=qhh g.lost (QJ (IntKind.u64.wrap (it.til - it.fr)) 1);have Jm:=qhh g.over 1;have key:∀ (st:Mk) (hst:J2 g it over = st),∀ c (hc:J3 s.l st = c),∀ d (hd:Zn s.l st = d),True:=fun _ _ _ _ _ _=>trivial;cases vX:it.gap with
 | true =>
  have hst:J2 g it over = { g with seq:=it.til,lost:=QJ g.lost (QJ (IntKind.u64.wrap (it.til - it.fr)) 1) }:=by simp [J2,vX]
  rw [hst] at Jj ⊢;generalize J3 s.l { g with seq:=it.til,lost:=QJ g.lost (QJ (IntKind.u64.wrap (it.til - it.fr)) 1) } = c at *;generalize Zn s.l { g with seq:=it.til,lost:=QJ g.lost (QJ (IntKind.u64.wrap (it.til - it.fr)) 1) } = d at *;by_cases hc:c = 0
  ·subst hc;by_cases h1:it.fr≤g.seq
   ·simp [Tryz.f19,hge,vX,zZ,zB,Jj,h1,Zy,Ql]
   ·by_cases h2:it.til < it.fr
    ·simp [Tryz.f19,hge,vX,zZ,zB,Jj,h1,h2,Zy,Ql]
    ·simp [Tryz.f19,hge,vX,zZ,zB,Jj,h1,h2,Zy,Ql]
  ·simp [Tryz.f19,hge,vX,zZ,zB,Jj,hc,Ql]
 | false =>
  have hst:J2 g it over = { g with seq:=it.rc.seq,over:=if over then QJ g.over 1 else g.over }:=by simp [J2,vX]
  rw [hst] at Jj ⊢;cases over with
  | false =>
   simp only [vT,if_false] at Jj ⊢;generalize J3 s.l { g with seq:=it.rc.seq,over:=g.over } = c at *;generalize Zn s.l { g with seq:=it.rc.seq,over:=g.over } = d at *;by_cases hc:c = 0
   ·subst hc;by_cases h1:it.rc.seq≤g.seq
    ·simp [Tryz.f19,hge,vX,Jj,h1,Zy,Ql]
    ·simp [Tryz.f19,hge,vX,Jj,h1,Zy,Ql]
   ·simp [Tryz.f19,hge,vX,Jj,hc,Ql]
  | true =>
   simp only [if_true] at Jj ⊢;generalize J3 s.l { g with seq:=it.rc.seq,over:=QJ g.over 1 } = c at *;generalize Zn s.l { g with seq:=it.rc.seq,over:=QJ g.over 1 } = d at *;by_cases hc:c = 0
   ·subst hc;by_cases h1:it.rc.seq≤g.seq
    ·simp [Tryz.f19,hge,vX,Jm,Jj,h1,Zy,Ql]
    ·simp [Tryz.f19,hge,vX,Jm,Jj,h1,Zy,Ql]
   ·simp [Tryz.f19,hge,vX,Jm,Jj,hc,Ql]
def qdi (l:List It):Prop:= ∀ x∈l,x.Ok∧x.rc.fields.l.length < 1000000∧∀ p∈x.rc.fields.l,Qw p
theorem qys {l:List It} (h:qdi l) (ho:∀ x∈l,zM x = true):(l.flatMap YK).length≤l.length * 10004:=by
 induction l with
 | nil=>simp
 | cons a l ih =>
  have h1:=ih (fun x hx=>h x (kU _ hx)) fun x hx=>ho x (kU _ hx);have h2:=(qgH (h a (QY ..)).1 (ho a (QY ..))).1;rw [List.flatMap_cons,qC,qxj,qG,vR];omega
theorem qhv {l:List It} {m:List Mk} (h:J7 l m = false):Kg l m = .none:=by unfold Kg;rw [h];rfl
def qcx (s:List It) (i:Nat) (X:List UInt8):Prop:=X = (Kl ++ qJ 2 s.length) ++ (s.take i).flatMap YK
set_option maxHeartbeats 2000000 in
theorem qku [MaxL] [TxtC] (s:BitVec 32) (b:Sl UInt8) (hn:b.l.length < 4611686018427387904):call cx 91 [.int .u32 s.toNat,(.vsl b.nil (qd b.l) b.l.length)] [] = some (.int .u32 ((QD s b.l).toNat:Nat),[]):=by
 refine qs Tryz.func91 rfl ⟨rfl,rfl⟩ ?_;have Yi:∀ v:BitVec 32,QZ .xor (.int .u32 (v.toNat:Int)) = some (.int .u32 ((~~~ v).toNat:Int)):=fun v=>congrArg (fun x=>some (D.int .u32 x)) (ql3 v);have h0:=Yi s;unfold QD;obtain ⟨g,hg⟩:∃ g,qct (~~~ s) b.l = g:=⟨_,rfl⟩;rw [hg];have h1:=Yi g;generalize ((~~~ g).toNat:Int) = r at *;generalize ~~~ s = s0 at *;clear Yi;simp [-QZ,Tryz.f91,h0];refine Run.loopThen (fun (q:Nat × BitVec 32) e H'=>q.1≤b.l.length∧qct q.2 (b.l.drop q.1) = g∧qf e 0 = some (.int .u32 (q.2.toNat:Int))∧qf e 1 = some (.vsl b.nil (qd b.l) b.l.length)∧qf e 5 = some (.int .i64 (q.1:Nat))∧H' = []) (fun q=>b.l.length - q.1) (0,s0) ⟨jk _,by simpa using hg,by simp,by simp,by simp,rfl⟩ ?_;rintro ⟨i,v⟩ e H' ⟨hi,hR,k0,k1,k5,rfl⟩;simp only at hi hR k0 k5;by_cases qg:i < b.l.length
 ·have qk:(i:Int) < (b.l.length:Int):=by omega
  have hw:IntKind.i64.wrap ((i:Int)+1) = ((i+1:Nat):Int):=by rw [wrap_i64] <;> omega
  have hd:=qn8 qg;have hb:=qov v b.l[i];rw [zm qg] at hR;generalize b.l[i] = c at *;replace hR:qct (ZQ 8 (v ^^^ BitVec.ofNat 32 c.toNat)) (b.l.drop (i+1)) = g:=hR;generalize v ^^^ BitVec.ofNat 32 c.toNat = w at *;have KS:IntKind.u32.wrap (c.toNat:Int) = (c.toNat:Int):=by have:=c.toNat_lt;rw [KJ];omega
  simp [-QZ,k0,k1,k5,qk,Sl.nn qg,hd,KS,hb]
  refine qfA (fun (q:Nat × BitVec 32) e H'=>q.1≤8∧ZQ (8 - q.1) q.2 = ZQ 8 w∧qf e 0 = some (.int .u32 (q.2.toNat:Int))∧qf e 1 = some (.vsl false (qd b.l) b.l.length)∧qf e 5 = some (.int .i64 (i:Nat))∧qf e 6 = some (.int .i64 (q.1:Nat))∧H' = []) (fun q=>8 - q.1) (0,w)
   (fun ex e H'=>ex = .exit 2∧qf e 0 = some (.int .u32 ((ZQ 8 w).toNat:Int))∧qf e 1 = some (.vsl false (qd b.l) b.l.length)∧qf e 5 = some (.int .i64 (i:Nat))∧H' = []) ⟨jk _,rfl,by simp,by simp,by simp,by simp,rfl⟩ ?_ ?_
  ·clear k0 k1 k5;rintro ⟨j,u⟩ e H' ⟨hj,hu,k0,k1,k5,k6,rfl⟩;simp only at hj hu k0 k6;by_cases hj8:j < 8
   ·have QC:(j:Int) < 8:=(by omega);have JG:IntKind.i64.wrap ((j:Int)+1) = ((j+1:Nat):Int):=(by rw [wrap_i64] <;> omega);have hb1:(u.toNat:Int).tmod 2 = ((u.toNat % 2:Nat):Int):=(by rw [Int.tmod_eq_emod_of_nonneg (Int.natCast_nonneg _)];rfl);have Qp:IntKind.u32.wrap ((u.toNat % 2:Nat):Int) = ((u.toNat % 2:Nat):Int):=(by rw [KJ];omega);have zE:=qmD u;rw [show (2:Int) = 2 ^ min 1 IntKind.u32.bits from rfl] at zE;have ZK:=qld (u >>> 1)
    have hst:ZQ (8 - (j+1)) (qet u) = ZQ 8 w:=by
     rw [← hu,show 8 - j = (8 - (j+1))+1 by omega];rfl
    unfold qet at hst;generalize u >>> 1 = h at *;by_cases hp:u.toNat % 2 = 1
    ·rw [hp] at hb1 Qp;rw [if_pos hp] at hst;generalize h ^^^ 2197175160#32 = y at *;simp [-QZ,k0,k1,k5,k6,QC,JG,hb1];exact ⟨j+1,by omega,by omega,y,hst,by rw [zE,ZK],rfl⟩
    ·have hp0:u.toNat % 2 = 0:=(by omega);rw [hp0] at hb1 Qp;rw [if_neg hp] at hst;simp [-QZ,k0,k1,k5,k6,QC,JG,hb1];exact ⟨j+1,by omega,by omega,h,hst,zE,rfl⟩
   ·have QC:¬ (j:Int) < 8:=(by omega);have hj0:8 - j = 0:=(by omega);rw [hj0] at hu;replace hu:u = ZQ 8 w:=hu;simp [-QZ,k0,k1,k5,k6,QC,hu]
  ·clear k0 k1 k5;rintro ex e H' ⟨rfl,k0,k1,k5,rfl⟩;generalize ZQ 8 w = z at *;simp [-QZ,k0,k1,k5,hw];exact ⟨i+1,by omega,by omega,z,hR,rfl,rfl⟩
 ·have qk:¬ (i:Int) < (b.l.length:Int):=by omega
  rw [zX (by omega)] at hR;replace hR:v = g:=hR;subst hR;simp [-QZ,k0,k1,k5,qk,h1]
theorem qhM [MaxL] [TxtC] (v n:Nat) (zO:1≤n) (VD:n≤8) (hv:v < 18446744073709551616):call cx 87 [.int .u64 v,.int .i64 n] [] = some (.vsl false (qd (qJ n v)) n,[]):=by
 refine qs Tryz.func87 rfl ⟨rfl,rfl⟩ ?_;simp [Tryz.f87];refine Run.loopThen (fun (i:Nat) e H=>i≤n∧(∃ d,qf e 5 = some d∧Buf d H (qJ i v))∧qf e 0 = some (.int .u64 (v / 256 ^ i:Nat))∧qf e 1 = some (.int .i64 n)∧qf e 6 = some (.int .i64 i)) (fun i=>n - i) 0 ?_ ?_
 ·simp [qJ,Buf]
 rintro i e H ⟨hi,⟨d,h5,Zx⟩,h0,h1,h6⟩;by_cases qg:i < n
 ·have qk:(i:Int) < (n:Int):=by omega
  have hw:IntKind.i64.wrap ((i:Int)+1) = ((i+1:Nat):Int):=by rw [wrap_i64] <;> omega
  have jK:=qfI i v;have hl:(qJ i v).length≤8:=by simp;omega
  have hq:v / 256 ^ i < 18446744073709551616:=Nat.lt_of_le_of_lt (Nat.div_le_self _ _) hv;have hnx:v / 256 ^ (i+1) = v / 256 ^ i / 256:=by rw [XO,Nat.div_div_eq_div_mul]
  generalize v / 256 ^ i = x at *
  have ht1:(x:Int).tmod 256 = ((x % 256:Nat):Int):=by
   rw [Int.tmod_eq_emod_of_nonneg (Int.natCast_nonneg _)];rfl
  have ZA:(x:Int).tdiv 256 = ((x / 256:Nat):Int):=by
   rw [Int.tdiv_eq_ediv_of_nonneg (Int.natCast_nonneg _)];rfl
  have hx256:x % 256 < 256:=JT _ (by decide)
  have qO:IntKind.u8.wrap ((x % 256:Nat):Int) = ((UInt8.ofNat (x % 256)).toNat:Int):=by
   rw [VU hx256];clear hv hq;generalize x % 256 = y at *;rw [QG];omega
  have zw:IntKind.u64.wrap ((x / 256:Nat):Int) = ((x / 256:Nat):Int):=by
   have:x / 256 < 18446744073709551616:=Nat.lt_of_le_of_lt (Nat.div_le_self _ _) hq;clear hv hq;generalize x / 256 = y at *;rw [qU];omega
  generalize UInt8.ofNat (x % 256) = c at *;clear hv hq;generalize qJ i v = l at *;have vJ:l.length+1≤140737488355328:=kr (Nat.add_le_add_right hl 1) (by decide);rcases Zx with ⟨rfl,rfl,rfl⟩ | ⟨rfl,rfl⟩
  ·simp [h5,h0,h1,h6,qk,hw,ht1,ZA,qO,zw,qI,-Int.natCast_emod,-Int.natCast_ediv];clear vJ;exact ⟨i+1,by omega,by omega,.inr (by simp [jK,qd]),by rw [hnx],rfl⟩
  ·simp [h5,h0,h1,h6,qk,hw,ht1,ZA,qO,zw,qI,vJ,-Int.natCast_emod,-Int.natCast_ediv];clear vJ;exact ⟨i+1,by omega,by omega,.inr (by simp [jK,qd]),by rw [hnx],rfl⟩
 ·have qk:¬ (i:Int) < (n:Int):=by omega
  have h8:i = n:=by omega
  subst h8;have hl:(qJ i v).length = i:=X5 i v;generalize qJ i v = l at *;rcases Zx with ⟨rfl,rfl,rfl⟩ | ⟨rfl,rfl⟩
  ·simp at hl;omega
  ·simp [h5,h0,h1,h6,hl,qx]
theorem qkk [MaxL] [TxtC] (b:Sl UInt8) (hn:b.l.length≤140737488354000):call cx 56 [(.vsl b.nil (qd b.l) b.l.length)] [] = some ((.vsl ((.of (Qk b.l):Sl UInt8)).nil (qd ((.of (Qk b.l):Sl UInt8)).l) ((.of (Qk b.l):Sl UInt8)).l.length),[]):=by
 have h1:=qku 0#32 b (by omega);have h2:=qhM (QD 0#32 b.l).toNat 4 (by decide) (by decide) (Nat.lt_trans (QD 0#32 b.l).isLt (by decide))
 have hw:IntKind.u64.wrap ((QD 0#32 b.l).toNat:Int) = ((QD 0#32 b.l).toNat:Int):=by
  have:=(QD 0#32 b.l).isLt;rw [qU];omega
 have e:Qk b.l = b.l ++ qJ 4 (QD 0#32 b.l).toNat:=rfl;rw [e];simp only [qdk] at h1;generalize (QD 0#32 b.l).toNat = v at *;have zP:(qJ 4 v).length = 4:=X5 4 v;generalize qJ 4 v = z at *
 have h3:call cx 90 [(.vsl b.nil (qd b.l) b.l.length),.int .i64 4,.int .u64 v] [] = some ((.vsl ((.of (b.l ++ z):Sl UInt8)).nil (qd ((.of (b.l ++ z):Sl UInt8)).l) ((.of (b.l ++ z):Sl UInt8)).l.length),[]):=by
  refine qs Tryz.func90 rfl ⟨rfl,rfl⟩ ?_;have zZ:b.l.length≤140737488355328:=by omega
  have zB:b.l.length+4≤140737488355328:=by omega
  have qz:List.take (b.l.length+4) (qd b.l ++ qd z) = qd b.l ++ qd z:=qx (by simp [zP]);replace h2:call cx 87 [.int .u64 v,.int .i64 4] [] = some (.vsl false (qd z) 4,[]):=h2;simp [Tryz.f90,h2,qI,zZ,zB,zP,V5,qz]
 refine qs Tryz.func56 rfl ⟨rfl,rfl⟩ ?_;replace h1:call cx 91 [.int .u32 0,(.vsl b.nil (qd b.l) b.l.length)] [] = some (.int .u32 v,[]):=h1;simp [Tryz.f56,h1,h3,hw]
set_option maxHeartbeats 1000000 in
theorem qr3 [MaxL] (s:Sl UInt8) (a:Nat) (h:a+2≤s.l.length) (_:s.l.length < 4611686018427387904) :
  call cx 117 [(.vsl s.nil (qd s.l) s.l.length),.int .i64 a,.int .i64 2] [] = some (.tup [.int .u64 (leN ((s.l.drop a).take 2)),.bool true],[]):=by
 have hnn:s.nil = false:=Sl.nn (i:=a) (by omega);have g0:¬ (a:Int) < 0:=by omega
 have g1:¬ (s.l.length:Int) < (a:Int):=by omega
 have hw:IntKind.i64.wrap ((s.l.length:Int) - (a:Int)) = (s.l.length:Int) - (a:Int):=by rw [wrap_i64];omega
 have g2:¬ (s.l.length:Int) - (a:Int) < 2:=by omega
 refine qs Tryz.func117 rfl ⟨rfl,rfl⟩ ?_;simp [Tryz.f117,hnn,g0,g1,hw,g2];refine Run.loopThen (fun (i:Nat) e H=>i≤2∧H = []∧qf e 0 = some (.vsl s.nil (qd s.l) s.l.length)∧qf e 1 = some (.int .i64 a)∧qf e 8 = some (.int .u64 (leN ((s.l.drop (a+i)).take (2 - i)):Nat))∧qf e 9 = some (.int .i64 ((i:Int) - 1))) (fun i=>i) 2 (by simp [leN,hnn]) ?_;rintro i e H ⟨hi,rfl,h0,h1,h8,h9⟩;cases i with
 | zero=>simp [h0,h1,h8,h9]
 | succ j =>
  have hj:(0:Int)≤(j:Int):=by omega
  have JG:IntKind.i64.wrap ((a:Int)+(j:Int)) = ((a+j:Nat):Int):=by rw [wrap_i64] <;> omega
  have jX:IntKind.i64.wrap ((j:Int) - 1) = (j:Int) - 1:=by rw [wrap_i64];omega
  have qg:a+j < s.l.length:=by omega
  have e1:((j+1:Nat):Int) - 1 = (j:Int):=by omega
  rw [e1] at h9
  have hd:(s.l.drop (a+j)).take (2 - j) = s.l[a+j] :: (s.l.drop (a+(j+1))).take (2 - (j+1)):=by
   rw [zm qg,show 2 - j = (2 - (j+1))+1 by omega,qeG,Vz]
  have VD:leN ((s.l.drop (a+(j+1))).take (2 - (j+1))) < 256 ^ 7:=by
   refine jP (X4 _) (Y4 (by decide) ?_);rw [js];omega
  have hst:=qhG (leN ((s.l.drop (a+(j+1))).take (2 - (j+1)))) s.l[a+j].toNat s.l[a+j].toNat_lt VD;have vB:IntKind.u64.wrap (s.l[a+j].toNat:Int) = (s.l[a+j].toNat:Int):=by rw [qU];have:=s.l[a+j].toNat_lt;omega
  have g1:(0:Int)≤(a:Int)+(j:Int):=by omega
  have g2:(a:Int)+(j:Int) < (s.l.length:Int):=by omega
  have g3:((a:Int)+(j:Int)).toNat = a+j:=by omega
  simp [h0,h1,h8,h9,hj,JG,jX,vB,hnn,g1,g2,g3,jt qg,-Nat.reduceSubDiff];rw [hst];clear VD hst vB;exact ⟨j,by omega,by omega,by rw [hd,leN,Nat.mul_comm,Nat.add_comm],rfl⟩
theorem qr2 [MaxL] (s:Sl UInt8) (a:Nat) (ha:a≤s.l.length) (h:s.l.length < a+2) (_:s.l.length < 4611686018427387904) :
  call cx 117 [(.vsl s.nil (qd s.l) s.l.length),.int .i64 a,.int .i64 2] [] = some (.tup [.int .u64 0,.bool false],[]):=by
 have g0:¬ (a:Int) < 0:=by omega
 have g1:¬ (s.l.length:Int) < (a:Int):=by omega
 have hw:IntKind.i64.wrap ((s.l.length:Int) - (a:Int)) = (s.l.length:Int) - (a:Int):=by rw [wrap_i64];omega
 have g2:(s.l.length:Int) - (a:Int) < 2:=by omega
 refine qs Tryz.func117 rfl ⟨rfl,rfl⟩ ?_;simp [Tryz.f117,g0,g1,hw,g2]
set_option maxHeartbeats 1000000 in
theorem qk5 [MaxL] (s:Sl UInt8) (a:Nat) (h:a+4≤s.l.length) (_:s.l.length < 4611686018427387904) :
  call cx 117 [(.vsl s.nil (qd s.l) s.l.length),.int .i64 a,.int .i64 4] [] = some (.tup [.int .u64 (leN ((s.l.drop a).take 4)),.bool true],[]):=by
 have hnn:s.nil = false:=Sl.nn (i:=a) (by omega);have g0:¬ (a:Int) < 0:=by omega
 have g1:¬ (s.l.length:Int) < (a:Int):=by omega
 have hw:IntKind.i64.wrap ((s.l.length:Int) - (a:Int)) = (s.l.length:Int) - (a:Int):=by rw [wrap_i64];omega
 have g2:¬ (s.l.length:Int) - (a:Int) < 4:=by omega
 refine qs Tryz.func117 rfl ⟨rfl,rfl⟩ ?_;simp [Tryz.f117,hnn,g0,g1,hw,g2];refine Run.loopThen (fun (i:Nat) e H=>i≤4∧H = []∧qf e 0 = some (.vsl s.nil (qd s.l) s.l.length)∧qf e 1 = some (.int .i64 a)∧qf e 8 = some (.int .u64 (leN ((s.l.drop (a+i)).take (4 - i)):Nat))∧qf e 9 = some (.int .i64 ((i:Int) - 1))) (fun i=>i) 4 (by simp [leN,hnn]) ?_;rintro i e H ⟨hi,rfl,h0,h1,h8,h9⟩;cases i with
 | zero=>simp [h0,h1,h8,h9]
 | succ j =>
  have hj:(0:Int)≤(j:Int):=by omega
  have JG:IntKind.i64.wrap ((a:Int)+(j:Int)) = ((a+j:Nat):Int):=by rw [wrap_i64] <;> omega
  have jX:IntKind.i64.wrap ((j:Int) - 1) = (j:Int) - 1:=by rw [wrap_i64];omega
  have qg:a+j < s.l.length:=by omega
  have e1:((j+1:Nat):Int) - 1 = (j:Int):=by omega
  rw [e1] at h9
  have hd:(s.l.drop (a+j)).take (4 - j) = s.l[a+j] :: (s.l.drop (a+(j+1))).take (4 - (j+1)):=by
   rw [zm qg,show 4 - j = (4 - (j+1))+1 by omega,qeG,Vz]
  have VD:leN ((s.l.drop (a+(j+1))).take (4 - (j+1))) < 256 ^ 7:=by
   refine jP (X4 _) (Y4 (by decide) ?_);rw [js];omega
  have hst:=qhG (leN ((s.l.drop (a+(j+1))).take (4 - (j+1)))) s.l[a+j].toNat s.l[a+j].toNat_lt VD;have vB:IntKind.u64.wrap (s.l[a+j].toNat:Int) = (s.l[a+j].toNat:Int):=by rw [qU];have:=s.l[a+j].toNat_lt;omega
  have g1:(0:Int)≤(a:Int)+(j:Int):=by omega
  have g2:(a:Int)+(j:Int) < (s.l.length:Int):=by omega
  have g3:((a:Int)+(j:Int)).toNat = a+j:=by omega
  simp [h0,h1,h8,h9,hj,JG,jX,vB,hnn,g1,g2,g3,jt qg,-Nat.reduceSubDiff];rw [hst];clear VD hst vB;exact ⟨j,by omega,by omega,by rw [hd,leN,Nat.mul_comm,Nat.add_comm],rfl⟩
theorem qr1 [MaxL] (s:Sl UInt8) (a:Nat) (ha:a≤s.l.length) (h:s.l.length < a+4) (_:s.l.length < 4611686018427387904) :
  call cx 117 [(.vsl s.nil (qd s.l) s.l.length),.int .i64 a,.int .i64 4] [] = some (.tup [.int .u64 0,.bool false],[]):=by
 have g0:¬ (a:Int) < 0:=by omega
 have g1:¬ (s.l.length:Int) < (a:Int):=by omega
 have hw:IntKind.i64.wrap ((s.l.length:Int) - (a:Int)) = (s.l.length:Int) - (a:Int):=by rw [wrap_i64];omega
 have g2:(s.l.length:Int) - (a:Int) < 4:=by omega
 refine qs Tryz.func117 rfl ⟨rfl,rfl⟩ ?_;simp [Tryz.f117,g0,g1,hw,g2]
theorem qrq [MaxL] (b:Sl UInt8) (hn:b.l.length≤140737488354000):call cx 116 [(.vsl b.nil (qd b.l) b.l.length)] [] = some (qcJ b.l,[]):=by
 refine qs Tryz.func116 rfl ⟨rfl,rfl⟩ ?_;unfold qcJ;by_cases h4:b.l.length < 4
 ·rw [if_pos h4];have qg:(b.l.length:Int) < 4:=by omega
  simp [Tryz.f116,qg]
 rw [if_neg h4];obtain ⟨n,ZE⟩:∃ n,b.l.length - 4 = n:=⟨_,rfl⟩;have qO:IntKind.i64.wrap ((b.l.length:Int) - 4) = (n:Int):=by rw [wrap_i64] <;> omega
 have qg:¬ (b.l.length:Int) < 4:=by omega
 have hnn:b.nil = false:=Sl.nn (i:=0) (by omega);have hg:=qk5 b n (by omega) (by omega);rw [qx (by rw [jU];omega)] at hg;have h1:=qku 0#32 (.of (b.l.take n)) (by simp;omega);have hw:=qjw (QD 0#32 (b.l.take n));have JH:(0:Int)≤(n:Int):=by omega
 have zb:n≤b.l.length:=by omega
 have jH:(b.l.take n).length = n:=by rw [js];omega
 have qz:List.take n (qd b.l) = qd (b.l.take n):=kw _ _;have hs:XV b.l = decide (leN (b.l.drop n) = (QD 0#32 (b.l.take n)).toNat):=by unfold XV;rw [ZE]
 rw [hs,ZE];simp only [Sl.of_l,Sl.of_nil,jH] at h1 hw;rw [hnn] at hg;generalize leN (b.l.drop n) = v at *;generalize QD 0#32 (b.l.take n) = c at *;generalize b.l.take n = y at *;replace h1:call cx 91 [.int .u32 0,.vsl false (qd y) n] [] = some (.int .u32 (c.toNat:Nat),[]):=h1;have hcond:((v:Int) = (c.toNat:Int)) = (v = c.toNat):=propext ⟨fun h=>Int.ofNat.inj h,fun h=>congrArg _ h⟩;by_cases hv:v = c.toNat
 ·subst hv;simp [Tryz.f116,qg,qO,hnn,hg,h1,hw,JH,zb,qz,jH]
 ·rw [decide_eq_false hv];simp [Tryz.f116,qg,qO,hnn,hg,h1,hw,JH,zb,qz,hcond,hv]
def q1g (X:List UInt8) (d:D) (H:qi):Prop:= ∃ n,n = X.length∧d = .osl 0 n 0 n 1∧H = [some (qd X)]
set_option maxHeartbeats 4000000 in
theorem qrk [MaxL] (s:Sl It) (m:Sl Mk) (hs:qdi s.l) (hm:∀ x∈m.l,x.Ok) (hmn:m.l.length < 4611686018427387904):call cx 55 [(.vsl s.nil (qh s.l) s.l.length),(.vsl m.nil (qh m.l) m.l.length)] [] = some ((.vsl (Kg s.l m.l).nil (qd (Kg s.l m.l).l) (Kg s.l m.l).l.length),[]):=by
 have hr:=qhg m hmn;refine qs Tryz.func55 rfl ⟨rfl,rfl⟩ ?_;by_cases VN:s.l.length≤64
 case neg =>
  have ZN:(64:Int) < (s.l.length:Int):=by omega
  have hp:J7 s.l m.l = false:=by unfold J7;rw [decide_eq_false VN,Z3]
  rw [qhv hp];simp [Tryz.f55,ZN,Sl.none]
 have ZN:¬ (64:Int) < (s.l.length:Int):=by omega
 cases YR:vm m.l with
 | false =>
  rw [YR] at hr;have hp:J7 s.l m.l = false:=by unfold J7;rw [YR,Z3,Bool.and_false]
  rw [qhv hp];simp [Tryz.f55,ZN,hr,Sl.none]
 | true =>
 rw [YR] at hr;have hw0:IntKind.u64.wrap (s.l.length:Int) = (s.l.length:Int):=by rw [qU];omega
 have h0:=qhM s.l.length 2 (by decide) (by decide) (by omega);replace h0:call cx 87 [.int .u64 (s.l.length:Nat),.int .i64 2] [] = some (.vsl false (qd (qJ 2 s.l.length)) 2,[]):=h0;have h0l:(qJ 2 s.l.length).length = 2:=X5 _ _;have hsg:qd (Kl ++ qJ 2 s.l.length) = .int .u8 68 :: .int .u8 66 :: .int .u8 65 :: .int .u8 84 :: qd (qJ 2 s.l.length):=by rw [V5];rfl
 have hsl:(Kl ++ qJ 2 s.l.length).length = 6:=by rw [qC,h0l];rfl
 have hC0:qcx s.l 0 (Kl ++ qJ 2 s.l.length):=by simp [qcx]
 generalize Kl ++ qJ 2 s.l.length = X0 at *;generalize qJ 2 s.l.length = z0 at *;have htz:List.take 2 (qd z0) = qd z0:=qx (by simp [h0l]);simp [Tryz.f55,ZN,hr,hw0,h0,qI,h0l];refine Run.loopThen (fun (q:Nat × List UInt8) e H=>q.1≤s.l.length∧qcx s.l q.1 q.2∧(∀ x∈s.l.take q.1,zM x = true)∧(∃ d,qf e 5 = some d∧q1g q.2 d H)∧qf e 1 = some (.vsl m.nil (qh m.l) m.l.length)∧qf e 0 = some (.vsl s.nil (qh s.l) s.l.length)∧qf e 6 = some (.int .i64 (q.1:Nat))) (fun q=>s.l.length - q.1) (0,X0) ?_ ?_
 ·exact ⟨jk _,hC0,by simp,⟨_,by simp,6,hsl.symm,rfl,by rw [← hsg]⟩,by simp,by simp,by simp⟩
 rintro ⟨i,X⟩ e H ⟨hi,hX,hok,⟨d,k5,n,hn,rfl,rfl⟩,k1,k0,k6⟩;simp only at hi hX hok hn k6;have hnX:X.length = n:=hn.symm;have htX:List.take n (qd X) = qd X:=qx (by simp;omega);have hfl:=qys (l:=s.l.take i) (fun x hx=>hs x (Jv hx)) hok
 have jD:X.length≤700000:=by
  rw [js] at hfl;have:min i s.l.length * 10004≤64 * 10004:=qbD _ (by omega);unfold qcx at hX;rw [hX,qC,qC,X5];show 4+2+_≤_;omega
 by_cases qg:i < s.l.length
 ·have qk:(i:Int) < (s.l.length:Int):=by omega
  have hw:IntKind.i64.wrap ((i:Int)+1) = ((i+1:Nat):Int):=by rw [wrap_i64] <;> omega
  obtain ⟨x1,x2,x3⟩:=hs s.l[i] (vw qg);have t0:=qd5 s.l[i] x1 x3 x2;have t1:=qkc s.l[i] x1 x3 x2;have vn:List.drop (i * 39) (qh s.l) = Enc.cells s.l[i] ++ qh (s.l.drop (i+1)):=It.ea qg;have htake:s.l.take (i+1) = s.l.take i ++ [s.l[i]]:=qbF qg;cases ho:zM s.l[i] with
  | false =>
   have hp:J7 s.l m.l = false:=by
    unfold J7
    have:s.l.all zM = false:=by
     cases h:s.l.all zM with
     | false=>rfl
     | true=>rw [Y7] at h;rw [h _ (vw qg)] at ho;cases ho
    rw [this,Bool.and_false,Bool.and_false]
   rw [qhv hp];rw [ho] at t0;generalize s.l[i] = x at *;simp [-It.ea,k5,k1,k0,k6,qk,Sl.nn qg,vn,t0,Sl.none]
  | true =>
   rw [ho] at t0;unfold qbP at t1;rw [ho,if_pos rfl] at t1;obtain ⟨tl1,tl2⟩:=qgH x1 ho
   have hX2:qcx s.l (i+1) (X ++ qJ 4 (zH s.l[i]).length ++ zH s.l[i]):=by
    unfold qcx at *;rw [hX,htake,List.flatMap_append];simp [YK]
   have hok2:∀ x∈s.l.take (i+1),zM x = true:=by
    intro x hx;rw [htake] at hx;rcases List.mem_append.1 hx with h | h
    ·exact hok x h
    ·rw [List.mem_singleton.1 h];exact ho
   have a1:=qhM (zH s.l[i]).length 4 (by decide) (by decide) (by omega);replace a1:call cx 87 [.int .u64 ((zH s.l[i]).length:Nat),.int .i64 4] [] = some (.vsl false (qd (qJ 4 (zH s.l[i]).length)) 4,[]):=a1;have Zg:IntKind.u64.wrap ((zH s.l[i]).length:Int) = ((zH s.l[i]).length:Int):=(by rw [qU];omega);generalize zH s.l[i] = t at *;generalize s.l[i] = x at *;have zP:(qJ 4 t.length).length = 4:=X5 _ _;generalize qJ 4 t.length = z at *;have htz4:List.take 4 (qd z) = qd z:=qx (by simp [zP]);have hb1:n+4≤140737488355328:=(by omega);have zE:n+4+t.length≤140737488355328:=(by omega);simp [-It.ea,k5,k1,k0,k6,qk,Sl.nn qg,vn,t0,t1,hw,Zg,qI,a1,hb1,zE,hnX,zP];exact ⟨i+1,by omega,by omega,_,hX2,hok2,⟨n+4+t.length,by rw [qC,qC,hnX,zP],rfl,by rw [V5,V5,vI]⟩,by omega⟩
 ·have qk:¬ (i:Int) < (s.l.length:Int):=by omega
  have vL:s.l.take i = s.l:=qx (by omega);rw [vL] at hok;have vg:s.l.all zM = true:=List.all_eq_true.2 hok;have hp:J7 s.l m.l = true:=by unfold J7;rw [decide_eq_true VN,YR,vg];rfl
  have hb:=qkv m hmn hm;have hbS:kQ m.l = .of (JB m.l):=by unfold kQ;rw [YR];rfl
  rw [hbS] at hb;have hraw:X ++ JB m.l = qaE s.l m.l:=by unfold qcx at hX;rw [hX,vL];unfold qaE;simp
  have hml:(JB m.l).length≤161:=by rw [ql9];have:=qaA YR;omega
  have hc:=qkk (.of (X ++ JB m.l)) (by simp;omega)
  have hS:Kg s.l m.l = if (Qk (X ++ JB m.l)).length≤65536 then .of (Qk (X ++ JB m.l)) else .none:=by
   unfold Kg;rw [hp,hraw,vS];by_cases h:(Qk (qaE s.l m.l)).length≤65536
   ·rw [decide_eq_true h,if_pos rfl,if_pos h]
   ·rw [decide_eq_false h,if_neg (by decide),if_neg h]
  rw [hS];simp only [Sl.of_l,Sl.of_nil] at hc hb;generalize JB m.l = y at *;have hsl:=qbT (X ++ y);generalize Qk (X ++ y) = z at *;rw [V5,qC,hnX] at hc;have hmn2:n+y.length≤140737488355328:=by omega
  have qz:List.take (n+y.length) (qd X ++ qd y) = qd X ++ qd y:=qx (by simp;omega);by_cases h6:z.length≤65536
  ·have h6':¬ (65536:Int) < (z.length:Int):=(by omega);rw [if_pos h6];simp [k5,k1,k0,k6,qk,hb,hc,qI,h6',qz,hmn2,hnX]
  ·have h6':(65536:Int) < (z.length:Int):=(by omega);rw [if_neg h6];simp [k5,k1,k0,k6,qk,hb,hc,qI,h6',qz,hmn2,hnX,Sl.none]
theorem qtE [MaxL] (s:Sl UInt8) (h2:s.l.length≤1000000):call cx 92 [(.vsl s.nil (qd s.l) s.l.length)] [] = some (.osl 0 s.l.length 0 s.l.length 1,[some (qd s.l)]):=by
 have hm:s.l.length≤140737488355328:=by omega
 refine qs Tryz.func92 rfl ⟨rfl,rfl⟩ ?_;simp [Tryz.f92,qI,hm]
theorem qtb {o:List UInt8} {j:Nat} (h:j < o.length) {x:Nat} (hx:x < 256):List.take j (qd o) ++ D.int .u8 (x:Int) :: List.drop (j+1) (qd o) = qd (o.set j (UInt8.ofNat x)):=by
 rw [List.set_eq_take_append_cons_drop,if_pos h,V5,YH,kw,Ze,VU hx]
def qoI (b:List UInt8) (q:D × qi):Prop:= ∃ o:List UInt8,o.length = b.length∧q = (.vsl false (qd o) o.length,[])
set_option maxHeartbeats 2000000 in
theorem qpX [MaxL] (b:Sl UInt8) (hb:b.l.length≤100000) (nil:Bool) (zs:List Int) (qM:nil = true→zs = []) (hz:zs.length≤1000000) (y:UInt8):∃ q,call cx 57 [(.vsl b.nil (qd b.l) b.l.length),.vsl nil (je .i64 zs) zs.length,.int .u8 y.toNat] [] = some q∧qoI b.l q:=by
 refine vH (X:=cx) (f:=57) (args:=[(.vsl b.nil (qd b.l) b.l.length),.vsl nil (je .i64 zs) zs.length,.int .u8 y.toNat]) (H:=[]) (qoI b.l) Tryz.func57 rfl ⟨rfl,rfl⟩ ?_;have c1:=qtE b (by omega);simp [Tryz.f57,c1];refine Run.loopThen (fun (q:Nat × List UInt8) e H'=>q.1≤zs.length∧q.2.length = b.l.length∧H' = [some (qd q.2)]∧qf e 1 = some (.vsl nil (je .i64 zs) zs.length)∧qf e 2 = some (.int .u8 (y.toNat:Nat))∧qf e 7 = some (.osl 0 b.l.length 0 b.l.length 1)∧qf e 8 = some (.int .i64 (q.1:Nat))) (fun q=>zs.length - q.1) (0,b.l) ⟨jk _,rfl,by simp,by simp,by simp,by simp,by simp⟩ ?_;rintro ⟨k,o⟩ e H' ⟨hk,ho,rfl,k1,k2,k7,k8⟩;simp only at hk ho k8;by_cases qg:k < zs.length
 ·have qk:(k:Int) < (zs.length:Int):=by omega
  have Ku:nil = false:=by
   cases nil with
   | false=>rfl
   | true=>rw [qM rfl] at qg;exact absurd qg (Nat.not_lt_zero _)
  have hw:IntKind.i64.wrap ((k:Int)+1) = ((k+1:Nat):Int):=by rw [wrap_i64] <;> omega
  have qW:=qhZ (k:=.i64) qg;by_cases h0:0 < b.l.length
  ·obtain ⟨j,hj,c2⟩:=ql1 zs[k] b.l.length (by omega) (by omega);have hjo:j < o.length:=(by omega);have hx:=qoX (a:=o[j].toNat) (b:=y.toNat) (UInt8.toNat_lt _) (UInt8.toNat_lt _);have hat2:=jt hjo;have hjb:j < b.l.length:=(by omega);have hj1:j+1≤b.l.length:=(by omega);have hput:=qtb hjo (x:=o[j].toNat ^^^ y.toNat) (Nat.xor_lt_two_pow (n:=8) (UInt8.toNat_lt _) (UInt8.toNat_lt _));simp [k1,k2,k7,k8,qk,hw,qW,Ku,h0,c2,hx,hat2,hjb,ho,hj1,hput];exact ⟨k+1,by omega,by omega,_,by simp [ho],rfl,by omega⟩
  ·have jL:b.l.length = 0:=(by omega);have ho0:o = []:=VX (by omega);subst ho0;simp [k1,k2,k7,k8,qk,jL];exact ⟨[],by rw [jL];rfl,rfl⟩
 ·have qk:¬ (k:Int) < (zs.length:Int):=by omega
  have qz:List.take b.l.length (qd o) = qd o:=qx (by simp [ho]);simp [k1,k2,k7,k8,qk,qz,ho];exact ⟨o,ho,by rw [ho]⟩
theorem qa4 (z:Int):qA (IntKind.u64.wrap z):=by
 simp only [IntKind.wrap,IntKind.signed,IntKind.bits];simp;unfold qA;omega
def Y5 (f:List Mk):Prop:= ∀ m∈f,m.Ok
theorem qkt (v n:Int):qA (QJ v n):=by
 unfold QJ;split
 ·unfold kV qA;decide
 ·exact qa4 _
theorem qkf {m:Mk} {x:It} (hm:m.Ok) (hx:x.Ok) (o:Bool):(J2 m x o).Ok:=by
 unfold J2;split
 ·exact ⟨hx.til,qkt _ _,hm.over⟩
 ·refine ⟨hx.rc.seq,hm.lost,?_⟩;simp only;split
  ·exact qkt _ _
  ·exact hm.over
theorem qki (m:Mk):∀ (l:List Mk) (i:Bool) (y:Mk),y∈(jm m l i).1→y = m∨y∈l
 | [],i,y,h=>by simp [jm] at h
 | a :: l,i,y,h=>by
  have ih:=qki m l;simp only [jm,qbH] at h;rcases h with (h | h) | h
  ·split at h
   ·exact .inl (List.mem_singleton.1 h)
   ·cases h
  ·split at h
   ·exact .inr (List.mem_cons.2 (.inl (List.mem_singleton.1 h)))
   ·cases h
  ·rcases ih _ _ h with h | h
   ·exact .inl h
   ·exact .inr (kU _ h)
theorem qkd {f:List Mk} {x:It} (hf:Y5 f) (hx:x.Ok) (o:Bool):Y5 (XY f x o):=by
 intro y hy;unfold XY Zn at hy;rcases List.mem_append.1 hy with h | h
 ·rcases qki _ _ _ _ h with rfl | h
  ·exact qkf (qis hf x.id) hx o
  ·exact hf y h
 ·split at h
  ·cases h
  ·rw [List.mem_singleton.1 h];exact qkf (qis hf x.id) hx o
theorem qqM {f:List Mk} {x:It} {o:Bool} (h:YA f x o = 0):(XY f x o).length≤9:=by
 have hr:vm f = true:=by
  cases hc:vm f with
  | true=>rfl
  | false =>
   unfold YA J3 at h;simp [hc] at h
 have h4:=qaA hr;unfold XY Zn;have:=qfk (J2 (jz f x.id) x o) f false;rw [qC];split <;> simp <;> omega
theorem qsf (l:List It) (m:List Mk):(Kg l m).l.length≤65536:=by
 unfold Kg;split
 ·rename_i h;rw [qT,decide_eq_true_eq] at h;simpa using h.2
 ·simp
@[simp] theorem It.s17 (m:It) (x:Int):qH (Enc.cells m) 17 [.int .u64 x] = Enc.cells { m with fr:=x }:=by simp [qH,It.cells,zW,qD,zC,qx]
@[simp] theorem It.s18 (m:It) (x:Int):qH (Enc.cells m) 18 [.int .u64 x] = Enc.cells { m with til:=x }:=by simp [qH,It.cells,zW,qD,zC,qx]
@[simp] theorem It.s19 (m:It) (x:Int):qH (Enc.cells m) 19 [.int .u64 x] = Enc.cells { m with rc:={ m.rc with seq:=x } }:=by simp [qH,It.cells,zW,qD,zC,qx]
def JC (it:It) (n:Int):It:=if it.gap then { it with fr:=IntKind.u64.wrap (it.fr+n),til:=IntKind.u64.wrap (it.til+n) } else { it with rc:={ it.rc with seq:=IntKind.u64.wrap (it.rc.seq+n) } }
theorem qug [MaxL] (it:It) (n:Int):call cx 53 [.agg (Enc.cells it),.int .u64 n] [] = some (.agg (Enc.cells (JC it n)),[]):=by
 refine qs Tryz.func53 rfl ⟨rfl,rfl⟩ ?_;unfold JC;cases hg:it.gap with
 | true =>
  simp [Tryz.f53,hg]
 | false =>
  simp [Tryz.f53,hg]
theorem quh {it:It} {n:Int} (h:it.Ok∧it.rc.fields.l.length < 1000000∧∀ p∈it.rc.fields.l,Qw p):(JC it n).Ok∧(JC it n).rc.fields.l.length < 1000000∧∀ p∈(JC it n).rc.fields.l,Qw p:=by
 obtain ⟨h1,h2,h3⟩:=h;unfold JC;split
 ·exact ⟨⟨qa4 _,qa4 _,h1.rc⟩,h2,h3⟩
 ·exact ⟨⟨h1.fr,h1.til,⟨qa4 _,h1.rc.real,h1.rc.mono⟩⟩,h2,h3⟩
def VK (s:RSt) (e:Int):RSt:=if s.ep < e then ⟨e,0,s.its,s.mks⟩ else s
theorem qos (l:List Mk):(kQ l).l.length≤1000:=by
 unfold kQ;split
 ·rename_i h;have:=qaA h;rw [Sl.of_l,ql9];omega
 ·simp
def jc (s:RSt) (q:Rq):Int × Sl UInt8 × RSt :=
 if q.epoch < s.ep then (409,.none,s)
 else if q.path = jq then (if 0 < q.body.l.length then (400,.none,s) else (200,kQ s.mks.l,VK s q.epoch))
 else ((jr s q).1,.none,(jr s q).2)
def kl (s:RSt) (b:List UInt8):Sl UInt8 × RSt :=
 if (zL b).2≠0 then (kc ⟨400,0,0,.none⟩,s)
 else (kc ⟨(jc s (zL b).1).1,(jc s (zL b).1).2.2.ep,(zL b).1.number,(jc s (zL b).1).2.1⟩,(jc s (zL b).1).2.2)
structure RInv (s:RSt) (n:Nat):Prop where
 ep:qA s.ep
 la:qA s.la
 ok:Y5 s.mks.l
 len:s.mks.l.length≤4
 right:vm s.mks.l = true
 its:∀ x∈s.its,GotI x
 num:s.its.length≤n
theorem RInv.more {s:RSt} {n m:Nat} (h:RInv s n) (ZD:n≤m):RInv s m:=⟨h.ep,h.la,h.ok,h.len,h.right,h.its,kr h.num ZD⟩
theorem qrw:RInv ⟨0,0,[],.none⟩ 0:=⟨by constructor <;> decide,by constructor <;> decide,fun m hm=>(by cases hm),by simp,rfl,fun x hx=>(by cases hx),by simp⟩
theorem qxY {b:List UInt8} {l:List It} {m:List Mk} (hb:b.length≤65536) (h:vP b = (l,m,0)):vm m = true:=by
 have h1:=(qir hb h).1;unfold Kg at h1;by_cases hc:(J7 l m && decide ((Qk (qaE l m)).length≤65536)) = true
 ·rw [qT] at hc;have:=hc.1;unfold J7 at this;simp only [qT] at this;exact this.2.1
 ·rw [if_neg hc] at h1;have:=congrArg Sl.nil h1;simp at this
theorem qeB (s:RSt) (q:Rq) (_:q.body.l.length≤65536):((jr s q).2 = s∧((jr s q).1 = 400∨(jr s q).1 = 409))∨((jr s q).2 = s∧(jr s q).1 = 200∧q.epoch≤s.ep∧q.number = s.la∧q.number≠0) ∨
  ∃ l m t,vP q.body.l = (l,m,0)∧JM l s.mks.l = some t∧kH t m = true∧kH s.mks.l m = true∧q.epoch≤s.ep∧q.number≠0∧jr s q = (200,⟨s.ep,q.number,s.its ++ l,Sl.grown m⟩):=by
 unfold jr;by_cases h1:s.ep < q.epoch
 ·rw [if_pos h1];exact .inl ⟨rfl,.inr rfl⟩
 rw [if_neg h1];by_cases h2:q.number = s.la∧q.number≠0
 ·rw [if_pos h2];exact .inr (.inl ⟨rfl,rfl,by omega,h2.1,h2.2⟩)
 rw [if_neg h2];by_cases h3:q.number≠IntKind.u64.wrap (s.la+1)∨q.number = 0
 ·rw [if_pos h3];exact .inl ⟨rfl,.inr rfl⟩
 rw [if_neg h3];obtain ⟨⟨l,m,c⟩,hg⟩:∃ g,g = vP q.body.l:=⟨_,rfl⟩;rw [← hg];unfold qav;simp only;by_cases hc:c = 0
 case neg =>
  rw [if_pos hc];exact .inl ⟨rfl,.inl rfl⟩
 subst hc;rw [if_neg (fun h=>h rfl)];cases hf:JM l s.mks.l with
 | none=>exact .inl ⟨rfl,.inl rfl⟩
 | some t =>
  simp only;by_cases hle:(kH t m && kH s.mks.l m) = true
  ·rw [if_pos hle];rw [qT] at hle;exact .inr (.inr ⟨l,m,t,rfl,hf,hle.1,hle.2,by omega,fun h=>h3 (.inr h),rfl⟩)
  ·rw [if_neg hle];exact .inl ⟨rfl,.inl rfl⟩
theorem q04 {s:RSt} {n:Nat} (h:RInv s n) (q:Rq) (hb:q.body.l.length≤65536) (hq:qA q.number):RInv (jr s q).2 (n+64):=by
 rcases qeB s q hb with ⟨h1,_⟩ | ⟨h1,_⟩ | ⟨l,m,t,hg,hf,ja,jv,_,_,h1⟩
 ·rw [h1];exact h.more (by omega)
 ·rw [h1];exact h.more (by omega)
 ·rw [h1];obtain ⟨h2,h3,h4,h5,h6⟩:=qir hb hg;refine ⟨h.ep,hq,h4,h6,qxY hb hg,fun x hx=>?_,?_⟩
  ·rcases List.mem_append.1 hx with hx | hx
   ·exact h.its x hx
   ·exact h3 x hx
  ·have:=h.num;simp only [qC];omega
theorem qm5 {s:RSt} {n:Nat} (h:RInv s n) {e:Int} (he:qA e):RInv (VK s e) n:=by
 unfold VK;by_cases hc:s.ep < e
 ·rw [if_pos hc];exact ⟨he,by constructor <;> (simp only;decide),h.ok,h.len,h.right,h.its,h.num⟩
 ·rw [if_neg hc];exact h
theorem qoA {s:RSt} {n:Nat} (h:RInv s n) (q:Rq) (hb:q.body.l.length≤65536) (he:qA q.epoch) (hq:qA q.number):RInv (jc s q).2.2 (n+64):=by
 unfold jc
 repeat' split
 ·exact h.more (by omega)
 ·exact h.more (by omega)
 ·exact (qm5 h he).more (by omega)
 ·exact q04 h q hb hq
theorem qbN {n:Nat} (h:n < 18446744073709551616):qA (n:Int):=⟨by omega,by omega⟩
theorem qxM {s:RSt} {n:Nat} (h:RInv s n) (b:List UInt8):RInv (kl s b).2 (n+64):=by
 unfold kl;by_cases hc:(zL b).2 = 0
 ·rw [if_neg (fun h=>h hc)];obtain ⟨p,x,y,body,hp,hq,_,hx,hy,hl⟩:=qdF hc;rw [hq];exact qoA h _ (by simpa using hl) (qbN hx) (qbN hy)
 ·rw [if_pos hc];exact h.more (by omega)
theorem qqq [MaxL] (s:RSt) (hm:s.mks.l.length≤4) (hok:Y5 s.mks.l) (d:D) (T:qi) (zY:Shp s.its d T) (e n:Int) (o:Sl UInt8) :
  call cx 35 [.optr 0 4 0,.agg [.str jq,.int .u64 e,.int .u64 n,(.vsl o.nil (qd o.l) o.l.length)]] (some (s.A d) :: T) = some (if 0 < o.l.length then .tup [.int .i64 400,.vsl true [] 0] else .tup [.int .i64 200,(.vsl (kQ s.mks.l).nil (qd (kQ s.mks.l).l) (kQ s.mks.l).l.length)],some ((if 0 < o.l.length then s else VK s e).A d) :: T):=by
 have h1:=q0h s.mks (by omega) hok;obtain ⟨ep,la,its,mk⟩:=s;unfold VK;simp only [RSt.A] at zY h1 hm ⊢;generalize kQ mk.l = z at *;obtain ⟨on,ho⟩:∃ on,o.l.length = on:=⟨_,rfl⟩;rcases zY with ⟨rfl,rfl,rfl⟩ | ⟨qt,n1,k1,zO,hk1,rfl,rfl⟩
 ·by_cases h0:0 < on
  ·have Qi:(0:Int) < (on:Int):=(by omega);rw [ho,if_pos h0,if_pos h0];refine qs Tryz.func35 rfl ⟨rfl,rfl⟩ ?_;simp [Tryz.f35,h0]
  ·have Qi:on = 0:=(by omega);rw [ho,if_neg h0,if_neg h0];refine qs Tryz.func35 rfl ⟨rfl,rfl⟩ ?_;by_cases h:ep < e
   ·simp [Tryz.f35,h1,h,Qi]
   ·simp [Tryz.f35,h1,h,Qi]
 ·by_cases h0:0 < on
  ·have Qi:(0:Int) < (on:Int):=(by omega);rw [ho,if_pos h0,if_pos h0];refine qs Tryz.func35 rfl ⟨rfl,rfl⟩ ?_;simp [Tryz.f35,h0]
  ·have Qi:on = 0:=(by omega);rw [ho,if_neg h0,if_neg h0];refine qs Tryz.func35 rfl ⟨rfl,rfl⟩ ?_;by_cases h:ep < e
   ·simp [Tryz.f35,h1,h,Qi]
   ·simp [Tryz.f35,h1,h,Qi]
set_option maxHeartbeats 2000000 in
theorem qm7 [MaxL] {s:RSt} {N:Nat} (hI:RInv s N) (hN:N≤100000) (d:D) (T:qi) (zY:Shp s.its d T) (b:Sl UInt8) (hb:b.l.length≤90000) :
  ∃ r,call cx 12 [.optr 0 4 0,(.vsl b.nil (qd b.l) b.l.length)] (some (s.A d) :: T) = some r∧HearQ (kl s b.l).2 (kl s b.l).1 r:=by
 have h1:=qht b hb;have hm:=hI.len;have vL:=hI.num;by_cases hc:(zL b.l).2 = 0
 case neg =>
  have hS:kl s b.l = (kc ⟨400,0,0,.none⟩,s):=by unfold kl;rw [if_pos hc]
  rw [hS];have h2:=qdI ⟨400,0,0,.none⟩ ⟨by simp,by simp⟩ ⟨by simp,by simp⟩ (by simp);generalize (zL b.l).2 = c at *;generalize (zL b.l).1 = q0 at *;obtain ⟨p,e,n,o⟩:=q0;obtain ⟨ep,la,its,mk⟩:=s;simp only [Rq.cells,Rs.cells,RSt.A] at h1 h2 zY ⊢
  try simp at h2
  generalize kc ⟨400,0,0,.none⟩ = z at *;rcases zY with ⟨rfl,rfl,rfl⟩ | ⟨qt,n1,k1,zO,hk1,rfl,rfl⟩
  ·refine vH (X:=cx) (f:=12) (args:=[.optr 0 4 0,(.vsl b.nil (qd b.l) b.l.length)]) (H:=[some [.int .u64 ep,.int .u64 la,.vsl true [] 0,(.vsl mk.nil (qh mk.l) mk.l.length)]]) (HearQ ⟨ep,la,[],mk⟩ z) Tryz.func12 rfl ⟨rfl,rfl⟩ ?_;simp [Tryz.f12,h1,h2,hc];exact HearQ.mk (.inl ⟨rfl,rfl,rfl⟩)
  ·refine vH (X:=cx) (f:=12) (args:=[.optr 0 4 0,(.vsl b.nil (qd b.l) b.l.length)]) (H:=[some [.int .u64 ep,.int .u64 la,.osl 1 n1 0 k1 39,(.vsl mk.nil (qh mk.l) mk.l.length)],some (qh its)]) (HearQ ⟨ep,la,its,mk⟩ z) Tryz.func12 rfl ⟨rfl,rfl⟩ ?_;simp [Tryz.f12,h1,h2,hc];exact HearQ.mk (.inr ⟨qt,n1,k1,zO,hk1,rfl,rfl⟩)
 obtain ⟨p,x,y,body,hp,hq,_,hx,hy,hl⟩:=qdF hc
 have hS:kl s b.l = (kc ⟨(jc s ⟨p,x,y,.of body⟩).1,(jc s ⟨p,x,y,.of body⟩).2.2.ep,y,(jc s ⟨p,x,y,.of body⟩).2.1⟩,(jc s ⟨p,x,y,.of body⟩).2.2):=by
  unfold kl;rw [if_neg (fun h=>h hc),hq]
 have ux:=qbN hx;have uy:=qbN hy;have hr:zL b.l = (⟨p,x,y,.of body⟩,0):=by rw [← hq,← hc]
 by_cases qg:(x:Int) < s.ep
 ·have hA:jc s ⟨p,x,y,.of body⟩ = (409,.none,s):=by unfold jc;rw [if_pos qg]
  rw [hA] at hS;simp only at hS;rw [hS];rw [hr] at h1;have h2:=qdI ⟨409,s.ep,y,.none⟩ hI.ep uy (by simp);obtain ⟨ep,la,its,mk⟩:=s;simp only [Rq.cells,Rs.cells,RSt.A] at h1 h2 zY qg ⊢
  try simp at h2
  generalize kc ⟨409,ep,y,.none⟩ = z at *;obtain ⟨o,ho⟩:∃ o,o = Sl.of body:=⟨_,rfl⟩;rw [← ho] at h1;rcases zY with ⟨rfl,rfl,rfl⟩ | ⟨qt,n1,k1,zO,hk1,rfl,rfl⟩
  ·refine vH (X:=cx) (f:=12) (args:=[.optr 0 4 0,(.vsl b.nil (qd b.l) b.l.length)]) (H:=[some [.int .u64 ep,.int .u64 la,.vsl true [] 0,(.vsl mk.nil (qh mk.l) mk.l.length)]]) (HearQ ⟨ep,la,[],mk⟩ z) Tryz.func12 rfl ⟨rfl,rfl⟩ ?_;simp [Tryz.f12,h1,h2,qg];exact HearQ.mk (.inl ⟨rfl,rfl,rfl⟩)
  ·refine vH (X:=cx) (f:=12) (args:=[.optr 0 4 0,(.vsl b.nil (qd b.l) b.l.length)]) (H:=[some [.int .u64 ep,.int .u64 la,.osl 1 n1 0 k1 39,(.vsl mk.nil (qh mk.l) mk.l.length)],some (qh its)]) (HearQ ⟨ep,la,its,mk⟩ z) Tryz.func12 rfl ⟨rfl,rfl⟩ ?_;simp [Tryz.f12,h1,h2,qg];exact HearQ.mk (.inr ⟨qt,n1,k1,zO,hk1,rfl,rfl⟩)
 rcases hp with rfl | rfl
 case inr =>
  have hA:jc s ⟨zQ,x,y,.of body⟩ = ((jr s ⟨zQ,x,y,.of body⟩).1,.none,(jr s ⟨zQ,x,y,.of body⟩).2):=by
   unfold jc;rw [if_neg qg,if_neg (show ¬ zQ = jq by decide)]
  rw [hA] at hS;rw [hS,qo3];exact qxL s (by omega) (by omega) d T zY b hb x y (.of body) hr qg hI.ep uy (by simp;omega)
 have hh:=qqq s hm hI.ok d T zY x y (.of body);have QT:=qos s.mks.l;have hs:(jq == [47,104,101,108,108,111]) = true:=by decide
 rw [hr] at h1;by_cases h0:0 < body.length
 ·have hA:jc s ⟨jq,x,y,.of body⟩ = (400,.none,s):=by
   unfold jc;rw [if_neg qg,if_pos rfl,if_pos (by simpa using h0)]
  rw [hA] at hS;simp only at hS;rw [hS];have Qi:0 < (Sl.of body).l.length:=h0;rw [if_pos Qi,if_pos Qi] at hh;have h2:=qdI ⟨400,s.ep,y,.none⟩ hI.ep uy (by simp);obtain ⟨ep,la,its,mk⟩:=s;simp only [Rq.cells,Rs.cells,RSt.A] at h1 h2 hh zY qg ⊢
  try simp at h2
  generalize kc ⟨400,ep,y,.none⟩ = z at *;obtain ⟨o,ho⟩:∃ o,o = Sl.of body:=⟨_,rfl⟩;rw [← ho] at h1 hh;rcases zY with ⟨rfl,rfl,rfl⟩ | ⟨qt,n1,k1,zO,hk1,rfl,rfl⟩
  ·refine vH (X:=cx) (f:=12) (args:=[.optr 0 4 0,(.vsl b.nil (qd b.l) b.l.length)]) (H:=[some [.int .u64 ep,.int .u64 la,.vsl true [] 0,(.vsl mk.nil (qh mk.l) mk.l.length)]]) (HearQ ⟨ep,la,[],mk⟩ z) Tryz.func12 rfl ⟨rfl,rfl⟩ ?_;simp [Tryz.f12,h1,h2,hh,qg,hs];exact HearQ.mk (.inl ⟨rfl,rfl,rfl⟩)
  ·refine vH (X:=cx) (f:=12) (args:=[.optr 0 4 0,(.vsl b.nil (qd b.l) b.l.length)]) (H:=[some [.int .u64 ep,.int .u64 la,.osl 1 n1 0 k1 39,(.vsl mk.nil (qh mk.l) mk.l.length)],some (qh its)]) (HearQ ⟨ep,la,its,mk⟩ z) Tryz.func12 rfl ⟨rfl,rfl⟩ ?_;simp [Tryz.f12,h1,h2,hh,qg,hs];exact HearQ.mk (.inr ⟨qt,n1,k1,zO,hk1,rfl,rfl⟩)
 have hA:jc s ⟨jq,x,y,.of body⟩ = (200,kQ s.mks.l,VK s x):=by
  unfold jc;rw [if_neg qg,if_pos rfl,if_neg (by simpa using h0)]
 rw [hA] at hS;simp only at hS;rw [hS];have Qi:¬ 0 < (Sl.of body).l.length:=h0;rw [if_neg Qi,if_neg Qi] at hh;have XE:=(qm5 hI ux).ep;have hii:(VK s x).its = s.its:=by unfold VK;split <;> rfl
 have h2:=qdI ⟨200,(VK s x).ep,y,kQ s.mks.l⟩ XE uy (by simp only;omega);generalize VK s x = s' at *;obtain ⟨ep,la,its,mk⟩:=s;obtain ⟨ep',la',its',mk'⟩:=s';simp only at hii;subst hii;simp only [Rq.cells,Rs.cells,RSt.A] at h1 h2 hh zY qg ⊢;generalize kc ⟨200,ep',y,kQ mk.l⟩ = z at *;generalize kQ mk.l = w at *;obtain ⟨o,ho⟩:∃ o,o = Sl.of body:=⟨_,rfl⟩;rw [← ho] at h1 hh;rcases zY with ⟨rfl,rfl,rfl⟩ | ⟨qt,n1,k1,zO,hk1,rfl,rfl⟩
 ·refine vH (X:=cx) (f:=12) (args:=[.optr 0 4 0,(.vsl b.nil (qd b.l) b.l.length)]) (H:=[some [.int .u64 ep,.int .u64 la,.vsl true [] 0,(.vsl mk.nil (qh mk.l) mk.l.length)]]) (HearQ ⟨ep',la',[],mk'⟩ z) Tryz.func12 rfl ⟨rfl,rfl⟩ ?_;simp [Tryz.f12,h1,h2,hh,qg,hs];exact HearQ.mk (.inl ⟨rfl,rfl,rfl⟩)
 ·refine vH (X:=cx) (f:=12) (args:=[.optr 0 4 0,(.vsl b.nil (qd b.l) b.l.length)]) (H:=[some [.int .u64 ep,.int .u64 la,.osl 1 n1 0 k1 39,(.vsl mk.nil (qh mk.l) mk.l.length)],some (qh its')]) (HearQ ⟨ep',la',its',mk'⟩ z) Tryz.func12 rfl ⟨rfl,rfl⟩ ?_;simp [Tryz.f12,h1,h2,hh,qg,hs];exact HearQ.mk (.inr ⟨qt,n1,k1,zO,hk1,rfl,rfl⟩)
theorem qrf [MaxL] (s:Sl UInt8) (hs:s.l.length < 1000000):call cx 118 [(.vsl s.nil (qd s.l) s.l.length)] [] = some (.tup [.agg (Enc.cells (KM s.l)),.int .i64 (V4 s.l:Nat),.int .i64 (J6 s.l)],[]):=by
 have h:=qre s hs
 rwa [qrL,qkN] at h
def q1n (out:List It) (d:D) (H:qi):Prop:=(out = []∧d = .vsl true [] 0∧H = [])∨(out≠[]∧∃ n k,n = out.length * 39∧k = out.length∧((∃ t u,d = .osl 2 n 0 k 39∧H = [some t,some u,some (qh out)])∨(∃ t u,d = .osl 0 n 0 k 39∧H = [some (qh out),some t,some u])))
theorem qrR {b:List UInt8} {l:List Mk} (h:vi b = (l,0)):l.length≤4:=by
 cases b with
 | nil=>cases h
 | cons c r =>
  unfold vi at h;simp only at h;split at h
  ·cases h
  ·rename_i h4;obtain ⟨l',e1,e2,e3,e4,e5,e6⟩:=qhs c.toNat r [] l rfl (fun m hm=>by cases hm) h;rw [e1,ZW];omega
set_option maxHeartbeats 4000000 in
set_option maxRecDepth 4000 in
theorem qrz [MaxL] (b:Sl UInt8) (hn:b.l.length < 1000000):call cx 80 [(.vsl b.nil (qd b.l) b.l.length)] [] = some (jl (vP b.l),[]):=by
 have ji:=qrq b (by omega);refine qs Tryz.func80 rfl ⟨rfl,rfl⟩ ?_;unfold qcJ at ji;by_cases h4:b.l.length < 4
 ·have hg:vP b.l = ([],[],22):=by unfold vP;rw [if_pos h4]
  rw [if_pos h4] at ji;rw [hg];simp [Tryz.f80,ji,jl,Sl.grown]
 rw [if_neg h4] at ji;cases hs:XV b.l with
 | false =>
  have hg:vP b.l = ([],[],19):=by unfold vP;rw [if_neg h4,hs];rfl
  rw [hs,if_neg (by decide)] at ji;rw [hg];simp [Tryz.f80,ji,jl,Sl.grown]
 | true =>
 have hg:vP b.l = qam (b.l.take (b.l.length - 4)):=by unfold vP;rw [if_neg h4,hs];rfl
 rw [hs,if_pos rfl] at ji;rw [hg];have hxl:(b.l.take (b.l.length - 4)).length < 1000000:=by rw [js];omega
 generalize b.l.take (b.l.length - 4) = x at *;simp only [Sl.of_l,Sl.of_nil] at ji;clear hg hs h4;unfold qam;by_cases hx4:x.length < 4
 ·have Ko:(x.length:Int) < 4:=by omega
  rw [if_pos hx4];simp [Tryz.f80,ji,jl,Sl.grown,Ko]
 rw [if_neg hx4];have Ko:¬ (x.length:Int) < 4:=by omega
 have hx4n:4≤x.length:=by omega
 have hx4i:(4:Int)≤(x.length:Int):=by omega
 have qz:List.take 4 (qd x) = qd (x.take 4):=kw _ _;have htl4:(x.take 4).length = 4:=by rw [js];omega
 have hpk:pre Kl x = true↔x.take 4 = [68,66,65,84]:=by
  unfold pre Kl;simp
 cases hp:pre Kl x with
 | false =>
  have qt:¬ x.take 4 = [68,66,65,84]:=fun h=>by rw [hpk.2 h] at hp;cases hp
  rw [if_neg (by decide)];generalize x.take 4 = x4 at *;simp [Tryz.f80,ji,jl,Sl.grown,Ko,hx4i,qz,qt,htl4]
 | true =>
 have hsg:=hpk.1 hp;rw [if_pos rfl];by_cases hx6:x.length < 6
 ·rw [if_pos hx6];have jv:=qr2 (.of x) 4 (by rw [Sl.of_l];omega) (by rw [Sl.of_l];omega) (by rw [Sl.of_l];omega);replace jv:call cx 117 [.vsl false (qd x) x.length,.int .i64 4,.int .i64 2] [] = some (.tup [.int .u64 0,.bool false],[]):=jv;simp [Tryz.f80,ji,jl,Sl.grown,Ko,hx4i,qz,hsg,jv]
 rw [if_neg hx6];have jv:=qr3 (.of x) 4 (by rw [Sl.of_l];omega) (by rw [Sl.of_l];omega);replace jv:call cx 117 [.vsl false (qd x) x.length,.int .i64 4,.int .i64 2] [] = some (.tup [.int .u64 (leN ((x.drop 4).take 2):Nat),.bool true],[]):=jv;generalize leN ((x.drop 4).take 2) = many at *;by_cases VN:64 < many
 ·rw [if_pos VN];have ZN:(64:Int) < (many:Int):=by omega
  simp [Tryz.f80,ji,jl,Sl.grown,Ko,hx4i,qz,hsg,jv,ZN]
 rw [if_neg VN];have ZN:¬ (64:Int) < (many:Int):=by omega
 obtain ⟨G,hG⟩:∃ G,Zz many (x.drop 6) [] = G:=⟨_,rfl⟩;rw [hG];simp [Tryz.f80,ji,Ko,hx4i,qz,hsg,jv,ZN];refine Run.loopThen (fun (q:Nat × Nat × List It) e H=>q.1≤many∧Zz (many - q.1) (x.drop q.2.1) q.2.2 = G∧q.2.2.length = q.1∧q.2.1≤x.length∧qf e 5 = some (.vsl false (qd x) x.length)∧(∃ d,qf e 9 = some d∧q1n q.2.2 d H)∧qf e 7 = some (.int .u64 (many:Nat))∧qf e 10 = some (.int .i64 (q.2.1:Nat))∧qf e 11 = some (.int .i64 (q.1:Nat))) (fun q=>many - q.1) (0,6,[]) ?_ ?_
 ·exact ⟨jk _,hG,rfl,(by omega:6≤x.length),by simp,⟨_,by simp,.inl ⟨rfl,rfl,rfl⟩⟩,by simp,by simp,by simp⟩
 rintro ⟨i,a,out⟩ e H ⟨hi,hR,ho,kD,k5,⟨d,k9,hH⟩,k7,k10,k11⟩;simp only at hi hR ho kD hH k10 k11
 have QU:(out = []∧d = .vsl true [] 0∧H = [])∨(∃ n k,n = out.length * 39∧k = out.length∧out≠[]∧List.take n (qh out) = qh out∧k * 39 = n∧k≤64∧((∃ t u,d = .osl 2 n 0 k 39∧H = [some t,some u,some (qh out)])∨(∃ t u,d = .osl 0 n 0 k 39∧H = [some (qh out),some t,some u]))):=by
  rcases hH with h | ⟨qt,n,k,hn,hk,h⟩
  ·exact .inl h
  ·exact .inr ⟨n,k,hn,hk,qt,qx (by simp;omega),by omega,by omega,h⟩
 clear hH;have Qp:IntKind.i64.wrap (many:Int) = (many:Int):=by rw [wrap_i64];omega
 by_cases qg:i < many
 ·have hw:IntKind.i64.wrap ((i:Int)+1) = ((i+1:Nat):Int):=by rw [wrap_i64] <;> omega
  rw [show many - i = (many - (i+1))+1 by omega,Zz] at hR;have vY:(x.drop a).length = x.length - a:=jU ..;have hk:=qlX (x.drop a);by_cases hr4:(x.drop a).length < 4
  ·rw [if_pos (.inl hr4)] at hR;have zP:=qr1 (.of x) a (by rw [Sl.of_l];omega) (by rw [Sl.of_l];omega) (by rw [Sl.of_l];omega);simp only [Sl.of_l,Sl.of_nil] at zP;subst hR;rcases QU with ⟨rfl,rfl,rfl⟩ | ⟨nn,kk,hnn,hkk,qt,qba,zj,Vi,⟨tt,uu,rfl,rfl⟩ | ⟨tt,uu,rfl,rfl⟩⟩
   ·simp [k5,k9,k7,k10,k11,Qp,qg,zP,jl,Sl.grown]
   all_goals
    have ze:out.length = kk:=hkk.symm;simp [k5,k9,k7,k10,k11,Qp,qg,zP,jl,Sl.grown]
  have zP:=qk5 (.of x) a (by rw [Sl.of_l];omega) (by rw [Sl.of_l];omega);simp only [Sl.of_l,Sl.of_nil] at zP;obtain ⟨n,QA⟩:∃ n,leN ((x.drop a).take 4) = n:=⟨_,rfl⟩;rw [QA] at zP hR hk;have Q7:IntKind.i64.wrap ((x.length:Int) - (a:Int)) = ((x.length - a:Nat):Int):=by rw [wrap_i64] <;> omega
  have qaZ:IntKind.i64.wrap (((x.length - a:Nat):Int) - 4) = ((x.length - a - 4:Nat):Int):=by rw [wrap_i64] <;> omega
  have vB:IntKind.u64.wrap ((x.length - a - 4:Nat):Int) = ((x.length - a - 4:Nat):Int):=by rw [qU] <;> omega
  by_cases hbig:(x.drop a).length - 4 < n
  ·rw [if_pos (.inr hbig)] at hR;have Qf:((x.length - a - 4:Nat):Int) < (n:Int):=(by omega);generalize x.length - a - 4 = c4 at *;generalize x.length - a = c0 at *;subst hR;rcases QU with ⟨rfl,rfl,rfl⟩ | ⟨nn,kk,hnn,hkk,qt,qba,zj,Vi,⟨tt,uu,rfl,rfl⟩ | ⟨tt,uu,rfl,rfl⟩⟩
   ·simp [k5,k9,k7,k10,k11,Qp,qg,zP,Q7,qaZ,vB,Qf,jl,Sl.grown]
   all_goals
    have ze:out.length = kk:=hkk.symm;simp [k5,k9,k7,k10,k11,Qp,qg,zP,Q7,qaZ,vB,Qf,jl,Sl.grown]
  rw [if_neg (by omega)] at hR;have Qf:¬ ((x.length - a - 4:Nat):Int) < (n:Int):=by omega
  have zb:a+4+n≤x.length:=by omega
  have w1:IntKind.i64.wrap ((a:Int)+4) = ((a+4:Nat):Int):=by rw [wrap_i64] <;> omega
  have w2:IntKind.i64.wrap (n:Int) = (n:Int):=by rw [wrap_i64];omega
  have w3:IntKind.i64.wrap (((a+4:Nat):Int)+(n:Int)) = ((a+4+n:Nat):Int):=by rw [wrap_i64] <;> omega
  obtain ⟨t,ht⟩:∃ t,((x.drop a).drop 4).take n = t:=⟨_,rfl⟩;have jH:t.length = n:=by rw [← ht,js,jU,jU];omega
  rw [ht] at hR;have jh:=qrf (.of t) (by simp;omega);simp only [Sl.of_l,Sl.of_nil,jH] at jh;have Kr:List.take n (List.drop (a+4) (qd x)) = qd t:=by rw [Ze,kw,← kF,ht]
  have KZ:(x.drop a).drop (4+n) = x.drop (a+4+n):=by rw [kF,Vz]
  rw [KZ] at hR;generalize x.length - a - 4 = c4 at *;generalize x.length - a = c0 at *;have q1:a+4≤a+4+n:=Nat.le_add_right _ _;have q5:a+4+n - (a+4) = n:=by omega
  generalize hb4:a+4+n = b4 at *;generalize ha4:a+4 = a4 at *;by_cases hok:Jd t = true∧(zH (ju t)).length = n
  ·rw [if_pos hok] at hR;have e1:KM t = ju t:=(by unfold KM;rw [if_pos hok.1]);have e2:V4 t = n:=(by unfold V4;rw [if_pos hok.1,hok.2]);have e3:J6 t = 0:=(by unfold J6;rw [if_pos hok.1]);rw [e1,e2,e3] at jh;generalize ju t = y at *;rcases QU with ⟨rfl,rfl,rfl⟩ | ⟨nn,kk,hnn,hkk,qt,qba,zj,Vi,⟨tt,uu,rfl,rfl⟩ | ⟨tt,uu,rfl,rfl⟩⟩
   ·simp [k5,k9,k7,k10,k11,Qp,qg,zP,Q7,qaZ,vB,Qf,w1,w2,w3,Kr,q1,q5,zb,jh,hw,qI];exact ⟨i+1,by omega,by omega,b4,[y],hR,by rw [← ho];rfl,zb,.inr ⟨by simp,39,1,rfl,rfl,.inl ⟨_,_,rfl,by rw [Xe]⟩⟩,rfl,by omega⟩
   all_goals
    have ze:out.length = kk:=hkk.symm;have m1:(kk+1) * 104≤140737488355328:=(by omega);have m2:kk≤140737488355327:=(by omega);simp [ze,zj,k5,k9,k7,k10,k11,Qp,qg,zP,Q7,qaZ,vB,Qf,w1,w2,w3,Kr,q1,q5,zb,jh,hw,qI,m1,m2];exact ⟨i+1,by omega,by omega,b4,out ++ [y],hR,by simp [ho],zb,.inr ⟨by simp,nn+39,kk+1,by simp;omega,by simp [ze],.inr ⟨_,_,rfl,by rw [Z0]⟩⟩,rfl,by omega⟩
  ·rw [if_neg hok] at hR;subst hR;cases YQ:Jd t with
   | false =>
    have e1:J6 t = 20:=(by unfold J6;rw [YQ];rfl);rw [e1] at jh;generalize KM t = y at *;generalize V4 t = z at *;rcases QU with ⟨rfl,rfl,rfl⟩ | ⟨nn,kk,hnn,hkk,qt,qba,zj,Vi,⟨tt,uu,rfl,rfl⟩ | ⟨tt,uu,rfl,rfl⟩⟩
    ·simp [k5,k9,k7,k10,k11,Qp,qg,zP,Q7,qaZ,vB,Qf,w1,w2,w3,Kr,q1,q5,zb,jh,jl,Sl.grown]
    all_goals
     have ze:out.length = kk:=hkk.symm;simp [k5,k9,k7,k10,k11,Qp,qg,zP,Q7,qaZ,vB,Qf,w1,w2,w3,Kr,q1,q5,zb,jh,jl,Sl.grown]
   | true =>
    have e1:J6 t = 0:=(by unfold J6;rw [YQ];rfl);have e2:¬ (zH (ju t)).length = n:=fun h=>hok ⟨YQ,h⟩;have e3:V4 t = (zH (ju t)).length:=(by unfold V4;rw [YQ];rfl);rw [e1,e3] at jh;generalize KM t = y at *;generalize (zH (ju t)).length = z at *;have e2':¬ (z:Int) = (n:Int):=(by omega);rcases QU with ⟨rfl,rfl,rfl⟩ | ⟨nn,kk,hnn,hkk,qt,qba,zj,Vi,⟨tt,uu,rfl,rfl⟩ | ⟨tt,uu,rfl,rfl⟩⟩
    ·simp [k5,k9,k7,k10,k11,Qp,qg,zP,Q7,qaZ,vB,Qf,w1,w2,w3,Kr,q1,q5,zb,jh,e2',jl,Sl.grown]
    all_goals
     have ze:out.length = kk:=hkk.symm;simp [k5,k9,k7,k10,k11,Qp,qg,zP,Q7,qaZ,vB,Qf,w1,w2,w3,Kr,q1,q5,zb,jh,e2',jl,Sl.grown]
 ·have hk:many - i = 0:=by omega
  rw [hk,Zz] at hR;have hm:=qrs (.of (x.drop a)) (by simp;omega);simp only [Sl.of_l,Sl.of_nil] at hm;obtain ⟨q,hq⟩:∃ q,vi (x.drop a) = q:=⟨_,rfl⟩;rw [hq] at hm hR;have QR:List.drop a (qd x) = qd (x.drop a):=Ze _ _;have vY:x.length - a = (x.drop a).length:=(jU ..).symm;have hxa:(x.length:Int) = (a:Int)+((x.drop a).length:Int):=by omega
  generalize x.drop a = r at *;by_cases h0:q.2 = 0
  ·rw [if_pos h0] at hR;have hnn:0≤Go.Ev.readN q∧Go.Ev.readN q≤1+40 * (q.1.length:Int):=by unfold Go.Ev.readN;rw [if_pos h0];omega
   have hql:q.1.length≤4:=by
    obtain ⟨ql,qe⟩:=q;simp only at h0;subst h0;exact qrR hq
   have jX:IntKind.i64.wrap ((a:Int)+Go.Ev.readN q) = (a:Int)+Go.Ev.readN q:=(by rw [wrap_i64];omega);by_cases hle:Go.Ev.readN q < (r.length:Int)
   ·have jB:(a:Int)+Go.Ev.readN q < (x.length:Int):=(by omega);rw [if_pos hle] at hR;subst hR;rcases QU with ⟨rfl,rfl,rfl⟩ | ⟨nn,kk,hnn',hkk,qt,qba,zj,Vi,⟨tt,uu,rfl,rfl⟩ | ⟨tt,uu,rfl,rfl⟩⟩
    ·simp [k5,k9,k7,k10,k11,Qp,qg,kD,QR,vY,hm,h0,jX,jB,jl,Sl.grown]
    all_goals
     have ze:out.length = kk:=hkk.symm;simp [k5,k9,k7,k10,k11,Qp,qg,kD,QR,vY,hm,h0,jX,jB,jl,Sl.grown]
   ·have jB:¬ (a:Int)+Go.Ev.readN q < (x.length:Int):=(by omega);rw [if_neg hle] at hR;subst hR;rcases QU with ⟨rfl,rfl,rfl⟩ | ⟨nn,kk,hnn',hkk,qt,qba,zj,Vi,⟨tt,uu,rfl,rfl⟩ | ⟨tt,uu,rfl,rfl⟩⟩
    ·simp [k5,k9,k7,k10,k11,Qp,qg,kD,QR,vY,hm,h0,jX,jB,jl,Sl.grown]
    all_goals
     have ze:out.length = kk:=hkk.symm;simp [ze,qba,zj,k5,k9,k7,k10,k11,Qp,qg,kD,QR,vY,hm,h0,jX,jB,jl,Sl.grown,qt]
  ·rw [if_neg h0] at hR;subst hR;rcases QU with ⟨rfl,rfl,rfl⟩ | ⟨nn,kk,hnn,hkk,qt,qba,zj,Vi,⟨tt,uu,rfl,rfl⟩ | ⟨tt,uu,rfl,rfl⟩⟩
   ·simp [k5,k9,k7,k10,k11,Qp,qg,kD,QR,vY,hm,h0,jl,Sl.grown]
   all_goals
    have ze:out.length = kk:=hkk.symm;simp [k5,k9,k7,k10,k11,Qp,qg,kD,QR,vY,hm,h0,jl,Sl.grown]
theorem qdb:∀ (x:List UInt8),qy x x = 0
 | []=>rfl
 | a :: x=>by simp [qy,qdb x]
theorem qda:∀ (x y:List UInt8),qy y x = - qy x y
 | [],[]=>rfl
 | [],_ :: _=>rfl
 | _ :: _,[]=>rfl
 | a :: x,b :: y=>by
  simp only [qy];by_cases h:a = b
  ·subst h;simp [qda x y]
  ·have h':¬ b = a:=fun e=>h e.symm;rw [if_neg h,if_neg h'];by_cases hl:a < b
   ·have:¬ b < a:=UInt8.not_lt.2 (UInt8.le_of_lt hl);rw [if_pos hl,if_neg this];rfl
   ·have:b < a:=UInt8.lt_of_le_of_ne (UInt8.not_lt.1 hl) h';rw [if_neg hl,if_pos this]
theorem qe4:∀ {x y:List UInt8},qy x y = 0→x = y
 | [],[],_=>rfl
 | [],_ :: _,h=>by simp [qy] at h
 | _ :: _,[],h=>by simp [qy] at h
 | a :: x,b :: y,h=>by
  simp only [qy] at h;by_cases e:a = b
  ·rw [if_pos e] at h;rw [e,qe4 h]
  ·rw [if_neg e] at h;split at h <;> simp at h
theorem qgo:∀ (x y:List UInt8),qy x y = -1∨qy x y = 0∨qy x y = 1
 | [],[]=>by simp [qy]
 | [],_ :: _=>by simp [qy]
 | _ :: _,[]=>by simp [qy]
 | a :: x,b :: y=>by
  simp only [qy];split
  ·exact qgo x y
  ·split <;> simp
theorem qe3:∀ {x y z:List UInt8},qy x y < 0→qy y z < 0→qy x z < 0
 | [],[],_,h,_=>by simp [qy] at h
 | [],_ :: _,[],_,h=>by simp [qy] at h
 | [],_ :: _,_ :: _,_,_=>by simp [qy]
 | _ :: _,[],_,h,_=>by simp [qy] at h
 | _ :: _,_ :: _,[],_,h=>by simp [qy] at h
 | a :: x,b :: y,c :: z,h1,h2=>by
  simp only [qy] at h1 h2 ⊢;by_cases e1:a = b
  ·subst e1;rw [if_pos rfl] at h1;by_cases e2:a = c
   ·subst e2;rw [if_pos rfl] at h2 ⊢;exact qe3 h1 h2
   ·rw [if_neg e2] at h2 ⊢;exact h2
  ·rw [if_neg e1] at h1
   have l1:a < b:=by
    by_cases l:a < b
    ·exact l
    ·rw [if_neg l] at h1;simp at h1
   by_cases e2:b = c
   ·subst e2;rw [if_neg e1,if_pos l1];decide
   ·rw [if_neg e2] at h2
    have l2:b < c:=by
     by_cases l:b < c
     ·exact l
     ·rw [if_neg l] at h2;simp at h2
    have l3:a < c:=UInt8.lt_trans l1 l2;rw [if_neg (UInt8.ne_of_lt l3),if_pos l3];decide
theorem qeb {a b:ID} (h:qy a.l b.l = 0):a = b:=ID.ext' (qe4 h)
def below (l:List Mk) (id:ID):Prop:= ∀ x∈l,qy x.id.l id.l < 0
theorem rises_cons {a:Mk} {l:List Mk}:jg (a :: l) = true↔(∀ x∈l,qy a.id.l x.id.l < 0)∧jg l = true:=by
 induction l generalizing a with
 | nil=>simp [jg]
 | cons b l ih =>
  simp only [jg,qT,decide_eq_true_eq,qbG,forall_eq_or_imp];constructor
  ·rintro ⟨h1,h2⟩;exact ⟨⟨h1,fun x hx=>qe3 h1 ((ih.1 h2).1 x hx)⟩,h2⟩
  ·rintro ⟨⟨h1,_⟩,h2⟩;exact ⟨h1,h2⟩
theorem rises_append {a b:List Mk}:jg (a ++ b) = true↔jg a = true∧jg b = true∧∀ x∈a,∀ y∈b,qy x.id.l y.id.l < 0:=by
 induction a with
 | nil=>simp [jg]
 | cons x a ih =>
  rw [kt,rises_cons,rises_cons,ih];constructor
  ·rintro ⟨h1,h2,h3,h4⟩;refine ⟨⟨fun y hy=>h1 y (qcz _ hy),h2⟩,h3,fun y hy z hz=>?_⟩;rcases List.mem_cons.1 hy with rfl | hy
   ·exact h1 z (List.mem_append_right _ hz)
   ·exact h4 y hy z hz
  ·rintro ⟨⟨h1,h2⟩,h3,h4⟩;refine ⟨fun y hy=>?_,h2,h3,fun y hy z hz=>h4 y (kU _ hy) z hz⟩;rcases List.mem_append.1 hy with h | h
   ·exact h1 y h
   ·exact h4 x (QY ..) y h
def Km (m:Mk):List Mk→List Mk
 | []=>[m]
 | x :: l=>if qy x.id.l m.id.l < 0 then x :: Km m l else m :: x :: l
theorem qmi {m:Mk}:∀ {l:List Mk},below l m.id→Km m l = l ++ [m]
 | [],_=>rfl
 | x :: l,h=>by
  rw [Km,if_pos (h x (QY ..)),qmi fun y hy=>h y (kU _ hy)];rfl
theorem qmh {m x:Mk}:∀ {l:List Mk},¬ qy x.id.l m.id.l < 0→Km m (l ++ [x]) = Km m l ++ [x]
 | [],h=>by simp [Km,h]
 | y :: l,h=>by
  simp only [kt,Km];split
  ·rw [qmh h];rfl
  ·rfl
theorem hasM_false {l:List Mk} {id:ID}:vF l id = false↔∀ x∈l,x.id≠id:=by
 simp [vF]
theorem getElem?_mid {α:Type} (a:List α) (x:α) (b:List α):(a ++ x :: b)[a.length]? = some x:=by
 rw [VW (qB _),Nat.sub_self];rfl
theorem qjM (m:Mk):∀ (n:Nat) (l t:List Mk),l.length = n→jg l = true→(∀ x∈l,x.id≠m.id)→JV n (l ++ m :: t) = Km m l ++ t
 | 0,l,t,hl,_,_=>by
  have:l = []:=VX hl;subst this;rfl
 | n+1,l,t,hl,hr,qt=>by
  obtain ⟨l',x,rfl⟩:∃ l' x,l = l' ++ [x]:=⟨l.dropLast,l.getLast (by intro h;subst h;simp at hl),(List.dropLast_concat_getLast _).symm⟩;have ky:l'.length = n:=by simpa using hl
  obtain ⟨r1,_,r2⟩:=rises_append.1 hr;have hx:=qt x (by simp)
  have e1:(l' ++ [x] ++ m :: t)[n+1]? = some m:=by
   rw [show n+1 = (l' ++ [x]).length by simp [ky]];exact getElem?_mid _ _ _
  have e2:(l' ++ [x] ++ m :: t)[n]? = some x:=by
   rw [vI,← ky];exact getElem?_mid l' x (m :: t)
  rw [JV,e1,e2];simp only;by_cases hc:qy m.id.l x.id.l < 0
  ·rw [if_pos hc]
   have hsw:swp (l' ++ [x] ++ m :: t) (n+1) = l' ++ m :: (x :: t):=by
    unfold swp;rw [e1,Nat.add_sub_cancel,e2];simp only;subst ky;rw [vI,List.singleton_append,List.set_append_right _ _ (Nat.le_succ _),show l'.length+1 - l'.length = 1 by omega,List.set_append_right _ _ (qB _),Nat.sub_self];rfl
   have hxm:¬ qy x.id.l m.id.l < 0:=(by rw [qda];omega);rw [hsw,qjM m n l' (x :: t) ky r1 (fun y hy=>qt y (qcz _ hy)),qmh hxm];simp
  ·rw [if_neg hc]
   have hxm:qy x.id.l m.id.l < 0:=by
    rcases qgo x.id.l m.id.l with h | h | h
    ·omega
    ·exact absurd (qeb h) hx
    ·rw [qda] at hc;omega
   have hb:below (l' ++ [x]) m.id:=by
    intro y hy;rcases List.mem_append.1 hy with h | h
    ·exact qe3 (r2 y h x (by simp)) hxm
    ·rw [List.mem_singleton.1 h];exact hxm
   rw [qmi hb];simp
theorem qqg {l:List Mk} {t:List Mk} (hr:jg l = true) {i:Nat} (hi:i < l.length):JV i (l ++ t) = l ++ t:=by
 cases i with
 | zero=>rfl
 | succ j =>
  have hj:j < l.length:=by omega
  rw [JV,ZY hi,ZY hj,zi hi,zi hj];simp only;rw [if_neg]
  have qg:qy l[j].id.l l[j+1].id.l < 0:=by
   have kg:l = l.take (j+1) ++ l.drop (j+1):=(V0 _ _).symm;rw [kg] at hr;refine (rises_append.1 hr).2.2 _ ?_ _ ?_
   ·rw [List.mem_take_iff_getElem];exact ⟨j,by omega,rfl⟩
   ·rw [zm hi];exact QY ..
  rw [qda];omega
theorem qmj {l:List Mk} {m:Mk} (hr:jg l = true) (qt:∀ x∈l,x.id≠m.id):∀ (k i:Nat),k+i = l.length+1→1≤i→Zs k i (l ++ [m]) = if k = 0 then l ++ [m] else Km m l
 | 0,i,_,_=>rfl
 | k+1,i,h,hi=>by
  rw [Zs,if_neg (by omega)];rcases ZU i l.length with qg | hge
  ·rw [qqg hr qg,qmj hr qt k (i+1) (by omega) (by omega),if_neg (by omega)]
  ·have:i = l.length:=(by omega);have hk:k = 0:=(by omega);subst hk;rw [Zs,qjM m i l [] this.symm hr qt];simp
theorem find?_neg {l:List Mk} {id:ID}:find? (fun m=>m.id == id) l 0 < 0↔vF l id = false:=by
 rcases find?_spec (fun m=>m.id == id) l 0 with ⟨i,m,h1,h2,h3,h4,h5⟩ | ⟨h1,h2⟩
 ·rw [h4];constructor
  ·intro h;omega
  ·intro h;have:=hasM_false.1 h m (qcy h1);simp at h3;exact absurd h3 this
 ·rw [h1];constructor
  ·intro _;rw [hasM_false];intro x hx he;have:=List.find?_eq_none.1 h2 x hx;simp [he] at this
  ·intro _;decide
theorem qsj {l:List Mk} {m:Mk} (hr:jg l = true) (hh:vF l m.id = false):J8 l m = Km m l:=by
 unfold J8;rw [if_pos (find?_neg.2 hh)];cases l with
 | nil=>rfl
 | cons a l=>rw [qmj hr (hasM_false.1 hh) _ 1 rfl (qB _),if_neg (by simp)]
theorem qhd (m:Mk):∀ (l:List Mk),(∀ x∈l,qy x.id.l m.id.l≠0)→jm m l true = (l,true)
 | [],_=>rfl
 | x :: l,h=>by
  have ih:=qhd m l fun y hy=>h y (kU _ hy);have hx:=h x (QY ..);simp only [jm,Bool.true_or,ih,Bool.not_true,Z3,vT,if_false,ZW,ne_eq,hx,not_false_eq_true,if_true,List.singleton_append]
theorem qoH {m:Mk} {x:Mk} {l:List Mk} (hr:jg (x :: l) = true) (hx:0≤qy x.id.l m.id.l):∀ y∈l,qy y.id.l m.id.l≠0:=by
 intro y hy h0;have h1:=(rises_cons.1 hr).1 y hy;have:y.id = m.id:=qeb h0;rw [this] at h1;omega
theorem qkh {m:Mk}:∀ {l:List Mk},jg l = true→vF l m.id = false→Zn l m = Km m l
 | [],_,_=>rfl
 | x :: l,hr,hh=>by
  have hx:qy x.id.l m.id.l≠0:=fun h=>hasM_false.1 hh x (QY ..) (qeb h);have hh':vF l m.id = false:=hasM_false.2 fun y hy=>hasM_false.1 hh y (kU _ hy);by_cases hc:qy x.id.l m.id.l < 0
  ·have Zw:¬ 0≤qy x.id.l m.id.l:=(by omega);have ih:=qkh (rises_cons.1 hr).2 hh';rw [Km,if_pos hc,← ih];simp [Zn,jm,Zw,hx]
  ·have Zw:0≤qy x.id.l m.id.l:=(by omega);rw [Km,if_neg hc];have:=qhd m l (qoH hr Zw);simp [Zn,jm,Zw,hx,this]
def qaB (m:Mk):List Mk→List Mk
 | []=>[]
 | x :: l=>if x.id == m.id then m :: l else x :: qaB m l
theorem qkg {m:Mk}:∀ {l:List Mk},jg l = true→vF l m.id = true→Zn l m = qaB m l
 | [],_,h=>by simp [vF] at h
 | x :: l,hr,hh=>by
  by_cases he:x.id = m.id
  ·have h0:qy x.id.l m.id.l = 0:=(by rw [he];exact qdb _);have:=qhd m l (qoH hr (by omega));have hs:=qdb m.id.l;simp [Zn,jm,this,qaB,he,hs]
  ·have hx:qy x.id.l m.id.l≠0:=fun h=>he (qeb h);have hh':vF l m.id = true:=by simpa [vF,he] using hh
   have hc:qy x.id.l m.id.l < 0:=by
    obtain ⟨y,hy,hye⟩:∃ y∈l,y.id = m.id:=by simpa [vF] using hh'
    rw [← hye];exact (rises_cons.1 hr).1 y hy
   have Zw:¬ 0≤qy x.id.l m.id.l:=(by omega);have ih:=qkg (rises_cons.1 hr).2 hh';have hb:(x.id == m.id) = false:=(by simpa using he);rw [qaB,hb,← ih];simp [Zn,jm,Zw,hx]
theorem find?_set {m:Mk}:∀ {l:List Mk} (k:Nat),vF l m.id = true→∃ i,find? (fun x=>x.id == m.id) l k = ((k+i:Nat):Int)∧i < l.length∧l.set i m = qaB m l
 | [],_,h=>by simp [vF] at h
 | x :: l,k,h=>by
  cases he:x.id == m.id with
  | true=>exact ⟨0,by simp [find?,he],by simp,by simp [qaB,he]⟩
  | false =>
   have h':vF l m.id = true:=(by simpa [vF,he] using h);obtain ⟨i,h1,h2,h3⟩:=find?_set (k+1) h';refine ⟨i+1,?_,by simpa using h2,by simp [qaB,he,h3]⟩;simp only [find?,he,vT,if_false];have e:(k:Int)+1 = ((k+1:Nat):Int):=(by omega);rw [e,h1];omega
theorem qsi {l:List Mk} {m:Mk} (hh:vF l m.id = true):J8 l m = qaB m l:=by
 obtain ⟨i,h1,h2,h3⟩:=find?_set 0 hh;have QV:find? (fun x=>x.id == m.id) l 0 = (i:Int):=by simpa using h1
 unfold J8;rw [QV,if_neg (by omega)];simpa using h3
theorem qse {l:List Mk} {m:Mk} (hr:jg l = true):J8 l m = Zn l m:=by
 cases hh:vF l m.id with
 | true=>rw [qsi hh,qkg hr hh]
 | false=>rw [qsj hr hh,qkh hr hh]
theorem qtF (l:List Mk) (m:Mk):Jg l m.id = J3 l m:=by
 unfold Jg J3;cases hr:vm l with
 | false=>simp
 | true =>
  have h4:=qaA hr;simp only [Bool.true_eq_false,if_false,if_true];cases hh:vF l m.id with
  | true =>
   have:¬ find? (fun x=>x.id == m.id) l 0 < 0:=fun h=>by rw [find?_neg.1 h] at hh;cases hh
   simp [this]
  | false =>
   have:=find?_neg.2 hh;by_cases h:l.length = 4
   ·simp [this,h]
   ·have h':¬ 4≤l.length:=(by omega);simp [h,h']
theorem qk0 {l:List Mk} (h:vm l = true):jg l = true:=by
 rw [vm,qT] at h;exact h.2
theorem qrx {l:List Mk} {id:ID} (h:Jg l id = 0):vm l = true:=by
 unfold Jg at h;cases hr:vm l with
 | true=>rfl
 | false=>rw [hr] at h;simp at h
theorem qqO (m:Mk) (it:It) (o:Bool):(J2 m it o).id = m.id:=by unfold J2;split <;> rfl
theorem qp8 (l:List Mk) (it:It) (o:Bool):Kb l it = YA l it o:=by
 unfold Kb YA;have h:=qtF l (J2 (jz l it.id) it o);rw [qqO,qit] at h;rw [h]
theorem qhi {v n:Int} (hv:qA v) (hn:qA n):QJ v n = if kV - n < v then kV else v+n:=by
 unfold qA at hv hn;have e:IntKind.u64.wrap (kV - n) = kV - n:=by rw [qU];unfold kV;omega
 unfold QJ;rw [e];split
 ·rfl
 ·rw [qU];unfold kV at *;omega
theorem qpP {m:Mk} {it:It} {o:Bool} (hm:m.Ok) (hi:it.Ok) (hg:Zy m it = true):qbQ m it o = J2 m it o:=by
 have h1:=hm.seq;have h2:=hm.lost;have h3:=hm.over;have h4:=hi.fr;have h5:=hi.til;unfold qbQ J2;unfold Zy at hg;cases vX:it.gap with
 | true =>
  rw [vX] at hg;simp only [if_true,Bool.not_eq_true',Bool.or_eq_false_iff,decide_eq_false_iff_not] at hg ⊢;unfold qA at h1 h2 h4 h5;have w1:IntKind.u64.wrap (it.til - it.fr) = it.til - it.fr:=by rw [qU];omega
  have w2:IntKind.u64.wrap (it.til - it.fr+1) = it.til - it.fr+1:=by rw [qU];omega
  have r1:QJ (it.til - it.fr) 1 = it.til - it.fr+1:=by
   rw [qhi (by unfold qA;omega) (by unfold qA;omega),if_neg (by unfold kV;omega)]
  rw [w1,w2,r1,ql7 (by unfold qA;omega) (by unfold qA;omega),qhi (by unfold qA;omega) (by unfold qA;omega)];congr 1;unfold kV;split <;> split <;> omega
 | false =>
  simp only [vT,if_false];cases o with
  | false=>rfl
  | true =>
   simp only [if_true];rw [ql7 h3 (by unfold qA;omega),qhi h3 (by unfold qA;omega)];congr 1;unfold kV;split <;> split <;> omega
theorem qp7 {l:List Mk} {it:It} (o:Bool) (hl:∀ m∈l,m.Ok) (hi:it.Ok) (hc:Kb l it = 0):KK l it o = XY l it o:=by
 have hm0:Jg l it.id = 0∧Zy (jz l it.id) it = true:=by
  unfold Kb at hc;by_cases h:Jg l it.id = 0
  ·refine ⟨h,?_⟩;rw [if_neg (by simpa using h)] at hc;cases hg:Zy (jz l it.id) it with
   | true=>rfl
   | false=>rw [hg] at hc;simp at hc
  ·rw [if_pos h] at hc;exact absurd hc h
 unfold KK XY;rw [qpP (qis hl it.id) hi hm0.2,qse (qk0 (qrx hm0.1))]
section
variable (e n z:Nat) (he:e < 18446744073709551616) (hn:n < 18446744073709551616) (hz:z < 18446744073709551616) (body:List UInt8)
include he hn hz
end
section
variable (e n:Nat) (he:e < 18446744073709551616) (hn:n < 18446744073709551616) (body:List UInt8) (hb:body.length≤65536)
include he hn hb
end
end Go.Ev.S
namespace Go.Ev.S
open Go Go.Proofs Go.Ev
def qcr (l:List Nat):List UInt8:=l.map fun k=>UInt8.ofNat (48+k)
def YI (n:Nat) (l:List Nat):Nat:=l.foldl (fun a k=>10 * a+k) n
theorem qzb (l:List Nat):∀ n f,1≤n→1≤f→(∀ k∈l,k < 10)→kq (f+l.length) (YI n l) = kq f n ++ qcr l:=by
 induction l with
 | nil=>intro n f _ _ _;simp [YI,qcr]
 | cons k l ih =>
  intro n f hn hf h;have hk:=h k (by simp);have h4:YI n (k :: l) = YI (10 * n+k) l:=rfl;have e:qcr (k :: l) = UInt8.ofNat (48+k) :: qcr l:=rfl;have e2:f+(k :: l).length = (f+1)+l.length:=by simp;omega
  rw [h4,e2,ih (10 * n+k) (f+1) (by omega) (by omega) (fun x hx=>h x (by simp [hx])),e];rw [kq,if_neg (by omega)];have e3:(10 * n+k) / 10 = n:=by omega
  have e4:(10 * n+k) % 10 = k:=by omega
  rw [e3,e4,vI];rfl
section
variable (e n:Nat) (he:e < 18446744073709551616) (hn:n < 18446744073709551616)
include he hn
end
end Go.Ev.S
namespace Go.Ev.S
open Go Go.Proofs Go.Ev
theorem qyT {c:UInt8} {d:Nat} (h:Xg c = some d) (hd:d < 10):c = UInt8.ofNat (48+d):=by
 apply UInt8.toNat_inj.1;rw [VU (show 48+d < 256 by omega)];unfold Xg at h;split at h
 ·injection h with h;omega
 ·split at h
  ·injection h with h;omega
  ·cases h
theorem qsn (s:List UInt8):∀ n v,jx 10 s n = some v→∃ l,s = qcr l∧(∀ k∈l,k < 10)∧v = YI n l:=by
 induction s with
 | nil =>
  intro n v h;simp only [jx,qu] at h;exact ⟨[],rfl,by simp,h.symm⟩
 | cons c s ih =>
  intro n v h;simp only [jx] at h;split at h
  ·cases h
  ·rename_i d hd;split at h
   ·cases h
   ·split at h
    ·cases h
    ·obtain ⟨l,h1,h2,h3⟩:=ih _ _ h;refine ⟨d :: l,?_,?_,?_⟩
     ·rw [h1,qyT hd (by omega)];rfl
     ·intro k hk;rcases List.mem_cons.1 hk with rfl | hk
      ·omega
      ·exact h2 k hk
     ·rw [h3,Nat.mul_comm n 10];rfl
theorem qf3 {s:List UInt8} {v:Nat} (h:jd s = some v):v < 18446744073709551616∧s = qE v:=by
 unfold jd at h;split at h
 ·cases h
 ·rename_i hc;have qg:v < 18446744073709551616:=qcH 10 _ _ _ (by decide) h;obtain ⟨l,rfl,h2,rfl⟩:=qsn _ _ _ h;refine ⟨qg,?_⟩;have zo:(qcr l).length = l.length:=by simp [qcr]
  rw [zo] at hc;rcases l with _ | ⟨k,l⟩
  ·exact absurd (.inl rfl) hc
  ·have hk:=h2 k (by simp);have e0:YI 0 (k :: l) = YI k l:=(by simp [YI]);rw [e0];rcases l with _ | ⟨j,l⟩
   ·unfold qE;rw [show YI k [] = k from rfl,kq,if_pos hk];rfl
   ·have kj:1≤k:=by
     rcases Nat.eq_zero_or_pos k with rfl | hp
     ·exact absurd (.inr (.inr ⟨rfl,by simp⟩)) hc
     ·exact hp
    have hl:(j :: l).length≤19:=by
     have:¬ 20 < (k :: j :: l).length:=fun hh=>hc (.inr (.inl hh));simp at this ⊢;omega
    obtain ⟨f,hf⟩:∃ f,20 = (f+1)+(j :: l).length:=⟨19 - (j :: l).length,by omega⟩;unfold qE;rw [hf,qzb (j :: l) k (f+1) kj (by omega) (fun x hx=>h2 x (kU _ hx)),kq,if_pos hk];rfl
def zU:List UInt8→List UInt8
 | []=>[]
 | c :: l=>if c = 13 then [] else c :: zU l
theorem qeO:∀ (s:List UInt8),(zU s).length≤s.length
 | []=>by simp [zU]
 | c :: l=>by
  unfold zU;split
  ·simp
  ·have:=qeO l;simp;exact this
theorem qdn:∀ (s:List UInt8),s.take (zU s).length = zU s
 | []=>by simp [zU]
 | c :: l=>by
  unfold zU;split
  ·simp
  ·have:=qdn l;simp [this]
theorem qjs:∀ (A B:List UInt8),(∀ x∈A,x≠13)→zU (A ++ (13 :: B)) = A
 | [],B,_=>by simp [zU]
 | c :: A,B,h=>by
  have hc:=h c (by simp);rw [kt,zU,if_neg hc,qjs A B fun x hx=>h x (by simp [hx])]
def Zr (name rest:List UInt8):Option (Nat × List UInt8):=if pre name rest then
  match jd (zU (rest.drop name.length)) with
  | none=>none
  | some v=>if ((rest.drop name.length).drop (zU (rest.drop name.length)).length).take 2 = crlf then some (v,(rest.drop name.length).drop ((zU (rest.drop name.length)).length+2)) else none
 else none
theorem qsp (a b:List UInt8):pre a (a ++ b) = true:=by unfold pre;simp
theorem qlb {a b:List UInt8} (h:pre a b = true):b = a ++ b.drop a.length:=by
 unfold pre at h;have h2:=beq_iff_eq.1 h
 conv=>lhs;rw [← V0 a.length b]
 rw [h2]
theorem qhP (name r:List UInt8) {v:Nat} (hv:v < 18446744073709551616):Zr name (name ++ (qE v ++ (crlf ++ r))) = some (v,r):=by
 unfold Zr;rw [qsp,if_pos rfl,List.drop_left];have h1:zU (qE v ++ (crlf ++ r)) = qE v:=qjs (qE v) (10 :: r) (qcs v);rw [h1,qcd hv];have d1:(qE v ++ (crlf ++ r)).drop (qE v).length = crlf ++ r:=List.drop_left
 have d2:(qE v ++ (crlf ++ r)).drop ((qE v).length+2) = r:=by
  rw [← kF,d1];rfl
 simp only [d1,d2];rw [if_pos (by rfl)]
theorem qhQ {name rest r:List UInt8} {v:Nat} (h:Zr name rest = some (v,r)):v < 18446744073709551616∧rest = name ++ (qE v ++ (crlf ++ r)):=by
 unfold Zr at h;split at h
 ·rename_i hp;have hr:=qlb hp;generalize rest.drop name.length = t at *;split at h
  ·cases h
  ·rename_i v' hn;split at h
   ·rename_i hc;injection h with h;injection h with h1 h2;subst h1;obtain ⟨g1,g2⟩:=qf3 hn;refine ⟨g1,?_⟩;rw [hr];congr 1;have e1:t = t.take (zU t).length ++ t.drop (zU t).length:=(V0 _ _).symm
    have e2:t.drop (zU t).length = crlf ++ r:=by
     rw [← V0 2 (t.drop (zU t).length),hc,← h2,kF]
    rw [qdn,g2] at e1;rw [e1,← g2,e2]
   ·cases h
 ·cases h
def Jy (s:List UInt8):Option (Nat × Nat × Nat):=match Zr epochL s with
 | none=>none
 | some (x,r1)=>match Zr numberL r1 with
  | none=>none
  | some (y,r2)=>match Zr lengthL r2 with
   | none=>none
   | some (z,r3)=>if r3 = crlf then some (x,y,z) else none
theorem qpu {x y z:Nat} (hx:x < 18446744073709551616) (hy:y < 18446744073709551616) (hz:z < 18446744073709551616):Jy (vk x y z) = some (x,y,z):=by
 unfold Jy vk;simp only [qhP _ _ hx,qhP _ _ hy,qhP _ _ hz,if_true]
theorem qgG {s:List UInt8} {x y z:Nat} (h:Jy s = some (x,y,z)):x < 18446744073709551616∧y < 18446744073709551616∧z < 18446744073709551616∧s = vk x y z:=by
 unfold Jy at h;split at h
 ·cases h
 ·rename_i x' r1 h1;split at h
  ·cases h
  ·rename_i y' r2 h2;split at h
   ·cases h
   ·rename_i z' r3 h3;split at h
    ·rename_i h4;injection h with h;injection h with e1 h;injection h with e2 e3;subst e1;subst e2;subst e3;subst h4;obtain ⟨a1,a2⟩:=qhQ h1;obtain ⟨b1,b2⟩:=qhQ h2;obtain ⟨c1,c2⟩:=qhQ h3;exact ⟨a1,b1,c1,by rw [a2,b2,c2];rfl⟩
    ·cases h
theorem qhN {name rest r:List UInt8} {v:Nat} (h:Qa name rest = some (v,r)):v < 18446744073709551616:=by
 unfold Qa at h;split at h
 ·cases h
 ·rename_i w hw;injection h with h;injection h with h1 _;subst h1;unfold pu at hw;split at hw
  ·cases hw
  ·exact qcH 10 _ _ _ (by decide) hw
theorem qti {s b:List UInt8} {x y z:Nat} (h:ke s b = some (x,y,z)):x < 18446744073709551616∧y < 18446744073709551616∧z < 18446744073709551616:=by
 unfold ke at h;split at h
 ·split at h
  ·cases h
  ·rename_i h1;split at h
   ·cases h
   ·rename_i h2;split at h
    ·cases h
    ·rename_i h3;split at h
     ·injection h with h;injection h with e1 h;injection h with e2 e3;subst e1;subst e2;subst e3;exact ⟨qhN h1,qhN h2,qhN h3⟩
     ·cases h
 ·cases h
theorem qth (b t:List UInt8):ke (b ++ t) b = Jy t:=by
 cases h:Jy t with
 | some q =>
  obtain ⟨x,y,z⟩:=q;obtain ⟨h1,h2,h3,rfl⟩:=qgG h;exact qf2 b x y z h1 h2 h3
 | none =>
  cases h':ke (b ++ t) b with
  | none=>rfl
  | some q =>
   obtain ⟨x,y,z⟩:=q;obtain ⟨h1,h2,h3⟩:=qti h';have:=List.append_cancel_left (ql0 h');rw [this,qpu h1 h2 h3] at h;cases h
def qaC (s body:List UInt8):List (List UInt8)→Nat→Msg × Int
 | [],_=>(.zero,20)
 | b :: l,k=>if pre b s then match Jy (s.drop b.length) with
   | none=>(.zero,20)
   | some (x,y,z)=>qal k x y z body
  else qaC s body l (k+1)
theorem qkO (s body:List UInt8):∀ (l:List (List UInt8)) (k:Nat),(∀ b∈l,pre b s = false)→Z5 s body l k = (.zero,20)
 | [],_,_=>rfl
 | b :: l,k,h=>by
  rw [qcF,qdQ (h b (by simp))];exact qkO s body l (k+1) fun x hx=>h x (by simp [hx])
def qje (l:List (List UInt8)):Prop:=l.Pairwise fun b c=>∀ X,pre c (b ++ X) = false
theorem qkI (s body:List UInt8):∀ (l:List (List UInt8)) (k:Nat),qje l→qaC s body l k = Z5 s body l k
 | [],_,_=>rfl
 | b :: l,k,h=>by
  have h:=List.pairwise_cons.1 h;rw [qcF,qaC];cases hp:pre b s with
  | false =>
   rw [qdQ hp,if_neg (by decide)];exact qkI s body l (k+1) h.2
  | true =>
   rw [if_pos rfl];have e:=qlb hp;generalize s.drop b.length = t at *;subst e;rw [qth];cases Jy t with
   | none=>exact (qkO _ _ l (k+1) fun c hc=>h.1 c hc t).symm
   | some q=>rfl
theorem qri:qje rqL:=by
 refine List.pairwise_cons.2 ⟨fun c hc=>?_,List.pairwise_cons.2 ⟨fun c hc=>(List.not_mem_nil hc).elim,.nil⟩⟩;rw [List.mem_singleton.1 hc];exact q01
def crn:List UInt8:=[13,10,88,45,78,117,109,98,101,114,58,32]
def crl:List UInt8:=[13,10,67,111,110,116,101,110,116,45,76,101,110,103,116,104,58,32]
def crcr:List UInt8:=[13,10,13,10]
theorem qkq [MaxL] [TxtC] (e n l:Nat) (he:e < 18446744073709551616) (hn:n < 18446744073709551616) (hl:l < 9223372036854775808) :
  call cx 70 [.int .u64 e,.int .u64 n,.int .i64 l] [] = some (.str (vk e n l),[]):=by
 have h1:=qaD e he;have h2:=qaD n hn;have h3:=qaD l (by omega);have l1:=kP e;have l2:=kP n;have l3:=kP l;have hw:IntKind.u64.wrap (l:Int) = (l:Int):=by rw [qU];omega
 have QQ:vk e n l = epochL ++ (qE e ++ (crn ++ (qE n ++ (crl ++ (qE l ++ crcr))))):=by
  simp [vk,crn,crl,crcr,crlf,numberL,lengthL]
 rw [QQ];generalize qE e = x at *;generalize qE n = y at *;generalize qE l = z at *;clear he hn hl QQ;obtain ⟨s1,es1⟩:∃ s,s = epochL ++ x:=⟨_,rfl⟩;have ls1:s1.length = epochL.length+x.length:=by rw [es1,qC]
 obtain ⟨s2,es2⟩:∃ s,s = s1 ++ crn:=⟨_,rfl⟩;have ls2:s2.length = s1.length+crn.length:=by rw [es2,qC]
 obtain ⟨s3,es3⟩:∃ s,s = s2 ++ y:=⟨_,rfl⟩;have ls3:s3.length = s2.length+y.length:=by rw [es3,qC]
 obtain ⟨s4,es4⟩:∃ s,s = s3 ++ crl:=⟨_,rfl⟩;have ls4:s4.length = s3.length+crl.length:=by rw [es4,qC]
 obtain ⟨s5,es5⟩:∃ s,s = s4 ++ z:=⟨_,rfl⟩;have ls5:s5.length = s4.length+z.length:=by rw [es5,qC]
 obtain ⟨s6,es6⟩:∃ s,s = s5 ++ crcr:=⟨_,rfl⟩;have ls6:s6.length = s5.length+crcr.length:=by rw [es6,qC]
 simp only [epochL,crn,crl,crcr,qG,qX] at ls1 ls2 ls3 ls4 ls5 ls6;have cs1:=jn es1 (by (try simp only [epochL,qG,qX]);omega);have cs2:=jn es2 (by (try simp only [crn,qG,qX]);omega);have cs3:=jn es3 (by (try simp only [epochL,crn,crl,crcr,qG,qX]);omega);have cs4:=jn es4 (by (try simp only [crl,qG,qX]);omega);have cs5:=jn es5 (by (try simp only [epochL,crn,crl,crcr,qG,qX]);omega);have cs6:=jn es6 (by (try simp only [crcr,qG,qX]);omega);simp only [epochL,crn,crl,crcr] at cs1 cs2 cs3 cs4 cs5 cs6
 have QQ:epochL ++ (x ++ (crn ++ (y ++ (crl ++ (z ++ crcr))))) = s6:=by
  simp [es6,es5,es4,es3,es2,es1]
 rw [QQ];clear QQ es1 es2 es3 es4 es5 es6 ls1 ls2 ls3 ls4 ls5 ls6 l1 l2 l3;refine qs Tryz.func70 rfl ⟨rfl,rfl⟩ ?_;simp [Tryz.f70,h1,h2,h3,hw,-Go.Ev.strD,cs1,cs2,cs3,cs4,cs5,cs6]
def qfq:List UInt8:=httpL ++ (crlf ++ (hostL ++ (crlf ++ (ctypeL ++ crlf))))
theorem qhc [MaxL] [TxtC] (p:List UInt8) (hp:p.length≤100):call cx 69 [.str p] [] = some (.str (jZ p),[]):=by
 have a1:Go.Ev.strD .add postL p = some (.str (postL ++ p)):=qjB (by simp [postL];omega)
 have a2:Go.Ev.strD .add (postL ++ p) qfq = some (.str (jZ p)):=by
  rw [qjB (by simp [postL,qfq,httpL,hostL,ctypeL,crlf];omega)];simp [jZ,qfq]
 simp only [postL,qfq,httpL,hostL,ctypeL,crlf,kt,ZW] at a1 a2;refine qs Tryz.func69 rfl ⟨rfl,rfl⟩ ?_;generalize jZ p = w at *;generalize hq:(80 :: 79 :: 83 :: 84 :: 32 :: p:List UInt8) = q at *;simp [Tryz.f69,-Go.Ev.strD,a1,a2]
theorem qqP [MaxL] [TxtC] (n:Int):call cx 78 [.int .i64 n] [] = some (.str (if n = 200∨n = 400∨n = 409 then vq n else []),[]):=by
 refine qs Tryz.func78 rfl ⟨rfl,rfl⟩ ?_;by_cases h0:n = 200
 ·subst h0;simp [Tryz.f78,vq,qdM]
 ·by_cases h1:n = 400
  ·subst h1;simp [Tryz.f78,vq,qeC]
  ·by_cases h2:n = 409
   ·subst h2;simp [Tryz.f78,vq,qew]
   ·simp [Tryz.f78,h0,h1,h2]
theorem qkm (b x body:List UInt8) (h:b.length+x.length+body.length≤200000):b.length+(x.length+body.length)≤qI:=by
 rw [← Vz];exact kr h (by decide)
theorem qrj [MaxL] [TxtC] (r:Rq) (he:qA r.epoch) (hn:qA r.number) (hp:r.path.length≤100) (hb:r.body.l.length≤100000):call cx 33 [.agg (Enc.cells r)] [] = some ((.vsl (qcG r).nil (qd (qcG r).l) (qcG r).l.length),[]):=by
 obtain ⟨p,e,n,body⟩:=r;simp only at he hn hp hb;have e1:((e.toNat:Nat):Int) = e:=by unfold qA at he;omega
 have e2:((n.toNat:Nat):Int) = n:=by unfold qA at hn;omega
 refine qs Tryz.func33 rfl ⟨rfl,rfl⟩ ?_;have h1:(p == [47,104,101,108,108,111]) = (p == jq):=rfl;have h2:(p == [47,98,97,116,99,104]) = (p == zQ):=rfl;unfold qcG;simp only;cases hc:(p == jq || p == zQ) with
 | false =>
  rw [Bool.or_eq_false_iff] at hc;rw [hc.1] at h1;rw [hc.2] at h2;simp [Tryz.f33,Rq.cells,h1,h2]
 | true =>
  unfold Xu;by_cases hl:65536 < body.l.length
  ·have ky:(65536:Int) < (body.l.length:Int):=(by omega);cases hc1:p == jq
   ·rw [hc1] at hc h1;rw [Bool.false_or] at hc;rw [hc] at h2;simp [Tryz.f33,Rq.cells,h1,h2,hl,ky]
   ·rw [hc1] at h1;simp [Tryz.f33,Rq.cells,h1,hl,ky]
  ·have ky:¬ (65536:Int) < (body.l.length:Int):=(by omega);have a1:=qhc p hp;have a2:=qkq e.toNat n.toNat body.l.length (by unfold qA at he;omega) (by unfold qA at hn;omega) (by omega);have l2:=qdP e.toNat n.toNat body.l.length;have l1:=q0y p;rw [e1,e2] at a2;generalize jZ p = b at *;generalize vk e.toNat n.toNat body.l.length = x at *;have hm:=qkm b x body.l (by omega);have zh:b.length+x.length≤4611686018427387904:=(by omega);cases hc1:p == jq
   ·rw [hc1] at hc h1;rw [Bool.false_or] at hc;rw [hc] at h2;simp [Tryz.f33,Rq.cells,h1,h2,hl,ky,a1,a2,zh,hm,V5,qx,Vz]
   ·rw [hc1] at h1;simp [Tryz.f33,Rq.cells,h1,hl,ky,a1,a2,zh,hm,V5,qx,Vz]
theorem qpV (n:Int):(vq n == []) = false:=by unfold vq;rfl
theorem qkl [MaxL] [TxtC] (r:Rs) (he:qA r.epoch) (hn:qA r.number) (hb:r.body.l.length≤100000):call cx 38 [.agg (Enc.cells r)] [] = some ((.vsl (kc r).nil (qd (kc r).l) (kc r).l.length),[]):=by
 obtain ⟨s,e,n,body⟩:=r;simp only at he hn hb;have e1:((e.toNat:Nat):Int) = e:=by unfold qA at he;omega
 have e2:((n.toNat:Nat):Int) = n:=by unfold qA at hn;omega
 have a1:=qqP s;refine qs Tryz.func38 rfl ⟨rfl,rfl⟩ ?_;unfold kc;simp only;by_cases hs:s = 200∨s = 400∨s = 409
 ·rw [if_pos hs] at a1 ⊢;unfold Xu;have hnn:=qpV s;by_cases hl:65536 < body.l.length
  ·have ky:(65536:Int) < (body.l.length:Int):=(by omega);generalize vq s = b at *;simp [Tryz.f38,Rs.cells,a1,hnn,hl,ky]
  ·have ky:¬ (65536:Int) < (body.l.length:Int):=(by omega);have a2:=qkq e.toNat n.toNat body.l.length (by unfold qA at he;omega) (by unfold qA at hn;omega) (by omega);have l2:=qdP e.toNat n.toNat body.l.length;have l1:=qgQ s;rw [e1,e2] at a2;generalize vq s = b at *;generalize vk e.toNat n.toNat body.l.length = x at *;have hm:=qkm b x body.l (by omega);have zh:b.length+x.length≤4611686018427387904:=(by omega);simp [Tryz.f38,Rs.cells,a1,a2,hl,ky,zh,hnn,hm,V5,qx,Vz]
 ·rw [if_neg hs] at a1 ⊢;simp [Tryz.f38,Rs.cells,a1]
theorem qry [MaxL] [TxtC] (b:Sl UInt8) (hb:b.l.length≤100000):call cx 74 [(.vsl b.nil (qd b.l) b.l.length)] [] = some (.tup (if zA stopL b.l 0 = -1 then [.int .i64 0,.bool false] else [.int .i64 (zA stopL b.l 0+4),.bool true]),[]):=by
 refine qs Tryz.func74 rfl ⟨rfl,rfl⟩ ?_;simp [Tryz.f74];refine Run.loopThen (fun (k:Nat) e H'=>k≤b.l.length∧zA stopL (b.l.drop k) k = zA stopL b.l 0∧H' = []∧qf e 0 = some (.vsl b.nil (qd b.l) b.l.length)∧qf e 4 = some (.int .i64 k)) (fun k=>b.l.length - k) 0 ?_ ?_
 ·simp
 rintro k e H' ⟨hk,hi,rfl,k0,k4⟩;obtain ⟨j,hj⟩:∃ j,j = k+4:=⟨_,rfl⟩;have hw:IntKind.i64.wrap ((k:Int)+4) = (j:Int):=by rw [wrap_i64] <;> omega
 have qO:IntKind.i64.wrap ((k:Int)+1) = ((k+1:Nat):Int):=by rw [wrap_i64] <;> omega
 by_cases qg:k+4≤b.l.length
 ·have qk:(j:Int)≤(b.l.length:Int):=by omega
  have vt:j≤b.l.length:=by omega
  have hkj:(k:Int)≤(j:Int):=by omega
  have hkj2:k≤j:=by omega
  have hnn:b.nil = false:=Sl.nn (s:=b) (i:=k) (by omega);have ht:List.take 4 (List.drop k (qd b.l)) = qd ((b.l.drop k).take 4):=by rw [Ze,kw]
  have hk4:j - k = 4:=by omega
  have hwl:((b.l.drop k).take 4).length = 4:=by simp;omega
  have hj4:(j:Int) = (k:Int)+4:=by omega
  rw [zm (by omega),zA,← zm (by omega)] at hi
  have hp:stopL.isPrefixOf (b.l.drop k) = ((b.l.drop k).take 4 == stopL):=by
   rw [Bool.eq_iff_iff,List.isPrefixOf_iff_prefix,beq_iff_eq,List.prefix_iff_eq_take];exact ⟨fun h=>h.symm,fun h=>h.symm⟩
  rw [hp] at hi;cases hq:((b.l.drop k).take 4 == stopL) with
  | true =>
   rw [hq,if_pos rfl] at hi;have ZC:((b.l.drop k).take 4 == [13,10,13,10]) = true:=hq;rw [← hi,if_neg (by omega),← hj4];generalize (b.l.drop k).take 4 = w at *;simp [k0,k4,hw,qk,hkj,hnn,ht,hk4,hwl,ZC]
  | false =>
   rw [hq,if_neg (by decide)] at hi;have ZC:((b.l.drop k).take 4 == [13,10,13,10]) = false:=hq;generalize (b.l.drop k).take 4 = w at *;simp [k0,k4,hw,qO,qk,hkj,hnn,ht,hk4,hwl,ZC];exact ⟨k+1,by omega,by omega,hi,by simp⟩
 ·have qk:¬ (j:Int)≤(b.l.length:Int):=by omega
  have Qc:¬ j≤b.l.length:=by omega
  have hi2:zA stopL b.l 0 = -1:=by
   rw [← hi];rcases qcO stopL (b.l.drop k) k with ⟨i,h1,h2,h3⟩ | h1
   ·have:stopL.length = 4:=rfl;rw [jU] at h2;omega
   ·exact h1
  simp [k0,k4,hw,qk,hi2]
theorem qrX [MaxL] [TxtC] (b:Sl UInt8) (hb:b.l.length≤100000) (k z:Nat) (hk:k≤b.l.length) (hk1:1≤k) (hz:z < 18446744073709551616):call cx 77 [(.vsl b.nil (qd b.l) b.l.length),.int .i64 k,.int .u64 z] [] =
  some (.tup (if 65536 < z then [.vsl true [] 0,.int .i64 21] else if (b.l.drop k).length < z then [.vsl true [] 0,.int .i64 22] else if z < (b.l.drop k).length then [.vsl true [] 0,.int .i64 21] else [(.vsl (Sl.of (b.l.drop k)).nil (qd (Sl.of (b.l.drop k)).l) (Sl.of (b.l.drop k)).l.length),.int .i64 0]),[]):=by
 refine qs Tryz.func77 rfl ⟨rfl,rfl⟩ ?_;have qO:IntKind.i64.wrap ((b.l.length:Int) - (k:Int)) = ((b.l.length - k:Nat):Int):=by rw [wrap_i64] <;> omega
 have zw:IntKind.u64.wrap ((b.l.length - k:Nat):Int) = ((b.l.length - k:Nat):Int):=by rw [qU];omega
 have hd:(b.l.drop k).length = b.l.length - k:=by simp
 have hnn:b.nil = false:=Sl.nn (s:=b) (i:=0) (by omega);rw [hd];obtain ⟨j,hj⟩:∃ j,j = b.l.length - k:=⟨_,rfl⟩;rw [← hj] at qO zw hd ⊢;by_cases z1:65536 < z
 ·have z1':(65536:Int) < (z:Int):=by omega
  simp [Tryz.f77,z1,z1']
 ·have z1':¬ (65536:Int) < (z:Int):=by omega
  by_cases z2:j < z
  ·have z2':(j:Int) < (z:Int):=(by omega);simp [Tryz.f77,z1,z1',z2,z2',qO,zw]
  ·have z2':¬ (j:Int) < (z:Int):=(by omega);by_cases z3:z < j
   ·have z3':(z:Int) < (j:Int):=(by omega);simp [Tryz.f77,z1,z1',z2,z2',z3,z3',qO,zw]
   ·have z3':¬ (z:Int) < (j:Int):=(by omega);have VH:(k:Int)≤(b.l.length:Int):=by omega
    have ht:List.take j (List.drop k (qd b.l)) = qd (b.l.drop k):=by
     rw [Ze];exact qx (by simp;omega)
    have hm:j≤qI:=kr (show j≤100000 by omega) (by decide);simp [Tryz.f77,z1,z1',z2,z2',z3,z3',qO,zw,hnn,VH,← hj,ht,hm,hd]
theorem qeQ:∀ (t:List UInt8) (k:Nat),k < (zU t).length→∃ c,t[k]? = some c∧c≠13
 | [],k,h=>by simp [zU] at h
 | c :: l,k,h=>by
  unfold zU at h;by_cases hc:c = 13
  ·rw [if_pos hc] at h;simp at h
  ·rw [if_neg hc] at h;cases k with
   | zero=>exact ⟨c,rfl,hc⟩
   | succ k=>exact qeQ l k (by simpa using h)
theorem qeP:∀ (t:List UInt8),t[(zU t).length]? = none∨t[(zU t).length]? = some 13
 | []=>by simp [zU]
 | c :: l=>by
  unfold zU;by_cases hc:c = 13
  ·rw [if_pos hc];simp [hc]
  ·rw [if_neg hc];simpa using qeP l
def qj3 (r0:List UInt8):Nat→Nat→Nat→Nat→List UInt8→Prop
 | 0,x,y,z,r=>x = 0∧y = 0∧z = 0∧r = r0
 | 1,x,y,z,r=>Zr epochL r0 = some (x,r)∧y = 0∧z = 0
 | 2,x,y,z,r=>z = 0∧∃ r1,Zr epochL r0 = some (x,r1)∧Zr numberL r1 = some (y,r)
 | _,x,y,z,r=>∃ r1 r2,Zr epochL r0 = some (x,r1)∧Zr numberL r1 = some (y,r2)∧Zr lengthL r2 = some (z,r)
set_option maxHeartbeats 4000000 in
set_option maxRecDepth 4000 in
theorem qj2 [MaxL] [TxtC] (s:List UInt8) (hs:s.length < 1000000) :
  (∃ x y z,Jy s = some (x,y,z)∧call cx 76 [.str s] [] = some (.tup [.agg [.int .u64 (x:Nat),.int .u64 (y:Nat),.int .u64 (z:Nat)],.bool true],[])) ∨
  (Jy s = none∧∃ x y z:Nat,call cx 76 [.str s] [] = some (.tup [.agg [.int .u64 x,.int .u64 y,.int .u64 z],.bool false],[])):=by
 suffices h:∃ r,call cx 76 [.str s] [] = some r∧((∃ x y z:Nat,Jy s = some (x,y,z)∧r = (.tup [.agg [.int .u64 x,.int .u64 y,.int .u64 z],.bool true],[]))∨(Jy s = none∧∃ x y z:Nat,r = (.tup [.agg [.int .u64 x,.int .u64 y,.int .u64 z],.bool false],[]))) by
  obtain ⟨r,h1,⟨x,y,z,h2,rfl⟩ | ⟨h2,x,y,z,rfl⟩⟩:=h
  ·exact .inl ⟨x,y,z,h2,h1⟩
  ·exact .inr ⟨h2,x,y,z,h1⟩
 refine vH (fun r=>(∃ x y z:Nat,Jy s = some (x,y,z)∧r = (D.tup [.agg [.int .u64 x,.int .u64 y,.int .u64 z],.bool true],[]))∨(Jy s = none∧∃ x y z:Nat,r = (D.tup [.agg [.int .u64 x,.int .u64 y,.int .u64 z],.bool false],[]))) Tryz.func76 rfl ⟨rfl,rfl⟩ ?_
 have hN:Jy s = match Zr epochL s with
    | none=>none
    | some (x,r1)=>match Zr numberL r1 with
     | none=>none
     | some (y,r2)=>match Zr lengthL r2 with
      | none=>none
      | some (z,r3)=>if r3 = crlf then some (x,y,z) else none:=rfl
 generalize Jy s = res at *;obtain ⟨n,hn⟩:∃ n,n = s.length:=⟨_,rfl⟩;rw [← hn] at hs;simp [Tryz.f76]
 refine Run.loopThen (fun (q:Nat × Nat × Nat × Nat × List UInt8) e H'=>q.1≤3∧q.2.2.2.2.length≤n∧q.2.1 < 18446744073709551616∧q.2.2.1 < 18446744073709551616∧q.2.2.2.1 < 18446744073709551616∧qj3 s q.1 q.2.1 q.2.2.1 q.2.2.2.1 q.2.2.2.2 ∧
   H' = [some [.int .u64 0,.int .u64 0,.int .u64 0],some [.int .u64 (q.2.1:Nat),.int .u64 (q.2.2.1:Nat),.int .u64 (q.2.2.2.1:Nat)],some [.str epochL,.str numberL,.str lengthL]] ∧
   qf e 2 = some (.optr 0 3 0)∧qf e 4 = some (.optr 1 3 0)∧qf e 5 = some (.osl 2 3 0 3 1)∧qf e 6 = some (.str q.2.2.2.2)∧qf e 7 = some (.int .i64 (q.1:Nat))) (fun q=>3 - q.1) (0,0,0,0,s) ?_ ?_
 ·simp [qj3,hn,epochL,numberL,lengthL]
 rintro ⟨i,x,y,z,r⟩ e H' ⟨hi,hrl,hx,hy,hz,hI,rfl,k2,k4,k5,k6,k7⟩;simp only at hi hrl hx hy hz hI k6 k7;have:i = 0∨i = 1∨i = 2∨i = 3:=by omega
 rcases this with rfl | rfl | rfl | rfl
 ·obtain ⟨rfl,rfl,rfl,rfl⟩:=hI;have hb:=qdh r epochL (by omega) (by decide)
  have zl:Zr epochL r = if pre epochL r then
    match jd (zU (r.drop epochL.length)) with
    | none=>none
    | some v=>if ((r.drop epochL.length).drop (zU (r.drop epochL.length)).length).take 2 = crlf then some (v,(r.drop epochL.length).drop ((zU (r.drop epochL.length)).length+2)) else none
   else none:=rfl
  cases hp:pre epochL r with
  | false =>
   rw [hp,if_neg (by decide)] at hb zl;rw [zl] at hN;simp [k2,k4,k5,k6,k7,hb];exact ⟨hN,0,rfl⟩
  | true =>
   rw [hp,if_pos rfl] at hb zl;have jH:(r.drop epochL.length).length≤n:=(by simp;omega);generalize r.drop epochL.length = t at *;simp [k2,k4,k5,k6,k7,hb]
   refine Run.loopThen (fun (k:Nat) e H'=>k≤(zU t).length∧
     H' = [some [.int .u64 0,.int .u64 0,.int .u64 0],some [.int .u64 (0:Nat),.int .u64 (0:Nat),.int .u64 (0:Nat)],some [.str epochL,.str numberL,.str lengthL]] ∧
     qf e 2 = some (.optr 0 3 0)∧qf e 4 = some (.optr 1 3 0)∧qf e 5 = some (.osl 2 3 0 3 1)∧qf e 7 = some (.int .i64 (0:Nat))∧qf e 8 = some (.str t)∧qf e 10 = some (.int .i64 k)) (fun k=>(zU t).length - k) 0 ?_ ?_
   ·simp
   rintro k e1 H1 ⟨hk,rfl,j2,j4,j5,j7,j8,j10⟩;have hul:=qeO t;have qO:IntKind.i64.wrap ((k:Int)+1) = ((k+1:Nat):Int):=(by rw [wrap_i64] <;> omega);by_cases qg:k < (zU t).length
   ·have qk:(k:Int) < (t.length:Int):=(by omega);have Qc:k < t.length:=(by omega);obtain ⟨c,hc1,kN⟩:=qeQ t k qg;have hc3:¬ (c.toNat:Int) = 13:=fun h=>kN (UInt8.toNat_inj.1 (show c.toNat = 13 by omega));simp [j2,j4,j5,j7,j8,j10,qk,hc1,hc3,qO];exact ⟨k+1,by omega,by omega,rfl⟩
   ·have hke:k = (zU t).length:=(by omega);have zx:=qeP t;have qz:=qdn t;have vr:=qfm (zU t) (by omega);rw [← hke] at zl zx qz;rw [← qz] at vr zl;have zw:IntKind.i64.wrap ((k:Int)+2) = ((k+2:Nat):Int):=(by rw [wrap_i64] <;> omega);have ki:k≤t.length:=(by omega);have kA:(k:Int)≤(t.length:Int):=(by omega);have e2:k+2 - k = 2:=(by omega);obtain ⟨rest,X8⟩:∃ rest,rest = List.drop (k+2) t:=⟨_,rfl⟩;have QR:List.take (t.length - (k+2)) (List.drop (k+2) t) = rest:=(by rw [X8];exact qx (by simp));have vY:rest.length≤n:=(by rw [X8];simp;omega);rw [← X8] at zl
    have t2l:k+2≤t.length∨(t.drop k).take 2≠crlf:=by
     by_cases h:k+2≤t.length
     ·exact .inl h
     ·refine .inr fun h2=>?_;have:=congrArg List.length h2;simp [crlf] at this;omega
    have htcr:((t.drop k).take 2 = crlf) = ((t.drop k).take 2 = [13,10]):=rfl;generalize Vq:(t.drop k).take 2 = t2 at *;have hl3b:=zl;cases hn:jd (List.take k t) with
    | none =>
     rw [hn] at vr zl;rw [zl] at hN;rcases zx with zx | zx
     ·have qk:¬ (k:Int) < (t.length:Int):=(by have:=List.getElem?_eq_none_iff.1 zx;omega);simp [j2,j4,j5,j7,j8,j10,qk,kA,vr];exact ⟨hN,0,rfl⟩
     ·have Qc:k < t.length:=(List.getElem?_eq_some_iff.1 zx).1;have qk:(k:Int) < (t.length:Int):=(by omega);simp [j2,j4,j5,j7,j8,j10,qk,kA,zx,vr];exact ⟨hN,0,rfl⟩
    | some v =>
     have hv:=(qf3 hn).1;rw [hn] at vr zl;simp only at vr zl;by_cases Jo:t2 = crlf
     ·rw [if_pos Jo] at zl;have hk2:k+2≤t.length:=t2l.resolve_right (fun h=>h Jo);have vf:¬ (t.length:Int) < ((k+2:Nat):Int):=(by omega);have Jn:((k+2:Nat):Int)≤(t.length:Int):=(by omega);have ZA:(t2 == [13,10]) = true:=beq_iff_eq.2 Jo;rw [zl] at hN;rcases zx with zx | zx
      ·have:=List.getElem?_eq_none_iff.1 zx;omega
      ·have Qc:k < t.length:=(List.getElem?_eq_some_iff.1 zx).1;have qk:(k:Int) < (t.length:Int):=(by omega);obtain ⟨k3,vl⟩:∃ k3,k3 = k+2:=⟨_,rfl⟩;have hkk:k≤k3:=(by omega);rw [← vl] at zw hk2 vf Jn QR e2;simp [j2,j4,j5,j7,j8,j10,qk,kA,zx,vr,hkk,zw,vf,Jn,e2,Vq,ZA,QR];exact ⟨1,by omega,by omega,v,0,0,rest,by omega,hv,by omega,by omega,⟨zl,rfl,rfl⟩,⟨rfl,rfl,rfl⟩,rfl,rfl⟩
     ·rw [if_neg Jo] at zl;rw [zl] at hN;have ZA:(t2 == [13,10]) = false:=beq_eq_false_iff_ne.2 Jo;rcases zx with zx | zx
      ·have qk:¬ (k:Int) < (t.length:Int):=(by have:=List.getElem?_eq_none_iff.1 zx;omega);have vf:(t.length:Int) < ((k+2:Nat):Int):=(by omega);obtain ⟨k3,vl⟩:∃ k3,k3 = k+2:=⟨_,rfl⟩;rw [← vl] at zw vf;simp [j2,j4,j5,j7,j8,j10,qk,kA,vr,zw,vf];exact ⟨hN,0,rfl⟩
      ·have Qc:k < t.length:=(List.getElem?_eq_some_iff.1 zx).1;have qk:(k:Int) < (t.length:Int):=(by omega);by_cases hk2:k+2≤t.length
       ·have vf:¬ (t.length:Int) < ((k+2:Nat):Int):=(by omega);have Jn:((k+2:Nat):Int)≤(t.length:Int):=(by omega);obtain ⟨k3,vl⟩:∃ k3,k3 = k+2:=⟨_,rfl⟩;have hkk:k≤k3:=(by omega);rw [← vl] at zw hk2 vf Jn e2;simp [j2,j4,j5,j7,j8,j10,qk,kA,zx,vr,hkk,zw,vf,Jn,e2,Vq,ZA];exact ⟨hN,0,rfl⟩
       ·have vf:(t.length:Int) < ((k+2:Nat):Int):=(by omega);obtain ⟨k3,vl⟩:∃ k3,k3 = k+2:=⟨_,rfl⟩;rw [← vl] at zw vf;simp [j2,j4,j5,j7,j8,j10,qk,kA,zx,vr,zw,vf];exact ⟨hN,0,rfl⟩
 ·obtain ⟨Vs,rfl,rfl⟩:=hI;rw [Vs] at hN;simp only at hN;have hb:=qdh r numberL (by omega) (by decide)
  have zl:Zr numberL r = if pre numberL r then
    match jd (zU (r.drop numberL.length)) with
    | none=>none
    | some v=>if ((r.drop numberL.length).drop (zU (r.drop numberL.length)).length).take 2 = crlf then some (v,(r.drop numberL.length).drop ((zU (r.drop numberL.length)).length+2)) else none
   else none:=rfl
  cases hp:pre numberL r with
  | false =>
   rw [hp,if_neg (by decide)] at hb zl;rw [zl] at hN;simp [k2,k4,k5,k6,k7,hb];exact ⟨hN,⟨x,rfl⟩,0,rfl⟩
  | true =>
   rw [hp,if_pos rfl] at hb zl;have jH:(r.drop numberL.length).length≤n:=(by simp;omega);generalize r.drop numberL.length = t at *;simp [k2,k4,k5,k6,k7,hb]
   refine Run.loopThen (fun (k:Nat) e H'=>k≤(zU t).length∧
     H' = [some [.int .u64 0,.int .u64 0,.int .u64 0],some [.int .u64 (x:Nat),.int .u64 (0:Nat),.int .u64 (0:Nat)],some [.str epochL,.str numberL,.str lengthL]] ∧
     qf e 2 = some (.optr 0 3 0)∧qf e 4 = some (.optr 1 3 0)∧qf e 5 = some (.osl 2 3 0 3 1)∧qf e 7 = some (.int .i64 (1:Nat))∧qf e 8 = some (.str t)∧qf e 10 = some (.int .i64 k)) (fun k=>(zU t).length - k) 0 ?_ ?_
   ·simp
   rintro k e1 H1 ⟨hk,rfl,j2,j4,j5,j7,j8,j10⟩;have hul:=qeO t;have qO:IntKind.i64.wrap ((k:Int)+1) = ((k+1:Nat):Int):=(by rw [wrap_i64] <;> omega);by_cases qg:k < (zU t).length
   ·have qk:(k:Int) < (t.length:Int):=(by omega);have Qc:k < t.length:=(by omega);obtain ⟨c,hc1,kN⟩:=qeQ t k qg;have hc3:¬ (c.toNat:Int) = 13:=fun h=>kN (UInt8.toNat_inj.1 (show c.toNat = 13 by omega));simp [j2,j4,j5,j7,j8,j10,qk,hc1,hc3,qO];exact ⟨k+1,by omega,by omega,rfl⟩
   ·have hke:k = (zU t).length:=(by omega);have zx:=qeP t;have qz:=qdn t;have vr:=qfm (zU t) (by omega);rw [← hke] at zl zx qz;rw [← qz] at vr zl;have zw:IntKind.i64.wrap ((k:Int)+2) = ((k+2:Nat):Int):=(by rw [wrap_i64] <;> omega);have ki:k≤t.length:=(by omega);have kA:(k:Int)≤(t.length:Int):=(by omega);have e2:k+2 - k = 2:=(by omega);obtain ⟨rest,X8⟩:∃ rest,rest = List.drop (k+2) t:=⟨_,rfl⟩;have QR:List.take (t.length - (k+2)) (List.drop (k+2) t) = rest:=(by rw [X8];exact qx (by simp));have vY:rest.length≤n:=(by rw [X8];simp;omega);rw [← X8] at zl
    have t2l:k+2≤t.length∨(t.drop k).take 2≠crlf:=by
     by_cases h:k+2≤t.length
     ·exact .inl h
     ·refine .inr fun h2=>?_;have:=congrArg List.length h2;simp [crlf] at this;omega
    have htcr:((t.drop k).take 2 = crlf) = ((t.drop k).take 2 = [13,10]):=rfl;generalize Vq:(t.drop k).take 2 = t2 at *;have hl3b:=zl;cases hn:jd (List.take k t) with
    | none =>
     rw [hn] at vr zl;rw [zl] at hN;rcases zx with zx | zx
     ·have qk:¬ (k:Int) < (t.length:Int):=(by have:=List.getElem?_eq_none_iff.1 zx;omega);simp [j2,j4,j5,j7,j8,j10,qk,kA,vr];exact ⟨hN,⟨x,rfl⟩,0,rfl⟩
     ·have Qc:k < t.length:=(List.getElem?_eq_some_iff.1 zx).1;have qk:(k:Int) < (t.length:Int):=(by omega);simp [j2,j4,j5,j7,j8,j10,qk,kA,zx,vr];exact ⟨hN,⟨x,rfl⟩,0,rfl⟩
    | some v =>
     have hv:=(qf3 hn).1;rw [hn] at vr zl;simp only at vr zl;by_cases Jo:t2 = crlf
     ·rw [if_pos Jo] at zl;have hk2:k+2≤t.length:=t2l.resolve_right (fun h=>h Jo);have vf:¬ (t.length:Int) < ((k+2:Nat):Int):=(by omega);have Jn:((k+2:Nat):Int)≤(t.length:Int):=(by omega);have ZA:(t2 == [13,10]) = true:=beq_iff_eq.2 Jo;rw [zl] at hN;rcases zx with zx | zx
      ·have:=List.getElem?_eq_none_iff.1 zx;omega
      ·have Qc:k < t.length:=(List.getElem?_eq_some_iff.1 zx).1;have qk:(k:Int) < (t.length:Int):=(by omega);obtain ⟨k3,vl⟩:∃ k3,k3 = k+2:=⟨_,rfl⟩;have hkk:k≤k3:=(by omega);rw [← vl] at zw hk2 vf Jn QR e2;simp [j2,j4,j5,j7,j8,j10,qk,kA,zx,vr,hkk,zw,vf,Jn,e2,Vq,ZA,QR];exact ⟨2,by omega,by omega,x,v,0,rest,by omega,hx,hv,by omega,⟨rfl,_,Vs,zl⟩,⟨rfl,rfl,rfl⟩,rfl,rfl⟩
     ·rw [if_neg Jo] at zl;rw [zl] at hN;have ZA:(t2 == [13,10]) = false:=beq_eq_false_iff_ne.2 Jo;rcases zx with zx | zx
      ·have qk:¬ (k:Int) < (t.length:Int):=(by have:=List.getElem?_eq_none_iff.1 zx;omega);have vf:(t.length:Int) < ((k+2:Nat):Int):=(by omega);obtain ⟨k3,vl⟩:∃ k3,k3 = k+2:=⟨_,rfl⟩;rw [← vl] at zw vf;simp [j2,j4,j5,j7,j8,j10,qk,kA,vr,zw,vf];exact ⟨hN,⟨x,rfl⟩,0,rfl⟩
      ·have Qc:k < t.length:=(List.getElem?_eq_some_iff.1 zx).1;have qk:(k:Int) < (t.length:Int):=(by omega);by_cases hk2:k+2≤t.length
       ·have vf:¬ (t.length:Int) < ((k+2:Nat):Int):=(by omega);have Jn:((k+2:Nat):Int)≤(t.length:Int):=(by omega);obtain ⟨k3,vl⟩:∃ k3,k3 = k+2:=⟨_,rfl⟩;have hkk:k≤k3:=(by omega);rw [← vl] at zw hk2 vf Jn e2;simp [j2,j4,j5,j7,j8,j10,qk,kA,zx,vr,hkk,zw,vf,Jn,e2,Vq,ZA];exact ⟨hN,⟨x,rfl⟩,0,rfl⟩
       ·have vf:(t.length:Int) < ((k+2:Nat):Int):=(by omega);obtain ⟨k3,vl⟩:∃ k3,k3 = k+2:=⟨_,rfl⟩;rw [← vl] at zw vf;simp [j2,j4,j5,j7,j8,j10,qk,kA,zx,vr,zw,vf];exact ⟨hN,⟨x,rfl⟩,0,rfl⟩
 ·obtain ⟨rfl,r1,Vs,hI2⟩:=hI;rw [Vs] at hN;simp only [hI2] at hN;have hb:=qdh r lengthL (by omega) (by decide)
  have zl:Zr lengthL r = if pre lengthL r then
    match jd (zU (r.drop lengthL.length)) with
    | none=>none
    | some v=>if ((r.drop lengthL.length).drop (zU (r.drop lengthL.length)).length).take 2 = crlf then some (v,(r.drop lengthL.length).drop ((zU (r.drop lengthL.length)).length+2)) else none
   else none:=rfl
  cases hp:pre lengthL r with
  | false =>
   rw [hp,if_neg (by decide)] at hb zl;rw [zl] at hN;simp [k2,k4,k5,k6,k7,hb];exact ⟨hN,⟨x,rfl⟩,⟨y,rfl⟩,0,rfl⟩
  | true =>
   rw [hp,if_pos rfl] at hb zl;have jH:(r.drop lengthL.length).length≤n:=(by simp;omega);generalize r.drop lengthL.length = t at *;simp [k2,k4,k5,k6,k7,hb]
   refine Run.loopThen (fun (k:Nat) e H'=>k≤(zU t).length∧
     H' = [some [.int .u64 0,.int .u64 0,.int .u64 0],some [.int .u64 (x:Nat),.int .u64 (y:Nat),.int .u64 (0:Nat)],some [.str epochL,.str numberL,.str lengthL]] ∧
     qf e 2 = some (.optr 0 3 0)∧qf e 4 = some (.optr 1 3 0)∧qf e 5 = some (.osl 2 3 0 3 1)∧qf e 7 = some (.int .i64 (2:Nat))∧qf e 8 = some (.str t)∧qf e 10 = some (.int .i64 k)) (fun k=>(zU t).length - k) 0 ?_ ?_
   ·simp
   rintro k e1 H1 ⟨hk,rfl,j2,j4,j5,j7,j8,j10⟩;have hul:=qeO t;have qO:IntKind.i64.wrap ((k:Int)+1) = ((k+1:Nat):Int):=(by rw [wrap_i64] <;> omega);by_cases qg:k < (zU t).length
   ·have qk:(k:Int) < (t.length:Int):=(by omega);have Qc:k < t.length:=(by omega);obtain ⟨c,hc1,kN⟩:=qeQ t k qg;have hc3:¬ (c.toNat:Int) = 13:=fun h=>kN (UInt8.toNat_inj.1 (show c.toNat = 13 by omega));simp [j2,j4,j5,j7,j8,j10,qk,hc1,hc3,qO];exact ⟨k+1,by omega,by omega,rfl⟩
   ·have hke:k = (zU t).length:=(by omega);have zx:=qeP t;have qz:=qdn t;have vr:=qfm (zU t) (by omega);rw [← hke] at zl zx qz;rw [← qz] at vr zl;have zw:IntKind.i64.wrap ((k:Int)+2) = ((k+2:Nat):Int):=(by rw [wrap_i64] <;> omega);have ki:k≤t.length:=(by omega);have kA:(k:Int)≤(t.length:Int):=(by omega);have e2:k+2 - k = 2:=(by omega);obtain ⟨rest,X8⟩:∃ rest,rest = List.drop (k+2) t:=⟨_,rfl⟩;have QR:List.take (t.length - (k+2)) (List.drop (k+2) t) = rest:=(by rw [X8];exact qx (by simp));have vY:rest.length≤n:=(by rw [X8];simp;omega);rw [← X8] at zl
    have t2l:k+2≤t.length∨(t.drop k).take 2≠crlf:=by
     by_cases h:k+2≤t.length
     ·exact .inl h
     ·refine .inr fun h2=>?_;have:=congrArg List.length h2;simp [crlf] at this;omega
    have htcr:((t.drop k).take 2 = crlf) = ((t.drop k).take 2 = [13,10]):=rfl;generalize Vq:(t.drop k).take 2 = t2 at *;have hl3b:=zl;cases hn:jd (List.take k t) with
    | none =>
     rw [hn] at vr zl;rw [zl] at hN;rcases zx with zx | zx
     ·have qk:¬ (k:Int) < (t.length:Int):=(by have:=List.getElem?_eq_none_iff.1 zx;omega);simp [j2,j4,j5,j7,j8,j10,qk,kA,vr];exact ⟨hN,⟨x,rfl⟩,⟨y,rfl⟩,0,rfl⟩
     ·have Qc:k < t.length:=(List.getElem?_eq_some_iff.1 zx).1;have qk:(k:Int) < (t.length:Int):=(by omega);simp [j2,j4,j5,j7,j8,j10,qk,kA,zx,vr];exact ⟨hN,⟨x,rfl⟩,⟨y,rfl⟩,0,rfl⟩
    | some v =>
     have hv:=(qf3 hn).1;rw [hn] at vr zl;simp only at vr zl;by_cases Jo:t2 = crlf
     ·rw [if_pos Jo] at zl;have hk2:k+2≤t.length:=t2l.resolve_right (fun h=>h Jo);have vf:¬ (t.length:Int) < ((k+2:Nat):Int):=(by omega);have Jn:((k+2:Nat):Int)≤(t.length:Int):=(by omega);have ZA:(t2 == [13,10]) = true:=beq_iff_eq.2 Jo;rw [zl] at hN;rcases zx with zx | zx
      ·have:=List.getElem?_eq_none_iff.1 zx;omega
      ·have Qc:k < t.length:=(List.getElem?_eq_some_iff.1 zx).1;have qk:(k:Int) < (t.length:Int):=(by omega);obtain ⟨k3,vl⟩:∃ k3,k3 = k+2:=⟨_,rfl⟩;have hkk:k≤k3:=(by omega);rw [← vl] at zw hk2 vf Jn QR e2;simp [j2,j4,j5,j7,j8,j10,qk,kA,zx,vr,hkk,zw,vf,Jn,e2,Vq,ZA,QR];exact ⟨3,by omega,by omega,x,y,v,rest,by omega,hx,hy,hv,⟨_,_,Vs,hI2,zl⟩,⟨rfl,rfl,rfl⟩,rfl,rfl⟩
     ·rw [if_neg Jo] at zl;rw [zl] at hN;have ZA:(t2 == [13,10]) = false:=beq_eq_false_iff_ne.2 Jo;rcases zx with zx | zx
      ·have qk:¬ (k:Int) < (t.length:Int):=(by have:=List.getElem?_eq_none_iff.1 zx;omega);have vf:(t.length:Int) < ((k+2:Nat):Int):=(by omega);obtain ⟨k3,vl⟩:∃ k3,k3 = k+2:=⟨_,rfl⟩;rw [← vl] at zw vf;simp [j2,j4,j5,j7,j8,j10,qk,kA,vr,zw,vf];exact ⟨hN,⟨x,rfl⟩,⟨y,rfl⟩,0,rfl⟩
      ·have Qc:k < t.length:=(List.getElem?_eq_some_iff.1 zx).1;have qk:(k:Int) < (t.length:Int):=(by omega);by_cases hk2:k+2≤t.length
       ·have vf:¬ (t.length:Int) < ((k+2:Nat):Int):=(by omega);have Jn:((k+2:Nat):Int)≤(t.length:Int):=(by omega);obtain ⟨k3,vl⟩:∃ k3,k3 = k+2:=⟨_,rfl⟩;have hkk:k≤k3:=(by omega);rw [← vl] at zw hk2 vf Jn e2;simp [j2,j4,j5,j7,j8,j10,qk,kA,zx,vr,hkk,zw,vf,Jn,e2,Vq,ZA];exact ⟨hN,⟨x,rfl⟩,⟨y,rfl⟩,0,rfl⟩
       ·have vf:(t.length:Int) < ((k+2:Nat):Int):=(by omega);obtain ⟨k3,vl⟩:∃ k3,k3 = k+2:=⟨_,rfl⟩;rw [← vl] at zw vf;simp [j2,j4,j5,j7,j8,j10,qk,kA,zx,vr,zw,vf];exact ⟨hN,⟨x,rfl⟩,⟨y,rfl⟩,0,rfl⟩
 ·obtain ⟨r1,r2,Vs,hI2,hI3⟩:=hI;rw [Vs] at hN;simp only [hI2,hI3] at hN;by_cases hr:r = crlf
  ·rw [if_pos hr] at hN;have zS:(r == [13,10]) = true:=beq_iff_eq.2 hr;simp [k2,k4,k5,k6,k7,zS];exact ⟨x,y,z,hN,rfl,rfl,rfl⟩
  ·rw [if_neg hr] at hN;have zS:(r == [13,10]) = false:=beq_eq_false_iff_ne.2 hr;simp [k2,k4,k5,k6,k7,zS];exact ⟨hN,⟨x,rfl⟩,⟨y,rfl⟩,z,rfl⟩
theorem qrO (b:List UInt8) {l:List (List UInt8)} (hl:qje l):jI b l = if zA stopL b 0 = -1 then (.zero,22) else qaC (b.take ((zA stopL b 0).toNat+4)) (b.drop ((zA stopL b 0).toNat+4)) l 0:=by
 rw [qkI _ _ _ _ hl];rfl
set_option maxHeartbeats 4000000 in
set_option maxRecDepth 4000 in
theorem qrg [MaxL] [TxtC] (b:Sl UInt8) (hb:b.l.length≤90000):call cx 37 [(.vsl b.nil (qd b.l) b.l.length)] [] = some (.tup [.agg (Enc.cells (zL b.l).1),.int .i64 (zL b.l).2],[]):=by
 have hh:=qry b (by omega);have hP:=qrO b.l qri;have jh:zL b.l = if (jI b.l rqL).2 = 0 then (⟨qaK (jI b.l rqL).1.kind,(jI b.l rqL).1.epoch,(jI b.l rqL).1.number,(jI b.l rqL).1.body⟩,0) else (⟨[],0,0,.none⟩,(jI b.l rqL).2):=rfl;generalize jI b.l rqL = m at *;generalize zL b.l = res at *;refine qs Tryz.func37 rfl ⟨rfl,rfl⟩ ?_;rcases qcO stopL b.l 0 with ⟨i,h1,h2,h3⟩ | h1
 ·rw [vQ] at h1;have h4:stopL.length = 4:=rfl;rw [h4] at h2;have h5:¬ ((i:Nat):Int) = -1:=by omega
  have h6:((i:Int)+4) = ((i+4:Nat):Int):=by omega
  have h7:((i:Nat):Int).toNat = i:=by omega
  rw [h1,if_neg h5,h6] at hh;rw [h1,if_neg h5,h7] at hP;obtain ⟨k,hk⟩:∃ k,k = i+4:=⟨_,rfl⟩;rw [← hk] at hh hP h2;have hk1:1≤k:=by omega
  have hbody:=fun z hz=>qrX b (by omega) k z h2 hk1 hz;have hnn:b.nil = false:=Sl.nn (s:=b) (i:=0) (by omega);have qz:List.take k (qd b.l) = qd (b.l.take k):=kw _ _;have hsl:(b.l.take k).length = k:=by rw [js];omega
  have VH:(k:Int)≤(b.l.length:Int):=by omega
  generalize b.l.take k = s at *;generalize b.l.drop k = body at *;have hsl2:s.length < 1000000:=by omega
  clear h1 h5 h6 h7 hk h3;simp [Tryz.f37,hh]
  refine Run.loopThen (fun (j:Nat) e H'=>j≤2∧qaC s body (rqL.drop j) j = m∧H' = [some [.str [],.int .u64 0,.int .u64 0,.vsl true [] 0],some [.str jq,.str zQ]] ∧
   qf e 0 = some (.vsl b.nil (qd b.l) b.l.length)∧qf e 2 = some (.optr 0 4 0)∧qf e 4 = some (.int .i64 k)∧qf e 6 = some (.osl 1 2 0 2 1)∧qf e 7 = some (.int .i64 j)) (fun j=>2 - j) 0 ?_ ?_
  ·simp [hP,jq,zQ]
  rintro j e H' ⟨hj,hm,rfl,k0,k2,k4,k6,k7⟩;rw [hnn] at k0 hbody;have VI:j = 0∨j = 1∨j = 2:=by omega
  rcases VI with rfl | rfl | rfl
  ·rw [show rqL.drop 0 = jZ jq :: rqL.drop 1 from rfl,qaC] at hm;have hst:=qhc jq (by decide);have jN:=qdh s (jZ jq) hsl2 (by decide);cases hp:pre (jZ jq) s with
   | false =>
    rw [hp,if_neg (by decide)] at jN hm;generalize jZ jq = w at *;simp [k0,k2,k4,k6,k7,VH,qz,hst,jN,hsl];exact ⟨1,by omega,by omega,hm,by simp [hnn]⟩
   | true =>
    rw [hp,if_pos rfl] at jN hm;have jH:(s.drop (jZ jq).length).length≤s.length:=(by simp);generalize s.drop (jZ jq).length = t at *;generalize jZ jq = w at *;rcases qj2 t (by omega) with ⟨x,y,z,n1,n2⟩ | ⟨n1,x,y,z,n2⟩
    ·rw [n1] at hm;simp only at hm;have hz:=(qgG n1).2.2.1;have QS:=hbody z hz;unfold qal at hm;by_cases z1:65536 < z
     ·rw [if_pos z1] at QS hm;subst hm;rw [if_neg (by decide)] at jh;subst jh;simp [k0,k2,k4,k6,k7,VH,qz,hst,jN,hsl,n2,QS,Rq.cells]
     ·rw [if_neg z1] at QS hm;by_cases z2:body.length < z
      ·rw [if_pos z2] at QS hm;subst hm;rw [if_neg (by decide)] at jh;subst jh;simp [k0,k2,k4,k6,k7,VH,qz,hst,jN,hsl,n2,QS,Rq.cells]
      ·rw [if_neg z2] at QS hm;by_cases z3:z < body.length
       ·rw [if_pos z3] at QS hm;subst hm;rw [if_neg (by decide)] at jh;subst jh;simp [k0,k2,k4,k6,k7,VH,qz,hst,jN,hsl,n2,QS,Rq.cells]
       ·rw [if_neg z3] at QS hm;subst hm;rw [if_pos rfl] at jh;subst jh;simp [k0,k2,k4,k6,k7,VH,qz,hst,jN,hsl,n2,QS,Rq.cells,qaK]
        try rfl
    ·rw [n1] at hm;simp only at hm;subst hm;rw [if_neg (by decide)] at jh;subst jh;simp [k0,k2,k4,k6,k7,VH,qz,hst,jN,hsl,n2,Rq.cells]
  ·rw [show rqL.drop 1 = jZ zQ :: rqL.drop 2 from rfl,qaC] at hm;have hst:=qhc zQ (by decide);have jN:=qdh s (jZ zQ) hsl2 (by decide);cases hp:pre (jZ zQ) s with
   | false =>
    rw [hp,if_neg (by decide)] at jN hm;generalize jZ zQ = w at *;simp [k0,k2,k4,k6,k7,VH,qz,hst,jN,hsl];exact ⟨2,by omega,by omega,hm,by simp [hnn]⟩
   | true =>
    rw [hp,if_pos rfl] at jN hm;have jH:(s.drop (jZ zQ).length).length≤s.length:=(by simp);generalize s.drop (jZ zQ).length = t at *;generalize jZ zQ = w at *;rcases qj2 t (by omega) with ⟨x,y,z,n1,n2⟩ | ⟨n1,x,y,z,n2⟩
    ·rw [n1] at hm;simp only at hm;have hz:=(qgG n1).2.2.1;have QS:=hbody z hz;unfold qal at hm;by_cases z1:65536 < z
     ·rw [if_pos z1] at QS hm;subst hm;rw [if_neg (by decide)] at jh;subst jh;simp [k0,k2,k4,k6,k7,VH,qz,hst,jN,hsl,n2,QS,Rq.cells]
     ·rw [if_neg z1] at QS hm;by_cases z2:body.length < z
      ·rw [if_pos z2] at QS hm;subst hm;rw [if_neg (by decide)] at jh;subst jh;simp [k0,k2,k4,k6,k7,VH,qz,hst,jN,hsl,n2,QS,Rq.cells]
      ·rw [if_neg z2] at QS hm;by_cases z3:z < body.length
       ·rw [if_pos z3] at QS hm;subst hm;rw [if_neg (by decide)] at jh;subst jh;simp [k0,k2,k4,k6,k7,VH,qz,hst,jN,hsl,n2,QS,Rq.cells]
       ·rw [if_neg z3] at QS hm;subst hm;rw [if_pos rfl] at jh;subst jh;simp [k0,k2,k4,k6,k7,VH,qz,hst,jN,hsl,n2,QS,Rq.cells,qaK]
        try rfl
    ·rw [n1] at hm;simp only at hm;subst hm;rw [if_neg (by decide)] at jh;subst jh;simp [k0,k2,k4,k6,k7,VH,qz,hst,jN,hsl,n2,Rq.cells]
  ·rw [show rqL.drop 2 = [] from rfl,qaC] at hm;subst hm;rw [if_neg (by decide)] at jh;subst jh;simp [k0,k2,k4,k6,k7,Rq.cells]
 ·rw [h1,if_pos rfl] at hh hP;subst hP;rw [if_neg (by decide)] at jh;subst jh;simp [Tryz.f37,hh,Rq.cells]
def RSt.B (s:RSt) (nl:Bool):List D:=[.int .u64 s.ep,.int .u64 s.la,(.vsl s.mks.nil (qh s.mks.l) s.mks.l.length),.vsl nl (qh s.its) s.its.length]
def AnsQ (s:RSt) (c:Int) (x:Sl UInt8) (r:D × qi):Prop:= ∃ nl,(nl = true→s.its = [])∧r = (.tup [.int .i64 c,(.vsl x.nil (qd x.l) x.l.length)],[some (s.B nl)])
theorem AnsQ.mk {s:RSt} {c:Int} {x:Sl UInt8} {nl:Bool} (h:nl = true→s.its = []):AnsQ s c x (.tup [.int .i64 c,(.vsl x.nil (qd x.l) x.l.length)],[some (s.B nl)]):=⟨nl,h,rfl⟩
set_option maxHeartbeats 8000000 in
set_option maxRecDepth 8000 in
theorem q0J [MaxL] {s:RSt} {N:Nat} (hI:RInv s N) (hN:N≤100000) (nl:Bool) (zb:nl = true→s.its = []) (q:Rq) (hq:q.body.l.length≤65536) (hqe:qA q.epoch) (hqn:qA q.number) :
  ∃ r,call cx 39 [.optr 0 4 0,.agg (Enc.cells q)] [some (s.B nl)] = some r∧AnsQ (jc s q).2.2 (jc s q).1 (jc s q).2.1 r:=by
 have hm:=hI.len;have vL:=hI.num;have ZF:=hI.la;have hok:=hI.ok;obtain ⟨ep,la,its,mk⟩:=s;obtain ⟨p,e,n,o⟩:=q;simp only at hq hqe hqn hm vL ZF hok zb;have hg:=qrz o (by omega);have Yr:=qkv mk (by omega) hok;obtain ⟨w1,qO⟩:∃ w1,IntKind.u64.wrap (la+1) = w1:=⟨_,rfl⟩;have Qp:la = 18446744073709551615→w1 = 0:=fun h=>by rw [← qO,h];decide
 have QM:la≠18446744073709551615→w1≠0:=fun h=>by
  obtain ⟨h1,h2⟩:=ZF;have:w1 = la+1:=by rw [← qO,qU] <;> omega
  omega
 refine vH (X:=cx) (f:=39) (args:=[.optr 0 4 0,.agg [.str p,.int .u64 e,.int .u64 n,(.vsl o.nil (qd o.l) o.l.length)]]) (H:=[some [.int .u64 ep,.int .u64 la,(.vsl mk.nil (qh mk.l) mk.l.length),.vsl nl (qh its) its.length]]) (AnsQ (jc ⟨ep,la,its,mk⟩ ⟨p,e,n,o⟩).2.2 (jc ⟨ep,la,its,mk⟩ ⟨p,e,n,o⟩).1 (jc ⟨ep,la,its,mk⟩ ⟨p,e,n,o⟩).2.1) Tryz.func39 rfl ⟨rfl,rfl⟩ ?_;obtain ⟨⟨A1,A2,A3⟩,hA⟩:∃ A,A = jc ⟨ep,la,its,mk⟩ ⟨p,e,n,o⟩:=⟨_,rfl⟩;rw [← hA];unfold jc at hA;simp only at hA ⊢;by_cases c1:e < ep
 ·rw [if_pos c1] at hA;cases hA;simp [Tryz.f39,c1];exact AnsQ.mk (x:=.none) zb
 rw [if_neg c1] at hA;by_cases cp:p = jq
 ·rw [if_pos cp] at hA;subst cp;have hs:(jq == [47,104,101,108,108,111]) = true:=by decide
  by_cases c2:0 < o.l.length
  ·rw [if_pos c2] at hA;cases hA;simp [Tryz.f39,c1,hs,c2];exact AnsQ.mk (x:=.none) zb
  ·rw [if_neg c2] at hA;generalize kQ mk.l = z at *;unfold VK at hA;simp only at hA;by_cases c3:ep < e
   ·rw [if_pos c3] at hA;cases hA;simp [Tryz.f39,c1,hs,c2,c3,Yr];exact AnsQ.mk zb
   ·rw [if_neg c3] at hA;cases hA;simp [Tryz.f39,c1,hs,c2,c3,Yr];exact AnsQ.mk zb
 rw [if_neg cp] at hA
 have hs:(p == [47,104,101,108,108,111]) = false:=by
  have:¬ p = [47,104,101,108,108,111]:=cp;simpa using this
 unfold jr at hA;simp only at hA;by_cases c2:ep < e
 ·rw [if_pos c2] at hA;cases hA;simp [Tryz.f39,c1,hs,c2];exact AnsQ.mk (x:=.none) zb
 rw [if_neg c2] at hA;by_cases c3:n = la∧n≠0
 ·rw [if_pos c3] at hA;cases hA;obtain ⟨rfl,c4⟩:=c3;simp [Tryz.f39,c1,hs,c2,c4];exact AnsQ.mk (x:=.none) zb
 rw [if_neg c3,qO] at hA;have c3':n = la→n = 0:=fun h=>qdj fun h0=>c3 ⟨h,h0⟩;by_cases c4:n≠w1∨n = 0
 ·rw [if_pos c4] at hA;cases hA;by_cases c5:la = 18446744073709551615
  ·have c6:¬ n = la:=fun h=>by have:=c3' h;omega
   subst c5;simp [Tryz.f39,c1,hs,c2,c6];exact AnsQ.mk (x:=.none) zb
  ·have:=QM c5
   have c6:¬ n = w1:=fun h=>by
    rcases c4 with h1 | h1
    ·exact h1 h
    ·omega
   by_cases c7:n = la
   ·have c8:=c3' c7;subst c7;subst c8;simp [Tryz.f39,c1,hs,c2];exact AnsQ.mk (x:=.none) zb
   ·simp [Tryz.f39,c1,hs,c2,c7,c5,c6,qO];exact AnsQ.mk (x:=.none) zb
 rw [if_neg c4] at hA;have c5:¬ la = 18446744073709551615:=fun h=>by have:=Qp h;omega
 have c6:n = w1:=qdj fun h=>c4 (.inl h);have c7:¬ n = 0:=fun h=>c4 (.inr h);have c8:¬ n = la:=fun h=>c7 (c3' h);unfold jl at hg;obtain ⟨⟨l,en,c⟩,hgp⟩:∃ g,g = vP o.l:=⟨_,rfl⟩;have vu:=qmK o.l;have Vk:=qmJ o.l
 have his:c = 0→(∀ y∈l,GotI y)∧(∀ y∈en,y.Ok):=fun h=>by
  obtain ⟨_,h2,h3,_,_⟩:=qir hq (h ▸ hgp.symm);exact ⟨h2,h3⟩
 rw [← hgp] at hg vu Vk hA;unfold qav at hA;simp only at hg vu Vk hA;clear hgp;obtain ⟨lS,KX⟩:∃ lS,lS = Sl.grown l:=⟨_,rfl⟩;obtain ⟨E,hE⟩:∃ E,E = Sl.grown en:=⟨_,rfl⟩;have qbl:lS.l = l:=by rw [KX];rfl
 have JK:E.l = en:=by rw [hE];rfl
 rw [← KX,← hE,qbl,JK] at hg;rw [← hE] at hA;subst c6;by_cases hc:c = 0
 case neg =>
  rw [if_pos hc] at hA;cases hA;simp [Tryz.f39,c1,hs,c2,c8,c5,qO,hg,hc];exact AnsQ.mk (x:=.none) zb
 obtain ⟨kx,heo⟩:=his hc;rw [if_neg (fun h=>h hc)] at hA;simp [Tryz.f39,c1,hs,c2,c8,c5,qO,hg,hc]
 refine Run.loopThen (fun (k:Nat × Sl Mk) e' H=>k.1≤l.length∧k.2.l.length≤mk.l.length+k.1∧Y5 k.2.l∧JM (l.drop k.1) k.2.l = JM l mk.l∧(H = [some [.int .u64 ep,.int .u64 la,(.vsl mk.nil (qh mk.l) mk.l.length),.vsl nl (qh its) its.length],some [.str p,.int .u64 e,.int .u64 n,(.vsl o.nil (qd o.l) o.l.length)]]∨∃ w,H = [some [.int .u64 ep,.int .u64 la,(.vsl mk.nil (qh mk.l) mk.l.length),.vsl nl (qh its) its.length],some [.str p,.int .u64 e,.int .u64 n,(.vsl o.nil (qd o.l) o.l.length)],w]) ∧
  qf e' 0 = some (.optr 0 4 0)∧qf e' 3 = some (.optr 1 4 0)∧qf e' 6 = some (.vsl lS.nil (qh l) l.length)∧qf e' 7 = some (.vsl E.nil (qh en) en.length)∧qf e' 9 = some (.vsl k.2.nil (qh k.2.l) k.2.l.length)∧qf e' 10 = some (.int .i64 k.1)) (fun k=>l.length - k.1) (0,mk) ?_ ?_
 ·simp [hok]
 rintro ⟨k,t⟩ e' H ⟨hk,jH,hto,hf,hH,k0,k3,k6,k7,k9,k10⟩;simp only at hk jH hto hf k9 k10;by_cases qg:k < l.length
 ·have qk:(k:Int) < (l.length:Int):=by omega
  have hw:IntKind.i64.wrap ((k:Int)+1) = ((k+1:Nat):Int):=by rw [wrap_i64] <;> omega
  have qM:lS.nil = false:=Sl.nn (i:=k) (by rw [qbl];exact qg);have vn:List.drop (k * 39) (qh l) = Enc.cells l[k] ++ qh (l.drop (k+1)):=It.ea qg;have qz:=qke t (by omega) l[k] false;have VO:39≤39+(l.length - (k+1)) * 39:=by omega
  have hxo:(l[k]).Ok:=(kx _ (vw qg)).ok;rw [zm qg,JM] at hf;have htl2:=qgJ t.l l[k] false;have htc:=qp8 t.l l[k] false;have htw:=qp7 (l:=t.l) (it:=l[k]) false hto hxo;have hto2:=qkd (f:=t.l) (x:=l[k]) hto hxo false;generalize l[k] = x at *;rw [← htc] at qz;by_cases c9:Kb t.l x = 0
  ·rw [if_pos c9] at hf;rw [c9] at qz;unfold Ql at qz;rw [if_pos rfl,← htw c9] at qz;rw [← htw c9] at hto2;rcases hH with rfl | ⟨w,rfl⟩
   ·simp [-It.ea,k0,k3,k6,k7,k9,k10,qk,hw,qM,vn,qz,VO];exact ⟨k+1,by omega,by omega,.of (KK t.l x false),by rw [Sl.of_l];omega,hto2,hf,⟨rfl,rfl,rfl⟩,by omega⟩
   ·simp [-It.ea,k0,k3,k6,k7,k9,k10,qk,hw,qM,vn,qz,VO];exact ⟨k+1,by omega,by omega,.of (KK t.l x false),by rw [Sl.of_l];omega,hto2,hf,⟨rfl,rfl,rfl⟩,by omega⟩
  ·rw [if_neg c9] at hf;rw [← hf] at hA;cases hA;unfold Ql at qz;rw [if_neg c9] at qz;rcases hH with rfl | ⟨w,rfl⟩
   ·simp [-It.ea,k0,k3,k6,k7,k9,k10,qk,qM,vn,qz,VO,c9];exact AnsQ.mk (x:=.none) zb
   ·simp [-It.ea,k0,k3,k6,k7,k9,k10,qk,qM,vn,qz,VO,c9];exact AnsQ.mk (x:=.none) zb
 ·have qk:¬ (k:Int) < (l.length:Int):=by omega
  rw [zX (by omega),JM] at hf;rw [← hf] at hA;simp only at hA;have h1:=qky t E (by omega) (by rw [JK];omega);have h2:=qky mk E (by omega) (by rw [JK];omega);rw [JK] at h1 h2;cases d1:kH t.l en with
  | false =>
   rw [d1,Z3,if_neg (by decide)] at hA;cases hA;rw [d1] at h1;rcases hH with rfl | ⟨w,rfl⟩
   ·simp [k0,k3,k6,k7,k9,k10,qk,h1];exact AnsQ.mk (x:=.none) zb
   ·simp [k0,k3,k6,k7,k9,k10,qk,h1];exact AnsQ.mk (x:=.none) zb
  | true =>
   rw [d1] at h1;cases d2:kH mk.l en with
   | false =>
    rw [d1,d2,vS,if_neg (by decide)] at hA;cases hA;rw [d2] at h2;rcases hH with rfl | ⟨w,rfl⟩
    ·simp [k0,k3,k6,k7,k9,k10,qk,h1,h2];exact AnsQ.mk (x:=.none) zb
    ·simp [k0,k3,k6,k7,k9,k10,qk,h1,h2];exact AnsQ.mk (x:=.none) zb
   | true =>
    rw [d1,d2,vS,if_pos rfl] at hA;cases hA;rw [d2] at h2;have hb1:(its.length+l.length) * 104≤140737488355328:=(by omega);have zE:its.length+l.length≤140737488355328:=(by omega);have hb4:its.length * 104≤140737488355328:=(by omega);have hb5:its.length≤140737488355328:=(by omega);have ZK:List.take (l.length * 39) (qh l) = qh l:=qx (by rw [It.el];omega);have hb6:List.take (its.length * 39) (qh its) = qh its:=qx (by rw [It.el];omega);have hb7:(its.length+l.length) * 39≤its.length * 39+l.length * 39:=(by omega);have hb8:List.take ((its.length+l.length) * 39) (qh its ++ qh l) = qh its ++ qh l:=qx (by rw [qC,It.el,It.el];omega);rcases hH with rfl | ⟨w,rfl⟩
    ·simp [k0,k3,k6,k7,k9,k10,qk,h1,h2,qI,hb1,zE,hb4,hb5,hb7,hb8];exact ⟨false,fun h=>(by cases h),by simp [RSt.B,qb2,JK]⟩
    ·simp [k0,k3,k6,k7,k9,k10,qk,h1,h2,qI,hb1,zE,hb4,hb5,hb7,hb8];exact ⟨false,fun h=>(by cases h),by simp [RSt.B,qb2,JK]⟩
def DHearQ (s:RSt) (x:Sl UInt8) (r:D × qi):Prop:= ∃ nl,(nl = true→s.its = [])∧r = ((.vsl x.nil (qd x.l) x.l.length),[some (s.B nl)])
theorem DHearQ.mk {s:RSt} {x:Sl UInt8} {nl:Bool} (h:nl = true→s.its = []):DHearQ s x ((.vsl x.nil (qd x.l) x.l.length),[some (s.B nl)]):=⟨nl,h,rfl⟩
theorem qoB (s:RSt) (q:Rq):(jc s q).2.1.l.length≤1000:=by
 unfold jc
 repeat' split
 ·simp
 ·simp
 ·exact qos _
 ·simp
set_option maxHeartbeats 2000000 in
theorem qyZ [MaxL] {s:RSt} {N:Nat} (hI:RInv s N) (hN:N≤90000) (nl:Bool) (zb:nl = true→s.its = []) (b:Sl UInt8) (hb:b.l.length≤90000) :
  ∃ r,call cx 13 [.optr 0 4 0,(.vsl b.nil (qd b.l) b.l.length)] [some (s.B nl)] = some r∧DHearQ (kl s b.l).2 (kl s b.l).1 r:=by
 have h1:=qrg b hb;refine vH (X:=cx) (f:=13) (args:=[.optr 0 4 0,(.vsl b.nil (qd b.l) b.l.length)]) (H:=[some (s.B nl)]) (DHearQ (kl s b.l).2 (kl s b.l).1) Tryz.func13 rfl ⟨rfl,rfl⟩ ?_;by_cases hc:(zL b.l).2 = 0
 case neg =>
  have hS:kl s b.l = (kc ⟨400,0,0,.none⟩,s):=by unfold kl;rw [if_pos hc]
  rw [hS];have h2:=qkl ⟨400,0,0,.none⟩ ⟨by simp,by simp⟩ ⟨by simp,by simp⟩ (by simp);generalize (zL b.l).2 = c at *;generalize (zL b.l).1 = q0 at *;obtain ⟨p,e,n,o⟩:=q0;simp only [Rq.cells,Rs.cells] at h1 h2 ⊢
  try simp at h2
  generalize kc ⟨400,0,0,.none⟩ = z at *;obtain ⟨ep,la,its,mk⟩:=s;simp [Tryz.f13,RSt.B,h1,h2,hc];exact DHearQ.mk (s:=⟨ep,la,its,mk⟩) zb
 obtain ⟨p,x,y,body,hp,hq,_,hx,hy,hl⟩:=qdF hc;have ux:=qbN hx;have uy:=qbN hy
 have hS:kl s b.l = (kc ⟨(jc s ⟨p,x,y,.of body⟩).1,(jc s ⟨p,x,y,.of body⟩).2.2.ep,y,(jc s ⟨p,x,y,.of body⟩).2.1⟩,(jc s ⟨p,x,y,.of body⟩).2.2):=by
  unfold kl;rw [if_neg (fun h=>h hc),hq]
 obtain ⟨r,ha,nl',hnl',rfl⟩:=q0J hI (by omega) nl zb ⟨p,x,y,.of body⟩ (by simpa using hl) ux uy;have hI':=qoA hI ⟨p,x,y,.of body⟩ (by simpa using hl) ux uy;have QT:=qoB s ⟨p,x,y,.of body⟩;rw [hS];generalize jc s ⟨p,x,y,.of body⟩ = R at *;obtain ⟨c,w,s'⟩:=R;simp only at ha hI' hnl' QT ⊢;have h2:=qkl ⟨c,s'.ep,y,w⟩ hI'.ep uy (by simp only;omega);rw [hq,hc] at h1;simp only [Rq.cells,Rs.cells] at h1 h2 ha;generalize kc ⟨c,s'.ep,y,w⟩ = z at *;obtain ⟨o,ho⟩:∃ o,o = Sl.of body:=⟨_,rfl⟩;rw [← ho] at h1 ha;obtain ⟨ep,la,its,mk⟩:=s;obtain ⟨ep',la',its',mk'⟩:=s';simp only [RSt.B] at ha h2 ⊢;simp [Tryz.f13,h1,h2,ha];exact DHearQ.mk (s:=⟨ep',la',its',mk'⟩) hnl'
def qoQ (H:qi) (q:D × qi):Prop:= ∃ o:Sl UInt8,o.l.length≤65536∧q = ((.vsl o.nil (qd o.l) o.l.length),H)
theorem qtL {L:List It} (h:∀ x∈L,qeF x):qdi L:=fun x hx=>by
 obtain ⟨h1,h2,h3,h4⟩:=h x hx;refine ⟨h1,by omega,fun p hp=>?_⟩;have:=qt7 (h4 p hp);exact ⟨by omega,by omega⟩
set_option maxHeartbeats 4000000 in
set_option maxRecDepth 8000 in
theorem q02 [MaxL] (kd ep nm:Int) (n1:Bool) (z1:List Int) (h1:n1 = true→z1 = []) (Yg:z1.length≤60) (n2:Bool) (z2:List Int) (h2:n2 = true→z2 = []) (Yf:z2.length≤4) (y:UInt8) (b:Sl UInt8) (ep0 la0:Int) (mk:Sl Mk) (hR:Y5 mk.l) (hRn:mk.l.length≤1000000) (dI:D) (vo:∀ n,closed n dI = true) :
  ∃ q,call cx 29 [.agg [.int .i64 kd,.int .i64 ep,.int .i64 nm,.vsl n1 (je .i64 z1) z1.length,.vsl n2 (je .i64 z2) z2.length,.int .u8 y.toNat,(.vsl b.nil (qd b.l) b.l.length)],.optr 0 4 0] [some [.int .u64 ep0,.int .u64 la0,(.vsl mk.nil (qh mk.l) mk.l.length),dI]] = some q∧qoQ [some [.int .u64 ep0,.int .u64 la0,(.vsl mk.nil (qh mk.l) mk.l.length),dI]] q:=by
 refine vH (X:=cx) (f:=29) (args:=[.agg [.int .i64 kd,.int .i64 ep,.int .i64 nm,.vsl n1 (je .i64 z1) z1.length,.vsl n2 (je .i64 z2) z2.length,.int .u8 y.toNat,(.vsl b.nil (qd b.l) b.l.length)],.optr 0 4 0]) (H:=[some [.int .u64 ep0,.int .u64 la0,(.vsl mk.nil (qh mk.l) mk.l.length),dI]]) (qoQ [some [.int .u64 ep0,.int .u64 la0,(.vsl mk.nil (qh mk.l) mk.l.length),dI]]) Tryz.func29 rfl ⟨rfl,rfl⟩ ?_;have sf:=qd2 n1 z1;have sl:=qd1 n1 z1;have sc:=qd3 n1 z1;obtain ⟨q,hq,L,k',hL4,hLm,zY⟩:=qxi n1 z1 h1 (by omega) 0 4 (by decide);have tailE:∀ (S:Sl It),qdi S.l→∀ (E:Sl Mk),(∀ x∈E.l,x.Ok)→E.l.length≤1000000→∃ o:Sl UInt8,o.l.length≤65536∧call cx 55 [(.vsl S.nil (qh S.l) S.l.length),(.vsl E.nil (qh E.l) E.l.length)] [] = some ((.vsl o.nil (qd o.l) o.l.length),[]):=fun S hS E hE VM=>⟨Kg S.l E.l,qsf _ _,qrk S E hS hE (by omega)⟩
 have tail:∀ (o:Sl UInt8),o.l.length≤65536→∀ (nn:Nat),nn = o.l.length→4 < nn→0 < z2.length→∃ o2:List UInt8,o2.length≤65536∧call cx 57 [.vsl o.nil (qd (o.l.take (nn - 4))) (nn - 4),.vsl n2 (je .i64 z2) z2.length,.int .u8 y.toNat] [] = some (.vsl false (qd o2) o2.length,[])∧o2.length = nn - 4∧call cx 56 [.vsl false (qd o2) o2.length] [] = some (.vsl false (qd (Qk o2)) (Qk o2).length,[]):=by
  intro o ho nn hnn h4 hz
  have Ku:o.nil = false:=by
   cases hn:o.nil with
   | false=>rfl
   | true=>have:=o.h hn;rw [this] at hnn;simp at hnn;omega
  have hl:(o.l.take (nn - 4)).length = nn - 4:=by rw [js];omega
  obtain ⟨q2,c1,o2,ho2,rfl⟩:=qpX (.of (o.l.take (nn - 4))) (by simp;omega) n2 z2 h2 (by omega) y;have c2:=qkk (.of o2) (by simp at ho2 ⊢;omega);simp only [Sl.of_l,Sl.of_nil,hl] at c1 c2 ho2;refine ⟨o2,by omega,by rw [Ku];exact c1,ho2,c2⟩
 obtain ⟨m7,QB⟩:∃ m7,kd.tmod 7 = m7:=⟨_,rfl⟩;obtain ⟨m4,VF⟩:∃ m4,kd.tmod 4 = m4:=⟨_,rfl⟩;rcases zY with ⟨rfl,rfl⟩ | ⟨qt,n,m,hn,hm,rfl⟩
 ·replace hq:call cx 30 [.optr 0 2 0,.int .i64 4] [some [.vsl n1 (je .i64 z1) z1.length,.int .i64 0]] = some (.vsl true [] 0,[some (jG n1 z1 k')]):=hq;simp [Tryz.f29,hq,sf];refine qha ?_;simp;by_cases c7:m7 = 0
  ·obtain ⟨qm,Jl,M,kz,hM,rfl⟩:=qhH n1 z1 h1 (by omega) k';replace Jl:call cx 54 [.optr 0 2 0] [some (jG n1 z1 k')] = some (.vsl M.isEmpty (qh M) M.length,[some (jG n1 z1 kz)]):=Jl;have hM4:=hM.len;obtain ⟨o,ho,hp⟩:=tailE .none (by intro x hx;simp at hx) ⟨M.isEmpty,M,fun h=>by simpa using h⟩ hM.ok (by simp only;omega);simp only [Sl.none_l,Sl.none_nil,qn4,qX] at hp;obtain ⟨nn,hnn⟩:∃ nn,nn = o.l.length:=⟨_,rfl⟩;rw [← hnn] at hp;by_cases c8:0 < z2.length
   ·have c8':(0:Int) < (z2.length:Int):=(by omega);by_cases c9:4 < nn
    ·have c9':(4:Int) < (nn:Int):=(by omega);obtain ⟨o2,t1,t2,t3,t4⟩:=tail o ho nn hnn c9 c8;have Zg:IntKind.i64.wrap ((nn:Int) - 4) = ((nn - 4:Nat):Int):=(by rw [wrap_i64] <;> omega);have ht:List.take (nn - 4) (qd o.l) = qd (o.l.take (nn - 4)):=kw _ _;have hle:((nn - 4:Nat):Int)≤(nn:Int):=(by omega);have hsl:=qbT o2;generalize Qk o2 = o3 at *;generalize o.l.take (nn - 4) = o4 at *;obtain ⟨n4,ZE⟩:∃ n4,n4 = nn - 4:=⟨_,rfl⟩;rw [← ZE] at *;simp [sf,vo,QB,c7,Jl,hp,c8,c9',Zg,ht,hle,t2,t4,hnn.symm];exact ⟨.of o3,by rw [Sl.of_l];omega,rfl⟩
    ·have c9':¬ (4:Int) < (nn:Int):=(by omega);simp [sf,vo,QB,c7,Jl,hp,c8,c9'];exact ⟨o,ho,by rw [← hnn]⟩
   ·have c8':¬ (0:Int) < (z2.length:Int):=(by omega);simp [sf,vo,QB,c7,Jl,hp,c8];exact ⟨o,ho,by rw [← hnn]⟩
  ·obtain ⟨o,ho,hp⟩:=tailE .none (by intro x hx;simp at hx) mk hR hRn;simp only [Sl.none_l,Sl.none_nil,qn4,qX] at hp;obtain ⟨nn,hnn⟩:∃ nn,nn = o.l.length:=⟨_,rfl⟩;rw [← hnn] at hp;by_cases c8:0 < z2.length
   ·have c8':(0:Int) < (z2.length:Int):=(by omega);by_cases c9:4 < nn
    ·have c9':(4:Int) < (nn:Int):=(by omega);obtain ⟨o2,t1,t2,t3,t4⟩:=tail o ho nn hnn c9 c8;have Zg:IntKind.i64.wrap ((nn:Int) - 4) = ((nn - 4:Nat):Int):=(by rw [wrap_i64] <;> omega);have ht:List.take (nn - 4) (qd o.l) = qd (o.l.take (nn - 4)):=kw _ _;have hle:((nn - 4:Nat):Int)≤(nn:Int):=(by omega);have hsl:=qbT o2;generalize Qk o2 = o3 at *;generalize o.l.take (nn - 4) = o4 at *;obtain ⟨n4,ZE⟩:∃ n4,n4 = nn - 4:=⟨_,rfl⟩;rw [← ZE] at *;simp [vo,QB,c7,hp,c8,c9',Zg,ht,hle,t2,t4,hnn.symm];exact ⟨.of o3,by rw [Sl.of_l];omega,rfl⟩
    ·have c9':¬ (4:Int) < (nn:Int):=(by omega);simp [vo,QB,c7,hp,c8,c9'];exact ⟨o,ho,by rw [← hnn]⟩
   ·have c8':¬ (0:Int) < (z2.length:Int):=(by omega);simp [vo,QB,c7,hp,c8];exact ⟨o,ho,by rw [← hnn]⟩
 ·replace hq:call cx 30 [.optr 0 2 0,.int .i64 4] [some [.vsl n1 (je .i64 z1) z1.length,.int .i64 0]] = some (.osl 1 n 0 m 39,[some (jG n1 z1 k'),some (qh L)]):=hq;simp [Tryz.f29,hq,sf]
  refine Run.loopThen (fun (q:Nat × Sl Mk × List It) e H=>q.1≤m∧(Y5 q.2.1.l∧q.2.1.l.length≤1000000)∧q.2.2.length = m∧qdi q.2.2∧(H = [some [.int .u64 ep0,.int .u64 la0,(.vsl mk.nil (qh mk.l) mk.l.length),dI],some [.int .i64 kd,.int .i64 ep,.int .i64 nm,.vsl n1 (je .i64 z1) z1.length,.vsl n2 (je .i64 z2) z2.length,.int .u8 y.toNat,(.vsl b.nil (qd b.l) b.l.length)],some (jG n1 z1 k'),some (qh q.2.2)]∨∃ w,H = [some [.int .u64 ep0,.int .u64 la0,(.vsl mk.nil (qh mk.l) mk.l.length),dI],some [.int .i64 kd,.int .i64 ep,.int .i64 nm,.vsl n1 (je .i64 z1) z1.length,.vsl n2 (je .i64 z2) z2.length,.int .u8 y.toNat,(.vsl b.nil (qd b.l) b.l.length)],some (jG n1 z1 k'),some (qh q.2.2),w]) ∧
   qf e 1 = some (.optr 0 4 0)∧qf e 2 = some (.optr 1 7 0)∧qf e 5 = some (.optr 2 2 0)∧qf e 6 = some (.osl 3 n 0 m 39)∧qf e 7 = some (.vsl q.2.1.nil (qh q.2.1.l) q.2.1.l.length)∧qf e 8 = some (.int .i64 q.1)) (fun q=>m - q.1) (0,mk,L) ?_ ?_
  ·exact ⟨jk _,⟨hR,hRn⟩,hm.symm,qtL hLm,.inl rfl,by simp,by simp,by simp,by simp,by simp,by simp⟩
  rintro ⟨i,E,L'⟩ e H ⟨hi,⟨hE,VM⟩,vG,hB,hH,k1,k2,k5,k6,k7,k8⟩;simp only at hi hE VM vG hB hH k7 k8;have zb:n = L'.length * 39:=by omega
  by_cases qg:i < m
  ·have qk:(i:Int) < (m:Int):=(by omega);have hltL:i < L'.length:=(by omega);have hw:IntKind.i64.wrap ((i:Int)+1) = ((i+1:Nat):Int):=(by rw [wrap_i64] <;> omega);have hxB:=hB L'[i] (vw hltL);have vn:List.drop (i * 39) (qh L') = Enc.cells L'[i] ++ qh (L'.drop (i+1)):=It.ea hltL;have hge:=qfn mk (by omega) L'[i].id;generalize jz mk.l L'[i].id = g at *;generalize vF mk.l L'[i].id = gh at *;have hlat:=qug L'[i] g.seq;have hlB:=quh (n:=g.seq) hxB
   have qz:∀ x:It,x.Ok→∃ (c:Int) (E2:Sl Mk),call cx 19 [(.vsl E.nil (qh E.l) E.l.length),.agg (Enc.cells x),.bool false] [] = some (.tup [(.vsl E2.nil (qh E2.l) E2.l.length),.int .i64 c],[])∧(c = 0→Y5 E2.l∧E2.l.length≤1000000):=fun x hx=>by
    refine ⟨_,_,qke E (by omega) x false,fun hc=>?_⟩;unfold Ql;rw [if_pos hc,Sl.of_l];have:=qqM hc;exact ⟨qkd hE hx false,by omega⟩
   have hi39:i * 39+39≤m * 39:=(by omega);have jb:16≤39+(m - (i+1)) * 39:=(by omega);by_cases c4:0 < m4
   ·have hset:qH (qh L') (i * 39) (Enc.cells (JC L'[i] g.seq)) = qh (L'.set i (JC L'[i] g.seq)):=It.es _ hltL;have hltS:i < (L'.set i (JC L'[i] g.seq)).length:=by rw [qc0];exact hltL
    have hea2:List.drop (i * 39) (qh (L'.set i (JC L'[i] g.seq))) = Enc.cells (JC L'[i] g.seq) ++ qh ((L'.set i (JC L'[i] g.seq)).drop (i+1)):=by
     rw [It.ea hltS,List.getElem_set_self]
    have hBS:qdi (L'.set i (JC L'[i] g.seq)):=fun x hx=>by
     rcases qg2 hx with h | rfl
     ·exact hB x h
     ·exact hlB
    have hLS:(L'.set i (JC L'[i] g.seq)).length = m:=(by rw [qc0];exact vG);obtain ⟨c,E2,ht,kN⟩:=qz _ hlB.1;generalize hLL:L'.set i (JC L'[i] g.seq) = L2 at *;generalize JC L'[i] g.seq = x2 at *;generalize L'[i] = x at *;by_cases hc:c = 0
    ·rcases hH with rfl | ⟨w,rfl⟩
     ·simp [-It.ea,-It.es,k1,k2,k5,k6,k7,k8,qk,zb,vG,vn,hge,VF,c4,hlat,hset,hea2,hLS,ht,hc,hw,hi39,jb];exact ⟨i+1,by omega,by omega,E2,kN hc,L2,hLS,hBS,rfl,⟨rfl,rfl,rfl⟩,by omega⟩
     ·simp [-It.ea,-It.es,k1,k2,k5,k6,k7,k8,qk,sc,vo,zb,vG,vn,hge,VF,c4,hlat,hset,hea2,hLS,ht,hc,hw,hi39,jb];exact ⟨i+1,by omega,by omega,E2,kN hc,L2,hLS,hBS,rfl,⟨rfl,rfl,rfl⟩,by omega⟩
    ·rcases hH with rfl | ⟨w,rfl⟩
     ·simp [-It.ea,-It.es,k1,k2,k5,k6,k7,k8,qk,zb,vG,vn,hge,VF,c4,hlat,hset,hea2,hLS,ht,hc,hw,hi39,jb];exact ⟨i+1,by omega,by omega,E,⟨hE,VM⟩,L2,hLS,hBS,rfl,⟨rfl,rfl,rfl⟩,by omega⟩
     ·simp [-It.ea,-It.es,k1,k2,k5,k6,k7,k8,qk,sc,vo,zb,vG,vn,hge,VF,c4,hlat,hset,hea2,hLS,ht,hc,hw,hi39,jb];exact ⟨i+1,by omega,by omega,E,⟨hE,VM⟩,L2,hLS,hBS,rfl,⟨rfl,rfl,rfl⟩,by omega⟩
   ·obtain ⟨c,E2,ht,kN⟩:=qz _ hxB.1;generalize L'[i] = x at *;by_cases hc:c = 0
    ·rcases hH with rfl | ⟨w,rfl⟩
     ·simp [-It.ea,k1,k2,k5,k6,k7,k8,qk,zb,vG,vn,hge,VF,c4,ht,hc,hw,jb];exact ⟨i+1,by omega,by omega,E2,kN hc,L',vG,hB,rfl,⟨rfl,rfl,rfl⟩,by omega⟩
     ·simp [-It.ea,k1,k2,k5,k6,k7,k8,qk,sc,vo,zb,vG,vn,hge,VF,c4,ht,hc,hw,jb];exact ⟨i+1,by omega,by omega,E2,kN hc,L',vG,hB,rfl,⟨rfl,rfl,rfl⟩,by omega⟩
    ·rcases hH with rfl | ⟨w,rfl⟩
     ·simp [-It.ea,k1,k2,k5,k6,k7,k8,qk,zb,vG,vn,hge,VF,c4,ht,hc,hw,jb];exact ⟨i+1,by omega,by omega,E,⟨hE,VM⟩,L',vG,hB,rfl,⟨rfl,rfl,rfl⟩,by omega⟩
     ·simp [-It.ea,k1,k2,k5,k6,k7,k8,qk,sc,vo,zb,vG,vn,hge,VF,c4,ht,hc,hw,jb];exact ⟨i+1,by omega,by omega,E,⟨hE,VM⟩,L',vG,hB,rfl,⟨rfl,rfl,rfl⟩,by omega⟩
  ·have qk:¬ (i:Int) < (m:Int):=(by omega);have vL:List.take (m * 39) (qh L') = qh L':=qx (by rw [It.el];omega);rcases hH with rfl | ⟨w,rfl⟩
   ·by_cases c7:m7 = 0
    ·obtain ⟨qm,Jl,M,kz,hM,rfl⟩:=qhH n1 z1 h1 (by omega) k';replace Jl:call cx 54 [.optr 0 2 0] [some (jG n1 z1 k')] = some (.vsl M.isEmpty (qh M) M.length,[some (jG n1 z1 kz)]):=Jl;have hM4:=hM.len;obtain ⟨o,ho,hp⟩:=tailE (.of L') (by rw [Sl.of_l];exact hB) ⟨M.isEmpty,M,fun h=>by simpa using h⟩ hM.ok (by simp only;omega);simp only [Sl.of_l,Sl.of_nil,vG] at hp;obtain ⟨nn,hnn⟩:∃ nn,nn = o.l.length:=⟨_,rfl⟩;rw [← hnn] at hp;by_cases c8:0 < z2.length
     ·have c8':(0:Int) < (z2.length:Int):=(by omega);by_cases c9:4 < nn
      ·have c9':(4:Int) < (nn:Int):=(by omega);obtain ⟨o2,t1,t2,t3,t4⟩:=tail o ho nn hnn c9 c8;have Zg:IntKind.i64.wrap ((nn:Int) - 4) = ((nn - 4:Nat):Int):=(by rw [wrap_i64] <;> omega);have ht:List.take (nn - 4) (qd o.l) = qd (o.l.take (nn - 4)):=kw _ _;have hle:((nn - 4:Nat):Int)≤(nn:Int):=(by omega);have hsl:=qbT o2;generalize Qk o2 = o3 at *;generalize o.l.take (nn - 4) = o4 at *;obtain ⟨n4,ZE⟩:∃ n4,n4 = nn - 4:=⟨_,rfl⟩;rw [← ZE] at *;simp [k1,k2,k5,k6,k7,k8,qk,sf,vo,zb,vG,vL,QB,c7,Jl,hp,c8,c9',Zg,ht,hle,t2,t4,hnn.symm];exact ⟨.of o3,by rw [Sl.of_l];omega,rfl⟩
      ·have c9':¬ (4:Int) < (nn:Int):=(by omega);simp [k1,k2,k5,k6,k7,k8,qk,sf,vo,zb,vG,vL,QB,c7,Jl,hp,c8,c9'];exact ⟨o,ho,by rw [← hnn]⟩
     ·have c8':¬ (0:Int) < (z2.length:Int):=(by omega);simp [k1,k2,k5,k6,k7,k8,qk,sf,vo,zb,vG,vL,QB,c7,Jl,hp,c8];exact ⟨o,ho,by rw [← hnn]⟩
    ·obtain ⟨o,ho,hp⟩:=tailE (.of L') (by rw [Sl.of_l];exact hB) E hE VM;simp only [Sl.of_l,Sl.of_nil,vG] at hp;obtain ⟨nn,hnn⟩:∃ nn,nn = o.l.length:=⟨_,rfl⟩;rw [← hnn] at hp;by_cases c8:0 < z2.length
     ·have c8':(0:Int) < (z2.length:Int):=(by omega);by_cases c9:4 < nn
      ·have c9':(4:Int) < (nn:Int):=(by omega);obtain ⟨o2,t1,t2,t3,t4⟩:=tail o ho nn hnn c9 c8;have Zg:IntKind.i64.wrap ((nn:Int) - 4) = ((nn - 4:Nat):Int):=(by rw [wrap_i64] <;> omega);have ht:List.take (nn - 4) (qd o.l) = qd (o.l.take (nn - 4)):=kw _ _;have hle:((nn - 4:Nat):Int)≤(nn:Int):=(by omega);have hsl:=qbT o2;generalize Qk o2 = o3 at *;generalize o.l.take (nn - 4) = o4 at *;obtain ⟨n4,ZE⟩:∃ n4,n4 = nn - 4:=⟨_,rfl⟩;rw [← ZE] at *;simp [k1,k2,k5,k6,k7,k8,qk,vo,zb,vG,vL,QB,c7,hp,c8,c9',Zg,ht,hle,t2,t4,hnn.symm];exact ⟨.of o3,by rw [Sl.of_l];omega,rfl⟩
      ·have c9':¬ (4:Int) < (nn:Int):=(by omega);simp [k1,k2,k5,k6,k7,k8,qk,vo,zb,vG,vL,QB,c7,hp,c8,c9'];exact ⟨o,ho,by rw [← hnn]⟩
     ·have c8':¬ (0:Int) < (z2.length:Int):=(by omega);simp [k1,k2,k5,k6,k7,k8,qk,vo,zb,vG,vL,QB,c7,hp,c8];exact ⟨o,ho,by rw [← hnn]⟩
   ·by_cases c7:m7 = 0
    ·obtain ⟨qm,Jl,M,kz,hM,rfl⟩:=qhH n1 z1 h1 (by omega) k';replace Jl:call cx 54 [.optr 0 2 0] [some (jG n1 z1 k')] = some (.vsl M.isEmpty (qh M) M.length,[some (jG n1 z1 kz)]):=Jl;have hM4:=hM.len;obtain ⟨o,ho,hp⟩:=tailE (.of L') (by rw [Sl.of_l];exact hB) ⟨M.isEmpty,M,fun h=>by simpa using h⟩ hM.ok (by simp only;omega);simp only [Sl.of_l,Sl.of_nil,vG] at hp;obtain ⟨nn,hnn⟩:∃ nn,nn = o.l.length:=⟨_,rfl⟩;rw [← hnn] at hp;by_cases c8:0 < z2.length
     ·have c8':(0:Int) < (z2.length:Int):=(by omega);by_cases c9:4 < nn
      ·have c9':(4:Int) < (nn:Int):=(by omega);obtain ⟨o2,t1,t2,t3,t4⟩:=tail o ho nn hnn c9 c8;have Zg:IntKind.i64.wrap ((nn:Int) - 4) = ((nn - 4:Nat):Int):=(by rw [wrap_i64] <;> omega);have ht:List.take (nn - 4) (qd o.l) = qd (o.l.take (nn - 4)):=kw _ _;have hle:((nn - 4:Nat):Int)≤(nn:Int):=(by omega);have hsl:=qbT o2;generalize Qk o2 = o3 at *;generalize o.l.take (nn - 4) = o4 at *;obtain ⟨n4,ZE⟩:∃ n4,n4 = nn - 4:=⟨_,rfl⟩;rw [← ZE] at *;simp [k1,k2,k5,k6,k7,k8,qk,sf,sc,vo,zb,vG,vL,QB,c7,Jl,hp,c8,c9',Zg,ht,hle,t2,t4,hnn.symm];exact ⟨.of o3,by rw [Sl.of_l];omega,rfl⟩
      ·have c9':¬ (4:Int) < (nn:Int):=(by omega);simp [k1,k2,k5,k6,k7,k8,qk,sf,sc,vo,zb,vG,vL,QB,c7,Jl,hp,c8,c9'];exact ⟨o,ho,by rw [← hnn]⟩
     ·have c8':¬ (0:Int) < (z2.length:Int):=(by omega);simp [k1,k2,k5,k6,k7,k8,qk,sf,sc,vo,zb,vG,vL,QB,c7,Jl,hp,c8];exact ⟨o,ho,by rw [← hnn]⟩
    ·obtain ⟨o,ho,hp⟩:=tailE (.of L') (by rw [Sl.of_l];exact hB) E hE VM;simp only [Sl.of_l,Sl.of_nil,vG] at hp;obtain ⟨nn,hnn⟩:∃ nn,nn = o.l.length:=⟨_,rfl⟩;rw [← hnn] at hp;by_cases c8:0 < z2.length
     ·have c8':(0:Int) < (z2.length:Int):=(by omega);by_cases c9:4 < nn
      ·have c9':(4:Int) < (nn:Int):=(by omega);obtain ⟨o2,t1,t2,t3,t4⟩:=tail o ho nn hnn c9 c8;have Zg:IntKind.i64.wrap ((nn:Int) - 4) = ((nn - 4:Nat):Int):=(by rw [wrap_i64] <;> omega);have ht:List.take (nn - 4) (qd o.l) = qd (o.l.take (nn - 4)):=kw _ _;have hle:((nn - 4:Nat):Int)≤(nn:Int):=(by omega);have hsl:=qbT o2;generalize Qk o2 = o3 at *;generalize o.l.take (nn - 4) = o4 at *;obtain ⟨n4,ZE⟩:∃ n4,n4 = nn - 4:=⟨_,rfl⟩;rw [← ZE] at *;simp [k1,k2,k5,k6,k7,k8,qk,sc,vo,zb,vG,vL,QB,c7,hp,c8,c9',Zg,ht,hle,t2,t4,hnn.symm];exact ⟨.of o3,by rw [Sl.of_l];omega,rfl⟩
      ·have c9':¬ (4:Int) < (nn:Int):=(by omega);simp [k1,k2,k5,k6,k7,k8,qk,sc,vo,zb,vG,vL,QB,c7,hp,c8,c9'];exact ⟨o,ho,by rw [← hnn]⟩
     ·have c8':¬ (0:Int) < (z2.length:Int):=(by omega);simp [k1,k2,k5,k6,k7,k8,qk,sc,vo,zb,vG,vL,QB,c7,hp,c8];exact ⟨o,ho,by rw [← hnn]⟩
end Go.Ev.S
