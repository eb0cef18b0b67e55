import Derived.Test.YtkfojmihnjnhfaaGreatDoorC6
import Derived.Handed
import Derived.LaidMore
namespace Go.Ev.S
open Go Go.Proofs Go.Ev
def rsetGo (m:Mk):List Mk→Bool→List Mk × Bool
 | [],i=>([],i)
 | x :: l,i=>let c:=cmpB x.id.l m.id.l
  let r:=rsetGo m l (i || decide (0≤c))
  ((if !i && decide (0≤c) then [m] else []) ++ (if c≠0 then [x] else []) ++ r.1,r.2)
def rsetL (l:List Mk) (m:Mk):List Mk:=(rsetGo m l false).1 ++ (if (rsetGo m l false).2 then [] else [m])
def rsetC (l:List Mk) (m:Mk):Int:=if rightM l then (if !hasM l m.id && decide (4≤l.length) then 15 else 0) else 1
theorem rsetGo_len (m:Mk):∀ (l:List Mk) (i:Bool),(rsetGo m l i).1.length≤2 * l.length
 | [],_=>by simp [rsetGo]
 | x :: l,i=>by
  have:=rsetGo_len m l (i || decide (0≤cmpB x.id.l m.id.l))
  simp only [rsetGo,List.length_append,List.length_cons]
  have h1:(if (!i && decide (0≤cmpB x.id.l m.id.l)) = true then [m] else []).length≤1:=by split <;> simp
  have h2:(if cmpB x.id.l m.id.l≠0 then [x] else []).length≤1:=by split <;> simp
  omega
theorem rsetGo_app (m:Mk):∀ (a b:List Mk) (i:Bool),rsetGo m (a ++ b) i = ((rsetGo m a i).1 ++ (rsetGo m b (rsetGo m a i).2).1,(rsetGo m b (rsetGo m a i).2).2)
 | [],b,i=>by simp [rsetGo]
 | x :: a,b,i=>by
  simp only [List.cons_append,rsetGo,rsetGo_app m a b,List.append_assoc]
def RS (m:Mk) (g:List Mk) (d:D) (H:Heap):Prop:=(d = .vsl true [] 0∧g = []∧H = [some (Enc.cells m)])∨(d = .osl 1 (g.length * 19) 0 g.length 19∧H = [some (Enc.cells m),some (encs g)]∧g≠[])
theorem RS.app {m:Mk} {g:List Mk} {n k:Nat} {cs:List D} (hne:g≠[]) (hn:n = g.length * 19) (hk:k = g.length) (hc:cs = encs g):RS m g (.osl 1 n 0 k 19) [some (Enc.cells m),some cs]:=by
 subst hn;subst hk;subst hc
 exact .inr ⟨rfl,rfl,hne⟩
theorem RS.nil {m:Mk}:RS m [] (.vsl true [] 0) [some (Enc.cells m)]:=.inl ⟨rfl,rfl,rfl⟩
theorem rsetGo_ne (m:Mk):∀ (l:List Mk),(rsetGo m l false).2 = true→(rsetGo m l false).1≠[]
 | [],h=>by simp [rsetGo] at h
 | x :: l,h=>by
  simp only [rsetGo]
  by_cases hc:0≤cmpB x.id.l m.id.l
  ·simp [hc]
  ·have h0:¬ cmpB x.id.l m.id.l = 0:=fun h0=>hc (by rw [h0];decide)
   simp [h0]
theorem tri (c:Int):(c < 0∧¬ 0≤c∧¬ c = 0)∨(c = 0∧0≤c)∨(0≤c∧¬ c = 0):=by omega
noncomputable def LSet:Code:=cAt [1,1,1,1,1,1,0,1,0,0] (stripC (bodyOf Tryz.f46))
set_option maxRecDepth 4000 in
set_option maxHeartbeats 2000000 in
theorem rset_loop [MaxL] [TxtC] (s:Sl Mk) (hl4:s.l.length≤4) (m:Mk) (e:Env) (h0:look e 0 = some (.vsl s.nil (encs s.l) s.l.length)) (h3:look e 3 = some (.optr 0 19 0)) (h10:look e 10 = some (.int .i64 0)) (h9:look e 9 = some (.bool false)) (h8:look e 8 = some (.vsl true [] 0)) :
  Run cx 46 69 0 (fun ex e H=>ex = .exit 0∧look e 3 = some (.optr 0 19 0)∧look e 9 = some (.bool (rsetGo m s.l false).2)∧∃ d,look e 8 = some d∧RS m (rsetGo m s.l false).1 d H) [] (code cx 46 69 0 (.loop LSet) e [some (Enc.cells m)]):=by
 refine Run.loopThen (fun (i:Nat) e H=>i≤s.l.length∧look e 0 = some (.vsl s.nil (encs s.l) s.l.length)∧look e 3 = some (.optr 0 19 0)∧look e 10 = some (.int .i64 i)∧look e 9 = some (.bool (rsetGo m (s.l.take i) false).2) ∧
  (∃ d,look e 8 = some d∧RS m (rsetGo m (s.l.take i) false).1 d H)) (fun i=>s.l.length - i) 0 ?_ ?_
 ·simp [rsetGo,h0,h3,h10,h9,h8,RS.nil]
 clear h0 h3 h10 h9 h8 e
 rintro i e H ⟨hi,h0,h3,h10,h9,d,h8,hst⟩
 by_cases hlt:i < s.l.length
 ·have hlt':(i:Int) < (s.l.length:Int):=by omega
  have hw:IntKind.i64.wrap ((i:Int)+1) = ((i+1:Nat):Int):=by rw [wrap_i64] <;> omega
  have h16:∀ k,(16≤19+k) = True:=fun k=>eq_true (by omega)
  have hc:=ids_ev s.l[i].id m.id
  have hgl:=rsetGo_len m (s.l.take i) false
  rw [List.length_take,Nat.min_eq_left hi] at hgl
  have hsn:rsetGo m (s.l.take (i+1)) false = ((rsetGo m (s.l.take i) false).1 ++ (rsetGo m [s.l[i]] (rsetGo m (s.l.take i) false).2).1,(rsetGo m [s.l[i]] (rsetGo m (s.l.take i) false).2).2):=by
   rw [List.take_succ_eq_append_getElem hlt,rsetGo_app]
  generalize rsetGo m (s.l.take i) false = g at *
  obtain ⟨g1,g2⟩:=g
  simp only at h9 hst hgl hsn
  have hb0:g1.length≤100:=by omega
  have hb1:g1.length * 40+40≤140737488355328∧g1.length+1≤140737488355328:=by have:=bnd40 (n:=g1.length+1) (by omega);rwa [Nat.add_mul] at this
  have hb3:g1.length * 40+80≤140737488355328∧g1.length+2≤140737488355328:=by have:=bnd40 (n:=g1.length+2) (Nat.le_trans (Nat.add_le_add_right hb0 2) (by decide));rwa [Nat.add_mul] at this
  clear hb0
  simp only [rsetGo,List.append_nil] at hsn
  have hcc:(cmpB s.l[i].id.l m.id.l < 0∧¬ 0≤cmpB s.l[i].id.l m.id.l∧¬ cmpB s.l[i].id.l m.id.l = 0)∨(cmpB s.l[i].id.l m.id.l = 0∧0≤cmpB s.l[i].id.l m.id.l)∨(0≤cmpB s.l[i].id.l m.id.l∧¬ cmpB s.l[i].id.l m.id.l = 0):=tri _
  generalize cmpB s.l[i].id.l m.id.l = c at *
  simp only [LSet,cAt,bodyOf,Tryz.f46,Option.getD,stripC,stripL,stripOp]
  cases g2 <;> rcases hcc with ⟨c1,c2,c3⟩ | ⟨rfl,c1⟩ | ⟨c1,c2⟩ <;> rcases hst with ⟨rfl,rfl,rfl⟩ | ⟨rfl,rfl,hne⟩ <;>
   first
    | simp [h0,h3,h10,h9,h8,hlt',hlt,Sl.nn hlt,h16,hc,c2,c3,hw,hb1,maxBytes,Nat.add_mul]
    | simp [h0,h3,h10,h9,h8,hlt',hlt,Sl.nn hlt,h16,hc,c1,c2,hw,hb1,hb3,maxBytes,Nat.add_assoc,Nat.add_mul]
    | simp [h0,h3,h10,h9,h8,hlt',hlt,Sl.nn hlt,h16,hc,hw,hb1,maxBytes,Nat.add_mul]
  all_goals
   clear hb1 hb3
   refine ⟨i+1,by omega,by omega,rfl,?_,?_⟩
   ·first | (rw [hsn];done) | (rw [hsn];simp [c2];done) | (rw [hsn];simp [c1];done) | (rw [hsn];simp;done)
   ·rw [hsn]
    first
     | exact RS.nil
     | (refine RS.app ?_ ?_ ?_ ?_ <;> first | simp [c2,c3,encs_append,Nat.add_mul,encs_cons] | simp [c1,c2,encs_append,Nat.add_mul,encs_cons] | simp [encs_append,Nat.add_mul,encs_cons,hne] | simp [encs_cons])
 ·have hlt':¬ (i:Int) < (s.l.length:Int):=by omega
  have hit:s.l.take i = s.l:=List.take_of_length_le (by omega)
  rw [hit] at h9 hst
  simp only [LSet,cAt,bodyOf,Tryz.f46,Option.getD,stripC,stripL,stripOp]
  simp [h0,h3,h10,h9,h8,hlt']
  exact hst
set_option maxRecDepth 4000 in
set_option maxHeartbeats 1000000 in
theorem rset_ev [MaxL] [TxtC] (s:Sl Mk) (hn:s.l.length < 4611686018427387904) (m:Mk) :
  call cx 46 [(.vsl s.nil (encs s.l) s.l.length),.agg (Enc.cells m)] [] = some (.tup [(.vsl (resS (rsetC s.l m) (.of (rsetL s.l m))).nil (encs (resS (rsetC s.l m) (.of (rsetL s.l m))).l) (resS (rsetC s.l m) (.of (rsetL s.l m))).l.length),.int .i64 (rsetC s.l m)],[]):=by
 have hr:=rmright_ev s hn
 have hg:=rmget_ev s hn m.id
 refine call_run Tryz.func46 rfl ⟨rfl,rfl⟩ ?_
 cases h1:rightM s.l with
 | false =>
  rw [h1] at hr
  simp [Tryz.f46,hr,rsetC,h1,resS]
 | true =>
  rw [h1] at hr
  have hl4:=rightM_le h1
  by_cases hfull:hasM s.l m.id = false∧4≤s.l.length
  ·obtain ⟨h2,h3⟩:=hfull
   have h3':(4:Int)≤(s.l.length:Int):=by clear hn;omega
   rw [h2] at hg
   simp [Tryz.f46,hr,hg,rsetC,h1,h2,h3,h3',resS]
  ·have hc0:rsetC s.l m = 0:=by
    unfold rsetC
    rw [h1,if_pos rfl,if_neg]
    simp only [Bool.and_eq_true,Bool.not_eq_true',decide_eq_true_eq]
    exact hfull
   rw [hc0]
   have hb2:hasM s.l m.id = false→¬ (4:Int)≤(s.l.length:Int):=fun h h4=>hfull ⟨h,by clear hn;omega⟩
   have hlp:=rset_loop s hl4 m
   simp only [LSet,cAt,bodyOf,Tryz.f46,Option.getD,stripC,stripL,stripOp] at hlp
   have hgl:=rsetGo_len m s.l false
   have hb1:(rsetGo m s.l false).1.length * 40+40≤140737488355328∧(rsetGo m s.l false).1.length+1≤140737488355328:=by have:=bnd40 (n:=(rsetGo m s.l false).1.length+1) (by clear hn;omega);rwa [Nat.add_mul] at this
   have hne0:=rsetGo_ne m s.l
   cases hb:hasM s.l m.id
   ·have hb2':=hb2 hb
    rw [hb] at hg
    simp [Tryz.f46,hr,hg,hb2',resS]
    refine Run.mono (hlp _ ?_ ?_ ?_ ?_ ?_) ?_
    iterate 5 simp
    rintro ex e H ⟨rfl,h3,h9,d,h8,hst⟩
    unfold rsetL
    rcases hst with ⟨rfl,hz,rfl⟩ | ⟨rfl,rfl,hne⟩ <;> cases hg2:(rsetGo m s.l false).2 <;> simp [h3,h9,h8,hg2,maxBytes,hb1,Nat.add_mul,← encs_snoc,List.take_of_length_le]
    ·rw [hz];simp [encs_one]
    ·exact hne0 hg2 hz
   ·rw [hb] at hg
    simp [Tryz.f46,hr,hg,resS]
    refine Run.mono (hlp _ ?_ ?_ ?_ ?_ ?_) ?_
    iterate 5 simp
    rintro ex e H ⟨rfl,h3,h9,d,h8,hst⟩
    unfold rsetL
    rcases hst with ⟨rfl,hz,rfl⟩ | ⟨rfl,rfl,hne⟩ <;> cases hg2:(rsetGo m s.l false).2 <;> simp [h3,h9,h8,hg2,maxBytes,hb1,Nat.add_mul,← encs_snoc,List.take_of_length_le]
    ·rw [hz];simp [encs_one]
    ·exact hne0 hg2 hz
end Go.Ev.S
namespace Go.Ev.S
open Go Go.Proofs Go.Ev
def rmoreM (v n:Int):Int:=if IntKind.u64.wrap (u64max - n) < v then u64max else IntKind.u64.wrap (v+n)
theorem rmore_ev [MaxL] [TxtC] (v n:Int):call cx 45 [.int .u64 v,.int .u64 n] [] = some (.int .u64 (rmoreM v n),[]):=by
 refine call_run Tryz.func45 rfl ⟨rfl,rfl⟩ ?_
 by_cases h:IntKind.u64.wrap (18446744073709551615 - n) < v
 ·simp [Tryz.f45,h,rmoreM,u64max]
 ·simp [Tryz.f45,h,rmoreM,u64max]
def rstepM (m:Mk) (it:It) (over:Bool):Mk :=
 if it.gap then { m with seq:=it.til,lost:=rmoreM m.lost (rmoreM (IntKind.u64.wrap (it.til - it.fr)) 1) }
 else { m with seq:=it.rc.seq,over:=if over then rmoreM m.over 1 else m.over }
def rtakeL (l:List Mk) (it:It) (over:Bool):List Mk:=rsetL l (rstepM (getM l it.id) it over)
def rtakeC (l:List Mk) (it:It) (over:Bool):Int :=
 let c:=rsetC l (rstepM (getM l it.id) it over)
 if c≠0 then c else if goesM (getM l it.id) it then 0 else 13
set_option maxRecDepth 4000 in
set_option maxHeartbeats 2000000 in
theorem rtake_ev [MaxL] [TxtC] (s:Sl Mk) (hn:s.l.length < 4611686018427387904) (it:It) (over:Bool) :
  call cx 19 [(.vsl s.nil (encs s.l) s.l.length),.agg (Enc.cells it),.bool over] [] = some (.tup [(.vsl (resS (rtakeC s.l it over) (.of (rtakeL s.l it over))).nil (encs (resS (rtakeC s.l it over) (.of (rtakeL s.l it over))).l) (resS (rtakeC s.l it over) (.of (rtakeL s.l it over))).l.length),.int .i64 (rtakeC s.l it over)],[]):=by
 have hge:=rmget_ev s hn it.id
 have hgid:=getM_id s.l it.id
 have hse:=rset_ev s hn (rstepM (getM s.l it.id) it over)
 refine call_run Tryz.func19 rfl ⟨rfl,rfl⟩ ?_
 unfold rtakeC rtakeL
 generalize getM s.l it.id = g at *
 have hm1:=rmore_ev (IntKind.u64.wrap (it.til - it.fr)) 1
 have hm2:=rmore_ev g.lost (rmoreM (IntKind.u64.wrap (it.til - it.fr)) 1)
 have hm3:=rmore_ev g.over 1
 have key:∀ (st:Mk) (hst:rstepM g it over = st),∀ c (hc:rsetC s.l st = c),∀ d (hd:rsetL s.l st = d),True:=fun _ _ _ _ _ _=>trivial
 cases hgap:it.gap with
 | true =>
  have hst:rstepM g it over = { g with seq:=it.til,lost:=rmoreM g.lost (rmoreM (IntKind.u64.wrap (it.til - it.fr)) 1) }:=by simp [rstepM,hgap]
  rw [hst] at hse ⊢
  generalize rsetC s.l { g with seq:=it.til,lost:=rmoreM g.lost (rmoreM (IntKind.u64.wrap (it.til - it.fr)) 1) } = c at *
  generalize rsetL s.l { g with seq:=it.til,lost:=rmoreM g.lost (rmoreM (IntKind.u64.wrap (it.til - it.fr)) 1) } = d at *
  by_cases hc:c = 0
  ·subst hc
   by_cases h1:it.fr≤g.seq
   ·simp [Tryz.f19,hge,hgap,hm1,hm2,hse,h1,goesM,resS]
   ·by_cases h2:it.til < it.fr
    ·simp [Tryz.f19,hge,hgap,hm1,hm2,hse,h1,h2,goesM,resS]
    ·simp [Tryz.f19,hge,hgap,hm1,hm2,hse,h1,h2,goesM,resS]
  ·simp [Tryz.f19,hge,hgap,hm1,hm2,hse,hc,resS]
 | false =>
  have hst:rstepM g it over = { g with seq:=it.rc.seq,over:=if over then rmoreM g.over 1 else g.over }:=by simp [rstepM,hgap]
  rw [hst] at hse ⊢
  cases over with
  | false =>
   simp only [Bool.false_eq_true,if_false] at hse ⊢
   generalize rsetC s.l { g with seq:=it.rc.seq,over:=g.over } = c at *
   generalize rsetL s.l { g with seq:=it.rc.seq,over:=g.over } = d at *
   by_cases hc:c = 0
   ·subst hc
    by_cases h1:it.rc.seq≤g.seq
    ·simp [Tryz.f19,hge,hgap,hse,h1,goesM,resS]
    ·simp [Tryz.f19,hge,hgap,hse,h1,goesM,resS]
   ·simp [Tryz.f19,hge,hgap,hse,hc,resS]
  | true =>
   simp only [if_true] at hse ⊢
   generalize rsetC s.l { g with seq:=it.rc.seq,over:=rmoreM g.over 1 } = c at *
   generalize rsetL s.l { g with seq:=it.rc.seq,over:=rmoreM g.over 1 } = d at *
   by_cases hc:c = 0
   ·subst hc
    by_cases h1:it.rc.seq≤g.seq
    ·simp [Tryz.f19,hge,hgap,hm3,hse,h1,goesM,resS]
    ·simp [Tryz.f19,hge,hgap,hm3,hse,h1,goesM,resS]
   ·simp [Tryz.f19,hge,hgap,hm3,hse,hc,resS]
end Go.Ev.S
namespace Go.Ev.S
open Go Go.Proofs Go.Ev
theorem cmpB_self:∀ (x:List UInt8),cmpB x x = 0
 | []=>rfl
 | a :: x=>by simp [cmpB,cmpB_self x]
theorem cmpB_swap:∀ (x y:List UInt8),cmpB y x = - cmpB x y
 | [],[]=>rfl
 | [],_ :: _=>rfl
 | _ :: _,[]=>rfl
 | a :: x,b :: y=>by
  simp only [cmpB]
  by_cases h:a = b
  ·subst h;simp [cmpB_swap x y]
  ·have h':¬ b = a:=fun e=>h e.symm
   rw [if_neg h,if_neg h']
   by_cases hl:a < b
   ·have:¬ b < a:=UInt8.not_lt.2 (UInt8.le_of_lt hl)
    rw [if_pos hl,if_neg this];rfl
   ·have:b < a:=UInt8.lt_of_le_of_ne (UInt8.not_lt.1 hl) h'
    rw [if_neg hl,if_pos this]
theorem cmpB_eq:∀ {x y:List UInt8},cmpB x y = 0→x = y
 | [],[],_=>rfl
 | [],_ :: _,h=>by simp [cmpB] at h
 | _ :: _,[],h=>by simp [cmpB] at h
 | a :: x,b :: y,h=>by
  simp only [cmpB] at h
  by_cases e:a = b
  ·rw [if_pos e] at h
   rw [e,cmpB_eq h]
  ·rw [if_neg e] at h
   split at h <;> simp at h
theorem cmpB_rng:∀ (x y:List UInt8),cmpB x y = -1∨cmpB x y = 0∨cmpB x y = 1
 | [],[]=>by simp [cmpB]
 | [],_ :: _=>by simp [cmpB]
 | _ :: _,[]=>by simp [cmpB]
 | a :: x,b :: y=>by
  simp only [cmpB]
  split
  ·exact cmpB_rng x y
  ·split <;> simp
theorem cmpB_trans:∀ {x y z:List UInt8},cmpB x y < 0→cmpB y z < 0→cmpB x z < 0
 | [],[],_,h,_=>by simp [cmpB] at h
 | [],_ :: _,[],_,h=>by simp [cmpB] at h
 | [],_ :: _,_ :: _,_,_=>by simp [cmpB]
 | _ :: _,[],_,h,_=>by simp [cmpB] at h
 | _ :: _,_ :: _,[],_,h=>by simp [cmpB] at h
 | a :: x,b :: y,c :: z,h1,h2=>by
  simp only [cmpB] at h1 h2 ⊢
  by_cases e1:a = b
  ·subst e1
   rw [if_pos rfl] at h1
   by_cases e2:a = c
   ·subst e2
    rw [if_pos rfl] at h2 ⊢
    exact cmpB_trans h1 h2
   ·rw [if_neg e2] at h2 ⊢
    exact h2
  ·rw [if_neg e1] at h1
   have l1:a < b:=by
    by_cases l:a < b
    ·exact l
    ·rw [if_neg l] at h1;simp at h1
   by_cases e2:b = c
   ·subst e2
    rw [if_neg e1,if_pos l1]
    decide
   ·rw [if_neg e2] at h2
    have l2:b < c:=by
     by_cases l:b < c
     ·exact l
     ·rw [if_neg l] at h2;simp at h2
    have l3:a < c:=UInt8.lt_trans l1 l2
    rw [if_neg (UInt8.ne_of_lt l3),if_pos l3]
    decide
theorem id_of_cmp {a b:ID} (h:cmpB a.l b.l = 0):a = b:=ID.ext' (cmpB_eq h)

def below (l:List Mk) (id:ID):Prop:= ∀ x∈l,cmpB x.id.l id.l < 0
theorem rises_cons {a:Mk} {l:List Mk}:risesM (a :: l) = true↔(∀ x∈l,cmpB a.id.l x.id.l < 0)∧risesM l = true:=by
 induction l generalizing a with
 | nil=>simp [risesM]
 | cons b l ih =>
  simp only [risesM,Bool.and_eq_true,decide_eq_true_eq,List.mem_cons,forall_eq_or_imp]
  constructor
  ·rintro ⟨h1,h2⟩
   exact ⟨⟨h1,fun x hx=>cmpB_trans h1 ((ih.1 h2).1 x hx)⟩,h2⟩
  ·rintro ⟨⟨h1,_⟩,h2⟩
   exact ⟨h1,h2⟩
theorem rises_append {a b:List Mk}:risesM (a ++ b) = true↔risesM a = true∧risesM b = true∧∀ x∈a,∀ y∈b,cmpB x.id.l y.id.l < 0:=by
 induction a with
 | nil=>simp [risesM]
 | cons x a ih =>
  rw [List.cons_append,rises_cons,rises_cons,ih]
  constructor
  ·rintro ⟨h1,h2,h3,h4⟩
   refine ⟨⟨fun y hy=>h1 y (List.mem_append_left _ hy),h2⟩,h3,fun y hy z hz=>?_⟩
   rcases List.mem_cons.1 hy with rfl | hy
   ·exact h1 z (List.mem_append_right _ hz)
   ·exact h4 y hy z hz
  ·rintro ⟨⟨h1,h2⟩,h3,h4⟩
   refine ⟨fun y hy=>?_,h2,h3,fun y hy z hz=>h4 y (List.mem_cons_of_mem _ hy) z hz⟩
   rcases List.mem_append.1 hy with h | h
   ·exact h1 y h
   ·exact h4 x (List.mem_cons_self ..) y h
def insM (m:Mk):List Mk→List Mk
 | []=>[m]
 | x :: l=>if cmpB x.id.l m.id.l < 0 then x :: insM m l else m :: x :: l
theorem insM_mem (m:Mk):∀ (l:List Mk) (x:Mk),x∈insM m l↔x = m∨x∈l
 | [],x=>by simp [insM]
 | y :: l,x=>by
  unfold insM
  split
  ·simp only [List.mem_cons,insM_mem m l]
   constructor
   ·rintro (h | h | h)
    ·exact .inr (.inl h)
    ·exact .inl h
    ·exact .inr (.inr h)
   ·rintro (h | h | h)
    ·exact .inr (.inl h)
    ·exact .inl h
    ·exact .inr (.inr h)
  ·simp
theorem insM_below {m:Mk}:∀ {l:List Mk},below l m.id→insM m l = l ++ [m]
 | [],_=>rfl
 | x :: l,h=>by
  rw [insM,if_pos (h x (List.mem_cons_self ..)),insM_below fun y hy=>h y (List.mem_cons_of_mem _ hy)]
  rfl
theorem insM_snoc {m x:Mk}:∀ {l:List Mk},¬ cmpB x.id.l m.id.l < 0→insM m (l ++ [x]) = insM m l ++ [x]
 | [],h=>by simp [insM,h]
 | y :: l,h=>by
  simp only [List.cons_append,insM]
  split
  ·rw [insM_snoc h];rfl
  ·rfl
theorem hasM_false {l:List Mk} {id:ID}:hasM l id = false↔∀ x∈l,x.id≠id:=by
 simp [hasM]
theorem getElem?_mid {α:Type} (a:List α) (x:α) (b:List α):(a ++ x :: b)[a.length]? = some x:=by
 rw [List.getElem?_append_right (Nat.le_refl _),Nat.sub_self];rfl
theorem sink_ins (m:Mk):∀ (n:Nat) (l t:List Mk),l.length = n→risesM l = true→(∀ x∈l,x.id≠m.id)→sink n (l ++ m :: t) = insM m l ++ t
 | 0,l,t,hl,_,_=>by
  have:l = []:=List.eq_nil_of_length_eq_zero hl
  subst this
  rfl
 | n+1,l,t,hl,hr,hne=>by
  obtain ⟨l',x,rfl⟩:∃ l' x,l = l' ++ [x]:=⟨l.dropLast,l.getLast (by intro h;subst h;simp at hl),(List.dropLast_concat_getLast _).symm⟩
  have hl':l'.length = n:=by simpa using hl
  obtain ⟨r1,_,r2⟩:=rises_append.1 hr
  have hx:=hne x (by simp)
  have e1:(l' ++ [x] ++ m :: t)[n+1]? = some m:=by
   rw [show n+1 = (l' ++ [x]).length by simp [hl']]
   exact getElem?_mid _ _ _
  have e2:(l' ++ [x] ++ m :: t)[n]? = some x:=by
   rw [List.append_assoc,← hl']
   exact getElem?_mid l' x (m :: t)
  rw [sink,e1,e2]
  simp only
  by_cases hc:cmpB m.id.l x.id.l < 0
  ·rw [if_pos hc]
   have hsw:swp (l' ++ [x] ++ m :: t) (n+1) = l' ++ m :: (x :: t):=by
    unfold swp
    rw [e1,Nat.add_sub_cancel,e2]
    simp only
    subst hl'
    rw [List.append_assoc,List.singleton_append,List.set_append_right _ _ (Nat.le_succ _),show l'.length+1 - l'.length = 1 by omega,List.set_append_right _ _ (Nat.le_refl _),Nat.sub_self]
    rfl
   have hxm:¬ cmpB x.id.l m.id.l < 0:=by rw [cmpB_swap];omega
   rw [hsw,sink_ins m n l' (x :: t) hl' r1 (fun y hy=>hne y (List.mem_append_left _ hy)),insM_snoc hxm]
   simp
  ·rw [if_neg hc]
   have hxm:cmpB x.id.l m.id.l < 0:=by
    rcases cmpB_rng x.id.l m.id.l with h | h | h
    ·omega
    ·exact absurd (id_of_cmp h) hx
    ·rw [cmpB_swap] at hc;omega
   have hb:below (l' ++ [x]) m.id:=by
    intro y hy
    rcases List.mem_append.1 hy with h | h
    ·exact cmpB_trans (r2 y h x (by simp)) hxm
    ·rw [List.mem_singleton.1 h];exact hxm
   rw [insM_below hb]
   simp
theorem sink_stay {l:List Mk} {t:List Mk} (hr:risesM l = true) {i:Nat} (hi:i < l.length):sink i (l ++ t) = l ++ t:=by
 cases i with
 | zero=>rfl
 | succ j =>
  have hj:j < l.length:=by omega
  rw [sink,List.getElem?_append_left hi,List.getElem?_append_left hj,List.getElem?_eq_getElem hi,List.getElem?_eq_getElem hj]
  simp only
  rw [if_neg]
  have hlt:cmpB l[j].id.l l[j+1].id.l < 0:=by
   have hsp:l = l.take (j+1) ++ l.drop (j+1):=(List.take_append_drop _ _).symm
   rw [hsp] at hr
   refine (rises_append.1 hr).2.2 _ ?_ _ ?_
   ·rw [List.mem_take_iff_getElem]
    exact ⟨j,by omega,rfl⟩
   ·rw [List.drop_eq_getElem_cons hi]
    exact List.mem_cons_self ..
  rw [cmpB_swap]
  omega
theorem insFrom_stay {l:List Mk} {m:Mk} (hr:risesM l = true) (hne:∀ x∈l,x.id≠m.id):∀ (k i:Nat),k+i = l.length+1→1≤i→insFrom k i (l ++ [m]) = if k = 0 then l ++ [m] else insM m l
 | 0,i,_,_=>rfl
 | k+1,i,h,hi=>by
  rw [insFrom,if_neg (by omega)]
  rcases Nat.lt_or_ge i l.length with hlt | hge
  ·rw [sink_stay hr hlt,insFrom_stay hr hne k (i+1) (by omega) (by omega),if_neg (by omega)]
  ·have:i = l.length:=by omega
   have hk:k = 0:=by omega
   subst hk
   rw [insFrom,sink_ins m i l [] this.symm hr hne]
   simp
theorem find?_neg {l:List Mk} {id:ID}:find? (fun m=>m.id == id) l 0 < 0↔hasM l id = false:=by
 rcases find?_spec (fun m=>m.id == id) l 0 with ⟨i,m,h1,h2,h3,h4,h5⟩ | ⟨h1,h2⟩
 ·rw [h4]
  constructor
  ·intro h;omega
  ·intro h
   have:=hasM_false.1 h m (List.mem_of_getElem? h1)
   simp at h3
   exact absurd h3 this
 ·rw [h1]
  constructor
  ·intro _
   rw [hasM_false]
   intro x hx he
   have:=List.find?_eq_none.1 h2 x hx
   simp [he] at this
  ·intro _;decide
theorem putM_new {l:List Mk} {m:Mk} (hr:risesM l = true) (hh:hasM l m.id = false):putM l m = insM m l:=by
 unfold putM
 rw [if_pos (find?_neg.2 hh)]
 cases l with
 | nil=>rfl
 | cons a l=>rw [insFrom_stay hr (hasM_false.1 hh) _ 1 rfl (Nat.le_refl _),if_neg (by simp)]

theorem rsetGo_in (m:Mk):∀ (l:List Mk),(∀ x∈l,cmpB x.id.l m.id.l≠0)→rsetGo m l true = (l,true)
 | [],_=>rfl
 | x :: l,h=>by
  have ih:=rsetGo_in m l fun y hy=>h y (List.mem_cons_of_mem _ hy)
  have hx:=h x (List.mem_cons_self ..)
  simp only [rsetGo,Bool.true_or,ih,Bool.not_true,Bool.false_and,Bool.false_eq_true,if_false,List.nil_append,ne_eq,hx,not_false_eq_true,if_true,List.singleton_append]
theorem above_ne {m:Mk} {x:Mk} {l:List Mk} (hr:risesM (x :: l) = true) (hx:0≤cmpB x.id.l m.id.l):∀ y∈l,cmpB y.id.l m.id.l≠0:=by
 intro y hy h0
 have h1:=(rises_cons.1 hr).1 y hy
 have:y.id = m.id:=id_of_cmp h0
 rw [this] at h1
 omega
theorem rsetL_new {m:Mk}:∀ {l:List Mk},risesM l = true→hasM l m.id = false→rsetL l m = insM m l
 | [],_,_=>rfl
 | x :: l,hr,hh=>by
  have hx:cmpB x.id.l m.id.l≠0:=fun h=>hasM_false.1 hh x (List.mem_cons_self ..) (id_of_cmp h)
  have hh':hasM l m.id = false:=hasM_false.2 fun y hy=>hasM_false.1 hh y (List.mem_cons_of_mem _ hy)
  by_cases hc:cmpB x.id.l m.id.l < 0
  ·have hc':¬ 0≤cmpB x.id.l m.id.l:=by omega
   have ih:=rsetL_new (rises_cons.1 hr).2 hh'
   rw [insM,if_pos hc,← ih]
   simp [rsetL,rsetGo,hc',hx]
  ·have hc':0≤cmpB x.id.l m.id.l:=by omega
   rw [insM,if_neg hc]
   have:=rsetGo_in m l (above_ne hr hc')
   simp [rsetL,rsetGo,hc',hx,this]
def repM (m:Mk):List Mk→List Mk
 | []=>[]
 | x :: l=>if x.id == m.id then m :: l else x :: repM m l
theorem rsetL_rep {m:Mk}:∀ {l:List Mk},risesM l = true→hasM l m.id = true→rsetL l m = repM m l
 | [],_,h=>by simp [hasM] at h
 | x :: l,hr,hh=>by
  by_cases he:x.id = m.id
  ·have h0:cmpB x.id.l m.id.l = 0:=by rw [he];exact cmpB_self _
   have:=rsetGo_in m l (above_ne hr (by omega))
   have hs:=cmpB_self m.id.l
   simp [rsetL,rsetGo,this,repM,he,hs]
  ·have hx:cmpB x.id.l m.id.l≠0:=fun h=>he (id_of_cmp h)
   have hh':hasM l m.id = true:=by simpa [hasM,he] using hh
   have hc:cmpB x.id.l m.id.l < 0:=by
    obtain ⟨y,hy,hye⟩:∃ y∈l,y.id = m.id:=by simpa [hasM] using hh'
    rw [← hye]
    exact (rises_cons.1 hr).1 y hy
   have hc':¬ 0≤cmpB x.id.l m.id.l:=by omega
   have ih:=rsetL_rep (rises_cons.1 hr).2 hh'
   have hb:(x.id == m.id) = false:=by simpa using he
   rw [repM,hb,← ih]
   simp [rsetL,rsetGo,hc',hx]
theorem find?_set {m:Mk}:∀ {l:List Mk} (k:Nat),hasM l m.id = true→∃ i,find? (fun x=>x.id == m.id) l k = ((k+i:Nat):Int)∧i < l.length∧l.set i m = repM m l
 | [],_,h=>by simp [hasM] at h
 | x :: l,k,h=>by
  cases he:x.id == m.id with
  | true=>exact ⟨0,by simp [find?,he],by simp,by simp [repM,he]⟩
  | false =>
   have h':hasM l m.id = true:=by simpa [hasM,he] using h
   obtain ⟨i,h1,h2,h3⟩:=find?_set (k+1) h'
   refine ⟨i+1,?_,by simpa using h2,by simp [repM,he,h3]⟩
   simp only [find?,he,Bool.false_eq_true,if_false]
   have e:(k:Int)+1 = ((k+1:Nat):Int):=by omega
   rw [e,h1]
   omega
theorem putM_rep {l:List Mk} {m:Mk} (hh:hasM l m.id = true):putM l m = repM m l:=by
 obtain ⟨i,h1,h2,h3⟩:=find?_set 0 hh
 have h1':find? (fun x=>x.id == m.id) l 0 = (i:Int):=by simpa using h1
 unfold putM
 rw [h1',if_neg (by omega)]
 simpa using h3
theorem put_rset {l:List Mk} {m:Mk} (hr:risesM l = true):putM l m = rsetL l m:=by
 cases hh:hasM l m.id with
 | true=>rw [putM_rep hh,rsetL_rep hr hh]
 | false=>rw [putM_new hr hh,rsetL_new hr hh]
theorem may_rset (l:List Mk) (m:Mk):mayM l m.id = rsetC l m:=by
 unfold mayM rsetC
 cases hr:rightM l with
 | false=>simp
 | true =>
  have h4:=rightM_le hr
  simp only [Bool.true_eq_false,if_false,if_true]
  cases hh:hasM l m.id with
  | true =>
   have:¬ find? (fun x=>x.id == m.id) l 0 < 0:=fun h=>by rw [find?_neg.1 h] at hh;cases hh
   simp [this]
  | false =>
   have:=find?_neg.2 hh
   by_cases h:l.length = 4
   ·simp [this,h]
   ·have h':¬ 4≤l.length:=by omega
    simp [h,h']
theorem rises_of_right {l:List Mk} (h:rightM l = true):risesM l = true:=by
 rw [rightM,Bool.and_eq_true] at h
 exact h.2
theorem right_of_may {l:List Mk} {id:ID} (h:mayM l id = 0):rightM l = true:=by
 unfold mayM at h
 cases hr:rightM l with
 | true=>rfl
 | false=>rw [hr] at h;simp at h
theorem stepM_id (m:Mk) (it:It) (o:Bool):(stepM m it o).id = m.id:=by unfold stepM;split <;> rfl
theorem rstepM_id (m:Mk) (it:It) (o:Bool):(rstepM m it o).id = m.id:=by unfold rstepM;split <;> rfl
theorem take_code (l:List Mk) (it:It) (o:Bool):takeC l it = rtakeC l it o:=by
 unfold takeC rtakeC
 have h:=may_rset l (rstepM (getM l it.id) it o)
 rw [rstepM_id,getM_id] at h
 rw [h]
theorem rmoreM_eq {v n:Int} (hv:isU64 v) (hn:isU64 n):rmoreM v n = if u64max - n < v then u64max else v+n:=by
 unfold isU64 at hv hn
 have e:IntKind.u64.wrap (u64max - n) = u64max - n:=by rw [wrap_u64];unfold u64max;omega
 unfold rmoreM
 rw [e]
 split
 ·rfl
 ·rw [wrap_u64]
  unfold u64max at *
  omega
theorem step_law {m:Mk} {it:It} {o:Bool} (hm:m.Ok) (hi:it.Ok) (hg:goesM m it = true):stepM m it o = rstepM m it o:=by
 have h1:=hm.seq
 have h2:=hm.lost
 have h3:=hm.over
 have h4:=hi.fr
 have h5:=hi.til
 unfold stepM rstepM
 unfold goesM at hg
 cases hgap:it.gap with
 | true =>
  rw [hgap] at hg
  simp only [if_true,Bool.not_eq_true',Bool.or_eq_false_iff,decide_eq_false_iff_not] at hg ⊢
  unfold isU64 at h1 h2 h4 h5
  have w1:IntKind.u64.wrap (it.til - it.fr) = it.til - it.fr:=by rw [wrap_u64];omega
  have w2:IntKind.u64.wrap (it.til - it.fr+1) = it.til - it.fr+1:=by rw [wrap_u64];omega
  have r1:rmoreM (it.til - it.fr) 1 = it.til - it.fr+1:=by
   rw [rmoreM_eq (by unfold isU64;omega) (by unfold isU64;omega),if_neg (by unfold u64max;omega)]
  rw [w1,w2,r1,moreM_eq (by unfold isU64;omega) (by unfold isU64;omega),rmoreM_eq (by unfold isU64;omega) (by unfold isU64;omega)]
  congr 1
  unfold u64max
  split <;> split <;> omega
 | false =>
  simp only [Bool.false_eq_true,if_false]
  cases o with
  | false=>rfl
  | true =>
   simp only [if_true]
   rw [moreM_eq h3 (by unfold isU64;omega),rmoreM_eq h3 (by unfold isU64;omega)]
   congr 1
   unfold u64max
   split <;> split <;> omega
theorem take_law {l:List Mk} {it:It} (o:Bool) (hl:∀ m∈l,m.Ok) (hi:it.Ok) (hc:takeC l it = 0):takeL l it o = rtakeL l it o:=by
 have hm0:mayM l it.id = 0∧goesM (getM l it.id) it = true:=by
  unfold takeC at hc
  by_cases h:mayM l it.id = 0
  ·refine ⟨h,?_⟩
   rw [if_neg (by simpa using h)] at hc
   cases hg:goesM (getM l it.id) it with
   | true=>rfl
   | false=>rw [hg] at hc;simp at hc
  ·rw [if_pos h] at hc
   exact absurd hc h
 unfold takeL rtakeL
 rw [step_law (getM_ok hl it.id) hi hm0.2,put_rset (rises_of_right (right_of_may hm0.1))]

theorem rises_ins {m:Mk}:∀ {l:List Mk},risesM l = true→hasM l m.id = false→risesM (insM m l) = true
 | [],_,_=>rfl
 | x :: l,hr,hh=>by
  have hx:cmpB x.id.l m.id.l≠0:=fun h=>hasM_false.1 hh x (List.mem_cons_self ..) (id_of_cmp h)
  have hh':hasM l m.id = false:=hasM_false.2 fun y hy=>hasM_false.1 hh y (List.mem_cons_of_mem _ hy)
  obtain ⟨r1,r2⟩:=rises_cons.1 hr
  unfold insM
  split
  ·rename_i hc
   refine rises_cons.2 ⟨fun y hy=>?_,rises_ins r2 hh'⟩
   rcases (insM_mem m l y).1 hy with rfl | hy
   ·exact hc
   ·exact r1 y hy
  ·rename_i hc
   have hmx:cmpB m.id.l x.id.l < 0:=by
    rw [cmpB_swap]
    rcases cmpB_rng x.id.l m.id.l with h | h | h <;> omega
   refine rises_cons.2 ⟨fun y hy=>?_,hr⟩
   rcases List.mem_cons.1 hy with rfl | hy
   ·exact hmx
   ·exact cmpB_trans hmx (r1 y hy)
theorem repM_mem {m:Mk}:∀ {l:List Mk} {y:Mk},y∈repM m l→y = m∨y∈l
 | [],y,h=>by simp [repM] at h
 | x :: l,y,h=>by
  unfold repM at h
  split at h
  ·rcases List.mem_cons.1 h with h | h
   ·exact .inl h
   ·exact .inr (List.mem_cons_of_mem _ h)
  ·rcases List.mem_cons.1 h with h | h
   ·exact .inr (by rw [h];exact List.mem_cons_self ..)
   ·rcases repM_mem h with h | h
    ·exact .inl h
    ·exact .inr (List.mem_cons_of_mem _ h)
theorem rises_rep {m:Mk}:∀ {l:List Mk},risesM l = true→hasM l m.id = true→risesM (repM m l) = true
 | [],_,_=>rfl
 | x :: l,hr,hh=>by
  obtain ⟨r1,r2⟩:=rises_cons.1 hr
  unfold repM
  split
  ·rename_i he
   have he':x.id = m.id:=by simpa using he
   refine rises_cons.2 ⟨fun y hy=>?_,r2⟩
   rw [← he']
   exact r1 y hy
  ·rename_i he
   have he':¬ x.id = m.id:=by simpa using he
   have hh':hasM l m.id = true:=by simpa [hasM,he'] using hh
   refine rises_cons.2 ⟨fun y hy=>?_,rises_rep r2 hh'⟩
   rcases repM_mem hy with rfl | hy
   ·obtain ⟨z,hz,hze⟩:∃ z∈l,z.id = y.id:=by simpa [hasM] using hh'
    rw [← hze]
    exact r1 z hz
   ·exact r1 y hy
theorem rises_put {l:List Mk} {m:Mk} (hr:risesM l = true):risesM (putM l m) = true:=by
 cases hh:hasM l m.id with
 | true=>rw [putM_rep hh];exact rises_rep hr hh
 | false=>rw [putM_new hr hh];exact rises_ins hr hh
end Go.Ev.S
namespace Go.Ev.S
open Go Go.Proofs Go.Ev
def fnd (l:List Mk) (id:ID):Option Mk:=l.find? fun m=>m.id == id
theorem getM_fnd (l:List Mk) (id:ID):getM l id = (fnd l id).getD ⟨id,0,0,0⟩:=rfl
theorem fnd_nil (id:ID):fnd [] id = none:=rfl
theorem fnd_cons (a:Mk) (l:List Mk) (id:ID):fnd (a :: l) id = if a.id = id then some a else fnd l id:=by
 unfold fnd
 rw [List.find?_cons]
 by_cases h:a.id = id
 ·simp [h]
 ·simp [h,beq_eq_false_iff_ne.2 h]
theorem cmp_ne {a b:ID} (h:cmpB a.l b.l < 0):a≠b:=by
 rintro rfl
 rw [cmpB_self] at h
 omega
theorem fnd_mem {l:List Mk} (hr:risesM l = true) {x:Mk} (hx:x∈l):fnd l x.id = some x:=by
 induction l with
 | nil=>cases hx
 | cons a l ih =>
  obtain ⟨r1,r2⟩:=rises_cons.1 hr
  rw [fnd_cons]
  rcases List.mem_cons.1 hx with rfl | h
  ·simp
  ·rw [if_neg (cmp_ne (r1 x h)),ih r2 h]
theorem fnd_ins {m:Mk}:∀ {l:List Mk},(∀ x∈l,x.id≠m.id)→∀ id,fnd (insM m l) id = if m.id = id then some m else fnd l id
 | [],_,id=>by simp [insM,fnd_cons,fnd_nil]
 | x :: l,h,id=>by
  unfold insM
  split
  ·rw [fnd_cons,fnd_ins (fun y hy=>h y (List.mem_cons_of_mem _ hy)),fnd_cons]
   by_cases hx:x.id = id
   ·have:¬ m.id = id:=fun hm=>h x (List.mem_cons_self ..) (by rw [hx,hm])
    simp [hx,this]
   ·simp [hx]
  ·rw [fnd_cons]
theorem fnd_rep {m:Mk}:∀ {l:List Mk},hasM l m.id = true→∀ id,fnd (repM m l) id = if m.id = id then some m else fnd l id
 | [],h,_=>by simp [hasM] at h
 | x :: l,h,id=>by
  unfold repM
  by_cases hx:x.id = m.id
  ·rw [if_pos (by simpa using hx),fnd_cons,fnd_cons,hx]
   split <;> rfl
  ·have h':hasM l m.id = true:=by simpa [hasM,hx] using h
   rw [if_neg (by simpa using hx),fnd_cons,fnd_rep h',fnd_cons]
   by_cases hi:x.id = id
   ·have:¬ m.id = id:=fun hm=>hx (by rw [hi,hm])
    simp [hi,this]
   ·simp [hi]
theorem fnd_put {l:List Mk} {m:Mk} (hr:risesM l = true) (id:ID):fnd (putM l m) id = if m.id = id then some m else fnd l id:=by
 cases hh:hasM l m.id with
 | true=>rw [putM_rep hh,fnd_rep hh]
 | false=>rw [putM_new hr hh,fnd_ins (hasM_false.1 hh)]
def mx:Option Mk→Option Mk→Option Mk
 | none,o=>o
 | some x,none=>some x
 | some x,some y=>if y.seq≤x.seq then some x else some y
end Go.Ev.S
namespace Go.Ev.S
open Go Go.Proofs Go.Ev
end Go.Ev.S
namespace Go.Ev.S
open Go Go.Proofs Go.Ev
def fstN (x:It):Int:=if x.gap then x.fr else x.rc.seq
def lstN (x:It):Int:=if x.gap then x.til else x.rc.seq
def RiseI (L:List It):Prop:= ∀ i j (hi:i < j) (hj:j < L.length),(L[i]'(by omega)).id = L[j].id→lstN (L[i]'(by omega)) < fstN L[j]
structure SeqR (L:List It):Prop where
 rise:RiseI L
 num:∀ x∈L,∃ j,j < 3∧x.id = idN j∧1≤fstN x∧fstN x≤lstN x∧lstN x≤L.length * 6
structure GoodL (L:List It) (last:List Int):Prop where
 rise:RiseI L
 num:∀ x∈L,∃ j,j < 3∧x.id = idN j∧1≤fstN x∧fstN x≤lstN x∧∀ h:j < last.length,lstN x≤last[j]
theorem goodL_nil (last:List Int):GoodL [] last:=⟨fun i j _ hj=>absurd hj (Nat.not_lt_zero _),fun x hx=>by cases hx⟩
theorem seqR_nil:SeqR []:=⟨fun i j _ hj=>absurd hj (Nat.not_lt_zero _),fun x hx=>by cases hx⟩
theorem seqR_of {L:List It} {last:List Int} (h:GoodL L last) (h3:last.length = 3) (hb:∀ v∈last,0≤v∧v≤L.length * 6):SeqR L:=by
 refine ⟨h.rise,fun x hx=>?_⟩
 obtain ⟨j,h1,h2,h4,h5,h6⟩:=h.num x hx
 have hj:j < last.length:=by omega
 have h7:=h6 hj
 have h8:=(hb _ (List.getElem_mem hj)).2
 exact ⟨j,h1,h2,h4,h5,by omega⟩
theorem idN_inj:∀ i < 4,∀ j < 4,idN i = idN j→i = j:=by decide
theorem goodL_add {L:List It} {last:List Int} (h:GoodL L last) (h3:last.length = 3) {k:Nat} (hk:k < 3) {v:Nat} (hv:last[k]'(by omega) = (v:Int)) (y:It) (hy:y.id = idN k) (a b:Nat) (ha:fstN y = (a:Int)) (hb:lstN y = (b:Int)) (h1:v < a) (h2:a≤b):GoodL (L ++ [y]) (last.set k (b:Int)):=by
 have hkl:k < last.length:=by omega
 have old:∀ x∈L,x.id = y.id→lstN x < fstN y:=by
  intro x hx he
  obtain ⟨j,j1,j2,j3,j4,j5⟩:=h.num x hx
  have:j = k:=idN_inj j (by omega) k (by omega) (by rw [← j2,← hy,he])
  subst this
  have:=j5 hkl
  omega
 refine ⟨fun i j hi hj he=>?_,fun x hx=>?_⟩
 ·rw [List.length_append,List.length_singleton] at hj
  by_cases hjl:j < L.length
  ·have hil:i < L.length:=by omega
   simp only [List.getElem_append_left hjl,List.getElem_append_left hil] at he ⊢
   exact h.rise i j hi hjl he
  ·have hil:i < L.length:=by omega
   have hje:j = L.length:=by omega
   subst hje
   simp only [List.getElem_append_left hil,List.getElem_concat_length] at he ⊢
   exact old _ (List.getElem_mem hil) he
 ·rcases List.mem_append.1 hx with hx | hx
  ·obtain ⟨j,j1,j2,j3,j4,j5⟩:=h.num x hx
   refine ⟨j,j1,j2,j3,j4,fun hj=>?_⟩
   rw [List.length_set] at hj
   rw [List.getElem_set]
   split
   ·rename_i hkj
    subst hkj
    have:=j5 hkl
    omega
   ·exact j5 hj
  ·rw [List.mem_singleton.1 hx]
   refine ⟨k,hk,hy,by omega,by omega,fun hj=>?_⟩
   rw [List.getElem_set_self]
   omega
def ItsR (nil:Bool) (zs:List Int) (most k:Nat) (q:D × Heap):Prop:= ∃ (out:List It) (k':Nat),out.length≤most∧(∀ it∈out,MadeI it)∧(k < zs.length→0 < most→out≠[])∧SeqR out ∧
 ((out = []∧q = (.vsl true [] 0,[some (seqD nil zs k')]))∨(out≠[]∧∃ n m,n = out.length * 39∧m = out.length∧q = (.osl 1 n 0 m 39,[some (seqD nil zs k'),some (encs out)])))
set_option maxHeartbeats 4000000 in
theorem items_evr [MaxL] [TxtC] (nil:Bool) (zs:List Int) (hnil:nil = true→zs = []) (hz:zs.length≤1000000) (k:Nat) (most:Nat) (hmost:most≤100) :
  ∃ q,call cx 30 [.optr 0 2 0,.int .i64 most] [some (seqD nil zs k)] = some q∧ItsR nil zs most k q:=by
 refine call_runE (X:=cx) (f:=30) (args:=[.optr 0 2 0,.int .i64 most]) (H:=[some (seqD nil zs k)]) (ItsR nil zs most k) Tryz.func30 rfl ⟨rfl,rfl⟩ ?_
 have sf:=seqD_free nil zs
 have sl:=seqD_len nil zs
 have sc:=seqD_cl nil zs
 simp [Tryz.f30]
 refine Run.loopThen (fun (q:List It × List Int × Nat) e H'=>q.1.length≤most∧(∀ it∈q.1,MadeI it)∧q.2.1.length = 3∧(∀ v∈q.2.1,0≤v∧v≤q.1.length * 6)∧look e 0 = some (.optr 0 2 0)∧look e 1 = some (.int .i64 most)∧∃ d5 d6,look e 5 = some d5∧look e 6 = some d6∧ItsH (seqD nil zs q.2.2) q.1 q.2.1 d5 d6 H'∧(q.1 = []→q.2.2 = k)∧GoodL q.1 q.2.1) (fun q=>most - q.1.length) ([],[0,0,0],k) ?_ ?_
 ·exact ⟨by simp,by simp,by simp,by simp,by simp,by simp,_,_,by simp,by simp,.inl ⟨rfl,rfl,rfl,rfl⟩,fun _=>rfl,goodL_nil _⟩
 rintro ⟨out,last,k1⟩ e H' ⟨ho,hmade,hl3,hlast,k0,k1',d5,d6,k5,k6,hH,hk0,hGL⟩
 simp only at ho hmade hl3 hlast hH hk0 hGL
 have hmo:=more_ev nil zs k1
 have hlf:(∀ x,x∈intsK .u64 last→idFree x = true) = True:=eq_true (by simp [intsK])
 have hlc:∀ n,(∀ x,x∈intsK .u64 last→closed n x = true) = True:=fun n=>eq_true (by simp [intsK])
 obtain ⟨x1,k2,hx1,-,c1⟩:=n_ev nil zs hnil hz k1 3 (by decide) (by decide)
 obtain ⟨x2,k3,hx2,-,c2⟩:=n_ev nil zs hnil hz k2 3 (by decide) (by decide)
 obtain ⟨x3,k4,hx3,-,c3⟩:=n_ev nil zs hnil hz k3 4 (by decide) (by decide)
 obtain ⟨x4,k5',hx4,-,c4⟩:=n_ev nil zs hnil hz k4 4 (by decide) (by decide)
 have hid:=mid_small (j:=x1) (by omega)
 have hx1l:x1 < last.length:=by omega
 have hat:=intsK_at (k:=.u64) hx1l
 have hx1i:(x1:Int) < 3:=hx1
 have hxn:x1 < 3:=by omega
 have hxn2:x1+1≤3:=by omega
 obtain ⟨hv0,hv1⟩:=hlast _ (List.getElem_mem hx1l)
 obtain ⟨v,hv⟩:∃ v:Nat,last[x1] = (v:Int):=⟨last[x1].toNat,by omega⟩
 have hx1n:x1 < 3:=by omega
 rw [hv] at hat hv0 hv1
 have w1:IntKind.u64.wrap ((v:Int)+1) = (v:Int)+1:=by rw [wrap_u64];omega
 have w2:IntKind.u64.wrap (x2:Int) = (x2:Int):=by rw [wrap_u64];omega
 have w3:IntKind.u64.wrap ((v:Int)+1+(x2:Int)) = (v:Int)+1+(x2:Int):=by rw [wrap_u64];omega
 have w4:IntKind.u64.wrap (x4:Int) = (x4:Int):=by rw [wrap_u64];omega
 have w5:IntKind.u64.wrap ((v:Int)+1+(x2:Int)+(x4:Int)) = (v:Int)+1+(x2:Int)+(x4:Int):=by rw [wrap_u64];omega
 obtain ⟨r,k6',hr,c6⟩:=mrec_ev nil zs hnil hz k4 (v+1+x2) (by omega)
 rw [show ((v+1+x2:Nat):Int) = (v:Int)+1+x2 by omega] at c6
 have hq:=(idN x1).h
 have hgm:=made_gap (idN x1) (n:=v+1+x2) (t:=v+1+x2+x4) (by omega) (by omega) (by omega)
 have hrm:=made_rec (idN x1) (n:=v+1+x2) (by omega) hr
 rw [show ((v+1+x2:Nat):Int) = (v:Int)+1+x2 by omega] at hgm
 rw [show ((v+1+x2+x4:Nat):Int) = (v:Int)+1+x2+x4 by omega] at hgm
 have hSR:=seqR_of hGL hl3 hlast
 have hG1:=goodL_add hGL hl3 hx1n hv ⟨idN x1,true,((v+1+x2:Nat):Int),((v+1+x2+x4:Nat):Int),recZ⟩ rfl (v+1+x2) (v+1+x2+x4) rfl rfl (by omega) (by omega)
 have hG2:=goodL_add hGL hl3 hx1n hv ⟨idN x1,false,0,0,r⟩ rfl (v+1+x2) (v+1+x2) hr.1 hr.1 (by omega) (by omega)
 rw [show ((v+1+x2:Nat):Int) = (v:Int)+1+x2 by omega] at hG2
 rw [show ((v+1+x2:Nat):Int) = (v:Int)+1+x2 by omega,show ((v+1+x2+x4:Nat):Int) = (v:Int)+1+x2+x4 by omega] at hG1
 generalize idN x1 = iq at *
 have hq16:List.take 16 (ofBytes iq.l) = ofBytes iq.l:=List.take_of_length_le (by simp)
 have hq39:List.take 39 (ofBytes iq.l) = ofBytes iq.l:=List.take_of_length_le (by simp)
 have hset1:=fun x=>intsK_set (k:=.u64) (v:=x) hx1l
 have hlast1:∀ x:Int,0≤x→x≤(out.length+1:Nat) * 6→∀ y∈last.set x1 x,0≤y∧y≤(out.length+1:Nat) * 6:=by
  intro x h1 h2 y hy
  rcases List.mem_or_eq_of_mem_set hy with h | rfl
  ·have:=hlast y h
   omega
  ·exact ⟨h1,h2⟩
 have hrz:=rec_noZ r
 by_cases h0:out.length < most
 case neg =>
  rcases hH with ⟨rfl,rfl,rfl,rfl⟩ | ⟨hne,n,m,t,hn,hm,hH⟩
  ·have h00:¬ 0 < most:=h0
   simp [k0,k1',k5,k6,sc,hlf,h00]
   exact ⟨[],k1,by simp,by simp,fun _ h=>absurd h h00,seqR_nil,.inl ⟨rfl,rfl⟩⟩
  have h00:¬ m < most:=by omega
  have hkn:m * 39 = n:=by omega
  have hlk:out.length = m:=hm.symm
  have htk:List.take n (encs out) = encs out:=List.take_of_length_le (by simp;omega)
  rcases hH with ⟨rfl,rfl,rfl⟩ | ⟨rfl,rfl,rfl⟩
  all_goals
   simp [k0,k1',k5,k6,sc,hlf,h00,hlk]
   exact ⟨out,k1,by omega,hmade,fun _ _=>hne,hSR,.inr ⟨hne,n,m,by omega,by omega,rfl⟩⟩
 cases hmm:decide (k1 < zs.length) with
 | false =>
  rw [hmm] at hmo
  rcases hH with ⟨rfl,rfl,rfl,rfl⟩ | ⟨hne,n,m,t,hn,hm,hH⟩
  ·have h00:0 < most:=h0
   simp [k0,k1',k5,k6,hmo,sf,sc,hlf,h00]
   exact ⟨[],k1,by simp,by simp,fun h _=>(by rw [hk0 rfl,decide_eq_true h] at hmm;cases hmm),seqR_nil,.inl ⟨rfl,rfl⟩⟩
  have h00:m < most:=by omega
  have hkn:m * 39 = n:=by omega
  have hlk:out.length = m:=hm.symm
  have htk:List.take n (encs out) = encs out:=List.take_of_length_le (by simp;omega)
  rcases hH with ⟨rfl,rfl,rfl⟩ | ⟨rfl,rfl,rfl⟩
  all_goals
   simp [k0,k1',k5,k6,hmo,sf,sc,hlf,h00,hlk]
   exact ⟨out,k1,by omega,hmade,fun _ _=>hne,hSR,.inr ⟨hne,n,m,by omega,by omega,rfl⟩⟩
 | true =>
  rw [hmm] at hmo
  rcases hH with ⟨rfl,rfl,rfl,rfl⟩ | ⟨hne,n,m,t,hn,hm,hH⟩
  ·have h00:0 < most:=h0
   by_cases h3:x3 = 0
   ·subst h3
    simp [k0,k1',k5,k6,hmo,sf,sc,hlf,hl3,h00,c1,c2,c3,c4,hat,hx1i,hxn2,w1,w2,w3,w4,w5,hid,maxBytes,hq,hq39,List.take_append,List.drop_append,drop_bytes,hset1]
    refine ⟨[⟨iq,true,(v:Int)+1+x2,(v:Int)+1+x2+x4,recZ⟩],by simp;omega,by simp;omega,by simpa using hgm,last.set x1 ((v:Int)+1+x2+x4),by simp [hl3],hlast1 _ (by omega) (by simp at hv1 ⊢;omega),k5',.inr ⟨by simp,39,1,_,rfl,rfl,.inl ⟨rfl,rfl,by rw [encs_one,gap_cells]⟩⟩,fun h=>by simp at h,hG1⟩
   ·have h3':¬ (x3:Int) = 0:=by omega
    simp [k0,k1',k5,k6,hmo,sf,sc,hlf,hl3,h00,c1,c2,c3,h3,c6,hrz,hat,hx1i,hxn2,w1,w2,w3,hid,maxBytes,hq,hq39,List.take_append,List.drop_append,drop_bytes,hset1]
    refine ⟨[⟨iq,false,0,0,r⟩],by simp;omega,by simp;omega,by simpa using hrm,last.set x1 ((v:Int)+1+x2),by simp [hl3],hlast1 _ (by omega) (by simp at hv1 ⊢;omega),k6',.inr ⟨by simp,39,1,_,rfl,rfl,.inl ⟨rfl,rfl,by rw [encs_one,rec_cells]⟩⟩,fun h=>by simp at h,hG2⟩
  have h00:m < most:=by omega
  have hkn:m * 39 = n:=by omega
  have hlk:out.length = m:=hm.symm
  have htk:List.take n (encs out) = encs out:=List.take_of_length_le (by simp;omega)
  have hm1:(m+1) * 104≤140737488355328:=by omega
  have hm2:m+1≤140737488355328:=by omega
  rcases hH with ⟨rfl,rfl,rfl⟩ | ⟨rfl,rfl,rfl⟩
  all_goals
   by_cases h3:x3 = 0
   ·subst h3
    simp [k0,k1',k5,k6,hmo,sf,sc,hlf,hl3,h00,hkn,hlk,hm1,hm2,c1,c2,c3,c4,hat,hx1i,hxn2,w1,w2,w3,w4,w5,hid,maxBytes,hq,hq39,List.take_append,List.drop_append,drop_bytes,hset1]
    refine ⟨out ++ [⟨iq,true,(v:Int)+1+x2,(v:Int)+1+x2+x4,recZ⟩],by simp;omega,by simp;omega,fun it h=>?_,last.set x1 ((v:Int)+1+x2+x4),by simp [hl3],by simpa using hlast1 _ (by omega) (by simp at hv1 ⊢;omega),k5',.inr ⟨by simp,n+39,m+1,_,by simp;omega,by simp [hlk],.inr ⟨rfl,rfl,by rw [encs_snoc,gap_cells]⟩⟩,fun h=>by simp at h,hG1⟩
    rcases List.mem_append.1 h with h | h
    ·exact hmade it h
    ·rw [List.mem_singleton.1 h];exact hgm
   ·have h3':¬ (x3:Int) = 0:=by omega
    simp [k0,k1',k5,k6,hmo,sf,sc,hlf,hl3,h00,hkn,hlk,hm1,hm2,c1,c2,c3,h3,c6,hrz,hat,hx1i,hxn2,w1,w2,w3,hid,maxBytes,hq,hq39,List.take_append,List.drop_append,drop_bytes,hset1]
    refine ⟨out ++ [⟨iq,false,0,0,r⟩],by simp;omega,by simp;omega,fun it h=>?_,last.set x1 ((v:Int)+1+x2),by simp [hl3],by simpa using hlast1 _ (by omega) (by simp at hv1 ⊢;omega),k6',.inr ⟨by simp,n+39,m+1,_,by simp;omega,by simp [hlk],.inr ⟨rfl,rfl,by rw [encs_snoc,rec_cells]⟩⟩,fun h=>by simp at h,hG2⟩
    rcases List.mem_append.1 h with h | h
    ·exact hmade it h
    ·rw [List.mem_singleton.1 h];exact hrm
end Go.Ev.S
namespace Go.Ev
open Go Go.Proofs
end Go.Ev
namespace Go.Ev
structure Lim where
 count:Int
 bytes:Int
 hard:Int
instance:Enc Lim:=⟨3,fun m=>[.int .i64 m.count,.int .i64 m.bytes,.int .i64 m.hard],fun _=>rfl,fun _=>rfl⟩
@[simp] theorem Lim.cells (m:Lim):Enc.cells m = [.int .i64 m.count,.int .i64 m.bytes,.int .i64 m.hard]:=rfl
structure BatS where
 items:List It
 fin:List Mk
 used:Nat
 bytes:Nat
def BatS.none:BatS:=⟨[],[],0,0⟩
section
variable (tc:List Mk→It→Int) (tl:List Mk→It→Bool→List Mk) (hd:List Pr→Bool) (sz:It→Nat) (lim:Lim)
def askedB (x:It):Bool:=x.gap || hd x.rc.fields.l
def overB (x:It):Bool:=askedB hd x && (!x.gap && decide (lim.hard < (sz x:Int)))
def goesB (x:It):Bool:=askedB hd x && !overB hd sz lim x
def stopB (s:BatS) (x:It):Bool:=goesB hd sz lim x && (decide ((s.items.length:Int) = lim.count) || (decide (0 < s.items.length) && decide (lim.bytes < (s.bytes:Int)+(sz x:Int))))
def finB (l:List It) (f:List Mk):List Mk:=l.foldl (fun f x=>tl f x (overB hd sz lim x)) f
def sumB (l:List It):Nat:=(l.map sz).sum
structure BldIs (l:List It) (s r:BatS) (n:Nat):Prop where
 le:n≤l.length
 used:r.used = s.used+n
 items:r.items = s.items ++ (l.take n).filter (goesB hd sz lim)
 bytes:r.bytes = s.bytes+sumB sz ((l.take n).filter (goesB hd sz lim))
 fin:r.fin = finB tl hd sz lim (l.take n) s.fin
 stop:∀ h:n < l.length,stopB hd sz lim r l[n] = true∨tc r.fin l[n]≠0
 went:∀ k (_:k < n) (h:k < l.length),tc (finB tl hd sz lim (l.take k) s.fin) l[k] = 0
end
end Go.Ev
namespace Go.Ev.S
open Go Go.Proofs Go.Ev
structure MarkI (f:List Mk) (S:List It):Prop where
 rises:risesM f = true
 ids:∀ m∈f,∃ j,j < 3∧m.id = idN j
 seq:∀ id,(getM f id).seq = 0∨∃ x∈S,x.id = id∧lstN x = (getM f id).seq
 last:∀ x∈S,lstN x≤(getM f x.id).seq
theorem markI_nil:MarkI [] []:=⟨rfl,fun m hm=>(by cases hm),fun _=>.inl rfl,fun x hx=>(by cases hx)⟩
theorem idN_lt3:∀ i < 3,∀ j < 3,cmpB (idN i).l (idN j).l < 0→i < j:=by decide
theorem mark_len {f:List Mk} (hr:risesM f = true) (hi:∀ m∈f,∃ j,j < 3∧m.id = idN j):f.length≤3:=by
 match f,hr,hi with
 | [],_,_=>exact Nat.zero_le _
 | [_],_,_=>exact Nat.succ_le_succ (Nat.zero_le _)
 | [_,_],_,_=>exact Nat.succ_le_succ (Nat.succ_le_succ (Nat.zero_le _))
 | [_,_,_],_,_=>exact Nat.le_refl _
 | a :: b :: c :: d :: l,hr,hi =>
  exfalso
  simp only [risesM,Bool.and_eq_true,decide_eq_true_eq] at hr
  obtain ⟨ja,ha,ea⟩:=hi a (by simp)
  obtain ⟨jb,hb,eb⟩:=hi b (by simp)
  obtain ⟨jc,hc,ec⟩:=hi c (by simp)
  obtain ⟨jd,hd,ed⟩:=hi d (by simp)
  rw [ea,eb,ec,ed] at hr
  have h1:=idN_lt3 ja ha jb hb hr.1
  have h2:=idN_lt3 jb hb jc hc hr.2.1
  have h3:=idN_lt3 jc hc jd hd hr.2.2.1
  omega
theorem may_ok {f:List Mk} (hr:risesM f = true) (h3:f.length≤3) (id:ID):mayM f id = 0:=by
 have h:rightM f = true:=by
  unfold rightM
  rw [hr,Bool.and_true,decide_eq_true_eq]
  omega
 unfold mayM
 rw [h,if_neg (by decide),if_neg (fun h=>by omega)]
theorem getM_put {f:List Mk} {m:Mk} (hr:risesM f = true) (id:ID):getM (putM f m) id = if m.id = id then m else getM f id:=by
 rw [getM_fnd,fnd_put hr,getM_fnd]
 split <;> rfl
theorem put_mem {f:List Mk} {m:Mk} (hr:risesM f = true):∀ x∈putM f m,x = m∨x∈f:=by
 intro x hx
 cases h:hasM f m.id with
 | true =>
  rw [putM_rep h] at hx
  exact repM_mem hx
 | false =>
  rw [putM_new hr h] at hx
  exact (insM_mem m f x).1 hx
theorem step_seq (m:Mk) (y:It) (o:Bool):(stepM m y o).seq = lstN y:=by
 unfold stepM lstN
 split <;> rfl
theorem take_goes {f:List Mk} {S:List It} (h:MarkI f S) {y:It} (hlt:∀ x∈S,x.id = y.id→lstN x < fstN y) (h1:1≤fstN y) (h2:fstN y≤lstN y):takeC f y = 0:=by
 unfold takeC
 rw [may_ok h.rises (mark_len h.rises h.ids),if_neg (by decide)]
 have hs:(getM f y.id).seq < fstN y:=by
  rcases h.seq y.id with h0 | ⟨x,hx,he,hl⟩
  ·omega
  ·have:=hlt x hx he
   omega
 have hg:goesM (getM f y.id) y = true:=by
  unfold goesM fstN lstN at *
  cases hgap:y.gap with
  | true =>
   rw [hgap] at hs h2
   simp only [if_true] at hs h2 ⊢
   rw [decide_eq_false (by omega),decide_eq_false (by omega)]
   rfl
  | false =>
   rw [hgap] at hs
   simp only [Bool.false_eq_true,if_false] at hs ⊢
   rw [decide_eq_false (by omega)]
   rfl
 rw [hg,if_pos rfl]
theorem markI_add {f:List Mk} {S:List It} (h:MarkI f S) {y:It} (o:Bool) (hj:∃ j,j < 3∧y.id = idN j) (hlt:∀ x∈S,x.id = y.id→lstN x < fstN y) (h2:fstN y≤lstN y):MarkI (takeL f y o) (S ++ [y]):=by
 unfold takeL
 have hid:(stepM (getM f y.id) y o).id = y.id:=by rw [stepM_id,getM_id]
 have hsq:=step_seq (getM f y.id) y o
 generalize stepM (getM f y.id) y o = m at *
 refine ⟨rises_put h.rises,fun x hx=>?_,fun id=>?_,fun x hx=>?_⟩
 ·rcases put_mem h.rises x hx with rfl | hx
  ·rw [hid]
   exact hj
  ·exact h.ids x hx
 ·rw [getM_put h.rises]
  by_cases he:m.id = id
  ·rw [if_pos he]
   exact .inr ⟨y,by simp,by rw [← hid,he],hsq.symm⟩
  ·rw [if_neg he]
   rcases h.seq id with h0 | ⟨x,hx,e1,e2⟩
   ·exact .inl h0
   ·exact .inr ⟨x,List.mem_append_left _ hx,e1,e2⟩
 ·rw [getM_put h.rises]
  rcases List.mem_append.1 hx with hx | hx
  ·by_cases he:m.id = x.id
   ·rw [if_pos he,hsq]
    have:=hlt x hx (by rw [← he,hid])
    omega
   ·rw [if_neg he]
    exact h.last x hx
  ·rw [List.mem_singleton.1 hx,hid,if_pos rfl,hsq]
   exact Int.le_refl _
section
variable (hd:List Pr→Bool) (sz:It→Nat) (lim:Lim)
end
end Go.Ev.S
namespace Go.Ev.S
open Go Go.Proofs Go.Ev
def ItsB (l:List It):Prop:= ∀ x∈l,x.Ok∧x.rc.fields.l.length < 1000000∧∀ p∈x.rc.fields.l,PrB p
theorem flat_len {l:List It} (h:ItsB l) (ho:∀ x∈l,itOk x = true):(l.flatMap itB).length≤l.length * 10004:=by
 induction l with
 | nil=>simp
 | cons a l ih =>
  have h1:=ih (fun x hx=>h x (List.mem_cons_of_mem _ hx)) fun x hx=>ho x (List.mem_cons_of_mem _ hx)
  have h2:=(textL_len (h a (List.mem_cons_self ..)).1 (ho a (List.mem_cons_self ..))).1
  rw [List.flatMap_cons,List.length_append,itB_len,List.length_cons,Nat.add_mul]
  omega
theorem leadd4 [MaxL] (l:List UInt8) (n v:Nat) (hn:n = 2∨n = 4) (hl:l.length≤140737488355000) :
  call cx 63 [.vsl false (ofBytes l) l.length,.int .i64 n,.int .u64 v] [] = some (.osl 0 (l.length+n) 0 (l.length+n) 1,[some (ofBytes (l ++ leB n v))]):=by
 obtain ⟨d,H,hb,hc⟩:=leadd_ev (.of l) n v (by simpa using hl)
 have e:leAdd l n v = l ++ leB n v:=by rcases hn with rfl | rfl <;> simp [leAdd,szOk]
 simp only [Sl.of_l,Sl.of_nil] at hb hc
 rw [e] at hb
 rcases hb with ⟨rfl,h,rfl⟩ | ⟨rfl,rfl⟩
 ·have:=congrArg List.length h
  simp at this
  omega
 ·rw [hc]
  simp
theorem putS_none {l:List It} {m:List Mk} (h:putOk l m = false):putS l m = .none:=by unfold putS;rw [h];rfl
def PutH (X:List UInt8) (d:D) (H:Heap):Prop:= ∃ n,n = X.length∧((∃ t,d = .osl 1 n 0 n 1∧H = [some t,some (ofBytes X)])∨(∃ t u,d = .osl 2 n 0 n 1∧H = [some t,some u,some (ofBytes X)]))
def PutC (s:List It) (i:Nat) (X:List UInt8):Prop:=X = (kSign ++ leB 2 s.length) ++ (s.take i).flatMap itB
set_option maxHeartbeats 4000000 in
theorem wput_ev [MaxL] (s:Sl It) (m:Sl Mk) (hs:ItsB s.l) (hm:∀ x∈m.l,x.Ok) (hmn:m.l.length < 4611686018427387904):call cx 31 [(.vsl s.nil (encs s.l) s.l.length),(.vsl m.nil (encs m.l) m.l.length)] [] = some ((.vsl (putS s.l m.l).nil (ofBytes (putS s.l m.l).l) (putS s.l m.l).l.length),[]):=by
 have hr:=right_ev m hmn
 refine call_run Tryz.func31 rfl ⟨rfl,rfl⟩ ?_
 by_cases h64:s.l.length≤64
 case neg =>
  have h64':(64:Int) < (s.l.length:Int):=by omega
  have hp:putOk s.l m.l = false:=by unfold putOk;rw [decide_eq_false h64,Bool.false_and]
  rw [putS_none hp]
  simp [Tryz.f31,h64',Sl.none]
 have h64':¬ (64:Int) < (s.l.length:Int):=by omega
 cases hrm:rightM m.l with
 | false =>
  rw [hrm] at hr
  have hp:putOk s.l m.l = false:=by unfold putOk;rw [hrm,Bool.false_and,Bool.and_false]
  rw [putS_none hp]
  simp [Tryz.f31,h64',hr,Sl.none]
 | true =>
 rw [hrm] at hr
 have hw0:IntKind.u64.wrap (s.l.length:Int) = (s.l.length:Int):=by rw [wrap_u64];omega
 have h0:=leadd4 kSign 2 s.l.length (.inl rfl) (by decide)
 replace h0:call cx 63 [.vsl false [.int .u8 68,.int .u8 66,.int .u8 65,.int .u8 84] 4,.int .i64 2,.int .u64 s.l.length] [] = some (.osl 0 6 0 6 1,[some (ofBytes (kSign ++ leB 2 s.l.length))]):=h0
 simp [Tryz.f31,h64',hr,hw0,h0]
 refine Run.loopThen (fun (q:Nat × List UInt8) e H=>q.1≤s.l.length∧PutC s.l q.1 q.2∧(∀ x∈s.l.take q.1,itOk x = true)∧(∃ d,look e 5 = some d∧PutH q.2 d H)∧look e 1 = some (.vsl m.nil (encs m.l) m.l.length)∧look e 23 = some (.vsl s.nil (encs s.l) s.l.length)∧look e 24 = some (.int .i64 s.l.length)∧look e 25 = some (.int .i64 (q.1:Nat))) (fun q=>s.l.length - q.1) (0,kSign ++ leB 2 s.l.length) ?_ ?_
 ·refine ⟨Nat.zero_le _,by simp [PutC],by simp,⟨_,by simp,6,by simp [kSign],.inl ⟨_,rfl,rfl⟩⟩,by simp,by simp,by simp,by simp⟩
 rintro ⟨i,X⟩ e H ⟨hi,hX,hok,⟨d,k5,n,hn,hH⟩,k1,k23,k24,k25⟩
 simp only at hi hX hok hn k25
 have hnX:X.length = n:=hn.symm
 have htX:List.take n (ofBytes X) = ofBytes X:=List.take_of_length_le (by simp;omega)
 have hfl:=flat_len (l:=s.l.take i) (fun x hx=>hs x (List.mem_of_mem_take hx)) hok
 have hXl:X.length≤700000:=by
  rw [List.length_take] at hfl
  have:min i s.l.length * 10004≤64 * 10004:=Nat.mul_le_mul_right _ (by omega)
  unfold PutC at hX
  rw [hX,List.length_append,List.length_append,leB_len]
  show 4+2+_≤_
  omega
 by_cases hlt:i < s.l.length
 ·have hlt':(i:Int) < (s.l.length:Int):=by omega
  have hw:IntKind.i64.wrap ((i:Int)+1) = ((i+1:Nat):Int):=by rw [wrap_i64] <;> omega
  obtain ⟨x1,x2,x3⟩:=hs s.l[i] (List.getElem_mem hlt)
  have t1:=text_ev s.l[i] x1 x3 x2
  have hea:List.drop (i * 39) (encs s.l) = Enc.cells s.l[i] ++ encs (s.l.drop (i+1)):=It.ea hlt
  have htake:s.l.take (i+1) = s.l.take i ++ [s.l[i]]:=List.take_succ_eq_append_getElem hlt
  cases ho:itOk s.l[i] with
  | false =>
   have hp:putOk s.l m.l = false:=by
    unfold putOk
    have:s.l.all itOk = false:=by
     cases h:s.l.all itOk with
     | false=>rfl
     | true=>rw [List.all_eq_true] at h;rw [h _ (List.getElem_mem hlt)] at ho;cases ho
    rw [this,Bool.and_false,Bool.and_false]
   rw [putS_none hp]
   unfold textD at t1
   rw [ho,if_neg (by decide)] at t1
   generalize s.l[i] = x at *
   rcases hH with ⟨t,rfl,rfl⟩ | ⟨t,u,rfl,rfl⟩ <;> simp [-It.ea,k5,k1,k23,k24,k25,hlt',Sl.nn hlt,hea,t1,Sl.none]
  | true =>
   unfold textD at t1
   rw [ho,if_pos rfl] at t1
   obtain ⟨tl1,tl2⟩:=textL_len x1 ho
   have hX2:PutC s.l (i+1) (X ++ leB 4 (textL s.l[i]).length ++ textL s.l[i]):=by
    unfold PutC at *
    rw [hX,htake,List.flatMap_append]
    simp [itB]
   have hok2:∀ x∈s.l.take (i+1),itOk x = true:=by
    intro x hx
    rw [htake] at hx
    rcases List.mem_append.1 hx with h | h
    ·exact hok x h
    ·rw [List.mem_singleton.1 h];exact ho
   have a1:=leadd4 X 4 (textL s.l[i]).length (.inr rfl) (by omega)
   have hw4:IntKind.u64.wrap ((textL s.l[i]).length:Int) = ((textL s.l[i]).length:Int):=by rw [wrap_u64];omega
   have hz:¬ (textL s.l[i]).length = 0:=by omega
   generalize textL s.l[i] = t at *
   generalize s.l[i] = x at *
   have hb:X.length+4+t.length≤140737488355328:=by omega
   have hl4:(leB 4 t.length).length = 4:=leB_len _ _
   generalize leB 4 t.length = z at *
   replace a1:call cx 63 [.vsl false (ofBytes X) n,.int .i64 4,.int .u64 (t.length:Nat)] [] = some (.osl 0 (n+4) 0 (n+4) 1,[some (ofBytes (X ++ z))]):=by rw [hn];exact a1
   have hb2:n+4+t.length≤140737488355328:=by omega
   rcases hH with ⟨t0,rfl,rfl⟩ | ⟨t0,u0,rfl,rfl⟩ <;> simp [-It.ea,k5,k1,k23,k24,k25,hlt',Sl.nn hlt,hea,t1,hw,hw4,hz,maxBytes,htX,a1,hb2,hnX,hl4]
   all_goals exact ⟨i+1,by omega,by omega,_,hX2,hok2,⟨n+4+t.length,by rw [List.length_append,List.length_append,hnX,hl4],.inr ⟨_,_,rfl,by rw [ofBytes_append (X ++ z) t]⟩⟩,by omega⟩
 ·have hlt':¬ (i:Int) < (s.l.length:Int):=by omega
  have hit:s.l.take i = s.l:=List.take_of_length_le (by omega)
  rw [hit] at hok
  have hall:s.l.all itOk = true:=List.all_eq_true.2 hok
  have hp:putOk s.l m.l = true:=by unfold putOk;rw [decide_eq_true h64,hrm,hall];rfl
  have hb:=bytes_ev m hmn hm
  have hbS:bytesS m.l = .of (mksB m.l):=by unfold bytesS;rw [hrm];rfl
  rw [hbS] at hb
  have hraw:X ++ mksB m.l = rawB s.l m.l:=by unfold PutC at hX;rw [hX,hit];unfold rawB;simp
  have hml:(mksB m.l).length≤161:=by rw [mksB_len];have:=rightM_le hrm;omega
  have hc:=cseal_ev (.of (X ++ mksB m.l)) (by simp;omega)
  have hS:putS s.l m.l = if (sealB (X ++ mksB m.l)).length≤65536 then .of (sealB (X ++ mksB m.l)) else .none:=by
   unfold putS
   rw [hp,hraw,Bool.true_and]
   by_cases h:(sealB (rawB s.l m.l)).length≤65536
   ·rw [decide_eq_true h,if_pos rfl,if_pos h]
   ·rw [decide_eq_false h,if_neg (by decide),if_neg h]
  rw [hS]
  simp only [Sl.of_l,Sl.of_nil] at hc hb
  generalize mksB m.l = y at *
  have hmx:X.length+y.length≤140737488355328:=by omega
  have hsl:=sealB_len (X ++ y)
  generalize sealB (X ++ y) = z at *
  rw [ofBytes_append,List.length_append,← hn] at hc
  have hmn2:n+y.length≤140737488355328:=by omega
  have htk:List.take (n+y.length) (ofBytes X ++ ofBytes y) = ofBytes X ++ ofBytes y:=List.take_of_length_le (by simp;omega)
  by_cases h6:z.length≤65536
  ·have h6':¬ (65536:Int) < (z.length:Int):=by omega
   rw [if_pos h6]
   rcases hH with ⟨t0,rfl,rfl⟩ | ⟨t0,u0,rfl,rfl⟩ <;> simp [k5,k1,k23,k24,k25,hlt',hb,hc,maxBytes,h6',htk,hmn2,hnX]
  ·have h6':(65536:Int) < (z.length:Int):=by omega
   rw [if_neg h6]
   rcases hH with ⟨t0,rfl,rfl⟩ | ⟨t0,u0,rfl,rfl⟩ <;> simp [k5,k1,k23,k24,k25,hlt',hb,hc,maxBytes,h6',htk,hmn2,hnX,Sl.none]
end Go.Ev.S
namespace Go.Ev.S
open Go Go.Proofs Go.Ev
end Go.Ev.S
namespace Go.Ev.S
open Go Go.Proofs Go.Ev
end Go.Ev.S
namespace Go.Ev.S
open Go Go.Proofs Go.Ev
end Go.Ev.S
namespace Go.Ev.S
open Go Go.Proofs Go.Ev
end Go.Ev.S
namespace Go.Ev.S
open Go Go.Proofs Go.Ev
theorem wrapU_isU64 (z:Int):isU64 (IntKind.u64.wrap z):=by
 simp only [IntKind.wrap,IntKind.signed,IntKind.bits]
 simp
 unfold isU64
 omega
def MksOk (f:List Mk):Prop:= ∀ m∈f,m.Ok
theorem rmoreU (v n:Int):isU64 (rmoreM v n):=by
 unfold rmoreM
 split
 ·unfold u64max isU64
  decide
 ·exact wrapU_isU64 _
theorem rstep_isOk {m:Mk} {x:It} (hm:m.Ok) (hx:x.Ok) (o:Bool):(rstepM m x o).Ok:=by
 unfold rstepM
 split
 ·exact ⟨hx.til,rmoreU _ _,hm.over⟩
 ·refine ⟨hx.rc.seq,hm.lost,?_⟩
  simp only
  split
  ·exact rmoreU _ _
  ·exact hm.over
theorem rsetGo_mem (m:Mk):∀ (l:List Mk) (i:Bool) (y:Mk),y∈(rsetGo m l i).1→y = m∨y∈l
 | [],i,y,h=>by simp [rsetGo] at h
 | a :: l,i,y,h=>by
  have ih:=rsetGo_mem m l
  simp only [rsetGo,List.mem_append] at h
  rcases h with (h | h) | h
  ·split at h
   ·exact .inl (List.mem_singleton.1 h)
   ·cases h
  ·split at h
   ·exact .inr (List.mem_cons.2 (.inl (List.mem_singleton.1 h)))
   ·cases h
  ·rcases ih _ _ h with h | h
   ·exact .inl h
   ·exact .inr (List.mem_cons_of_mem _ h)
theorem rtake_ok {f:List Mk} {x:It} (hf:MksOk f) (hx:x.Ok) (o:Bool):MksOk (rtakeL f x o):=by
 intro y hy
 unfold rtakeL rsetL at hy
 rcases List.mem_append.1 hy with h | h
 ·rcases rsetGo_mem _ _ _ _ h with rfl | h
  ·exact rstep_isOk (getM_ok hf x.id) hx o
  ·exact hf y h
 ·split at h
  ·cases h
  ·rw [List.mem_singleton.1 h]
   exact rstep_isOk (getM_ok hf x.id) hx o
@[simp] theorem It.s17 (m:It) (x:Int):setRange (Enc.cells m) 17 [.int .u64 x] = Enc.cells { m with fr:=x }:=by simp [setRange,It.cells,List.take_append,List.drop_append,drop_bytes,List.take_of_length_le]
@[simp] theorem It.s18 (m:It) (x:Int):setRange (Enc.cells m) 18 [.int .u64 x] = Enc.cells { m with til:=x }:=by simp [setRange,It.cells,List.take_append,List.drop_append,drop_bytes,List.take_of_length_le]
@[simp] theorem It.s19 (m:It) (x:Int):setRange (Enc.cells m) 19 [.int .u64 x] = Enc.cells { m with rc:={ m.rc with seq:=x } }:=by simp [setRange,It.cells,List.take_append,List.drop_append,drop_bytes,List.take_of_length_le]
end Go.Ev.S
namespace Go.Ev.S
open Go Go.Proofs Go.Ev
def sameIs:List It→List It→Bool
 | [],[]=>true
 | x :: xs,y :: ys=>sameI x y && sameIs xs ys
 | _,_=>false
theorem sameIs_len:∀ {x y:List It},sameIs x y = true→x.length = y.length
 | [],[],_=>rfl
 | _ :: xs,_ :: ys,h=>by
  rw [sameIs,Bool.and_eq_true] at h
  rw [List.length_cons,List.length_cons,sameIs_len h.2]
 | [],_ :: _,h=>by cases h
 | _ :: _,[],h=>by cases h
set_option maxHeartbeats 2000000 in
theorem rsames_ev [MaxL] (a b:Sl It) (ha:∀ x∈a.l,x.rc.fields.l.length < 1000000) (hb:∀ x∈b.l,x.rc.fields.l.length < 1000000) (han:a.l.length < 1000000):call cx 15 [(.vsl a.nil (encs a.l) a.l.length),(.vsl b.nil (encs b.l) b.l.length)] [] = some (.bool (sameIs a.l b.l),[]):=by
 refine call_run Tryz.func15 rfl ⟨rfl,rfl⟩ ?_
 by_cases hl:a.l.length = b.l.length
 case neg =>
  have hf:sameIs a.l b.l = false:=by
   cases h:sameIs a.l b.l with
   | false=>rfl
   | true=>exact absurd (sameIs_len h) hl
  have hl':¬ (a.l.length:Int) = (b.l.length:Int):=by omega
  simp [Tryz.f15,hl',hf]
 obtain ⟨r,hr⟩:∃ r,sameIs a.l b.l = r:=⟨_,rfl⟩
 rw [hr]
 simp [Tryz.f15,hl]
 refine Run.loopThen (fun (i:Nat) e H'=>i≤b.l.length∧sameIs (a.l.drop i) (b.l.drop i) = r∧look e 0 = some (.vsl a.nil (encs a.l) a.l.length)∧look e 1 = some (.vsl b.nil (encs b.l) b.l.length)∧look e 5 = some (.int .i64 (i:Nat))∧H' = []) (fun i=>b.l.length - i) 0 ⟨Nat.zero_le _,by simpa using hr,by simp [hl],by simp,by simp,rfl⟩ ?_
 rintro i e H' ⟨hi,hR,k0,k1,k5,rfl⟩
 by_cases hlt:i < b.l.length
 ·have hlt':(i:Int) < (b.l.length:Int):=by omega
  have hla:i < a.l.length:=by omega
  have hw:IntKind.i64.wrap ((i:Int)+1) = ((i+1:Nat):Int):=by rw [wrap_i64] <;> omega
  have hs:=ritem_ev a.l[i] b.l[i] (ha _ (List.getElem_mem hla)) (hb _ (List.getElem_mem hlt))
  rw [List.drop_eq_getElem_cons hla,List.drop_eq_getElem_cons hlt,sameIs] at hR
  have hea:List.drop (i * 39) (encs a.l) = Enc.cells a.l[i] ++ encs (a.l.drop (i+1)):=It.ea hla
  have heb:List.drop (i * 39) (encs b.l) = Enc.cells b.l[i] ++ encs (b.l.drop (i+1)):=It.ea hlt
  have n1:=Sl.nn hla
  have n2:=Sl.nn hlt
  generalize a.l[i] = x at *
  generalize b.l[i] = y at *
  cases hx:sameI x y with
  | true =>
   rw [hx] at hs hR
   simp [-It.ea,k0,k1,k5,hl,hlt',n1,n2,hea,heb,hs,hw]
   exact ⟨i+1,by omega,by omega,by simpa using hR,by omega⟩
  | false =>
   rw [hx] at hs hR
   simp [-It.ea,k0,k1,k5,hl,hlt',n1,n2,hea,heb,hs,← hR]
 ·have hi2:i = b.l.length:=by omega
  rw [List.drop_eq_nil_of_le (by omega),List.drop_eq_nil_of_le (by omega)] at hR
  replace hR:true = r:=hR
  subst hR
  simp [k0,k1,k5,hl,hlt]
theorem sames_norm:∀ {l:List It},(∀ x∈l,sameI (normI x) x = true)→sameIs (l.map normI) l = true
 | [],_=>rfl
 | x :: l,h=>by
  rw [List.map_cons,sameIs,h x (List.mem_cons_self ..),sames_norm fun y hy=>h y (List.mem_cons_of_mem _ hy)]
  rfl
end Go.Ev.S
namespace Go.Ev.S
open Go Go.Proofs Go.Ev
def finE (L:List It):List Mk:=L.foldl (fun f x=>takeL f x false) []
theorem finE_snoc {L:List It} {n:Nat} (hn:n < L.length):finE (L.take (n+1)) = takeL (finE (L.take n)) L[n] false:=by
 rw [List.take_succ_eq_append_getElem hn]
 unfold finE
 rw [List.foldl_append]
 rfl
theorem seq_lt {L:List It} (h:SeqR L) {n:Nat} (hn:n < L.length):∀ x∈L.take n,x.id = L[n].id→lstN x < fstN L[n]:=fun x hx he=>by
 obtain ⟨i,hil,hix⟩:=List.mem_iff_getElem.1 hx
 rw [List.length_take] at hil
 rw [List.getElem_take] at hix
 have:=h.rise i n (by omega) hn (by rw [hix];exact he)
 rwa [hix] at this
theorem finE_mark {L:List It} (h:SeqR L):∀ n,n≤L.length→MarkI (finE (L.take n)) (L.take n)
 | 0,_=>by rw [List.take_zero];exact markI_nil
 | n+1,hn=>by
  have hlt:n < L.length:=by omega
  rw [finE_snoc hlt,List.take_succ_eq_append_getElem hlt]
  obtain ⟨j,j1,j2,j3,j4,-⟩:=h.num L[n] (List.getElem_mem hlt)
  exact markI_add (finE_mark h n (by omega)) false ⟨j,j1,j2⟩ (seq_lt h hlt) j4
theorem finE_goes {L:List It} (h:SeqR L) {n:Nat} (hn:n < L.length):takeC (finE (L.take n)) L[n] = 0:=by
 obtain ⟨j,j1,j2,j3,j4,-⟩:=h.num L[n] (List.getElem_mem hn)
 exact take_goes (finE_mark h n (by omega)) (seq_lt h hn) j3 j4
theorem finE_ok {L:List It} (h:SeqR L) (ho:∀ x∈L,x.Ok):∀ n,n≤L.length→∀ m∈finE (L.take n),m.Ok
 | 0,_=>fun m hm=>by rw [List.take_zero] at hm;cases hm
 | n+1,hn=>by
  have hlt:n < L.length:=by omega
  have ih:=finE_ok h ho n (by omega)
  rw [finE_snoc hlt,take_law false ih (ho _ (List.getElem_mem hlt)) (finE_goes h hlt)]
  exact rtake_ok ih (ho _ (List.getElem_mem hlt)) false
theorem finE_len {L:List It} (h:SeqR L) (n:Nat) (hn:n≤L.length):(finE (L.take n)).length≤3:=mark_len (finE_mark h n hn).rises (finE_mark h n hn).ids
theorem finE_right {L:List It} (h:SeqR L) (n:Nat) (hn:n≤L.length):rightM (finE (L.take n)) = true:=by
 have:=finE_len h n hn
 unfold rightM
 rw [decide_eq_true (by omega),(finE_mark h n hn).rises]
 rfl
theorem normT (m:List Mk) (x:It):takeC m (normI x) = takeC m x∧takeL m (normI x) false = takeL m x false:=by
 unfold normI
 split
 ·rename_i h
  unfold takeC takeL goesM stepM
  simp [h]
 ·exact ⟨rfl,rfl⟩
theorem foldT_made {L:List It} (h:SeqR L):∀ (n a:Nat),a+n≤L.length→foldT (((L.drop a).take n).map normI) (finE (L.take a)) = some (finE (L.take (a+n)))
 | 0,a,_=>by simp [foldT]
 | n+1,a,hn=>by
  have hlt:a < L.length:=by omega
  rw [List.drop_eq_getElem_cons hlt,List.take_succ_cons,List.map_cons,foldT,(normT _ _).1,(normT _ _).2,if_pos (finE_goes h hlt),← finE_snoc hlt,foldT_made h n (a+1) (by omega)]
  congr 3
  omega
theorem leM_made {L:List It} (h:SeqR L) (ho:∀ x∈L,x.Ok) {a b:Nat} (hab:a≤b) (hb:b≤L.length):leM (finE (L.take a)) (finE (L.take b)) = true:=by
 have h1:=finE_mark h a (by omega)
 have h2:=finE_mark h b hb
 have o2:=finE_ok h ho b hb
 refine List.all_eq_true.2 fun m hm=>?_
 rw [decide_eq_true_eq]
 have e:getM (finE (L.take a)) m.id = m:=by rw [getM_fnd,fnd_mem h1.rises hm];rfl
 rcases h1.seq m.id with h0 | ⟨x,hx,hi,hs⟩
 ·rw [e] at h0
  have:=(getM_ok o2 m.id).seq
  unfold isU64 at this
  omega
 ·rw [e] at hs
  rw [← hs,← hi]
  exact h2.last x (by
   obtain ⟨i,hil,hix⟩:=List.mem_iff_getElem.1 hx
   rw [List.length_take] at hil
   rw [List.getElem_take] at hix
   rw [← hix,List.mem_take_iff_getElem]
   exact ⟨i,by omega,rfl⟩)
end Go.Ev.S
namespace Go.Ev.S
open Go Go.Proofs Go.Ev
theorem headL_len (L:List (List UInt8)):(headL L).length = (L.map fun s=>s.length+1).sum:=by
 induction L with
 | nil=>rfl
 | cons a L ih =>
  have:headL (a :: L) = (a ++ [10]) ++ headL L:=rfl
  rw [this,List.length_append,ih]
  simp
theorem textL_small {x:It} (h:MadeI x):(textL x).length≤660:=by
 obtain ⟨hi,ho,h4,hp⟩:=h
 unfold textL
 cases hg:x.gap with
 | true =>
  rw [if_pos rfl]
  have l1:=dec_len x.fr.toNat
  have l2:=dec_len x.til.toNat
  have l3:=hexs_len x.id.l
  rw [x.id.h] at l3
  unfold textG kGap kId
  simp
  omega
 | false =>
  rw [if_neg (by decide)]
  have h2:=bodyL_le x.rc.fields.l 54 fun p hq=>by
   have:=mkOk_len (hp p hq)
   have h1:=pairL_len p
   omega
  have h3:x.rc.fields.l.length * 54≤4 * 54:=Nat.mul_le_mul_right _ h4
  have l0:=(showL_len (cOfP x.id x.rc)).2
  have l4:=hexs_len x.id.l
  have l5:=hexs_len x.rc.boot.l
  rw [x.id.h] at l4
  rw [x.rc.boot.h] at l5
  have d1:=dec_len x.rc.real.toNat
  have d2:=dec_len x.rc.mono.toNat
  have d3:=dec_len x.rc.seq.toNat
  unfold textR
  simp only [List.length_append,List.length_cons,List.length_nil,headL_len,sixL,List.map_cons,List.map_nil,List.sum_cons,List.sum_nil,kPlace,kReal,kMono,kSeq,kId,kBoot]
  omega
theorem sum_small {L:List It} (h:∀ x∈L,MadeI x):(L.map fun x=>4+(textL x).length).sum≤L.length * 664:=by
 induction L with
 | nil=>simp
 | cons a L ih =>
  have h1:=ih fun x hx=>h x (List.mem_cons_of_mem _ hx)
  have h2:=textL_small (h a (List.mem_cons_self ..))
  rw [List.map_cons,List.sum_cons,List.length_cons,Nat.add_mul]
  omega
theorem made_all {L:List It} (h:∀ x∈L,MadeI x):L.all itOk = true:=List.all_eq_true.2 fun x hx=>(h x hx).2.1
theorem put_made {L:List It} {m:List Mk} (h:∀ x∈L,MadeI x) (hl:L.length≤64) (hr:rightM m = true):putOk L m = true∧putS L m = .of (sealB (rawB L m))∧(sealB (rawB L m)).length = 11+40 * m.length+(L.map fun x=>4+(textL x).length).sum∧(sealB (rawB L m)).length≤65536:=by
 have h1:putOk L m = true:=by
  unfold putOk
  rw [decide_eq_true hl,hr,made_all h]
  rfl
 have h2:=raw_len L m
 have h3:=sum_small h
 have h4:=rightM_le hr
 have h5:L.length * 664≤64 * 664:=Nat.mul_le_mul_right _ hl
 have h6:(sealB (rawB L m)).length≤65536:=by omega
 refine ⟨h1,?_,h2,h6⟩
 unfold putS
 rw [h1,decide_eq_true h6]
 rfl
theorem got_made {L:List It} {m:List Mk} (h:∀ x∈L,MadeI x) (hl:L.length≤64) (hr:rightM m = true) (hm:∀ x∈m,x.Ok):getP (sealB (rawB L m)) = (L.map normI,m,0):=by
 rw [getP_seal]
 exact getX_raw (put_made h hl hr).1 (fun x hx=>(h x hx).1) hm
end Go.Ev.S
namespace Go.Ev.S
open Go Go.Proofs Go.Ev
def helloS (s:RSt) (e:Int):RSt:=if s.ep < e then ⟨e,0,s.its,s.mks⟩ else s
theorem shello_ev [MaxL] (s:RSt) (hm:s.mks.l.length≤1000000) (hok:∀ m∈s.mks.l,m.Ok) (d:D) (T:Heap) (hsh:Shp s.its d T) (e n:Int) (o:Sl UInt8) (ho:o.l.length = 0) :
  call cx 35 [.optr 0 4 0,.agg [.str helloL,.int .u64 e,.int .u64 n,(.vsl o.nil (ofBytes o.l) o.l.length)]] (some (s.A d) :: T) = some (.tup [.int .i64 200,(.vsl (bytesS s.mks.l).nil (ofBytes (bytesS s.mks.l).l) (bytesS s.mks.l).l.length)],some ((helloS s e).A d) :: T):=by
 have h1:=bytes_ev s.mks (by omega) hok
 obtain ⟨ep,la,its,mk⟩:=s
 unfold helloS
 simp only [RSt.A] at hsh h1 hm ⊢
 generalize bytesS mk.l = z at *
 rcases hsh with ⟨rfl,rfl,rfl⟩ | ⟨hne,n1,k1,hn1,hk1,rfl,rfl⟩
 ·refine call_run Tryz.func35 rfl ⟨rfl,rfl⟩ ?_
  by_cases h:ep < e
  ·simp [Tryz.f35,h1,h,ho]
  ·simp [Tryz.f35,h1,h,ho]
 ·refine call_run Tryz.func35 rfl ⟨rfl,rfl⟩ ?_
  by_cases h:ep < e
  ·simp [Tryz.f35,h1,h,ho]
  ·simp [Tryz.f35,h1,h,ho]
theorem bytesS_len (l:List Mk):(bytesS l).l.length≤1000:=by
 unfold bytesS
 split
 ·rename_i h
  have:=rightM_le h
  rw [Sl.of_l,mksB_len]
  omega
 ·simp
theorem shear_hello [MaxL] (s:RSt) (hm:s.mks.l.length≤1000000) (hok:∀ m∈s.mks.l,m.Ok) (d:D) (T:Heap) (hsh:Shp s.its d T) (b:Sl UInt8) (hb:b.l.length≤90000) (x n:Int) (o:Sl UInt8) (ho:o.l.length = 0) (hr:rdRq b.l = (⟨helloL,x,n,o⟩,0)) (hlt:s.ep < x) (hx:isU64 x) (hnn:isU64 n) :
  call cx 12 [.optr 0 4 0,(.vsl b.nil (ofBytes b.l) b.l.length)] (some (s.A d) :: T) = some ((.vsl (putRs ⟨200,x,n,bytesS s.mks.l⟩).nil (ofBytes (putRs ⟨200,x,n,bytesS s.mks.l⟩).l) (putRs ⟨200,x,n,bytesS s.mks.l⟩).l.length),some ((⟨x,0,s.its,s.mks⟩:RSt).A d) :: T):=by
 have h1:=rdrq_ev b hb
 rw [hr] at h1
 have hl:=bytesS_len s.mks.l
 have h2:=putrs_ev ⟨200,x,n,bytesS s.mks.l⟩ hx hnn (by show (bytesS s.mks.l).l.length≤_;omega)
 have h3:=shello_ev s hm hok d T hsh x n o ho
 unfold helloS at h3
 rw [if_pos hlt] at h3
 obtain ⟨ep,la,its,mk⟩:=s
 simp only [Rq.cells,Rs.cells,RSt.A] at h1 h2 h3 hsh hlt ⊢
 generalize putRs ⟨200,x,n,bytesS mk.l⟩ = z at *
 generalize bytesS mk.l = w at *
 have hnl:¬ x < ep:=by omega
 have hs:(helloL == [47,104,101,108,108,111]) = true:=by decide
 rcases hsh with ⟨rfl,rfl,rfl⟩ | ⟨hne,n1,k1,hn1,hk1,rfl,rfl⟩
 ·refine call_run Tryz.func12 rfl ⟨rfl,rfl⟩ ?_
  simp [Tryz.f12,h1,h2,h3,hnl,hs]
 ·refine call_run Tryz.func12 rfl ⟨rfl,rfl⟩ ?_
  simp [Tryz.f12,h1,h2,h3,hnl,hs]
theorem batR_code (s:RSt) (q:Rq):(batR s q).1 = 200∨(batR s q).1 = 400∨(batR s q).1 = 409:=by
 unfold batR batG
 repeat' split
 all_goals simp
theorem batch_step [MaxL] (s:RSt) (hep:s.ep = 7) (hm:s.mks.l.length≤1000000) (hL:s.its.length≤1000000000) (d:D) (T:Heap) (hsh:Shp s.its d T) (m:Nat) (hm2:m < 1000) (B:List UInt8) (hB:B.length≤65536) (c:Int) (s':RSt) (hR:batR s ⟨batchL,7,m,.of B⟩ = (c,s')) :
  ∃ (M Rb:Sl UInt8) (d':D) (T':Heap),call cx 28 [.agg [.str [47,98,97,116,99,104],.int .u64 7,.int .u64 m,.vsl false (ofBytes B) B.length]] [] = some ((.vsl M.nil (ofBytes M.l) M.l.length),[]) ∧
   call cx 12 [.optr 0 4 0,(.vsl M.nil (ofBytes M.l) M.l.length)] (some (s.A d) :: T) = some ((.vsl Rb.nil (ofBytes Rb.l) Rb.l.length),some (s'.A d') :: T')∧Shp s'.its d' T' ∧
   call cx 21 [(.vsl Rb.nil (ofBytes Rb.l) Rb.l.length)] [] = some (.tup [.agg [.int .i64 c,.int .u64 7,.int .u64 m,.vsl false [] 0],.int .i64 0],[]):=by
 have u7:isU64 7:=by unfold isU64;omega
 have um:isU64 m:=by unfold isU64;omega
 have hp:batchL = helloL∨batchL = batchL:=.inr rfl
 have h1:=putrq_ev ⟨batchL,7,m,.of B⟩ u7 um (by show batchL.length≤100;decide) (by show (Sl.of B).l.length≤_;rw [Sl.of_l];omega)
 rw [putrq_eq batchL hp 7 m (.of B) (by rw [Sl.of_l];exact hB)] at h1
 have hb:=rdRq_back 7 m (by omega) (by omega) B hB batchL hp
 have hl:=rq_len batchL hp 7 m B
 obtain ⟨r,h2,d',T',hs',rfl⟩:=hear_batch s hm hL d T hsh (.of (beginL batchL ++ (numsL 7 m B.length ++ B))) (by rw [Sl.of_l];omega) 7 m (.of B) (by rw [Sl.of_l];exact hb) (by omega) (by rw [hep];exact u7) um (by rw [Sl.of_l];omega)
 have hcode:=batR_code s ⟨batchL,7,m,.of B⟩
 rw [hR] at h2 hs' hcode
 simp only at h2 hs' hcode
 rw [hep,putrs_eq c hcode 7 m .none (by simp)] at h2
 have hb2:=rdRs_back 7 m (by omega) (by omega) [] (by simp) c hcode
 have hl2:=rs_len c 7 m []
 simp only [List.length_nil] at hb2 hl2
 have h3:=rdrs_ev (.of (statusL c ++ (numsL 7 m 0 ++ []))) (by rw [Sl.of_l];omega)
 rw [Sl.of_l,hb2] at h3
 refine ⟨.of (beginL batchL ++ (numsL 7 m B.length ++ B)),.of (statusL c ++ (numsL 7 m 0 ++ [])),d',T',?_,h2,hs',?_⟩
 ·simp [Rq.cells] at h1
  simp
  exact h1
 ·have q2:(Int.toNat (m:Int)) = m:=rfl
  simpa [Rs.cells,q2] using h3
theorem made_itsB' {L:List It} (h:∀ x∈L,MadeI x):ItsB L:=fun x hx=>by
 obtain ⟨h1,h2,h3,h4⟩:=h x hx
 refine ⟨h1,by omega,fun p hp=>?_⟩
 have:=mkOk_len (h4 p hp)
 exact ⟨by omega,by omega⟩
theorem part_put [MaxL] {L:List It} (h:SeqR L) (hL:∀ x∈L,MadeI x) (h40:L.length≤40) {a n:Nat} (han:a+n≤L.length) (E:Sl Mk) (hE:E.l = finE (L.take (a+n))) (nl:Bool) (hnl:nl = true→L = []) :
  ∃ B:List UInt8,B.length≤65536∧call cx 31 [.vsl nl (encs ((L.drop a).take n)) n,(.vsl E.nil (encs E.l) E.l.length)] [] = some (.vsl false (ofBytes B) B.length,[])∧getP B = (((L.drop a).take n).map normI,finE (L.take (a+n)),0):=by
 have hC:∀ x∈(L.drop a).take n,MadeI x:=fun x hx=>hL x (List.mem_of_mem_drop (List.mem_of_mem_take hx))
 have hCl:((L.drop a).take n).length = n:=by rw [List.length_take,List.length_drop];omega
 have hr:=finE_right h (a+n) han
 have hok:=finE_ok h (fun x hx=>(hL x hx).1) (a+n) han
 obtain ⟨p1,p2,p3,p4⟩:=put_made hC (by omega) hr
 have hp:=wput_ev ⟨nl,(L.drop a).take n,fun hn=>by rw [hnl hn];simp⟩ E (made_itsB' hC) (by rw [hE];exact hok) (by rw [hE];have:=finE_len h (a+n) han;omega)
 have hg:=got_made hC (by omega) hr hok
 simp only [hE,p2] at hp
 refine ⟨sealB (rawB ((L.drop a).take n) (finE (L.take (a+n)))),p4,?_,hg⟩
 simp only [hCl,Sl.of_l,Sl.of_nil] at hp
 rw [hE]
 exact hp
end Go.Ev.S
namespace Go.Ev.S
open Go Go.Proofs Go.Ev
theorem Shp.one {L:List It} {d d':D} {T T':Heap} (h:Shp L d T) (h':Shp L d' T'):d = d'∧T = T':=by
 rcases h with ⟨h0,rfl,rfl⟩ | ⟨h0,n,k,rfl,rfl,rfl,rfl⟩
 ·rcases h' with ⟨_,rfl,rfl⟩ | ⟨h1,_⟩
  ·exact ⟨rfl,rfl⟩
  ·exact absurd h0 h1
 ·rcases h' with ⟨h1,_⟩ | ⟨_,n',k',rfl,rfl,rfl,rfl⟩
  ·exact absurd h1 h0
  ·exact ⟨rfl,rfl⟩
def stW (L:List It) (a i:Nat):RSt:=⟨7,i,(L.take a).map normI,Sl.grown (finE (L.take a))⟩
theorem stW_take {L:List It} (h:SeqR L) (ho:∀ x∈L,x.Ok) {a n i:Nat} (han:a+n≤L.length) (hi:i < 1000) {B:List UInt8} (hB:getP B = (((L.drop a).take n).map normI,finE (L.take (a+n)),0)) :
  batR (stW L a i) ⟨batchL,7,((i+1:Nat):Int),.of B⟩ = (200,stW L (a+n) (i+1)):=by
 have hw:IntKind.u64.wrap ((i:Int)+1) = ((i+1:Nat):Int):=by rw [wrap_u64] <;> omega
 unfold batR stW
 simp only
 rw [if_neg (by omega),if_neg (by omega),hw,if_neg (by omega)]
 unfold batG
 simp only [Sl.of_l,hB,Sl.grown_l]
 rw [if_neg (by decide),foldT_made h n a han]
 simp only
 rw [leM_made h ho (Nat.le_refl _) han,leM_made h ho (Nat.le_add_right a n) han]
 simp only [Bool.and_self,if_true,← List.map_append,← List.take_add]
theorem stW_refuse (L:List It) {a i o:Nat} (hi:i < 1000) (ho:i+1 < o) (B:List UInt8):batR (stW L a i) ⟨batchL,7,(o:Int),.of B⟩ = (409,stW L a i):=by
 have hw:IntKind.u64.wrap ((i:Int)+1) = ((i+1:Nat):Int):=by rw [wrap_u64] <;> omega
 unfold batR stW
 simp only
 rw [if_neg (by omega),if_neg (by omega),hw,if_pos (by omega)]
theorem whole_step [MaxL] {L:List It} (h:SeqR L) (hL:∀ x∈L,MadeI x) (h40:L.length≤40) {a n i o:Nat} (han:a+n≤L.length) (hi:i < 100) (ho:i+1 < o) (ho2:o < 1000) (E:Sl Mk) (hE:E.l = finE (L.take (a+n))) (nl:Bool) (hnl:nl = true→L = []) (d:D) (T:Heap) (hsh:Shp (stW L a i).its d T) :
  ∃ (B M1 M2 R1 R2:Sl UInt8) (d':D) (T':Heap),call cx 31 [.vsl nl (encs ((L.drop a).take n)) n,(.vsl E.nil (encs E.l) E.l.length)] [] = some ((.vsl B.nil (ofBytes B.l) B.l.length),[]) ∧
   call cx 28 [.agg [.str [47,98,97,116,99,104],.int .u64 7,.int .u64 o,(.vsl B.nil (ofBytes B.l) B.l.length)]] [] = some ((.vsl M1.nil (ofBytes M1.l) M1.l.length),[]) ∧
   call cx 12 [.optr 0 4 0,(.vsl M1.nil (ofBytes M1.l) M1.l.length)] (some ((stW L a i).A d) :: T) = some ((.vsl R1.nil (ofBytes R1.l) R1.l.length),some ((stW L a i).A d) :: T) ∧
   call cx 21 [(.vsl R1.nil (ofBytes R1.l) R1.l.length)] [] = some (.tup [.agg [.int .i64 409,.int .u64 7,.int .u64 o,.vsl false [] 0],.int .i64 0],[]) ∧
   call cx 28 [.agg [.str [47,98,97,116,99,104],.int .u64 7,.int .u64 ((i+1:Nat):Int),(.vsl B.nil (ofBytes B.l) B.l.length)]] [] = some ((.vsl M2.nil (ofBytes M2.l) M2.l.length),[]) ∧
   call cx 12 [.optr 0 4 0,(.vsl M2.nil (ofBytes M2.l) M2.l.length)] (some ((stW L a i).A d) :: T) = some ((.vsl R2.nil (ofBytes R2.l) R2.l.length),some ((stW L (a+n) (i+1)).A d') :: T')∧Shp (stW L (a+n) (i+1)).its d' T' ∧
   call cx 21 [(.vsl R2.nil (ofBytes R2.l) R2.l.length)] [] = some (.tup [.agg [.int .i64 200,.int .u64 7,.int .u64 ((i+1:Nat):Int),.vsl false [] 0],.int .i64 0],[]):=by
 obtain ⟨B,hB,hp,hg⟩:=part_put h hL h40 han E hE nl hnl
 have hm:(stW L a i).mks.l.length≤1000000:=by
  show (finE (L.take a)).length≤_
  have:=finE_len h a (by omega)
  omega
 have hits:(stW L a i).its.length≤1000000000:=by
  show ((L.take a).map normI).length≤_
  rw [List.length_map,List.length_take]
  omega
 obtain ⟨M1,R1,d1,T1,p1,p2,p3,p4⟩:=batch_step (stW L a i) rfl hm hits d T hsh o ho2 B hB 409 _ (stW_refuse L (by omega) ho B)
 obtain ⟨M2,R2,d2,T2,q1,q2,q3,q4⟩:=batch_step (stW L a i) rfl hm hits d T hsh (i+1) (by omega) B hB 200 _ (stW_take h (fun x hx=>(hL x hx).1) han (by omega) hg)
 obtain ⟨rfl,rfl⟩:=hsh.one p3
 exact ⟨.of B,M1,M2,R1,R2,d2,T2,hp,p1,p2,p4,q1,q2,q3,q4⟩
end Go.Ev.S
namespace Go.Ev.S
open Go Go.Proofs Go.Ev
theorem whole_hello [MaxL]:∃ M R:Sl UInt8,call cx 28 [.agg [.str [47,104,101,108,108,111],.int .u64 7,.int .u64 0,.vsl true [] 0]] [] = some ((.vsl M.nil (ofBytes M.l) M.l.length),[]) ∧
  call cx 12 [.optr 0 4 0,(.vsl M.nil (ofBytes M.l) M.l.length)] [some [.int .u64 0,.int .u64 0,.vsl true [] 0,.vsl true [] 0]] = some ((.vsl R.nil (ofBytes R.l) R.l.length),[some [.int .u64 7,.int .u64 0,.vsl true [] 0,.vsl true [] 0]]):=by
 have u7:isU64 7:=by unfold isU64;omega
 have u0:isU64 0:=by unfold isU64;omega
 have hp:helloL = helloL∨helloL = batchL:=.inl rfl
 have h1:=putrq_ev ⟨helloL,7,0,.none⟩ u7 u0 (by show helloL.length≤100;decide) (by simp)
 rw [putrq_eq helloL hp 7 0 .none (by simp)] at h1
 have hb:=rdRq_back 7 0 (by omega) (by omega) [] (by simp) helloL hp
 have hl:=rq_len helloL hp 7 0 []
 have h2:=shear_hello ⟨0,0,[],.none⟩ (by simp) (by simp) (.vsl true [] 0) [] (.inl ⟨rfl,rfl,rfl⟩) (.of (beginL helloL ++ (numsL 7 0 0 ++ []))) (by rw [Sl.of_l];simp only [List.length_nil] at hl;omega) 7 0 (.of []) (by simp) (by rw [Sl.of_l];exact hb) (by show (0:Int) < 7;omega) u7 u0
 refine ⟨.of (beginL helloL ++ (numsL 7 0 0 ++ [])),_,?_,h2⟩
 simp [Rq.cells] at h1
 simp
 exact h1
theorem whole_end [MaxL] {L:List It} (h:SeqR L) (hL:∀ x∈L,MadeI x) {a:Nat} (ha:a≤L.length) (i:Nat) (d:D) (T:Heap) (hsh:Shp (stW L a i).its d T) :
  ∃ (M R t:Sl UInt8) (k:Nat),call cx 28 [.agg [.str [47,104,101,108,108,111],.int .u64 8,.int .u64 3,.vsl true [] 0]] [] = some ((.vsl M.nil (ofBytes M.l) M.l.length),[]) ∧
   call cx 12 [.optr 0 4 0,(.vsl M.nil (ofBytes M.l) M.l.length)] (some ((stW L a i).A d) :: T) = some ((.vsl R.nil (ofBytes R.l) R.l.length),some ((⟨8,0,(stW L a i).its,(stW L a i).mks⟩:RSt).A d) :: T) ∧
   call cx 21 [(.vsl R.nil (ofBytes R.l) R.l.length)] [] = some (.tup [.agg [.int .i64 200,.int .u64 8,.int .u64 3,(.vsl t.nil (ofBytes t.l) t.l.length)],.int .i64 0],[]) ∧
   k = t.l.length∧call cx 32 [(.vsl t.nil (ofBytes t.l) t.l.length)] [] = some (.tup [(.vsl (Sl.grown (finE (L.take a))).nil (encs (Sl.grown (finE (L.take a))).l) (Sl.grown (finE (L.take a))).l.length),.int .i64 k,.int .i64 0],[]):=by
 have u8:isU64 8:=by unfold isU64;omega
 have u3:isU64 3:=by unfold isU64;omega
 have hp:helloL = helloL∨helloL = batchL:=.inl rfl
 have hr:=finE_right h a ha
 have hok:=finE_ok h (fun x hx=>(hL x hx).1) a ha
 have h3:=finE_len h a ha
 have h1:=putrq_ev ⟨helloL,8,3,.none⟩ u8 u3 (by show helloL.length≤100;decide) (by simp)
 rw [putrq_eq helloL hp 8 3 .none (by simp)] at h1
 have hb:=rdRq_back 8 3 (by omega) (by omega) [] (by simp) helloL hp
 have hl:=rq_len helloL hp 8 3 []
 have hml:(stW L a i).mks.l = finE (L.take a):=rfl
 have h2:=shear_hello (stW L a i) (by rw [hml];omega) (by rw [hml];exact hok) d T hsh (.of (beginL helloL ++ (numsL 8 3 0 ++ []))) (by rw [Sl.of_l];simp only [List.length_nil] at hl;omega) 8 3 (.of []) (by simp) (by rw [Sl.of_l];exact hb) (by show (7:Int) < 8;omega) u8 u3
 have hbs:bytesS (finE (L.take a)) = .of (mksB (finE (L.take a))):=by unfold bytesS;rw [hr];rfl
 have hbl:(mksB (finE (L.take a))).length≤200:=by rw [mksB_len];omega
 rw [hml,hbs,putrs_eq 200 (by simp) 8 3 _ (by rw [Sl.of_l];omega),Sl.of_l] at h2
 have hb2:=rdRs_back 8 3 (by omega) (by omega) (mksB (finE (L.take a))) (by omega) 200 (by simp)
 have hl2:=rs_len 200 8 3 (mksB (finE (L.take a)))
 have h4:=rdrs_ev (.of (statusL 200 ++ (numsL 8 3 (mksB (finE (L.take a))).length ++ mksB (finE (L.take a))))) (by rw [Sl.of_l];omega)
 rw [Sl.of_l,hb2] at h4
 have h5:=mread_ev (.of (mksB (finE (L.take a)))) (by rw [Sl.of_l];omega)
 rw [Sl.of_l,readM_mks hok hr] at h5
 refine ⟨.of (beginL helloL ++ (numsL 8 3 0 ++ [])),_,.of (mksB (finE (L.take a))),(mksB (finE (L.take a))).length,?_,h2,?_,by rw [Sl.of_l],?_⟩
 ·simp [Rq.cells] at h1
  simp
  exact h1
 ·simpa [Rs.cells] using h4
 ·have hN:Go.Ev.readN (finE (L.take a),0) = (((mksB (finE (L.take a))).length:Nat):Int):=by
   rw [mksB_len]
   unfold Go.Ev.readN
   simp
   omega
  simp only at h5
  rw [hN] at h5
  exact h5
end Go.Ev.S
namespace Go.Ev.S
open Go Go.Proofs Go.Ev
set_option maxHeartbeats 16000000 in
set_option maxRecDepth 10000 in
theorem whole_ev [MaxL] (n1:Bool) (z1:List Int) (h1:n1 = true→z1 = []) (n2:Bool) (z2:List Int) (h2:n2 = true→z2 = []) (sk:Int):call cx 7 [.vsl n1 (intsK .i64 z1) z1.length,.vsl n2 (intsK .i64 z2) z2.length,.int .i64 sk] [] = some (.bool true,[]):=by
 have f0:=first_ev30
 have fn:=new_ev
 refine call_run Tryz.func7 rfl ⟨rfl,rfl⟩ ?_
 by_cases hz1:z1.length≤400
 case neg =>
  have hz':(400:Int) < (z1.length:Int):=by omega
  simp [Tryz.f7,f0,hz']
 have hz':¬ (400:Int) < (z1.length:Int):=by omega
 by_cases hz2:z2.length≤10
 case neg =>
  have hz'':(10:Int) < (z2.length:Int):=by omega
  simp [Tryz.f7,f0,hz',hz'']
 have hz'':¬ (10:Int) < (z2.length:Int):=by omega
 obtain ⟨q,hq,L,k',hL40,hLm,-,hR,hsh0⟩:=items_evr n1 z1 h1 (by omega) 0 40 (by decide)
 have sf:=seqD_free n1 z1
 have sl:=seqD_len n1 z1
 have sc:=seqD_cl n1 z1
 obtain ⟨m0,r0,g1,g2⟩:=whole_hello
 have hLo:∀ x∈L,x.Ok:=fun x hx=>(hLm x hx).1
 obtain ⟨G,hG⟩:∃ G,G = Sl.grown L:=⟨_,rfl⟩
 have hGl:G.l = L:=by rw [hG];rfl
 have hGn:G.nil = true→L = []:=fun h=>by rw [← hGl];exact G.h h
 obtain ⟨lL,hlL⟩:∃ n,n = L.length:=⟨_,rfl⟩
 have hVf:∀ b,∀ x∈(stW L b 0).its,x.rc.fields.l.length < 1000000:=fun b x hx=>by
  obtain ⟨y,hy,rfl⟩:=List.mem_map.1 hx
  obtain ⟨-,h4,-⟩:=made_itsB' hLm y (List.mem_of_mem_take hy)
  unfold normI
  split
  ·simp [Rec.zero]
  ·exact h4
 rcases hsh0 with ⟨hL0,rfl⟩ | ⟨hne,n,m,hn,hm,rfl⟩
 ·replace hq:call cx 30 [.optr 0 2 0,.int .i64 40] [some [.vsl n1 (intsK .i64 z1) z1.length,.int .i64 0]] = some (.vsl true [] 0,[some (seqD n1 z1 k')]):=hq
  simp [Tryz.f7,f0,hz',hz'',hq,sf,fn,g1,g2]
  refine Run.loopThen (fun (q:Nat × Nat × Sl Mk) e H=>q.1≤z2.length∧q.2.1≤L.length∧q.2.2.l = finE (L.take q.2.1)∧∃ (e':Env) (d:D) (T:Heap),enter cx 7 0 12 e H = some (e',some ((stW L q.2.1 q.1).A d) :: T)∧Shp (stW L q.2.1 q.1).its d T∧look e' 1 = some (.vsl n2 (intsK .i64 z2) z2.length)∧look e' 2 = some (.int .i64 sk)∧look e' 7 = some (.bool true)∧look e' 8 = some (.vsl G.nil (encs L) lL)∧look e' 9 = some (.optr 0 4 0)∧look e' 10 = some (.int .i64 q.2.1)∧look e' 11 = some (.vsl q.2.2.nil (encs q.2.2.l) q.2.2.l.length)∧look e' 12 = some (.int .i64 q.1)) (fun q=>z2.length - q.1) (0,0,.none) ?_ ?_
  ·refine ⟨Nat.zero_le _,Nat.zero_le _,rfl,?_⟩
   simp [stW,RSt.A,Shp,finE,hL0,hG,hlL,Sl.grown]
   exact ⟨_,_,_,⟨rfl,rfl,rfl⟩,⟨rfl,rfl⟩,rfl,rfl,rfl,rfl,rfl,rfl,rfl,rfl⟩
  rintro ⟨i,a,E⟩ e H ⟨hi,ha,hE,e',d,T,hen,hS,p1,p2,p7,p8,p9,p10,p11,p12⟩
  simp only at hi ha hE hen hS p10 p11 p12
  have hS0:=hS
  rcases hS with ⟨hs0,rfl,rfl⟩ | ⟨hs1,na,ka,hna,hka,rfl,rfl⟩
  ·have si0:=sitems_ev (stW L a i) (by show ((L.take a).map normI).length≤_;rw [List.length_map,List.length_take];omega) (hVf a) _ _ hS0
   have hVl:(stW L a i).its.length = a:=by show ((L.take a).map normI).length = a;rw [List.length_map,List.length_take];omega
   simp only [stW,RSt.A,Sl.grown_l] at hen si0 hVl
   skip
   obtain ⟨V,hV⟩:∃ V,V = (L.take a).map normI:=⟨_,rfl⟩
   obtain ⟨FA,hFA⟩:∃ F,F = finE (L.take a):=⟨_,rfl⟩
   obtain ⟨gN,hgN⟩:∃ b,b = (Sl.grown FA).nil:=⟨_,rfl⟩
   try rw [← hV] at hen
   rw [← hFA,← hgN] at hen
   rw [← hV,← hFA,← hgN] at si0
   rw [← hV] at hVl
   skip
   by_cases hlt:i < z2.length
   ·have hlt':(i:Int) < (z2.length:Int):=by omega
    have hnil2:n2 = false:=Bool.eq_false_iff.2 fun hn=>by rw [h2 hn] at hlt;simp at hlt
    have hat:=intsK_at (k:=.i64) hlt
    obtain ⟨x,hx,c1⟩:=num_ev z2[i] 6 (by omega) (by omega)
    replace c1:call cx 24 [.int .i64 z2[i],.int .i64 6] [] = some (.int .i64 x,[]):=c1
    have hwl:IntKind.i64.wrap ((lL:Int) - (a:Int)) = ((lL - a:Nat):Int):=by rw [wrap_i64] <;> omega
    obtain ⟨n,hn⟩:∃ n,n = min x (lL - a):=⟨_,rfl⟩
    have hmin:(if ((lL - a:Nat):Int) < (x:Int) then ((lL - a:Nat):Int) else (x:Int)) = (n:Int):=by split <;> omega
    have hmin2:(if lL - a < x then ((lL - a:Nat):Int) else (x:Int)) = (n:Int):=by split <;> omega
    have han:a+n≤L.length:=by omega
    simp [-en7_12,hen,p1,p2,p7,p8,p9,p10,p11,p12,hlt',hnil2,hat,c1,hwl,hmin2]
    refine Run.loopThen (fun (q:Nat × Sl Mk) e H=>q.1≤n∧q.2.l = finE (L.take (a+q.1))∧H = [some [.int .u64 7,.int .u64 i,.vsl true [] 0,.vsl gN (encs FA) FA.length]]∧look e 1 = some (.vsl n2 (intsK .i64 z2) z2.length)∧look e 2 = some (.int .i64 sk)∧look e 7 = some (.bool true)∧look e 8 = some (.vsl G.nil (encs L) lL)∧look e 9 = some (.optr 0 4 0)∧look e 10 = some (.int .i64 a)∧look e 11 = some (.vsl q.2.nil (encs q.2.l) q.2.l.length)∧look e 12 = some (.int .i64 i)∧look e 13 = some (.int .i64 n)∧look e 14 = some (.int .i64 q.1)) (fun q=>n - q.1) (0,E) ?_ ?_
    ·exact ⟨Nat.zero_le _,hE,rfl,by simp [hnil2],by simp,by simp,by simp,by simp,by simp,by simp,by simp,by simp,by simp⟩
    rintro ⟨k,F⟩ e2 H2 ⟨hk,hF,rfl,r1,r2,r7,r8,r9,r10,r11,r12,r13,r14⟩
    simp only at hk hF r11 r14
    by_cases hkn:k < n
    ·have hkn':(k:Int) < (n:Int):=by omega
     have hj:a+k < L.length:=by omega
     have hj':(a:Int)+(k:Int) < (lL:Int):=by omega
     have hj0:0≤(a:Int)+(k:Int):=by omega
     have hjt:((a:Int)+(k:Int)).toNat = a+k:=by omega
     have hw1:IntKind.i64.wrap ((a:Int)+(k:Int)) = (a:Int)+(k:Int):=by rw [wrap_i64] <;> omega
     have hw2:IntKind.i64.wrap ((k:Int)+1) = ((k+1:Nat):Int):=by rw [wrap_i64] <;> omega
     have hnG:G.nil = false:=Bool.eq_false_iff.2 fun hn=>by have:=hGn hn;rw [this] at hj;simp at hj
     have hea:List.drop ((a+k) * 39) (encs L) = Enc.cells L[a+k] ++ encs (L.drop (a+k+1)):=It.ea hj
     have h39:39≤39+(L.length - (a+k+1)) * 39:=by omega
     have htk:=rtake_ev F (by rw [hF];have:=finE_len hR (a+k) (by omega);omega) L[a+k] false
     have hgo:=finE_goes hR hj
     rw [hF,← take_code,hgo] at htk
     have hsn:=finE_snoc hj
     have htl:=take_law false (finE_ok hR hLo (a+k) (by omega)) (hLo _ (List.getElem_mem hj)) hgo
     rw [← htl,← hsn] at htk
     unfold resS at htk
     rw [if_pos rfl,Sl.of_l,Sl.of_nil,← hF] at htk
     generalize L[a+k] = x at *
     simp [-It.ea,r1,r2,r7,r8,r9,r10,r11,r12,r13,r14,hkn',hj',hj0,hjt,hw1,hw2,hnG,hea,h39,htk]
     exact ⟨k+1,by omega,by omega,.of (finE (L.take (a+k+1))),by rw [Sl.of_l,Nat.add_assoc],⟨rfl,rfl,rfl⟩,by omega⟩

    ·have hkn':¬ (k:Int) < (n:Int):=by omega
     have hkk:k = n:=by omega
     subst hkk
     obtain ⟨o,ho,c2⟩:=num_ev sk 5 (by omega) (by omega)
     replace c2:call cx 24 [.int .i64 sk,.int .i64 5] [] = some (.int .i64 o,[]):=c2
     obtain ⟨oo,hoo⟩:∃ oo,oo = i+2+o:=⟨_,rfl⟩
     obtain ⟨B,M1,M2,R1,R2,d',T',w1,w2,w3,w4,w5,w6,w7,w8⟩:=whole_step hR hLm hL40 (a:=a) (n:=k) (i:=i) (o:=oo) han (by omega) (by omega) (by omega) F hF G.nil hGn _ _ hS0
     have si2:=sitems_ev (stW L (a+k) (i+1)) (by show ((L.take (a+k)).map normI).length≤_;rw [List.length_map,List.length_take];omega) (hVf (a+k)) d' T' w7
     have h3b:=finE_len hR (a+k) han
     have sm2:=smarks_ev (stW L (a+k) (i+1)) (by show (finE (L.take (a+k))).length≤_;omega) d' T' w7
     have sl2:=slast_ev (stW L (a+k) (i+1)) d' T' w7
     have ss:=rsames_ev (Sl.grown ((L.take (a+k)).map normI)) ⟨G.nil,L.take (a+k),fun h=>by rw [hGn h,List.take_nil]⟩ (hVf (a+k)) (fun x hx=>(made_itsB' hLm x (List.mem_of_mem_take hx)).2.1) (by rw [Sl.grown_l,List.length_map,List.length_take];omega)
     rw [Sl.grown_l,sames_norm fun x hx=>same_norm (hLm x (List.mem_of_mem_take hx)).1 (hLm x (List.mem_of_mem_take hx)).2.1] at ss
     have sk2:=rmsame_ev (Sl.grown (finE (L.take (a+k)))) F (by rw [Sl.grown_l];omega)
     rw [show ((Sl.grown (finE (L.take (a+k)))).l == F.l) = true by rw [Sl.grown_l,hF,beq_self_eq_true]] at sk2
     simp only [Sl.grown_l] at sk2
     have hV2l:((L.take (a+k)).map normI).length = a+k:=by rw [List.length_map,List.length_take];omega
     have hTl:(L.take (a+k)).length = a+k:=by rw [List.length_take];omega
     have w7':Shp ((L.take (a+k)).map normI) d' T':=w7
     simp only [stW,RSt.A,Sl.grown_l] at w3 w6 si2 sm2 sl2 ss
     try rw [← hV] at w3 w6
     rw [← hFA,← hgN] at w3 w6
     simp only [hTl,hV2l] at ss si2
     obtain ⟨j,hj⟩:∃ j,j = i+1:=⟨_,rfl⟩
     obtain ⟨j2,hj2⟩:∃ j2,j2 = i+2:=⟨_,rfl⟩
     obtain ⟨b,hb⟩:∃ b,b = a+k:=⟨_,rfl⟩
     rw [← hj] at w5 w6 w8 si2 sm2 sl2
     rw [← hb] at w6 si2 sm2 sl2 ss sk2 hV2l hTl w7' h3b hF
     obtain ⟨V2,hV2⟩:∃ V,V = (L.take b).map normI:=⟨_,rfl⟩
     obtain ⟨FB,hFB⟩:∃ F,F = finE (L.take b):=⟨_,rfl⟩
     obtain ⟨gB,hgB⟩:∃ g,g = (Sl.grown FB).nil:=⟨_,rfl⟩
     obtain ⟨gV,hgV⟩:∃ g,g = (Sl.grown V2).nil:=⟨_,rfl⟩
     rw [← hV2] at si2 ss hV2l w7'
     rw [← hgV] at si2 ss
     rw [← hFB,← hgB] at sm2 sk2
     try rw [← hV2] at w6
     rw [← hFB,← hgB] at w6 si2 sl2
     try rw [← hV2] at sm2 sl2
     have wA:IntKind.i64.wrap ((i:Int)+1) = (j:Int):=by rw [wrap_i64] <;> omega
     have wU:IntKind.u64.wrap (j:Int) = (j:Int):=by rw [wrap_u64];omega
     have wB:IntKind.u64.wrap ((j:Int)+1) = (j2:Int):=by rw [wrap_u64] <;> omega
     have wC:IntKind.u64.wrap (o:Int) = (o:Int):=by rw [wrap_u64];omega
     have wD:IntKind.u64.wrap ((j2:Int)+(o:Int)) = (oo:Int):=by rw [wrap_u64] <;> omega
     have wE:IntKind.i64.wrap ((a:Int)+(k:Int)) = (b:Int):=by rw [wrap_i64] <;> omega
     have hab:(a:Int)≤(b:Int):=by omega
     have hbl:(b:Int)≤(lL:Int):=by omega
     have hba:b - a = k:=by omega
     have hbl2:b≤lL:=by omega
     have w7c:=w7'
     rcases w7' with ⟨e0,rfl,rfl⟩ | ⟨e1,nb,kb,hnb,hkb,rfl,rfl⟩
     ·simp [-en7_12,wA,wU,wB,wC,wD,wE,hab,hbl,hba,r1,r2,r7,r8,r9,r10,r11,r12,r13,r14,hkn',w1,w2,w3,w4,w5,w6,w8,si0,si2,sm2,sl2,ss,sk2,hVl,c2,hlL.symm]
      have hen2:enter cx 7 0 12 [(12,.int .i64 j),(53,.int .i64 j),(52,.int .i64 i),(1,.vsl n2 (intsK .i64 z2) z2.length),(2,.int .i64 sk),(7,.bool true),(8,.vsl G.nil (encs L) lL),(9,.optr 0 4 0),(10,.int .i64 b),(11,.vsl F.nil (encs F.l) F.l.length),(12,.int .i64 i)] [some [.int .u64 7,.int .u64 j,.vsl true [] 0,.vsl gB (encs FB) FB.length],some [.int .i64 200,.int .u64 7,.int .u64 j,.vsl false [] 0]] = some ([(9,.optr 0 4 0),(1,.vsl n2 (intsK .i64 z2) z2.length),(2,.int .i64 sk),(7,.bool true),(8,.vsl G.nil (encs L) lL),(10,.int .i64 b),(11,.vsl F.nil (encs F.l) F.l.length),(12,.int .i64 j)],[some [.int .u64 7,.int .u64 j,.vsl true [] 0,.vsl gB (encs FB) FB.length]]):=by simp
      subst hgB
      subst hFB
      subst hV2
      exact ⟨j,by omega,by omega,b,by omega,F,hF,_,_,_,hen2,w7c,by rw [hnil2];rfl,rfl,rfl,rfl,rfl,rfl,rfl,rfl⟩
     ·simp [-en7_12,wA,wU,wB,wC,wD,wE,hab,hbl,hba,r1,r2,r7,r8,r9,r10,r11,r12,r13,r14,hkn',w1,w2,w3,w4,w5,w6,w8,si0,si2,sm2,sl2,ss,sk2,hVl,c2,hlL.symm]
      have hen2:enter cx 7 0 12 [(12,.int .i64 j),(53,.int .i64 j),(52,.int .i64 i),(1,.vsl n2 (intsK .i64 z2) z2.length),(2,.int .i64 sk),(7,.bool true),(8,.vsl G.nil (encs L) lL),(9,.optr 0 4 0),(10,.int .i64 b),(11,.vsl F.nil (encs F.l) F.l.length),(12,.int .i64 i)] [some [.int .u64 7,.int .u64 j,.osl 2 nb 0 kb 39,.vsl gB (encs FB) FB.length],some [.int .i64 200,.int .u64 7,.int .u64 j,.vsl false [] 0],some (encs V2)] = some ([(9,.optr 0 4 0),(1,.vsl n2 (intsK .i64 z2) z2.length),(2,.int .i64 sk),(7,.bool true),(8,.vsl G.nil (encs L) lL),(10,.int .i64 b),(11,.vsl F.nil (encs F.l) F.l.length),(12,.int .i64 j)],[some [.int .u64 7,.int .u64 j,.osl 1 nb 0 kb 39,.vsl gB (encs FB) FB.length],some (encs V2)]):=by simp
      subst hgB
      subst hFB
      subst hV2
      exact ⟨j,by omega,by omega,b,by omega,F,hF,_,_,_,hen2,w7c,by rw [hnil2];rfl,rfl,rfl,rfl,rfl,rfl,rfl,rfl⟩
   ·have hlt':¬ (i:Int) < (z2.length:Int):=by omega
    obtain ⟨M,R,t,kk,v1,v2,v3,v4,v5⟩:=whole_end hR hLm ha i _ _ hS0
    have h3a:=finE_len hR a ha
    have e1:=slast_ev ⟨8,0,(stW L a i).its,(stW L a i).mks⟩ _ _ hS0
    have e2:=sepoch_ev ⟨8,0,(stW L a i).its,(stW L a i).mks⟩ _ _ hS0
    have e3:=sitems_ev ⟨8,0,(stW L a i).its,(stW L a i).mks⟩ (by show ((L.take a).map normI).length≤_;rw [List.length_map,List.length_take];omega) (hVf a) _ _ hS0
    have e4:=rmsame_ev (Sl.grown (finE (L.take a))) E (by rw [Sl.grown_l];omega)
    rw [show ((Sl.grown (finE (L.take a))).l == E.l) = true by rw [Sl.grown_l,hE,beq_self_eq_true]] at e4
    rw [← v4] at v3 v5
    simp only [stW,RSt.A,Sl.grown_l] at v2 v5 e1 e2 e3 e4
    try rw [← hV] at v2 e1 e2
    rw [← hV] at e3
    rw [← hFA,← hgN] at v2 v5 e1 e2 e3 e4
    rw [hVl] at e3
    simp [-en7_12,hen,p1,p7,p9,p10,p11,p12,hlt',v1,v2,v3,v5,e1,e2,e3,e4]
  ·have si0:=sitems_ev (stW L a i) (by show ((L.take a).map normI).length≤_;rw [List.length_map,List.length_take];omega) (hVf a) _ _ hS0
   have hVl:(stW L a i).its.length = a:=by show ((L.take a).map normI).length = a;rw [List.length_map,List.length_take];omega
   simp only [stW,RSt.A,Sl.grown_l] at hen si0 hVl
   simp only [stW] at hna hka
   obtain ⟨V,hV⟩:∃ V,V = (L.take a).map normI:=⟨_,rfl⟩
   obtain ⟨FA,hFA⟩:∃ F,F = finE (L.take a):=⟨_,rfl⟩
   obtain ⟨gN,hgN⟩:∃ b,b = (Sl.grown FA).nil:=⟨_,rfl⟩
   try rw [← hV] at hen
   rw [← hFA,← hgN] at hen
   rw [← hV,← hFA,← hgN] at si0
   rw [← hV] at hVl
   rw [← hV] at hna hka
   by_cases hlt:i < z2.length
   ·have hlt':(i:Int) < (z2.length:Int):=by omega
    have hnil2:n2 = false:=Bool.eq_false_iff.2 fun hn=>by rw [h2 hn] at hlt;simp at hlt
    have hat:=intsK_at (k:=.i64) hlt
    obtain ⟨x,hx,c1⟩:=num_ev z2[i] 6 (by omega) (by omega)
    replace c1:call cx 24 [.int .i64 z2[i],.int .i64 6] [] = some (.int .i64 x,[]):=c1
    have hwl:IntKind.i64.wrap ((lL:Int) - (a:Int)) = ((lL - a:Nat):Int):=by rw [wrap_i64] <;> omega
    obtain ⟨n,hn⟩:∃ n,n = min x (lL - a):=⟨_,rfl⟩
    have hmin:(if ((lL - a:Nat):Int) < (x:Int) then ((lL - a:Nat):Int) else (x:Int)) = (n:Int):=by split <;> omega
    have hmin2:(if lL - a < x then ((lL - a:Nat):Int) else (x:Int)) = (n:Int):=by split <;> omega
    have han:a+n≤L.length:=by omega
    simp [-en7_12,hen,p1,p2,p7,p8,p9,p10,p11,p12,hlt',hnil2,hat,c1,hwl,hmin2]
    refine Run.loopThen (fun (q:Nat × Sl Mk) e H=>q.1≤n∧q.2.l = finE (L.take (a+q.1))∧H = [some [.int .u64 7,.int .u64 i,.osl 1 na 0 ka 39,.vsl gN (encs FA) FA.length],some (encs V)]∧look e 1 = some (.vsl n2 (intsK .i64 z2) z2.length)∧look e 2 = some (.int .i64 sk)∧look e 7 = some (.bool true)∧look e 8 = some (.vsl G.nil (encs L) lL)∧look e 9 = some (.optr 0 4 0)∧look e 10 = some (.int .i64 a)∧look e 11 = some (.vsl q.2.nil (encs q.2.l) q.2.l.length)∧look e 12 = some (.int .i64 i)∧look e 13 = some (.int .i64 n)∧look e 14 = some (.int .i64 q.1)) (fun q=>n - q.1) (0,E) ?_ ?_
    ·exact ⟨Nat.zero_le _,hE,rfl,by simp [hnil2],by simp,by simp,by simp,by simp,by simp,by simp,by simp,by simp,by simp⟩
    rintro ⟨k,F⟩ e2 H2 ⟨hk,hF,rfl,r1,r2,r7,r8,r9,r10,r11,r12,r13,r14⟩
    simp only at hk hF r11 r14
    by_cases hkn:k < n
    ·have hkn':(k:Int) < (n:Int):=by omega
     have hj:a+k < L.length:=by omega
     have hj':(a:Int)+(k:Int) < (lL:Int):=by omega
     have hj0:0≤(a:Int)+(k:Int):=by omega
     have hjt:((a:Int)+(k:Int)).toNat = a+k:=by omega
     have hw1:IntKind.i64.wrap ((a:Int)+(k:Int)) = (a:Int)+(k:Int):=by rw [wrap_i64] <;> omega
     have hw2:IntKind.i64.wrap ((k:Int)+1) = ((k+1:Nat):Int):=by rw [wrap_i64] <;> omega
     have hnG:G.nil = false:=Bool.eq_false_iff.2 fun hn=>by have:=hGn hn;rw [this] at hj;simp at hj
     have hea:List.drop ((a+k) * 39) (encs L) = Enc.cells L[a+k] ++ encs (L.drop (a+k+1)):=It.ea hj
     have h39:39≤39+(L.length - (a+k+1)) * 39:=by omega
     have htk:=rtake_ev F (by rw [hF];have:=finE_len hR (a+k) (by omega);omega) L[a+k] false
     have hgo:=finE_goes hR hj
     rw [hF,← take_code,hgo] at htk
     have hsn:=finE_snoc hj
     have htl:=take_law false (finE_ok hR hLo (a+k) (by omega)) (hLo _ (List.getElem_mem hj)) hgo
     rw [← htl,← hsn] at htk
     unfold resS at htk
     rw [if_pos rfl,Sl.of_l,Sl.of_nil,← hF] at htk
     generalize L[a+k] = x at *
     simp [-It.ea,r1,r2,r7,r8,r9,r10,r11,r12,r13,r14,hkn',hj',hj0,hjt,hw1,hw2,hnG,hea,h39,htk]
     exact ⟨k+1,by omega,by omega,.of (finE (L.take (a+k+1))),by rw [Sl.of_l,Nat.add_assoc],⟨rfl,rfl,rfl⟩,by omega⟩

    ·have hkn':¬ (k:Int) < (n:Int):=by omega
     have hkk:k = n:=by omega
     subst hkk
     obtain ⟨o,ho,c2⟩:=num_ev sk 5 (by omega) (by omega)
     replace c2:call cx 24 [.int .i64 sk,.int .i64 5] [] = some (.int .i64 o,[]):=c2
     obtain ⟨oo,hoo⟩:∃ oo,oo = i+2+o:=⟨_,rfl⟩
     obtain ⟨B,M1,M2,R1,R2,d',T',w1,w2,w3,w4,w5,w6,w7,w8⟩:=whole_step hR hLm hL40 (a:=a) (n:=k) (i:=i) (o:=oo) han (by omega) (by omega) (by omega) F hF G.nil hGn _ _ hS0
     have si2:=sitems_ev (stW L (a+k) (i+1)) (by show ((L.take (a+k)).map normI).length≤_;rw [List.length_map,List.length_take];omega) (hVf (a+k)) d' T' w7
     have h3b:=finE_len hR (a+k) han
     have sm2:=smarks_ev (stW L (a+k) (i+1)) (by show (finE (L.take (a+k))).length≤_;omega) d' T' w7
     have sl2:=slast_ev (stW L (a+k) (i+1)) d' T' w7
     have ss:=rsames_ev (Sl.grown ((L.take (a+k)).map normI)) ⟨G.nil,L.take (a+k),fun h=>by rw [hGn h,List.take_nil]⟩ (hVf (a+k)) (fun x hx=>(made_itsB' hLm x (List.mem_of_mem_take hx)).2.1) (by rw [Sl.grown_l,List.length_map,List.length_take];omega)
     rw [Sl.grown_l,sames_norm fun x hx=>same_norm (hLm x (List.mem_of_mem_take hx)).1 (hLm x (List.mem_of_mem_take hx)).2.1] at ss
     have sk2:=rmsame_ev (Sl.grown (finE (L.take (a+k)))) F (by rw [Sl.grown_l];omega)
     rw [show ((Sl.grown (finE (L.take (a+k)))).l == F.l) = true by rw [Sl.grown_l,hF,beq_self_eq_true]] at sk2
     simp only [Sl.grown_l] at sk2
     have hV2l:((L.take (a+k)).map normI).length = a+k:=by rw [List.length_map,List.length_take];omega
     have hTl:(L.take (a+k)).length = a+k:=by rw [List.length_take];omega
     have w7':Shp ((L.take (a+k)).map normI) d' T':=w7
     simp only [stW,RSt.A,Sl.grown_l] at w3 w6 si2 sm2 sl2 ss
     try rw [← hV] at w3 w6
     rw [← hFA,← hgN] at w3 w6
     simp only [hTl,hV2l] at ss si2
     obtain ⟨j,hj⟩:∃ j,j = i+1:=⟨_,rfl⟩
     obtain ⟨j2,hj2⟩:∃ j2,j2 = i+2:=⟨_,rfl⟩
     obtain ⟨b,hb⟩:∃ b,b = a+k:=⟨_,rfl⟩
     rw [← hj] at w5 w6 w8 si2 sm2 sl2
     rw [← hb] at w6 si2 sm2 sl2 ss sk2 hV2l hTl w7' h3b hF
     obtain ⟨V2,hV2⟩:∃ V,V = (L.take b).map normI:=⟨_,rfl⟩
     obtain ⟨FB,hFB⟩:∃ F,F = finE (L.take b):=⟨_,rfl⟩
     obtain ⟨gB,hgB⟩:∃ g,g = (Sl.grown FB).nil:=⟨_,rfl⟩
     obtain ⟨gV,hgV⟩:∃ g,g = (Sl.grown V2).nil:=⟨_,rfl⟩
     rw [← hV2] at si2 ss hV2l w7'
     rw [← hgV] at si2 ss
     rw [← hFB,← hgB] at sm2 sk2
     try rw [← hV2] at w6
     rw [← hFB,← hgB] at w6 si2 sl2
     try rw [← hV2] at sm2 sl2
     have wA:IntKind.i64.wrap ((i:Int)+1) = (j:Int):=by rw [wrap_i64] <;> omega
     have wU:IntKind.u64.wrap (j:Int) = (j:Int):=by rw [wrap_u64];omega
     have wB:IntKind.u64.wrap ((j:Int)+1) = (j2:Int):=by rw [wrap_u64] <;> omega
     have wC:IntKind.u64.wrap (o:Int) = (o:Int):=by rw [wrap_u64];omega
     have wD:IntKind.u64.wrap ((j2:Int)+(o:Int)) = (oo:Int):=by rw [wrap_u64] <;> omega
     have wE:IntKind.i64.wrap ((a:Int)+(k:Int)) = (b:Int):=by rw [wrap_i64] <;> omega
     have hab:(a:Int)≤(b:Int):=by omega
     have hbl:(b:Int)≤(lL:Int):=by omega
     have hba:b - a = k:=by omega
     have hbl2:b≤lL:=by omega
     have w7c:=w7'
     rcases w7' with ⟨e0,-,-⟩ | ⟨e1,nb,kb,hnb,hkb,rfl,rfl⟩
     ·exfalso
      rw [e0] at hV2l
      simp only [List.length_nil] at hV2l
      have:a = 0:=by omega
      rw [this] at hs1
      exact hs1 rfl
     ·simp [-en7_12,wA,wU,wB,wC,wD,wE,hab,hbl,hba,r1,r2,r7,r8,r9,r10,r11,r12,r13,r14,hkn',w1,w2,w3,w4,w5,w6,w8,si0,si2,sm2,sl2,ss,sk2,hVl,c2,hlL.symm]
      have hen2:enter cx 7 0 12 [(12,.int .i64 j),(53,.int .i64 j),(52,.int .i64 i),(1,.vsl n2 (intsK .i64 z2) z2.length),(2,.int .i64 sk),(7,.bool true),(8,.vsl G.nil (encs L) lL),(9,.optr 0 4 0),(10,.int .i64 b),(11,.vsl F.nil (encs F.l) F.l.length),(12,.int .i64 i)] [some [.int .u64 7,.int .u64 j,.osl 1 nb 0 kb 39,.vsl gB (encs FB) FB.length],some (encs V2),some [.int .i64 200,.int .u64 7,.int .u64 j,.vsl false [] 0]] = some ([(9,.optr 0 4 0),(1,.vsl n2 (intsK .i64 z2) z2.length),(2,.int .i64 sk),(7,.bool true),(8,.vsl G.nil (encs L) lL),(10,.int .i64 b),(11,.vsl F.nil (encs F.l) F.l.length),(12,.int .i64 j)],[some [.int .u64 7,.int .u64 j,.osl 1 nb 0 kb 39,.vsl gB (encs FB) FB.length],some (encs V2)]):=by simp
      subst hgB
      subst hFB
      subst hV2
      exact ⟨j,by omega,by omega,b,by omega,F,hF,_,_,_,hen2,w7c,by rw [hnil2];rfl,rfl,rfl,rfl,rfl,rfl,rfl,rfl⟩
   ·have hlt':¬ (i:Int) < (z2.length:Int):=by omega
    obtain ⟨M,R,t,kk,v1,v2,v3,v4,v5⟩:=whole_end hR hLm ha i _ _ hS0
    have h3a:=finE_len hR a ha
    have e1:=slast_ev ⟨8,0,(stW L a i).its,(stW L a i).mks⟩ _ _ hS0
    have e2:=sepoch_ev ⟨8,0,(stW L a i).its,(stW L a i).mks⟩ _ _ hS0
    have e3:=sitems_ev ⟨8,0,(stW L a i).its,(stW L a i).mks⟩ (by show ((L.take a).map normI).length≤_;rw [List.length_map,List.length_take];omega) (hVf a) _ _ hS0
    have e4:=rmsame_ev (Sl.grown (finE (L.take a))) E (by rw [Sl.grown_l];omega)
    rw [show ((Sl.grown (finE (L.take a))).l == E.l) = true by rw [Sl.grown_l,hE,beq_self_eq_true]] at e4
    rw [← v4] at v3 v5
    simp only [stW,RSt.A,Sl.grown_l] at v2 v5 e1 e2 e3 e4
    try rw [← hV] at v2 e1 e2
    rw [← hV] at e3
    rw [← hFA,← hgN] at v2 v5 e1 e2 e3 e4
    rw [hVl] at e3
    simp [-en7_12,hen,p1,p7,p9,p10,p11,p12,hlt',v1,v2,v3,v5,e1,e2,e3,e4]

 ·replace hq:call cx 30 [.optr 0 2 0,.int .i64 40] [some [.vsl n1 (intsK .i64 z1) z1.length,.int .i64 0]] = some (.osl 1 n 0 m 39,[some (seqD n1 z1 k'),some (encs L)]):=hq
  simp [Tryz.f7,f0,hz',hz'',hq,sf,fn,g1,g2,hn,hm]
  refine Run.loopThen (fun (q:Nat × Nat × Sl Mk) e H=>q.1≤z2.length∧q.2.1≤L.length∧q.2.2.l = finE (L.take q.2.1)∧∃ (e':Env) (d:D) (T:Heap),enter cx 7 0 12 e H = some (e',some ((stW L q.2.1 q.1).A d) :: T)∧Shp (stW L q.2.1 q.1).its d T∧look e' 1 = some (.vsl n2 (intsK .i64 z2) z2.length)∧look e' 2 = some (.int .i64 sk)∧look e' 7 = some (.bool true)∧look e' 8 = some (.vsl G.nil (encs L) lL)∧look e' 9 = some (.optr 0 4 0)∧look e' 10 = some (.int .i64 q.2.1)∧look e' 11 = some (.vsl q.2.2.nil (encs q.2.2.l) q.2.2.l.length)∧look e' 12 = some (.int .i64 q.1)) (fun q=>z2.length - q.1) (0,0,.none) ?_ ?_
  ·refine ⟨Nat.zero_le _,Nat.zero_le _,rfl,?_⟩
   simp [stW,RSt.A,Shp,finE,hG,hlL,Sl.grown]
   exact ⟨_,_,_,⟨rfl,rfl,rfl⟩,⟨rfl,rfl⟩,rfl,rfl,rfl,by rw [List.isEmpty_eq_false_iff.2 hne];rfl,rfl,rfl,rfl,rfl⟩
  rintro ⟨i,a,E⟩ e H ⟨hi,ha,hE,e',d,T,hen,hS,p1,p2,p7,p8,p9,p10,p11,p12⟩
  simp only at hi ha hE hen hS p10 p11 p12
  have hS0:=hS
  rcases hS with ⟨hs0,rfl,rfl⟩ | ⟨hs1,na,ka,hna,hka,rfl,rfl⟩
  ·have si0:=sitems_ev (stW L a i) (by show ((L.take a).map normI).length≤_;rw [List.length_map,List.length_take];omega) (hVf a) _ _ hS0
   have hVl:(stW L a i).its.length = a:=by show ((L.take a).map normI).length = a;rw [List.length_map,List.length_take];omega
   simp only [stW,RSt.A,Sl.grown_l] at hen si0 hVl
   skip
   obtain ⟨V,hV⟩:∃ V,V = (L.take a).map normI:=⟨_,rfl⟩
   obtain ⟨FA,hFA⟩:∃ F,F = finE (L.take a):=⟨_,rfl⟩
   obtain ⟨gN,hgN⟩:∃ b,b = (Sl.grown FA).nil:=⟨_,rfl⟩
   try rw [← hV] at hen
   rw [← hFA,← hgN] at hen
   rw [← hV,← hFA,← hgN] at si0
   rw [← hV] at hVl
   skip
   by_cases hlt:i < z2.length
   ·have hlt':(i:Int) < (z2.length:Int):=by omega
    have hnil2:n2 = false:=Bool.eq_false_iff.2 fun hn=>by rw [h2 hn] at hlt;simp at hlt
    have hat:=intsK_at (k:=.i64) hlt
    obtain ⟨x,hx,c1⟩:=num_ev z2[i] 6 (by omega) (by omega)
    replace c1:call cx 24 [.int .i64 z2[i],.int .i64 6] [] = some (.int .i64 x,[]):=c1
    have hwl:IntKind.i64.wrap ((lL:Int) - (a:Int)) = ((lL - a:Nat):Int):=by rw [wrap_i64] <;> omega
    obtain ⟨n,hn⟩:∃ n,n = min x (lL - a):=⟨_,rfl⟩
    have hmin:(if ((lL - a:Nat):Int) < (x:Int) then ((lL - a:Nat):Int) else (x:Int)) = (n:Int):=by split <;> omega
    have hmin2:(if lL - a < x then ((lL - a:Nat):Int) else (x:Int)) = (n:Int):=by split <;> omega
    have han:a+n≤L.length:=by omega
    simp [-en7_12,hen,p1,p2,p7,p8,p9,p10,p11,p12,hlt',hnil2,hat,c1,hwl,hmin2]
    refine Run.loopThen (fun (q:Nat × Sl Mk) e H=>q.1≤n∧q.2.l = finE (L.take (a+q.1))∧H = [some [.int .u64 7,.int .u64 i,.vsl true [] 0,.vsl gN (encs FA) FA.length]]∧look e 1 = some (.vsl n2 (intsK .i64 z2) z2.length)∧look e 2 = some (.int .i64 sk)∧look e 7 = some (.bool true)∧look e 8 = some (.vsl G.nil (encs L) lL)∧look e 9 = some (.optr 0 4 0)∧look e 10 = some (.int .i64 a)∧look e 11 = some (.vsl q.2.nil (encs q.2.l) q.2.l.length)∧look e 12 = some (.int .i64 i)∧look e 13 = some (.int .i64 n)∧look e 14 = some (.int .i64 q.1)) (fun q=>n - q.1) (0,E) ?_ ?_
    ·exact ⟨Nat.zero_le _,hE,rfl,by simp [hnil2],by simp,by simp,by simp,by simp,by simp,by simp,by simp,by simp,by simp⟩
    rintro ⟨k,F⟩ e2 H2 ⟨hk,hF,rfl,r1,r2,r7,r8,r9,r10,r11,r12,r13,r14⟩
    simp only at hk hF r11 r14
    by_cases hkn:k < n
    ·have hkn':(k:Int) < (n:Int):=by omega
     have hj:a+k < L.length:=by omega
     have hj':(a:Int)+(k:Int) < (lL:Int):=by omega
     have hj0:0≤(a:Int)+(k:Int):=by omega
     have hjt:((a:Int)+(k:Int)).toNat = a+k:=by omega
     have hw1:IntKind.i64.wrap ((a:Int)+(k:Int)) = (a:Int)+(k:Int):=by rw [wrap_i64] <;> omega
     have hw2:IntKind.i64.wrap ((k:Int)+1) = ((k+1:Nat):Int):=by rw [wrap_i64] <;> omega
     have hnG:G.nil = false:=Bool.eq_false_iff.2 fun hn=>by have:=hGn hn;rw [this] at hj;simp at hj
     have hea:List.drop ((a+k) * 39) (encs L) = Enc.cells L[a+k] ++ encs (L.drop (a+k+1)):=It.ea hj
     have h39:39≤39+(L.length - (a+k+1)) * 39:=by omega
     have htk:=rtake_ev F (by rw [hF];have:=finE_len hR (a+k) (by omega);omega) L[a+k] false
     have hgo:=finE_goes hR hj
     rw [hF,← take_code,hgo] at htk
     have hsn:=finE_snoc hj
     have htl:=take_law false (finE_ok hR hLo (a+k) (by omega)) (hLo _ (List.getElem_mem hj)) hgo
     rw [← htl,← hsn] at htk
     unfold resS at htk
     rw [if_pos rfl,Sl.of_l,Sl.of_nil,← hF] at htk
     generalize L[a+k] = x at *
     simp [-It.ea,r1,r2,r7,r8,r9,r10,r11,r12,r13,r14,hkn',hj',hj0,hjt,hw1,hw2,hnG,hea,h39,htk]
     exact ⟨k+1,by omega,by omega,.of (finE (L.take (a+k+1))),by rw [Sl.of_l,Nat.add_assoc],⟨rfl,rfl,rfl⟩,by omega⟩

    ·have hkn':¬ (k:Int) < (n:Int):=by omega
     have hkk:k = n:=by omega
     subst hkk
     obtain ⟨o,ho,c2⟩:=num_ev sk 5 (by omega) (by omega)
     replace c2:call cx 24 [.int .i64 sk,.int .i64 5] [] = some (.int .i64 o,[]):=c2
     obtain ⟨oo,hoo⟩:∃ oo,oo = i+2+o:=⟨_,rfl⟩
     obtain ⟨B,M1,M2,R1,R2,d',T',w1,w2,w3,w4,w5,w6,w7,w8⟩:=whole_step hR hLm hL40 (a:=a) (n:=k) (i:=i) (o:=oo) han (by omega) (by omega) (by omega) F hF G.nil hGn _ _ hS0
     have si2:=sitems_ev (stW L (a+k) (i+1)) (by show ((L.take (a+k)).map normI).length≤_;rw [List.length_map,List.length_take];omega) (hVf (a+k)) d' T' w7
     have h3b:=finE_len hR (a+k) han
     have sm2:=smarks_ev (stW L (a+k) (i+1)) (by show (finE (L.take (a+k))).length≤_;omega) d' T' w7
     have sl2:=slast_ev (stW L (a+k) (i+1)) d' T' w7
     have ss:=rsames_ev (Sl.grown ((L.take (a+k)).map normI)) ⟨G.nil,L.take (a+k),fun h=>by rw [hGn h,List.take_nil]⟩ (hVf (a+k)) (fun x hx=>(made_itsB' hLm x (List.mem_of_mem_take hx)).2.1) (by rw [Sl.grown_l,List.length_map,List.length_take];omega)
     rw [Sl.grown_l,sames_norm fun x hx=>same_norm (hLm x (List.mem_of_mem_take hx)).1 (hLm x (List.mem_of_mem_take hx)).2.1] at ss
     have sk2:=rmsame_ev (Sl.grown (finE (L.take (a+k)))) F (by rw [Sl.grown_l];omega)
     rw [show ((Sl.grown (finE (L.take (a+k)))).l == F.l) = true by rw [Sl.grown_l,hF,beq_self_eq_true]] at sk2
     simp only [Sl.grown_l] at sk2
     have hV2l:((L.take (a+k)).map normI).length = a+k:=by rw [List.length_map,List.length_take];omega
     have hTl:(L.take (a+k)).length = a+k:=by rw [List.length_take];omega
     have w7':Shp ((L.take (a+k)).map normI) d' T':=w7
     simp only [stW,RSt.A,Sl.grown_l] at w3 w6 si2 sm2 sl2 ss
     try rw [← hV] at w3 w6
     rw [← hFA,← hgN] at w3 w6
     simp only [hTl,hV2l] at ss si2
     obtain ⟨j,hj⟩:∃ j,j = i+1:=⟨_,rfl⟩
     obtain ⟨j2,hj2⟩:∃ j2,j2 = i+2:=⟨_,rfl⟩
     obtain ⟨b,hb⟩:∃ b,b = a+k:=⟨_,rfl⟩
     rw [← hj] at w5 w6 w8 si2 sm2 sl2
     rw [← hb] at w6 si2 sm2 sl2 ss sk2 hV2l hTl w7' h3b hF
     obtain ⟨V2,hV2⟩:∃ V,V = (L.take b).map normI:=⟨_,rfl⟩
     obtain ⟨FB,hFB⟩:∃ F,F = finE (L.take b):=⟨_,rfl⟩
     obtain ⟨gB,hgB⟩:∃ g,g = (Sl.grown FB).nil:=⟨_,rfl⟩
     obtain ⟨gV,hgV⟩:∃ g,g = (Sl.grown V2).nil:=⟨_,rfl⟩
     rw [← hV2] at si2 ss hV2l w7'
     rw [← hgV] at si2 ss
     rw [← hFB,← hgB] at sm2 sk2
     try rw [← hV2] at w6
     rw [← hFB,← hgB] at w6 si2 sl2
     try rw [← hV2] at sm2 sl2
     have wA:IntKind.i64.wrap ((i:Int)+1) = (j:Int):=by rw [wrap_i64] <;> omega
     have wU:IntKind.u64.wrap (j:Int) = (j:Int):=by rw [wrap_u64];omega
     have wB:IntKind.u64.wrap ((j:Int)+1) = (j2:Int):=by rw [wrap_u64] <;> omega
     have wC:IntKind.u64.wrap (o:Int) = (o:Int):=by rw [wrap_u64];omega
     have wD:IntKind.u64.wrap ((j2:Int)+(o:Int)) = (oo:Int):=by rw [wrap_u64] <;> omega
     have wE:IntKind.i64.wrap ((a:Int)+(k:Int)) = (b:Int):=by rw [wrap_i64] <;> omega
     have hab:(a:Int)≤(b:Int):=by omega
     have hbl:(b:Int)≤(lL:Int):=by omega
     have hba:b - a = k:=by omega
     have hbl2:b≤lL:=by omega
     have w7c:=w7'
     rcases w7' with ⟨e0,rfl,rfl⟩ | ⟨e1,nb,kb,hnb,hkb,rfl,rfl⟩
     ·simp [-en7_12,wA,wU,wB,wC,wD,wE,hab,hbl,hba,r1,r2,r7,r8,r9,r10,r11,r12,r13,r14,hkn',w1,w2,w3,w4,w5,w6,w8,si0,si2,sm2,sl2,ss,sk2,hVl,c2,hlL.symm]
      have hen2:enter cx 7 0 12 [(12,.int .i64 j),(53,.int .i64 j),(52,.int .i64 i),(1,.vsl n2 (intsK .i64 z2) z2.length),(2,.int .i64 sk),(7,.bool true),(8,.vsl G.nil (encs L) lL),(9,.optr 0 4 0),(10,.int .i64 b),(11,.vsl F.nil (encs F.l) F.l.length),(12,.int .i64 i)] [some [.int .u64 7,.int .u64 j,.vsl true [] 0,.vsl gB (encs FB) FB.length],some [.int .i64 200,.int .u64 7,.int .u64 j,.vsl false [] 0]] = some ([(9,.optr 0 4 0),(1,.vsl n2 (intsK .i64 z2) z2.length),(2,.int .i64 sk),(7,.bool true),(8,.vsl G.nil (encs L) lL),(10,.int .i64 b),(11,.vsl F.nil (encs F.l) F.l.length),(12,.int .i64 j)],[some [.int .u64 7,.int .u64 j,.vsl true [] 0,.vsl gB (encs FB) FB.length]]):=by simp
      subst hgB
      subst hFB
      subst hV2
      exact ⟨j,by omega,by omega,b,by omega,F,hF,_,_,_,hen2,w7c,by rw [hnil2];rfl,rfl,rfl,rfl,rfl,rfl,rfl,rfl⟩
     ·simp [-en7_12,wA,wU,wB,wC,wD,wE,hab,hbl,hba,r1,r2,r7,r8,r9,r10,r11,r12,r13,r14,hkn',w1,w2,w3,w4,w5,w6,w8,si0,si2,sm2,sl2,ss,sk2,hVl,c2,hlL.symm]
      have hen2:enter cx 7 0 12 [(12,.int .i64 j),(53,.int .i64 j),(52,.int .i64 i),(1,.vsl n2 (intsK .i64 z2) z2.length),(2,.int .i64 sk),(7,.bool true),(8,.vsl G.nil (encs L) lL),(9,.optr 0 4 0),(10,.int .i64 b),(11,.vsl F.nil (encs F.l) F.l.length),(12,.int .i64 i)] [some [.int .u64 7,.int .u64 j,.osl 2 nb 0 kb 39,.vsl gB (encs FB) FB.length],some [.int .i64 200,.int .u64 7,.int .u64 j,.vsl false [] 0],some (encs V2)] = some ([(9,.optr 0 4 0),(1,.vsl n2 (intsK .i64 z2) z2.length),(2,.int .i64 sk),(7,.bool true),(8,.vsl G.nil (encs L) lL),(10,.int .i64 b),(11,.vsl F.nil (encs F.l) F.l.length),(12,.int .i64 j)],[some [.int .u64 7,.int .u64 j,.osl 1 nb 0 kb 39,.vsl gB (encs FB) FB.length],some (encs V2)]):=by simp
      subst hgB
      subst hFB
      subst hV2
      exact ⟨j,by omega,by omega,b,by omega,F,hF,_,_,_,hen2,w7c,by rw [hnil2];rfl,rfl,rfl,rfl,rfl,rfl,rfl,rfl⟩
   ·have hlt':¬ (i:Int) < (z2.length:Int):=by omega
    obtain ⟨M,R,t,kk,v1,v2,v3,v4,v5⟩:=whole_end hR hLm ha i _ _ hS0
    have h3a:=finE_len hR a ha
    have e1:=slast_ev ⟨8,0,(stW L a i).its,(stW L a i).mks⟩ _ _ hS0
    have e2:=sepoch_ev ⟨8,0,(stW L a i).its,(stW L a i).mks⟩ _ _ hS0
    have e3:=sitems_ev ⟨8,0,(stW L a i).its,(stW L a i).mks⟩ (by show ((L.take a).map normI).length≤_;rw [List.length_map,List.length_take];omega) (hVf a) _ _ hS0
    have e4:=rmsame_ev (Sl.grown (finE (L.take a))) E (by rw [Sl.grown_l];omega)
    rw [show ((Sl.grown (finE (L.take a))).l == E.l) = true by rw [Sl.grown_l,hE,beq_self_eq_true]] at e4
    rw [← v4] at v3 v5
    simp only [stW,RSt.A,Sl.grown_l] at v2 v5 e1 e2 e3 e4
    try rw [← hV] at v2 e1 e2
    rw [← hV] at e3
    rw [← hFA,← hgN] at v2 v5 e1 e2 e3 e4
    rw [hVl] at e3
    simp [-en7_12,hen,p1,p7,p9,p10,p11,p12,hlt',v1,v2,v3,v5,e1,e2,e3,e4]
  ·have si0:=sitems_ev (stW L a i) (by show ((L.take a).map normI).length≤_;rw [List.length_map,List.length_take];omega) (hVf a) _ _ hS0
   have hVl:(stW L a i).its.length = a:=by show ((L.take a).map normI).length = a;rw [List.length_map,List.length_take];omega
   simp only [stW,RSt.A,Sl.grown_l] at hen si0 hVl
   simp only [stW] at hna hka
   obtain ⟨V,hV⟩:∃ V,V = (L.take a).map normI:=⟨_,rfl⟩
   obtain ⟨FA,hFA⟩:∃ F,F = finE (L.take a):=⟨_,rfl⟩
   obtain ⟨gN,hgN⟩:∃ b,b = (Sl.grown FA).nil:=⟨_,rfl⟩
   try rw [← hV] at hen
   rw [← hFA,← hgN] at hen
   rw [← hV,← hFA,← hgN] at si0
   rw [← hV] at hVl
   rw [← hV] at hna hka
   by_cases hlt:i < z2.length
   ·have hlt':(i:Int) < (z2.length:Int):=by omega
    have hnil2:n2 = false:=Bool.eq_false_iff.2 fun hn=>by rw [h2 hn] at hlt;simp at hlt
    have hat:=intsK_at (k:=.i64) hlt
    obtain ⟨x,hx,c1⟩:=num_ev z2[i] 6 (by omega) (by omega)
    replace c1:call cx 24 [.int .i64 z2[i],.int .i64 6] [] = some (.int .i64 x,[]):=c1
    have hwl:IntKind.i64.wrap ((lL:Int) - (a:Int)) = ((lL - a:Nat):Int):=by rw [wrap_i64] <;> omega
    obtain ⟨n,hn⟩:∃ n,n = min x (lL - a):=⟨_,rfl⟩
    have hmin:(if ((lL - a:Nat):Int) < (x:Int) then ((lL - a:Nat):Int) else (x:Int)) = (n:Int):=by split <;> omega
    have hmin2:(if lL - a < x then ((lL - a:Nat):Int) else (x:Int)) = (n:Int):=by split <;> omega
    have han:a+n≤L.length:=by omega
    simp [-en7_12,hen,p1,p2,p7,p8,p9,p10,p11,p12,hlt',hnil2,hat,c1,hwl,hmin2]
    refine Run.loopThen (fun (q:Nat × Sl Mk) e H=>q.1≤n∧q.2.l = finE (L.take (a+q.1))∧H = [some [.int .u64 7,.int .u64 i,.osl 1 na 0 ka 39,.vsl gN (encs FA) FA.length],some (encs V)]∧look e 1 = some (.vsl n2 (intsK .i64 z2) z2.length)∧look e 2 = some (.int .i64 sk)∧look e 7 = some (.bool true)∧look e 8 = some (.vsl G.nil (encs L) lL)∧look e 9 = some (.optr 0 4 0)∧look e 10 = some (.int .i64 a)∧look e 11 = some (.vsl q.2.nil (encs q.2.l) q.2.l.length)∧look e 12 = some (.int .i64 i)∧look e 13 = some (.int .i64 n)∧look e 14 = some (.int .i64 q.1)) (fun q=>n - q.1) (0,E) ?_ ?_
    ·exact ⟨Nat.zero_le _,hE,rfl,by simp [hnil2],by simp,by simp,by simp,by simp,by simp,by simp,by simp,by simp,by simp⟩
    rintro ⟨k,F⟩ e2 H2 ⟨hk,hF,rfl,r1,r2,r7,r8,r9,r10,r11,r12,r13,r14⟩
    simp only at hk hF r11 r14
    by_cases hkn:k < n
    ·have hkn':(k:Int) < (n:Int):=by omega
     have hj:a+k < L.length:=by omega
     have hj':(a:Int)+(k:Int) < (lL:Int):=by omega
     have hj0:0≤(a:Int)+(k:Int):=by omega
     have hjt:((a:Int)+(k:Int)).toNat = a+k:=by omega
     have hw1:IntKind.i64.wrap ((a:Int)+(k:Int)) = (a:Int)+(k:Int):=by rw [wrap_i64] <;> omega
     have hw2:IntKind.i64.wrap ((k:Int)+1) = ((k+1:Nat):Int):=by rw [wrap_i64] <;> omega
     have hnG:G.nil = false:=Bool.eq_false_iff.2 fun hn=>by have:=hGn hn;rw [this] at hj;simp at hj
     have hea:List.drop ((a+k) * 39) (encs L) = Enc.cells L[a+k] ++ encs (L.drop (a+k+1)):=It.ea hj
     have h39:39≤39+(L.length - (a+k+1)) * 39:=by omega
     have htk:=rtake_ev F (by rw [hF];have:=finE_len hR (a+k) (by omega);omega) L[a+k] false
     have hgo:=finE_goes hR hj
     rw [hF,← take_code,hgo] at htk
     have hsn:=finE_snoc hj
     have htl:=take_law false (finE_ok hR hLo (a+k) (by omega)) (hLo _ (List.getElem_mem hj)) hgo
     rw [← htl,← hsn] at htk
     unfold resS at htk
     rw [if_pos rfl,Sl.of_l,Sl.of_nil,← hF] at htk
     generalize L[a+k] = x at *
     simp [-It.ea,r1,r2,r7,r8,r9,r10,r11,r12,r13,r14,hkn',hj',hj0,hjt,hw1,hw2,hnG,hea,h39,htk]
     exact ⟨k+1,by omega,by omega,.of (finE (L.take (a+k+1))),by rw [Sl.of_l,Nat.add_assoc],⟨rfl,rfl,rfl⟩,by omega⟩

    ·have hkn':¬ (k:Int) < (n:Int):=by omega
     have hkk:k = n:=by omega
     subst hkk
     obtain ⟨o,ho,c2⟩:=num_ev sk 5 (by omega) (by omega)
     replace c2:call cx 24 [.int .i64 sk,.int .i64 5] [] = some (.int .i64 o,[]):=c2
     obtain ⟨oo,hoo⟩:∃ oo,oo = i+2+o:=⟨_,rfl⟩
     obtain ⟨B,M1,M2,R1,R2,d',T',w1,w2,w3,w4,w5,w6,w7,w8⟩:=whole_step hR hLm hL40 (a:=a) (n:=k) (i:=i) (o:=oo) han (by omega) (by omega) (by omega) F hF G.nil hGn _ _ hS0
     have si2:=sitems_ev (stW L (a+k) (i+1)) (by show ((L.take (a+k)).map normI).length≤_;rw [List.length_map,List.length_take];omega) (hVf (a+k)) d' T' w7
     have h3b:=finE_len hR (a+k) han
     have sm2:=smarks_ev (stW L (a+k) (i+1)) (by show (finE (L.take (a+k))).length≤_;omega) d' T' w7
     have sl2:=slast_ev (stW L (a+k) (i+1)) d' T' w7
     have ss:=rsames_ev (Sl.grown ((L.take (a+k)).map normI)) ⟨G.nil,L.take (a+k),fun h=>by rw [hGn h,List.take_nil]⟩ (hVf (a+k)) (fun x hx=>(made_itsB' hLm x (List.mem_of_mem_take hx)).2.1) (by rw [Sl.grown_l,List.length_map,List.length_take];omega)
     rw [Sl.grown_l,sames_norm fun x hx=>same_norm (hLm x (List.mem_of_mem_take hx)).1 (hLm x (List.mem_of_mem_take hx)).2.1] at ss
     have sk2:=rmsame_ev (Sl.grown (finE (L.take (a+k)))) F (by rw [Sl.grown_l];omega)
     rw [show ((Sl.grown (finE (L.take (a+k)))).l == F.l) = true by rw [Sl.grown_l,hF,beq_self_eq_true]] at sk2
     simp only [Sl.grown_l] at sk2
     have hV2l:((L.take (a+k)).map normI).length = a+k:=by rw [List.length_map,List.length_take];omega
     have hTl:(L.take (a+k)).length = a+k:=by rw [List.length_take];omega
     have w7':Shp ((L.take (a+k)).map normI) d' T':=w7
     simp only [stW,RSt.A,Sl.grown_l] at w3 w6 si2 sm2 sl2 ss
     try rw [← hV] at w3 w6
     rw [← hFA,← hgN] at w3 w6
     simp only [hTl,hV2l] at ss si2
     obtain ⟨j,hj⟩:∃ j,j = i+1:=⟨_,rfl⟩
     obtain ⟨j2,hj2⟩:∃ j2,j2 = i+2:=⟨_,rfl⟩
     obtain ⟨b,hb⟩:∃ b,b = a+k:=⟨_,rfl⟩
     rw [← hj] at w5 w6 w8 si2 sm2 sl2
     rw [← hb] at w6 si2 sm2 sl2 ss sk2 hV2l hTl w7' h3b hF
     obtain ⟨V2,hV2⟩:∃ V,V = (L.take b).map normI:=⟨_,rfl⟩
     obtain ⟨FB,hFB⟩:∃ F,F = finE (L.take b):=⟨_,rfl⟩
     obtain ⟨gB,hgB⟩:∃ g,g = (Sl.grown FB).nil:=⟨_,rfl⟩
     obtain ⟨gV,hgV⟩:∃ g,g = (Sl.grown V2).nil:=⟨_,rfl⟩
     rw [← hV2] at si2 ss hV2l w7'
     rw [← hgV] at si2 ss
     rw [← hFB,← hgB] at sm2 sk2
     try rw [← hV2] at w6
     rw [← hFB,← hgB] at w6 si2 sl2
     try rw [← hV2] at sm2 sl2
     have wA:IntKind.i64.wrap ((i:Int)+1) = (j:Int):=by rw [wrap_i64] <;> omega
     have wU:IntKind.u64.wrap (j:Int) = (j:Int):=by rw [wrap_u64];omega
     have wB:IntKind.u64.wrap ((j:Int)+1) = (j2:Int):=by rw [wrap_u64] <;> omega
     have wC:IntKind.u64.wrap (o:Int) = (o:Int):=by rw [wrap_u64];omega
     have wD:IntKind.u64.wrap ((j2:Int)+(o:Int)) = (oo:Int):=by rw [wrap_u64] <;> omega
     have wE:IntKind.i64.wrap ((a:Int)+(k:Int)) = (b:Int):=by rw [wrap_i64] <;> omega
     have hab:(a:Int)≤(b:Int):=by omega
     have hbl:(b:Int)≤(lL:Int):=by omega
     have hba:b - a = k:=by omega
     have hbl2:b≤lL:=by omega
     have w7c:=w7'
     rcases w7' with ⟨e0,-,-⟩ | ⟨e1,nb,kb,hnb,hkb,rfl,rfl⟩
     ·exfalso
      rw [e0] at hV2l
      simp only [List.length_nil] at hV2l
      have:a = 0:=by omega
      rw [this] at hs1
      exact hs1 rfl
     ·simp [-en7_12,wA,wU,wB,wC,wD,wE,hab,hbl,hba,r1,r2,r7,r8,r9,r10,r11,r12,r13,r14,hkn',w1,w2,w3,w4,w5,w6,w8,si0,si2,sm2,sl2,ss,sk2,hVl,c2,hlL.symm]
      have hen2:enter cx 7 0 12 [(12,.int .i64 j),(53,.int .i64 j),(52,.int .i64 i),(1,.vsl n2 (intsK .i64 z2) z2.length),(2,.int .i64 sk),(7,.bool true),(8,.vsl G.nil (encs L) lL),(9,.optr 0 4 0),(10,.int .i64 b),(11,.vsl F.nil (encs F.l) F.l.length),(12,.int .i64 i)] [some [.int .u64 7,.int .u64 j,.osl 1 nb 0 kb 39,.vsl gB (encs FB) FB.length],some (encs V2),some [.int .i64 200,.int .u64 7,.int .u64 j,.vsl false [] 0]] = some ([(9,.optr 0 4 0),(1,.vsl n2 (intsK .i64 z2) z2.length),(2,.int .i64 sk),(7,.bool true),(8,.vsl G.nil (encs L) lL),(10,.int .i64 b),(11,.vsl F.nil (encs F.l) F.l.length),(12,.int .i64 j)],[some [.int .u64 7,.int .u64 j,.osl 1 nb 0 kb 39,.vsl gB (encs FB) FB.length],some (encs V2)]):=by simp
      subst hgB
      subst hFB
      subst hV2
      exact ⟨j,by omega,by omega,b,by omega,F,hF,_,_,_,hen2,w7c,by rw [hnil2];rfl,rfl,rfl,rfl,rfl,rfl,rfl,rfl⟩
   ·have hlt':¬ (i:Int) < (z2.length:Int):=by omega
    obtain ⟨M,R,t,kk,v1,v2,v3,v4,v5⟩:=whole_end hR hLm ha i _ _ hS0
    have h3a:=finE_len hR a ha
    have e1:=slast_ev ⟨8,0,(stW L a i).its,(stW L a i).mks⟩ _ _ hS0
    have e2:=sepoch_ev ⟨8,0,(stW L a i).its,(stW L a i).mks⟩ _ _ hS0
    have e3:=sitems_ev ⟨8,0,(stW L a i).its,(stW L a i).mks⟩ (by show ((L.take a).map normI).length≤_;rw [List.length_map,List.length_take];omega) (hVf a) _ _ hS0
    have e4:=rmsame_ev (Sl.grown (finE (L.take a))) E (by rw [Sl.grown_l];omega)
    rw [show ((Sl.grown (finE (L.take a))).l == E.l) = true by rw [Sl.grown_l,hE,beq_self_eq_true]] at e4
    rw [← v4] at v3 v5
    simp only [stW,RSt.A,Sl.grown_l] at v2 v5 e1 e2 e3 e4
    try rw [← hV] at v2 e1 e2
    rw [← hV] at e3
    rw [← hFA,← hgN] at v2 v5 e1 e2 e3 e4
    rw [hVl] at e3
    simp [-en7_12,hen,p1,p7,p9,p10,p11,p12,hlt',v1,v2,v3,v5,e1,e2,e3,e4]

end Go.Ev.S
namespace Go.Ev.S
open Go Go.Proofs Go.Ev
end Go.Ev.S
namespace Go.Ev
open Go Go.Proofs Go.ChangeShapes Go.WideShapes Go.ChangeAt Go.RowKit
theorem handed_shaped {H:Type} {enc:TypeId × Value→H} {a:Assume} {C:Checked} {os:Os} {f:FuncId} {fn:Func} {s:ChangeSpec} {conds:List PathCond} {apart fresh handsOn again:Bool} {X:World→Array Value→Prop}
  (hX:∀ (w w':World) (args:Array Value),w.heap = w'.heap→X w args→X w' args)
  (own:ownKnob C.prog.godebug = none) (started:os.Started) (noInit:C.prog.inits.idxOf? f = none) (hfn:C.prog.funcs[f]? = some fn)
  (witness:∃ (w:World) (tape:Tape) (i:Input),w.os = os∧(w.forCall tape i).Shaped C.prog∧i.vars = []∧Input.okWide C.prog (w.forCall tape i) .any w.heap.size f i ∧
   ((s.pre enc C.prog fn conds apart (w.forCall tape i).memory i.args∧X (w.forCall tape i).memory i.args)∧sizedMet enc C.prog fn (OpenSpec.ofChange s) apart (w.forCall tape i).memory i.args)∧a.holds C.prog (lone (Frame.enter C.prog f i.args .normal) [] (w.forCall tape i)))
  (contract:∀ (W:World) (base:Nat) (args:Array Value) (ds gs:List (DataW H)) (before:List MemPlace),
   (∀ (j:Nat) t v,fn.params[j]? = some t→args[j]? = some v→Value.okWide C.prog W .any base t v) →
   DataW.Whole enc C.prog fn.params.toList s.vars apart W args.toList ds gs before→X W args→W.ShapedOpen C.prog →
   Calls C.prog f args W fun e W'=>∃ v,e = .returned v∧s.post enc C.prog fn apart fresh handsOn again W args v W') :
  ReturnsInHanded a C os f .any (fun w args=>(s.pre enc C.prog fn conds apart w args∧X w args)∧sizedMet enc C.prog fn (OpenSpec.ofChange s) apart w args) (s.post enc C.prog fn apart fresh handsOn again):=by
 refine returnsInHanded_of_calls own started noInit witness ?_
 intro w tape i _ hsh _ hok hpre _
 obtain ⟨_,_,_,fn',hfn',_,_,_,_,hval⟩:=hok
 have e:fn' = fn:=Option.some.inj (hfn'.symm.trans hfn)
 subst e
 obtain ⟨⟨⟨ds,gs,before,hw,hc⟩,hx⟩,hz⟩:=hpre
 have hw':=DataW.Whole.of_heap (w':=w.forCall tape i) (by rfl) hw
 refine (contract (w.forCall tape i) w.heap.size i.args ds gs before hval hw' (hX _ _ _ (by rfl) hx) hsh).mono fun e W' ⟨v,he,hp⟩=>?_
 subst he
 exact ChangeSpec.post_blind hp
end Go.Ev
