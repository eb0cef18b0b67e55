import Derived.Test.YtdmkldmbjclifaaGreatDoorC6
import Derived.Handed
import Derived.LaidMore
namespace Go.Ev.S
open Go Go.Proofs Go.Ev
def sameR (r s : Rec) : Bool := r.seq == s.seq && (r.real == s.real && (r.mono == s.mono && (r.boot == s.boot && r.fields.l == s.fields.l)))
def sameI (x y : It) : Bool := x.id == y.id && (x.gap == y.gap && (x.fr == y.fr && (x.til == y.til && sameR x.rc y.rc)))
theorem eqPr (p q : Pr) : (p == q) = (decide (p.name = q.name) && decide (p.value = q.value)) := by
  obtain ⟨a, b⟩ := p
  obtain ⟨c, d⟩ := q
  rw [Bool.eq_iff_iff]
  simp
theorem beq_drop {a b : List Pr} {k : Nat} (ha : k < a.length) (hb : k < b.length) : (a.drop k == b.drop k) = (a[k] == b[k] && a.drop (k + 1) == b.drop (k + 1)) := by
  rw [List.drop_eq_getElem_cons ha, List.drop_eq_getElem_cons hb]
  rfl
set_option maxHeartbeats 1000000 in
theorem rpairs_ev (a b : Sl Pr) (ha : a.l.length < 1000000) (_ : b.l.length < 1000000) : call cx 100 [(.vsl a.nil (encs a.l) a.l.length), (.vsl b.nil (encs b.l) b.l.length)] [] = some (.bool (a.l == b.l), []) := by
  refine call_run Tryz.func100 rfl ⟨rfl, rfl⟩ ?_
  by_cases hne : a.l.length = b.l.length
  case neg =>
    have hne' : ¬ (a.l.length : Int) = (b.l.length : Int) := by omega
    have hf : (a.l == b.l) = false := beq_eq_false_iff_ne.2 fun e => hne (by rw [e])
    rw [hf]
    simp [Tryz.f100, hne']
  have hne' : (a.l.length : Int) = (b.l.length : Int) := by omega
  simp [Tryz.f100, hne]
  refine Run.loopThen (fun (k : Nat) e H' => k ≤ a.l.length ∧ (a.l == b.l) = (a.l.drop k == b.l.drop k) ∧ look e 0 = some (.vsl a.nil (encs a.l) a.l.length) ∧ look e 1 = some (.vsl b.nil (encs b.l) b.l.length) ∧ look e 5 = some (.int .i64 (k : Nat)) ∧ H' = []) (fun k => a.l.length - k) 0 ?_ ?_
  · simp [hne]
  rintro k e H' ⟨hk, hR, k0, k1, k5, rfl⟩
  rw [hR]
  by_cases hlt : k < a.l.length
  · have hlt' : (k : Int) < (a.l.length : Int) := by omega
    have hlb : k < b.l.length := by omega
    have hlb' : (k : Int) < (b.l.length : Int) := by omega
    have hw : IntKind.i64.wrap ((k : Int) + 1) = ((k + 1 : Nat) : Int) := by rw [wrap_i64] <;> omega
    have n1 : a.nil = false := Sl.nn hlt
    have n2 : b.nil = false := Sl.nn hlb
    have hE : (a.l[k] == b.l[k]) = (decide (a.l[k].name = b.l[k].name) && decide (a.l[k].value = b.l[k].value)) := eqPr a.l[k] b.l[k]
    rw [beq_drop hlt hlb, hE]
    by_cases h1 : a.l[k].name = b.l[k].name
    · by_cases h2 : a.l[k].value = b.l[k].value
      · simp [k0, k1, k5, hlt, hlb, hlt', hlb', n1, n2, Pr.cells, h1, h2, hw]
        exact ⟨k + 1, by omega, by omega, rfl, rfl⟩
      · simp [k0, k1, k5, hlt, hlb, hlt', hlb', n1, n2, Pr.cells, h1, h2]
    · simp [k0, k1, k5, hlt, hlb, hlt', hlb', n1, n2, Pr.cells, h1]
  · have hlt' : ¬ (k : Int) < (a.l.length : Int) := by omega
    rw [List.drop_eq_nil_of_le (by omega), List.drop_eq_nil_of_le (by omega)]
    have hlt2 : ¬ (k : Int) < (b.l.length : Int) := by omega
    simp [k0, k1, k5, hlt2, hne']
set_option maxHeartbeats 1000000 in
theorem rrec_ev (r s : Rec) (ha : r.fields.l.length < 1000000) (hb : s.fields.l.length < 1000000) : call cx 78 [.agg (Enc.cells r), .agg (Enc.cells s)] [] = some (.bool (sameR r s), []) := by
  have hp := rpairs_ev r.fields s.fields ha hb
  have t1 : List.take 16 (ofBytes r.boot.l ++ [(.vsl r.fields.nil (encs r.fields.l) r.fields.l.length)]) = ofBytes r.boot.l := by rw [List.take_append]; simp
  have t2 : List.take 16 (ofBytes s.boot.l ++ [(.vsl s.fields.nil (encs s.fields.l) s.fields.l.length)]) = ofBytes s.boot.l := by rw [List.take_append]; simp
  have d1 : List.drop 16 (ofBytes r.boot.l ++ [(.vsl r.fields.nil (encs r.fields.l) r.fields.l.length)]) = [(.vsl r.fields.nil (encs r.fields.l) r.fields.l.length)] := by rw [List.drop_append]; simp
  have d2 : List.drop 16 (ofBytes s.boot.l ++ [(.vsl s.fields.nil (encs s.fields.l) s.fields.l.length)]) = [(.vsl s.fields.nil (encs s.fields.l) s.fields.l.length)] := by rw [List.drop_append]; simp
  have b1 : (ofBytes r.boot.l).length = 16 := by simp
  have b2 : (ofBytes s.boot.l).length = 16 := by simp
  unfold sameR
  refine call_run Tryz.func78 rfl ⟨rfl, rfl⟩ ?_
  rw [Rec.cells, Rec.cells]
  cases h1 : (r.seq == s.seq) <;> cases h2 : (r.real == s.real) <;> cases h3 : (r.mono == s.mono) <;> cases h4 : (r.boot == s.boot) <;> simp [Tryz.f78, hp, t1, t2, d1, d2, b1, b2, h1, h2, h3, h4]
set_option maxHeartbeats 1000000 in
theorem ritem_ev (x y : It) (ha : x.rc.fields.l.length < 1000000) (hb : y.rc.fields.l.length < 1000000) : call cx 50 [.agg (Enc.cells x), .agg (Enc.cells y)] [] = some (.bool (sameI x y), []) := by
  have hp := rrec_ev x.rc y.rc ha hb
  have u1 : List.take 17 (ofBytes x.rc.boot.l ++ [(.vsl x.rc.fields.nil (encs x.rc.fields.l) x.rc.fields.l.length)]) = ofBytes x.rc.boot.l ++ [(.vsl x.rc.fields.nil (encs x.rc.fields.l) x.rc.fields.l.length)] := List.take_of_length_le (by simp)
  have u2 : List.take 17 (ofBytes y.rc.boot.l ++ [(.vsl y.rc.fields.nil (encs y.rc.fields.l) y.rc.fields.l.length)]) = ofBytes y.rc.boot.l ++ [(.vsl y.rc.fields.nil (encs y.rc.fields.l) y.rc.fields.l.length)] := List.take_of_length_le (by simp)
  rw [Rec.cells, Rec.cells] at hp
  simp only [List.cons_append, List.nil_append] at hp
  unfold sameI
  refine call_run Tryz.func50 rfl ⟨rfl, rfl⟩ ?_
  cases h1 : (x.id == y.id) <;> cases h2 : (x.gap == y.gap) <;> cases h3 : (x.fr == y.fr) <;> cases h4 : (x.til == y.til) <;> simp [Tryz.f50, u1, u2, hp, h1, h2, h3, h4]
end Go.Ev.S
namespace Go.Ev.S
open Go Go.Proofs Go.Ev
def sameIs : List It → List It → Bool
  | [], [] => true
  | x :: xs, y :: ys => sameI x y && sameIs xs ys
  | _, _ => false
theorem sameIs_len : ∀ {x y : List It}, sameIs x y = true → x.length = y.length
  | [], [], _ => rfl
  | _ :: xs, _ :: ys, h => by
    rw [sameIs, Bool.and_eq_true] at h
    rw [List.length_cons, List.length_cons, sameIs_len h.2]
  | [], _ :: _, h => by cases h
  | _ :: _, [], h => by cases h
set_option maxHeartbeats 2000000 in
theorem rsames_ev (a b : Sl It) (ha : ∀ x ∈ a.l, x.rc.fields.l.length < 1000000) (hb : ∀ x ∈ b.l, x.rc.fields.l.length < 1000000) (han : a.l.length < 1000000) : call cx 25 [(.vsl a.nil (encs a.l) a.l.length), (.vsl b.nil (encs b.l) b.l.length)] [] = some (.bool (sameIs a.l b.l), []) := by
  refine call_run Tryz.func25 rfl ⟨rfl, rfl⟩ ?_
  by_cases hl : a.l.length = b.l.length
  case neg =>
    have hf : sameIs a.l b.l = false := by
      cases h : sameIs a.l b.l with
      | false => rfl
      | true => exact absurd (sameIs_len h) hl
    have hl' : ¬ (a.l.length : Int) = (b.l.length : Int) := by omega
    simp [Tryz.f25, hl', hf]
  obtain ⟨r, hr⟩ : ∃ r, sameIs a.l b.l = r := ⟨_, rfl⟩
  rw [hr]
  simp [Tryz.f25, hl]
  refine Run.loopThen (fun (i : Nat) e H' => i ≤ b.l.length ∧ sameIs (a.l.drop i) (b.l.drop i) = r ∧ look e 0 = some (.vsl a.nil (encs a.l) a.l.length) ∧ look e 1 = some (.vsl b.nil (encs b.l) b.l.length) ∧ look e 5 = some (.int .i64 (i : Nat)) ∧ H' = []) (fun i => b.l.length - i) 0 ⟨Nat.zero_le _, by simpa using hr, by simp [hl], by simp, by simp, rfl⟩ ?_
  rintro i e H' ⟨hi, hR, k0, k1, k5, rfl⟩
  by_cases hlt : i < b.l.length
  · have hlt' : (i : Int) < (b.l.length : Int) := by omega
    have hla : i < a.l.length := by omega
    have hw : IntKind.i64.wrap ((i : Int) + 1) = ((i + 1 : Nat) : Int) := by rw [wrap_i64] <;> omega
    have hs := ritem_ev a.l[i] b.l[i] (ha _ (List.getElem_mem hla)) (hb _ (List.getElem_mem hlt))
    rw [List.drop_eq_getElem_cons hla, List.drop_eq_getElem_cons hlt, sameIs] at hR
    have hea : List.drop (i * 39) (encs a.l) = Enc.cells a.l[i] ++ encs (a.l.drop (i + 1)) := It.ea hla
    have heb : List.drop (i * 39) (encs b.l) = Enc.cells b.l[i] ++ encs (b.l.drop (i + 1)) := It.ea hlt
    have n1 := Sl.nn hla
    have n2 := Sl.nn hlt
    generalize a.l[i] = x at *
    generalize b.l[i] = y at *
    cases hx : sameI x y with
    | true =>
      rw [hx] at hs hR
      simp [-It.ea, k0, k1, k5, hl, hlt', n1, n2, hea, heb, hs, hw]
      exact ⟨i + 1, by omega, by omega, by simpa using hR, by omega⟩
    | false =>
      rw [hx] at hs hR
      simp [-It.ea, k0, k1, k5, hl, hlt', n1, n2, hea, heb, hs, ← hR]
  · have hi2 : i = b.l.length := by omega
    rw [List.drop_eq_nil_of_le (by omega), List.drop_eq_nil_of_le (by omega)] at hR
    replace hR : true = r := hR
    subst hR
    simp [k0, k1, k5, hl, hlt]
end Go.Ev.S
namespace Go.Ev.S
open Go Go.Proofs Go.Ev
set_option maxRecDepth 100000 in
theorem first_evB : call cx 9 [] [] = some (.bool true, []) := call_some.2 ⟨600, by kernel_rfl⟩
end Go.Ev.S
namespace Go.Ev.S
open Go Go.Proofs Go.Ev
section
variable (hd : List Pr → Bool) (sz : It → Nat) (lim : Lim)
theorem on_step {L : List It} (h : SeqR L) (hc : 1 ≤ lim.count) {a : Nat} (ha : a < L.length) : ∃ n r, 1 ≤ n ∧ a + n ≤ L.length ∧ bldGo takeC takeL hd sz lim (L.drop a) ⟨[], finB takeL hd sz lim (L.take a) [], 0, 0⟩ = (r, 0) ∧ r.used = n ∧ (L.take a).filter (goesB hd sz lim) ++ r.items = (L.take (a + n)).filter (goesB hd sz lim) ∧ r.fin = finB takeL hd sz lim (L.take (a + n)) [] := by
  have hg := goesI_drop takeC takeL hd sz lim (goesI_made hd sz lim h) a
  obtain ⟨h0, n, hn, -, hn1⟩ := bld_goes takeC takeL hd sz lim hg hc
  have hle := hn.le
  rw [List.length_drop] at hle hn1
  refine ⟨n, _, hn1 (by omega), by omega, Prod.ext rfl h0, by rw [hn.used, Nat.zero_add], ?_, ?_⟩
  · rw [hn.items, List.nil_append, List.take_add, List.filter_append]
  · rw [hn.fin, ← finB_app, ← List.take_add]
end
end Go.Ev.S
namespace Go.Ev.S
open Go Go.Proofs Go.Ev
theorem made_mayB {L : List It} (hLm : ∀ x ∈ L, MadeI x) {m : Mat} (hok : matOk m.rows.l = true) {lim : Lim} (hlo : limOk lim = true) {d : List Mk} (hd : rightM d = true) : mayB L m lim d = true := by
  unfold mayB
  rw [hlo, hok, hd, List.all_eq_true.2 fun x hx => (hLm x hx).2.1]
  rfl
theorem lim_is {lim : Lim} (h : limOk lim = true) : 1 ≤ lim.count ∧ lim.count ≤ 64 ∧ 1 ≤ lim.bytes ∧ lim.bytes ≤ 32768 ∧ 1 ≤ lim.hard ∧ lim.hard ≤ 16384 := by
  unfold limOk at h
  simp only [Bool.and_eq_true, decide_eq_true_eq] at h
  omega
structure MadeB (L : List It) (M : List Row) (lim : Lim) (r : BatS) (n : Nat) : Prop where
  bld : bldGo takeC takeL (matHolds M) szT lim L ⟨[], [], 0, 0⟩ = (r, 0)
  le : n ≤ L.length
  used : r.used = n
  items : r.items = (L.take n).filter (goesB (matHolds M) szT lim)
  bytes : r.bytes = sumB szT r.items
  fin : r.fin = finB takeL (matHolds M) szT lim (L.take n) []
  stop : ∀ h : n < L.length, stopB (matHolds M) szT lim r L[n] = true
  count : (r.items.length : Int) ≤ lim.count
  small : r.items.length ≤ 1 ∨ (r.bytes : Int) ≤ lim.bytes
set_option maxRecDepth 4000 in
theorem sum_le {l : List It} (h : ∀ x ∈ l, szT x ≤ 660) {n : Nat} (hn : l.length ≤ n) : sumB szT l ≤ n * 660 := by
  have : ∀ b : List It, (∀ x ∈ b, szT x ≤ 660) → sumB szT b ≤ b.length * 660 := by
    intro b
    induction b with
    | nil => intro _; exact Nat.zero_le _
    | cons y b ih =>
      intro hy
      have h1 := ih fun x hx => hy x (List.mem_cons_of_mem _ hx)
      have h2 := hy y (List.mem_cons_self ..)
      unfold sumB at h1 ⊢
      rw [List.length_cons, Nat.add_mul, List.map_cons, List.sum_cons]
      omega
  have h1 := this l h
  have h2 : l.length * 660 ≤ n * 660 := Nat.mul_le_mul_right _ hn
  omega
end Go.Ev.S
namespace Go.Ev.S
open Go Go.Proofs Go.Ev
theorem fin_right {L : List It} (h : SeqR L) (hd : List Pr → Bool) (lim : Lim) (k : Nat) (hk : k ≤ L.length) : rightM (finB takeL hd szT lim (L.take k) []) = true := by
  have hm := finB_mark hd szT lim h k hk
  unfold rightM
  rw [hm.rises, Bool.and_true, decide_eq_true_eq]
  have := mark_len hm.rises hm.ids
  omega
theorem bld_vals {T : List It} (_ : T ≠ []) (hl : T.length ≤ 1000) (hx : ∀ x ∈ T, x.Ok) (M : Sl Row) (hm : MatB M.l) (lim : Lim) (d : Sl Mk) (hd : d.l.length ≤ 4) {r : BatS} {c : Int} (h : bldP T ⟨M⟩ lim d.l = (r, c)) :
    call cx 14 [.vsl false (encs T) T.length, .agg [(.vsl M.nil (encs M.l) M.l.length)], .agg [.int .i64 lim.count, .int .i64 lim.bytes, .int .i64 lim.hard], (.vsl d.nil (encs d.l) d.l.length)] [] = some (.tup [.agg [.vsl r.items.isEmpty (encs (r.items.map nrmF)) r.items.length, .vsl r.fin.isEmpty (encs r.fin) r.fin.length, .int .i64 r.used, .int .i64 r.bytes], .int .i64 c], []) := by
  have hb := bbuild_ev (Sl.of T) (by show T.length < _; omega) ⟨M⟩ hm lim d (by omega) hx
  have e : (Sl.of T).l = T := rfl
  rw [e, h] at hb
  exact hb
end Go.Ev.S
namespace Go.Ev.S
open Go Go.Proofs Go.Ev
def limW (lim : Lim) : Lim := ⟨64, 32768, lim.hard⟩
theorem limW_ok {lim : Lim} (h : limOk lim = true) : limOk (limW lim) = true := by
  have := lim_is h
  unfold limOk limW
  simp only [Bool.and_eq_true, decide_eq_true_eq]
  omega
theorem one_bld {L : List It} (hs : SeqR L) (hLm : ∀ x ∈ L, MadeI x) (h30 : L.length ≤ 30) {M : Sl Row} (hok : matOk M.l = true) {lim : Lim} (hlo : limOk lim = true) :
    ∃ r, bldP L ⟨M⟩ (limW lim) [] = (r, 0) ∧ r.used = L.length ∧ r.items = L.filter (goesB (matHolds M.l) szT lim) ∧ r.fin = finB takeL (matHolds M.l) szT lim L [] := by
  have hz : ∀ x ∈ L, szT x ≤ 660 := fun x hx => textL_small (hLm x hx)
  obtain ⟨r, e1, u1, i1, f1⟩ := bld_whole takeC takeL (matHolds M.l) szT (limW lim) (goesI_made (matHolds M.l) szT (limW lim) hs) (by show (_ : Int) < 64; omega) (by
    have := sum_le hz (n := 30) h30
    show (_ : Int) ≤ 32768
    omega)
  refine ⟨r, ?_, u1, ?_, ?_⟩
  · unfold bldP
    rw [if_pos (made_mayB hLm hok (limW_ok hlo) (d := []) rfl)]
    exact e1
  · rw [i1, goes_hard (lim := limW lim) (lim' := lim) rfl]
  · rw [f1, fin_hard (lim := limW lim) (lim' := lim) rfl]
theorem on_bld {L : List It} (hs : SeqR L) (hLm : ∀ x ∈ L, MadeI x) {M : Sl Row} (hok : matOk M.l = true) {lim : Lim} (hlo : limOk lim = true) {a : Nat} (ha : a < L.length) :
    ∃ n r, 1 ≤ n ∧ a + n ≤ L.length ∧ bldP (L.drop a) ⟨M⟩ lim (finB takeL (matHolds M.l) szT lim (L.take a) []) = (r, 0) ∧ r.used = n ∧ (L.take a).filter (goesB (matHolds M.l) szT lim) ++ r.items = (L.take (a + n)).filter (goesB (matHolds M.l) szT lim) ∧ r.fin = finB takeL (matHolds M.l) szT lim (L.take (a + n)) [] := by
  obtain ⟨n, r, h1, h2, h3, h4, h5, h6⟩ := on_step (matHolds M.l) szT lim hs (lim_is hlo).1 ha
  refine ⟨n, r, h1, h2, ?_, h4, h5, h6⟩
  unfold bldP
  rw [if_pos (made_mayB (fun x hx => hLm x (List.mem_of_mem_drop hx)) hok hlo (fin_right hs _ _ a (by omega)))]
  exact h3
theorem sameIs_self : ∀ l : List It, sameIs l l = true
  | [] => rfl
  | x :: l => by
    show (sameI x x && sameIs l l) = true
    rw [sameIs_self l, Bool.and_true]
    unfold sameI sameR
    simp
def OnH (I : List It) (e : Env) (H : Heap) : Prop :=
  (I = [] ∧ look e 12 = some (.vsl true [] 0)) ∨ (I ≠ [] ∧ ∃ n q T, n = I.length * 39 ∧ q = I.length ∧ ((look e 12 = some (.osl 0 n 0 q 39) ∧ H = some (encs (I.map nrmF)) :: T) ∨ (∃ x, look e 12 = some (.osl 1 n 0 q 39) ∧ H = some x :: some (encs (I.map nrmF)) :: T)))
theorem onH_nil {I : List It} {e : Env} {H : Heap} (hI : I = []) (h : look e 12 = some (.vsl true [] 0)) : OnH I e H := .inl ⟨hI, h⟩
theorem onH_0 {I : List It} {e : Env} {n q : Nat} {X : List D} {T : Heap} (hI : I ≠ []) (h : look e 12 = some (.osl 0 n 0 q 39)) (hn : n = I.length * 39) (hq : q = I.length) (hX : X = encs (I.map nrmF)) : OnH I e (some X :: T) := .inr ⟨hI, n, q, T, hn, hq, .inl ⟨h, by rw [hX]⟩⟩
theorem onH_1 {I : List It} {e : Env} {n q : Nat} {x X : List D} {T : Heap} (hI : I ≠ []) (h : look e 12 = some (.osl 1 n 0 q 39)) (hn : n = I.length * 39) (hq : q = I.length) (hX : X = encs (I.map nrmF)) : OnH I e (some x :: some X :: T) := .inr ⟨hI, n, q, T, hn, hq, .inr ⟨x, h, by rw [hX]⟩⟩
set_option maxRecDepth 4000 in
set_option maxHeartbeats 16000000 in
theorem bonand_ev (n1 : Bool) (z1 : List Int) (h1 : n1 = true → z1 = []) (n2 : Bool) (z2 : List Int) (h2 : n2 = true → z2 = []) : call cx 7 [.vsl n1 (intsK .i64 z1) z1.length, .vsl n2 (intsK .i64 z2) z2.length] [] = some (.bool true, []) := by
  have f0 := first_evB
  refine call_run Tryz.func7 rfl ⟨rfl, rfl⟩ ?_
  by_cases hz1 : z1.length ≤ 300
  case neg =>
    have hz1' : (300 : Int) < (z1.length : Int) := by omega
    simp [Tryz.f7, f0, hz1']
  have hz1' : ¬ (300 : Int) < (z1.length : Int) := by omega
  by_cases hz2 : z2.length ≤ 30
  case neg =>
    have hz2' : (30 : Int) < (z2.length : Int) := by omega
    simp [Tryz.f7, f0, hz1', hz2']
  have hz2' : ¬ (30 : Int) < (z2.length : Int) := by omega
  obtain ⟨i, k1, hi5, ha⟩ := asks_ev n2 z2 h2 (by omega) 0
  obtain ⟨lim, k2, hlo, hl⟩ := limits_ev n2 z2 h2 (by omega) k1
  obtain ⟨q, hq, L, k3, hL30, hLm, -, hseq, hsh⟩ := items_evr n1 z1 h1 (by omega) 0 30 (by decide)
  have hmb := asks_b i
  have hmo := asks_ok i hi5
  generalize (asksM i).rows = M at *
  have sf2 := seqD_free n2 z2
  have sl2 := seqD_len n2 z2
  have sc2 := seqD_cl n2 z2
  have sf1 := seqD_free n1 z1
  have sl1 := seqD_len n1 z1
  have sc1 := seqD_cl n1 z1
  replace ha : call cx 10 [.optr 0 2 0] [some [.vsl n2 (intsK .i64 z2) z2.length, .int .i64 0]] = some (.agg [(.vsl M.nil (encs M.l) M.l.length)], [some (seqD n2 z2 k1)]) := ha
  obtain ⟨r, e1, u1, i1, f1⟩ := one_bld hseq hLm hL30 hmo hlo
  have hxo : ∀ x ∈ L, x.Ok := fun x hx => (hLm x hx).1
  have hfr : ∀ k ≤ L.length, (finB takeL (matHolds M.l) szT lim (L.take k) []).length ≤ 4 := fun k hk => rightM_le (fin_right hseq _ _ k hk)
  rcases hsh with ⟨rfl, rfl⟩ | ⟨hne, n', m', hn', hm', rfl⟩
  · have b1 := bbuild_ev (Sl.grown []) (by decide) ⟨M⟩ hmb (limW lim) .none (by decide) (fun x hx => by cases hx)
    rw [Sl.grown_l, Sl.none_l, e1] at b1
    unfold bOut at b1
    rw [u1, i1, f1] at b1
    replace b1 : call cx 14 [.vsl true [] 0, .agg [(.vsl M.nil (encs M.l) M.l.length)], .agg [.int .i64 64, .int .i64 32768, .int .i64 lim.hard], .vsl true [] 0] [] = some (.tup [.agg [.vsl true [] 0, .vsl true [] 0, .int .i64 0, .int .i64 r.bytes], .int .i64 0], []) := b1
    replace hq : call cx 13 [.optr 0 2 0, .int .i64 30] [some [.vsl n1 (intsK .i64 z1) z1.length, .int .i64 0]] = some (.vsl true [] 0, [some (seqD n1 z1 k3)]) := hq
    have g1 := rsames_ev .none .none (fun x hx => by cases hx) (fun x hx => by cases hx) (by decide)
    replace g1 : call cx 25 [.vsl true [] 0, .vsl true [] 0] [] = some (.bool true, []) := g1
    have g2 := krsame_ev .none .none (by decide)
    replace g2 : call cx 26 [.vsl true [] 0, .vsl true [] 0] [] = some (.bool true, []) := g2
    simp [Tryz.f7, f0, hz1', hz2', ha, hl, hq, b1, sf1, sf2]
    refine Run.loopThen (fun (_ : Nat) e H' => look e 5 = some (.bool true) ∧ look e 7 = some (.vptr [(.vsl M.nil (encs M.l) M.l.length)]) ∧ look e 8 = some (.vptr [.int .i64 lim.count, .int .i64 lim.bytes, .int .i64 lim.hard]) ∧ look e 9 = some (.vsl true [] 0) ∧ look e 10 = some (.vptr [.vsl true [] 0, .vsl true [] 0, .int .i64 0, .int .i64 r.bytes]) ∧ look e 12 = some (.vsl true [] 0) ∧ look e 13 = some (.vsl true [] 0) ∧ look e 14 = some (.int .i64 0) ∧ H' = []) (fun j => 1000 - j) 0 ⟨by simp, by simp, by simp, by simp, by simp, by simp, by simp, by simp, rfl⟩ ?_
    rintro j e H' ⟨k5, k7, k8, k9, k10, k12, k13, k14, rfl⟩
    simp [k5, k7, k8, k9, k10, k12, k13, k14, g1, g2]
  · subst hn' hm'
    replace hq : call cx 13 [.optr 0 2 0, .int .i64 30] [some [.vsl n1 (intsK .i64 z1) z1.length, .int .i64 0]] = some (.osl 1 (L.length * 39) 0 L.length 39, [some (seqD n1 z1 k3), some (encs L)]) := hq
    have b1 := bld_vals hne (by omega) hxo M hmb (limW lim) .none (Nat.zero_le _) e1
    rw [u1] at b1
    replace b1 : call cx 14 [.vsl false (encs L) L.length, .agg [(.vsl M.nil (encs M.l) M.l.length)], .agg [.int .i64 64, .int .i64 32768, .int .i64 lim.hard], .vsl true [] 0] [] = some (.tup [.agg [.vsl r.items.isEmpty (encs (r.items.map nrmF)) r.items.length, .vsl r.fin.isEmpty (encs r.fin) r.fin.length, .int .i64 L.length, .int .i64 r.bytes], .int .i64 0], []) := b1
    simp [Tryz.f7, f0, hz1', hz2', ha, hl, hq, b1, sf1, sf2]
    obtain ⟨F, hF⟩ : ∃ F : Nat → List Mk, F = fun k => finB takeL (matHolds M.l) szT lim (L.take k) [] := ⟨_, rfl⟩
    obtain ⟨G, hG⟩ : ∃ G : Nat → List It, G = fun k => (L.take k).filter (goesB (matHolds M.l) szT lim) := ⟨_, rfl⟩
    have hGl : ∀ k, (G k).length ≤ L.length := by
      intro k
      rw [hG]
      exact Nat.le_trans (List.length_filter_le _ _) (by rw [List.length_take]; omega)
    have hF4 : ∀ k ≤ L.length, (F k).length ≤ 4 := by
      intro k hk
      rw [hF]
      exact hfr k hk
    refine Run.loopThen (fun (a : Nat) e H' => a ≤ L.length ∧ look e 5 = some (.bool true) ∧ look e 7 = some (.vptr [(.vsl M.nil (encs M.l) M.l.length)]) ∧ look e 8 = some (.vptr [.int .i64 lim.count, .int .i64 lim.bytes, .int .i64 lim.hard]) ∧ look e 9 = some (.vsl false (encs L) L.length) ∧ look e 10 = some (.vptr [.vsl r.items.isEmpty (encs (r.items.map nrmF)) r.items.length, .vsl r.fin.isEmpty (encs r.fin) r.fin.length, .int .i64 L.length, .int .i64 r.bytes]) ∧ look e 13 = some (.vsl (F a).isEmpty (encs (F a)) (F a).length) ∧ look e 14 = some (.int .i64 (a : Nat)) ∧ OnH (G a) e H') (fun a => L.length - a) 0 ⟨Nat.zero_le _, by simp, by simp, by simp, by simp, by simp, by subst hF; simp [finB], by simp, onH_nil (by subst hG; simp) (by simp)⟩ ?_
    rintro a e H' ⟨hal, k5, k7, k8, k9, k10, k13, k14, hH⟩
    by_cases hlt : a < L.length
    · have hlt' : (a : Int) < (L.length : Int) := by omega
      obtain ⟨n, r2, n1', n2', e2, u2, i2, f2⟩ := on_bld hseq hLm hmo hlo hlt
      have e2F : F a = finB takeL (matHolds M.l) szT lim (L.take a) [] := by rw [hF]
      rw [← e2F] at e2
      have f2' : r2.fin = F (a + n) := by rw [f2, hF]
      have i2' : G a ++ r2.items = G (a + n) := by rw [hG]; exact i2
      have b2 := bld_vals (r := r2) (c := 0) (T := L.drop a) (by intro h; have := congrArg List.length h; rw [List.length_drop, List.length_nil] at this; omega) (by rw [List.length_drop]; omega) (fun x hx => hxo x (List.mem_of_mem_drop hx)) M hmb lim (Sl.grown (F a)) (by rw [Sl.grown_l]; exact hF4 a hal) (by rw [Sl.grown_l]; exact e2)
      have eG : (Sl.grown (F a)).nil = (F a).isEmpty := rfl
      rw [Sl.grown_l, eG, List.length_drop, u2, f2'] at b2
      have hea : List.drop (a * 39) (encs L) = Enc.cells L[a] ++ encs (L.drop (a + 1)) := It.ea hlt
      have htk3 : List.take (L.length - a) (List.drop a L) = L.drop a := List.take_of_length_le (by rw [List.length_drop]; omega)
      obtain ⟨W, hW⟩ : ∃ W, encs (L.drop a) = W := ⟨_, rfl⟩
      have hea2 : List.drop (a * 39) (encs L) = W := by rw [← hW, It.ed]
      rw [hW] at b2
      have hWl : W.length = (L.length - a) * 39 := by rw [← hW, It.el, List.length_drop]
      have htk4 : List.take ((L.length - a) * 39) W = W := List.take_of_length_le (by omega)
      obtain ⟨c, hc⟩ : ∃ c, L.length - a = c := ⟨_, rfl⟩
      have hnl1 : ¬ (n : Int) < 1 := by omega
      have hnl2 : ¬ c < n := by omega
      have hw1 : IntKind.i64.wrap ((L.length : Int) - (a : Int)) = (c : Int) := by rw [wrap_i64] <;> omega
      have hw2 : IntKind.i64.wrap ((a : Int) + (n : Int)) = ((a + n : Nat) : Int) := by rw [wrap_i64] <;> omega
      obtain ⟨mm, hmm⟩ : ∃ mm, r2.items.length = mm := ⟨_, rfl⟩
      have hsum : (G a).length + mm ≤ 30 := by
        have h := congrArg List.length i2'
        rw [List.length_append, hmm] at h
        have := hGl (a + n)
        omega
      have hml : (r2.items.map nrmF).length = mm := by rw [List.length_map, hmm]
      have hm1 : mm * 104 ≤ 140737488355328 := by omega
      have hm2 : mm ≤ 140737488355328 := by omega
      have hm3 : ((G a).length + mm) * 104 ≤ 140737488355328 := by omega
      have hm4 : (G a).length + mm ≤ 140737488355328 := by omega
      have hm5 : (G a).length * 104 ≤ 140737488355328 := by omega
      have hm6 : (G a).length ≤ 140737488355328 := by omega
      rw [hmm] at b2
      by_cases hJ : r2.items = []
      · rw [hJ] at hmm b2 i2'
        have hmz : mm = 0 := hmm.symm
        subst hmz
        rw [List.append_nil] at i2'
        replace b2 : call cx 14 [.vsl false W (L.length - a), .agg [(.vsl M.nil (encs M.l) M.l.length)], .agg [.int .i64 lim.count, .int .i64 lim.bytes, .int .i64 lim.hard], .vsl (F a).isEmpty (encs (F a)) (F a).length] [] = some (.tup [.agg [.vsl true [] 0, .vsl (F (a + n)).isEmpty (encs (F (a + n))) (F (a + n)).length, .int .i64 n, .int .i64 r2.bytes], .int .i64 0], []) := b2
        rcases hH with ⟨hI0, k12⟩ | ⟨hI0, nn, qq, T, hnn, hqq, ⟨k12, rfl⟩ | ⟨x, k12, rfl⟩⟩
        · simp [k5, k7, k8, k9, k10, k12, k13, k14, hlt', hal, hea2, htk4, b2, hnl1, hnl2, hw1, hw2, -It.ea, -It.ed]
          exact ⟨a + n, by omega, by omega, ⟨rfl, rfl, rfl⟩, by omega, onH_nil (by rw [← i2']; exact hI0) (by simp)⟩
        all_goals
          subst hnn hqq
          simp [k5, k7, k8, k9, k10, k12, k13, k14, hlt', hal, hea2, htk4, b2, hnl1, hnl2, hw1, hw2, maxBytes, hm5, hm6, -It.ea, -It.ed]
          exact ⟨a + n, by omega, by omega, ⟨rfl, rfl, rfl⟩, by omega, onH_0 (n := (G a).length * 39) (q := (G a).length) (by rw [← i2']; exact hI0) (by simp) (by rw [← i2']) (by rw [← i2']) (by rw [← i2'])⟩
      · have hmz : ¬ mm = 0 := by intro h; rw [h] at hmm; exact hJ (List.length_eq_zero_iff.1 hmm)
        have hJe : r2.items.isEmpty = false := List.isEmpty_eq_false_iff.2 hJ
        rw [hJe] at b2
        rcases hH with ⟨hI0, k12⟩ | ⟨hI0, nn, qq, T, hnn, hqq, ⟨k12, rfl⟩ | ⟨x, k12, rfl⟩⟩
        · rw [hI0, List.nil_append] at i2'
          simp [k5, k7, k8, k9, k10, k12, k13, k14, hlt', hal, hea2, htk4, b2, hnl1, hnl2, hw1, hw2, maxBytes, hmz, hm1, hm2, hml, -It.ea, -It.ed]
          exact ⟨a + n, by omega, by omega, ⟨rfl, rfl, rfl⟩, by omega, onH_1 (n := mm * 39) (q := mm) (by rw [← i2']; exact hJ) (by simp) (by rw [← i2', hmm]) (by rw [← i2', hmm]) (by rw [← i2'])⟩
        all_goals
          subst hnn hqq
          simp [k5, k7, k8, k9, k10, k12, k13, k14, hlt', hal, hea2, htk4, b2, hnl1, hnl2, hw1, hw2, maxBytes, hm3, hm4, hml, -It.ea, -It.ed]
          exact ⟨a + n, by omega, by omega, ⟨rfl, rfl, rfl⟩, by omega, onH_0 (n := (G a).length * 39 + mm * 39) (q := (G a).length + mm) (by rw [← i2']; simp [hI0]) (by simp) (by rw [← i2', List.length_append, hmm, Nat.add_mul]) (by rw [← i2', List.length_append, hmm]) (by rw [← i2', List.map_append, encs_append])⟩
    · have haL : a = L.length := by omega
      subst haL
      have eF : F L.length = r.fin := by rw [hF, f1]; simp only [List.take_length]
      have eI : G L.length = r.items := by rw [hG, i1]; simp only [List.take_length]
      rw [eF] at k13
      rw [eI] at hH
      have hrl : ∀ x ∈ r.items.map nrmF, x.rc.fields.l.length < 1000000 := by
        intro x hx
        obtain ⟨y, hy, rfl⟩ := List.mem_map.1 hx
        rw [i1] at hy
        have hyL := (List.mem_filter.1 hy).1
        exact (made_b (hxo y hyL) (hLm y hyL).2.1).1
      have hr30 : (r.items.map nrmF).length ≤ 30 := by
        rw [List.length_map, i1]
        exact Nat.le_trans (List.length_filter_le _ _) hL30
      have g1 := rsames_ev (Sl.grown (r.items.map nrmF)) (Sl.grown (r.items.map nrmF)) hrl hrl (by rw [Sl.grown_l]; omega)
      have eG : (Sl.grown (r.items.map nrmF)).nil = r.items.isEmpty := by
        show (r.items.map nrmF).isEmpty = _
        cases r.items <;> rfl
      rw [Sl.grown_l, eG, sameIs_self, List.length_map] at g1
      have g2 := krsame_ev (Sl.grown r.fin) (Sl.grown r.fin) (by rw [Sl.grown_l, ← eF]; have := hF4 L.length (Nat.le_refl _); omega)
      have eG2 : (Sl.grown r.fin).nil = r.fin.isEmpty := rfl
      rw [Sl.grown_l, eG2, beq_self_eq_true] at g2
      have htkF : List.take r.items.length (r.items.map nrmF) = r.items.map nrmF := List.take_of_length_le (by rw [List.length_map]; omega)
      rcases hH with ⟨hI0, k12⟩ | ⟨hI0, nn, qq, T, hnn, hqq, ⟨k12, rfl⟩ | ⟨x, k12, rfl⟩⟩
      · rw [hI0] at g1 k10
        replace g1 : call cx 25 [.vsl true [] 0, .vsl true [] 0] [] = some (.bool true, []) := g1
        replace k10 : look e 10 = some (.vptr [.vsl true [] 0, .vsl r.fin.isEmpty (encs r.fin) r.fin.length, .int .i64 L.length, .int .i64 r.bytes]) := k10
        simp [k5, k7, k8, k9, k10, k12, k13, k14, g1, g2]
      all_goals
        have hJe : r.items.isEmpty = false := List.isEmpty_eq_false_iff.2 hI0
        rw [hJe] at g1 k10
        subst hnn hqq
        simp [k5, k7, k8, k9, k10, k12, k13, k14, g1, g2, htkF]
end Go.Ev.S
namespace Go.Ev
open Go Go.Proofs Go.ChangeShapes Go.WideShapes Go.ChangeAt Go.RowKit
theorem handed_shaped {H : Type} {enc : TypeId × Value → H} {a : Assume} {C : Checked} {os : Os} {f : FuncId} {fn : Func} {s : ChangeSpec} {conds : List PathCond} {apart fresh handsOn again : Bool} {X : World → Array Value → Prop}
    (hX : ∀ (w w' : World) (args : Array Value), w.heap = w'.heap → X w args → X w' args)
    (own : ownKnob C.prog.godebug = none) (started : os.Started) (noInit : C.prog.inits.idxOf? f = none) (hfn : C.prog.funcs[f]? = some fn)
    (witness : ∃ (w : World) (tape : Tape) (i : Input), w.os = os ∧ (w.forCall tape i).Shaped C.prog ∧ i.vars = [] ∧ Input.okWide C.prog (w.forCall tape i) .any w.heap.size f i ∧
      ((s.pre enc C.prog fn conds apart (w.forCall tape i).memory i.args ∧ X (w.forCall tape i).memory i.args) ∧ sizedMet enc C.prog fn (OpenSpec.ofChange s) apart (w.forCall tape i).memory i.args) ∧ a.holds C.prog (lone (Frame.enter C.prog f i.args .normal) [] (w.forCall tape i)))
    (contract : ∀ (W : World) (base : Nat) (args : Array Value) (ds gs : List (DataW H)) (before : List MemPlace),
      (∀ (j : Nat) t v, fn.params[j]? = some t → args[j]? = some v → Value.okWide C.prog W .any base t v) →
      DataW.Whole enc C.prog fn.params.toList s.vars apart W args.toList ds gs before → X W args → W.ShapedOpen C.prog →
      Calls C.prog f args W fun e W' => ∃ v, e = .returned v ∧ s.post enc C.prog fn apart fresh handsOn again W args v W') :
    ReturnsInHanded a C os f .any (fun w args => (s.pre enc C.prog fn conds apart w args ∧ X w args) ∧ sizedMet enc C.prog fn (OpenSpec.ofChange s) apart w args) (s.post enc C.prog fn apart fresh handsOn again) := by
  refine returnsInHanded_of_calls own started noInit witness ?_
  intro w tape i _ hsh _ hok hpre _
  obtain ⟨_, _, _, fn', hfn', _, _, _, _, hval⟩ := hok
  have e : fn' = fn := Option.some.inj (hfn'.symm.trans hfn)
  subst e
  obtain ⟨⟨⟨ds, gs, before, hw, hc⟩, hx⟩, hz⟩ := hpre
  have hw' := DataW.Whole.of_heap (w' := w.forCall tape i) (by rfl) hw
  refine (contract (w.forCall tape i) w.heap.size i.args ds gs before hval hw' (hX _ _ _ (by rfl) hx) hsh).mono fun e W' ⟨v, he, hp⟩ => ?_
  subst he
  exact ChangeSpec.post_blind hp
end Go.Ev
