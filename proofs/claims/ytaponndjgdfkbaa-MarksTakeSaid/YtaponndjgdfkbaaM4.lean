import Derived.Test.YtaponndjgdfkbaaM3
namespace Go.Ev
open Go Go.Proofs
/-- An item: an entry of a sequence, or numbers of it that are lost. -/
structure It where
  id : List UInt8
  gap : Bool
  fr : Int
  to : Int
  seq : Int
  real : Int
  mono : Int
  boot : List UInt8
  fields : D
def It.cells (i : It) : List D := ofBytes i.id ++ ([.bool i.gap, .int .u64 i.fr, .int .u64 i.to, .int .u64 i.seq, .int .u64 i.real, .int .u64 i.mono] ++ (ofBytes i.boot ++ [i.fields]))
def isFields : D → Bool
  | .vsl .. => true
  | _ => false
structure It.Ok (i : It) : Prop where
  id : i.id.length = 16
  boot : i.boot.length = 16
  fr : 0 ≤ i.fr ∧ i.fr < 18446744073709551616
  to : 0 ≤ i.to ∧ i.to < 18446744073709551616
  seq : 0 ≤ i.seq ∧ i.seq < 18446744073709551616
  fields : isFields i.fields = true
theorem drop_bytes {s : List UInt8} {n : Nat} (h : s.length ≤ n) : (ofBytes s).drop n = [] := List.drop_eq_nil_of_le (by simpa using h)
theorem isFields_free {d : D} (h : isFields d = true) : idFree d = true := by
  cases d <;> simp [isFields] at h <;> rfl
end Go.Ev
namespace Go.Ev.S1
open Go Go.Proofs Go.Ev

def mayM (l : List Mk) (id : List UInt8) : Int :=
  if rightM l = false then 1 else if l.length = 4 ∧ find? (fun m => m.id == id) l 0 < 0 then 15 else 0
theorem may_ev (l : List Mk) (hl : ∀ m ∈ l, m.Ok) (hn : l.length < 9223372036854775807) (nil : Bool) (hnil : nil = true → l = []) (id : List UInt8) (hid : id.length = 16) :
    call cx 31 [.vsl nil (mks l) l.length, .agg (ofBytes id)] [] = some (.int .i64 (mayM l id), []) := by
  have hr := right_ev l hl hn nil hnil
  have hf := find_ev l hl hn nil hnil id hid
  refine call_run Try.func31 rfl rfl ?_
  cases h : rightM l with
  | false =>
    rw [h] at hr
    simp [Try.f31, hr, mayM, h]
  | true =>
    rw [h] at hr
    by_cases h4 : l.length = 4
    · rw [h4] at hf hr
      by_cases hlt : find? (fun m => m.id == id) l 0 < 0
      · simp [Try.f31, hr, mayM, h, h4, hf, hid, hlt]
      · simp [Try.f31, hr, mayM, h, h4, hf, hid, hlt]
    · have h4' : ¬ ((l.length : Int) = 4) := by omega
      simp [Try.f31, hr, mayM, h, h4, h4']

theorem getM_id (l : List Mk) (id : List UInt8) : (getM l id).id = id := by
  unfold getM
  cases h : l.find? (fun m => m.id == id) with
  | none => rfl
  | some m => simpa using List.find?_some h
theorem getM_ok {l : List Mk} (hl : ∀ m ∈ l, m.Ok) {id : List UInt8} (hid : id.length = 16) : (getM l id).Ok := by
  unfold getM
  cases h : l.find? (fun m => m.id == id) with
  | none => exact ⟨hid, by simp, by simp, by simp⟩
  | some m => exact hl m (List.mem_of_find?_eq_some h)

/-- A mark behind an item, where it goes on. -/
def stepM (m : Mk) (it : It) (over : Bool) : Mk :=
  if it.gap then { m with seq := it.to, lost := moreM m.lost (IntKind.u64.wrap (IntKind.u64.wrap (it.to - it.fr) + 1)) }
  else { m with seq := it.seq, over := if over then moreM m.over 1 else m.over }
def goesM (m : Mk) (it : It) : Bool :=
  if it.gap then !(decide (it.fr ≤ m.seq) || decide (it.to < it.fr)) else !decide (it.seq ≤ m.seq)

theorem mayM_le {l : List Mk} {id : List UInt8} (h : mayM l id = 0) : l.length ≤ 4 := by
  unfold mayM at h
  split at h
  · cases h
  · rename_i hr
    rw [Bool.not_eq_false, rightM, Bool.and_eq_true] at hr
    exact of_decide_eq_true hr.1
theorem moreM_bnd {v n : Int} (hv : 0 ≤ v ∧ v < 18446744073709551616) (hn : 0 ≤ n) : 0 ≤ moreM v n ∧ moreM v n < 18446744073709551616 := by
  unfold moreM
  by_cases h : u64max - v < n
  · rw [if_pos h]; decide
  · rw [if_neg h]; unfold u64max at h; omega
theorem stepM_ok {m : Mk} (hm : m.Ok) {it : It} (hi : it.Ok) (over : Bool) : (stepM m it over).Ok := by
  have hw : 0 ≤ IntKind.u64.wrap (IntKind.u64.wrap (it.to - it.fr) + 1) := by
    simp only [IntKind.wrap, IntKind.signed, IntKind.bits, Bool.false_and, Bool.false_eq_true, if_false]
    omega
  unfold stepM
  split
  · exact ⟨hm.len, hi.to, moreM_bnd hm.lost hw, hm.over⟩
  · refine ⟨hm.len, hi.seq, hm.lost, ?_⟩
    cases over with
    | false => exact hm.over
    | true => exact moreM_bnd hm.over (by decide)

theorem take_err (l : List Mk) (hl : ∀ m ∈ l, m.Ok) (hn : l.length < 9223372036854775807) (nil : Bool) (hnil : nil = true → l = []) (it : It) (hi : it.Ok) (over : Bool) (hc : mayM l it.id ≠ 0) :
    call cx 10 [.vsl nil (mks l) l.length, .agg it.cells, .bool over] [] = some (.tup [.vsl true [] 0, .int .i64 (mayM l it.id)], []) := by
  have hm := may_ev l hl hn nil hnil it.id hi.id
  have hid := hi.id
  have hb := hi.boot
  have hf := isFields_free hi.fields
  refine call_run Try.func10 rfl rfl ?_
  simp [Try.f10, It.cells, hid, hb, hf, hm, hc, closed_free, List.take_append, List.drop_append, drop_bytes]

theorem take_order (l : List Mk) (hl : ∀ m ∈ l, m.Ok) (nil : Bool) (hnil : nil = true → l = []) (it : It) (hi : it.Ok) (over : Bool) (hc : mayM l it.id = 0) (hg : goesM (getM l it.id) it = false) :
    call cx 10 [.vsl nil (mks l) l.length, .agg it.cells, .bool over] [] = some (.tup [.vsl true [] 0, .int .i64 13], []) := by
  have hn := mayM_le hc
  have hm := may_ev l hl (by omega) nil hnil it.id hi.id
  have hge := get_ev l hl (by omega) nil hnil it.id hi.id
  have hid := hi.id
  have hb := hi.boot
  have hf := isFields_free hi.fields
  have hgid := getM_id l it.id
  rw [hc] at hm
  unfold goesM at hg
  refine call_run Try.func10 rfl rfl ?_
  cases hgap : it.gap with
  | true =>
    rw [hgap, if_pos rfl, Bool.not_eq_false'] at hg
    by_cases h1 : it.fr ≤ (getM l it.id).seq
    · simp [Try.f10, It.cells, hid, hb, hf, hm, closed_free, List.take_append, List.drop_append, drop_bytes, hge, hgid, hgap, Mk.cells, h1]
    · have h2 : it.to < it.fr := by simpa [h1] using hg
      simp [Try.f10, It.cells, hid, hb, hf, hm, closed_free, List.take_append, List.drop_append, drop_bytes, hge, hgid, hgap, Mk.cells, h1, h2]
  | false =>
    rw [hgap, if_neg (by decide)] at hg
    have h1 : it.seq ≤ (getM l it.id).seq := by simpa using hg
    simp [Try.f10, It.cells, hid, hb, hf, hm, closed_free, List.take_append, List.drop_append, drop_bytes, hge, hgid, hgap, Mk.cells, h1]

theorem take_ok (l : List Mk) (hl : ∀ m ∈ l, m.Ok) (nil : Bool) (hnil : nil = true → l = []) (it : It) (hi : it.Ok) (over : Bool) (hc : mayM l it.id = 0) (hg : goesM (getM l it.id) it = true) :
    call cx 10 [.vsl nil (mks l) l.length, .agg it.cells, .bool over] [] =
      some (.tup [.osl 0 ((putM l (stepM (getM l it.id) it over)).length * 19) 0 (putM l (stepM (getM l it.id) it over)).length 19, .int .i64 0], [some (mks (putM l (stepM (getM l it.id) it over)))]) := by
  have hn := mayM_le hc
  have hm := may_ev l hl (by omega) nil hnil it.id hi.id
  have hge := get_ev l hl (by omega) nil hnil it.id hi.id
  have hid := hi.id
  have hb := hi.boot
  have hf := isFields_free hi.fields
  have hgid := getM_id l it.id
  have hgok := getM_ok hl hi.id
  have hp := put_ev l hl (by omega) nil hnil _ (stepM_ok hgok hi over)
  rw [hc] at hm
  generalize hP : putM l (stepM (getM l it.id) it over) = P at hp ⊢
  unfold goesM at hg
  have hlen := hgok.len
  refine call_run Try.func10 rfl rfl ?_
  cases hgap : it.gap with
  | true =>
    rw [hgap, if_pos rfl, Bool.not_eq_true', Bool.or_eq_false_iff, decide_eq_false_iff_not, decide_eq_false_iff_not] at hg
    have h1 : ¬ it.fr ≤ (getM l it.id).seq := hg.1
    have h2 : ¬ it.to < it.fr := hg.2
    have hw : 0 ≤ IntKind.u64.wrap (IntKind.u64.wrap (it.to - it.fr) + 1) ∧ IntKind.u64.wrap (IntKind.u64.wrap (it.to - it.fr) + 1) ≤ u64max := by
      simp only [IntKind.wrap, IntKind.signed, IntKind.bits, Bool.false_and, Bool.false_eq_true, if_false, u64max]
      omega
    have hmo := more_ev (getM l it.id).lost _ ⟨hgok.lost.1, by have := hgok.lost.2; unfold u64max; omega⟩ hw
    simp [stepM, hgap, Mk.cells, hgid] at hp
    simp [Try.f10, It.cells, hid, hb, hf, hm, closed_free, List.take_append, List.drop_append, drop_bytes, hge, hgid, hgap, Mk.cells, h1, h2, hmo, hp]
  | false =>
    rw [hgap, if_neg (by decide)] at hg
    have h1 : ¬ it.seq ≤ (getM l it.id).seq := by simpa using hg
    have hmo := more_ev (getM l it.id).over 1 ⟨hgok.over.1, by have := hgok.over.2; unfold u64max; omega⟩ (by decide)
    cases over with
    | true =>
      simp [stepM, hgap, Mk.cells, hgid] at hp
      simp [Try.f10, It.cells, hid, hb, hf, hm, closed_free, List.take_append, List.drop_append, drop_bytes, hge, hgid, hgap, Mk.cells, h1, hmo, hp]
    | false =>
      simp [stepM, hgap, Mk.cells, hgid] at hp
      simp [Try.f10, It.cells, hid, hb, hf, hm, closed_free, List.take_append, List.drop_append, drop_bytes, hge, hgid, hgap, Mk.cells, h1, hp]
end Go.Ev.S1
