import Derived.Test.YtaponndjgdfkbaaEvT1
namespace Go.Ev
open Go Go.Proofs

/-- A mark. -/
structure Mk where
  id : List UInt8
  seq : Int
  lost : Int
  over : Int
  deriving DecidableEq, BEq
def Mk.cells (m : Mk) : List D := ofBytes m.id ++ [.int .u64 m.seq, .int .u64 m.lost, .int .u64 m.over]
def mks (l : List Mk) : List D := (l.map Mk.cells).flatten
structure Mk.Ok (m : Mk) : Prop where
  len : m.id.length = 16
  seq : 0 ≤ m.seq ∧ m.seq < 18446744073709551616
  lost : 0 ≤ m.lost ∧ m.lost < 18446744073709551616
  over : 0 ≤ m.over ∧ m.over < 18446744073709551616



theorem cellsEq_bytes : ∀ (x y : List UInt8), x.length = y.length → cellsEq (List.replicate x.length .i) (ofBytes x) (ofBytes y) = some (x == y)
  | [], [], _ => rfl
  | a :: x, b :: y, h => by
    have ih := cellsEq_bytes x y (by simpa using h)
    simp only [List.length_cons, List.replicate_succ, ofBytes, List.map_cons, cellsEq, cellEq]
    simp only [ofBytes] at ih
    rw [ih]
    have : ((a.toNat : Int) == (b.toNat : Int)) = (a == b) := by
      rw [Bool.eq_iff_iff]
      simp only [beq_iff_eq, Int.natCast_inj]
      exact ⟨fun h => UInt8.toNat_inj.1 h, fun h => by rw [h]⟩
    simp [this]
  | [], _ :: _, h => by simp at h
  | _ :: _, [], h => by simp at h

theorem cellsEq16 {x y : List UInt8} (hx : x.length = 16) (hy : y.length = 16) :
    cellsEq [.i, .i, .i, .i, .i, .i, .i, .i, .i, .i, .i, .i, .i, .i, .i, .i] (ofBytes x) (ofBytes y) = some (x == y) := by
  have := cellsEq_bytes x y (by omega)
  rw [hx] at this
  exact this










@[simp] theorem Mk.cells_len {m : Mk} (h : m.id.length = 16) : m.cells.length = 19 := by simp [Mk.cells, h]
@[simp] theorem Mk.cells_idFree (m : Mk) : m.cells.all idFree = true := by simp [Mk.cells, idFree]
@[simp] theorem Mk.cells_idFreeL (m : Mk) : idFree.idFreeL m.cells = true := by simp [Mk.cells, idFreeL_append, idFree.idFreeL, idFree]
@[simp] theorem Mk.cells_closed (n : Nat) (m : Mk) : m.cells.all (closed n) = true := by simp [Mk.cells, closed]
@[simp] theorem Mk.cells_vFree (m : Mk) : m.cells.all vFree = true := by simp [Mk.cells, vFree]

theorem mks_len {l : List Mk} (h : ∀ m ∈ l, m.Ok) : (mks l).length = l.length * 19 := by
  induction l with
  | nil => rfl
  | cons a l ih =>
    have := ih fun m hm => h m (List.mem_cons_of_mem _ hm)
    have ha := (h a (List.mem_cons_self ..)).len
    simp only [mks, List.map_cons, List.flatten_cons, List.length_append, Mk.cells_len ha, List.length_cons] at this ⊢
    omega

theorem mks_drop {l : List Mk} (h : ∀ m ∈ l, m.Ok) : ∀ i, (mks l).drop (i * 19) = mks (l.drop i) := by
  induction l with
  | nil => intro i; simp [mks]
  | cons a l ih =>
    intro i
    cases i with
    | zero => simp
    | succ i =>
      have ha := (h a (List.mem_cons_self ..)).len
      have hd : (i + 1) * 19 = 19 + i * 19 := by omega
      simp only [mks, List.map_cons, List.flatten_cons, List.drop_succ_cons] at ih ⊢
      rw [hd, ← List.drop_drop, List.drop_left' (Mk.cells_len ha)]
      exact ih (fun m hm => h m (List.mem_cons_of_mem _ hm)) i

theorem mks_cons (m : Mk) (l : List Mk) : mks (m :: l) = m.cells ++ mks l := rfl
theorem mks_at {l : List Mk} (h : ∀ m ∈ l, m.Ok) {i : Nat} (hi : i < l.length) : (mks l).drop (i * 19) = l[i].cells ++ mks (l.drop (i + 1)) := by
  rw [mks_drop h, List.drop_eq_getElem_cons hi, mks_cons]
@[simp] theorem take_cells' {m : Mk} (h : m.id.length = 16) : m.cells.take 19 = m.cells := List.take_of_length_le (by rw [Mk.cells_len h]; omega)
theorem take_cells {m : Mk} (h : m.Ok) (r : List D) : (m.cells ++ r).take 19 = m.cells := List.take_left' (Mk.cells_len h.len)
theorem le_cells {m : Mk} (h : m.Ok) (r : List D) : 19 ≤ (m.cells ++ r).length := by rw [List.length_append, Mk.cells_len h.len]; omega
theorem mks_append (a b : List Mk) : mks (a ++ b) = mks a ++ mks b := by simp [mks]
@[simp] theorem mks_idFree (l : List Mk) : (mks l).all idFree = true := by
  induction l with
  | nil => rfl
  | cons a l ih => rw [mks_cons, List.all_append, ih, Mk.cells_idFree]; rfl

@[simp] theorem cells_allI (m : Mk) : (∀ x, x ∈ m.cells → idFree x = true) = True := eq_true (List.all_eq_true.1 (Mk.cells_idFree m))
@[simp] theorem cells_allC (m : Mk) (n : Nat) : (∀ x, x ∈ m.cells → closed n x = true) = True := eq_true (List.all_eq_true.1 (Mk.cells_closed n m))
@[simp] theorem cells_allV (m : Mk) : (∀ x, x ∈ m.cells → vFree x = true) = True := eq_true (List.all_eq_true.1 (Mk.cells_vFree m))
@[simp] theorem mks_allI (l : List Mk) : (∀ x, x ∈ mks l → idFree x = true) = True := eq_true (List.all_eq_true.1 (mks_idFree l))
@[simp] theorem mks_closed (n : Nat) (l : List Mk) : (mks l).all (closed n) = true := by
  induction l with
  | nil => rfl
  | cons a l ih => rw [mks_cons, List.all_append, ih, Mk.cells_closed]; rfl
@[simp] theorem mks_vFree (l : List Mk) : (mks l).all vFree = true := by
  induction l with
  | nil => rfl
  | cons a l ih => rw [mks_cons, List.all_append, ih, Mk.cells_vFree]; rfl
@[simp] theorem mks_allC (l : List Mk) (n : Nat) : (∀ x, x ∈ mks l → closed n x = true) = True := eq_true (List.all_eq_true.1 (mks_closed n l))
@[simp] theorem mks_allV (l : List Mk) : (∀ x, x ∈ mks l → vFree x = true) = True := eq_true (List.all_eq_true.1 (mks_vFree l))
@[simp] theorem mks_idFreeL (l : List Mk) : idFree.idFreeL (mks l) = true := by rw [idFreeL_all]; exact mks_idFree l
@[simp] theorem mks_nil : mks [] = [] := rfl

end Go.Ev

namespace Go.Ev.S1
open Go Go.Proofs Go.Ev

theorem number_ev (n b : Int) : call cx 9 [.int .i64 n, .int .i64 b] [] = some (.int .i64 (if b < 1 then 0 else (IntKind.i64.wrap (n.tmod b + b)).tmod b), []) := by
  refine call_run Try.func9 rfl rfl ?_
  by_cases h1 : b < 1
  · simp [Try.f9, h1]
  · have h2 : b ≠ 0 := by omega
    simp [Try.f9, h1, h2]

theorem eqid_ev (m : Mk) (hm : m.Ok) (id : List UInt8) (hid : id.length = 16) : call cx 48 [.agg m.cells, .vptr (ofBytes id)] [] = some (.bool (m.id == id), []) := by
  refine call_run Try.func48 rfl rfl ?_
  simp [Try.f48, Mk.cells, hm.len, hid, cellsEq16 hm.len hid]

/-- Where the first one stands that is so, or -1. -/
def find? (p : Mk → Bool) : List Mk → Int → Int
  | [], _ => -1
  | m :: l, i => if p m then i else find? p l (i + 1)



noncomputable def L47 : Code := cAt [1, 0, 1, 0, 0] (bodyOf Try.f47)
theorem loop47 (l : List Mk) (hl : ∀ m ∈ l, m.Ok) (hn : l.length < 9223372036854775807) (nil : Bool) (hnil : nil = true → l = []) (f : Nat) (caps : List D) (p : Mk → Bool) (hb : cx.byRef f = false) (hcaps : ∀ x ∈ caps, idFree x = true)
    (hg : ∀ m ∈ l, call cx f (.agg m.cells :: caps) [] = some (.bool (p m), [])) (e : Env)
    (h0 : look e 0 = some (.vsl nil (mks l) l.length)) (h1 : look e 1 = some (.fn f caps)) (h7 : look e 7 = some (.int .i64 l.length)) (h8 : look e 8 = some (.int .i64 0)) :
    Run cx 47 19 0 (fun ex e H => H = [] ∧ ((find? p l 0 = -1 ∧ ex = .exit 0) ∨ (0 ≤ find? p l 0 ∧ ex = .ret ∧ look e 4 = some (.int .i64 (find? p l 0))))) [] (code cx 47 19 0 (.loop L47) e []) := by
  have hcaps' := eq_true hcaps
  refine Run.loop (fun (i : Nat) e H => i ≤ l.length ∧ H = [] ∧ look e 0 = some (.vsl nil (mks l) l.length) ∧ look e 1 = some (.fn f caps) ∧ look e 7 = some (.int .i64 l.length) ∧ look e 8 = some (.int .i64 i) ∧ find? p l 0 = find? p (l.drop i) i) (fun i => l.length - i) ?_ 0 e [] ⟨by omega, rfl, h0, h1, h7, h8, rfl⟩
  rintro i e H ⟨hi, rfl, h0, h1, h7, h8, hf⟩
  simp only [L47, cAt, bodyOf, Try.f47, Option.getD]
  by_cases hlt : i < l.length
  · have hlt' : ((i : Int) < (l.length : Int)) := by omega
    have hd : l.drop i = l[i] :: l.drop (i + 1) := List.drop_eq_getElem_cons hlt
    have hm : l[i].Ok := hl _ (List.getElem_mem hlt)
    have hc := hg l[i] (List.getElem_mem hlt)
    have hf' : nil = false := by
      cases nil with
      | false => rfl
      | true => rw [hnil rfl] at hlt; simp at hlt
    subst hf'
    have hw : IntKind.i64.wrap ((i : Int) + 1) = ((i + 1 : Nat) : Int) := by rw [wrap_i64] <;> omega
    rw [hd, find?] at hf
    cases hp : p l[i] with
    | true =>
      rw [hp, if_pos rfl] at hf
      simp [h0, h1, h7, h8, hlt', mks_at hl hlt, take_cells hm, Mk.cells_len hm.len, hc, hb, hp, hf, hcaps']
    | false =>
      rw [hp, if_neg (by decide)] at hf
      simp [h0, h1, h7, h8, hlt', mks_at hl hlt, take_cells hm, Mk.cells_len hm.len, hc, hb, hp, hf, hcaps', hw]
      exact ⟨i + 1, by omega, by omega, rfl, rfl⟩
  · have hlt' : ¬ ((i : Int) < (l.length : Int)) := by omega
    have hd : l.drop i = [] := List.drop_eq_nil_of_le (by omega)
    rw [hd] at hf
    simp [h0, h1, h7, h8, hlt', hf, find?]

theorem index_ev (l : List Mk) (hl : ∀ m ∈ l, m.Ok) (hn : l.length < 9223372036854775807) (nil : Bool) (hnil : nil = true → l = []) (f : Nat) (caps : List D) (p : Mk → Bool) (hb : cx.byRef f = false) (hcaps : ∀ x ∈ caps, idFree x = true)
    (hg : ∀ m ∈ l, call cx f (.agg m.cells :: caps) [] = some (.bool (p m), [])) : call cx 47 [.vsl nil (mks l) l.length, .fn f caps] [] = some (.int .i64 (find? p l 0), []) := by
  refine call_run Try.func47 rfl rfl ?_
  simp [Try.f47]
  have h := loop47 l hl hn nil hnil f caps p hb hcaps hg
  simp only [L47, cAt, bodyOf, Try.f47, Option.getD] at h
  refine Run.mono (h _ ?_ ?_ ?_ ?_) ?_
  iterate 4 simp
  rintro ex e H ⟨rfl, ⟨h1, rfl⟩ | ⟨h1, rfl, h2⟩⟩
  · simp [h1]
  · simp [h2]

theorem find_ev (l : List Mk) (hl : ∀ m ∈ l, m.Ok) (hn : l.length < 9223372036854775807) (nil : Bool) (hnil : nil = true → l = []) (id : List UInt8) (hid : id.length = 16) :
    call cx 34 [.vsl nil (mks l) l.length, .agg (ofBytes id)] [] = some (.int .i64 (find? (fun m => m.id == id) l 0), []) := by
  have h := index_ev l hl hn nil hnil 48 [.vptr (ofBytes id)] (fun m => m.id == id) rfl (by simp [idFree]) (fun m hm => eqid_ev m (hl m hm) id hid)
  refine call_run Try.func34 rfl rfl ?_
  simp [Try.f34, h, hid]

theorem find?_spec (p : Mk → Bool) : ∀ (l : List Mk) (k : Int), (∃ (i : Nat) (m : Mk), l[i]? = some m ∧ i < l.length ∧ p m = true ∧ find? p l k = k + i ∧ l.find? p = some m) ∨ (find? p l k = -1 ∧ l.find? p = none)
  | [], k => .inr ⟨rfl, rfl⟩
  | m :: l, k => by
    cases hp : p m with
    | true => exact .inl ⟨0, m, rfl, by simp, hp, by simp [find?, hp], by simp [hp]⟩
    | false =>
      rcases find?_spec p l (k + 1) with ⟨i, m', h1, h2, h3, h4, h5⟩ | ⟨h1, h2⟩
      · exact .inl ⟨i + 1, m', by simpa using h1, by simpa using h2, h3, by simp [find?, hp, h4]; omega, by simp [hp, h5]⟩
      · exact .inr ⟨by simp [find?, hp, h1], by simp [hp, h2]⟩

/-- The mark of a name. -/
def getM (l : List Mk) (id : List UInt8) : Mk := (l.find? fun m => m.id == id).getD ⟨id, 0, 0, 0⟩
theorem get_ev (l : List Mk) (hl : ∀ m ∈ l, m.Ok) (hn : l.length < 9223372036854775807) (nil : Bool) (hnil : nil = true → l = []) (id : List UInt8) (hid : id.length = 16) :
    call cx 11 [.vsl nil (mks l) l.length, .agg (ofBytes id)] [] = some (.agg (getM l id).cells, []) := by
  have h := find_ev l hl hn nil hnil id hid
  refine call_run Try.func11 rfl rfl ?_
  rcases find?_spec (fun m => m.id == id) l 0 with ⟨i, m, h1, h2, h3, h4, h5⟩ | ⟨h1, h2⟩
  · have hnf : nil = false := by
      cases nil with
      | false => rfl
      | true => rw [hnil rfl] at h2; simp at h2
    subst hnf
    rw [h4] at h
    have hm : m.Ok := hl _ (List.mem_of_getElem? h1)
    have hg : l[i] = m := by rw [List.getElem?_eq_getElem h2] at h1; exact Option.some.inj h1
    simp [Try.f11, h, hid, h2, mks_at hl h2, hg, take_cells hm, hm.len, getM, h5]
  · rw [h1] at h
    simp [Try.f11, h, hid, getM, h2, Mk.cells, List.take_of_length_le]
end Go.Ev.S1
