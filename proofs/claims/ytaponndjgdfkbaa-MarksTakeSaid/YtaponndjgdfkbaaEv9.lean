import Derived.Test.YtaponndjgdfkbaaEv8
import Derived.ChangeKeysEq
import Derived.Laws.StructEq
/-
  Each operation on data is what the operation does: '==' and '!='.
-/
namespace Go.Ev

section
variable {X : Cx} {P : Program} {ok : Nat → Prop} {w w' : World} {ι : Iota} {H H' : Heap}

theorem cellEq_run {d : Nat} {t : TypeId} {k : CK} {x y : D} {a b : Value} {r : Bool}
    (hp : P.underlying t = some .bool ∧ k = .b ∨ (∃ q, P.underlying t = some (.int q)) ∧ k = .i ∨ P.underlying t = some .string ∧ k = .s) (hx : Rep ok w ι H x a) (hy : Rep ok w ι H y b) (h : cellEq k x y = some r) :
    (Op.equalIn (d + 1) t a b).run P w = .ok r w := by
  unfold cellEq at h
  rcases hp with ⟨hp, rfl⟩ | ⟨⟨q, hp⟩, rfl⟩ | ⟨hp, rfl⟩
  · split at h <;> first | contradiction | skip
    injection h with h
    subst h
    cases hx; cases hy
    exact run_equalIn_bool' w d t _ _ hp
  · split at h <;> first | contradiction | skip
    split at h
    · rename_i he
      subst he
      injection h with h
      subst h
      cases hx; cases hy
      exact run_equalIn_int w d t _ _ _ _ hp
    · cases h
  · split at h <;> first | contradiction | skip
    injection h with h
    subst h
    cases hx; cases hy
    rw [run_equalIn_string w d t _ _ hp]
    simp

theorem cellsEq_length : ∀ {ks : List CK} {a c : List D} {r : Bool}, cellsEq ks a c = some r → a.length = ks.length ∧ c.length = ks.length
  | [], [], [], _, _ => ⟨rfl, rfl⟩
  | k :: ks, x :: a, y :: c, r, h => by
    simp only [cellsEq] at h
    split at h
    · rename_i h1 h2
      obtain ⟨k1, k2⟩ := cellsEq_length h2
      simp [k1, k2]
    · cases h
  | [], _ :: _, _, _, h | [], [], _ :: _, _, h | _ :: _, [], _, _, h | _ :: _, _ :: _, [], _, h => by simp [cellsEq] at h

theorem cellsEq_append : ∀ {ks ls : List CK} {a c b d : List D} {r : Bool}, a.length = ks.length → c.length = ks.length → cellsEq (ks ++ ls) (a ++ b) (c ++ d) = some r → ∃ p q, cellsEq ks a c = some p ∧ cellsEq ls b d = some q ∧ r = (p && q)
  | [], ls, [], [], b, d, r, _, _, h => ⟨true, r, rfl, h, by simp⟩
  | k :: ks, ls, x :: a, y :: c, b, d, r, hl, hl', h => by
    simp only [List.cons_append, cellsEq] at h
    split at h
    · rename_i p q h1 h2
      injection h with h
      obtain ⟨p', q', k1, k2, k3⟩ := cellsEq_append (by simpa using hl) (by simpa using hl') h2
      exact ⟨p && p', q', by simp [cellsEq, h1, k1], k2, by rw [← h, k3, Bool.and_assoc]⟩
    · cases h
  | [], _, _ :: _, _, _, _, _, hl, _, _ => by simp at hl
  | [], _, _, _ :: _, _, _, _, _, hl, _ => by simp at hl
  | _ :: _, _, [], _, _, _, _, hl, _, _ => by simp at hl
  | _ :: _, _, _ :: _, [], _, _, _, _, hl, _ => by simp at hl

/-- Two parts of one plain type are held against each other cell by cell. -/
def PartEq (P : Program) (d : Nat) (t : TypeId) (ks : List CK) : Prop :=
  ∀ (ok : Nat → Prop) (w : World) (ι : Iota) (H : Heap) (xs ys : List D) (vs us : Array Value) (off : Nat) (r : Bool), Rep ok w ι H (.agg xs) (.agg vs) → Rep ok w ι H (.agg ys) (.agg us) →
    off + ks.length ≤ xs.length → off + ks.length ≤ ys.length → cellsEq ks ((xs.drop off).take ks.length) ((ys.drop off).take ks.length) = some r →
    ∃ a b, (part t vs off).run P w = .ok a w ∧ (part t us off).run P w = .ok b w ∧ (Op.equalIn d t a b).run P w = .ok r w

def AggEq (P : Program) (d : Nat) (t : TypeId) (ks : List CK) : Prop :=
  ∀ (ok : Nat → Prop) (w : World) (ι : Iota) (H : Heap) (xs ys : List D) (vs us : Array Value) (r : Bool), Rep ok w ι H (.agg xs) (.agg vs) → Rep ok w ι H (.agg ys) (.agg us) →
    cellsEq ks xs ys = some r → (Op.equalIn d t (.agg vs) (.agg us)).run P w = .ok r w

theorem drop_split (xs : List D) (off k : Nat) : xs.drop off = (xs.drop off).take k ++ xs.drop (off + k) := by
  rw [← List.drop_drop, List.take_append_drop]

theorem plainFs_pre (P : Program) (g : TypeId → Option (List CK)) : ∀ (fs : List Field) (acc ks : List CK), plainFs P g fs acc = some ks → ∃ ls, ks = acc ++ ls
  | [], acc, ks, h => ⟨[], by simp only [plainFs, Option.some.injEq] at h; simp [h]⟩
  | f :: fs, acc, ks, h => by
    simp only [plainFs] at h
    split at h
    · split at h
      · obtain ⟨ls, e⟩ := plainFs_pre P g fs _ _ h
        exact ⟨_, by rw [e, List.append_assoc]⟩
      · cases h
    · cases h

theorem eqFields_run {d : Nat} {g : TypeId → Option (List CK)} (hg : ∀ t n, g t = some n → szOf P t = n.length → PartEq P d t n) {xs ys : List D} {vs us : Array Value} (hx : Rep ok w ι H (.agg xs) (.agg vs)) (hy : Rep ok w ι H (.agg ys) (.agg us)) :
    ∀ (fs : List Field) (acc ls : List CK) (r : Bool), plainFs P g fs acc = some (acc ++ ls) → cellsEq ls (xs.drop acc.length) (ys.drop acc.length) = some r → acc.length ≤ xs.length → acc.length ≤ ys.length → (Op.eqFields d vs us fs).run P w = .ok r w
  | [], acc, ls, r, h, hc, _, _ => by
    simp only [plainFs, Option.some.injEq] at h
    have : ls = [] := by simpa using h
    subst this
    obtain ⟨l1, l2⟩ := cellsEq_length hc
    rw [List.eq_nil_of_length_eq_zero l1, List.eq_nil_of_length_eq_zero l2] at hc
    simp only [cellsEq, Option.some.injEq] at hc
    subst hc
    simp [Op.eqFields]
  | f :: fs, acc, ls, r, h, hc, hlx, hly => by
    simp only [plainFs] at h
    split at h
    · rename_i ks hk
      split at h
      · rename_i hcond
        obtain ⟨h1, h2, h3, h4⟩ := hcond
        obtain ⟨ms, hms⟩ := plainFs_pre P g fs _ _ h
        have hls : ls = ks ++ ms := by
          have : acc ++ ls = acc ++ (ks ++ ms) := by rw [hms, List.append_assoc]
          exact List.append_cancel_left this
        subst hls
        obtain ⟨l1, l2⟩ := cellsEq_length hc
        simp only [List.length_drop, List.length_append] at l1 l2
        rw [drop_split xs acc.length ks.length, drop_split ys acc.length ks.length] at hc
        obtain ⟨p, q, c1, c2, c3⟩ := cellsEq_append (by simp; omega) (by simp; omega) hc
        obtain ⟨a, b, p1, p2, p3⟩ := hg f.type ks hk h3 ok w ι H xs ys vs us acc.length p hx hy (by omega) (by omega) c1
        have ih := eqFields_run hg hx hy fs (acc ++ ks) ms q (by rw [h, List.append_assoc]) (by simpa using c2) (by simp; omega) (by simp; omega)
        rw [← h1] at p1 p2
        simp only [Op.eqFields, h2, ne_eq, not_false_eq_true, if_true, Sem.run_bind, p1, p2, p3, Result.andThen_ok]
        cases p
        · simp [c3]
        · simpa [c3] using ih
      · cases h
    · cases h

theorem flatten_replicate_succ {α : Type} (n : Nat) (l : List α) : (List.replicate (n + 1) l).flatten = l ++ (List.replicate n l).flatten := by
  rw [List.replicate_succ, List.flatten_cons]

theorem eqItems_run {d : Nat} {ks : List CK} {e : TypeId} (he : PartEq P d e ks) {xs ys : List D} {vs us : Array Value} (hx : Rep ok w ι H (.agg xs) (.agg vs)) (hy : Rep ok w ι H (.agg ys) (.agg us)) :
    ∀ (m i : Nat) (r : Bool), cellsEq (List.replicate m ks).flatten (xs.drop (i * ks.length)) (ys.drop (i * ks.length)) = some r → i * ks.length ≤ xs.length → i * ks.length ≤ ys.length → (Op.eqItems d e ks.length vs us (List.range' i m)).run P w = .ok r w
  | 0, i, r, hc, _, _ => by
    obtain ⟨l1, l2⟩ := cellsEq_length hc
    have e1 : xs.drop (i * ks.length) = [] := List.eq_nil_of_length_eq_zero (by rw [l1]; rfl)
    have e2 : ys.drop (i * ks.length) = [] := List.eq_nil_of_length_eq_zero (by rw [l2]; rfl)
    rw [e1, e2] at hc
    simp only [List.replicate_zero, List.flatten_nil, cellsEq, Option.some.injEq] at hc
    subst hc
    simp [Op.eqItems]
  | m + 1, i, r, hc, hlx, hly => by
    obtain ⟨l1, l2⟩ := cellsEq_length hc
    rw [flatten_replicate_succ] at hc l1 l2
    simp only [List.length_drop, List.length_append] at l1 l2
    have hi1 : (i + 1) * ks.length = i * ks.length + ks.length := by rw [Nat.add_mul, Nat.one_mul]
    rw [drop_split xs (i * ks.length) ks.length, drop_split ys (i * ks.length) ks.length] at hc
    obtain ⟨p, q, c1, c2, c3⟩ := cellsEq_append (by simp; omega) (by simp; omega) hc
    obtain ⟨a, b, p1, p2, p3⟩ := he ok w ι H xs ys vs us (i * ks.length) p hx hy (by omega) (by omega) c1
    have ih := eqItems_run he hx hy m (i + 1) q (by rw [hi1]; exact c2) (by omega) (by omega)
    rw [List.range'_succ]
    simp only [Op.eqItems, Sem.run_bind, p1, p2, p3, Result.andThen_ok]
    cases p
    · simp [c3]
    · simpa [c3] using ih

theorem aggQ_plain {t : TypeId} {m : Nat} {ks : List CK} (h : plainTy P m t = some ks) :
    aggQ P t = some true ∨ (aggQ P t = some false ∧ ∃ k, ks = [k] ∧ (P.underlying t = some .bool ∧ k = .b ∨ (∃ q, P.underlying t = some (.int q)) ∧ k = .i ∨ P.underlying t = some .string ∧ k = .s)) := by
  cases m with
  | zero => simp [plainTy] at h
  | succ m =>
    unfold plainTy at h
    unfold aggQ
    split at h
    · rename_i hu; injection h with h; exact .inr ⟨by simp [hu], _, h.symm, .inl ⟨hu, rfl⟩⟩
    · rename_i hu; injection h with h; exact .inr ⟨by simp [hu], _, h.symm, .inr (.inl ⟨⟨_, hu⟩, rfl⟩)⟩
    · rename_i hu; injection h with h; exact .inr ⟨by simp [hu], _, h.symm, .inr (.inr ⟨hu, rfl⟩)⟩
    · rename_i hu; exact .inl (by simp [hu])
    · rename_i hu; exact .inl (by simp [hu])
    · cases h

theorem plainEq : ∀ (m d : Nat) (t : TypeId) (ks : List CK), plainTy P m t = some ks → (szOf P t = ks.length → PartEq P (d + m) t ks) ∧ (aggQ P t = some true → AggEq P (d + m) t ks)
  | 0, _, _, _, h => by simp [plainTy] at h
  | m + 1, d, t, ks, h => by
    have hagg : aggQ P t = some true → AggEq P (d + (m + 1)) t ks := by
      intro hq ok w ι H xs ys vs us r hx hy hc
      unfold plainTy at h
      unfold aggQ at hq
      split at h
      · rename_i hu; simp [hu] at hq
      · rename_i hu; simp [hu] at hq
      · rename_i hu; simp [hu] at hq
      · rename_i n' e hu
        split at h
        · rename_i ks' hk
          split at h
          · rename_i hcond
            injection h with h
            subst h
            obtain ⟨i, hi, _⟩ := info_sz (P := P) (t := e) (by omega)
            have ih := (plainEq m d e ks' hk).1 hcond.1
            rw [show d + (m + 1) = (d + m) + 1 from rfl, run_equalIn_array w (d + m) vs us hu hi]
            have hck : P.cellsOf e = ks'.length := hcond.1
            rw [hck, List.range_eq_range']
            exact eqItems_run ih hx hy n' 0 r (by simpa using hc) (by omega) (by omega)
          · cases h
        · cases h
      · rename_i fs hu
        split at h
        · cases h
        · rename_i hst
          have hfs : P.fieldsOf t = fs := by simp [Program.fieldsOf, hu]
          rw [show d + (m + 1) = (d + m) + 1 from rfl, run_equalIn_struct w (d + m) t vs us (by rw [hfs]; exact hu) (by simpa using hst), hfs]
          exact eqFields_run (g := plainTy P m) (fun t n ht hz => (plainEq m d t n ht).1 hz) hx hy fs.toList [] ks r (by simpa using h) (by simpa using hc) (Nat.zero_le _) (Nat.zero_le _)
      · cases h
    refine ⟨?_, hagg⟩
    intro hsz ok w ι H xs ys vs us off r hx hy hlx hly hc
    rcases aggQ_plain h with hq | ⟨hq, k, rfl, hkind⟩
    · obtain ⟨a, a1, a2⟩ := part_run (P := P) (t := t) (off := off) (d := .agg ((xs.drop off).take ks.length)) hx (by simp [partD, hq, hsz, hlx])
      obtain ⟨b, b1, b2⟩ := part_run (P := P) (t := t) (off := off) (d := .agg ((ys.drop off).take ks.length)) hy (by simp [partD, hq, hsz, hly])
      refine ⟨a, b, a1, b1, ?_⟩
      obtain ⟨va, rfl⟩ : ∃ va, a = .agg va := by cases a2; exact ⟨_, rfl⟩
      obtain ⟨vb, rfl⟩ : ∃ vb, b = .agg vb := by cases b2; exact ⟨_, rfl⟩
      exact hagg hq ok w ι H _ _ _ _ r a2 b2 hc
    · simp only [List.length_cons, List.length_nil, Nat.zero_add] at hlx hly hc
      have hxo : xs[off]? = some (xs[off]'(by omega)) := List.getElem?_eq_getElem (by omega)
      have hyo : ys[off]? = some (ys[off]'(by omega)) := List.getElem?_eq_getElem (by omega)
      have t1 : (xs.drop off).take 1 = [xs[off]'(by omega)] := by rw [List.drop_eq_getElem_cons (show off < xs.length by omega)]; rfl
      have t2 : (ys.drop off).take 1 = [ys[off]'(by omega)] := by rw [List.drop_eq_getElem_cons (show off < ys.length by omega)]; rfl
      rw [t1, t2] at hc
      simp only [cellsEq] at hc
      split at hc
      · rename_i p q hpq hq'
        injection hc with hc
        injection hq' with hq'
        subst hq'
        obtain ⟨a, a1, a2⟩ := part_run (P := P) (t := t) (off := off) hx (by simp only [partD, hq]; exact hxo)
        obtain ⟨b, b1, b2⟩ := part_run (P := P) (t := t) (off := off) hy (by simp only [partD, hq]; exact hyo)
        refine ⟨a, b, a1, b1, ?_⟩
        have := cellEq_run (P := P) (d := d + m) hkind a2 b2 hpq
        rw [show d + (m + 1) = d + m + 1 from rfl, this, ← hc]
        simp
      · cases hc

theorem eqGuard_none {op : BinOp} {t : TypeId} {x y : Operand} {a b : Value} (h1 : ∀ p q, a = .agg p → b = .agg q → P.eqGuardType P.depth t = false) (h2 : a = .nilIface → b = .nilIface → (isConstOp x || isConstOp y) = true) :
    (eqGuard op t x y a b).run P w = .ok () w := by
  by_cases ha : a = .nilIface ∧ b = .nilIface
  · obtain ⟨rfl, rfl⟩ := ha
    have := h2 rfl rfl
    cases x <;> cases y <;> simp [isConstOp] at this <;> cases op <;> simp [eqGuard]
  · by_cases hg : ∃ p q, a = .agg p ∧ b = .agg q
    · obtain ⟨p, q, rfl, rfl⟩ := hg
      cases op <;> simp [eqGuard, run_program, h1 p q rfl rfl]
    · cases op <;> simp only [eqGuard] <;> first | rfl | skip
      · rw [if_neg (by simp)]
        split
        · exact absurd ⟨rfl, rfl⟩ ha
        · exact absurd ⟨_, _, rfl, rfl⟩ hg
        · rfl
      · rw [if_neg (by simp)]
        split
        · exact absurd ⟨rfl, rfl⟩ ha
        · exact absurd ⟨_, _, rfl, rfl⟩ hg
        · rfl

theorem equalIn_nil_slice (d : Nat) {t e : TypeId} (hu : P.underlying t = some (.slice e)) (q : Option Addr) (n c n' c' : Nat) : (Op.equalIn (d + 1) t (.slice none n' c') (.slice q n c)).run P w = .ok q.isNone w := by
  simp only [Op.equalIn, Sem.run_bind, run_underlying hu, Result.andThen_ok, Sem.run_pure]
theorem equalIn_slice_nil (d : Nat) {t e : TypeId} (hu : P.underlying t = some (.slice e)) (q : Option Addr) (n c n' c' : Nat) : (Op.equalIn (d + 1) t (.slice q n c) (.slice none n' c')).run P w = .ok q.isNone w := by
  cases q <;> simp only [Op.equalIn, Sem.run_bind, run_underlying hu, Result.andThen_ok, Sem.run_pure, Option.isNone]
theorem equalIn_nili_nili (d : Nat) {t : TypeId} {ms : Array (String × TypeId)} (hu : P.underlying t = some (.interface ms)) : (Op.equalIn (d + 1) t .nilIface .nilIface).run P w = .ok true w := by
  simp only [Op.equalIn, Sem.run_bind, run_underlying hu, Result.andThen_ok, Sem.run_pure]
theorem equalIn_iface_nili (d : Nat) {t u : TypeId} {v : Value} {ms : Array (String × TypeId)} (hu : P.underlying t = some (.interface ms)) : (Op.equalIn (d + 1) t (.iface u v) .nilIface).run P w = .ok false w := by
  simp only [Op.equalIn, Sem.run_bind, run_underlying hu, Result.andThen_ok, Sem.run_pure]
theorem equalIn_nilp_nilp (d : Nat) {t e : TypeId} (hu : P.underlying t = some (.pointer e)) : (Op.equalIn (d + 1) t (.pointer none) (.pointer none)).run P w = .ok true w := by
  simp only [Op.equalIn, Sem.run_bind, run_underlying hu, Result.andThen_ok, Sem.run_pure, Option.isNone]
theorem equalIn_ptr_nilp (d : Nat) {t e : TypeId} {a : Addr} (hu : P.underlying t = some (.pointer e)) : (Op.equalIn (d + 1) t (.pointer (some a)) (.pointer none)).run P w = .ok false w := by
  simp only [Op.equalIn, Sem.run_bind, run_underlying hu, Result.andThen_ok, Sem.run_pure]

theorem equal_nil_slice {t e : TypeId} (hu : P.underlying t = some (.slice e)) (q : Option Addr) (n c n' c' : Nat) : (Op.equal t (.slice none n' c') (.slice q n c)).run P w = .ok q.isNone w := equalIn_nil_slice 9999 hu q n c n' c'
theorem equal_slice_nil {t e : TypeId} (hu : P.underlying t = some (.slice e)) (q : Option Addr) (n c n' c' : Nat) : (Op.equal t (.slice q n c) (.slice none n' c')).run P w = .ok q.isNone w := equalIn_slice_nil 9999 hu q n c n' c'
theorem equal_nili_nili {t : TypeId} {ms : Array (String × TypeId)} (hu : P.underlying t = some (.interface ms)) : (Op.equal t .nilIface .nilIface).run P w = .ok true w := equalIn_nili_nili 9999 hu
theorem equal_iface_nili {t u : TypeId} {v : Value} {ms : Array (String × TypeId)} (hu : P.underlying t = some (.interface ms)) : (Op.equal t (.iface u v) .nilIface).run P w = .ok false w := equalIn_iface_nili 9999 hu
theorem equal_nilp_nilp {t e : TypeId} (hu : P.underlying t = some (.pointer e)) : (Op.equal t (.pointer none) (.pointer none)).run P w = .ok true w := equalIn_nilp_nilp 9999 hu
theorem equal_ptr_nilp {t e : TypeId} {a : Addr} (hu : P.underlying t = some (.pointer e)) : (Op.equal t (.pointer (some a)) (.pointer none)).run P w = .ok false w := equalIn_ptr_nilp 9999 hu

theorem binOp_of_equal {op : BinOp} {t : TypeId} {a b : Value} {r : Bool} (ho : op = .eql ∨ op = .neq) (he : (Op.equal t a b).run P w = .ok r w)
    (hb : binOp .eql t a b = (do pure (.bool (← Op.equal t a b))) ∧ binOp .neq t a b = (do pure (.bool (!(← Op.equal t a b))))) :
    (binOp op t a b).run P w = .ok (.bool (if op = .eql then r else !r)) w := by
  rcases ho with rfl | rfl
  · rw [hb.1]; simp [he]
  · rw [hb.2]; simp [he]

theorem eqD_run {t : TypeId} {c : Bool} {x y : D} {a b : Value} {r : Bool} (hx : Rep ok w ι H x a) (hy : Rep ok w ι H y b) (h : eqD P t c x y = some r) :
    (∀ p q, a = .agg p → b = .agg q → P.eqGuardType P.depth t = false) ∧ (a = .nilIface → b = .nilIface → c = true) ∧
    (∀ op, (op = .eql ∨ op = .neq) → (binOp op t a b).run P w = .ok (.bool (if op = .eql then r else !r)) w) := by
  unfold eqD at h
  split at h
  · cases hx; cases hy
    split at h
    · rename_i hu
      injection h with h
      subst h
      exact ⟨fun _ _ h => (by cases h), fun h => (by cases h), fun op ho => binOp_of_equal ho (run_equal_bool w t _ _ hu) ⟨rfl, rfl⟩⟩
    · cases h
  · split at h
    · rename_i ks hks
      split at h
      · rename_i hcond
        obtain ⟨vs, rfl⟩ : ∃ va, a = .agg va := by cases hx; exact ⟨_, rfl⟩
        obtain ⟨us, rfl⟩ : ∃ vb, b = .agg vb := by cases hy; exact ⟨_, rfl⟩
        have he : (Op.equal t (.agg vs) (.agg us)).run P w = .ok r w := (plainEq 50 9950 t ks hks).2 hcond.1 ok w ι H _ _ _ _ r hx hy h
        exact ⟨fun _ _ _ _ => hcond.2, fun h => (by cases h), fun op ho => binOp_of_equal ho he ⟨rfl, rfl⟩⟩
      · cases h
    · cases h
  · split at h
    · rename_i e hu
      injection h with h
      subst h
      cases hx
      cases hy with
      | vnil => exact ⟨fun _ _ h => (by cases h), fun h => (by cases h), fun op ho => binOp_of_equal ho (equal_nil_slice hu _ _ _ _ _) ⟨rfl, rfl⟩⟩
      | vsl a f ha hc hr hh hlc => exact ⟨fun _ _ h => (by cases h), fun h => (by cases h), fun op ho => binOp_of_equal ho (equal_nil_slice hu _ _ _ _ _) ⟨rfl, rfl⟩⟩
    · cases h
  · split at h
    · rename_i e hu
      injection h with h
      subst h
      cases hy
      cases hx with
      | vnil => exact ⟨fun _ _ h => (by cases h), fun h => (by cases h), fun op ho => binOp_of_equal ho (equal_slice_nil hu _ _ _ _ _) ⟨rfl, rfl⟩⟩
      | vsl a f ha hc hr hh hlc => exact ⟨fun _ _ h => (by cases h), fun h => (by cases h), fun op ho => binOp_of_equal ho (equal_slice_nil hu _ _ _ _ _) ⟨rfl, rfl⟩⟩
    · cases h
  · split at h
    · rename_i e hu
      injection h with h
      subst h
      cases hy
      cases hx
      exact ⟨fun _ _ h => (by cases h), fun h => (by cases h), fun op ho => binOp_of_equal ho (equal_slice_nil hu _ _ _ _ _) ⟨rfl, rfl⟩⟩
    · cases h
  · cases hx; cases hy
    split at h
    · rename_i e hu
      split at h
      · rename_i hc
        injection h with h
        subst h
        exact ⟨fun _ _ h => (by cases h), fun _ _ => hc, fun op ho => binOp_of_equal ho (equal_nili_nili hu) ⟨rfl, rfl⟩⟩
      · cases h
    · cases h
  · cases hx; cases hy
    split at h
    · rename_i e hu
      injection h with h
      subst h
      exact ⟨fun _ _ h => (by cases h), fun h => (by cases h), fun op ho => binOp_of_equal ho (equal_iface_nili hu) ⟨rfl, rfl⟩⟩
    · cases h
  · cases hx; cases hy
    split at h
    · rename_i e hu
      injection h with h
      subst h
      exact ⟨fun _ _ h => (by cases h), fun h => (by cases h), fun op ho => binOp_of_equal ho (equal_nilp_nilp hu) ⟨rfl, rfl⟩⟩
    · cases h
  · cases hx; cases hy
    split at h
    · rename_i e hu
      injection h with h
      subst h
      exact ⟨fun _ _ h => (by cases h), fun h => (by cases h), fun op ho => binOp_of_equal ho (equal_ptr_nilp hu) ⟨rfl, rfl⟩⟩
    · cases h
  · cases hx; cases hy
    split at h
    · rename_i e hu
      injection h with h
      subst h
      exact ⟨fun _ _ h => (by cases h), fun h => (by cases h), fun op ho => binOp_of_equal ho (equal_ptr_nilp hu) ⟨rfl, rfl⟩⟩
    · cases h
  · cases h

theorem binOp_run {op : BinOp} {t : TypeId} {x y : Operand} {p q d : D} {a b : Value} (hx : Rep ok w ι H p a) (hy : Rep ok w ι H q b) (h : binD P op t (isConstOp x || isConstOp y) p q = some d) :
    ∃ v, (do eqGuard op t x y a b; binOp op t a b : Sem Value).run P w = .ok v w ∧ Rep ok w ι H d v := by
  have fin : (∀ p q, a = .agg p → b = .agg q → P.eqGuardType P.depth t = false) → (a = .nilIface → b = .nilIface → (isConstOp x || isConstOp y) = true) → ∀ v, (binOp op t a b).run P w = .ok v w →
      (do eqGuard op t x y a b; binOp op t a b : Sem Value).run P w = .ok v w := by
    intro h1 h2 v hv
    rw [Sem.run_bind, eqGuard_none h1 h2]
    exact hv
  unfold binD at h
  split at h
  · cases hx; cases hy
    rename_i k a k' b
    obtain ⟨v, h1, h2⟩ := shiftD_run (P := P) (ok := ok) (w := w) (ι := ι) (H := H) (t := t) (k' := k') (.inl rfl) h
    exact ⟨v, fin (fun _ _ h => by cases h) (fun h => by cases h) v h1, h2⟩
  · cases hx; cases hy
    rename_i k a k' b
    obtain ⟨v, h1, h2⟩ := shiftD_run (P := P) (ok := ok) (w := w) (ι := ι) (H := H) (t := t) (k' := k') (.inr rfl) h
    exact ⟨v, fin (fun _ _ h => by cases h) (fun h => by cases h) v h1, h2⟩
  · rename_i op' k a k' b hns1 hns2
    split at h
    · rename_i hk
      subst hk
      cases hx; cases hy
      obtain ⟨v, h1, h2⟩ := intD_run (P := P) (ok := ok) (w := w) (ι := ι) (H := H) (t := t) (fun e => by subst e; simp_all) (fun e => by subst e; simp_all) h
      exact ⟨v, fin (fun _ _ h => by cases h) (fun h => by cases h) v h1, h2⟩
    · cases h
  · cases hx; cases hy
    obtain ⟨v, h1, h2⟩ := strD_run (P := P) (ok := ok) (w := w) (ι := ι) (H := H) (t := t) h
    exact ⟨v, fin (fun _ _ h => by cases h) (fun h => by cases h) v h1, h2⟩
  · cases he : eqD P t (isConstOp x || isConstOp y) p q with
    | none => simp [he] at h
    | some r =>
      simp only [he, Option.map_some, Option.some.injEq] at h
      subst h
      obtain ⟨e2, e3, e4⟩ := eqD_run hx hy he
      exact ⟨.bool r, fin e2 e3 _ (by rw [e4 .eql (.inl rfl)]; simp), .bool _⟩
  · cases he : eqD P t (isConstOp x || isConstOp y) p q with
    | none => simp [he] at h
    | some r =>
      simp only [he, Option.map_some, Option.some.injEq] at h
      subst h
      obtain ⟨e2, e3, e4⟩ := eqD_run hx hy he
      exact ⟨.bool !r, fin e2 e3 _ (by rw [e4 .neq (.inr rfl)]; simp), .bool _⟩
  · cases h

end
end Go.Ev
