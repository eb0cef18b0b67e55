import Derived.Test.YtaponndjgdfkbaaEv6
/-
  Each operation on data is what the operation does: the rest of what makes slices.
-/
namespace Go.Ev

section
variable {X : Cx} {P : Program} {ok : Nat → Prop} {w w' : World} {ι : Iota} {H H' : Heap}

theorem sliceBound_run {n : Nat} {l : Int} {k : IntKind} {c : BoundsCode} (h : 0 ≤ l ∧ l ≤ n) (w : World) : (Instr.sliceBound (.int k l) n c).run P w = .ok l.toNat w := by
  simp [Instr.sliceBound, asIntOf, h]

/-- The bounds, as the operation reckons them; the top bound is what there is. -/
theorem bounds_run {isSlice : Bool} {n c l h : Nat} {lo hi : Option D} {lov hiv : Option Value} (hl : ∀ d, lo = some d → ∃ v, lov = some v ∧ Rep ok w ι H d v) (hln : lo = none → lov = none)
    (hh : ∀ d, hi = some d → ∃ v, hiv = some v ∧ Rep ok w ι H d v) (hhn : hi = none → hiv = none) (hnc : n ≤ c) (hb : bounds n lo hi = some (l, h)) (w : World) :
    l ≤ h ∧ h ≤ n ∧ (Instr.sliceBounds isSlice n c lov hiv none).run P w = .ok (l, h, c) w := by
  unfold bounds at hb
  split at hb
  · injection hb with hb
    injection hb with h1 h2
    subst h1; subst h2
    rw [hln rfl, hhn rfl]
    exact ⟨Nat.zero_le _, Nat.le_refl _, by simp [Instr.sliceBounds]⟩
  · rename_i k a
    split at hb
    · rename_i hc
      injection hb with hb
      injection hb with h1 h2
      subst h1; subst h2
      obtain ⟨v, rfl, hr⟩ := hl _ rfl
      cases hr
      rw [hhn rfl]
      exact ⟨by omega, Nat.le_refl _, by simp [Instr.sliceBounds, sliceBound_run hc]⟩
    · cases hb
  · rename_i k a
    split at hb
    · rename_i hc
      injection hb with hb
      injection hb with h1 h2
      subst h1; subst h2
      obtain ⟨v, rfl, hr⟩ := hh _ rfl
      cases hr
      rw [hln rfl]
      refine ⟨Nat.zero_le _, by omega, ?_⟩
      simp [Instr.sliceBounds, sliceBound_run (show 0 ≤ a ∧ a ≤ (c : Int) from ⟨hc.1, by omega⟩)]
    · cases hb
  · rename_i k a k' a'
    split at hb
    · rename_i hc
      injection hb with hb
      injection hb with h1 h2
      subst h1; subst h2
      obtain ⟨v, rfl, hr⟩ := hl _ rfl
      obtain ⟨v', rfl, hr'⟩ := hh _ rfl
      cases hr; cases hr'
      refine ⟨by omega, by omega, ?_⟩
      simp [Instr.sliceBounds, sliceBound_run (show 0 ≤ a' ∧ a' ≤ (c : Int) from ⟨hc.1, by omega⟩), sliceBound_run (show 0 ≤ a ∧ a ≤ (a'.toNat : Int) from ⟨hc.2.2.1, by omega⟩)]
    · cases hb
  · cases hb

theorem add_zero' (a : Addr) : a.add 0 = a := rfl

theorem sliceAt_run {t : TypeId} {x d : D} {xv : Value} {lo hi : Option D} {lov hiv : Option Value} (hs : Sim X ok w ι H) (hx : Rep ok w ι H x xv) (hl : ∀ d, lo = some d → ∃ v, lov = some v ∧ Rep ok w ι H d v) (hln : lo = none → lov = none)
    (hh : ∀ d, hi = some d → ∃ v, hiv = some v ∧ Rep ok w ι H d v) (hhn : hi = none → hiv = none) (h : sliceD P t x lo hi = some d) :
    ∃ v, (Instr.sliceAt t xv lov hiv none).run P w = .ok v w ∧ Rep ok w ι H d v := by
  unfold sliceD at h
  split at h
  · -- a text
    rename_i s hu
    split at h
    · rename_i l hb hbd
      injection h with h
      subst h
      cases hx
      obtain ⟨b1, b2, b3⟩ := bounds_run (P := P) (isSlice := false) (c := s.length) hl hln hh hhn (Nat.le_refl _) hbd w
      refine ⟨.string ⟨((s.drop l).take (hb - l)).toArray⟩, ?_, .str _⟩
      have hsz : (⟨s.toArray⟩ : ByteArray).size = s.length := by simp [ByteArray.size]
      have he : (⟨s.toArray⟩ : ByteArray).extract l hb = ⟨((s.drop l).take (hb - l)).toArray⟩ := by
        apply ByteArray.ext
        simp [List.extract_eq_take_drop]
      simp [Instr.sliceAt, run_underlying hu, Instr.slice, hsz, b3, he]
    · cases h
  · -- a slice of others
    rename_i e nil cs len hu
    split at h
    · rename_i l hb hbd
      split at h
      · rename_i hc
        obtain ⟨hlen, hpos⟩ := hc
        injection h with h
        subst h
        cases hx with
        | vnil =>
          obtain ⟨b1, b2, b3⟩ := bounds_run (P := P) (isSlice := true) (c := 0) hl hln hh hhn (Nat.le_refl _) hbd w
          have hb0 : hb = 0 := by omega
          have hl0 : l = 0 := by omega
          subst hb0; subst hl0
          refine ⟨.slice none 0 0, ?_, by simpa using Rep.vnil⟩
          simp [Instr.sliceAt, run_underlying hu, Instr.slice, b3, sizeOf_run hpos]
        | @vsl _ _ _ _ c a f ha hcc hr hhh hlc =>
          obtain ⟨b1, b2, b3⟩ := bounds_run (P := P) (isSlice := true) (c := c) hl hln hh hhn hlc hbd w
          refine ⟨.slice (some (if c = l then a else a.add (l * szOf P e))) (hb - l) (c - l), ?_, ?_⟩
          · simp only [Instr.sliceAt, Sem.run_bind, run_underlying hu, Result.andThen_ok, Instr.slice, b3, sizeOf_run hpos, Sem.run_pure]
            split <;> rfl
          · refine .vsl _ (fun j => f (l * szOf P e + j)) (by split <;> simp [add_block, ha]) (fun d hd => hcc d (List.mem_of_mem_drop (List.mem_of_mem_take hd))) (fun j d hj => ?_) (fun j d hj => ?_) (by omega)
            · rw [List.getElem?_take] at hj
              split at hj
              · rename_i hjl
                rw [List.getElem?_drop] at hj
                have hcl : c ≠ l := by
                  rintro rfl
                  have : hb - c = 0 := by omega
                  rw [this] at hjl
                  omega
                rw [if_neg hcl, addr_add_add]
                exact hr _ d hj
              · cases hj
            · rw [List.getElem?_take] at hj
              split at hj
              · rw [List.getElem?_drop] at hj
                exact hhh _ d hj
              · cases hj
      · cases h
    · cases h
  · -- a slice of the run's own
    rename_i e id st off len k hu
    split at h
    · rename_i l hb hbd
      split at h
      · rename_i hc
        obtain ⟨rfl, hpos, hl0⟩ := hc
        injection h with h
        subst h
        cases hx with
        | @osl _ _ _ _ _ _ _ c a hi' hhh hlc =>
          obtain ⟨b1, b2, b3⟩ := bounds_run (P := P) (isSlice := true) (c := c) hl hln hh hhn hlc hbd w
          refine ⟨.slice (some (if c = l then a else a.add (l * szOf P e))) (hb - l) (c - l), ?_, ?_⟩
          · simp only [Instr.sliceAt, Sem.run_bind, run_underlying hu, Result.andThen_ok, Instr.slice, b3, sizeOf_run hpos, Sem.run_pure]
            split <;> rfl
          · refine .osl _ hi' (fun ds hd => ⟨(hhh ds hd).1, fun he => ?_⟩) (by omega)
            obtain ⟨b, s, q1, rfl, q3⟩ := (hhh ds hd).2 he
            have hle : l ≤ c := by omega
            have hmul : l * szOf P e + (c - l) * szOf P e = c * szOf P e := by rw [← Nat.add_mul]; congr 1; omega
            refine ⟨b, s, q1, ?_, by omega⟩
            split
            · rename_i hcl
              rcases hl0 with h0 | h0
              · subst h0
                simp
              · omega
            · rw [addr_add]
      · cases h
    · cases h
  · -- an array of others
    rename_i n e cs hu
    split at h
    · rename_i l hb hbd
      split at h
      · rename_i hc
        obtain ⟨hfit, hpos, hl0⟩ := hc
        injection h with h
        subst h
        cases hx with
        | vptr a f ha hcc hr hhh =>
          obtain ⟨b1, b2, b3⟩ := bounds_run (P := P) (isSlice := false) (c := n) hl hln hh hhn (Nat.le_refl _) hbd w
          refine ⟨.slice (some (if n = l then a else a.add (l * szOf P e))) (hb - l) (n - l), ?_, ?_⟩
          · simp only [Instr.sliceAt, Sem.run_bind, run_underlying hu, Result.andThen_ok, Instr.sureAddr, b3, sizeOf_run hpos, Sem.run_pure]
          · refine .vsl _ (fun j => f (l * szOf P e + j)) (by split <;> simp [add_block, ha]) (fun d hd => hcc d (List.mem_of_mem_drop (List.mem_of_mem_take hd))) (fun j d hj => ?_) (fun j d hj => ?_) (by omega)
            · rw [List.getElem?_take] at hj
              split at hj
              · rename_i hjl
                rw [List.getElem?_drop] at hj
                have hcl : n ≠ l := by
                  rintro rfl
                  have : hb - n = 0 := by omega
                  rw [this] at hjl
                  omega
                rw [if_neg hcl, addr_add_add]
                exact hr _ d hj
              · cases hj
            · rw [List.getElem?_take] at hj
              split at hj
              · rw [List.getElem?_drop] at hj
                exact hhh _ d hj
              · cases hj
      · cases h
    · cases h
  · -- an array of the run's own
    rename_i n e id st off hu
    split at h
    · rename_i l hb hbd
      split at h
      · rename_i hc
        obtain ⟨hl0, hfit, hpos⟩ := hc
        injection h with h
        subst h
        cases hx with
        | optr a hi' hhh =>
          obtain ⟨b1, b2, b3⟩ := bounds_run (P := P) (isSlice := false) (c := n) hl hln hh hhn (Nat.le_refl _) hbd w
          refine ⟨.slice (some (if n = l then a else a.add (l * szOf P e))) (hb - l) (n - l), ?_, ?_⟩
          · simp only [Instr.sliceAt, Sem.run_bind, run_underlying hu, Result.andThen_ok, Instr.sureAddr, b3, sizeOf_run hpos, Sem.run_pure]
          · refine .osl _ hi' (fun ds hd => ⟨(hhh ds hd).1, fun he => ?_⟩) (by omega)
            obtain ⟨b, s, q1, rfl⟩ := (hhh ds hd).2 he
            have hle : l ≤ n := by omega
            have hmul : l * szOf P e + (n - l) * szOf P e = n * szOf P e := by rw [← Nat.add_mul]; congr 1; omega
            obtain ⟨b', arr, e', fr, k1, k2, k3, k4, _⟩ := hs.blk id ds hd
            rw [q1] at k1
            injection k1 with k1
            injection k1 with k1 k1'
            refine ⟨b, s, q1, ?_, by omega⟩
            split
            · rename_i hcl
              rcases hl0 with h0 | h0
              · subst h0
                simp
              · omega
            · rw [addr_add]
      · cases h
    · cases h
  · cases h

theorem copy_run {dt xt ty : TypeId} {x y d : D} {dv xv : Value} (hs : Sim X ok w ι H) (hdv : Rep ok w ι H y dv) (hx : Rep ok w ι H x xv) (h : copyD P H dt xt y x = some (d, H')) :
    ∃ v w', (Builtin.copy_ #[dt, xt] ty #[dv, xv]).run P w = .ok v w' ∧ Post X H.length ok w ι H d H' v w' := by
  unfold copyD at h
  split at h
  · rename_i e hu
    split at h
    · rename_i xs m i sm off len k hsrc
      split at h
      · rename_i ds hd
        split at h
        · rename_i hcond
          obtain ⟨b1, rfl, b3, b4, b5⟩ := hcond
          injection h with h
          injection h with h1 h2
          subst h1; subst h2
          obtain ⟨c1, c2, ⟨dsc, hxu, hni⟩, c3, c4⟩ := src_run (P := P) hs hx hsrc
          obtain ⟨vs, v1, v2, v3⟩ := c4 (min m len) (Nat.min_le_left _ _)
          cases hdv with
          | osl a hi hh hlc =>
            obtain ⟨b, s, q1, rfl, q3⟩ := (hh ds hd).2 b1
            have hle : min m len * szOf P e ≤ len * szOf P e := Nat.mul_le_mul_right _ (Nat.min_le_right _ _)
            have hlm : min m len * szOf P e ≤ m * szOf P e := Nat.mul_le_mul_right _ (Nat.min_le_left _ _)
            have htl : (xs.take (min m len * szOf P e)).length = min m len * szOf P e := by simp; omega
            obtain ⟨w', ι', r1, r2, r3⟩ := write_run (P := P) (vs := vs) (xs := xs.take (min m len * szOf P e)) hs hd b1 q1 rfl (by rw [htl]; exact Nat.le_trans (Nat.add_le_add_left hle off) (by rw [b1]; exact b4)) (by rw [htl, v1]) (fun d hd => c2 d (List.mem_of_mem_take hd))
              (fun j d hj => by
                rw [List.getElem?_take] at hj
                split at hj
                · rename_i hjl; exact v3 j d hjl hj
                · cases hj)
            refine ⟨.int .i64 (min m len : Nat), w', ?_, ι', ok, r2, .int _ _, r3⟩
            have hf := v2 w rfl
            rw [show min m len = Nat.min m len from rfl] at hf
            simp [Builtin.copy_, run_underlying hu, c3, sizeOf_run b3, hf, goInt]
            rw [r1]
            rfl
        · cases h
      · cases h
    · cases h
  · cases h

theorem len_run {t ty : TypeId} {x d : D} {v : Value} {ts : Array TypeId} {vs : Array Value} (ht : ts[0]? = some t) (hv : vs[0]? = some v) (hx : Rep ok w ι H x v) (h : lenD P t x = some d) :
    ∃ r, (Builtin.len_ ts ty vs).run P w = .ok r w ∧ Rep ok w ι H d r := by
  unfold lenD at h
  split at h <;> first | (cases h; done) | injection h with h
  · rename_i s hu
    subst h
    cases hx
    have hsz : (⟨s.toArray⟩ : ByteArray).size = s.length := by simp [ByteArray.size]
    exact ⟨.int .i64 s.length, by simp [Builtin.len_, ht, hv, run_underlying hu, goInt, hsz], .int _ _⟩
  · rename_i n e hu
    subst h
    exact ⟨_, by simp [Builtin.len_, ht, hv, run_underlying hu, goInt], .int _ _⟩
  · rename_i hu
    subst h
    cases hx <;> exact ⟨_, by simp [Builtin.len_, ht, hv, run_underlying hu, goInt], .int _ _⟩
  · rename_i hu
    subst h
    cases hx <;> exact ⟨_, by simp [Builtin.len_, ht, hv, run_underlying hu, goInt], .int _ _⟩

end
end Go.Ev
