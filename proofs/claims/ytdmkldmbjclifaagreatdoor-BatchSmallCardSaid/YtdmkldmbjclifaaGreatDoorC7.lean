import Derived.Test.YtdmkldmbjclifaaGreatDoorC6
import Derived.Handed
import Derived.LaidMore
namespace Go.Ev
structure Lim where
  count : Int
  bytes : Int
  hard : Int
instance : Enc Lim := ⟨3, fun m => [.int .i64 m.count, .int .i64 m.bytes, .int .i64 m.hard], fun _ => rfl, fun _ => rfl⟩
@[simp] theorem Lim.cells (m : Lim) : Enc.cells m = [.int .i64 m.count, .int .i64 m.bytes, .int .i64 m.hard] := rfl
structure BatS where
  items : List It
  fin : List Mk
  used : Nat
  bytes : Nat
def BatS.none : BatS := ⟨[], [], 0, 0⟩
section
variable (tc : List Mk → It → Int) (tl : List Mk → It → Bool → List Mk) (hd : List Pr → Bool) (sz : It → Nat) (lim : Lim)
def askedB (x : It) : Bool := x.gap || hd x.rc.fields.l
def overB (x : It) : Bool := askedB hd x && (!x.gap && decide (lim.hard < (sz x : Int)))
def goesB (x : It) : Bool := askedB hd x && !overB hd sz lim x
def stopB (s : BatS) (x : It) : Bool := goesB hd sz lim x && (decide ((s.items.length : Int) = lim.count) || (decide (0 < s.items.length) && decide (lim.bytes < (s.bytes : Int) + (sz x : Int))))
def stepB (s : BatS) (x : It) : BatS := ⟨if goesB hd sz lim x then s.items ++ [x] else s.items, tl s.fin x (overB hd sz lim x), s.used + 1, if goesB hd sz lim x then s.bytes + sz x else s.bytes⟩
def bldGo : List It → BatS → BatS × Int
  | [], s => (s, 0)
  | x :: l, s => if stopB hd sz lim s x then (s, 0) else if tc s.fin x ≠ 0 then (if s.used = 0 then (BatS.none, tc s.fin x) else (s, 0)) else bldGo l (stepB tl hd sz lim s x)
def finB (l : List It) (f : List Mk) : List Mk := l.foldl (fun f x => tl f x (overB hd sz lim x)) f
def sumB (l : List It) : Nat := (l.map sz).sum
structure BldIs (l : List It) (s r : BatS) (n : Nat) : Prop where
  le : n ≤ l.length
  used : r.used = s.used + n
  items : r.items = s.items ++ (l.take n).filter (goesB hd sz lim)
  bytes : r.bytes = s.bytes + sumB sz ((l.take n).filter (goesB hd sz lim))
  fin : r.fin = finB tl hd sz lim (l.take n) s.fin
  stop : ∀ h : n < l.length, stopB hd sz lim r l[n] = true ∨ tc r.fin l[n] ≠ 0
  went : ∀ k (_ : k < n) (h : k < l.length), tc (finB tl hd sz lim (l.take k) s.fin) l[k] = 0
theorem bldGo_is : ∀ (l : List It) (s : BatS), (bldGo tc tl hd sz lim l s).2 = 0 → ∃ n, BldIs tc tl hd sz lim l s (bldGo tc tl hd sz lim l s).1 n
  | [], s, _ => ⟨0, Nat.le_refl _, rfl, by simp [bldGo], by simp [bldGo, sumB], rfl, fun h => absurd h (Nat.not_lt_zero _), fun _ h _ => absurd h (Nat.not_lt_zero _)⟩
  | x :: l, s, h => by
    unfold bldGo at h ⊢
    by_cases h1 : stopB hd sz lim s x = true
    · rw [if_pos h1] at h ⊢
      exact ⟨0, Nat.zero_le _, rfl, by simp, by simp [sumB], rfl, fun _ => .inl h1, fun _ h _ => absurd h (Nat.not_lt_zero _)⟩
    · rw [if_neg h1] at h ⊢
      by_cases h2 : tc s.fin x ≠ 0
      · rw [if_pos h2] at h ⊢
        by_cases h3 : s.used = 0
        · rw [if_pos h3] at h
          exact absurd h h2
        · rw [if_neg h3] at h ⊢
          exact ⟨0, Nat.zero_le _, rfl, by simp, by simp [sumB], rfl, fun _ => .inr h2, fun _ h _ => absurd h (Nat.not_lt_zero _)⟩
      · rw [if_neg h2] at h ⊢
        obtain ⟨n, i1, i2, i3, i4, i5, i6, i7⟩ := bldGo_is l _ h
        refine ⟨n + 1, by simpa using i1, by rw [i2]; show s.used + 1 + n = _; omega, ?_, ?_, ?_, fun hn => ?_, fun k hk hkl => ?_⟩
        · rw [i3, List.take_succ_cons, List.filter_cons]
          unfold stepB
          by_cases hg : goesB hd sz lim x = true
          · simp only [hg, if_true]
            rw [List.append_assoc]
            rfl
          · simp only [hg, if_false, Bool.false_eq_true]
        · rw [i4, List.take_succ_cons, List.filter_cons]
          unfold stepB
          by_cases hg : goesB hd sz lim x = true
          · simp only [hg, if_true, sumB, List.map_cons, List.sum_cons]
            omega
          · simp only [hg, if_false, Bool.false_eq_true]
        · rw [i5, List.take_succ_cons]
          rfl
        · exact i6 (by simpa using hn)
        · cases k with
          | zero => exact Decidable.not_not.1 h2
          | succ k => exact i7 k (by omega) (by simpa using hkl)
theorem bldGo_small : ∀ (l : List It) (s : BatS), (bldGo tc tl hd sz lim l s).2 = 0 → (s.items.length : Int) ≤ lim.count → (s.items.length ≤ 1 ∨ (s.bytes : Int) ≤ lim.bytes) →
    ((bldGo tc tl hd sz lim l s).1.items.length : Int) ≤ lim.count ∧ ((bldGo tc tl hd sz lim l s).1.items.length ≤ 1 ∨ ((bldGo tc tl hd sz lim l s).1.bytes : Int) ≤ lim.bytes)
  | [], s, _, h1, h2 => ⟨h1, h2⟩
  | x :: l, s, h, h1, h2 => by
    unfold bldGo at h ⊢
    by_cases h3 : stopB hd sz lim s x = true
    · rw [if_pos h3]
      exact ⟨h1, h2⟩
    · rw [if_neg h3] at h ⊢
      by_cases h4 : tc s.fin x ≠ 0
      · rw [if_pos h4] at h ⊢
        by_cases h5 : s.used = 0
        · rw [if_pos h5] at h
          exact absurd h h4
        · rw [if_neg h5]
          exact ⟨h1, h2⟩
      · rw [if_neg h4] at h ⊢
        refine bldGo_small l _ h ?_ ?_
        · unfold stepB
          by_cases hg : goesB hd sz lim x = true
          · simp only [hg, if_true, List.length_append, List.length_singleton]
            unfold stopB at h3
            simp [hg] at h3
            omega
          · simp only [hg, if_false, Bool.false_eq_true]
            exact h1
        · unfold stepB
          by_cases hg : goesB hd sz lim x = true
          · simp only [hg, if_true, List.length_append, List.length_singleton]
            unfold stopB at h3
            simp [hg] at h3
            by_cases h0 : s.items.length = 0
            · exact .inl (by omega)
            · have := h3.2 (by omega)
              refine .inr ?_
              omega
          · simp only [hg, if_false, Bool.false_eq_true]
            exact h2
theorem bldGo_code : ∀ (l : List It) (s : BatS), (bldGo tc tl hd sz lim l s).2 ≠ 0 → s.used = 0 ∧ ∃ x l', l = x :: l' ∧ tc s.fin x ≠ 0 ∧ stopB hd sz lim s x = false ∧ bldGo tc tl hd sz lim l s = (BatS.none, tc s.fin x)
  | [], s, h => absurd rfl h
  | x :: l, s, h => by
    unfold bldGo at h
    by_cases h1 : stopB hd sz lim s x = true
    · rw [if_pos h1] at h
      exact absurd rfl h
    · rw [if_neg h1] at h
      by_cases h2 : tc s.fin x ≠ 0
      · rw [if_pos h2] at h
        by_cases h3 : s.used = 0
        · refine ⟨h3, x, l, rfl, h2, by simpa using h1, ?_⟩
          unfold bldGo
          rw [if_neg h1, if_pos h2, if_pos h3]
        · rw [if_neg h3] at h
          exact absurd rfl h
      · rw [if_neg h2] at h
        have := (bldGo_code l _ h).1
        exact absurd this (Nat.succ_ne_zero _)
def GoesI (l : List It) (f : List Mk) : Prop := ∀ n (h : n < l.length), tc (finB tl hd sz lim (l.take n) f) l[n] = 0
theorem finB_app (a b : List It) (f : List Mk) : finB tl hd sz lim (a ++ b) f = finB tl hd sz lim b (finB tl hd sz lim a f) := by
  unfold finB
  rw [List.foldl_append]
theorem bld_goes {l : List It} {f : List Mk} (h : GoesI tc tl hd sz lim l f) (hc : 1 ≤ lim.count) : (bldGo tc tl hd sz lim l ⟨[], f, 0, 0⟩).2 = 0 ∧ ∃ n, BldIs tc tl hd sz lim l ⟨[], f, 0, 0⟩ (bldGo tc tl hd sz lim l ⟨[], f, 0, 0⟩).1 n ∧ (∀ h : n < l.length, stopB hd sz lim (bldGo tc tl hd sz lim l ⟨[], f, 0, 0⟩).1 l[n] = true) ∧ (0 < l.length → 1 ≤ n) := by
  have h0 : (bldGo tc tl hd sz lim l ⟨[], f, 0, 0⟩).2 = 0 := by
    by_cases hz : (bldGo tc tl hd sz lim l ⟨[], f, 0, 0⟩).2 = 0
    · exact hz
    · obtain ⟨-, x, l', rfl, h2, -⟩ := bldGo_code tc tl hd sz lim l _ hz
      have := h 0 (by simp)
      exact absurd this h2
  obtain ⟨n, hn⟩ := bldGo_is tc tl hd sz lim l _ h0
  have hst : ∀ h : n < l.length, stopB hd sz lim (bldGo tc tl hd sz lim l ⟨[], f, 0, 0⟩).1 l[n] = true := by
    intro hl
    rcases hn.stop hl with h1 | h1
    · exact h1
    · rw [hn.fin] at h1
      exact absurd (h n hl) h1
  refine ⟨h0, n, hn, hst, fun hl => ?_⟩
  by_cases hn0 : n = 0
  · subst hn0
    have h1 := hst hl
    unfold stopB at h1
    rw [hn.items] at h1
    simp at h1
    omega
  · omega
end
end Go.Ev
namespace Go.Ev.S
open Go Go.Proofs Go.Ev
structure MarkI (f : List Mk) (S : List It) : Prop where
  rises : risesM f = true
  ids : ∀ m ∈ f, ∃ j, j < 3 ∧ m.id = idN j
  seq : ∀ id, (getM f id).seq = 0 ∨ ∃ x ∈ S, x.id = id ∧ lstN x = (getM f id).seq
  last : ∀ x ∈ S, lstN x ≤ (getM f x.id).seq
theorem markI_nil : MarkI [] [] := ⟨rfl, fun m hm => (by cases hm), fun _ => .inl rfl, fun x hx => (by cases hx)⟩
theorem idN_lt3 : ∀ i < 3, ∀ j < 3, cmpB (idN i).l (idN j).l < 0 → i < j := by decide
theorem mark_len {f : List Mk} (hr : risesM f = true) (hi : ∀ m ∈ f, ∃ j, j < 3 ∧ m.id = idN j) : f.length ≤ 3 := by
  match f, hr, hi with
  | [], _, _ => exact Nat.zero_le _
  | [_], _, _ => exact Nat.succ_le_succ (Nat.zero_le _)
  | [_, _], _, _ => exact Nat.succ_le_succ (Nat.succ_le_succ (Nat.zero_le _))
  | [_, _, _], _, _ => exact Nat.le_refl _
  | a :: b :: c :: d :: l, hr, hi =>
    exfalso
    simp only [risesM, Bool.and_eq_true, decide_eq_true_eq] at hr
    obtain ⟨ja, ha, ea⟩ := hi a (by simp)
    obtain ⟨jb, hb, eb⟩ := hi b (by simp)
    obtain ⟨jc, hc, ec⟩ := hi c (by simp)
    obtain ⟨jd, hd, ed⟩ := hi d (by simp)
    rw [ea, eb, ec, ed] at hr
    have h1 := idN_lt3 ja ha jb hb hr.1
    have h2 := idN_lt3 jb hb jc hc hr.2.1
    have h3 := idN_lt3 jc hc jd hd hr.2.2.1
    omega
theorem may_ok {f : List Mk} (hr : risesM f = true) (h3 : f.length ≤ 3) (id : ID) : mayM f id = 0 := by
  have h : rightM f = true := by
    unfold rightM
    rw [hr, Bool.and_true, decide_eq_true_eq]
    omega
  unfold mayM
  rw [h, if_neg (by decide), if_neg (fun h => by omega)]
theorem getM_put {f : List Mk} {m : Mk} (hr : risesM f = true) (id : ID) : getM (putM f m) id = if m.id = id then m else getM f id := by
  rw [getM_fnd, fnd_put hr, getM_fnd]
  split <;> rfl
theorem put_mem {f : List Mk} {m : Mk} (hr : risesM f = true) : ∀ x ∈ putM f m, x = m ∨ x ∈ f := by
  intro x hx
  cases h : hasM f m.id with
  | true =>
    rw [putM_rep h] at hx
    exact repM_mem hx
  | false =>
    rw [putM_new hr h] at hx
    exact (insM_mem m f x).1 hx
theorem step_seq (m : Mk) (y : It) (o : Bool) : (stepM m y o).seq = lstN y := by
  unfold stepM lstN
  split <;> rfl
theorem take_goes {f : List Mk} {S : List It} (h : MarkI f S) {y : It} (hlt : ∀ x ∈ S, x.id = y.id → lstN x < fstN y) (h1 : 1 ≤ fstN y) (h2 : fstN y ≤ lstN y) : takeC f y = 0 := by
  unfold takeC
  rw [may_ok h.rises (mark_len h.rises h.ids), if_neg (by decide)]
  have hs : (getM f y.id).seq < fstN y := by
    rcases h.seq y.id with h0 | ⟨x, hx, he, hl⟩
    · omega
    · have := hlt x hx he
      omega
  have hg : goesM (getM f y.id) y = true := by
    unfold goesM fstN lstN at *
    cases hgap : y.gap with
    | true =>
      rw [hgap] at hs h2
      simp only [if_true] at hs h2 ⊢
      rw [decide_eq_false (by omega), decide_eq_false (by omega)]
      rfl
    | false =>
      rw [hgap] at hs
      simp only [Bool.false_eq_true, if_false] at hs ⊢
      rw [decide_eq_false (by omega)]
      rfl
  rw [hg, if_pos rfl]
theorem markI_add {f : List Mk} {S : List It} (h : MarkI f S) {y : It} (o : Bool) (hj : ∃ j, j < 3 ∧ y.id = idN j) (hlt : ∀ x ∈ S, x.id = y.id → lstN x < fstN y) (h2 : fstN y ≤ lstN y) : MarkI (takeL f y o) (S ++ [y]) := by
  unfold takeL
  have hid : (stepM (getM f y.id) y o).id = y.id := by rw [stepM_id, getM_id]
  have hsq := step_seq (getM f y.id) y o
  generalize stepM (getM f y.id) y o = m at *
  refine ⟨rises_put h.rises, fun x hx => ?_, fun id => ?_, fun x hx => ?_⟩
  · rcases put_mem h.rises x hx with rfl | hx
    · rw [hid]
      exact hj
    · exact h.ids x hx
  · rw [getM_put h.rises]
    by_cases he : m.id = id
    · rw [if_pos he]
      exact .inr ⟨y, by simp, by rw [← hid, he], hsq.symm⟩
    · rw [if_neg he]
      rcases h.seq id with h0 | ⟨x, hx, e1, e2⟩
      · exact .inl h0
      · exact .inr ⟨x, List.mem_append_left _ hx, e1, e2⟩
  · rw [getM_put h.rises]
    rcases List.mem_append.1 hx with hx | hx
    · by_cases he : m.id = x.id
      · rw [if_pos he, hsq]
        have := hlt x hx (by rw [← he, hid])
        omega
      · rw [if_neg he]
        exact h.last x hx
    · rw [List.mem_singleton.1 hx, hid, if_pos rfl, hsq]
      exact Int.le_refl _
section
variable (hd : List Pr → Bool) (sz : It → Nat) (lim : Lim)
theorem finB_mark : ∀ {L : List It}, SeqR L → ∀ n, n ≤ L.length → MarkI (finB takeL hd sz lim (L.take n) []) (L.take n) := by
  intro L h n
  induction n with
  | zero => intro _; rw [List.take_zero]; exact markI_nil
  | succ n ih =>
    intro hn
    have hlt : n < L.length := by omega
    have hi := ih (by omega)
    rw [List.take_succ_eq_append_getElem hlt, finB_app]
    obtain ⟨j, j1, j2, j3, j4, -⟩ := h.num L[n] (List.getElem_mem hlt)
    refine markI_add hi _ ⟨j, j1, j2⟩ (fun x hx he => ?_) j4
    obtain ⟨i, hil, hix⟩ := List.mem_iff_getElem.1 hx
    rw [List.length_take] at hil
    rw [List.getElem_take] at hix
    have := h.rise i n (by omega) hlt (by rw [hix]; exact he)
    rwa [hix] at this
theorem goesI_made {L : List It} (h : SeqR L) : GoesI takeC takeL hd sz lim L [] := by
  intro n hn
  obtain ⟨j, j1, j2, j3, j4, -⟩ := h.num L[n] (List.getElem_mem hn)
  refine take_goes (finB_mark hd sz lim h n (by omega)) (fun x hx he => ?_) j3 j4
  obtain ⟨i, hil, hix⟩ := List.mem_iff_getElem.1 hx
  rw [List.length_take] at hil
  rw [List.getElem_take] at hix
  have := h.rise i n (by omega) hn (by rw [hix]; exact he)
  rwa [hix] at this
end
end Go.Ev.S
namespace Go.Ev.S
open Go Go.Proofs Go.Ev
def limOk (lim : Lim) : Bool := (decide (1 ≤ lim.count) && decide (lim.count ≤ 64)) && ((decide (1 ≤ lim.bytes) && decide (lim.bytes ≤ 32768)) && (decide (1 ≤ lim.hard) && decide (lim.hard ≤ 16384)))
end Go.Ev.S
namespace Go.Ev.S
open Go Go.Proofs Go.Ev
end Go.Ev.S
namespace Go.Ev.S
open Go Go.Proofs Go.Ev
theorem blim_ev (m : Lim) : call cx 17 [.agg [.int .i64 m.count, .int .i64 m.bytes, .int .i64 m.hard]] [] = some (.bool (limOk m), []) := by
  obtain ⟨a, b, c⟩ := m
  refine call_run Tryz.func17 rfl ⟨rfl, rfl⟩ ?_
  unfold limOk
  simp only
  by_cases hal : 1 ≤ a
  case neg => simp [Tryz.f17, hal]
  by_cases hah : a ≤ 64
  case neg => simp [Tryz.f17, hal, hah]
  by_cases hbl : 1 ≤ b
  case neg => simp [Tryz.f17, hal, hah, hbl]
  by_cases hbh : b ≤ 32768
  case neg => simp [Tryz.f17, hal, hah, hbl, hbh]
  by_cases hcl : 1 ≤ c
  case neg => simp [Tryz.f17, hal, hah, hbl, hbh, hcl]
  by_cases hch : c ≤ 16384
  case neg => simp [Tryz.f17, hal, hah, hbl, hbh, hcl, hch]
  simp [Tryz.f17, hal, hah, hbl, hbh, hcl, hch]
def mayB (l : List It) (m : Mat) (lim : Lim) (d : List Mk) : Bool := limOk lim && (matOk m.rows.l && (rightM d && l.all itOk))
set_option maxHeartbeats 1000000 in
theorem may_evB (l : Sl It) (hl : l.l.length < 1000000) (m : Mat) (hm : MatB m.rows.l) (lim : Lim) (d : Sl Mk) (hd : d.l.length < 4611686018427387904) :
    call cx 33 [(.vsl l.nil (encs l.l) l.l.length), .agg [(.vsl m.rows.nil (encs m.rows.l) m.rows.l.length)], .agg [.int .i64 lim.count, .int .i64 lim.bytes, .int .i64 lim.hard], (.vsl d.nil (encs d.l) d.l.length)] [] = some (.bool (mayB l.l m lim d.l), []) := by
  have f1 := blim_ev lim
  have f2 := mright_ev m hm
  have f3 := kright_ev d hd
  refine call_run Tryz.func33 rfl ⟨rfl, rfl⟩ ?_
  unfold mayB
  cases h1 : limOk lim with
  | false =>
    rw [h1] at f1
    simp [Tryz.f33, f1]
  | true =>
  rw [h1] at f1
  cases h2 : matOk m.rows.l with
  | false =>
    rw [h2] at f2
    simp [Tryz.f33, f1, f2]
  | true =>
  rw [h2] at f2
  cases h3 : rightM d.l with
  | false =>
    rw [h3] at f3
    simp [Tryz.f33, f1, f2, f3]
  | true =>
  rw [h3] at f3
  obtain ⟨r, hr⟩ : ∃ r, l.l.all itOk = r := ⟨_, rfl⟩
  rw [hr]
  simp [Tryz.f33, f1, f2, f3]
  refine Run.loopThen (fun (i : Nat) e H => i ≤ l.l.length ∧ H = [] ∧ look e 24 = some (.vsl l.nil (encs l.l) l.l.length) ∧ look e 25 = some (.int .i64 l.l.length) ∧ look e 26 = some (.int .i64 i) ∧ (l.l.drop i).all itOk = r) (fun i => l.l.length - i) 0 ⟨Nat.zero_le _, rfl, by simp, by simp, by simp, by simpa using hr⟩ ?_
  rintro i e H ⟨hi, rfl, k24, k25, k26, hf⟩
  by_cases hlt : i < l.l.length
  · have hlt' : (i : Int) < (l.l.length : Int) := by omega
    have hw : IntKind.i64.wrap ((i : Int) + 1) = ((i + 1 : Nat) : Int) := by rw [wrap_i64] <;> omega
    have hs := wright_evX l.l[i]
    have hea : List.drop (i * 39) (encs l.l) = Enc.cells l.l[i] ++ encs (l.l.drop (i + 1)) := It.ea hlt
    have hnn := Sl.nn hlt
    rw [List.drop_eq_getElem_cons hlt, List.all_cons] at hf
    generalize l.l[i] = x at *
    cases hx : itOk x with
    | true =>
      rw [hx] at hs hf
      simp [-It.ea, k24, k25, k26, hlt', hnn, hea, hs, hw]
      exact ⟨i + 1, by omega, by omega, by omega, by simpa using hf⟩
    | false =>
      rw [hx, Bool.false_and] at hf
      rw [hx] at hs
      simp [-It.ea, k24, k25, k26, hlt', hnn, hea, hs, ← hf]
  · rw [List.drop_eq_nil_of_le (by omega)] at hf
    replace hf : true = r := hf
    subst hf
    have hlt' : ¬ (i : Int) < (l.l.length : Int) := by omega
    simp [k24, k25, k26, hlt']
end Go.Ev.S
namespace Go.Ev.S
open Go Go.Proofs Go.Ev
def szT (x : It) : Nat := (textL x).length
def nrmF (x : It) : It := { x with rc := { x.rc with fields := Sl.grown x.rc.fields.l } }
def bOut (p : BatS × Int) : D := .tup [.agg [.vsl p.1.items.isEmpty (encs (p.1.items.map nrmF)) p.1.items.length, .vsl p.1.fin.isEmpty (encs p.1.fin) p.1.fin.length, .int .i64 p.1.used, .int .i64 p.1.bytes], .int .i64 p.2]
def bldP (l : List It) (m : Mat) (lim : Lim) (d : List Mk) : BatS × Int := if mayB l m lim d then bldGo takeC takeL (matHolds m.rows.l) szT lim l ⟨[], d, 0, 0⟩ else (BatS.none, 1)
def BldH (s : BatS) (H : Heap) : Prop :=
  (s.items = [] ∧ H = [some [.vsl true [] 0, .vsl true [] 0, .int .i64 0, .int .i64 0], some [.vsl true [] 0, .vsl s.fin.isEmpty (encs s.fin) s.fin.length, .int .i64 s.used, .int .i64 s.bytes]]) ∨
  (s.items ≠ [] ∧ ∃ n q, n = s.items.length * 39 ∧ q = s.items.length ∧ H = [some [.vsl true [] 0, .vsl true [] 0, .int .i64 0, .int .i64 0], some [.osl 2 n 0 q 39, .vsl s.fin.isEmpty (encs s.fin) s.fin.length, .int .i64 s.used, .int .i64 s.bytes], some (encs s.items)])
def BldX (s : BatS) (H : Heap) : Prop :=
  (s.items = [] ∧ ∃ T, H = some [.vsl true [] 0, .vsl true [] 0, .int .i64 0, .int .i64 0] :: some [.vsl true [] 0, .vsl s.fin.isEmpty (encs s.fin) s.fin.length, .int .i64 s.used, .int .i64 s.bytes] :: T) ∨
  (s.items ≠ [] ∧ ∃ n q T, n = s.items.length * 39 ∧ q = s.items.length ∧ H = some [.vsl true [] 0, .vsl true [] 0, .int .i64 0, .int .i64 0] :: some [.osl 2 n 0 q 39, .vsl s.fin.isEmpty (encs s.fin) s.fin.length, .int .i64 s.used, .int .i64 s.bytes] :: some (encs s.items) :: T)
def BldJ (R : BatS × Int) : Ex → Env → Heap → Prop
  | .normal, _, _ => False
  | .exit i, e, H => i = 0 ∧ ∃ (s : BatS), R = (s, 0) ∧ look e 8 = some (.optr 0 4 0) ∧ look e 10 = some (.optr 1 4 0) ∧ BldX s H
  | .ret, e, H => ∃ T, R.1 = BatS.none ∧ look e 8 = some (.optr 0 4 0) ∧ look e 9 = some (.int .i64 R.2) ∧ H = some [.vsl true [] 0, .vsl true [] 0, .int .i64 0, .int .i64 0] :: T
theorem bldJ_exit {R : BatS × Int} {e : Env} {H : Heap} {s : BatS} (h1 : R = (s, 0)) (h2 : look e 8 = some (.optr 0 4 0)) (h3 : look e 10 = some (.optr 1 4 0)) (h4 : BldX s H) : BldJ R (.exit 0) e H := ⟨rfl, s, h1, h2, h3, h4⟩
theorem bldJ_ret {R : BatS × Int} {e : Env} {T : Heap} (h1 : R.1 = BatS.none) (h2 : look e 8 = some (.optr 0 4 0)) (h3 : look e 9 = some (.int .i64 R.2)) : BldJ R .ret e (some [.vsl true [] 0, .vsl true [] 0, .int .i64 0, .int .i64 0] :: T) := ⟨T, h1, h2, h3, rfl⟩
noncomputable def LBld : Code := cAt [1, 1, 1, 0, 1, 0, 0] (stripC (bodyOf Tryz.f14))
theorem It.d38 (x : It) : List.drop 38 (Enc.cells x) = [(.vsl x.rc.fields.nil (encs x.rc.fields.l) x.rc.fields.l.length)] := by
  simp [It.cells, List.drop_append, drop_bytes]
theorem sz_le {x : It} (hi : x.Ok) (ho : itOk x = true) : szT x ≤ 10000 := (textL_len hi ho).1
section
variable (hd : List Pr → Bool) (lim : Lim)
theorem bld_stop {R : BatS × Int} {x : It} {l : List It} {s : BatS} (h : bldGo takeC takeL hd szT lim (x :: l) s = R) (hs : stopB hd szT lim s x = true) : R = (s, 0) := by
  rw [← h, bldGo, if_pos hs]
theorem bld_code0 {R : BatS × Int} {x : It} {l : List It} {s : BatS} (h : bldGo takeC takeL hd szT lim (x :: l) s = R) (hs : stopB hd szT lim s x = false) (hc : takeC s.fin x ≠ 0) (hu : s.used = 0) : R = (BatS.none, takeC s.fin x) := by
  rw [← h, bldGo, if_neg (by rw [hs]; decide), if_pos hc, if_pos hu]
theorem bld_code1 {R : BatS × Int} {x : It} {l : List It} {s : BatS} (h : bldGo takeC takeL hd szT lim (x :: l) s = R) (hs : stopB hd szT lim s x = false) (hc : takeC s.fin x ≠ 0) (hu : ¬ s.used = 0) : R = (s, 0) := by
  rw [← h, bldGo, if_neg (by rw [hs]; decide), if_pos hc, if_neg hu]
theorem bld_next {R : BatS × Int} {x : It} {l : List It} {s : BatS} (h : bldGo takeC takeL hd szT lim (x :: l) s = R) (hs : stopB hd szT lim s x = false) (hc : takeC s.fin x = 0) : bldGo takeC takeL hd szT lim l (stepB takeL hd szT lim s x) = R := by
  rw [← h, bldGo, if_neg (by rw [hs]; decide), if_neg (by simpa using hc)]
end
section
variable (hd : List Pr → Bool) (lim : Lim)
theorem stp_used (tl : List Mk → It → Bool → List Mk) (s : BatS) (x : It) : (stepB tl hd szT lim s x).used = s.used + 1 := rfl
theorem stp_fin (tl : List Mk → It → Bool → List Mk) {s : BatS} {x : It} {o : Bool} (h : overB hd szT lim x = o) : (stepB tl hd szT lim s x).fin = tl s.fin x o := by subst h; rfl
theorem stp_goes (tl : List Mk → It → Bool → List Mk) {s : BatS} {x : It} (h : goesB hd szT lim x = true) : (stepB tl hd szT lim s x).items = s.items ++ [x] ∧ (stepB tl hd szT lim s x).bytes = s.bytes + szT x := by unfold stepB; simp [h]
theorem stp_not (tl : List Mk → It → Bool → List Mk) {s : BatS} {x : It} (h : goesB hd szT lim x = false) : (stepB tl hd szT lim s x).items = s.items ∧ (stepB tl hd szT lim s x).bytes = s.bytes := by unfold stepB; simp [h]
end
theorem takeL_len {f : List Mk} {x : It} {o : Bool} : (takeL f x o).length ≤ f.length + 1 := putM_len _ _
theorem takeL_ne {f : List Mk} {x : It} {o : Bool} : (takeL f x o).isEmpty = false := by
  have h : takeL f x o ≠ [] := by
    unfold takeL putM
    split
    · intro h
      have := congrArg List.length h
      rw [insFrom_len] at this
      simp at this
    · rename_i h1
      intro h
      have h2 := congrArg List.length h
      rw [List.length_set] at h2
      have h3 : f = [] := List.eq_nil_of_length_eq_zero h2
      subst h3
      exact absurd (by simp [find?]) h1
  cases hl : takeL f x o with
  | nil => exact absurd hl h
  | cons => rfl

set_option maxRecDepth 4000 in
set_option maxHeartbeats 16000000 in
theorem bld_loop (l : Sl It) (hl : l.l.length < 1000000) (M : Sl Row) (hm : MatB M.l) (lim : Lim) (hcount : 1 ≤ lim.count) (hx : ∀ x ∈ l.l, x.Ok) (hall : ∀ x ∈ l.l, itOk x = true) (R : BatS × Int) (f0 : List Mk) (hf4 : f0.length ≤ 4) (hR : bldGo takeC takeL (matHolds M.l) szT lim l.l ⟨[], f0, 0, 0⟩ = R) (e : Env) (H : Heap)
    (k5 : look e 5 = some (.vptr [(.vsl M.nil (encs M.l) M.l.length)])) (k6 : look e 6 = some (.vptr [.int .i64 lim.count, .int .i64 lim.bytes, .int .i64 lim.hard])) (k8 : look e 8 = some (.optr 0 4 0)) (k10 : look e 10 = some (.optr 1 4 0)) (k31 : look e 31 = some (.vsl l.nil (encs l.l) l.l.length)) (k32 : look e 32 = some (.int .i64 l.l.length)) (k33 : look e 33 = some (.int .i64 0)) (hH : BldH ⟨[], f0, 0, 0⟩ H) :
    Run cx 14 149 0 (BldJ R) [] (code cx 14 149 0 (.loop LBld) e H) := by
  refine Run.loop (fun (q : Nat × BatS) e H => q.1 ≤ l.l.length ∧ q.2.used = q.1 ∧ bldGo takeC takeL (matHolds M.l) szT lim (l.l.drop q.1) q.2 = R ∧ q.2.items.length ≤ q.1 ∧ q.2.bytes ≤ q.1 * 10000 ∧ q.2.fin.length ≤ 4 + q.1 ∧ look e 5 = some (.vptr [(.vsl M.nil (encs M.l) M.l.length)]) ∧ look e 6 = some (.vptr [.int .i64 lim.count, .int .i64 lim.bytes, .int .i64 lim.hard]) ∧ look e 8 = some (.optr 0 4 0) ∧ look e 10 = some (.optr 1 4 0) ∧ look e 31 = some (.vsl l.nil (encs l.l) l.l.length) ∧ look e 32 = some (.int .i64 l.l.length) ∧ look e 33 = some (.int .i64 (q.1 : Nat)) ∧ BldH q.2 H) (fun q => l.l.length - q.1) ?_ (0, ⟨[], f0, 0, 0⟩) e H ⟨Nat.zero_le _, rfl, by rw [List.drop_zero]; exact hR, Nat.zero_le _, Nat.zero_le _, by show f0.length ≤ 4 + 0; omega, k5, k6, k8, k10, k31, k32, k33, hH⟩
  clear k5 k6 k8 k10 k31 k32 k33 hH hR hf4
  rintro ⟨k, s⟩ e H ⟨hk, hu, hRk, hsl, hsb, hsf, k5, k6, k8, k10, k31, k32, k33, hH⟩
  simp only at hk hu hRk hsl hsb hsf k33 hH
  by_cases hlt : k < l.l.length
  case neg =>
    have hlt' : ¬ (k : Int) < (l.l.length : Int) := by omega
    rw [List.drop_eq_nil_of_le (by omega)] at hRk
    replace hRk : (s, (0 : Int)) = R := hRk
    simp only [LBld, cAt, bodyOf, Tryz.f14, Option.getD, stripC, stripL, stripOp]
    rcases hH with ⟨h1, rfl⟩ | ⟨h1, n, q, hn, hq, rfl⟩
    · simp [k5, k6, k8, k10, k31, k32, k33, hlt']
      exact bldJ_exit hRk.symm (by simp) (by simp) (.inl ⟨h1, _, rfl⟩)
    · simp [k5, k6, k8, k10, k31, k32, k33, hlt']
      exact bldJ_exit hRk.symm (by simp) (by simp) (.inr ⟨h1, n, q, _, hn, hq, rfl⟩)
  have hlt' : (k : Int) < (l.l.length : Int) := by omega
  have hw : IntKind.i64.wrap ((k : Int) + 1) = ((k + 1 : Nat) : Int) := by rw [wrap_i64] <;> omega
  have hxo := hx _ (List.getElem_mem hlt)
  have hok := hall _ (List.getElem_mem hlt)
  obtain ⟨hb1, hb2⟩ := made_b hxo hok
  have ft := text_ev l.l[k] hxo hb2 hb1
  have hsz := sz_le hxo hok
  have hh := mholds_ev ⟨M⟩ hm l.l[k].rc.fields (by omega)
  simp only at hh
  have hea : List.drop (k * 39) (encs l.l) = Enc.cells l.l[k] ++ encs (l.l.drop (k + 1)) := It.ea hlt
  have hnn := Sl.nn hlt
  rw [List.drop_eq_getElem_cons hlt] at hRk
  generalize l.l[k] = x at *
  unfold textD at ft
  rw [if_pos hok] at ft
  obtain ⟨z, hz⟩ : ∃ z, szT x = z := ⟨_, rfl⟩
  replace ft : call cx 34 [.agg (Enc.cells x)] [] = some (.vsl false (ofBytes (textL x)) z, []) := by rw [← hz]; exact ft
  rw [hz] at hsz
  have htk : ∀ o, call cx 36 [.vsl s.fin.isEmpty (encs s.fin) s.fin.length, .agg (Enc.cells x), .bool o] [] = some (.tup [resM (takeC s.fin x) (takeL s.fin x o), .int .i64 (takeC s.fin x)], []) := fun o => ktake_ev (Sl.grown s.fin) (by rw [Sl.grown_l]; omega) x o
  have htkf := htk false
  have htkt := htk true
  clear htk
  have hkind : (x.gap = true ∧ goesB (matHolds M.l) szT lim x = true ∧ overB (matHolds M.l) szT lim x = false) ∨ (x.gap = false ∧ matHolds M.l x.rc.fields.l = true ∧ ¬ lim.hard < (z : Int) ∧ goesB (matHolds M.l) szT lim x = true ∧ overB (matHolds M.l) szT lim x = false) ∨
      (x.gap = false ∧ matHolds M.l x.rc.fields.l = false ∧ goesB (matHolds M.l) szT lim x = false ∧ overB (matHolds M.l) szT lim x = false) ∨ (x.gap = false ∧ matHolds M.l x.rc.fields.l = true ∧ lim.hard < (z : Int) ∧ goesB (matHolds M.l) szT lim x = false ∧ overB (matHolds M.l) szT lim x = true) := by
    unfold goesB overB askedB
    rw [hz]
    cases hg : x.gap with
    | true => exact .inl ⟨rfl, rfl, rfl⟩
    | false =>
      cases hq : matHolds M.l x.rc.fields.l with
      | false => exact .inr (.inr (.inl ⟨rfl, rfl, rfl, rfl⟩))
      | true =>
        by_cases ho : lim.hard < (z : Int)
        · exact .inr (.inr (.inr ⟨rfl, rfl, ho, by simp [ho], by simp [ho]⟩))
        · exact .inr (.inl ⟨rfl, rfl, ho, by simp [ho], by simp [ho]⟩)
  have hwb : IntKind.i64.wrap ((s.bytes : Int) + (z : Int)) = ((s.bytes + z : Nat) : Int) := by rw [wrap_i64] <;> omega
  have hwu : IntKind.i64.wrap ((s.used : Int) + 1) = ((s.used + 1 : Nat) : Int) := by rw [wrap_i64] <;> omega
  have hstopG : goesB (matHolds M.l) szT lim x = true → stopB (matHolds M.l) szT lim s x = (decide ((s.items.length : Int) = lim.count) || (decide (0 < s.items.length) && decide (lim.bytes < (s.bytes : Int) + (z : Int)))) := by
    intro hg
    unfold stopB
    rw [hg, Bool.true_and, hz]
  have hstopN : goesB (matHolds M.l) szT lim x = false → stopB (matHolds M.l) szT lim s x = false := by
    intro hg
    unfold stopB
    rw [hg, Bool.false_and]
  have hcz : ¬ (0 : Int) = lim.count := by omega
  simp only [LBld, cAt, bodyOf, Tryz.f14, Option.getD, stripC, stripL, stripOp]

  rcases hkind with ⟨hg, hgo, hovb⟩ | ⟨hg, hho, hov, hgo, hovb⟩ | ⟨hg, hho, hgo, hovb⟩ | ⟨hg, hho, hov, hgo, hovb⟩
  · rcases hH with ⟨h1, rfl⟩ | ⟨h1, n, q, hn, hq, rfl⟩
    · have hlen : s.items.length = 0 := by rw [h1]; rfl
      have hst : stopB (matHolds M.l) szT lim s x = false := by rw [hstopG hgo, hlen]; simp [hcz]
      by_cases hc : takeC s.fin x = 0
      case neg =>
        by_cases hk0 : k = 0
        · have hR2 := bld_code0 _ _ hRk hst hc (by omega)
          subst hk0
          simp [-It.ea, k5, k6, k8, k10, k31, k32, k33, hlt, hnn, hea, ft, htkf, resM, hg, hcz, hc]
          exact bldJ_ret (by rw [hR2]) (by simp) (by rw [hR2]; simp)
        · have hR2 := bld_code1 _ _ hRk hst hc (by omega)
          have hk0' : ¬ (k : Int) = 0 := by omega
          simp [-It.ea, k5, k6, k8, k10, k31, k32, k33, hlt', hnn, hea, ft, htkf, resM, hg, hcz, hc, hk0]
          exact bldJ_exit hR2 (by simp) (by simp) (.inl ⟨h1, _, rfl⟩)
      have hN := bld_next _ _ hRk hst hc
      simp [-It.ea, k5, k6, k8, k10, k31, k32, k33, hlt', hnn, hea, ft, htkf, resM, hg, hcz, hc, hw, hwb, hwu, maxBytes]
      have e1 := stp_fin (matHolds M.l) lim takeL (s := s) hovb
      have e2 := takeL_len (f := s.fin) (x := x) (o := false)
      have e3 := takeL_ne (f := s.fin) (x := x) (o := false)
      obtain ⟨e4, e5⟩ := stp_goes (matHolds M.l) lim takeL (s := s) hgo
      rw [hz] at e5
      have e6 := stp_used (matHolds M.l) lim takeL s x
      generalize stepB takeL (matHolds M.l) szT lim s x = s2 at *
      exact ⟨k + 1, by omega, by omega, s2, by omega, hN, by rw [e4]; simp; omega, by omega, by rw [e1]; omega, by omega, .inr ⟨by rw [e4]; simp, 39, 1, by rw [e4, h1]; rfl, by rw [e4, h1]; rfl, by rw [e1, e3, e4, e5, e6, h1, List.nil_append, encs_one]; simp⟩⟩
    · have hlen : 0 < s.items.length := by
        rcases Nat.eq_zero_or_pos s.items.length with h | h
        · exact absurd (List.eq_nil_of_length_eq_zero h) h1
        · exact h
      have hq0 : 0 < q := by omega
      have hk0 : ¬ k = 0 := by omega
      have hk0' : ¬ (k : Int) = 0 := by omega
      have hkn : q * 39 = n := by omega
      have hlk : s.items.length = q := hq.symm
      have htk2 : List.take n (encs s.items) = encs s.items := List.take_of_length_le (by simp; omega)
      have hm1 : (q + 1) * 104 ≤ 140737488355328 := by omega
      have hm2 : q + 1 ≤ 140737488355328 := by omega
      by_cases hcnt : (q : Int) = lim.count
      · have hcb : ((q : Int) == lim.count) = true := by simp [hcnt]
        have hR2 := bld_stop _ _ hRk (by rw [hstopG hgo, hlk, decide_eq_true hcnt, Bool.true_or])
        simp [-It.ea, k5, k6, k8, k10, k31, k32, k33, hlt', hnn, hea, ft, hg, hcb]
        exact bldJ_exit hR2 (by simp) (by simp) (.inr ⟨h1, n, q, _, hn, hq, rfl⟩)
      have hcb : ((q : Int) == lim.count) = false := by simp [hcnt]
      by_cases hby : lim.bytes < (s.bytes : Int) + (z : Int)
      · have hR2 := bld_stop _ _ hRk (by rw [hstopG hgo, hlk, decide_eq_true hq0, decide_eq_true (p := lim.bytes < _) (by omega), Bool.and_self, Bool.or_true])
        simp [-It.ea, k5, k6, k8, k10, k31, k32, k33, hlt', hnn, hea, ft, hg, hq0, hcb, hby, hwb]
        exact bldJ_exit hR2 (by simp) (by simp) (.inr ⟨h1, n, q, _, hn, hq, rfl⟩)
      have hst : stopB (matHolds M.l) szT lim s x = false := by
        rw [hstopG hgo, hlk, decide_eq_false hcnt, Bool.false_or, decide_eq_false (p := lim.bytes < _) (by omega), Bool.and_false]
      by_cases hc : takeC s.fin x = 0
      case neg =>
        have hR2 := bld_code1 _ _ hRk hst hc (by omega)
        simp [-It.ea, k5, k6, k8, k10, k31, k32, k33, hlt', hnn, hea, ft, htkf, resM, hg, hq0, hcb, hby, hwb, hc, hk0]
        exact bldJ_exit hR2 (by simp) (by simp) (.inr ⟨h1, n, q, _, hn, hq, rfl⟩)
      have hN := bld_next _ _ hRk hst hc
      simp [-It.ea, k5, k6, k8, k10, k31, k32, k33, hlt', hnn, hea, ft, htkf, resM, hg, hq0, hcb, hby, hwb, hc, hw, hwu, hkn, hlk, hm1, hm2, maxBytes]
      have e1 := stp_fin (matHolds M.l) lim takeL (s := s) hovb
      have e2 := takeL_len (f := s.fin) (x := x) (o := false)
      have e3 := takeL_ne (f := s.fin) (x := x) (o := false)
      obtain ⟨e4, e5⟩ := stp_goes (matHolds M.l) lim takeL (s := s) hgo
      rw [hz] at e5
      have e6 := stp_used (matHolds M.l) lim takeL s x
      generalize stepB takeL (matHolds M.l) szT lim s x = s2 at *
      exact ⟨k + 1, by omega, by omega, s2, by omega, hN, by rw [e4]; simp; omega, by omega, by rw [e1]; omega, by omega, .inr ⟨by rw [e4]; simp, n + 39, q + 1, by rw [e4]; simp; omega, by rw [e4]; simp; omega, by rw [e1, e3, e4, e5, e6, encs_snoc]; simp⟩⟩
  · rw [hho] at hh
    rcases hH with ⟨h1, rfl⟩ | ⟨h1, n, q, hn, hq, rfl⟩
    · have hlen : s.items.length = 0 := by rw [h1]; rfl
      have hst : stopB (matHolds M.l) szT lim s x = false := by rw [hstopG hgo, hlen]; simp [hcz]
      by_cases hc : takeC s.fin x = 0
      case neg =>
        by_cases hk0 : k = 0
        · have hR2 := bld_code0 _ _ hRk hst hc (by omega)
          subst hk0
          simp [-It.ea, k5, k6, k8, k10, k31, k32, k33, hlt, hnn, hea, ft, hh, htkf, resM, hg, hov, hcz, hc]
          exact bldJ_ret (by rw [hR2]) (by simp) (by rw [hR2]; simp)
        · have hR2 := bld_code1 _ _ hRk hst hc (by omega)
          have hk0' : ¬ (k : Int) = 0 := by omega
          simp [-It.ea, k5, k6, k8, k10, k31, k32, k33, hlt', hnn, hea, ft, hh, htkf, resM, hg, hov, hcz, hc, hk0]
          exact bldJ_exit hR2 (by simp) (by simp) (.inl ⟨h1, _, rfl⟩)
      have hN := bld_next _ _ hRk hst hc
      simp [-It.ea, k5, k6, k8, k10, k31, k32, k33, hlt', hnn, hea, ft, hh, htkf, resM, hg, hov, hcz, hc, hw, hwb, hwu, maxBytes]
      have e1 := stp_fin (matHolds M.l) lim takeL (s := s) hovb
      have e2 := takeL_len (f := s.fin) (x := x) (o := false)
      have e3 := takeL_ne (f := s.fin) (x := x) (o := false)
      obtain ⟨e4, e5⟩ := stp_goes (matHolds M.l) lim takeL (s := s) hgo
      rw [hz] at e5
      have e6 := stp_used (matHolds M.l) lim takeL s x
      generalize stepB takeL (matHolds M.l) szT lim s x = s2 at *
      exact ⟨k + 1, by omega, by omega, s2, by omega, hN, by rw [e4]; simp; omega, by omega, by rw [e1]; omega, by omega, .inr ⟨by rw [e4]; simp, 39, 1, by rw [e4, h1]; rfl, by rw [e4, h1]; rfl, by rw [e1, e3, e4, e5, e6, h1, List.nil_append, encs_one]; simp⟩⟩
    · have hlen : 0 < s.items.length := by
        rcases Nat.eq_zero_or_pos s.items.length with h | h
        · exact absurd (List.eq_nil_of_length_eq_zero h) h1
        · exact h
      have hq0 : 0 < q := by omega
      have hk0 : ¬ k = 0 := by omega
      have hk0' : ¬ (k : Int) = 0 := by omega
      have hkn : q * 39 = n := by omega
      have hlk : s.items.length = q := hq.symm
      have htk2 : List.take n (encs s.items) = encs s.items := List.take_of_length_le (by simp; omega)
      have hm1 : (q + 1) * 104 ≤ 140737488355328 := by omega
      have hm2 : q + 1 ≤ 140737488355328 := by omega
      by_cases hcnt : (q : Int) = lim.count
      · have hcb : ((q : Int) == lim.count) = true := by simp [hcnt]
        have hR2 := bld_stop _ _ hRk (by rw [hstopG hgo, hlk, decide_eq_true hcnt, Bool.true_or])
        simp [-It.ea, k5, k6, k8, k10, k31, k32, k33, hlt', hnn, hea, ft, hh, hg, hov, hcb]
        exact bldJ_exit hR2 (by simp) (by simp) (.inr ⟨h1, n, q, _, hn, hq, rfl⟩)
      have hcb : ((q : Int) == lim.count) = false := by simp [hcnt]
      by_cases hby : lim.bytes < (s.bytes : Int) + (z : Int)
      · have hR2 := bld_stop _ _ hRk (by rw [hstopG hgo, hlk, decide_eq_true hq0, decide_eq_true (p := lim.bytes < _) (by omega), Bool.and_self, Bool.or_true])
        simp [-It.ea, k5, k6, k8, k10, k31, k32, k33, hlt', hnn, hea, ft, hh, hg, hov, hq0, hcb, hby, hwb]
        exact bldJ_exit hR2 (by simp) (by simp) (.inr ⟨h1, n, q, _, hn, hq, rfl⟩)
      have hst : stopB (matHolds M.l) szT lim s x = false := by
        rw [hstopG hgo, hlk, decide_eq_false hcnt, Bool.false_or, decide_eq_false (p := lim.bytes < _) (by omega), Bool.and_false]
      by_cases hc : takeC s.fin x = 0
      case neg =>
        have hR2 := bld_code1 _ _ hRk hst hc (by omega)
        simp [-It.ea, k5, k6, k8, k10, k31, k32, k33, hlt', hnn, hea, ft, hh, htkf, resM, hg, hov, hq0, hcb, hby, hwb, hc, hk0]
        exact bldJ_exit hR2 (by simp) (by simp) (.inr ⟨h1, n, q, _, hn, hq, rfl⟩)
      have hN := bld_next _ _ hRk hst hc
      simp [-It.ea, k5, k6, k8, k10, k31, k32, k33, hlt', hnn, hea, ft, hh, htkf, resM, hg, hov, hq0, hcb, hby, hwb, hc, hw, hwu, hkn, hlk, hm1, hm2, maxBytes]
      have e1 := stp_fin (matHolds M.l) lim takeL (s := s) hovb
      have e2 := takeL_len (f := s.fin) (x := x) (o := false)
      have e3 := takeL_ne (f := s.fin) (x := x) (o := false)
      obtain ⟨e4, e5⟩ := stp_goes (matHolds M.l) lim takeL (s := s) hgo
      rw [hz] at e5
      have e6 := stp_used (matHolds M.l) lim takeL s x
      generalize stepB takeL (matHolds M.l) szT lim s x = s2 at *
      exact ⟨k + 1, by omega, by omega, s2, by omega, hN, by rw [e4]; simp; omega, by omega, by rw [e1]; omega, by omega, .inr ⟨by rw [e4]; simp, n + 39, q + 1, by rw [e4]; simp; omega, by rw [e4]; simp; omega, by rw [e1, e3, e4, e5, e6, encs_snoc]; simp⟩⟩
  · rw [hho] at hh
    rcases hH with ⟨h1, rfl⟩ | ⟨h1, n, q, hn, hq, rfl⟩
    · have hlen : s.items.length = 0 := by rw [h1]; rfl
      have hst := hstopN hgo
      by_cases hc : takeC s.fin x = 0
      case neg =>
        by_cases hk0 : k = 0
        · have hR2 := bld_code0 _ _ hRk hst hc (by omega)
          subst hk0
          simp [-It.ea, k5, k6, k8, k10, k31, k32, k33, hlt, hnn, hea, ft, hh, htkf, resM, hg, hc]
          exact bldJ_ret (by rw [hR2]) (by simp) (by rw [hR2]; simp)
        · have hR2 := bld_code1 _ _ hRk hst hc (by omega)
          have hk0' : ¬ (k : Int) = 0 := by omega
          simp [-It.ea, k5, k6, k8, k10, k31, k32, k33, hlt', hnn, hea, ft, hh, htkf, resM, hg, hc, hk0]
          exact bldJ_exit hR2 (by simp) (by simp) (.inl ⟨h1, _, rfl⟩)
      have hN := bld_next _ _ hRk hst hc
      simp [-It.ea, k5, k6, k8, k10, k31, k32, k33, hlt', hnn, hea, ft, hh, htkf, resM, hg, hc, hw, hwu]
      have e1 := stp_fin (matHolds M.l) lim takeL (s := s) hovb
      have e2 := takeL_len (f := s.fin) (x := x) (o := false)
      have e3 := takeL_ne (f := s.fin) (x := x) (o := false)
      obtain ⟨e4, e5⟩ := stp_not (matHolds M.l) lim takeL (s := s) hgo
      have e6 := stp_used (matHolds M.l) lim takeL s x
      generalize stepB takeL (matHolds M.l) szT lim s x = s2 at *
      exact ⟨k + 1, by omega, by omega, s2, by omega, hN, by rw [e4]; omega, by omega, by rw [e1]; omega, by omega, .inl ⟨by rw [e4]; exact h1, by rw [e1, e3, e5, e6]; simp⟩⟩
    · have hlen : 0 < s.items.length := by
        rcases Nat.eq_zero_or_pos s.items.length with h | h
        · exact absurd (List.eq_nil_of_length_eq_zero h) h1
        · exact h
      have hq0 : 0 < q := by omega
      have hk0 : ¬ k = 0 := by omega
      have hk0' : ¬ (k : Int) = 0 := by omega
      have hkn : q * 39 = n := by omega
      have hlk : s.items.length = q := hq.symm
      have htk2 : List.take n (encs s.items) = encs s.items := List.take_of_length_le (by simp; omega)
      have hm1 : (q + 1) * 104 ≤ 140737488355328 := by omega
      have hm2 : q + 1 ≤ 140737488355328 := by omega
      have hst := hstopN hgo
      by_cases hc : takeC s.fin x = 0
      case neg =>
        have hR2 := bld_code1 _ _ hRk hst hc (by omega)
        simp [-It.ea, k5, k6, k8, k10, k31, k32, k33, hlt', hnn, hea, ft, hh, htkf, resM, hg, hc, hk0]
        exact bldJ_exit hR2 (by simp) (by simp) (.inr ⟨h1, n, q, _, hn, hq, rfl⟩)
      have hN := bld_next _ _ hRk hst hc
      simp [-It.ea, k5, k6, k8, k10, k31, k32, k33, hlt', hnn, hea, ft, hh, htkf, resM, hg, hc, hw, hwu]
      have e1 := stp_fin (matHolds M.l) lim takeL (s := s) hovb
      have e2 := takeL_len (f := s.fin) (x := x) (o := false)
      have e3 := takeL_ne (f := s.fin) (x := x) (o := false)
      obtain ⟨e4, e5⟩ := stp_not (matHolds M.l) lim takeL (s := s) hgo
      have e6 := stp_used (matHolds M.l) lim takeL s x
      generalize stepB takeL (matHolds M.l) szT lim s x = s2 at *
      exact ⟨k + 1, by omega, by omega, s2, by omega, hN, by rw [e4]; omega, by omega, by rw [e1]; omega, by omega, .inr ⟨by rw [e4]; exact h1, n, q, by rw [e4]; exact hn, by rw [e4]; exact hq, by rw [e1, e3, e4, e5, e6]; simp⟩⟩
  · rw [hho] at hh
    rcases hH with ⟨h1, rfl⟩ | ⟨h1, n, q, hn, hq, rfl⟩
    · have hlen : s.items.length = 0 := by rw [h1]; rfl
      have hst := hstopN hgo
      by_cases hc : takeC s.fin x = 0
      case neg =>
        by_cases hk0 : k = 0
        · have hR2 := bld_code0 _ _ hRk hst hc (by omega)
          subst hk0
          simp [-It.ea, k5, k6, k8, k10, k31, k32, k33, hlt, hnn, hea, ft, hh, htkt, resM, hg, hov, hc]
          exact bldJ_ret (by rw [hR2]) (by simp) (by rw [hR2]; simp)
        · have hR2 := bld_code1 _ _ hRk hst hc (by omega)
          have hk0' : ¬ (k : Int) = 0 := by omega
          simp [-It.ea, k5, k6, k8, k10, k31, k32, k33, hlt', hnn, hea, ft, hh, htkt, resM, hg, hov, hc, hk0]
          exact bldJ_exit hR2 (by simp) (by simp) (.inl ⟨h1, _, rfl⟩)
      have hN := bld_next _ _ hRk hst hc
      simp [-It.ea, k5, k6, k8, k10, k31, k32, k33, hlt', hnn, hea, ft, hh, htkt, resM, hg, hov, hc, hw, hwu]
      have e1 := stp_fin (matHolds M.l) lim takeL (s := s) hovb
      have e2 := takeL_len (f := s.fin) (x := x) (o := true)
      have e3 := takeL_ne (f := s.fin) (x := x) (o := true)
      obtain ⟨e4, e5⟩ := stp_not (matHolds M.l) lim takeL (s := s) hgo
      have e6 := stp_used (matHolds M.l) lim takeL s x
      generalize stepB takeL (matHolds M.l) szT lim s x = s2 at *
      exact ⟨k + 1, by omega, by omega, s2, by omega, hN, by rw [e4]; omega, by omega, by rw [e1]; omega, by omega, .inl ⟨by rw [e4]; exact h1, by rw [e1, e3, e5, e6]; simp⟩⟩
    · have hlen : 0 < s.items.length := by
        rcases Nat.eq_zero_or_pos s.items.length with h | h
        · exact absurd (List.eq_nil_of_length_eq_zero h) h1
        · exact h
      have hq0 : 0 < q := by omega
      have hk0 : ¬ k = 0 := by omega
      have hk0' : ¬ (k : Int) = 0 := by omega
      have hkn : q * 39 = n := by omega
      have hlk : s.items.length = q := hq.symm
      have htk2 : List.take n (encs s.items) = encs s.items := List.take_of_length_le (by simp; omega)
      have hm1 : (q + 1) * 104 ≤ 140737488355328 := by omega
      have hm2 : q + 1 ≤ 140737488355328 := by omega
      have hst := hstopN hgo
      by_cases hc : takeC s.fin x = 0
      case neg =>
        have hR2 := bld_code1 _ _ hRk hst hc (by omega)
        simp [-It.ea, k5, k6, k8, k10, k31, k32, k33, hlt', hnn, hea, ft, hh, htkt, resM, hg, hov, hc, hk0]
        exact bldJ_exit hR2 (by simp) (by simp) (.inr ⟨h1, n, q, _, hn, hq, rfl⟩)
      have hN := bld_next _ _ hRk hst hc
      simp [-It.ea, k5, k6, k8, k10, k31, k32, k33, hlt', hnn, hea, ft, hh, htkt, resM, hg, hov, hc, hw, hwu]
      have e1 := stp_fin (matHolds M.l) lim takeL (s := s) hovb
      have e2 := takeL_len (f := s.fin) (x := x) (o := true)
      have e3 := takeL_ne (f := s.fin) (x := x) (o := true)
      obtain ⟨e4, e5⟩ := stp_not (matHolds M.l) lim takeL (s := s) hgo
      have e6 := stp_used (matHolds M.l) lim takeL s x
      generalize stepB takeL (matHolds M.l) szT lim s x = s2 at *
      exact ⟨k + 1, by omega, by omega, s2, by omega, hN, by rw [e4]; omega, by omega, by rw [e1]; omega, by omega, .inr ⟨by rw [e4]; exact h1, n, q, by rw [e4]; exact hn, by rw [e4]; exact hq, by rw [e1, e3, e4, e5, e6]; simp⟩⟩
end Go.Ev.S
namespace Go.Ev.S
open Go Go.Proofs Go.Ev
noncomputable def LBld2 : Code := cAt [1, 1, 1, 1, 0, 1, 0, 0] (stripC (bodyOf Tryz.f14))
def itHd (x : It) : List D := ofBytes x.id.l ++ (.bool x.gap :: .int .u64 x.fr :: .int .u64 x.til :: .int .u64 x.rc.seq :: .int .u64 x.rc.real :: .int .u64 x.rc.mono :: ofBytes x.rc.boot.l)
theorem it_hd (x : It) : Enc.cells x = itHd x ++ [(.vsl x.rc.fields.nil (encs x.rc.fields.l) x.rc.fields.l.length)] := by
  rw [It.cells]
  simp [itHd]
theorem it_hdN (x : It) : Enc.cells (nrmF x) = itHd x ++ [.vsl x.rc.fields.l.isEmpty (encs x.rc.fields.l) x.rc.fields.l.length] := by
  rw [it_hd]
  rfl
theorem itHd_len (x : It) : (itHd x).length = 38 := by simp [itHd]
theorem itHd_free (x : It) : idFree.idFreeL (itHd x) = true := by
  rw [idFreeL_all]
  simp [itHd, idFree]
def updF (l : List It) (j : Nat) : List It := (l.take j).map nrmF ++ l.drop j
theorem updF_len (l : List It) {j : Nat} (h : j ≤ l.length) : (updF l j).length = l.length := by
  unfold updF
  rw [List.length_append, List.length_map, List.length_take, List.length_drop]
  omega
theorem updF_zero (l : List It) : updF l 0 = l := by simp [updF]
theorem updF_all (l : List It) : updF l l.length = l.map nrmF := by simp [updF]
theorem updF_at {l : List It} {j : Nat} (h : j < l.length) : ∃ A B : List D, A.length = j * 39 + 38 ∧ idFree.idFreeL A = true ∧ idFree.idFreeL B = true ∧ encs (updF l j) = A ++ (.vsl (l[j].rc.fields).nil (encs (l[j].rc.fields).l) (l[j].rc.fields).l.length) :: B ∧
    encs (updF l (j + 1)) = A ++ .vsl l[j].rc.fields.l.isEmpty (encs l[j].rc.fields.l) l[j].rc.fields.l.length :: B := by
  refine ⟨encs ((l.take j).map nrmF) ++ itHd l[j], encs (l.drop (j + 1)), ?_, ?_, encs_idFreeL _, ?_, ?_⟩
  · rw [List.length_append, itHd_len, It.el, List.length_map, List.length_take]
    omega
  · rw [idFreeL_all, List.all_append, encs_idFree, ← idFreeL_all, itHd_free]
    rfl
  · unfold updF
    rw [List.drop_eq_getElem_cons h, encs_append, encs_cons, it_hd]
    simp
  · unfold updF
    rw [List.take_succ_eq_append_getElem h, List.map_append, encs_append, encs_append, List.map_cons, List.map_nil, encs_one, it_hdN]
    simp
theorem stayBlk_at (r o : List D) {A B : List D} (ha : idFree.idFreeL A = true) (hb : idFree.idFreeL B = true) (f : Sl Pr) :
    stayBlk [some r, some o, some (A ++ D.osl 3 (f.l.length * 2) 0 f.l.length 2 :: B), some (encs f.l)] 2 = some [some r, some o, some (A ++ D.vsl false (encs f.l) f.l.length :: B), none] := by
  have h1 : (A ++ D.osl 3 (f.l.length * 2) 0 f.l.length 2 :: B).all idFree = false := by
    rw [List.all_append, List.all_cons]
    simp [idFree]
  obtain ⟨H, hH⟩ : ∃ H : Heap, H = [some r, some o, some (A ++ D.osl 3 (f.l.length * 2) 0 f.l.length 2 :: B), some (encs f.l)] := ⟨_, rfl⟩
  have h2 : stay H 9 (D.osl 3 (f.l.length * 2) 0 f.l.length 2) = some (.vsl false (encs f.l) f.l.length, [3]) := by
    have h3 : hget H 3 = some (encs f.l) := by rw [hH]; rfl
    have h4 : List.take (f.l.length * 2) (encs f.l) = encs f.l := List.take_of_length_le (by simp)
    unfold stay
    rw [if_neg (by simp [idFree])]
    simp only [h3, List.drop_zero, Nat.zero_add]
    rw [if_pos ⟨by simp, Nat.le_refl _⟩, if_pos (encs_idFreeL _), h4]
  have h5 : stayL (stay H 9) (A ++ D.osl 3 (f.l.length * 2) 0 f.l.length 2 :: B) = some (A ++ D.vsl false (encs f.l) f.l.length :: B, [3]) := by
    rw [stayL_append, stayL_free ha]
    simp only [stayL]
    rw [h2, stayL_free hb]
    rfl
  have h6 : hget H 2 = some (A ++ D.osl 3 (f.l.length * 2) 0 f.l.length 2 :: B) := by rw [hH]; rfl
  rw [← hH]
  unfold stayBlk
  simp only [h6]
  rw [if_neg (by rw [h1]; decide), h5]
  simp only
  rw [if_neg (by decide), hH]
  rfl
def BlcJ (R : BatS × Int) : Ex → Env → Heap → Prop
  | .exit i, e, H => i = 2 ∧ look e 8 = some (.optr 0 4 0) ∧ look e 10 = some (.optr 1 4 0) ∧ ((R.1.items = [] ∧ ∃ T, H = some [.vsl true [] 0, .vsl true [] 0, .int .i64 0, .int .i64 0] :: some [.vsl true [] 0, .vsl R.1.fin.isEmpty (encs R.1.fin) R.1.fin.length, .int .i64 R.1.used, .int .i64 R.1.bytes] :: T) ∨
      (R.1.items ≠ [] ∧ ∃ n q T, n = R.1.items.length * 39 ∧ q = R.1.items.length ∧ H = some [.vsl true [] 0, .vsl true [] 0, .int .i64 0, .int .i64 0] :: some [.osl 2 n 0 q 39, .vsl R.1.fin.isEmpty (encs R.1.fin) R.1.fin.length, .int .i64 R.1.used, .int .i64 R.1.bytes] :: some (encs (R.1.items.map nrmF)) :: T))
  | _, _, _ => False
set_option maxRecDepth 4000 in
set_option maxHeartbeats 4000000 in
theorem blc_loop (R : BatS × Int) (hne : R.1.items ≠ []) (hl : R.1.items.length < 1000000) (hfl : ∀ x ∈ R.1.items, x.rc.fields.l.length ≤ 16) (_hful : ∀ x ∈ R.1.items, x.rc.fields.nil = true → x.rc.fields.l = []) (n q : Nat) (hn : n = R.1.items.length * 39) (hq : q = R.1.items.length) (e : Env) (k8 : look e 8 = some (.optr 0 4 0)) (k10 : look e 10 = some (.optr 1 4 0)) (k130 : look e 130 = some (.int .i64 q)) (k131 : look e 131 = some (.int .i64 0)) :
    Run cx 14 149 0 (BlcJ R) [] (code cx 14 149 0 (.loop LBld2) e [some [.vsl true [] 0, .vsl true [] 0, .int .i64 0, .int .i64 0], some [.osl 2 n 0 q 39, .vsl R.1.fin.isEmpty (encs R.1.fin) R.1.fin.length, .int .i64 R.1.used, .int .i64 R.1.bytes], some (encs R.1.items)]) := by
  refine Run.loop (fun (j : Nat) e H => j ≤ q ∧ look e 8 = some (.optr 0 4 0) ∧ look e 10 = some (.optr 1 4 0) ∧ look e 130 = some (.int .i64 q) ∧ look e 131 = some (.int .i64 (j : Nat)) ∧ H = [some [.vsl true [] 0, .vsl true [] 0, .int .i64 0, .int .i64 0], some [.osl 2 n 0 q 39, .vsl R.1.fin.isEmpty (encs R.1.fin) R.1.fin.length, .int .i64 R.1.used, .int .i64 R.1.bytes], some (encs (updF R.1.items j))]) (fun j => q - j) ?_ 0 e _ ⟨Nat.zero_le _, k8, k10, k130, k131, by rw [updF_zero]⟩
  clear k8 k10 k130 k131 e
  rintro j e H ⟨hj, k8, k10, k130, k131, rfl⟩
  by_cases hlt : j < q
  case neg =>
    have hlt' : ¬ (j : Int) < (q : Int) := by omega
    have hjq : j = R.1.items.length := by omega
    subst hjq
    rw [updF_all]
    simp only [LBld2, cAt, bodyOf, Tryz.f14, Option.getD, stripC, stripL, stripOp]
    simp [k8, k10, k130, k131, hlt']
    exact ⟨rfl, by simp, by simp, .inr ⟨hne, n, q, [], hn, hq, rfl⟩⟩
  have hlt' : (j : Int) < (q : Int) := by omega
  have hw : IntKind.i64.wrap ((j : Int) + 1) = ((j + 1 : Nat) : Int) := by rw [wrap_i64] <;> omega
  have hjl : j < R.1.items.length := by omega
  obtain ⟨A, B, a1, a2, a3, a4, a5⟩ := updF_at hjl
  have hlen : (encs (updF R.1.items j)).length = n := by rw [It.el, updF_len _ (by omega), hn]
  rw [a4] at hlen ⊢
  have hmem := List.getElem_mem hjl
  have hf16 := hfl _ hmem
  generalize R.1.items[j] = x at *
  obtain ⟨f, hf⟩ : ∃ f, x.rc.fields = f := ⟨_, rfl⟩
  rw [hf] at hf16 hlen a5 ⊢
  have hB : B.length + (j * 39 + 39) = n := by
    rw [List.length_append, List.length_cons, a1] at hlen
    omega
  have a2' : (∀ y, y ∈ A → idFree y = true) = True := eq_true (List.all_eq_true.1 (by rw [← idFreeL_all]; exact a2))
  have a3' : (∀ y, y ∈ B → idFree y = true) = True := eq_true (List.all_eq_true.1 (by rw [← idFreeL_all]; exact a3))
  have a2c : ∀ m, (∀ y, y ∈ A → closed m y = true) = True := fun m => eq_true (List.all_eq_true.1 (by rw [← closedL_all]; exact closedL_free m _ a2))
  have a3c : ∀ m, (∀ y, y ∈ B → closed m y = true) = True := fun m => eq_true (List.all_eq_true.1 (by rw [← closedL_all]; exact closedL_free m _ a3))
  have hsA : ∀ H, stayL (stay H 9) A = some (A, []) := fun H => stayL_free a2
  have hsB : ∀ H, stayL (stay H 9) B = some (B, []) := fun H => stayL_free a3
  have hd38 : ∀ d : D, List.drop (j * 39 + 38) (A ++ d :: B) = d :: B := fun d => List.drop_left' a1
  have ht38 : ∀ d : D, List.take (j * 39 + 38) (A ++ d :: B) = A := fun d => List.take_left' a1
  have hd39 : ∀ d : D, List.drop (j * 39 + 39) (A ++ d :: B) = B := fun d => by
    have : A ++ d :: B = (A ++ [d]) ++ B := by simp
    rw [this]
    exact List.drop_left' (by rw [List.length_append, a1]; rfl)
  have hln : ∀ d : D, (A ++ d :: B).length = n := fun d => by
    rw [List.length_append, List.length_cons, a1]
    omega
  have hfr : ∀ d : D, idFree d = true → idFree.idFreeL (A ++ d :: B) = true := fun d hd => by
    rw [idFreeL_all, List.all_append, List.all_cons, ← idFreeL_all, ← idFreeL_all, a2, a3, hd]
    rfl
  have hle : j * 39 + 39 ≤ n := by omega
  have hm : f.l.length * 32 ≤ 140737488355328 ∧ f.l.length ≤ 140737488355328 := by omega
  have ht2 : List.take (f.l.length * 2) (encs f.l) = encs f.l := List.take_of_length_le (by simp)
  clear a4
  simp only [LBld2, cAt, bodyOf, Tryz.f14, Option.getD, stripC, stripL, stripOp]
  by_cases h0 : f.l = []
  · have h00 : f.l.length = 0 := by rw [h0]; rfl
    have hfv := hfr (.vsl true [] 0) rfl
    rw [h0] at a5
    replace a5 : encs (updF R.1.items (j + 1)) = A ++ .vsl true [] 0 :: B := a5
    simp [k8, k10, k130, k131, hlt', hw, h0, hd38, ht38, hd39, hln, hle, a2', a3', hfv]
    exact ⟨j + 1, by omega, by omega, by omega, a5.symm⟩
  · have h00 : ¬ f.l.length = 0 := fun h => h0 (List.eq_nil_of_length_eq_zero h)
    have hfn : f.nil = false := by
      cases h : f.nil with
      | false => rfl
      | true => exact absurd (f.h h) h0
    have hfe : f.l.isEmpty = false := by
      cases h : f.l with
      | nil => exact absurd h h0
      | cons => rfl
    have hfv := hfr (.vsl false (encs f.l) f.l.length) rfl
    rw [hfe] at a5
    have hst := stayBlk_at [.vsl true [] 0, .vsl true [] 0, .int .i64 0, .int .i64 0] [.osl 2 n 0 q 39, .vsl R.1.fin.isEmpty (encs R.1.fin) R.1.fin.length, .int .i64 R.1.used, .int .i64 R.1.bytes] a2 a3 f
    simp [-stayBlk, k8, k10, k130, k131, hlt', hw, h00, hfn, hd38, ht38, hd39, hln, hle, hst, hm, hfv, maxBytes]
    exact ⟨j + 1, by omega, by omega, by omega, a5.symm⟩
theorem bld_sub (tc : List Mk → It → Int) (tl : List Mk → It → Bool → List Mk) (hd : List Pr → Bool) (sz : It → Nat) (lim : Lim) : ∀ (l : List It) (s : BatS), (∀ x ∈ (bldGo tc tl hd sz lim l s).1.items, x ∈ s.items ∨ x ∈ l) ∧ (bldGo tc tl hd sz lim l s).1.items.length ≤ s.items.length + l.length
  | [], s => ⟨fun x h => .inl h, Nat.le_refl _⟩
  | y :: l, s => by
    unfold bldGo
    split
    · exact ⟨fun x h => .inl h, Nat.le_add_right _ _⟩
    · split
      · split
        · exact ⟨(fun x h => by cases h), Nat.zero_le _⟩
        · exact ⟨fun x h => .inl h, Nat.le_add_right _ _⟩
      · obtain ⟨h1, h2⟩ := bld_sub tc tl hd sz lim l (stepB tl hd sz lim s y)
        have h3 : (∀ x ∈ (stepB tl hd sz lim s y).items, x ∈ s.items ∨ x = y) ∧ (stepB tl hd sz lim s y).items.length ≤ s.items.length + 1 := by
          unfold stepB
          split
          · exact ⟨fun x hx => by simpa using hx, by simp⟩
          · exact ⟨fun x hx => .inl hx, Nat.le_succ _⟩
        refine ⟨fun x hx => ?_, by rw [List.length_cons]; omega⟩
        rcases h1 x hx with h | h
        · rcases h3.1 x h with h | h
          · exact .inl h
          · exact .inr (by rw [h]; exact List.mem_cons_self ..)
        · exact .inr (List.mem_cons_of_mem _ h)
set_option maxRecDepth 4000 in
set_option maxHeartbeats 8000000 in
theorem bbuild_ev (l : Sl It) (hl : l.l.length < 1000000) (m : Mat) (hm : MatB m.rows.l) (lim : Lim) (d : Sl Mk) (hd : d.l.length < 4611686018427387904) (hx : ∀ x ∈ l.l, x.Ok) :
    call cx 14 [(.vsl l.nil (encs l.l) l.l.length), .agg [(.vsl m.rows.nil (encs m.rows.l) m.rows.l.length)], .agg [.int .i64 lim.count, .int .i64 lim.bytes, .int .i64 lim.hard], (.vsl d.nil (encs d.l) d.l.length)] [] = some (bOut (bldP l.l m lim d.l), []) := by
  have fm := may_evB l hl m hm lim d hd
  unfold bldP
  obtain ⟨M⟩ := m
  simp only at fm hm ⊢
  refine call_run Tryz.func14 rfl ⟨rfl, rfl⟩ ?_
  cases hmay : mayB l.l ⟨M⟩ lim d.l with
  | false =>
    rw [hmay] at fm
    rw [if_neg (by decide)]
    simp [Tryz.f14, fm, bOut, BatS.none]
  | true =>
  rw [hmay] at fm
  rw [if_pos rfl]
  unfold mayB at hmay
  simp only [Bool.and_eq_true] at hmay
  obtain ⟨hlim, -, hright, hall⟩ := hmay
  have hd4 : d.l.length ≤ 4 := rightM_le hright
  have hcount : 1 ≤ lim.count := by
    unfold limOk at hlim
    simp only [Bool.and_eq_true, decide_eq_true_eq] at hlim
    exact hlim.1.1
  rw [List.all_eq_true] at hall
  obtain ⟨R, hR⟩ : ∃ R, bldGo takeC takeL (matHolds M.l) szT lim l.l ⟨[], d.l, 0, 0⟩ = R := ⟨_, rfl⟩
  obtain ⟨hs1, hs2⟩ := bld_sub takeC takeL (matHolds M.l) szT lim l.l ⟨[], d.l, 0, 0⟩
  rw [hR] at hs1 hs2 ⊢
  have hsub : ∀ x ∈ R.1.items, x.rc.fields.l.length ≤ 16 := by
    intro x h
    rcases hs1 x h with h | h
    · cases h
    · cases hg : x.gap with
      | true =>
        obtain ⟨-, -, -, -, -, -, -, -, h9, -⟩ := gap_is (hx x h) (hall x h) hg
        rw [h9]
        exact Nat.zero_le _
      | false =>
        obtain ⟨-, -, -, -, -, h16, -⟩ := rec_is (hx x h) (hall x h) hg
        exact h16
  have hRl : R.1.items.length < 1000000 := by
    simp only [List.length_nil] at hs2
    omega
  clear hs1 hs2
  have hlp := fun e H => bld_loop l hl M hm lim hcount hx hall R d.l hd4 hR e H
  have hl2 := fun hne n q hn hq e => blc_loop R hne hRl hsub (fun x _ => x.rc.fields.h) n q hn hq e
  simp only [LBld, LBld2, cAt, bodyOf, Tryz.f14, Option.getD, stripC, stripL, stripOp] at hlp hl2
  have hmx : d.l.length * 40 ≤ 140737488355328 ∧ d.l.length ≤ 140737488355328 := by omega
  have ht19 : List.take (d.l.length * 19) (encs d.l) = encs d.l := List.take_of_length_le (by simp)
  have hdd : (d.l = [] ∧ d.l.length = 0 ∧ True) ∨ (d.l ≠ [] ∧ ¬ d.l.length = 0 ∧ d.nil = false) := by
    by_cases h : d.l = []
    · exact .inl ⟨h, by rw [h]; rfl, trivial⟩
    · refine .inr ⟨h, fun h2 => h (List.eq_nil_of_length_eq_zero h2), ?_⟩
      cases hn : d.nil with
      | false => rfl
      | true => exact absurd (d.h hn) h
  obtain ⟨dn, dl, hdn⟩ := d
  simp only at hdd hmx ht19 fm hR hd4 hlp ⊢
  clear hright hd
  rcases hdd with ⟨rfl, -, -⟩ | ⟨hne, hdl, rfl⟩
  · simp only [encs_nil, List.length_nil] at fm
    simp [Tryz.f14, fm]
    refine Run.mono (hlp _ _ (by simp) (by simp) (by simp) (by simp) (by simp) (by simp) (by simp) (.inl ⟨rfl, rfl⟩)) ?_
    intro ex e H hJ
    cases ex with
    | normal => exact hJ.elim
    | ret =>
      obtain ⟨T, j1, j2, j3, rfl⟩ := hJ
      simp [j2, j3, bOut, j1, BatS.none]
    | exit i =>
      obtain ⟨rfl, s, hRs, j8, j10, hX⟩ := hJ
      subst hRs
      rcases hX with ⟨h1, T, rfl⟩ | ⟨h1, n, q, T, hn, hq, rfl⟩
      · simp [j8, j10]
        refine run_loop1 ?_
        simp [bOut, h1]
      · have hln : (encs s.items).length = n := by rw [It.el, hn]
        simp [j8, j10]
        refine Run.mono (hl2 h1 n q hn hq _ (by simp) (by simp) (by simp) (by simp)) ?_
        intro ex e H hK
        cases ex with
        | normal => exact hK.elim
        | ret => exact hK.elim
        | exit i =>
          obtain ⟨rfl, c8, c10, hC⟩ := hK
          rcases hC with ⟨c1, -⟩ | ⟨-, n', q', T', c2, c3, rfl⟩
          · exact absurd c1 h1
          · have hie : s.items.isEmpty = false := by
              cases hi : s.items with
              | nil => exact absurd hi h1
              | cons => rfl
            simp only at c2 c3
            subst c2; subst c3
            have hln2 : (encs (s.items.map nrmF)).length = s.items.length * 39 := by rw [It.el, List.length_map]
            have htk : List.take (s.items.length * 39) (encs (s.items.map nrmF)) = encs (s.items.map nrmF) := List.take_of_length_le (by rw [hln2]; exact Nat.le_refl _)
            simp [c8, c10, bOut, hie, hln2, htk]
  · simp [Tryz.f14, fm, hdl, hmx, ht19, maxBytes]
    refine Run.mono (hlp _ _ (by simp) (by simp) (by simp) (by simp) (by simp) (by simp) (by simp) (.inl ⟨rfl, by simp [hne]⟩)) ?_
    intro ex e H hJ
    cases ex with
    | normal => exact hJ.elim
    | ret =>
      obtain ⟨T, j1, j2, j3, rfl⟩ := hJ
      simp [j2, j3, bOut, j1, BatS.none]
    | exit i =>
      obtain ⟨rfl, s, hRs, j8, j10, hX⟩ := hJ
      subst hRs
      rcases hX with ⟨h1, T, rfl⟩ | ⟨h1, n, q, T, hn, hq, rfl⟩
      · simp [j8, j10]
        refine run_loop1 ?_
        simp [bOut, h1]
      · have hln : (encs s.items).length = n := by rw [It.el, hn]
        simp [j8, j10]
        refine Run.mono (hl2 h1 n q hn hq _ (by simp) (by simp) (by simp) (by simp)) ?_
        intro ex e H hK
        cases ex with
        | normal => exact hK.elim
        | ret => exact hK.elim
        | exit i =>
          obtain ⟨rfl, c8, c10, hC⟩ := hK
          rcases hC with ⟨c1, -⟩ | ⟨-, n', q', T', c2, c3, rfl⟩
          · exact absurd c1 h1
          · have hie : s.items.isEmpty = false := by
              cases hi : s.items with
              | nil => exact absurd hi h1
              | cons => rfl
            simp only at c2 c3
            subst c2; subst c3
            have hln2 : (encs (s.items.map nrmF)).length = s.items.length * 39 := by rw [It.el, List.length_map]
            have htk : List.take (s.items.length * 39) (encs (s.items.map nrmF)) = encs (s.items.map nrmF) := List.take_of_length_le (by rw [hln2]; exact Nat.le_refl _)
            simp [c8, c10, bOut, hie, hln2, htk]
end Go.Ev.S
namespace Go.Ev.S
open Go Go.Proofs Go.Ev
end Go.Ev.S
namespace Go.Ev.S
open Go Go.Proofs Go.Ev
def strsS (l : List (List UInt8)) : Sl Str := .of (l.map Str.mk)
def altA : Alt := ⟨[65], strsS [[], [0, 255], [48], [49], [50, 50], [97, 61, 98], [111, 110, 101, 10, 116, 119, 111], [116, 97, 98, 9, 104, 101, 114, 101]]⟩
def altB : Alt := ⟨[66], strsS [[], [50, 50]]⟩
def altM : Alt := ⟨[77, 69, 83, 83, 65, 71, 69], strsS [[48], [49]]⟩
def altP : Alt := ⟨[80, 82, 73, 79, 82, 73, 84, 89], strsS [[110, 111]]⟩
def asksL : Nat → List Row
  | 2 => [⟨.of [altA]⟩]
  | 3 => [⟨.of [altA]⟩, ⟨.of [altB, altM]⟩]
  | 4 => [⟨.of [altP]⟩]
  | _ => []
def asksM (i : Nat) : Mat := ⟨Sl.grown (asksL i)⟩
theorem asks_b (i : Nat) : MatB (asksM i).rows.l := by
  unfold asksM MatB
  rw [Sl.grown_l]
  match i with
  | 0 => simp [asksL]
  | 1 => simp [asksL]
  | 2 => simp [asksL, altA, strsS]
  | 3 => simp [asksL, altA, altB, altM, strsS]
  | 4 => simp [asksL, altP, strsS]
  | _ + 5 => simp [asksL]
theorem asks_ok : ∀ i < 5, matOk (asksM i).rows.l = true := by decide
set_option maxRecDepth 100000 in
theorem compile_ev0 : call cx 28 [.vsl true [] 0] [] = some (.tup [.agg [.vsl true [] 0], .int .i64 0], []) := call_some.2 ⟨200, by kernel_rfl⟩
set_option maxRecDepth 100000 in
theorem compile_ev2 : call cx 28 [.vsl false [.str [65, 61], .str [65, 61, 48], .str [65, 61, 49], .str [65, 61, 50, 50], .str [65, 61, 97, 61, 98], .str [65, 61, 111, 110, 101, 10, 116, 119, 111], .str [65, 61, 116, 97, 98, 9, 104, 101, 114, 101], .str [65, 61, 0, 255]] 8] [] = some (.tup [.agg [.vsl false (encs (asksL 2)) 1], .int .i64 0], []) := call_some.2 ⟨2000, by kernel_rfl⟩
set_option maxRecDepth 100000 in
theorem compile_ev3 : call cx 28 [.vsl false [.str [65, 61], .str [65, 61, 48], .str [65, 61, 49], .str [65, 61, 50, 50], .str [65, 61, 97, 61, 98], .str [65, 61, 111, 110, 101, 10, 116, 119, 111], .str [65, 61, 116, 97, 98, 9, 104, 101, 114, 101], .str [65, 61, 0, 255], .str [43], .str [77, 69, 83, 83, 65, 71, 69, 61, 48], .str [77, 69, 83, 83, 65, 71, 69, 61, 49], .str [66, 61, 50, 50], .str [66, 61]] 13] [] = some (.tup [.agg [.vsl false (encs (asksL 3)) 2], .int .i64 0], []) := call_some.2 ⟨2000, by kernel_rfl⟩
set_option maxRecDepth 100000 in
theorem compile_ev4 : call cx 28 [.vsl false [.str [80, 82, 73, 79, 82, 73, 84, 89, 61, 110, 111]] 1] [] = some (.tup [.agg [.vsl false (encs (asksL 4)) 1], .int .i64 0], []) := call_some.2 ⟨2000, by kernel_rfl⟩
set_option maxHeartbeats 2000000 in
theorem asks_ev (nil : Bool) (zs : List Int) (hnil : nil = true → zs = []) (hz : zs.length ≤ 1000000) (k : Nat) :
    ∃ i k', i < 5 ∧ call cx 10 [.optr 0 2 0] [some (seqD nil zs k)] = some (.agg [(.vsl ((asksM i).rows).nil (encs ((asksM i).rows).l) ((asksM i).rows).l.length)], [some (seqD nil zs k')]) := by
  obtain ⟨x, k2, hx, -, c1⟩ := n_ev nil zs hnil hz k 5 (by decide) (by decide)
  have sf := seqD_free nil zs
  have sl := seqD_len nil zs
  have sc := seqD_cl nil zs
  refine ⟨x, k2, by omega, ?_⟩
  refine call_run Tryz.func10 rfl ⟨rfl, rfl⟩ ?_
  have e0 := compile_ev0
  have e2 := compile_ev2
  have e3 := compile_ev3
  have e4 := compile_ev4
  have l0 : (asksM 0).rows = Sl.none := rfl
  have l1 : (asksM 1).rows = Sl.none := rfl
  have l2 : (asksM 2).rows = .of (asksL 2) := rfl
  have l3 : (asksM 3).rows = .of (asksL 3) := rfl
  have l4 : (asksM 4).rows = .of (asksL 4) := rfl
  have n2 : (asksL 2).length = 1 := rfl
  have n3 : (asksL 3).length = 2 := rfl
  have n4 : (asksL 4).length = 1 := rfl
  generalize asksL 2 = r2 at *
  generalize asksL 3 = r3 at *
  generalize asksL 4 = r4 at *
  have hx5 : x = 0 ∨ x = 1 ∨ x = 2 ∨ x = 3 ∨ x = 4 := by omega
  rcases hx5 with rfl | rfl | rfl | rfl | rfl
  · simp [Tryz.f10, sf, sc, c1, e0, l0]
  · simp [Tryz.f10, sf, sc, c1, e0, l1]
  · simp [Tryz.f10, sf, sc, c1, e2, l2, n2]
  · simp [Tryz.f10, sf, sc, c1, e3, l3, n3]
  · simp [Tryz.f10, sf, sc, c1, e4, l4, n4]
theorem four1 {x : Nat} (h : x < 4) : ∃ v r, List.drop x [D.int .i64 1, .int .i64 300, .int .i64 900, .int .i64 32768] = D.int .i64 v :: r ∧ 1 ≤ v ∧ v ≤ 32768 := by
  have h4 : x = 0 ∨ x = 1 ∨ x = 2 ∨ x = 3 := by omega
  rcases h4 with rfl | rfl | rfl | rfl
  · exact ⟨1, _, rfl, by decide, by decide⟩
  · exact ⟨300, _, rfl, by decide, by decide⟩
  · exact ⟨900, _, rfl, by decide, by decide⟩
  · exact ⟨32768, _, rfl, by decide, by decide⟩
theorem four2 {x : Nat} (h : x < 4) : ∃ v r, List.drop x [D.int .i64 300, .int .i64 350, .int .i64 500, .int .i64 16384] = D.int .i64 v :: r ∧ 1 ≤ v ∧ v ≤ 16384 := by
  have h4 : x = 0 ∨ x = 1 ∨ x = 2 ∨ x = 3 := by omega
  rcases h4 with rfl | rfl | rfl | rfl
  · exact ⟨300, _, rfl, by decide, by decide⟩
  · exact ⟨350, _, rfl, by decide, by decide⟩
  · exact ⟨500, _, rfl, by decide, by decide⟩
  · exact ⟨16384, _, rfl, by decide, by decide⟩
theorem limits_ev (nil : Bool) (zs : List Int) (hnil : nil = true → zs = []) (hz : zs.length ≤ 1000000) (k : Nat) :
    ∃ (lim : Lim) (k' : Nat), limOk lim = true ∧ call cx 11 [.optr 0 2 0] [some (seqD nil zs k)] = some (.agg [.int .i64 lim.count, .int .i64 lim.bytes, .int .i64 lim.hard], [some (seqD nil zs k')]) := by
  obtain ⟨x1, k2, h1, -, c1⟩ := n_ev nil zs hnil hz k 5 (by decide) (by decide)
  obtain ⟨x2, k3, h2, -, c2⟩ := n_ev nil zs hnil hz k2 4 (by decide) (by decide)
  obtain ⟨x3, k4, h3, -, c3⟩ := n_ev nil zs hnil hz k3 4 (by decide) (by decide)
  have sf := seqD_free nil zs
  have sl := seqD_len nil zs
  have sc := seqD_cl nil zs
  obtain ⟨v2, r2, d2, d3, d4⟩ := four1 (x := x2) (by omega)
  obtain ⟨v3, r3, g2, g3, g4⟩ := four2 (x := x3) (by omega)
  have hw : IntKind.i64.wrap ((x1 : Int) + 1) = (x1 : Int) + 1 := by rw [wrap_i64] <;> omega
  have i2 : (x2 : Int) < 4 := by omega
  have i3 : (x3 : Int) < 4 := by omega
  have j2 : x2 < 4 := by omega
  have j3 : x3 < 4 := by omega
  refine ⟨⟨(x1 : Int) + 1, v2, v3⟩, k4, ?_, ?_⟩
  · unfold limOk
    simp only [Bool.and_eq_true, decide_eq_true_eq]
    omega
  · refine call_run Tryz.func11 rfl ⟨rfl, rfl⟩ ?_
    simp [Tryz.f11, sf, sc, c1, c2, c3, d2, g2, i2, i3, hw]
end Go.Ev.S
namespace Go.Ev.S
open Go Go.Proofs Go.Ev
end Go.Ev.S
namespace Go.Ev.S
open Go Go.Proofs Go.Ev
end Go.Ev.S
namespace Go.Ev.S
open Go Go.Proofs Go.Ev
set_option maxHeartbeats 4000000 in
theorem asked_ev (x : It) (hxo : x.Ok) (hok : itOk x = true) (M : Sl Row) (hm : MatB M.l) (lim : Lim) :
    call cx 23 [.agg (Enc.cells x), .agg [(.vsl M.nil (encs M.l) M.l.length)], .agg [.int .i64 lim.count, .int .i64 lim.bytes, .int .i64 lim.hard]] [] = some (.tup [.bool (goesB (matHolds M.l) szT lim x), .bool (overB (matHolds M.l) szT lim x)], []) := by
  obtain ⟨hb1, hb2⟩ := made_b hxo hok
  have ft := rtext_ev x hxo hb2 hb1
  have hh := rholds_ev ⟨M⟩ hm x.rc.fields (by omega)
  simp only at hh
  unfold textD at ft
  rw [if_pos hok] at ft
  obtain ⟨z, hz⟩ : ∃ z, szT x = z := ⟨_, rfl⟩
  replace ft : call cx 22 [.agg (Enc.cells x)] [] = some (.vsl false (ofBytes (textL x)) z, []) := by rw [← hz]; exact ft
  refine call_run Tryz.func23 rfl ⟨rfl, rfl⟩ ?_
  unfold goesB overB askedB
  rw [hz]
  cases hg : x.gap with
  | true => simp [Tryz.f23, hg]
  | false =>
    cases hq : matHolds M.l x.rc.fields.l with
    | false =>
      rw [hq] at hh
      simp [Tryz.f23, hg, hh]
    | true =>
      rw [hq] at hh
      by_cases ho : lim.hard < (z : Int)
      · simp [Tryz.f23, hg, hh, ft, ho]
      · simp [Tryz.f23, hg, hh, ft, ho]
set_option maxRecDepth 100000 in
theorem first_evB : call cx 9 [] [] = some (.bool true, []) := call_some.2 ⟨600, by kernel_rfl⟩
end Go.Ev.S
namespace Go.Ev.S
open Go Go.Proofs Go.Ev
section
variable (hd : List Pr → Bool) (sz : It → Nat) (lim : Lim)
end
end Go.Ev.S
namespace Go.Ev.S
open Go Go.Proofs Go.Ev
theorem made_mayB {L : List It} (hLm : ∀ x ∈ L, MadeI x) {m : Mat} (hok : matOk m.rows.l = true) {lim : Lim} (hlo : limOk lim = true) {d : List Mk} (hd : rightM d = true) : mayB L m lim d = true := by
  unfold mayB
  rw [hlo, hok, hd, List.all_eq_true.2 fun x hx => (hLm x hx).2.1]
  rfl
theorem lim_is {lim : Lim} (h : limOk lim = true) : 1 ≤ lim.count ∧ lim.count ≤ 64 ∧ 1 ≤ lim.bytes ∧ lim.bytes ≤ 32768 ∧ 1 ≤ lim.hard ∧ lim.hard ≤ 16384 := by
  unfold limOk at h
  simp only [Bool.and_eq_true, decide_eq_true_eq] at h
  omega
theorem nrm_ok {x : It} (h : MadeI x) : (nrmF x).Ok ∧ itOk (nrmF x) = true := by
  obtain ⟨h1, h2, -⟩ := h
  obtain ⟨f1, f2, ⟨f3, f4, f5⟩⟩ := h1
  exact ⟨⟨f1, f2, ⟨f3, f4, f5⟩⟩, h2⟩
theorem sum_nrm (l : List It) : sumB szT (l.map nrmF) = sumB szT l := by
  unfold sumB
  rw [List.map_map]
  rfl
theorem notE {α : Type} {l : List α} {j : Nat} (h : j < l.length) : l.isEmpty = false := by
  cases l with
  | nil => exact absurd h (Nat.not_lt_zero _)
  | cons => rfl
structure MadeB (L : List It) (M : List Row) (lim : Lim) (r : BatS) (n : Nat) : Prop where
  bld : bldGo takeC takeL (matHolds M) szT lim L ⟨[], [], 0, 0⟩ = (r, 0)
  le : n ≤ L.length
  used : r.used = n
  items : r.items = (L.take n).filter (goesB (matHolds M) szT lim)
  bytes : r.bytes = sumB szT r.items
  fin : r.fin = finB takeL (matHolds M) szT lim (L.take n) []
  stop : ∀ h : n < L.length, stopB (matHolds M) szT lim r L[n] = true
  count : (r.items.length : Int) ≤ lim.count
  small : r.items.length ≤ 1 ∨ (r.bytes : Int) ≤ lim.bytes
theorem madeB {L : List It} (hs : SeqR L) (M : List Row) {lim : Lim} (hlo : limOk lim = true) : ∃ r n, MadeB L M lim r n := by
  have hli := lim_is hlo
  obtain ⟨h0, n, hn, hst, -⟩ := bld_goes takeC takeL (matHolds M) szT lim (goesI_made (matHolds M) szT lim hs) hli.1
  obtain ⟨s1, s2⟩ := bldGo_small takeC takeL (matHolds M) szT lim L ⟨[], [], 0, 0⟩ h0 (by simp; omega) (.inl (by simp))
  refine ⟨_, n, Prod.ext rfl h0, hn.le, by rw [hn.used]; exact Nat.zero_add _, by rw [hn.items]; exact List.nil_append _, ?_, hn.fin, hst, s1, s2⟩
  rw [hn.bytes, hn.items]
  exact Nat.zero_add _
theorem bldP_made {L : List It} (hLm : ∀ x ∈ L, MadeI x) {M : Sl Row} (hok : matOk M.l = true) {lim : Lim} (hlo : limOk lim = true) {r : BatS} {n : Nat} (h : MadeB L M.l lim r n) : bldP L ⟨M⟩ lim [] = (r, 0) := by
  unfold bldP
  rw [if_pos (made_mayB hLm hok hlo rfl)]
  exact h.bld
set_option maxRecDepth 4000 in
theorem sum_le {l : List It} (h : ∀ x ∈ l, szT x ≤ 660) {n : Nat} (hn : l.length ≤ n) : sumB szT l ≤ n * 660 := by
  have : ∀ b : List It, (∀ x ∈ b, szT x ≤ 660) → sumB szT b ≤ b.length * 660 := by
    intro b
    induction b with
    | nil => intro _; exact Nat.zero_le _
    | cons y b ih =>
      intro hy
      have h1 := ih fun x hx => hy x (List.mem_cons_of_mem _ hx)
      have h2 := hy y (List.mem_cons_self ..)
      unfold sumB at h1 ⊢
      rw [List.length_cons, Nat.add_mul, List.map_cons, List.sum_cons]
      omega
  have h1 := this l h
  have h2 : l.length * 660 ≤ n * 660 := Nat.mul_le_mul_right _ hn
  omega
set_option maxRecDepth 4000 in
set_option maxHeartbeats 16000000 in
theorem bsmall_ev (n1 : Bool) (z1 : List Int) (h1 : n1 = true → z1 = []) (n2 : Bool) (z2 : List Int) (h2 : n2 = true → z2 = []) : call cx 5 [.vsl n1 (intsK .i64 z1) z1.length, .vsl n2 (intsK .i64 z2) z2.length] [] = some (.bool true, []) := by
  have f0 := first_evB
  refine call_run Tryz.func5 rfl ⟨rfl, rfl⟩ ?_
  by_cases hz1 : z1.length ≤ 400
  case neg =>
    have hz1' : (400 : Int) < (z1.length : Int) := by omega
    simp [Tryz.f5, f0, hz1']
  have hz1' : ¬ (400 : Int) < (z1.length : Int) := by omega
  by_cases hz2 : z2.length ≤ 30
  case neg =>
    have hz2' : (30 : Int) < (z2.length : Int) := by omega
    simp [Tryz.f5, f0, hz1', hz2']
  have hz2' : ¬ (30 : Int) < (z2.length : Int) := by omega
  obtain ⟨i, k1, hi5, ha⟩ := asks_ev n2 z2 h2 (by omega) 0
  obtain ⟨lim, k2, hlo, hl⟩ := limits_ev n2 z2 h2 (by omega) k1
  obtain ⟨q, hq, L, k3, hL40, hLm, -, hseq, hsh⟩ := items_evr n1 z1 h1 (by omega) 0 40 (by decide)
  have hmb := asks_b i
  have hmo := asks_ok i hi5
  generalize (asksM i).rows = M at *
  have sf2 := seqD_free n2 z2
  have sl2 := seqD_len n2 z2
  have sc2 := seqD_cl n2 z2
  have sf1 := seqD_free n1 z1
  have sl1 := seqD_len n1 z1
  have sc1 := seqD_cl n1 z1
  replace ha : call cx 10 [.optr 0 2 0] [some [.vsl n2 (intsK .i64 z2) z2.length, .int .i64 0]] = some (.agg [(.vsl M.nil (encs M.l) M.l.length)], [some (seqD n2 z2 k1)]) := ha
  obtain ⟨r, n, hr⟩ := madeB hseq M.l hlo
  have hb := bbuild_ev (Sl.grown L) (by rw [Sl.grown_l]; omega) ⟨M⟩ hmb lim .none (by simp) (by rw [Sl.grown_l]; exact fun x hx => (hLm x hx).1)
  rw [Sl.grown_l, Sl.none_l, bldP_made hLm hmo hlo hr] at hb
  unfold bOut at hb
  simp only [Sl.none_nil, encs_nil, List.length_nil] at hb
  have eL : (Sl.grown L).nil = L.isEmpty := rfl
  rw [eL] at hb
  have hil : ∀ x ∈ r.items, x ∈ L ∧ goesB (matHolds M.l) szT lim x = true := by
    intro x hx
    rw [hr.items] at hx
    obtain ⟨u1, u2⟩ := List.mem_filter.1 hx
    exact ⟨List.mem_of_mem_take u1, u2⟩
  have hcnt : ¬ lim.count < (r.items.length : Int) := by have := hr.count; omega
  have hnl : r.used ≤ L.length := by rw [hr.used]; exact hr.le
  have hIl : (r.items.map nrmF).length = r.items.length := List.length_map _
  have hmk : ∀ x ∈ r.items.map nrmF, x.Ok ∧ itOk x = true ∧ goesB (matHolds M.l) szT lim x = true ∧ szT x ≤ 660 := by
    intro x hx
    obtain ⟨y, hy, rfl⟩ := List.mem_map.1 hx
    obtain ⟨u1, u2⟩ := hil y hy
    exact ⟨(nrm_ok (hLm y u1)).1, (nrm_ok (hLm y u1)).2, u2, by show szT y ≤ 660; exact textL_small (hLm y u1)⟩
  have hsumI : sumB szT (r.items.map nrmF) = r.bytes := by rw [sum_nrm, hr.bytes]
  have hIn : r.items.isEmpty = (r.items.map nrmF).isEmpty := by cases r.items <;> rfl
  rw [hIn, ← hIl] at hb
  rw [← hIl] at hcnt
  have hsm : (r.items.map nrmF).length ≤ 1 ∨ ¬ lim.bytes < (r.bytes : Int) := by
    rcases hr.small with h | h
    · exact .inl (by rw [hIl]; exact h)
    · exact .inr (by omega)
  have hI40 : (r.items.map nrmF).length ≤ 40 := by
    rw [hIl, hr.items]
    exact Nat.le_trans (List.length_filter_le _ _) (by rw [List.length_take]; omega)
  generalize r.items.map nrmF = I at *
  have hused : ¬ (L.length : Int) < (r.used : Int) := by omega
  generalize hby0 : r.bytes = by0 at *
  generalize r.used = us at *
  have hby : (1 : Int) < (I.length : Int) → ¬ lim.bytes < (by0 : Int) := by
    intro h
    rcases hsm with h' | h'
    · omega
    · exact h'
  have hMk : ∃ st : D × Heap, call cx 13 [.optr 0 2 0, .int .i64 40] [some [.vsl n1 (intsK .i64 z1) z1.length, .int .i64 0]] = some st ∧ ((L = [] ∧ st = (.vsl true [] 0, [some (seqD n1 z1 k3)])) ∨ (L ≠ [] ∧ st = (.osl 1 (L.length * 39) 0 L.length 39, [some (seqD n1 z1 k3), some (encs L)]))) := by
    refine ⟨q, hq, ?_⟩
    rcases hsh with ⟨e1, e2⟩ | ⟨e1, n', m', e2, e3, e4⟩
    · exact .inl ⟨e1, e2⟩
    · subst e2 e3
      exact .inr ⟨e1, e4⟩
  clear hsh hq
  obtain ⟨q', hq, hsh⟩ := hMk
  by_cases hI1 : (1 : Int) < (I.length : Int)
  all_goals rcases hsh with ⟨rfl, rfl⟩ | ⟨hne, rfl⟩
  all_goals first
    | simp only [List.isEmpty_nil, encs_nil, List.length_nil] at hb
    | rw [List.isEmpty_eq_false_iff.2 hne] at hb
  all_goals first
    | have hu0 : ¬ 0 < us := Nat.not_lt.2 hnl
    | have hu0 := True.intro
  all_goals first
    | have hb1 := hby hI1
    | have hb1 := True.intro
  all_goals simp [Tryz.f5, f0, hz1', hz2', ha, hl, hq, hb, hcnt, hI1, hb1, hu0, hused, sf1, sf2]
  all_goals
    refine Run.loopThen (fun (j : Nat) e H' => j ≤ I.length ∧ look e 5 = some (.bool true) ∧ look e 7 = some (.vptr [(.vsl M.nil (encs M.l) M.l.length)]) ∧ look e 8 = some (.vptr [.int .i64 lim.count, .int .i64 lim.bytes, .int .i64 lim.hard]) ∧ look e 10 = some (.vptr [.vsl I.isEmpty (encs I) I.length, .vsl r.fin.isEmpty (encs r.fin) r.fin.length, .int .i64 us, .int .i64 by0]) ∧ look e 12 = some (.int .i64 (sumB szT (I.take j) : Nat)) ∧ look e 13 = some (.int .i64 (j : Nat)) ∧ H' = []) (fun j => I.length - j) 0 ⟨Nat.zero_le _, by simp, by simp, by simp, by simp, by simp [sumB], by simp, rfl⟩ ?_
    rintro j e H' ⟨hj, k5, k7, k8, k10, k12, k13, rfl⟩
    by_cases hlt : j < I.length
    · have hlt' : (j : Int) < (I.length : Int) := by omega
      obtain ⟨xo, xk, xg, xs⟩ := hmk I[j] (List.getElem_mem hlt)
      obtain ⟨hb1', hb2'⟩ := made_b xo xk
      have ft := rtext_ev I[j] xo hb2' hb1'
      unfold textD at ft
      rw [if_pos xk] at ft
      have fa := asked_ev I[j] xo xk M hmb lim
      rw [xg] at fa
      have hea : List.drop (j * 39) (encs I) = Enc.cells I[j] ++ encs (I.drop (j + 1)) := It.ea hlt
      have hnE : I.isEmpty = false := notE hlt
      have hsum : sumB szT (I.take (j + 1)) = sumB szT (I.take j) + szT I[j] := by
        unfold sumB
        rw [List.take_succ_eq_append_getElem hlt, List.map_append, List.sum_append]
        simp
      have hsb : sumB szT (I.take j) ≤ j * 660 := sum_le (fun x hx => (hmk x (List.mem_of_mem_take hx)).2.2.2) (by rw [List.length_take]; omega)
      have hw : IntKind.i64.wrap ((j : Int) + 1) = ((j + 1 : Nat) : Int) := by rw [wrap_i64] <;> omega
      generalize sumB szT (I.take j) = S at *
      have xs' : (textL I[j]).length ≤ 660 := xs
      replace hsum : sumB szT (I.take (j + 1)) = S + (textL I[j]).length := hsum
      generalize I[j] = x at *
      simp [-It.ea, k5, k7, k8, k10, k12, k13, hlt', hnE, hea, ft, fa, hw]
      exact ⟨j + 1, by omega, by omega, by rw [hsum, wrap_i64] <;> omega, by omega⟩
    · have hj2 : j = I.length := by omega
      subst hj2
      rw [List.take_length, hsumI] at k12
      simp [k5, k7, k8, k10, k12, k13]
end Go.Ev.S
namespace Go.Ev
open Go Go.Proofs Go.ChangeShapes Go.WideShapes Go.ChangeAt Go.RowKit
theorem handed_shaped {H : Type} {enc : TypeId × Value → H} {a : Assume} {C : Checked} {os : Os} {f : FuncId} {fn : Func} {s : ChangeSpec} {conds : List PathCond} {apart fresh handsOn again : Bool} {X : World → Array Value → Prop}
    (hX : ∀ (w w' : World) (args : Array Value), w.heap = w'.heap → X w args → X w' args)
    (own : ownKnob C.prog.godebug = none) (started : os.Started) (noInit : C.prog.inits.idxOf? f = none) (hfn : C.prog.funcs[f]? = some fn)
    (witness : ∃ (w : World) (tape : Tape) (i : Input), w.os = os ∧ (w.forCall tape i).Shaped C.prog ∧ i.vars = [] ∧ Input.okWide C.prog (w.forCall tape i) .any w.heap.size f i ∧
      ((s.pre enc C.prog fn conds apart (w.forCall tape i).memory i.args ∧ X (w.forCall tape i).memory i.args) ∧ sizedMet enc C.prog fn (OpenSpec.ofChange s) apart (w.forCall tape i).memory i.args) ∧ a.holds C.prog (lone (Frame.enter C.prog f i.args .normal) [] (w.forCall tape i)))
    (contract : ∀ (W : World) (base : Nat) (args : Array Value) (ds gs : List (DataW H)) (before : List MemPlace),
      (∀ (j : Nat) t v, fn.params[j]? = some t → args[j]? = some v → Value.okWide C.prog W .any base t v) →
      DataW.Whole enc C.prog fn.params.toList s.vars apart W args.toList ds gs before → X W args → W.ShapedOpen C.prog →
      Calls C.prog f args W fun e W' => ∃ v, e = .returned v ∧ s.post enc C.prog fn apart fresh handsOn again W args v W') :
    ReturnsInHanded a C os f .any (fun w args => (s.pre enc C.prog fn conds apart w args ∧ X w args) ∧ sizedMet enc C.prog fn (OpenSpec.ofChange s) apart w args) (s.post enc C.prog fn apart fresh handsOn again) := by
  refine returnsInHanded_of_calls own started noInit witness ?_
  intro w tape i _ hsh _ hok hpre _
  obtain ⟨_, _, _, fn', hfn', _, _, _, _, hval⟩ := hok
  have e : fn' = fn := Option.some.inj (hfn'.symm.trans hfn)
  subst e
  obtain ⟨⟨⟨ds, gs, before, hw, hc⟩, hx⟩, hz⟩ := hpre
  have hw' := DataW.Whole.of_heap (w' := w.forCall tape i) (by rfl) hw
  refine (contract (w.forCall tape i) w.heap.size i.args ds gs before hval hw' (hX _ _ _ (by rfl) hx) hsh).mono fun e W' ⟨v, he, hp⟩ => ?_
  subst he
  exact ChangeSpec.post_blind hp
end Go.Ev
