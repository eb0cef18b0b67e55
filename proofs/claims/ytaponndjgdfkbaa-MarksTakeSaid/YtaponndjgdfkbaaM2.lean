import Derived.Test.YtaponndjgdfkbaaM1
import Derived.Test.YtaponndjgdfkbaaEvG1
namespace Go.Ev
open Go Go.Proofs
theorem getElem!_mks {l : List Mk} {j : Nat} (h : j < l.length) : l[j]? = some l[j] := List.getElem?_eq_getElem h

theorem mks_set {l : List Mk} (h : ∀ m ∈ l, m.Ok) (m : Mk) : ∀ {j : Nat}, j < l.length → (mks l).take (j * 19) ++ m.cells ++ (mks l).drop (j * 19 + 19) = mks (l.set j m) := by
  induction l with
  | nil => intro j hj; simp at hj
  | cons a l ih =>
    intro j hj
    have ha := (h a (List.mem_cons_self ..)).len
    have hlen := Mk.cells_len ha
    cases j with
    | zero => simp [mks_cons, List.drop_left' hlen]
    | succ j =>
      have e1 : (j + 1) * 19 = 19 + j * 19 := by omega
      have e2 : (j + 1) * 19 + 19 = 19 + (j * 19 + 19) := by omega
      rw [mks_cons, e2, ← List.drop_drop, List.drop_left' hlen, e1]
      rw [List.take_append, hlen]
      have e3 : 19 + j * 19 - 19 = j * 19 := by omega
      rw [e3, List.take_of_length_le (by rw [hlen]; omega), List.set_cons_succ, mks_cons, ← ih (fun m hm => h m (List.mem_cons_of_mem _ hm)) (by simpa using hj)]
      simp
theorem run_loop1 {X : Cx} {f nt n0 : Nat} {Q : Ex → Env → Heap → Prop} {fs : List Fr} {e : Env} {H : Heap} {c : Code} (h : Run X f nt n0 (fun ex e H => ex ≠ .normal ∧ Run X f nt n0 Q fs (some (ex, e, H))) [] (code X f nt n0 c e H)) :
    Run X f nt n0 Q fs (code X f nt n0 (.loop c) e H) := by
  rw [code_loop]
  cases ho : code X f nt n0 c e H with
  | none => rw [ho, run_none] at h; exact h.elim
  | some q =>
    obtain ⟨ex, e1, H1⟩ := q
    rw [ho, run_nil] at h
    cases ex with
    | normal => exact absurd rfl h.1
    | exit i => exact h.2
    | ret => exact h.2
theorem setRange_mks {l : List Mk} (h : ∀ m ∈ l, m.Ok) {m : Mk} (hm : m.id.length = 16) {j : Nat} (hj : j < l.length) : setRange (mks l) (j * 19) m.cells = mks (l.set j m) := by
  rw [← mks_set h m hj, setRange, Mk.cells_len hm]
end Go.Ev
namespace Go.Ev.S1
open Go Go.Proofs Go.Ev

theorem compare_ev (m n : Bool) (x y : List UInt8) (hm : m = true → x = []) (hn : n = true → y = []) :
    call cx 37 [.vsl m (ofBytes x) x.length, .vsl n (ofBytes y) y.length] [] = some (.int .i64 (cmpB x y), []) := by
  have h : call cx 49 [.vsl m (ofBytes x) x.length, .vsl n (ofBytes y) y.length] [] = some (.int .i64 (cmpB x y), []) := by
    rw [call_ext Try.func49 rfl, ex49, cmpExt_bytes m n x y hm hn]
    rfl
  refine call_run Try.func37 rfl rfl ?_
  simp [Try.f37, h]

theorem cmpm_ev (x y : Mk) (hx : x.Ok) (hy : y.Ok) : call cx 46 [.agg x.cells, .agg y.cells] [] = some (.int .i64 (cmpB x.id y.id), []) := by
  have h := compare_ev false false x.id y.id (by simp) (by simp)
  rw [hx.len, hy.len] at h
  refine call_run Try.func46 rfl rfl ?_
  have hx' := hx.len
  have hy' := hy.len
  simp [Try.f46, hx', hy', Mk.cells, h]

def lenTab : Nat → Int
  | 0 => 0 | 1 => 1 | 2 => 2 | 3 => 2 | 4 => 3 | 5 => 3 | 6 => 3 | 7 => 3 | _ => 4
theorem len_ev (n : Nat) (hn : n ≤ 12) : call cx 55 [.int .u64 n] [] = some (.int .i64 (lenTab n), []) := by
  have h : n = 0 ∨ n = 1 ∨ n = 2 ∨ n = 3 ∨ n = 4 ∨ n = 5 ∨ n = 6 ∨ n = 7 ∨ n = 8 ∨ n = 9 ∨ n = 10 ∨ n = 11 ∨ n = 12 := by omega
  refine call_some.2 ⟨60, ?_⟩
  rcases h with rfl | rfl | rfl | rfl | rfl | rfl | rfl | rfl | rfl | rfl | rfl | rfl | rfl <;> kernel_rfl
theorem first_ev : call cx 7 [] [] = some (.bool true, []) := call_some.2 ⟨400, by kernel_rfl⟩

/-- One goes down as long as it is less than the one ahead of it. -/
def swp (l : List Mk) (j : Nat) : List Mk :=
  match l[j]?, l[j - 1]? with
  | some a, some b => (l.set j b).set (j - 1) a
  | _, _ => l
def sink : Nat → List Mk → List Mk
  | 0, l => l
  | j + 1, l => match l[j + 1]?, l[j]? with
    | some a, some b => if cmpB a.id b.id < 0 then sink j (swp l (j + 1)) else l
    | _, _ => l
def insFrom : Nat → Nat → List Mk → List Mk
  | 0, _, l => l
  | k + 1, i, l => insFrom k (i + 1) (sink i l)

theorem swp_len (l : List Mk) (j : Nat) : (swp l j).length = l.length := by
  unfold swp
  split <;> simp
theorem sink_len : ∀ (j : Nat) (l : List Mk), (sink j l).length = l.length
  | 0, l => rfl
  | j + 1, l => by
    unfold sink
    split
    · split
      · rw [sink_len j, swp_len]
      · rfl
    · rfl
theorem swp_ok {l : List Mk} (h : ∀ m ∈ l, m.Ok) (j : Nat) : ∀ m ∈ swp l j, m.Ok := by
  unfold swp
  split
  · rename_i a b ha hb
    intro m hm
    rcases List.mem_or_eq_of_mem_set hm with hm | rfl
    · rcases List.mem_or_eq_of_mem_set hm with hm | rfl
      · exact h m hm
      · exact h _ (List.mem_of_getElem? hb)
    · exact h _ (List.mem_of_getElem? ha)
  · exact h
theorem sink_ok : ∀ (j : Nat) {l : List Mk}, (∀ m ∈ l, m.Ok) → ∀ m ∈ sink j l, m.Ok
  | 0, l, h => h
  | j + 1, l, h => by
    unfold sink
    split
    · split
      · exact sink_ok j (swp_ok h _)
      · exact h
    · exact h

noncomputable def L56 : Code := cAt [1, 0, 0] (bodyOf Try.f56)
noncomputable def L56b : Code := cAt [1, 0, 0, 1, 0, 0, 1, 0, 0] (bodyOf Try.f56)
set_option maxHeartbeats 4000000 in
theorem loop56b (i n : Nat) (hn : n ≤ 12) (H : Heap) (b : Nat) (hb : b < H.length) (l : List Mk) (hl : ∀ m ∈ l, m.Ok) (hln : l.length = n) (hi : i < n)
    (e : Env) (h0 : look e 0 = some (.osl b (n * 19) 0 n 19)) (h1 : look e 1 = some (.int .i64 0)) (h2 : look e 2 = some (.int .i64 n)) (h3 : look e 3 = some (.fn 46 [])) (h8 : look e 8 = some (.int .i64 i)) (h9 : look e 9 = some (.int .i64 i)) :
    Run cx 56 53 H.length (fun ex e H' => H' = H.set b (some (mks (sink i l))) ∧ ex = .exit 2 ∧ look e 0 = some (.osl b (n * 19) 0 n 19) ∧ look e 1 = some (.int .i64 0) ∧ look e 2 = some (.int .i64 n) ∧ look e 3 = some (.fn 46 []) ∧ look e 8 = some (.int .i64 i)) [] (code cx 56 53 H.length (.loop L56b) e (H.set b (some (mks l)))) := by
  refine Run.loop (fun (s : Nat × List Mk) e H' => s.1 ≤ i ∧ (∀ m ∈ s.2, m.Ok) ∧ s.2.length = n ∧ H' = H.set b (some (mks s.2)) ∧ sink s.1 s.2 = sink i l ∧ look e 0 = some (.osl b (n * 19) 0 n 19) ∧ look e 1 = some (.int .i64 0) ∧ look e 2 = some (.int .i64 n) ∧ look e 3 = some (.fn 46 []) ∧ look e 8 = some (.int .i64 i) ∧ look e 9 = some (.int .i64 s.1)) (fun s => s.1) ?_ (i, l) e _ ⟨Nat.le_refl _, hl, hln, rfl, rfl, h0, h1, h2, h3, h8, h9⟩
  clear h0 h1 h2 h3 h8 h9 e
  rintro ⟨j, l'⟩ e H' ⟨hj, hl', hln', rfl, hs, h0, h1, h2, h3, h8, h9⟩
  simp only at hj hl' hln' hs h9
  simp only [L56b, cAt, bodyOf, Try.f56, Option.getD]
  have hlen : (mks l').length = n * 19 := by rw [mks_len hl', hln']
  have hg : ((H.set b (some (mks l')))[b]?).getD none = some (mks l') := by rw [List.getElem?_set_self hb]; rfl
  cases j with
  | zero =>
    rw [sink] at hs
    subst hs
    simp [h0, h1, h2, h3, h8, h9]
  | succ k =>
    obtain ⟨j, hjk⟩ : ∃ j, j = k + 1 := ⟨_, rfl⟩
    rw [← hjk] at hj h9 hs
    have hj0 : 0 < j := by omega
    have hjn : (j : Int) < (n : Int) := by omega
    have hkn : (k : Int) < (n : Int) := by omega
    have hw : IntKind.i64.wrap ((j : Int) - 1) = (k : Int) := by rw [wrap_i64] <;> omega
    have hjl : j < l'.length := by omega
    have hkl : k < l'.length := by omega
    have hm := hl' _ (List.getElem_mem hjl)
    have hm' := hl' _ (List.getElem_mem hkl)
    have hc := cmpm_ev l'[j] l'[k] hm hm'
    have hsk : sink j l' = if cmpB l'[j].id l'[k].id < 0 then sink k (swp l' j) else l' := by
      subst hjk
      rw [sink, List.getElem?_eq_getElem hjl, List.getElem?_eq_getElem hkl]
    have hsw : swp l' j = (l'.set j l'[k]).set k l'[j] := by
      have : j - 1 = k := by omega
      rw [swp, this, List.getElem?_eq_getElem hjl, List.getElem?_eq_getElem hkl]
    by_cases hlt : cmpB l'[j].id l'[k].id < 0
    · rw [hsk, if_pos hlt, hsw] at hs
      have h19 : j * 19 + 19 ≤ n * 19 := by omega
      have h19' : k * 19 + 19 ≤ n * 19 := by omega
      have hl2 : ∀ m ∈ l'.set j l'[k], m.Ok := fun m hm2 => by
        rcases List.mem_or_eq_of_mem_set hm2 with h | rfl
        · exact hl' _ h
        · exact hm'
      have hkl2 : k < (l'.set j l'[k]).length := by simpa using hkl
      have hlen2 : (mks (l'.set j l'[k])).length = n * 19 := by rw [mks_len hl2, List.length_set, hln']
      simp [-setRange, h0, h1, h2, h3, h8, h9, hj0, hjn, hkn, hw, hlen, mks_at hl' hjl, mks_at hl' hkl, take_cells hm, take_cells hm', hm.len, hm'.len, hc, hlt, h19, h19', setRange_mks hl' hm'.len hjl, hb, hlen2, setRange_mks hl2 hm.len hkl2]
      exact ⟨k, by omega, by omega, _, by rw [← hsw]; exact swp_ok hl' j, by simp [hln'], rfl, hs, rfl⟩
    · rw [hsk, if_neg hlt] at hs
      subst hs
      simp [-setRange, h0, h1, h2, h3, h8, h9, hj0, hjn, hkn, hw, hg, hlen, mks_at hl' hjl, mks_at hl' hkl, take_cells hm, take_cells hm', hm.len, hm'.len, hc, hlt]

theorem loop56 (n : Nat) (hn : n ≤ 12) (H : Heap) (b : Nat) (hb : b < H.length) (l : List Mk) (hl : ∀ m ∈ l, m.Ok) (hln : l.length = n)
    (e : Env) (h0 : look e 0 = some (.osl b (n * 19) 0 n 19)) (h1 : look e 1 = some (.int .i64 0)) (h2 : look e 2 = some (.int .i64 n)) (h3 : look e 3 = some (.fn 46 [])) (h8 : look e 8 = some (.int .i64 1)) :
    Run cx 56 53 H.length (fun ex e H' => H' = H.set b (some (mks (insFrom (n - 1) 1 l))) ∧ ex = .exit 0) [] (code cx 56 53 H.length (.loop L56) e (H.set b (some (mks l)))) := by
  refine Run.loop (fun (s : Nat × List Mk) e H' => 1 ≤ s.1 ∧ (∀ m ∈ s.2, m.Ok) ∧ s.2.length = n ∧ H' = H.set b (some (mks s.2)) ∧ insFrom (n - s.1) s.1 s.2 = insFrom (n - 1) 1 l ∧ look e 0 = some (.osl b (n * 19) 0 n 19) ∧ look e 1 = some (.int .i64 0) ∧ look e 2 = some (.int .i64 n) ∧ look e 3 = some (.fn 46 []) ∧ look e 8 = some (.int .i64 s.1)) (fun s => n - s.1) ?_ (1, l) e _ ⟨Nat.le_refl _, hl, hln, rfl, rfl, h0, h1, h2, h3, h8⟩
  clear h0 h1 h2 h3 h8 e
  rintro ⟨i, l'⟩ e H' ⟨hi, hl', hln', rfl, hs, h0, h1, h2, h3, h8⟩
  simp only at hi hl' hln' hs h8
  simp only [L56, cAt, bodyOf, Try.f56, Option.getD]
  by_cases hin : i < n
  · have hin' : (i : Int) < (n : Int) := by omega
    have hw : IntKind.i64.wrap ((i : Int) + 1) = ((i + 1 : Nat) : Int) := by rw [wrap_i64] <;> omega
    have hb' : b < (H.set b (some (mks l'))).length := by simpa using hb
    have hr := loop56b i n hn H b hb l' hl' hln' hin
    simp only [L56b, cAt, bodyOf, Try.f56, Option.getD] at hr
    have hsn : insFrom (n - i) i l' = insFrom (n - (i + 1)) (i + 1) (sink i l') := by
      have : n - i = (n - (i + 1)) + 1 := by omega
      rw [this, insFrom]
    simp [h0, h1, h2, h3, h8, hin']
    refine Run.mono (hr _ ?_ ?_ ?_ ?_ ?_ ?_) ?_
    iterate 6 simp
    rintro ex e H' ⟨rfl, rfl, h0, h1, h2, h3, h8⟩
    simp [h0, h1, h2, h3, h8, hw]
    exact ⟨i + 1, by omega, by omega, _, sink_ok i hl', by rw [sink_len, hln'], rfl, by rw [← hsn, hs], rfl⟩
  · have hin' : ¬ (i : Int) < (n : Int) := by omega
    have h0n : n - i = 0 := by omega
    rw [h0n, insFrom] at hs
    subst hs
    simp [h0, h1, h2, h3, h8, hin']

theorem isort_ev (n : Nat) (hn : n ≤ 12) (H : Heap) (b : Nat) (hcl : H.all (blkClosed H.length) = true) (l : List Mk) (hl : ∀ m ∈ l, m.Ok) (hln : l.length = n) (hg : hget H b = some (mks l)) :
    call cx 56 [.osl b (n * 19) 0 n 19, .int .i64 0, .int .i64 n, .fn 46 []] H = some (.tup [], H.set b (some (mks (insFrom (n - 1) 1 l)))) := by
  have hb : b < H.length := by
    rcases Nat.lt_or_ge b H.length with h | h
    · exact h
    · rw [hget, List.getElem?_eq_none h] at hg; cases hg
  have hset : H.set b (some (mks l)) = H := by
    rw [hget, List.getElem?_eq_getElem hb] at hg
    simp only [Option.getD_some] at hg
    rw [← hg, List.set_getElem_self]
  refine call_run Try.func56 rfl rfl ?_
  have hr := loop56 n hn H b hb l hl hln
  rw [hset] at hr
  simp only [L56, cAt, bodyOf, Try.f56, Option.getD] at hr
  simp [Try.f56]
  refine Run.mono (hr _ ?_ ?_ ?_ ?_ ?_) ?_
  iterate 4 simp
  · simp; rfl
  rintro ex e H' ⟨rfl, rfl⟩
  simp
  refine ⟨fun x hx => ?_, List.take_of_length_le (by simp)⟩
  have hx' := List.mem_of_mem_take hx
  rcases List.mem_or_eq_of_mem_set hx' with h | rfl
  · exact List.all_eq_true.1 hcl x h
  · exact mks_closed _ _

theorem pdq_ev (n : Nat) (hn : n ≤ 12) (k : Int) (H : Heap) (b : Nat) (hcl : H.all (blkClosed H.length) = true) (l : List Mk) (hl : ∀ m ∈ l, m.Ok) (hln : l.length = n) (hg : hget H b = some (mks l)) :
    call cx 54 [.osl b (n * 19) 0 n 19, .int .i64 0, .int .i64 n, .int .i64 k, .fn 46 []] H = some (.tup [], H.set b (some (mks (insFrom (n - 1) 1 l)))) := by
  have h := isort_ev n hn H b hcl l hl hln hg
  have hw : IntKind.i64.wrap (n : Int) = (n : Int) := by rw [wrap_i64]; omega
  have hn' : (n : Int) ≤ 12 := by omega
  refine call_run Try.func54 rfl rfl ?_
  simp [Try.f54]
  refine run_loop1 ?_
  simp [hw, hn', h]
  refine ⟨fun x hx => ?_, List.take_of_length_le (by simp)⟩
  have hx' := List.mem_of_mem_take hx
  rcases List.mem_or_eq_of_mem_set hx' with h | rfl
  · exact List.all_eq_true.1 hcl x h
  · exact mks_closed _ _

theorem sort_ev (n : Nat) (hn : n ≤ 12) (H : Heap) (b : Nat) (hcl : H.all (blkClosed H.length) = true) (l : List Mk) (hl : ∀ m ∈ l, m.Ok) (hln : l.length = n) (hg : hget H b = some (mks l)) :
    call cx 45 [.osl b (n * 19) 0 n 19, .fn 46 []] H = some (.tup [], H.set b (some (mks (insFrom (n - 1) 1 l)))) := by
  have h := pdq_ev n hn (lenTab n) H b hcl l hl hln hg
  have hlen := len_ev n hn
  have hw : IntKind.u64.wrap (n : Int) = (n : Int) := by rw [wrap_u64]; omega
  refine call_run Try.func45 rfl rfl ?_
  simp [Try.f45, h, hlen, hw]
  refine ⟨fun x hx => ?_, List.take_of_length_le (by simp)⟩
  have hx' := List.mem_of_mem_take hx
  rcases List.mem_or_eq_of_mem_set hx' with h | rfl
  · exact List.all_eq_true.1 hcl x h
  · exact mks_closed _ _
end Go.Ev.S1
