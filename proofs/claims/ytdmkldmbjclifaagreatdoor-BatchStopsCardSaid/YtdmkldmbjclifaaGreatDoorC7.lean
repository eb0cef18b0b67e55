import Derived.Test.YtdmkldmbjclifaaGreatDoorC6
import Derived.Handed
import Derived.LaidMore
namespace Go.Ev.S
open Go Go.Proofs Go.Ev
section
variable (hd : List Pr → Bool) (sz : It → Nat) (lim : Lim)
set_option maxRecDepth 8000 in
theorem stops_twice {L : List It} (h : SeqR L) {a : Nat} (ha : a < L.length) (hc : (L.length : Int) + 1 < lim.count) (hb : ((L.length + 1 : Nat) : Int) * 700 ≤ lim.bytes) (hz : ∀ x ∈ L, sz x ≤ 660) (hall : ∀ x ∈ L, goesB hd sz lim x = true) :
    ∃ r, bldGo takeC takeL hd sz lim (L.take (a + 1) ++ L[a] :: L.drop (a + 1)) ⟨[], [], 0, 0⟩ = (r, 0) ∧ r.used = a + 1 ∧ r.items = L.take (a + 1) ∧ r.fin = finB takeL hd sz lim (L.take (a + 1)) [] := by
  obtain ⟨T, hT⟩ : ∃ T, L.take (a + 1) ++ L[a] :: L.drop (a + 1) = T := ⟨_, rfl⟩
  have hlen : (L.take (a + 1)).length = a + 1 := by rw [List.length_take]; omega
  have hTl : T.length = L.length + 1 := by rw [← hT, List.length_append, hlen, List.length_cons, List.length_drop]; omega
  have hmem : ∀ x ∈ T, x ∈ L := by
    intro x hx
    rw [← hT] at hx
    rcases List.mem_append.1 hx with hx | hx
    · exact List.mem_of_mem_take hx
    · rcases List.mem_cons.1 hx with rfl | hx
      · exact List.getElem_mem ha
      · exact List.mem_of_mem_drop hx
  have hpre : ∀ k, k ≤ a + 1 → T.take k = L.take k := by
    intro k hk
    rw [← hT, List.take_append_of_le_length (by omega), List.take_take, Nat.min_eq_left hk]
  have hat : ∀ k (hk : k < a + 1) (hl : k < T.length), T[k] = L[k]'(by omega) := by
    intro k hk hl
    subst hT
    rw [List.getElem_append_left (by omega), List.getElem_take]
  have hagain : T[a + 1]'(by omega) = L[a] := by
    subst hT
    rw [List.getElem_append_right (by omega)]
    simp [hlen]
  rw [hT]
  have hg := goesI_made hd sz lim h
  have h0 : (bldGo takeC takeL hd sz lim T ⟨[], [], 0, 0⟩).2 = 0 := by
    by_cases hz0 : (bldGo takeC takeL hd sz lim T ⟨[], [], 0, 0⟩).2 = 0
    · exact hz0
    · obtain ⟨-, x, l', he, h2, -⟩ := bldGo_code takeC takeL hd sz lim T _ hz0
      have h3 := hg 0 (by omega)
      have h4 := hat 0 (by omega) (by omega)
      simp only [he, List.getElem_cons_zero] at h4
      rw [List.take_zero] at h3
      rw [h4] at h2
      exact absurd h3 h2
  obtain ⟨n, hn⟩ := bldGo_is takeC takeL hd sz lim T _ h0
  have hle := hn.le
  have hnostop : ∀ (hl : n < T.length), stopB hd sz lim (bldGo takeC takeL hd sz lim T ⟨[], [], 0, 0⟩).1 T[n] = false := by
    intro hl
    have hi : (bldGo takeC takeL hd sz lim T ⟨[], [], 0, 0⟩).1.items.length ≤ n := by
      rw [hn.items, List.nil_append]
      exact Nat.le_trans (List.length_filter_le _ _) (by rw [List.length_take]; omega)
    have hs : (bldGo takeC takeL hd sz lim T ⟨[], [], 0, 0⟩).1.bytes ≤ n * 660 := by
      rw [hn.bytes, Nat.zero_add]
      have e3 : ∀ (q : It → Bool) (b : List It), (∀ x ∈ b, sz x ≤ 660) → sumB sz (b.filter q) ≤ b.length * 660 := by
        intro q b
        induction b with
        | nil => intro _; exact Nat.le_refl _
        | cons y b ih =>
          intro hy
          have h1 := ih fun x hx => hy x (List.mem_cons_of_mem _ hx)
          have h2 := hy y (List.mem_cons_self ..)
          rw [List.filter_cons]
          unfold sumB at h1 ⊢
          rw [List.length_cons, Nat.add_mul]
          split
          · simp only [List.map_cons, List.sum_cons]
            omega
          · omega
      have h1 := e3 (goesB hd sz lim) (T.take n) fun x hx => hz x (hmem x (List.mem_of_mem_take hx))
      rw [List.length_take] at h1
      have h2 : min n T.length * 660 ≤ n * 660 := Nat.mul_le_mul_right _ (by omega)
      omega
    have hzn := hz _ (hmem _ (List.getElem_mem hl))
    have h5 : n * 660 ≤ L.length * 660 := Nat.mul_le_mul_right _ (by omega)
    unfold stopB
    rw [hall _ (hmem _ (List.getElem_mem hl)), Bool.true_and, decide_eq_false (by omega), Bool.false_or]
    rw [decide_eq_false (p := lim.bytes < _) (by omega), Bool.and_false]
  have hna : n = a + 1 := by
    rcases Nat.lt_trichotomy n (a + 1) with hlt | he | hgt
    · exfalso
      have hl : n < T.length := by omega
      rcases hn.stop hl with h1 | h1
      · rw [hnostop hl] at h1
        cases h1
      · rw [hn.fin, hpre n (by omega), hat n hlt hl] at h1
        exact h1 (hg n (by omega))
    · exact he
    · exfalso
      have h1 := hn.went (a + 1) hgt (by omega)
      rw [hpre (a + 1) (Nat.le_refl _), hagain] at h1
      have hm := finB_mark hd sz lim h (a + 1) (by omega)
      obtain ⟨j, j1, j2, j3, j4, -⟩ := h.num L[a] (List.getElem_mem ha)
      have h2 := take_again hm (y := L[a]) (by rw [List.take_succ_eq_append_getElem ha]; exact List.mem_append_right _ (List.mem_singleton.2 rfl)) j4
      simp only at h1
      rw [h2] at h1
      cases h1
  subst hna
  refine ⟨_, Prod.ext rfl h0, by rw [hn.used, Nat.zero_add], ?_, ?_⟩
  · rw [hn.items, List.nil_append, hpre _ (Nat.le_refl _)]
    exact List.filter_eq_self.2 fun x hx => hall x (List.mem_of_mem_take hx)
  · rw [hn.fin, hpre _ (Nat.le_refl _)]
theorem stops_code {L : List It} (h : SeqR L) {a : Nat} (ha : a < L.length) : takeC (finB takeL hd sz lim (L.take (a + 1)) []) L[a] = 13 := by
  obtain ⟨j, j1, j2, j3, j4, -⟩ := h.num L[a] (List.getElem_mem ha)
  exact take_again (finB_mark hd sz lim h (a + 1) (by omega)) (by rw [List.take_succ_eq_append_getElem ha]; exact List.mem_append_right _ (List.mem_singleton.2 rfl)) j4
end
end Go.Ev.S
namespace Go.Ev.S
open Go Go.Proofs Go.Ev
theorem made_mayB {L : List It} (hLm : ∀ x ∈ L, MadeI x) {m : Mat} (hok : matOk m.rows.l = true) {lim : Lim} (hlo : limOk lim = true) {d : List Mk} (hd : rightM d = true) : mayB L m lim d = true := by
  unfold mayB
  rw [hlo, hok, hd, List.all_eq_true.2 fun x hx => (hLm x hx).2.1]
  rfl
structure MadeB (L : List It) (M : List Row) (lim : Lim) (r : BatS) (n : Nat) : Prop where
  bld : bldGo takeC takeL (matHolds M) szT lim L ⟨[], [], 0, 0⟩ = (r, 0)
  le : n ≤ L.length
  used : r.used = n
  items : r.items = (L.take n).filter (goesB (matHolds M) szT lim)
  bytes : r.bytes = sumB szT r.items
  fin : r.fin = finB takeL (matHolds M) szT lim (L.take n) []
  stop : ∀ h : n < L.length, stopB (matHolds M) szT lim r L[n] = true
  count : (r.items.length : Int) ≤ lim.count
  small : r.items.length ≤ 1 ∨ (r.bytes : Int) ≤ lim.bytes
set_option maxRecDepth 4000 in
theorem sum_le {l : List It} (h : ∀ x ∈ l, szT x ≤ 660) {n : Nat} (hn : l.length ≤ n) : sumB szT l ≤ n * 660 := by
  have : ∀ b : List It, (∀ x ∈ b, szT x ≤ 660) → sumB szT b ≤ b.length * 660 := by
    intro b
    induction b with
    | nil => intro _; exact Nat.zero_le _
    | cons y b ih =>
      intro hy
      have h1 := ih fun x hx => hy x (List.mem_cons_of_mem _ hx)
      have h2 := hy y (List.mem_cons_self ..)
      unfold sumB at h1 ⊢
      rw [List.length_cons, Nat.add_mul, List.map_cons, List.sum_cons]
      omega
  have h1 := this l h
  have h2 : l.length * 660 ≤ n * 660 := Nat.mul_le_mul_right _ hn
  omega
end Go.Ev.S
namespace Go.Ev.S
open Go Go.Proofs Go.Ev
theorem goesI_take {tc : List Mk → It → Int} {tl : List Mk → It → Bool → List Mk} {hd : List Pr → Bool} {sz : It → Nat} {lim : Lim} {l : List It} {f : List Mk} (h : GoesI tc tl hd sz lim l f) (k : Nat) : GoesI tc tl hd sz lim (l.take k) f := by
  intro n hn
  have hl : n < l.length ∧ n < k := by rw [List.length_take] at hn; omega
  have h1 := h n hl.1
  rw [List.take_take, Nat.min_eq_left (by omega), List.getElem_take]
  exact h1
def lim0 : Lim := ⟨64, 32768, 16384⟩
theorem goes_all {L : List It} (hz : ∀ x ∈ L, szT x ≤ 660) : ∀ x ∈ L, goesB (matHolds []) szT lim0 x = true := by
  intro x hx
  have h1 := hz x hx
  have h2 : matHolds [] x.rc.fields.l = true := rfl
  have h3 : decide (lim0.hard < (szT x : Int)) = false := by
    rw [decide_eq_false_iff_not]
    show ¬ (16384 : Int) < _
    omega
  unfold goesB overB askedB
  rw [h2, h3, Bool.or_true, Bool.and_false, Bool.and_false]
  rfl
theorem fin_right {L : List It} (h : SeqR L) (hd : List Pr → Bool) (lim : Lim) (k : Nat) (hk : k ≤ L.length) : rightM (finB takeL hd szT lim (L.take k) []) = true := by
  have hm := finB_mark hd szT lim h k hk
  unfold rightM
  rw [hm.rises, Bool.and_true, decide_eq_true_eq]
  have := mark_len hm.rises hm.ids
  omega
theorem stops_bld {L : List It} (hs : SeqR L) (hLm : ∀ x ∈ L, MadeI x) (h20 : L.length ≤ 20) {a : Nat} (ha : a < L.length) :
    ∃ r, bldP (L.take (a + 1) ++ L[a] :: L.drop (a + 1)) ⟨.none⟩ lim0 [] = (r, 0) ∧ r.used = a + 1 ∧ r.items = L.take (a + 1) ∧ r.fin = finB takeL (matHolds []) szT lim0 (L.take (a + 1)) [] ∧
    (∃ r', bldP (L.take (a + 1)) ⟨.none⟩ lim0 [] = (r', 0) ∧ r'.fin = r.fin) ∧ bldP (L.drop a) ⟨.none⟩ lim0 r.fin = (BatS.none, 13) := by
  have hz : ∀ x ∈ L, szT x ≤ 660 := fun x hx => textL_small (hLm x hx)
  have hall := goes_all hz
  have hsum : ∀ x ∈ L.take (a + 1), szT x ≤ 660 := fun x hx => hz x (List.mem_of_mem_take hx)
  have hml : (L.take (a + 1)).length = a + 1 := by rw [List.length_take]; omega
  obtain ⟨r, e1, u1, i1, f1⟩ := stops_twice (matHolds []) szT lim0 hs ha (by show (_ : Int) < 64; omega) (by show (_ : Int) ≤ 32768; omega) hz hall
  have hi : SeqR L := hs
  obtain ⟨r', e2, -, -, f2⟩ := bld_whole takeC takeL (matHolds []) szT lim0 (goesI_take (goesI_made (matHolds []) szT lim0 hs) (a + 1)) (by rw [hml]; show (_ : Int) < 64; omega) (by
    have := sum_le hsum (n := a + 1) (by omega)
    show (_ : Int) ≤ 32768
    omega)
  have hok1 : ∀ x ∈ L.take (a + 1) ++ L[a] :: L.drop (a + 1), MadeI x := by
    intro x hx
    rcases List.mem_append.1 hx with hx | hx
    · exact hLm x (List.mem_of_mem_take hx)
    · rcases List.mem_cons.1 hx with rfl | hx
      · exact hLm _ (List.getElem_mem ha)
      · exact hLm x (List.mem_of_mem_drop hx)
  have hmt : matOk (Sl.none : Sl Row).l = true := rfl
  have hlo : limOk lim0 = true := rfl
  have hrt := fin_right hs (matHolds []) lim0 (a + 1) (by omega)
  rw [← f1] at hrt
  refine ⟨r, ?_, u1, i1, f1, ⟨r', ?_, by rw [f2, f1]⟩, ?_⟩
  · unfold bldP
    rw [if_pos (made_mayB (m := ⟨Sl.none⟩) hok1 hmt hlo (d := []) rfl)]
    exact e1
  · unfold bldP
    rw [if_pos (made_mayB (m := ⟨Sl.none⟩) (fun x hx => hLm x (List.mem_of_mem_take hx)) hmt hlo (d := []) rfl)]
    exact e2
  · unfold bldP
    rw [if_pos (made_mayB (m := ⟨Sl.none⟩) (fun x hx => hLm x (List.mem_of_mem_drop hx)) hmt hlo hrt)]
    have h13 : takeC r.fin L[a] = 13 := by rw [f1]; exact stops_code (matHolds []) szT lim0 hs ha
    have hg := hall _ (List.getElem_mem ha)
    rw [List.drop_eq_getElem_cons ha]
    have hst : stopB (matHolds []) szT lim0 ⟨[], r.fin, 0, 0⟩ L[a] = false := by
      unfold stopB
      rw [hg]
      rfl
    have e : (Sl.none : Sl Row).l = [] := rfl
    rw [e]
    unfold bldGo
    rw [if_neg (by rw [hst]; decide), if_pos (by rw [h13]; decide), if_pos rfl, h13]
theorem sameI_nrm (x : It) : sameI (nrmF x) x = true := by
  unfold sameI sameR nrmF
  simp
theorem sameIs_nrm : ∀ l : List It, sameIs (l.map nrmF) l = true
  | [] => rfl
  | x :: l => by
    show (sameI (nrmF x) x && sameIs (l.map nrmF) l) = true
    rw [sameI_nrm, sameIs_nrm l]
    rfl
theorem matB_nil : MatB (Sl.none : Sl Row).l := ⟨Nat.zero_le _, fun _ h => by cases h⟩
theorem bld_vals {T : List It} (_ : T ≠ []) (hl : T.length ≤ 1000) (hx : ∀ x ∈ T, x.Ok) (M : Sl Row) (hm : MatB M.l) (lim : Lim) (d : Sl Mk) (hd : d.l.length ≤ 4) {r : BatS} {c : Int} (h : bldP T ⟨M⟩ lim d.l = (r, c)) :
    call cx 14 [.vsl false (encs T) T.length, .agg [(.vsl M.nil (encs M.l) M.l.length)], .agg [.int .i64 lim.count, .int .i64 lim.bytes, .int .i64 lim.hard], (.vsl d.nil (encs d.l) d.l.length)] [] = some (.tup [.agg [.vsl r.items.isEmpty (encs (r.items.map nrmF)) r.items.length, .vsl r.fin.isEmpty (encs r.fin) r.fin.length, .int .i64 r.used, .int .i64 r.bytes], .int .i64 c], []) := by
  have hb := bbuild_ev (Sl.of T) (by show T.length < _; omega) ⟨M⟩ hm lim d (by omega) hx
  have e : (Sl.of T).l = T := rfl
  rw [e, h] at hb
  exact hb
set_option maxRecDepth 4000 in
set_option maxHeartbeats 16000000 in
theorem bstops_ev (n1 : Bool) (z1 : List Int) (h1 : n1 = true → z1 = []) (at' : Int) (n2 : Bool) (z2 : List Int) (_ : n2 = true → z2 = []) : call cx 8 [.vsl n1 (intsK .i64 z1) z1.length, .int .i64 at', .vsl n2 (intsK .i64 z2) z2.length] [] = some (.bool true, []) := by
  have f0 := first_evB
  refine call_run Tryz.func8 rfl ⟨rfl, rfl⟩ ?_
  by_cases hz1 : z1.length ≤ 200
  case neg =>
    have hz1' : (200 : Int) < (z1.length : Int) := by omega
    simp [Tryz.f8, f0, hz1']
  have hz1' : ¬ (200 : Int) < (z1.length : Int) := by omega
  by_cases hz2 : z2.length ≤ 30
  case neg =>
    have hz2' : (30 : Int) < (z2.length : Int) := by omega
    simp [Tryz.f8, f0, hz1', hz2']
  have hz2' : ¬ (30 : Int) < (z2.length : Int) := by omega
  obtain ⟨q, hq, L, k3, hL20, hLm, -, hseq, hsh⟩ := items_evr n1 z1 h1 (by omega) 0 20 (by decide)
  have sf1 := seqD_free n1 z1
  have sl1 := seqD_len n1 z1
  have sc1 := seqD_cl n1 z1
  rcases hsh with ⟨rfl, rfl⟩ | ⟨hne, n', m', hn', hm', rfl⟩
  · replace hq : call cx 13 [.optr 0 2 0, .int .i64 20] [some [.vsl n1 (intsK .i64 z1) z1.length, .int .i64 0]] = some (.vsl true [] 0, [some (seqD n1 z1 k3)]) := hq
    simp [Tryz.f8, f0, hz1', hz2', hq, sf1]
  · subst hn' hm'
    replace hq : call cx 13 [.optr 0 2 0, .int .i64 20] [some [.vsl n1 (intsK .i64 z1) z1.length, .int .i64 0]] = some (.osl 1 (L.length * 39) 0 L.length 39, [some (seqD n1 z1 k3), some (encs L)]) := hq
    have hl0 : 0 < L.length := List.length_pos_iff.2 hne
    have hl0' : ¬ L.length = 0 := by omega
    obtain ⟨a, ha, hnum⟩ := num_ev at' L.length (by omega) (by omega)
    obtain ⟨r, e1, u1, i1, f1, ⟨r', e2, f2⟩, e3⟩ := stops_bld hseq hLm hL20 ha
    have hea : List.drop (a * 39) (encs L) = Enc.cells L[a] ++ encs (L.drop (a + 1)) := It.ea ha
    obtain ⟨b, hb⟩ : ∃ b, a + 1 = b := ⟨_, rfl⟩
    have hw : IntKind.i64.wrap ((a : Int) + 1) = (b : Int) := by rw [wrap_i64] <;> omega
    rw [hb] at e1 u1 i1 f1 e2 hea
    have ha1 : (a : Int) < (L.length : Int) := by omega
    have hb0 : ¬ b = 0 := by omega
    have hbL : b ≤ L.length := by omega
    have ha2 : (b : Int) ≤ (L.length : Int) := by omega
    have hm1 : b * 104 ≤ 140737488355328 := by omega
    have hm2 : b ≤ 140737488355328 := by omega
    have hm3 : (b + 1) * 104 ≤ 140737488355328 := by omega
    have hm4 : b + 1 ≤ 140737488355328 := by omega
    obtain ⟨c, hc⟩ : ∃ c, L.length - b = c := ⟨_, rfl⟩
    have hm5 : (b + 1 + c) * 104 ≤ 140737488355328 := by omega
    have hm6 : b + 1 + c ≤ 140737488355328 := by omega
    have hm7 : (b + 1) * 39 = b * 39 + 39 := by omega
    have htk : List.take c (List.drop b L) = L.drop b := List.take_of_length_le (by rw [List.length_drop]; omega)
    have hbl : (L.take b).length = b := by rw [List.length_take]; omega
    have hxo : ∀ x ∈ L, x.Ok := fun x hx => (hLm x hx).1
    have hx1 : ∀ x ∈ L.take b, x.Ok := fun x hx => hxo x (List.mem_of_mem_take hx)
    have hx3 : ∀ x ∈ L.drop a, x.Ok := fun x hx => hxo x (List.mem_of_mem_drop hx)
    have hx2 : ∀ x ∈ L.take b ++ L[a] :: L.drop b, x.Ok := by
      intro x hx
      rcases List.mem_append.1 hx with hx | hx
      · exact hx1 x hx
      · rcases List.mem_cons.1 hx with rfl | hx
        · exact hxo _ (List.getElem_mem ha)
        · exact hxo x (List.mem_of_mem_drop hx)
    have hTl : (L.take b ++ L[a] :: L.drop b).length = b + 1 + c := by rw [List.length_append, hbl, List.length_cons, List.length_drop]; omega
    have hfin4 : r.fin.length ≤ 4 := by
      rw [f1, ← hb]
      exact rightM_le (fin_right hseq _ _ (a + 1) (by omega))
    have b1 := bld_vals (by simp) (by rw [hTl]; omega) hx2 .none matB_nil lim0 .none (Nat.zero_le _) e1
    have b2 := bld_vals (by intro h; rw [h] at hbl; exact hb0 hbl.symm) (by omega) hx1 .none matB_nil lim0 .none (Nat.zero_le _) e2
    have b3 := bld_vals (r := BatS.none) (c := 13) (T := L.drop a) (by intro h; have := congrArg List.length h; rw [List.length_drop, List.length_nil] at this; omega) (by rw [List.length_drop]; omega) hx3 .none matB_nil lim0 (Sl.grown r'.fin) (by rw [Sl.grown_l, f2]; exact hfin4) (by rw [Sl.grown_l, f2]; exact e3)
    rw [hTl, encs_append, encs_cons] at b1
    rw [hbl] at b2
    rw [List.length_drop] at b3
    have g1 := rsames_ev (Sl.of ((L.take b).map nrmF)) (Sl.of (L.take b)) (fun x hx => by
      obtain ⟨y, hy, rfl⟩ := List.mem_map.1 hx
      exact (made_b (hx1 y hy) (hLm y (List.mem_of_mem_take hy)).2.1).1) (fun x hx => (made_b (hx1 x hx) (hLm x (List.mem_of_mem_take hx)).2.1).1) (by show ((L.take b).map nrmF).length < _; rw [List.length_map, hbl]; omega)
    have g1' : sameIs (Sl.of ((L.take b).map nrmF)).l (Sl.of (L.take b)).l = true := sameIs_nrm _
    rw [g1'] at g1
    have g2 := krsame_ev (Sl.grown r.fin) (Sl.grown r'.fin) (by rw [Sl.grown_l]; omega)
    rw [Sl.grown_l, Sl.grown_l, f2, beq_self_eq_true] at g2
    rw [f2] at b2
    have hml : ((L.take b).map nrmF).length = b := by rw [List.length_map, hbl]
    have htE : (L.take b).isEmpty = false := List.isEmpty_eq_false_iff.2 (by intro h; rw [h] at hbl; exact hb0 hbl.symm)
    rw [u1, i1, htE, hbl] at b1
    have eG : (Sl.grown r.fin).nil = r.fin.isEmpty := rfl
    rw [eG] at g2
    rw [Sl.grown_l, f2, eG] at b3
    replace g1 : call cx 25 [.vsl false (encs ((L.take b).map nrmF)) ((L.take b).map nrmF).length, .vsl false (encs (L.take b)) (L.take b).length] [] = some (.bool true, []) := g1
    rw [hml, hbl, List.map_take] at g1
    have haL : a ≤ L.length := by omega
    have htk3 : List.take (L.length - a) (List.drop a L) = L.drop a := List.take_of_length_le (by rw [List.length_drop]; omega)
    simp only [Sl.none_nil, Sl.none_l, encs_nil, List.length_nil, lim0] at b1 b2 b3
    have hda : L.drop a = L[a] :: L.drop b := by rw [← hb]; exact List.drop_eq_getElem_cons ha
    have htk4 : List.take ((L.length - a) * 39) (Enc.cells L[a] ++ encs (List.drop b L)) = Enc.cells L[a] ++ encs (List.drop b L) := List.take_of_length_le (by simp; omega)
    rw [hda, encs_cons] at b3
    simp only [BatS.none, List.map_nil, List.isEmpty_nil, encs_nil, List.length_nil] at b3
    have hmA : b * 39 + (39 + c * 39) = b * 39 + 39 + c * 39 := by omega
    have hmB : (b + 1 + c) * 39 ≤ b * 39 + 39 + c * 39 := by omega
    have htk2 : List.take ((b + 1 + c) * 39) (encs (List.take b L) ++ (Enc.cells L[a] ++ encs (List.drop b L))) = encs (List.take b L) ++ (Enc.cells L[a] ++ encs (List.drop b L)) := List.take_of_length_le (by simp; omega)
    simp [Tryz.f8, f0, hz1', hz2', hq, sf1, hl0', hnum, hw, ha1, ha2, hbL, maxBytes, hm1, hm2, hm3, hm4, hm5, hm6, hm7, hmA, hmB, htk2, haL, htk4, hc, htk, hea, -It.ea, b1, b2, b3, g1, g2]
end Go.Ev.S
namespace Go.Ev
open Go Go.Proofs Go.ChangeShapes Go.WideShapes Go.ChangeAt Go.RowKit
theorem handed_shaped {H : Type} {enc : TypeId × Value → H} {a : Assume} {C : Checked} {os : Os} {f : FuncId} {fn : Func} {s : ChangeSpec} {conds : List PathCond} {apart fresh handsOn again : Bool} {X : World → Array Value → Prop}
    (hX : ∀ (w w' : World) (args : Array Value), w.heap = w'.heap → X w args → X w' args)
    (own : ownKnob C.prog.godebug = none) (started : os.Started) (noInit : C.prog.inits.idxOf? f = none) (hfn : C.prog.funcs[f]? = some fn)
    (witness : ∃ (w : World) (tape : Tape) (i : Input), w.os = os ∧ (w.forCall tape i).Shaped C.prog ∧ i.vars = [] ∧ Input.okWide C.prog (w.forCall tape i) .any w.heap.size f i ∧
      ((s.pre enc C.prog fn conds apart (w.forCall tape i).memory i.args ∧ X (w.forCall tape i).memory i.args) ∧ sizedMet enc C.prog fn (OpenSpec.ofChange s) apart (w.forCall tape i).memory i.args) ∧ a.holds C.prog (lone (Frame.enter C.prog f i.args .normal) [] (w.forCall tape i)))
    (contract : ∀ (W : World) (base : Nat) (args : Array Value) (ds gs : List (DataW H)) (before : List MemPlace),
      (∀ (j : Nat) t v, fn.params[j]? = some t → args[j]? = some v → Value.okWide C.prog W .any base t v) →
      DataW.Whole enc C.prog fn.params.toList s.vars apart W args.toList ds gs before → X W args → W.ShapedOpen C.prog →
      Calls C.prog f args W fun e W' => ∃ v, e = .returned v ∧ s.post enc C.prog fn apart fresh handsOn again W args v W') :
    ReturnsInHanded a C os f .any (fun w args => (s.pre enc C.prog fn conds apart w args ∧ X w args) ∧ sizedMet enc C.prog fn (OpenSpec.ofChange s) apart w args) (s.post enc C.prog fn apart fresh handsOn again) := by
  refine returnsInHanded_of_calls own started noInit witness ?_
  intro w tape i _ hsh _ hok hpre _
  obtain ⟨_, _, _, fn', hfn', _, _, _, _, hval⟩ := hok
  have e : fn' = fn := Option.some.inj (hfn'.symm.trans hfn)
  subst e
  obtain ⟨⟨⟨ds, gs, before, hw, hc⟩, hx⟩, hz⟩ := hpre
  have hw' := DataW.Whole.of_heap (w' := w.forCall tape i) (by rfl) hw
  refine (contract (w.forCall tape i) w.heap.size i.args ds gs before hval hw' (hX _ _ _ (by rfl) hx) hsh).mono fun e W' ⟨v, he, hp⟩ => ?_
  subst he
  exact ChangeSpec.post_blind hp
end Go.Ev
