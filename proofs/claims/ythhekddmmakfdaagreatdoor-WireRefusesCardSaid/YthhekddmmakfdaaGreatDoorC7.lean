import Derived.Test.YthhekddmmakfdaaGreatDoorC6
import Derived.Handed
import Derived.LaidMore
namespace Go.Ev.S
open Go Go.Proofs Go.Ev Go.RowKit
def iaOf : Value → Int
  | .int _ n => n
  | _ => 0
def iaI [MaxL] [TxtC] (ok0 : Nat → Prop) (w0 : World) (a : Act) (s : List UInt8) (i : Nat) (a' : Act) (w' : World) : Prop := a'.tmps.size = a.tmps.size ∧ a'.defers = [] ∧ i ≤ s.length ∧ anyI (s.drop i) i = anyI s 0 ∧ ∃ e', look e' 0 = some (.vsl false (ofBytes s) s.length) ∧ look e' 1 = some (.str [61, 10]) ∧ look e' 12 = some (.int .i64 (i : Nat)) ∧ PSt cx ok0 w0 e' [] a' w'
theorem iaI_of [MaxL] [TxtC] (ok0 : Nat → Prop) (w0 : World) (a : Act) (s : List UInt8) (i : Nat) (a' : Act) (w' : World) (e : Env) (h1 : a'.tmps.size = a.tmps.size) (h2 : a'.defers = []) (h3 : i ≤ s.length) (h4 : anyI (s.drop i) i = anyI s 0) (k0 : look e 0 = some (.vsl false (ofBytes s) s.length)) (k1 : look e 1 = some (.str [61, 10])) (k12 : look e 12 = some (.int .i64 (i : Nat))) (h : PSt cx ok0 w0 e [] a' w') : iaI ok0 w0 a s i a' w' := ⟨h1, h2, h3, h4, e, k0, k1, k12, h⟩
set_option maxHeartbeats 4000000 in
set_option maxRecDepth 4000 in
theorem ia_round [MaxL] [TxtC] (hT : TxtRun) (s : List UInt8) (h8 : s.length ≤ 8) (ok0 : Nat → Prop) (w0 : World) (a : Act) (ht : 129 ≤ a.tmps.size) (i : Nat) (a0 : Act) (w1 : World) (hI : iaI ok0 w0 a s i a0 w1) (hlt : i < s.length) {Q : Exit → Act → World → Prop}
    (hret : ∀ a' w', iaQ ok0 w0 (anyI s 0) .ret a' w' → Q .ret a' w') (hgo : ∀ i' a' w', i < i' → iaI ok0 w0 a s i' a' w' → Q .normal a' w') : (cAt [1, 1, 1, 1, 1, 1, 0, 1, 0, 0] ia0).wp cx.P Q a0 w1 := by
  have hG := good hT
  have hgm : cx.glob 0 = some [.int .i64 MaxL.m] := rfl
  obtain ⟨zz, dd, hi, hany, e, k0, k1, k12, h⟩ := hI
  have hlt' : (i : Int) < (s.length : Int) := by omega
  have hsi : s[i]? = some s[i] := List.getElem?_eq_getElem hlt
  have hdrop := List.drop_eq_getElem_cons hlt
  have hat := ofBytes_at hlt
  have hofd : ofBytes (s.drop i) = .int .u8 s[i].toNat :: ofBytes (s.drop (i + 1)) := by
    rw [hdrop]; rfl
  have htk : List.take (s.length - i) (.int .u8 (s[i].toNat : Int) :: ofBytes (s.drop (i + 1))) = .int .u8 (s[i].toNat : Int) :: ofBytes (s.drop (i + 1)) := List.take_of_length_le (by simp; omega)
  have hdl : (s.drop i).length = s.length - i := by simp
  have hdec := dec_facts (s.drop i) (by omega)
  have hdc := ia_dec (s.drop i) (by omega)
  have hb : (s.drop i)[0]'(by omega) = s[i] := by simp
  rw [hb] at hdec
  have hskip := anyI_skip
  have hib := ia_byte s[i]
  have hany0 := hany
  rw [hdrop, anyI] at hany
  have hcw := s[i].toNat_lt
  have hw32 : IntKind.i32.wrap (s[i].toNat : Int) = (s[i].toNat : Int) := by rw [wrap_i32] <;> omega
  have hw1 : IntKind.i64.wrap ((i : Int) + 1) = ((i + 1 : Nat) : Int) := by rw [wrap_i64] <;> omega
  rcases Nat.lt_or_ge s[i].toNat 128 with h128 | h128
  · have hlt2 : (s[i].toNat : Int) < 128 := by omega
    clear hdec hdc
    generalize s[i] = c at *
    refine h.run hG (f := 120) (nt := 129) (by kernel_rfl) (by omega) ?_
    by_cases h1 : c = 61
    · rw [if_pos h1] at hib
      rw [if_pos (.inl h1)] at hany
      simp [ia0, bodyOf, Tryz.f120, k0, k1, k12, hlt', hat, hib, hw32, hlt2]
      intro a3 w3 z3 d3 h3
      exact hret _ _ ⟨rfl, by rw [d3, dd], _, by simp [look, ← hany], h3⟩
    by_cases h2 : c = 10
    · rw [if_neg h1, if_pos h2] at hib
      rw [if_pos (.inr h2)] at hany
      simp [ia0, bodyOf, Tryz.f120, k0, k1, k12, hlt', hat, hib, hw32, hlt2]
      intro a3 w3 z3 d3 h3
      exact hret _ _ ⟨rfl, by rw [d3, dd], _, by simp [look, ← hany], h3⟩
    rw [if_neg h1, if_neg h2] at hib
    rw [if_neg (by rintro (h | h); exact h1 h; exact h2 h)] at hany
    simp [ia0, bodyOf, Tryz.f120, k0, k1, k12, hlt', hat, hib, hw32, hlt2, hw1]
    intro a3 w3 z3 d3 h3
    exact hgo (i + 1) _ _ (by omega) (iaI_of ok0 w0 a s (i + 1) _ _ _ (by omega) (by rw [d3, dd]) hlt hany (by simp [look]) (by simp [look]) (by simp [look]) h3)
  · have hge2 : ¬ (s[i].toNat : Int) < 128 := by omega
    obtain ⟨⟨r, n⟩, hrn⟩ : ∃ q, Utf8.decode ⟨(s.drop i).toArray⟩ 0 = q := ⟨_, rfl⟩
    obtain ⟨q1, q1b, q2, q3, q4, q5, q6⟩ := hdec h128 r n hrn
    rw [hrn] at hdc
    simp only at hdc
    have hnext : anyI (s.drop (i + n)) (i + n) = anyI s 0 := by
      rw [← hany0, anyI_skip n (s.drop i) i q4 (fun j hj hl => by
        have := q5 j hj hl
        constructor
        · intro e; rw [e] at this; revert this; decide
        · intro e; rw [e] at this; revert this; decide), List.drop_drop]
    have hin : i + n ≤ s.length := by omega
    have hwn : IntKind.i64.wrap ((i : Int) + (n : Int)) = ((i + n : Nat) : Int) := by rw [wrap_i64] <;> omega
    rw [hdl, hofd] at hdc
    have hdl0 : ((s.length : Int) - (i : Int)).toNat = s.length - i := by omega
    have hr0 : 0 ≤ (i : Int) := by omega
    clear hdec hskip hib hany hrn q5
    have hcase : (r ≠ 65533 ∧ n = 2) ∨ (r ≠ 65533 ∧ 3 ≤ n ∧ (n : Int) ≤ MaxL.m) ∨ (r ≠ 65533 ∧ 3 ≤ n ∧ ¬ (n : Int) ≤ MaxL.m) ∨ r = 65533 := by
      by_cases hr : r = 65533
      · exact .inr (.inr (.inr hr))
      · have := (q6 hr).1
        by_cases h2 : n = 2
        · exact .inl ⟨hr, h2⟩
        · by_cases hm : (n : Int) ≤ MaxL.m
          · exact .inr (.inl ⟨hr, by omega, hm⟩)
          · exact .inr (.inr (.inl ⟨hr, by omega, hm⟩))
    rcases hcase with ⟨hr, h2⟩ | ⟨hr, h3, hm⟩ | hby
    · obtain ⟨_, hel, hen⟩ := q6 hr
      have hr' : ¬ (r : Int) = 65533 := by omega
      have hen' : ¬ [61, 10] = (Utf8.encode (r : Int)).data.toList := fun e => hen e.symm
      subst h2
      have hw2 : IntKind.i64.wrap ((i : Int) + 2) = (i : Int) + 2 := by rw [wrap_i64] <;> omega
      refine h.run hG (f := 120) (nt := 129) (by kernel_rfl) (by omega) ?_
      simp [ia0, bodyOf, Tryz.f120, k0, k1, k12, hlt', hat, hw32, hge2, hdc, hr', hen', hw2, htk, Nat.le_of_lt hlt]
      intro a3 w3 z3 d3 h3
      exact hgo (i + 2) _ _ (by omega) (iaI_of ok0 w0 a s (i + 2) _ _ _ (by omega) (by rw [d3, dd]) hin hnext (by simp [look]) (by simp [look]) (by simp [look]) h3)
    · obtain ⟨_, hel, hen⟩ := q6 hr
      have hr' : ¬ (r : Int) = 65533 := by omega
      have hn2 : ¬ 2 = (n : Int) := by omega
      have hix := ia_is (Utf8.encode (r : Int)).data.toList (by omega) (by rw [hel]; exact hm)
      refine h.run hG (f := 120) (nt := 129) (by kernel_rfl) (by omega) ?_
      simp [ia0, bodyOf, Tryz.f120, k0, k1, k12, hlt', hat, hw32, hge2, hdc, hr', hn2, hm, hgm, hix, hwn, htk, Nat.le_of_lt hlt]
      intro a3 w3 z3 d3 h3
      exact hgo (i + n) _ _ (by omega) (iaI_of ok0 w0 a s (i + n) _ _ _ (by omega) (by rw [d3, dd]) hin hnext (by simp [look]) (by simp [look]) (by simp [look]) h3)
    · have hcond : (¬ (r : Int) = 65533 ∧ ¬ 2 = (n : Int) ∧ ¬ (n : Int) ≤ MaxL.m) ∨ (r : Int) = 65533 := by
        rcases hby with ⟨h1, h2, h3⟩ | h1
        · exact .inl ⟨by omega, by omega, h3⟩
        · exact .inr (by omega)
      refine wp_ofSeq' (c := (cAt [1, 1, 1, 1, 1, 1, 0, 1, 0, 0] ia0)) rfl fun K1 f1 g1 => ?_
      refine h.run hG (f := 120) (nt := 129) (by kernel_rfl) (by omega) ?_
      simp [cL, ia0, bodyOf, Tryz.f120, k0, k1, k12, hlt']
      intro a1 w1 z1 d1 h1
      refine f1 _ _ ?_
      show (cAt [1, 1, 1, 1, 1, 1, 0, 1, 0, 0, 1] ia0).wp _ _ _ _
      refine wp_ofSeq' (c := (cAt [1, 1, 1, 1, 1, 1, 0, 1, 0, 0, 1] ia0)) rfl fun K10 f10 g10 => ?_
      refine wp_block ?_
      show (cAt [1, 1, 1, 1, 1, 1, 0, 1, 0, 0, 1, 0, 0] ia0).wp _ _ _ _
      refine wp_ofSeq' (c := (cAt [1, 1, 1, 1, 1, 1, 0, 1, 0, 0, 1, 0, 0] ia0)) rfl fun K2 f2 g2 => ?_
      refine h1.run hG (f := 120) (nt := 129) (by kernel_rfl) (by omega) ?_
      simp [cL, ia0, bodyOf, Tryz.f120, hat, hw32, hlt]
      intro a2 w2 z2 d2 h2
      refine f2 _ _ ?_
      show (cAt [1, 1, 1, 1, 1, 1, 0, 1, 0, 0, 1, 0, 0, 1] ia0).wp _ _ _ _
      refine wp_ofSeq' (c := (cAt [1, 1, 1, 1, 1, 1, 0, 1, 0, 0, 1, 0, 0, 1] ia0)) rfl fun K3 f3 g3 => ?_
      refine h2.run hG (f := 120) (nt := 129) (by kernel_rfl) (by omega) ?_
      simp [cL, ia0, bodyOf, Tryz.f120, hge2]
      intro a3 w3 z3 d3 h3
      refine f3 _ _ ?_
      show (cAt [1, 1, 1, 1, 1, 1, 0, 1, 0, 0, 1, 0, 0, 1, 1] ia0).wp _ _ _ _
      refine wp_ofSeq' (c := (cAt [1, 1, 1, 1, 1, 1, 0, 1, 0, 0, 1, 0, 0, 1, 1] ia0)) rfl fun K4 f4 g4 => ?_
      refine h3.run hG (f := 120) (nt := 129) (by kernel_rfl) (by omega) ?_
      simp [cL, ia0, bodyOf, Tryz.f120, hat, hdc, htk, Nat.le_of_lt hlt]
      intro a4 w4 z4 d4 h4
      refine f4 _ _ ?_
      show (cAt [1, 1, 1, 1, 1, 1, 0, 1, 0, 0, 1, 0, 0, 1, 1, 1] ia0).wp _ _ _ _
      refine wp_ofSeq' (c := (cAt [1, 1, 1, 1, 1, 1, 0, 1, 0, 0, 1, 0, 0, 1, 1, 1] ia0)) rfl fun K5 f5 g5 => ?_
      have hst : ∀ (a9 : Act) (w9 : World) (e9 : Env), a9.tmps.size = a.tmps.size → a9.defers = [] → look e9 0 = some (.vsl false (ofBytes s) s.length) → look e9 1 = some (.str [61, 10]) → look e9 11 = some (.int .i64 (n : Nat)) → look e9 12 = some (.int .i64 (i : Nat)) → look e9 13 = some (.int .i32 (r : Nat)) → PSt cx ok0 w0 e9 [] a9 w9 → K5 .normal a9 w9 := by
        intro a9 w9 e9 z9 d9 m0 m1 m11 m12 m13 h9
        refine f5 _ _ ?_
        show iaB0.wp _ _ _ _
        refine iaB_ev hT ok0 w0 a9 w9 e9 (by omega) s _ _ (r : Int) (by omega) m0 m1 m11 m12 m13 h9 fun b1 v1 e1 y1 t1 n0 n1 n11 n12 hb1 => ?_
        show Exit.inBlock 5 _ .normal b1 v1
        refine f10 _ _ ?_
        show (cAt [1, 1, 1, 1, 1, 1, 0, 1, 0, 0, 1, 1] ia0).wp _ _ _ _
        refine hb1.run hG (f := 120) (nt := 129) (by kernel_rfl) (by omega) ?_
        simp [ia0, bodyOf, Tryz.f120, n0, n1, n11, n12, hwn]
        intro b2 v2 y2 t2 hb2
        exact hgo (i + n) _ _ (by omega) (iaI_of ok0 w0 a s (i + n) _ _ _ (by omega) (by rw [t2, t1, d9]) hin hnext (by simp [look]) (by simp [look]) (by simp [look]) hb2)
      refine h4.run hG (f := 120) (nt := 129) (by kernel_rfl) (by omega) ?_
      rcases hcond with ⟨c1, c2, c3⟩ | c1
      · simp [cL, ia0, bodyOf, Tryz.f120, c1, c2, c3, hgm]
        intro a9 w9 z9 d9 h9
        exact hst a9 w9 _ (by omega) (by rw [d9, d4, d3, d2, d1, dd]) (by simp [look]) (by simp [look]) (by simp [look]) (by simp [look]) (by simp [look]) h9
      · simp [cL, ia0, bodyOf, Tryz.f120, c1]
        intro a9 w9 z9 d9 h9
        exact hst a9 w9 _ (by omega) (by rw [d9, d4, d3, d2, d1, dd]) (by simp [look]) (by simp [look]) (by simp [look]) (by simp [look]) (by simp [look, c1]) h9
end Go.Ev.S
namespace Go.Ev.S
open Go Go.Proofs Go.Ev Go.RowKit
set_option maxHeartbeats 4000000 in
set_option maxRecDepth 4000 in
theorem ia_many [MaxL] [TxtC] (hT : TxtRun) (s : List UInt8) (h2 : 2 ≤ s.length) (h8 : s.length ≤ 8) (ok0 : Nat → Prop) (w0 : World) (a : Act) (ht : 129 ≤ a.tmps.size) (hd : a.defers = []) (h : PSt cx ok0 w0 (argEnv 0 [.vsl false (ofBytes s) s.length, .str [61, 10]]) [] a w0) : ia0.wp cx.P (iaQ ok0 w0 (anyI s 0)) a w0 := by
  have hG := good hT
  have hn1 : ¬ (s.length : Int) = 1 := by omega
  have hus := ia_use s.length
  have hn8 : ¬ 8 < s.length := by omega
  simp only [hn8, decide_false] at hus
  refine wp_ofSeq' (c := ia0) rfl fun K1 f1 g1 => ?_
  refine h.run hG (f := 120) (nt := 129) (by kernel_rfl) (by omega) ?_
  simp [cL, ia0, bodyOf, Tryz.f120]
  intro a1 w1 z1 d1 h1
  refine f1 _ _ ?_
  show (cAt [1] ia0).wp _ _ _ _
  refine wp_ofSeq' (c := (cAt [1] ia0)) rfl fun K2 f2 g2 => ?_
  refine h1.run hG (f := 120) (nt := 129) (by kernel_rfl) (by omega) ?_
  simp [cL, ia0, bodyOf, Tryz.f120]
  intro a2 w2 z2 d2 h2
  refine f2 _ _ ?_
  show (cAt [1, 1] ia0).wp _ _ _ _
  refine wp_ofSeq' (c := (cAt [1, 1] ia0)) rfl fun K3 f3 g3 => ?_
  refine h2.run hG (f := 120) (nt := 129) (by kernel_rfl) (by omega) ?_
  simp [cL, ia0, bodyOf, Tryz.f120, hn1]
  intro a3 w3 z3 d3 h3
  refine f3 _ _ ?_
  show (cAt [1, 1, 1] ia0).wp _ _ _ _
  refine wp_ofSeq' (c := (cAt [1, 1, 1] ia0)) rfl fun K4 f4 g4 => ?_
  refine h3.run hG (f := 120) (nt := 129) (by kernel_rfl) (by omega) ?_
  simp [cL, ia0, bodyOf, Tryz.f120]
  intro a4 w4 z4 d4 h4
  refine f4 _ _ ?_
  show (cAt [1, 1, 1, 1] ia0).wp _ _ _ _
  refine wp_ofSeq' (c := (cAt [1, 1, 1, 1] ia0)) rfl fun K5 f5 g5 => ?_
  refine h4.run hG (f := 120) (nt := 129) (by kernel_rfl) (by omega) ?_
  simp [cL, ia0, bodyOf, Tryz.f120, hus]
  intro a5 w5 z5 d5 h5
  refine f5 _ _ ?_
  show (cAt [1, 1, 1, 1, 1] ia0).wp _ _ _ _
  refine wp_ofSeq' (c := (cAt [1, 1, 1, 1, 1] ia0)) rfl fun K6 f6 g6 => ?_
  refine h5.run hG (f := 120) (nt := 129) (by kernel_rfl) (by omega) ?_
  simp [cL, ia0, bodyOf, Tryz.f120]
  intro a6 w6 z6 d6 h6
  refine f6 _ _ ?_
  show (cAt [1, 1, 1, 1, 1, 1] ia0).wp _ _ _ _
  refine wp_ofSeq' (c := (cAt [1, 1, 1, 1, 1, 1] ia0)) rfl fun K0 f0 g0 => ?_
  refine wp_ofSeq' (c := (cAt [1, 1, 1, 1, 1, 1, 0] ia0)) rfl fun K7 f7 g7 => ?_
  refine h6.run hG (f := 120) (nt := 129) (by kernel_rfl) (by omega) ?_
  simp [cL, ia0, bodyOf, Tryz.f120]
  intro a7 w7 z7 d7 h7
  refine f7 _ _ ?_
  show (Code.block 4 (.loop _)).wp _ _ _ _
  have hI0 : iaI ok0 w0 a s 0 a7 w7 := iaI_of ok0 w0 a s 0 _ _ _ (by omega) (by rw [d7, d6, d5, d4, d3, d2, d1, hd]) (by omega) (by simp) (by simp [look]) (by simp [look]) (by simp [look]) h7
  refine wp_block (wp_loop (fun a' w' => ∃ i, iaI ok0 w0 a s i a' w') (fun a' _ => s.length - (iaOf (a'.tmps.getD 12 undef)).toNat) ⟨0, hI0⟩ ?_)
  rintro a9 w9 ⟨i, hI⟩
  have hmu : ∀ {i : Nat} {a9 : Act} {w9 : World}, iaI ok0 w0 a s i a9 w9 → (iaOf (a9.tmps.getD 12 undef)).toNat = i := by
    rintro i a9 w9 ⟨_, _, _, _, e, _, _, k12, h⟩
    rw [h.slotI k12]
    simp [iaOf]
  rw [hmu hI]
  have hle := hI.2.2.1
  by_cases hlt : i < s.length
  · refine ia_round hT s h8 ok0 w0 a ht i a9 w9 hI hlt ?_ ?_
    · intro a' w' hq
      show K0 .ret a' w'
      exact g0 _ _ _ (by intro e; cases e) hq
    · intro i' a' w' hi' hI'
      refine ⟨⟨i', hI'⟩, ?_⟩
      rw [hmu hI']
      have := hI'.2.2.1
      omega
  · obtain ⟨zz, dd, hi, hany, e, k0, k1, k12, hp⟩ := hI
    have hie : i = s.length := by omega
    subst hie
    rw [List.drop_length, anyI] at hany
    show (cAt [1, 1, 1, 1, 1, 1, 0, 1, 0, 0] ia0).wp _ _ _ _
    refine hp.run hG (f := 120) (nt := 129) (by kernel_rfl) (by omega) ?_
    simp [ia0, bodyOf, Tryz.f120, k0, k1, k12]
    intro b1 v1 y1 t1 hb1
    show K0 .normal b1 v1
    refine f0 _ _ ?_
    show (cAt [1, 1, 1, 1, 1, 1, 1] ia0).wp _ _ _ _
    refine hb1.run hG (f := 120) (nt := 129) (by kernel_rfl) (by omega) ?_
    simp [ia0, bodyOf, Tryz.f120]
    intro b2 v2 y2 t2 hb2
    exact ⟨rfl, by rw [t2, t1, dd], _, by simp [look, ← hany], hb2⟩
def conAny (args : List D) (H : Heap) : Option (D × Heap) := match args, H with
  | [.vsl false ds n, .str t], [] => match bytesR ds with
    | some s => if s.length = n ∧ 1 ≤ n ∧ n ≤ 8 ∧ t = [61, 10] then some (.int .i64 (anyI s 0), []) else none
    | none => none
  | _, _ => none
theorem conAny_inv {args : List D} {H : Heap} {q : D × Heap} (h : conAny args H = some q) : ∃ s : List UInt8, args = [.vsl false (ofBytes s) s.length, .str [61, 10]] ∧ H = [] ∧ 1 ≤ s.length ∧ s.length ≤ 8 ∧ q = (.int .i64 (anyI s 0), []) := by
  unfold conAny at h
  split at h
  · rename_i ds n t
    cases hr : bytesR ds with
    | none => rw [hr] at h; cases h
    | some s =>
      rw [hr] at h
      simp only at h
      split at h
      · rename_i hc
        obtain ⟨c1, c2, c3, c4⟩ := hc
        injection h with h
        subst c1
        subst c4
        exact ⟨s, by rw [bytesR_inv hr], rfl, c2, c3, h.symm⟩
      · cases h
  · cases h
theorem conAny_short (s : List UInt8) (h1 : 1 ≤ s.length) (h8 : s.length ≤ 8) : conAny [.vsl false (ofBytes s) s.length, .str [61, 10]] [] = some (.int .i64 (anyI s 0), []) := by
  simp [conAny, h1, h8]
theorem conAny_none (s : List UInt8) (b : Bool) (h : s.length = 0 ∨ 8 < s.length) : conAny [.vsl b (ofBytes s) s.length, .str [61, 10]] [] = none := by
  cases b with
  | true => rfl
  | false =>
    simp only [conAny, bytesR_of]
    rw [if_neg (by omega)]
set_option maxRecDepth 4000 in
theorem conAny_run [MaxL] {T : TxtC} {args : List D} {H : Heap} {r : D} {H' : Heap} (h : conAny args H = some (r, H')) {ok : Nat → Prop} {w : World} {ι : Iota} {vs : List Value} (hs : Sim (@cx _ T) ok w ι H) (hv : RepL ok w ι H args vs) : Goes Tryz.prog (callFunc 120 vs.toArray) w (CallPost (@cx _ T) ok w ι H r H') := by
  obtain ⟨s, rfl, rfl, h1, h8, e⟩ := conAny_inv h
  injection e with e1 e2
  subst e1
  subst e2
  have := call_hand (X := @cx _ txt0) (f := 120) (c := ia0) (r := .int .i64 (anyI s 0)) Tryz.func120 rfl rfl (by intro d hd; simp only [List.mem_cons, List.not_mem_nil, or_false] at hd; rcases hd with rfl | rfl <;> simp [idFree]) ⟨hs.okS, hs.glob, hs.inj, hs.blk⟩ hv fun a z1 z2 he hs0 => wp_mono (Q := @iaQ _ txt0 ok w (anyI s 0)) ?_ ?_
  · refine this.mono ?_
    rintro v w' ⟨ι', ok', k1, k2, k3, k4⟩
    exact ⟨ι', ok', ⟨k1.okS, k1.glob, k1.inj, k1.blk⟩, k2, k3, k4⟩
  · have hp : @PSt (@cx _ txt0) ok w (argEnv 0 [.vsl false (ofBytes s) s.length, .str [61, 10]]) [] a w := ⟨⟨ok, iota0, hs0, he, .refl _ (Nat.le_refl _)⟩⟩
    have hz : 129 ≤ a.tmps.size := by rw [z1]; exact Nat.le_max_right _ _
    by_cases h2 : 2 ≤ s.length
    · exact @ia_many _ txt0 txt0_run s h2 h8 ok w a hz z2 hp
    · match s, h1, h2, hp with
      | [c], _, _, hp => exact @ia_one _ txt0 txt0_run c ok w a hz z2 hp
      | c :: d :: s, _, h2, _ => simp at h2
  · rintro x a' w' ⟨rfl, y1, e', k4, hp⟩
    refine ⟨.inr rfl, y1, e', _, [.int .i64 (anyI s 0)], hp, ?_, ?_⟩
    · simp [Tryz.f120, resD, k4]
    · simp [packR, oneOrTup]
end Go.Ev.S
namespace Go.Ev.S
open Go Go.Proofs Go.Ev Go.RowKit
noncomputable instance txt1 : TxtC := ⟨fun f => if f = 14 then conText else if f = 120 then conAny else fun _ _ => none⟩
set_option maxRecDepth 100000 in
theorem txt1_run [MaxL] : TxtRun := by
  intro f args H r H' h ok w ι vs hs hv
  replace h : (if f = 14 then conText else if f = 120 then conAny else fun _ _ => none) args H = some (r, H') := h
  by_cases h1 : f = 14
  · rw [if_pos h1] at h
    subst h1
    exact conText_run h hs hv
  · rw [if_neg h1] at h
    by_cases h2 : f = 120
    · rw [if_pos h2] at h
      subst h2
      exact conAny_run h hs hv
    · rw [if_neg h2] at h
      cases h
end Go.Ev.S
namespace Go.Ev.S
open Go Go.Proofs Go.Ev Go.RowKit
theorem ite_run {X : Cx} {f nt n0 : Nat} {K : Ex → Env → Heap → Prop} {fr : List Fr} {dr : Bool} {l : List SOp} {e : Env} {d : Option Tmp} {a b : Nat} {x : D × Heap} (h : a ≤ b) (hr : RunK X f nt n0 K fr dr l e d (some x)) : RunK X f nt n0 K fr dr l e d (if a ≤ b then some x else none) := by rw [if_pos h]; exact hr
def kGap : List UInt8 := [95, 95, 71, 65, 80, 61]
def textG (it : It) : List UInt8 := kGap ++ (dec it.fr.toNat ++ (45 :: (dec it.til.toNat ++ (10 :: (kId ++ (hexs it.id.l ++ [10, 10]))))))
def textL (it : It) : List UInt8 := if it.gap then textG it else textR it
def textD (it : It) : D := if itOk it then .vsl false (ofBytes (textL it)) (textL it).length else .vsl true [] 0
set_option maxHeartbeats 4000000 in
theorem text_bad [MaxL] (it : It) (hb : ∀ p ∈ it.rc.fields.l, PrB p) (hn : it.rc.fields.l.length < 1000000) (ho : itOk it = false) : call cx 14 [.agg (Enc.cells it)] [] = some (.vsl true [] 0, []) := by
  have hw := wright_ev it hb hn
  rw [ho] at hw
  have hcon : cx.con 14 [.agg (Enc.cells it)] [] = none := by
    refine conText_none ?_
    unfold itOk at ho
    cases hg : it.gap with
    | true => exact .inl rfl
    | false => rw [hg, if_neg (by decide)] at ho; exact .inr ho
  refine call_run Tryz.func14 rfl ⟨rfl, hcon⟩ ?_
  simp [Tryz.f14, hw]
set_option maxHeartbeats 4000000 in
set_option maxRecDepth 4000 in
theorem text_gap [MaxL] (it : It) (hi : it.Ok) (hg : it.gap = true) (hb : ∀ p ∈ it.rc.fields.l, PrB p) (hn : it.rc.fields.l.length < 1000000) (ho : itOk it = true) : call cx 14 [.agg (Enc.cells it)] [] = some (.vsl false (ofBytes (textG it)) (textG it).length, []) := by
  have hw := wright_ev it hb hn
  rw [ho] at hw
  have hcon : cx.con 14 [.agg (Enc.cells it)] [] = none := conText_none (.inl hg)
  have hr1 := hi.fr
  have hr2 := hi.til
  unfold isU64 at hr1 hr2
  have n1 := number_ev it.fr.toNat (by omega)
  have n2 := number_ev it.til.toNat (by omega)
  have e1 : ((it.fr.toNat : Nat) : Int) = it.fr := by omega
  have e2 : ((it.til.toNat : Nat) : Int) = it.til := by omega
  rw [e1] at n1
  rw [e2] at n2
  have x1 := hex_ev it.id.l it.id.h
  have l4 := hexs_len it.id.l
  rw [it.id.h] at l4
  have d1 := dec_len it.fr.toNat
  have d2 := dec_len it.til.toNat
  unfold textG kGap kId
  generalize dec it.fr.toNat = s1 at *
  generalize dec it.til.toNat = s2 at *
  generalize hexs it.id.l = s4 at *
  refine call_run Tryz.func14 rfl ⟨rfl, hcon⟩ ?_
  have c0 : 6 + s1.length ≤ 4611686018427387904 := by omega
  have c1 : s1.length ≤ 4611686018427387897 := by omega
  simp [Tryz.f14, hw, hg, n1, n2, c0, c1]
  iterate
    refine ite_run (by omega) ?_
    try simp [x1]
theorem text_ev [MaxL] (it : It) (hi : it.Ok) (hb : ∀ p ∈ it.rc.fields.l, PrB p) (hn : it.rc.fields.l.length < 1000000) : call cx 14 [.agg (Enc.cells it)] [] = some (textD it, []) := by
  unfold textD textL
  cases ho : itOk it with
  | false => exact text_bad it hb hn ho
  | true =>
    cases hg : it.gap with
    | true => exact text_gap it hi hg hb hn ho
    | false =>
      unfold itOk at ho
      rw [hg, if_neg (by decide)] at ho
      exact call_con (conText_right hi hg ho)
end Go.Ev.S
namespace Go.Ev.S
open Go Go.Proofs Go.Ev
end Go.Ev.S
namespace Go.Ev.S
open Go Go.Proofs Go.Ev
end Go.Ev.S
namespace Go.Ev.S
open Go Go.Proofs Go.Ev
def cutL (sep s : List UInt8) : List UInt8 × List UInt8 × Bool := if idxN sep s 0 = -1 then (s, [], false) else (s.take (idxN sep s 0).toNat, s.drop ((idxN sep s 0).toNat + sep.length), true)
theorem cutlite_ev [MaxL] [TxtC] (s sep : List UInt8) (hs : s.length < 1000000) (hl : sep.length < 1000000) : call cx 114 [.str s, .str sep] [] = some (.tup [.str (cutL sep s).1, .str (cutL sep s).2.1, .bool (cutL sep s).2.2], []) := by
  have h := index_ev s sep (by omega)
  unfold cutL
  refine call_run Tryz.func114 rfl ⟨rfl, rfl⟩ ?_
  rcases idx_cases sep s 0 with ⟨i, h1, h2, -⟩ | h1
  · rw [h1] at h
    rw [h1]
    obtain ⟨j, hj⟩ : ∃ j, j = i + sep.length := ⟨_, rfl⟩
    have hw : IntKind.i64.wrap ((i : Int) + (sep.length : Int)) = (j : Int) := by rw [wrap_i64] <;> omega
    have hn : ¬ ((0 + i : Nat) : Int) = -1 := by omega
    have g1 : (i : Int) ≤ (s.length : Int) := by omega
    have g2 : (j : Int) ≤ (s.length : Int) := by omega
    have g3 : j ≤ s.length := by omega
    have g4 : i ≤ s.length := by omega
    rw [Nat.zero_add] at h hn
    simp [Tryz.f114, h, hw, g1, g2, ← hj]
    exact List.take_of_length_le (by simp)
  · rw [h1] at h
    simp [Tryz.f114, h, h1]
theorem cut_ev [MaxL] [TxtC] (s sep : List UInt8) (hs : s.length < 1000000) (hl : sep.length < 1000000) : call cx 87 [.str s, .str sep] [] = some (.tup [.str (cutL sep s).1, .str (cutL sep s).2.1, .bool (cutL sep s).2.2], []) := by
  have h := cutlite_ev s sep hs hl
  refine call_run Tryz.func87 rfl ⟨rfl, rfl⟩ ?_
  simp [Tryz.f87, h]
end Go.Ev.S
namespace Go.Ev.S
open Go Go.Proofs Go.Ev
def pre (p s : List UInt8) : Bool := s.take p.length == p
theorem pfx_ev [MaxL] [TxtC] (s p : List UInt8) (_ : s.length < 1000000) (_ : p.length < 1000000) : call cx 167 [.str s, .str p] [] = some (.bool (pre p s), []) := by
  refine call_run Tryz.func167 rfl ⟨rfl, rfl⟩ ?_
  by_cases h : p.length ≤ s.length
  · have h' : (p.length : Int) ≤ (s.length : Int) := by omega
    simp [Tryz.f167, h', pre]
  · have h' : ¬ (p.length : Int) ≤ (s.length : Int) := by omega
    have hn : pre p s = false := by
      unfold pre
      rw [List.take_of_length_le (by omega)]
      rw [beq_eq_false_iff_ne]
      intro e
      rw [e] at h
      omega
    simp [Tryz.f167, h', hn]
theorem pre_len {p s : List UInt8} (h : pre p s = true) : p.length ≤ s.length := by
  unfold pre at h
  have := congrArg List.length (beq_iff_eq.1 h)
  rw [List.length_take] at this
  omega
theorem trim_ev [MaxL] [TxtC] (s p : List UInt8) (hs : s.length < 1000000) (hp : p.length < 1000000) : call cx 116 [.str s, .str p] [] = some (.str (if pre p s then s.drop p.length else s), []) := by
  have h := pfx_ev s p hs hp
  have h2 : call cx 138 [.str s, .str p] [] = some (.str (if pre p s then s.drop p.length else s), []) := by
    refine call_run Tryz.func138 rfl ⟨rfl, rfl⟩ ?_
    cases hq : pre p s with
    | true =>
      have := pre_len hq
      have g : (p.length : Int) ≤ (s.length : Int) := by omega
      rw [hq] at h
      simp [Tryz.f138, h, g]
      exact List.take_of_length_le (by simp)
    | false =>
      rw [hq] at h
      simp [Tryz.f138, h]
  refine call_run Tryz.func116 rfl ⟨rfl, rfl⟩ ?_
  simp [Tryz.f116, h2]
end Go.Ev.S
namespace Go.Ev.S
open Go Go.Proofs Go.Ev
theorem orI_u8 (a b : UInt8) : orI .u8 (a.toNat : Int) (b.toNat : Int) = ((a ||| b).toNat : Int) := by
  unfold orI
  have h := (a ||| b).toNat_lt
  have e : (BitVec.ofInt IntKind.u8.bits (a.toNat : Int) ||| BitVec.ofInt IntKind.u8.bits (b.toNat : Int)).toNat = (a ||| b).toNat := by
    simp [IntKind.bits]
    rfl
  rw [e, wrap_u8]
  omega
theorem lower_ev [MaxL] [TxtC] (c : UInt8) : call cx 139 [.int .u8 c.toNat] [] = some (.int .u8 ((c ||| 32).toNat : Int), []) := by
  have h := orI_u8 c 32
  have h' : orI .u8 (c.toNat : Int) 32 = ((c ||| 32).toNat : Int) := h
  refine call_run Tryz.func139 rfl ⟨rfl, rfl⟩ ?_
  simp [Tryz.f139, h']
theorem all_u8 {p : UInt8 → Bool} (h : ((List.range 256).all fun k => p (UInt8.ofNat k)) = true) (c : UInt8) : p c = true := by
  have := List.all_eq_true.1 h c.toNat (List.mem_range.2 c.toNat_lt)
  rw [UInt8.ofNat_toNat] at this
  exact this
theorem low_lt {c : UInt8} (h : c.toNat < 48) : (c ||| 32).toNat < 97 := by
  have := all_u8 (p := fun c => decide (c.toNat < 48) == false || decide ((c ||| 32).toNat < 97)) (by decide +kernel) c
  simpa [h] using this
theorem low_95 {c : UInt8} (h : c.toNat = 95) : 122 < (c ||| 32).toNat := by
  simp [h]
def dval (c : UInt8) : Option Nat := if 48 ≤ c.toNat ∧ c.toNat ≤ 57 then some (c.toNat - 48) else if 97 ≤ (c ||| 32).toNat ∧ (c ||| 32).toNat ≤ 122 then some ((c ||| 32).toNat - 97 + 10) else none
def puGo (b : Nat) : List UInt8 → Nat → Option Nat
  | [], n => some n
  | c :: l, n => match dval c with
    | none => none
    | some d => if b ≤ d then none else if 18446744073709551616 ≤ n * b + d then none else puGo b l (n * b + d)
def pu (b : Nat) (s : List UInt8) : Option Nat := if s = [] then none else puGo b s 0
theorem wrap_over {x d : Nat} (hx : x < 18446744073709551616) (hd : d < 16) (h : 18446744073709551616 ≤ x + d) : IntKind.u64.wrap ((x : Int) + (d : Int)) < (x : Int) := by
  simp only [IntKind.wrap, IntKind.signed, IntKind.bits]
  simp
  omega
theorem puGo_lt (b : Nat) : ∀ (l : List UInt8) (n v : Nat), n < 18446744073709551616 → puGo b l n = some v → v < 18446744073709551616
  | [], n, v, hn, h => by simp [puGo] at h; omega
  | c :: l, n, v, hn, h => by
    unfold puGo at h
    split at h
    · cases h
    · split at h
      · cases h
      · split at h
        · cases h
        · exact puGo_lt b l _ v (by omega) h
set_option maxHeartbeats 2000000 in
set_option maxRecDepth 4000 in
theorem pui_ev [MaxL] [TxtC] (b : Nat) (hb : b = 10 ∨ b = 16) (s : List UInt8) (hs : s.length < 4611686018427387904) :
    (∃ n, pu b s = some n ∧ call cx 117 [.str s, .int .i64 b, .int .i64 64] [] = some (.tup [.int .u64 n, .nili], [])) ∨
    (pu b s = none ∧ ∃ (x : Nat) (c : Int), (c = 1 ∨ c = 2) ∧ call cx 117 [.str s, .int .i64 b, .int .i64 64] [] = some (.tup [.int .u64 x, .iface 177 (.int .i64 c)], [])) := by
  suffices h : ∃ r, call cx 117 [.str s, .int .i64 b, .int .i64 64] [] = some r ∧ ((∃ n, pu b s = some n ∧ r = (.tup [.int .u64 n, .nili], [])) ∨ (pu b s = none ∧ ∃ (x : Nat) (c : Int), (c = 1 ∨ c = 2) ∧ r = (.tup [.int .u64 x, .iface 177 (.int .i64 c)], []))) by
    obtain ⟨r, h1, ⟨n, h2, rfl⟩ | ⟨h2, x, c, h3, rfl⟩⟩ := h
    · exact .inl ⟨n, h2, h1⟩
    · exact .inr ⟨h2, x, c, h3, h1⟩
  refine call_runE (fun r => (∃ n : Nat, pu b s = some n ∧ r = (D.tup [.int .u64 n, .nili], [])) ∨ (pu b s = none ∧ ∃ (x : Nat) (c : Int), (c = 1 ∨ c = 2) ∧ r = (D.tup [.int .u64 x, .iface 177 (.int .i64 c)], []))) Tryz.func117 rfl ⟨rfl, rfl⟩ ?_
  by_cases h0 : s = []
  · subst h0
    simp [Tryz.f117, pu]
    exact ⟨0, rfl⟩
  · have hpos : s.length ≠ 0 := by simpa using h0
    have hc2 : (2 : Int) ≤ (b : Int) := by omega
    have hc36 : (b : Int) ≤ 36 := by omega
    have hbz : ¬ (b : Int) = 0 := by omega
    have hmx : IntKind.u64.wrap (IntKind.u64.wrap (2 ^ min 64 IntKind.u64.bits) - 1) = 18446744073709551615 := by decide
    have hpu : pu b s = puGo b s 0 := by rw [pu, if_neg h0]
    rcases hb with rfl | rfl
    · simp [Tryz.f117, h0, hmx]
      refine Run.loopThen (fun (z : Nat × Nat) e H' => z.1 ≤ s.length ∧ z.2 < 18446744073709551616 ∧ puGo 10 (s.drop z.1) z.2 = puGo 10 s 0 ∧ H' = [some (ofBytes s)] ∧ look e 1 = some (.int .i64 10) ∧ look e 8 = some (.bool false) ∧ look e 9 = some (.str s) ∧ look e 10 = some (.int .u64 1844674407370955162) ∧ look e 11 = some (.int .u64 18446744073709551615) ∧ look e 12 = some (.bool false) ∧ look e 13 = some (.int .u64 (z.2 : Nat)) ∧ look e 99 = some (.osl 0 s.length 0 s.length 1) ∧ look e 100 = some (.int .i64 s.length) ∧ look e 101 = some (.int .i64 (z.1 : Nat))) (fun z => s.length - z.1) (0, 0) (by simp) ?_
      rintro ⟨i, n⟩ e H' ⟨hi, hn, hp, rfl, h1, h8, h9, h10, h11, h12, h13, h99, h100, h101⟩
      simp only at hi hn hp h13 h101
      by_cases hlt : i < s.length
      · have hlt' : (i : Int) < (s.length : Int) := by omega
        have hw : IntKind.i64.wrap ((i : Int) + 1) = ((i + 1 : Nat) : Int) := by rw [wrap_i64] <;> omega
        have hc := lower_ev s[i]
        have hclt := s[i].toNat_lt
        rw [List.drop_eq_getElem_cons hlt, puGo] at hp
        unfold dval at hp
        by_cases hd : 48 ≤ s[i].toNat ∧ s[i].toNat ≤ 57
        · rw [if_pos hd] at hp
          have g1 : (48 : Int) ≤ (s[i].toNat : Int) := by omega
          have g2 : (s[i].toNat : Int) ≤ 57 := by omega
          have g3 : ¬ (s[i].toNat : Int) = 95 := by omega
          obtain ⟨d, hdd⟩ : ∃ d, d = s[i].toNat - 48 := ⟨_, rfl⟩
          have dw : IntKind.u8.wrap ((s[i].toNat : Int) - 48) = (d : Int) := by rw [wrap_u8] <;> omega
          rw [← hdd] at hp
          simp only at hp
          have hd16 : d < 16 := by omega
          have wd : IntKind.u64.wrap (d : Int) = (d : Int) := by rw [wrap_u64]; omega
          by_cases hbd : 10 ≤ d
          · have hbd' : (10 : Int) ≤ (d : Int) := by omega
            rw [if_pos hbd] at hp
            simp [h1, h8, h9, h10, h11, h12, h13, h99, h100, h101, hlt', ofBytes_at hlt, g1, g2, g3, dw, hbd']
            exact ⟨by rw [hpu]; exact hp.symm, 0, rfl⟩
          · have hbd' : ¬ (10 : Int) ≤ (d : Int) := by omega
            rw [if_neg hbd] at hp
            by_cases hcut : 1844674407370955162 ≤ n
            · have hcut' : (1844674407370955162 : Int) ≤ (n : Int) := by omega
              rw [if_pos (by omega)] at hp
              simp [h1, h8, h9, h10, h11, h12, h13, h99, h100, h101, hlt', ofBytes_at hlt, g1, g2, g3, dw, hbd', hcut']
              exact ⟨by rw [hpu]; exact hp.symm, 18446744073709551615, rfl⟩
            · have hcut' : ¬ (1844674407370955162 : Int) ≤ (n : Int) := by omega
              obtain ⟨m, hm⟩ : ∃ m, m = n * 10 := ⟨_, rfl⟩
              have hm64 : m < 18446744073709551616 := by omega
              have wm : IntKind.u64.wrap ((n : Int) * 10) = (m : Int) := by rw [wrap_u64] <;> omega
              rw [← hm] at hp
              by_cases hov : 18446744073709551616 ≤ m + d
              · rw [if_pos hov] at hp
                have hx := wrap_over hm64 (by omega) hov
                generalize hX : IntKind.u64.wrap ((m : Int) + (d : Int)) = X at hx
                simp [h1, h8, h9, h10, h11, h12, h13, h99, h100, h101, hlt', ofBytes_at hlt, g1, g2, g3, dw, hbd', hcut', wd, wm, hX, hx]
                exact ⟨by rw [hpu]; exact hp.symm, 18446744073709551615, rfl⟩
              · rw [if_neg hov] at hp
                obtain ⟨q, hq⟩ : ∃ q, q = m + d := ⟨_, rfl⟩
                have wq : IntKind.u64.wrap ((m : Int) + (d : Int)) = (q : Int) := by rw [wrap_u64] <;> omega
                have hx1 : ¬ (q : Int) < (m : Int) := by omega
                have hx2 : ¬ (18446744073709551615 : Int) < (q : Int) := by omega
                rw [← hq] at hp
                simp [h1, h8, h9, h10, h11, h12, h13, h99, h100, h101, hlt', ofBytes_at hlt, g1, g2, g3, dw, hbd', hcut', wd, wm, wq, hx1, hx2, hw]
                exact ⟨i + 1, by omega, by omega, q, by omega, hp, rfl, by simp⟩
        · rw [if_neg hd] at hp
          by_cases h48 : s[i].toNat < 48
          · have lw := low_lt h48
            rw [if_neg (by omega)] at hp
            have g1 : ¬ (48 : Int) ≤ (s[i].toNat : Int) := by omega
            have g3 : ¬ (s[i].toNat : Int) = 95 := by omega
            have f1 : ¬ (97 : Int) ≤ ((s[i] ||| 32).toNat : Int) := by omega
            generalize (s[i] ||| 32).toNat = lc at *
            simp only at hp
            simp [h1, h8, h9, h10, h11, h12, h13, h99, h100, h101, hlt', ofBytes_at hlt, g1, g3, hc, f1]
            exact ⟨by rw [hpu]; exact hp.symm, 0, rfl⟩
          · have g1 : (48 : Int) ≤ (s[i].toNat : Int) := by omega
            have g2 : ¬ (s[i].toNat : Int) ≤ 57 := by omega
            by_cases g95 : s[i].toNat = 95
            · have lw := low_95 g95
              rw [if_neg (by omega)] at hp
              have g3 : (s[i].toNat : Int) = 95 := by omega
              have f1 : (97 : Int) ≤ ((s[i] ||| 32).toNat : Int) := by omega
              have f2 : ¬ ((s[i] ||| 32).toNat : Int) ≤ 122 := by omega
              generalize (s[i] ||| 32).toNat = lc at *
              rw [g3] at hc
              simp only at hp
              simp [h1, h8, h9, h10, h11, h12, h13, h99, h100, h101, hlt', ofBytes_at hlt, g3, hc, f1, f2]
              exact ⟨by rw [hpu]; exact hp.symm, 0, rfl⟩
            · have g3 : ¬ (s[i].toNat : Int) = 95 := by omega
              have lw256 := (s[i] ||| 32).toNat_lt
              generalize (s[i] ||| 32).toNat = lc at *
              by_cases f : 97 ≤ lc ∧ lc ≤ 122
              · rw [if_pos f] at hp
                have f1 : (97 : Int) ≤ (lc : Int) := by omega
                have f2 : (lc : Int) ≤ 122 := by omega
                obtain ⟨d0, hd0⟩ : ∃ d, d = lc - 97 := ⟨_, rfl⟩
                obtain ⟨d, hdd⟩ : ∃ d, d = d0 + 10 := ⟨_, rfl⟩
                have dw1 : IntKind.u8.wrap ((lc : Int) - 97) = (d0 : Int) := by rw [wrap_u8] <;> omega
                have dw2 : IntKind.u8.wrap ((d0 : Int) + 10) = (d : Int) := by rw [wrap_u8] <;> omega
                rw [← hd0, ← hdd] at hp
                simp only at hp
                have hd16 : d < 36 := by omega
                have wd : IntKind.u64.wrap (d : Int) = (d : Int) := by rw [wrap_u64]; omega
                by_cases hbd : 10 ≤ d
                · have hbd' : (10 : Int) ≤ (d : Int) := by omega
                  rw [if_pos hbd] at hp
                  simp [h1, h8, h9, h10, h11, h12, h13, h99, h100, h101, hlt', ofBytes_at hlt, g1, g2, g3, hc, f1, f2, dw1, dw2, hbd']
                  exact ⟨by rw [hpu]; exact hp.symm, 0, rfl⟩
                · have hbd' : ¬ (10 : Int) ≤ (d : Int) := by omega
                  rw [if_neg hbd] at hp
                  by_cases hcut : 1844674407370955162 ≤ n
                  · have hcut' : (1844674407370955162 : Int) ≤ (n : Int) := by omega
                    rw [if_pos (by omega)] at hp
                    simp [h1, h8, h9, h10, h11, h12, h13, h99, h100, h101, hlt', ofBytes_at hlt, g1, g2, g3, hc, f1, f2, dw1, dw2, hbd', hcut']
                    exact ⟨by rw [hpu]; exact hp.symm, 18446744073709551615, rfl⟩
                  · have hcut' : ¬ (1844674407370955162 : Int) ≤ (n : Int) := by omega
                    obtain ⟨m, hm⟩ : ∃ m, m = n * 10 := ⟨_, rfl⟩
                    have hm64 : m < 18446744073709551616 := by omega
                    have wm : IntKind.u64.wrap ((n : Int) * 10) = (m : Int) := by rw [wrap_u64] <;> omega
                    rw [← hm] at hp
                    by_cases hov : 18446744073709551616 ≤ m + d
                    · rw [if_pos hov] at hp
                      have hx := wrap_over hm64 (by omega) hov
                      generalize hX : IntKind.u64.wrap ((m : Int) + (d : Int)) = X at hx
                      simp [h1, h8, h9, h10, h11, h12, h13, h99, h100, h101, hlt', ofBytes_at hlt, g1, g2, g3, hc, f1, f2, dw1, dw2, hbd', hcut', wd, wm, hX, hx]
                      exact ⟨by rw [hpu]; exact hp.symm, 18446744073709551615, rfl⟩
                    · rw [if_neg hov] at hp
                      obtain ⟨q, hq⟩ : ∃ q, q = m + d := ⟨_, rfl⟩
                      have wq : IntKind.u64.wrap ((m : Int) + (d : Int)) = (q : Int) := by rw [wrap_u64] <;> omega
                      have hx1 : ¬ (q : Int) < (m : Int) := by omega
                      have hx2 : ¬ (18446744073709551615 : Int) < (q : Int) := by omega
                      rw [← hq] at hp
                      simp [h1, h8, h9, h10, h11, h12, h13, h99, h100, h101, hlt', ofBytes_at hlt, g1, g2, g3, hc, f1, f2, dw1, dw2, hbd', hcut', wd, wm, wq, hx1, hx2, hw]
                      exact ⟨i + 1, by omega, by omega, q, by omega, hp, rfl, by simp⟩
              · rw [if_neg f] at hp
                by_cases f3 : 97 ≤ lc
                · have f1 : (97 : Int) ≤ (lc : Int) := by omega
                  have f2 : ¬ (lc : Int) ≤ 122 := by omega
                  simp only at hp
                  simp [h1, h8, h9, h10, h11, h12, h13, h99, h100, h101, hlt', ofBytes_at hlt, g1, g2, g3, hc, f1, f2]
                  exact ⟨by rw [hpu]; exact hp.symm, 0, rfl⟩
                · have f1 : ¬ (97 : Int) ≤ (lc : Int) := by omega
                  simp only at hp
                  simp [h1, h8, h9, h10, h11, h12, h13, h99, h100, h101, hlt', ofBytes_at hlt, g1, g2, g3, hc, f1]
                  exact ⟨by rw [hpu]; exact hp.symm, 0, rfl⟩
      · have hlt' : ¬ (i : Int) < (s.length : Int) := by omega
        rw [List.drop_eq_nil_of_le (by omega), puGo] at hp
        simp [h1, h8, h9, h10, h11, h12, h13, h99, h100, h101, hlt']
        exact ⟨n, by rw [hpu]; exact hp.symm, rfl⟩
    · simp [Tryz.f117, h0, hmx]
      refine Run.loopThen (fun (z : Nat × Nat) e H' => z.1 ≤ s.length ∧ z.2 < 18446744073709551616 ∧ puGo 16 (s.drop z.1) z.2 = puGo 16 s 0 ∧ H' = [some (ofBytes s)] ∧ look e 1 = some (.int .i64 16) ∧ look e 8 = some (.bool false) ∧ look e 9 = some (.str s) ∧ look e 10 = some (.int .u64 1152921504606846976) ∧ look e 11 = some (.int .u64 18446744073709551615) ∧ look e 12 = some (.bool false) ∧ look e 13 = some (.int .u64 (z.2 : Nat)) ∧ look e 99 = some (.osl 0 s.length 0 s.length 1) ∧ look e 100 = some (.int .i64 s.length) ∧ look e 101 = some (.int .i64 (z.1 : Nat))) (fun z => s.length - z.1) (0, 0) (by simp) ?_
      rintro ⟨i, n⟩ e H' ⟨hi, hn, hp, rfl, h1, h8, h9, h10, h11, h12, h13, h99, h100, h101⟩
      simp only at hi hn hp h13 h101
      by_cases hlt : i < s.length
      · have hlt' : (i : Int) < (s.length : Int) := by omega
        have hw : IntKind.i64.wrap ((i : Int) + 1) = ((i + 1 : Nat) : Int) := by rw [wrap_i64] <;> omega
        have hc := lower_ev s[i]
        have hclt := s[i].toNat_lt
        rw [List.drop_eq_getElem_cons hlt, puGo] at hp
        unfold dval at hp
        by_cases hd : 48 ≤ s[i].toNat ∧ s[i].toNat ≤ 57
        · rw [if_pos hd] at hp
          have g1 : (48 : Int) ≤ (s[i].toNat : Int) := by omega
          have g2 : (s[i].toNat : Int) ≤ 57 := by omega
          have g3 : ¬ (s[i].toNat : Int) = 95 := by omega
          obtain ⟨d, hdd⟩ : ∃ d, d = s[i].toNat - 48 := ⟨_, rfl⟩
          have dw : IntKind.u8.wrap ((s[i].toNat : Int) - 48) = (d : Int) := by rw [wrap_u8] <;> omega
          rw [← hdd] at hp
          simp only at hp
          have hd16 : d < 16 := by omega
          have wd : IntKind.u64.wrap (d : Int) = (d : Int) := by rw [wrap_u64]; omega
          by_cases hbd : 16 ≤ d
          · have hbd' : (16 : Int) ≤ (d : Int) := by omega
            rw [if_pos hbd] at hp
            simp [h1, h8, h9, h10, h11, h12, h13, h99, h100, h101, hlt', ofBytes_at hlt, g1, g2, g3, dw, hbd']
            exact ⟨by rw [hpu]; exact hp.symm, 0, rfl⟩
          · have hbd' : ¬ (16 : Int) ≤ (d : Int) := by omega
            rw [if_neg hbd] at hp
            by_cases hcut : 1152921504606846976 ≤ n
            · have hcut' : (1152921504606846976 : Int) ≤ (n : Int) := by omega
              rw [if_pos (by omega)] at hp
              simp [h1, h8, h9, h10, h11, h12, h13, h99, h100, h101, hlt', ofBytes_at hlt, g1, g2, g3, dw, hbd', hcut']
              exact ⟨by rw [hpu]; exact hp.symm, 18446744073709551615, rfl⟩
            · have hcut' : ¬ (1152921504606846976 : Int) ≤ (n : Int) := by omega
              obtain ⟨m, hm⟩ : ∃ m, m = n * 16 := ⟨_, rfl⟩
              have hm64 : m < 18446744073709551616 := by omega
              have wm : IntKind.u64.wrap ((n : Int) * 16) = (m : Int) := by rw [wrap_u64] <;> omega
              rw [← hm] at hp
              by_cases hov : 18446744073709551616 ≤ m + d
              · rw [if_pos hov] at hp
                have hx := wrap_over hm64 (by omega) hov
                generalize hX : IntKind.u64.wrap ((m : Int) + (d : Int)) = X at hx
                simp [h1, h8, h9, h10, h11, h12, h13, h99, h100, h101, hlt', ofBytes_at hlt, g1, g2, g3, dw, hbd', hcut', wd, wm, hX, hx]
                exact ⟨by rw [hpu]; exact hp.symm, 18446744073709551615, rfl⟩
              · rw [if_neg hov] at hp
                obtain ⟨q, hq⟩ : ∃ q, q = m + d := ⟨_, rfl⟩
                have wq : IntKind.u64.wrap ((m : Int) + (d : Int)) = (q : Int) := by rw [wrap_u64] <;> omega
                have hx1 : ¬ (q : Int) < (m : Int) := by omega
                have hx2 : ¬ (18446744073709551615 : Int) < (q : Int) := by omega
                rw [← hq] at hp
                simp [h1, h8, h9, h10, h11, h12, h13, h99, h100, h101, hlt', ofBytes_at hlt, g1, g2, g3, dw, hbd', hcut', wd, wm, wq, hx1, hx2, hw]
                exact ⟨i + 1, by omega, by omega, q, by omega, hp, rfl, by simp⟩
        · rw [if_neg hd] at hp
          by_cases h48 : s[i].toNat < 48
          · have lw := low_lt h48
            rw [if_neg (by omega)] at hp
            have g1 : ¬ (48 : Int) ≤ (s[i].toNat : Int) := by omega
            have g3 : ¬ (s[i].toNat : Int) = 95 := by omega
            have f1 : ¬ (97 : Int) ≤ ((s[i] ||| 32).toNat : Int) := by omega
            generalize (s[i] ||| 32).toNat = lc at *
            simp only at hp
            simp [h1, h8, h9, h10, h11, h12, h13, h99, h100, h101, hlt', ofBytes_at hlt, g1, g3, hc, f1]
            exact ⟨by rw [hpu]; exact hp.symm, 0, rfl⟩
          · have g1 : (48 : Int) ≤ (s[i].toNat : Int) := by omega
            have g2 : ¬ (s[i].toNat : Int) ≤ 57 := by omega
            by_cases g95 : s[i].toNat = 95
            · have lw := low_95 g95
              rw [if_neg (by omega)] at hp
              have g3 : (s[i].toNat : Int) = 95 := by omega
              have f1 : (97 : Int) ≤ ((s[i] ||| 32).toNat : Int) := by omega
              have f2 : ¬ ((s[i] ||| 32).toNat : Int) ≤ 122 := by omega
              generalize (s[i] ||| 32).toNat = lc at *
              rw [g3] at hc
              simp only at hp
              simp [h1, h8, h9, h10, h11, h12, h13, h99, h100, h101, hlt', ofBytes_at hlt, g3, hc, f1, f2]
              exact ⟨by rw [hpu]; exact hp.symm, 0, rfl⟩
            · have g3 : ¬ (s[i].toNat : Int) = 95 := by omega
              have lw256 := (s[i] ||| 32).toNat_lt
              generalize (s[i] ||| 32).toNat = lc at *
              by_cases f : 97 ≤ lc ∧ lc ≤ 122
              · rw [if_pos f] at hp
                have f1 : (97 : Int) ≤ (lc : Int) := by omega
                have f2 : (lc : Int) ≤ 122 := by omega
                obtain ⟨d0, hd0⟩ : ∃ d, d = lc - 97 := ⟨_, rfl⟩
                obtain ⟨d, hdd⟩ : ∃ d, d = d0 + 10 := ⟨_, rfl⟩
                have dw1 : IntKind.u8.wrap ((lc : Int) - 97) = (d0 : Int) := by rw [wrap_u8] <;> omega
                have dw2 : IntKind.u8.wrap ((d0 : Int) + 10) = (d : Int) := by rw [wrap_u8] <;> omega
                rw [← hd0, ← hdd] at hp
                simp only at hp
                have hd16 : d < 36 := by omega
                have wd : IntKind.u64.wrap (d : Int) = (d : Int) := by rw [wrap_u64]; omega
                by_cases hbd : 16 ≤ d
                · have hbd' : (16 : Int) ≤ (d : Int) := by omega
                  rw [if_pos hbd] at hp
                  simp [h1, h8, h9, h10, h11, h12, h13, h99, h100, h101, hlt', ofBytes_at hlt, g1, g2, g3, hc, f1, f2, dw1, dw2, hbd']
                  exact ⟨by rw [hpu]; exact hp.symm, 0, rfl⟩
                · have hbd' : ¬ (16 : Int) ≤ (d : Int) := by omega
                  rw [if_neg hbd] at hp
                  by_cases hcut : 1152921504606846976 ≤ n
                  · have hcut' : (1152921504606846976 : Int) ≤ (n : Int) := by omega
                    rw [if_pos (by omega)] at hp
                    simp [h1, h8, h9, h10, h11, h12, h13, h99, h100, h101, hlt', ofBytes_at hlt, g1, g2, g3, hc, f1, f2, dw1, dw2, hbd', hcut']
                    exact ⟨by rw [hpu]; exact hp.symm, 18446744073709551615, rfl⟩
                  · have hcut' : ¬ (1152921504606846976 : Int) ≤ (n : Int) := by omega
                    obtain ⟨m, hm⟩ : ∃ m, m = n * 16 := ⟨_, rfl⟩
                    have hm64 : m < 18446744073709551616 := by omega
                    have wm : IntKind.u64.wrap ((n : Int) * 16) = (m : Int) := by rw [wrap_u64] <;> omega
                    rw [← hm] at hp
                    by_cases hov : 18446744073709551616 ≤ m + d
                    · rw [if_pos hov] at hp
                      have hx := wrap_over hm64 (by omega) hov
                      generalize hX : IntKind.u64.wrap ((m : Int) + (d : Int)) = X at hx
                      simp [h1, h8, h9, h10, h11, h12, h13, h99, h100, h101, hlt', ofBytes_at hlt, g1, g2, g3, hc, f1, f2, dw1, dw2, hbd', hcut', wd, wm, hX, hx]
                      exact ⟨by rw [hpu]; exact hp.symm, 18446744073709551615, rfl⟩
                    · rw [if_neg hov] at hp
                      obtain ⟨q, hq⟩ : ∃ q, q = m + d := ⟨_, rfl⟩
                      have wq : IntKind.u64.wrap ((m : Int) + (d : Int)) = (q : Int) := by rw [wrap_u64] <;> omega
                      have hx1 : ¬ (q : Int) < (m : Int) := by omega
                      have hx2 : ¬ (18446744073709551615 : Int) < (q : Int) := by omega
                      rw [← hq] at hp
                      simp [h1, h8, h9, h10, h11, h12, h13, h99, h100, h101, hlt', ofBytes_at hlt, g1, g2, g3, hc, f1, f2, dw1, dw2, hbd', hcut', wd, wm, wq, hx1, hx2, hw]
                      exact ⟨i + 1, by omega, by omega, q, by omega, hp, rfl, by simp⟩
              · rw [if_neg f] at hp
                by_cases f3 : 97 ≤ lc
                · have f1 : (97 : Int) ≤ (lc : Int) := by omega
                  have f2 : ¬ (lc : Int) ≤ 122 := by omega
                  simp only at hp
                  simp [h1, h8, h9, h10, h11, h12, h13, h99, h100, h101, hlt', ofBytes_at hlt, g1, g2, g3, hc, f1, f2]
                  exact ⟨by rw [hpu]; exact hp.symm, 0, rfl⟩
                · have f1 : ¬ (97 : Int) ≤ (lc : Int) := by omega
                  simp only at hp
                  simp [h1, h8, h9, h10, h11, h12, h13, h99, h100, h101, hlt', ofBytes_at hlt, g1, g2, g3, hc, f1]
                  exact ⟨by rw [hpu]; exact hp.symm, 0, rfl⟩
      · have hlt' : ¬ (i : Int) < (s.length : Int) := by omega
        rw [List.drop_eq_nil_of_le (by omega), puGo] at hp
        simp [h1, h8, h9, h10, h11, h12, h13, h99, h100, h101, hlt']
        exact ⟨n, by rw [hpu]; exact hp.symm, rfl⟩
end Go.Ev.S
namespace Go.Ev.S
open Go Go.Proofs Go.Ev
def numP (s : List UInt8) : Option Nat := if s = [] ∨ 20 < s.length ∨ (s.head? = some 48 ∧ 1 < s.length) then none else puGo 10 s 0
end Go.Ev.S
namespace Go.Ev.S
open Go Go.Proofs Go.Ev
theorem clone_ev [MaxL] [TxtC] (s : List UInt8) (h : s.length ≤ 281474976710656) : call cx 168 [.str s] [] = some (.str s, []) := by
  refine call_con ?_
  rw [co168, conClone, if_pos h]
theorem syntax_ev [MaxL] [TxtC] (f s : List UInt8) (h : s.length ≤ 281474976710656) : ∃ d, call cx 141 [.str f, .str s] [] = some (.vptr d, []) := by
  have hc := clone_ev s h
  suffices hh : ∃ r, call cx 141 [.str f, .str s] [] = some r ∧ ∃ d, r = (.vptr d, []) by
    obtain ⟨r, h1, d, rfl⟩ := hh
    exact ⟨d, h1⟩
  refine call_runE (fun r => ∃ d, r = (D.vptr d, [])) Tryz.func141 rfl ⟨rfl, rfl⟩ ?_
  simp [Tryz.f141, hc]
theorem range_ev [MaxL] [TxtC] (f s : List UInt8) (h : s.length ≤ 281474976710656) : ∃ d, call cx 142 [.str f, .str s] [] = some (.vptr d, []) := by
  have hc := clone_ev s h
  suffices hh : ∃ r, call cx 142 [.str f, .str s] [] = some r ∧ ∃ d, r = (.vptr d, []) by
    obtain ⟨r, h1, d, rfl⟩ := hh
    exact ⟨d, h1⟩
  refine call_runE (fun r => ∃ d, r = (D.vptr d, [])) Tryz.func142 rfl ⟨rfl, rfl⟩ ?_
  simp [Tryz.f142, hc]
theorem toerr_ev [MaxL] [TxtC] (f s : List UInt8) (h : s.length ≤ 281474976710656) (b c : Int) (hc : c = 1 ∨ c = 2) : ∃ d, call cx 118 [.str f, .str s, .int .i64 b, .int .i64 64, .iface 177 (.int .i64 c)] [] = some (.iface 179 (.vptr d), []) := by
  obtain ⟨d1, h1⟩ := syntax_ev f s h
  obtain ⟨d2, h2⟩ := range_ev f s h
  suffices hh : ∃ r, call cx 118 [.str f, .str s, .int .i64 b, .int .i64 64, .iface 177 (.int .i64 c)] [] = some r ∧ ∃ d, r = (.iface 179 (.vptr d), []) by
    obtain ⟨r, h1, d, rfl⟩ := hh
    exact ⟨d, h1⟩
  refine call_runE (fun r => ∃ d, r = (D.iface 179 (.vptr d), [])) Tryz.func118 rfl ⟨rfl, rfl⟩ ?_
  rcases hc with rfl | rfl
  · simp [Tryz.f118, h2]
  · simp [Tryz.f118, h1]
theorem pu_ev [MaxL] [TxtC] (b : Nat) (hb : b = 10 ∨ b = 16) (s : List UInt8) (hs : s.length ≤ 281474976710656) :
    (∃ n, pu b s = some n ∧ call cx 89 [.str s, .int .i64 b, .int .i64 64] [] = some (.tup [.int .u64 n, .nili], [])) ∨
    (pu b s = none ∧ ∃ (x : Nat) (d : List D), call cx 89 [.str s, .int .i64 b, .int .i64 64] [] = some (.tup [.int .u64 x, .iface 179 (.vptr d)], [])) := by
  rcases pui_ev b hb s (by omega) with ⟨n, h1, h2⟩ | ⟨h1, x, c, hc, h2⟩
  · refine .inl ⟨n, h1, ?_⟩
    refine call_run Tryz.func89 rfl ⟨rfl, rfl⟩ ?_
    simp [Tryz.f89, h2]
  · obtain ⟨d, hd⟩ := toerr_ev [80, 97, 114, 115, 101, 85, 105, 110, 116] s hs b c hc
    refine .inr ⟨h1, x, d, ?_⟩
    refine call_run Tryz.func89 rfl ⟨rfl, rfl⟩ ?_
    simp [Tryz.f89, h2, hd]
end Go.Ev.S
namespace Go.Ev.S
open Go Go.Proofs Go.Ev
def trimL (p s : List UInt8) : List UInt8 := if pre p s then s.drop p.length else s
theorem trim_len (p s : List UInt8) : (trimL p s).length ≤ s.length := by
  unfold trimL
  split <;> simp
def lnL (b : List UInt8) : List UInt8 := (cutL [10] b).1
def lnR (b : List UInt8) : List UInt8 := (cutL [10] b).2.1
theorem cut_len (sep s : List UInt8) : (cutL sep s).1.length ≤ s.length ∧ (cutL sep s).2.1.length ≤ s.length := by
  unfold cutL
  split
  · simp
  · simp
    omega
theorem lnL_len (b : List UInt8) : (lnL b).length ≤ b.length := (cut_len [10] b).1
theorem lnR_len (b : List UInt8) : (lnR b).length ≤ b.length := (cut_len [10] b).2
def nmI (p b : List UInt8) : Nat := (pu 10 (trimL p (lnL b))).getD 0
def idI (p b : List UInt8) : ID := idOf (trimL p (lnL b))
end Go.Ev.S
namespace Go.Ev.S
open Go Go.Proofs Go.Ev Go.RowKit
def asc : List D := (List.range 256).map fun i => .bool (decide (i = 61 ∨ i = 10))
theorem asc_ev [MaxL] : call cx 149 [.str [61, 10]] [] = some (.tup [.agg asc, .bool true], []) := call_some.2 ⟨60, by kernel_rfl⟩
theorem asc_len : asc.length = 256 := by simp [asc]
theorem asc_at (c : UInt8) : asc.drop c.toNat = .bool (decide (c = 61 ∨ c = 10)) :: asc.drop (c.toNat + 1) := by
  have hl : c.toNat < asc.length := by rw [asc_len]; exact c.toNat_lt
  rw [List.drop_eq_getElem_cons hl]
  congr 1
  simp only [asc, List.getElem_map, List.getElem_range]
  congr 1
  have h1 : c.toNat = 61 ↔ c = 61 := ⟨fun h => UInt8.toNat_inj.1 h, fun h => by rw [h]; rfl⟩
  have h2 : c.toNat = 10 ↔ c = 10 := ⟨fun h => UInt8.toNat_inj.1 h, fun h => by rw [h]; rfl⟩
  rw [decide_eq_decide, h1, h2]
theorem asc_has [MaxL] (c : UInt8) : call cx 150 [.vptr asc, .int .u8 c.toNat] [] = some (.bool (decide (c = 61 ∨ c = 10)), []) := by
  have ha := asc_at c
  have hc := c.toNat_lt
  have hc' : (c.toNat : Int) < 256 := by omega
  generalize decide (c = 61 ∨ c = 10) = b at *
  refine call_run Tryz.func150 rfl ⟨rfl, rfl⟩ ?_
  simp [Tryz.f150, ha, hc']
set_option maxHeartbeats 2000000 in
set_option maxRecDepth 8000 in
theorem any_big [MaxL] (s : List UInt8) (h8 : 8 < s.length) (hn : s.length < 1000000) : call cx 120 [.vsl false (ofBytes s) s.length, .str [61, 10]] [] = some (.int .i64 (anyI s 0), []) := by
  have hus := ia_use s.length
  simp only [h8, decide_true] at hus
  have hn1 : ¬ (s.length : Int) = 1 := by omega
  have ha := asc_ev
  have hal := asc_len
  have haf : asc.all idFree = true := by unfold asc; rw [List.all_map, List.all_eq_true]; intro x _; rfl
  have hac : asc.all (closed 0) = true := by unfold asc; rw [List.all_map, List.all_eq_true]; intro x _; rfl
  have hafL : idFree.idFreeL asc = true := by rw [idFreeL_all]; exact haf
  have haf2 : (∀ x, x ∈ asc → idFree x = true) = True := eq_true (List.all_eq_true.1 haf)
  have hacs : ∀ n, asc.all (closed n) = true := fun n => by unfold asc; rw [List.all_map, List.all_eq_true]; intro x _; rfl
  have hhas := asc_has
  have hfz : freeze.freezeL [some asc] asc = some asc := by
    have := freezeL_idf [] [some asc] asc hafL
    rw [this]
    have gen : ∀ (l : List D), (∀ d ∈ l, ∃ b, d = .bool b) → freeze.freezeL [] l = some l := by
      intro l
      induction l with
      | nil => intro _; rfl
      | cons a l ih =>
        intro h
        obtain ⟨b, rfl⟩ := h a (by simp)
        have := ih fun d hd => h d (by simp [hd])
        rw [freeze.freezeL, this]
        rfl
    refine gen _ fun d hd => ?_
    simp only [asc, List.mem_map] at hd
    obtain ⟨i, _, rfl⟩ := hd
    exact ⟨_, rfl⟩
  have hsh : shift.shiftL 0 asc = asc := shiftL_of_free 0 asc hafL
  obtain ⟨r, hr⟩ : ∃ r, anyI s 0 = r := ⟨_, rfl⟩
  rw [hr]
  have htk : List.take 256 asc = asc := List.take_of_length_le (by omega)
  generalize hA : asc = A at *
  clear hA
  refine call_run Tryz.func120 rfl ⟨rfl, conAny_none s false (.inr h8)⟩ ?_
  simp [-List.reduceReplicate, Tryz.f120, hn1, hus, ha, hal, hacs, hsh]
  refine Run.loopThen (fun (k : Nat) e H' => k ≤ s.length ∧ anyI (s.drop k) k = r ∧ H' = [some A] ∧ look e 7 = some (.optr 0 256 0) ∧ look e 60 = some (.vsl false (ofBytes s) s.length) ∧ look e 61 = some (.int .i64 s.length) ∧ look e 62 = some (.int .i64 k)) (fun k => s.length - k) 0 ?_ ?_
  · simpa using hr
  rintro k e H' ⟨hk, hR, rfl, k7, k60, k61, k62⟩
  by_cases hlt : k < s.length
  · have hlt' : (k : Int) < (s.length : Int) := by omega
    have hw : IntKind.i64.wrap ((k : Int) + 1) = ((k + 1 : Nat) : Int) := by rw [wrap_i64] <;> omega
    have hat := ofBytes_at hlt
    rw [List.drop_eq_getElem_cons hlt, anyI] at hR
    have hh := hhas s[k]
    generalize s[k] = c at *
    by_cases hc : c = 61 ∨ c = 10
    · rw [if_pos hc] at hR
      simp only [hc, decide_true] at hh
      simp [k7, k60, k61, k62, hlt', hat, hh, hal, haf2]
      exact hR
    · rw [if_neg hc] at hR
      simp only [hc, decide_false] at hh
      simp [k7, k60, k61, k62, hlt', hat, hh, hal, haf2, hw]
      exact ⟨k + 1, by omega, hlt, hR, by omega⟩
  · have hlt' : ¬ (k : Int) < (s.length : Int) := by omega
    rw [List.drop_eq_nil_of_le (by omega), anyI] at hR
    simp [k7, k60, k61, k62, hlt']
    exact hR
theorem any_nil [MaxL] (b : Bool) : call cx 120 [.vsl b [] 0, .str [61, 10]] [] = some (.int .i64 (-1), []) := by
  have hus : call cx 148 [.int .i64 0] [] = some (.bool false, []) := ia_use 0
  refine call_run Tryz.func120 rfl ⟨rfl, conAny_none [] b (.inl rfl)⟩ ?_
  simp [Tryz.f120, hus]
  refine run_unroll ?_
  simp
theorem any_ev [MaxL] (s : Sl UInt8) (hn : s.l.length < 1000000) : call cx 120 [(.vsl s.nil (ofBytes s.l) s.l.length), .str [61, 10]] [] = some (.int .i64 (anyI s.l 0), []) := by
  by_cases h0 : s.l.length = 0
  · have hl : s.l = [] := List.length_eq_zero_iff.1 h0
    rw [hl]
    exact any_nil s.nil
  · have hnn : s.nil = false := by
      cases h : s.nil with
      | false => rfl
      | true => exact absurd (by rw [s.h h]; rfl) h0
    rw [hnn]
    by_cases h8 : 8 < s.l.length
    · exact any_big s.l h8 hn
    · exact call_con (conAny_short s.l (by omega) (by omega))
end Go.Ev.S
namespace Go.Ev.S
open Go Go.Proofs Go.Ev
theorem bidx_ev [MaxL] (s : Sl UInt8) (hs : s.l.length < 1000000) : call cx 137 [(.vsl s.nil (ofBytes s.l) s.l.length), .vsl false [.int .u8 10] 1] [] = some (.int .i64 (idxN [10] s.l 0), []) := by
  refine call_con ?_
  rw [co137]
  have h10 : bytesR [.int .u8 10] = some [10] := rfl
  have h2 : s.l.length < 4294967281 := by omega
  simp [conBIdx, h10, h2]
theorem bcut_ev [MaxL] (s : Sl UInt8) (hs : s.l.length < 1000000) : ∃ (a r : Sl UInt8) (f : Bool), a.l = lnL s.l ∧ r.l = lnR s.l ∧ call cx 115 [(.vsl s.nil (ofBytes s.l) s.l.length), .vsl false [.int .u8 10] 1] [] = some (.tup [(.vsl a.nil (ofBytes a.l) a.l.length), (.vsl r.nil (ofBytes r.l) r.l.length), .bool f], []) := by
  have h := bidx_ev s hs
  rcases idx_cases [10] s.l 0 with ⟨i, h1, h2, -⟩ | h1
  · simp only [Nat.zero_add, List.length_cons, List.length_nil] at h1 h2
    have hn : ¬ ((i : Nat) : Int) = -1 := by omega
    refine ⟨⟨s.nil, s.l.take i, fun e => by rw [s.h e]; simp⟩, ⟨s.nil, s.l.drop (i + 1), fun e => by rw [s.h e]; simp⟩, true, ?_, ?_, ?_⟩
    · simp [lnL, cutL, h1, hn]
    · simp [lnR, cutL, h1, hn]
    · rw [h1] at h
      have hw : IntKind.i64.wrap ((i : Int) + 1) = ((i + 1 : Nat) : Int) := by rw [wrap_i64] <;> omega
      have g1 : i ≤ s.l.length := by omega
      have g2 : i + 1 ≤ s.l.length := by omega
      have g1' : (i : Int) ≤ (s.l.length : Int) := by omega
      have g2' : ((i + 1 : Nat) : Int) ≤ (s.l.length : Int) := by omega
      have t1 : List.take i (ofBytes s.l) = ofBytes (s.l.take i) := ofBytes_take _ _
      have t2 : List.take (s.l.length - (i + 1)) (List.drop (i + 1) (ofBytes s.l)) = ofBytes (s.l.drop (i + 1)) := by
        rw [ofBytes_drop]
        exact List.take_of_length_le (by simp)
      have l1 : (s.l.take i).length = i := by simp; omega
      have l2 : (s.l.drop (i + 1)).length = s.l.length - (i + 1) := by simp
      obtain ⟨j, hj⟩ : ∃ j, j = i + 1 := ⟨_, rfl⟩
      rw [← hj] at hw g2 g2' t2 l2 ⊢
      have g3 : ((s.l.length : Int) - (j : Int)).toNat = s.l.length - j := by omega
      refine call_run Tryz.func115 rfl ⟨rfl, rfl⟩ ?_
      simp [Tryz.f115, h, hw, g1', g2', t1, t2, l1, l2]
  · refine ⟨s, .none, false, ?_, ?_, ?_⟩
    · simp [lnL, cutL, h1]
    · simp [lnR, cutL, h1]
    · rw [h1] at h
      refine call_run Tryz.func115 rfl ⟨rfl, rfl⟩ ?_
      simp [Tryz.f115, h, Sl.none]
theorem line_ev [MaxL] (s : Sl UInt8) (hs : s.l.length < 1000000) (p : List UInt8) (hp : p.length < 1000) : ∃ r : Sl UInt8, r.l = lnR s.l ∧ call cx 88 [.optr 0 1 0, .str p] [some [(.vsl s.nil (ofBytes s.l) s.l.length)]] = some (.str (trimL p (lnL s.l)), [some [(.vsl r.nil (ofBytes r.l) r.l.length)]]) := by
  obtain ⟨a, r, f, h1, h2, h3⟩ := bcut_ev s hs
  refine ⟨r, h2, ?_⟩
  have hl := lnL_len s.l
  have ht := trim_ev (lnL s.l) p (by omega) (by omega)
  have hb : bytesD (ofBytes a.l) = some a.l := bytesD_of a.l
  have ht2 : List.take a.l.length (ofBytes a.l) = ofBytes a.l := List.take_of_length_le (by simp)
  rw [← h1] at ht ⊢
  refine call_run Tryz.func88 rfl ⟨rfl, rfl⟩ ?_
  simp [Tryz.f88, h3, ht, hb, trimL]
theorem nline_ev [MaxL] (s : Sl UInt8) (hs : s.l.length < 1000000) (p : List UInt8) (hp : p.length < 1000) : ∃ r : Sl UInt8, r.l = lnR s.l ∧ call cx 91 [.optr 0 1 0, .str p] [some [(.vsl s.nil (ofBytes s.l) s.l.length)]] = some (.int .u64 (nmI p s.l : Nat), [some [(.vsl r.nil (ofBytes r.l) r.l.length)]]) := by
  obtain ⟨r, h1, h2⟩ := line_ev s hs p hp
  refine ⟨r, h1, ?_⟩
  have hl := lnL_len s.l
  have ht := trim_len p (lnL s.l)
  unfold nmI
  rcases pu_ev 10 (.inl rfl) (trimL p (lnL s.l)) (by omega) with ⟨v, e1, e2⟩ | ⟨e1, x, d, e2⟩
  · rw [e1]
    have e3 : call cx 89 [.str (trimL p (lnL s.l)), .int .i64 10, .int .i64 64] [] = some (.tup [.int .u64 v, .nili], []) := e2
    refine call_run Tryz.func91 rfl ⟨rfl, rfl⟩ ?_
    simp [Tryz.f91, h2, e3]
  · rw [e1]
    have e3 : call cx 89 [.str (trimL p (lnL s.l)), .int .i64 10, .int .i64 64] [] = some (.tup [.int .u64 x, .iface 179 (.vptr d)], []) := e2
    refine call_run Tryz.func91 rfl ⟨rfl, rfl⟩ ?_
    simp [Tryz.f91, h2, e3]
theorem idline_ev [MaxL] (s : Sl UInt8) (hs : s.l.length < 1000000) (p : List UInt8) (hp : p.length < 1000) : ∃ r : Sl UInt8, r.l = lnR s.l ∧ call cx 90 [.optr 0 1 0, .str p] [some [(.vsl s.nil (ofBytes s.l) s.l.length)]] = some (.agg (ofBytes (idI p s.l).l), [some [(.vsl r.nil (ofBytes r.l) r.l.length)]]) := by
  obtain ⟨r, h1, h2⟩ := line_ev s hs p hp
  refine ⟨r, h1, ?_⟩
  have hl := lnL_len s.l
  have ht := trim_len p (lnL s.l)
  have hid := id_ev (trimL p (lnL s.l)) (by omega)
  have e : (idI p s.l).l = (idP (trimL p (lnL s.l))).getD zero16 := rfl
  rw [← e] at hid
  have hl16 := (idI p s.l).h
  have ht16 : List.take 16 (ofBytes (idI p s.l).l) = ofBytes (idI p s.l).l := List.take_of_length_le (by simp)
  refine call_run Tryz.func90 rfl ⟨rfl, rfl⟩ ?_
  simp [Tryz.f90, h2, hid, hl16, ht16]
end Go.Ev.S
namespace Go.Ev
open Go Go.Proofs
mutual
theorem noZ_free : ∀ (d : D), idFree d = true → noZ d = true
  | .agg cs, h => by simp only [idFree] at h; simp only [noZ]; exact noZL_free cs h
  | .tup cs, h => by simp only [idFree] at h; simp only [noZ]; exact noZL_free cs h
  | .fn _ cs, h => by simp only [idFree] at h; simp only [noZ]; exact noZL_free cs h
  | .iface _ d, h => by simp only [idFree] at h; simp only [noZ]; exact noZ_free d h
  | .optr .., h => by simp [idFree] at h
  | .osl .., h => by simp [idFree] at h
  | .bool _, _ => rfl
  | .int _ _, _ => rfl
  | .str _, _ => rfl
  | .nilp, _ => rfl
  | .nilf, _ => rfl
  | .nili, _ => rfl
  | .vptr _, _ => rfl
  | .vsl .., _ => rfl
  | .raw _, _ => rfl
theorem noZL_free : ∀ (l : List D), idFree.idFreeL l = true → noZ.noZL l = true
  | [], _ => rfl
  | d :: l, h => by
    simp only [idFree.idFreeL, Bool.and_eq_true] at h
    simp only [noZ.noZL, noZ_free d h.1, noZL_free l h.2, Bool.and_self]
end
@[simp] theorem noZL_append (a b : List D) : noZ.noZL (a ++ b) = (noZ.noZL a && noZ.noZL b) := by
  induction a with
  | nil => simp [noZ.noZL]
  | cons d l ih => simp [noZ.noZL, ih, Bool.and_assoc]
@[simp] theorem noZL_of (l : List UInt8) : noZ.noZL (ofBytes l) = true := noZL_free _ (by simp)
@[simp] theorem noZL_cells {α : Type} [Enc α] (a : α) : noZ.noZL (Enc.cells a) = true := noZL_free _ (cells_idFreeL a)
@[simp] theorem noZL_encs {α : Type} [Enc α] (l : List α) : noZ.noZL (encs l) = true := noZL_free _ (encs_idFreeL l)
end Go.Ev
namespace Go.Ev.S
open Go Go.Proofs Go.Ev
theorem anyI_cases : ∀ (l : List UInt8) (n : Nat), (∃ k : Nat, anyI l n = ((n + k : Nat) : Int) ∧ ∃ h : k < l.length, (l[k] = 61 ∨ l[k] = 10) ∧ ∀ j (hj : j < k), l[j] ≠ 61 ∧ l[j] ≠ 10) ∨ anyI l n = -1
  | [], n => .inr rfl
  | b :: l, n => by
    by_cases hb : b = 61 ∨ b = 10
    · exact .inl ⟨0, by rw [anyI, if_pos hb]; simp, by simp, hb, fun j hj => by omega⟩
    · rw [anyI, if_neg hb]
      rcases anyI_cases l (n + 1) with ⟨k, h1, h2, h3, h4⟩ | h
      · refine .inl ⟨k + 1, by rw [h1]; congr 1; omega, by simpa using h2, by simpa using h3, fun j hj => ?_⟩
        cases j with
        | zero => exact ⟨fun e => hb (.inl e), fun e => hb (.inr e)⟩
        | succ j => exact h4 j (by omega)
      · exact .inr h
def pairP (b : List UInt8) : Option (Pr × List UInt8) :=
  if anyI b 0 < 1 then none
  else if b.getD (anyI b 0).toNat 0 = 61 then some (⟨b.take (anyI b 0).toNat, lnL (b.drop ((anyI b 0).toNat + 1))⟩, lnR (b.drop ((anyI b 0).toNat + 1)))
  else match leGet (b.drop ((anyI b 0).toNat + 1)) 0 8 with
    | none => none
    | some n => if 256 < n ∨ (b.drop ((anyI b 0).toNat + 1)).length < 9 + n then none
      else some (⟨b.take (anyI b 0).toNat, ((b.drop ((anyI b 0).toNat + 1)).drop 8).take n⟩, (b.drop ((anyI b 0).toNat + 1)).drop (9 + n))
theorem leGet_lt (l : List UInt8) (n : Nat) (h : leGet l 0 8 = some n) : n < 18446744073709551616 ∧ 8 ≤ l.length := by
  unfold leGet at h
  split at h
  · rename_i hc
    injection h with h
    refine ⟨?_, by omega⟩
    rw [← h]
    have := leN_lt ((l.drop (0 : Int).toNat).take (8 : Int).toNat)
    refine Nat.lt_of_lt_of_le this ?_
    have hl : ((l.drop (0 : Int).toNat).take (8 : Int).toNat).length ≤ 8 := by simp; omega
    exact Nat.le_trans (Nat.pow_le_pow_right (by decide) hl) (by decide)
  · cases h
set_option maxHeartbeats 4000000 in
set_option maxRecDepth 8000 in
theorem lpair_ev [MaxL] (s : Sl UInt8) (hs : s.l.length < 1000000) : ∃ r : Sl UInt8, (∀ p b, pairP s.l = some (p, b) → r.l = b) ∧
    call cx 92 [.optr 0 1 0] [some [(.vsl s.nil (ofBytes s.l) s.l.length)]] = some (.tup [.agg (match pairP s.l with | some (p, _) => [.str p.name, .str p.value] | none => [.str [], .str []]), .bool (pairP s.l).isSome], [some [(.vsl r.nil (ofBytes r.l) r.l.length)]]) := by
  have ha := any_ev s hs
  rcases anyI_cases s.l 0 with ⟨k, h1, h2, h3, -⟩ | h1
  · rw [Nat.zero_add] at h1
    rw [h1] at ha
    cases k with
    | zero =>
      have hP : pairP s.l = none := by unfold pairP; rw [h1, if_pos (by decide)]
      rw [hP]
      refine ⟨s, fun p b h => (by cases h), ?_⟩
      have ha0 : call cx 120 [(.vsl s.nil (ofBytes s.l) s.l.length), .str [61, 10]] [] = some (.int .i64 0, []) := ha
      refine call_run Tryz.func92 rfl ⟨rfl, rfl⟩ ?_
      simp [Tryz.f92, ha0]
    | succ m =>
      obtain ⟨k, hk⟩ : ∃ k, k = m + 1 := ⟨_, rfl⟩
      rw [← hk] at h1 ha h2
      have hk1 : 1 ≤ k := by omega
      have h3' : s.l[k] = 61 ∨ s.l[k] = 10 := by subst hk; exact h3
      clear h3
      have hkn : ¬ (k : Int) < 1 := by omega
      have hnn : s.nil = false := Sl.nn h2
      rw [hnn] at ha
      have hat := ofBytes_at h2
      have hgd : s.l.getD k 0 = s.l[k] := by rw [List.getD, List.getElem?_eq_getElem h2]; rfl
      have hw1 : IntKind.i64.wrap ((k : Int) + 1) = ((k + 1 : Nat) : Int) := by rw [wrap_i64] <;> omega
      have t1 : List.take k (ofBytes s.l) = ofBytes (s.l.take k) := ofBytes_take _ _
      have t1l : (s.l.take k).length = k := by simp; omega
      have t1b : bytesD (ofBytes (s.l.take k)) = some (s.l.take k) := bytesD_of _
      have t1t : List.take k (ofBytes (s.l.take k)) = ofBytes (s.l.take k) := List.take_of_length_le (by simp; omega)
      obtain ⟨R, hR⟩ : ∃ R : Sl UInt8, R = ⟨false, s.l.drop (k + 1), fun e => by cases e⟩ := ⟨_, rfl⟩
      have hRl : R.l = s.l.drop (k + 1) := by rw [hR]
      have hRn : R.nil = false := by rw [hR]
      have hRlen : R.l.length = s.l.length - (k + 1) := by rw [hRl]; simp
      have t2 : List.take (s.l.length - (k + 1)) (List.drop (k + 1) (ofBytes s.l)) = ofBytes R.l := by
        rw [ofBytes_drop, ← hRl]
        exact List.take_of_length_le (by simp [hRlen])
      have g1 : k ≤ s.l.length := by omega
      have g1' : (k : Int) ≤ (s.l.length : Int) := by omega
      have g0' : (k : Int) < (s.l.length : Int) := by omega
      have g2 : k + 1 ≤ s.l.length := by omega
      have g2' : ((k + 1 : Nat) : Int) ≤ (s.l.length : Int) := by omega
      obtain ⟨j, hj⟩ : ∃ j, j = k + 1 := ⟨_, rfl⟩
      have g3 : ((s.l.length : Int) - (j : Int)).toNat = s.l.length - j := by omega
      have hln := line_ev R (by omega) [] (by decide)
      obtain ⟨r, hr1, hr2⟩ := hln
      have htr : trimL [] (lnL R.l) = lnL R.l := by unfold trimL; simp
      rw [htr] at hr2
      have hlg := leget_ev R 0 8 ⟨by decide, by decide⟩ (by omega)
      have hP : pairP s.l = if s.l[k] = 61 then some (⟨s.l.take k, lnL R.l⟩, lnR R.l) else match leGet R.l 0 8 with
          | none => none
          | some n => if 256 < n ∨ R.l.length < 9 + n then none else some (⟨s.l.take k, (R.l.drop 8).take n⟩, R.l.drop (9 + n)) := by
        unfold pairP
        have hkn' : ((k : Int)).toNat = k := by omega
        rw [h1, if_neg hkn, hkn', hgd, ← hRl]
      rw [hP]
      have hc10 : s.l[k] ≠ 61 → s.l[k] = 10 := fun h => h3'.resolve_left h
      rw [hRn] at hr2 hlg
      rw [← hRlen] at t2
      generalize s.l[k] = c at *
      have hsl : s.l.length - (k + 1) = R.l.length := hRlen.symm
      rw [← hj] at hw1 t2 g2 g2' hsl
      by_cases hc : c = 61
      · rw [if_pos hc]
        subst hc
        refine ⟨r, fun p b h => (by injection h with h; injection h with _ h; rw [← h]; exact hr1), ?_⟩
        clear hlg hP hc10 h3'
        refine call_run Tryz.func92 rfl ⟨rfl, rfl⟩ ?_
        simp [Tryz.f92, ha, hkn, hnn, hat, hw1, t1, t1l, t1b, t2, g0', g1', g2', hsl, hr2]
      · rw [if_neg hc]
        have hc2 := hc10 hc
        subst hc2
        clear hr1 hr2 htr hP hc10 h3' hc
        cases hg : leGet R.l 0 8 with
        | none =>
          rw [hg] at hlg
          simp only [optN, Option.getD_none, Option.isSome_none] at hlg
          refine ⟨R, fun p b h => (by cases h), ?_⟩
          rw [hRn]
          refine call_run Tryz.func92 rfl ⟨rfl, rfl⟩ ?_
          simp [Tryz.f92, ha, hkn, hnn, hat, hw1, t1, t1l, t1b, t2, g0', g1', g2', hsl, hlg]
        | some n =>
          obtain ⟨hn64, hR8⟩ := leGet_lt _ _ hg
          rw [hg] at hlg
          simp only [optN, Option.getD_some, Option.isSome_some] at hlg
          by_cases hbig : 256 < n
          · have hbig' : (256 : Int) < (n : Int) := by omega
            refine ⟨R, fun p b h => (by simp only [hbig, true_or, if_true] at h; cases h), ?_⟩
            rw [hRn]
            simp only [hbig, true_or, if_true]
            refine call_run Tryz.func92 rfl ⟨rfl, rfl⟩ ?_
            simp [Tryz.f92, ha, hkn, hnn, hat, hw1, t1, t1l, t1b, t2, g0', g1', g2', hsl, hlg, hbig']
          · have hbig' : ¬ (256 : Int) < (n : Int) := by omega
            have hwn : IntKind.i64.wrap (n : Int) = (n : Int) := by rw [wrap_i64] <;> omega
            have hwn9 : IntKind.i64.wrap (9 + (n : Int)) = 9 + (n : Int) := by rw [wrap_i64] <;> omega
            by_cases hsh : R.l.length < 9 + n
            · have hsh' : (R.l.length : Int) < 9 + (n : Int) := by omega
              refine ⟨R, fun p b h => (by simp only [hsh, or_true, if_true] at h; cases h), ?_⟩
              rw [hRn]
              simp only [hsh, or_true, if_true]
              refine call_run Tryz.func92 rfl ⟨rfl, rfl⟩ ?_
              simp [Tryz.f92, ha, hkn, hnn, hat, hw1, t1, t1l, t1b, t2, g0', g1', g2', hsl, hlg, hbig', hwn, hwn9, hsh']
            · have hsh' : ¬ (R.l.length : Int) < 9 + (n : Int) := by omega
              have hno : ¬ (256 < n ∨ R.l.length < 9 + n) := by omega
              simp only [hno, if_false]
              obtain ⟨V, hV⟩ : ∃ V, V = (R.l.drop 8).take n := ⟨_, rfl⟩
              have hVl : V.length = n := by rw [hV]; simp; omega
              obtain ⟨q, hq⟩ : ∃ q, q = 9 + n := ⟨_, rfl⟩
              obtain ⟨q8, hq8⟩ : ∃ q, q = 8 + n := ⟨_, rfl⟩
              have w8 : IntKind.u64.wrap (8 + (n : Int)) = (q8 : Int) := by rw [wrap_u64] <;> omega
              have w9 : IntKind.u64.wrap (q : Int) = (q : Int) := by rw [wrap_u64] <;> omega
              have hq9 : 9 + (n : Int) = (q : Int) := by omega
              have e8 : ((q8 : Int) - 8).toNat = n := by omega
              have eq9 : ((R.l.length : Int) - (q : Int)).toNat = R.l.length - q := by omega
              have b1 : (q8 : Int) ≤ (R.l.length : Int) := by omega
              have b2 : (8 : Int) ≤ (q8 : Int) := by omega
              have b3 : (q : Int) ≤ (R.l.length : Int) := by omega
              have b4 : q8 ≤ R.l.length := by omega
              have b5 : 8 ≤ q8 := by omega
              have b6 : q ≤ R.l.length := by omega
              have b7 : q8 - 8 = n := by omega
              have tv : List.take n (List.drop 8 (ofBytes R.l)) = ofBytes V := by rw [ofBytes_drop, ofBytes_take, ← hV]
              have tvb : bytesD (ofBytes V) = some V := bytesD_of _
              have tvt : List.take n (ofBytes V) = ofBytes V := List.take_of_length_le (by simp; omega)
              obtain ⟨Q, hQ⟩ : ∃ Q : Sl UInt8, Q = ⟨false, R.l.drop q, fun e => by cases e⟩ := ⟨_, rfl⟩
              have hQl : Q.l = R.l.drop q := by rw [hQ]
              have hQn : Q.nil = false := by rw [hQ]
              have hQlen : R.l.length - q = Q.l.length := by rw [hQl]; simp
              have tq : List.take (R.l.length - q) (List.drop q (ofBytes R.l)) = ofBytes Q.l := by
                rw [ofBytes_drop, ← hQl]
                exact List.take_of_length_le (by simp [hQlen])
              rw [hQlen] at tq
              refine ⟨Q, fun p b h => (by injection h with h; injection h with _ h; rw [← h, hQl, hq]), ?_⟩
              rw [hQn]
              rw [hq9] at hsh' hwn9
              rw [← hV]
              clear hg hV hQl hQ hR hRl hsh
              refine call_run Tryz.func92 rfl ⟨rfl, rfl⟩ ?_
              simp [Tryz.f92, ha, hkn, hnn, hat, hw1, t1, t1l, t1b, t2, g0', g1', g2', hsl, hlg, hbig', hwn, hq9, hwn9, hsh', w8, w9, b1, b2, b3, b7, tv, tvb, tq, hVl, hQlen]
  · have hP : pairP s.l = none := by unfold pairP; rw [h1, if_pos (by decide)]
    rw [hP]
    refine ⟨s, fun p b h => (by cases h), ?_⟩
    rw [h1] at ha
    refine call_run Tryz.func92 rfl ⟨rfl, rfl⟩ ?_
    simp [Tryz.f92, ha]
end Go.Ev.S
namespace Go.Ev.S
open Go Go.Proofs Go.Ev
def Rec.zero : Rec := ⟨0, 0, 0, ID.zero, .none⟩
def gapP (b : List UInt8) : It := ⟨idI kId (lnR b), true, ((pu 10 (cutL [45] (trimL kGap (lnL b))).1).getD 0 : Nat), ((pu 10 (cutL [45] (trimL kGap (lnL b))).2.1).getD 0 : Nat), Rec.zero⟩
theorem pu_ev10 [MaxL] (s : List UInt8) (hs : s.length ≤ 1000000) :
    (∃ v : Nat, (pu 10 s).getD 0 = v ∧ call cx 89 [.str s, .int .i64 10, .int .i64 64] [] = some (.tup [.int .u64 v, .nili], [])) ∨
    ((pu 10 s).getD 0 = 0 ∧ ∃ (x : Nat) (d : List D), call cx 89 [.str s, .int .i64 10, .int .i64 64] [] = some (.tup [.int .u64 x, .iface 179 (.vptr d)], [])) := by
  rcases pu_ev 10 (.inl rfl) s (by omega) with ⟨v, e1, e2⟩ | ⟨e1, x, d, e2⟩
  · exact .inl ⟨v, by rw [e1]; rfl, e2⟩
  · exact .inr ⟨by rw [e1]; rfl, x, d, e2⟩
set_option maxHeartbeats 4000000 in
set_option maxRecDepth 8000 in
theorem gap_ev [MaxL] (s : Sl UInt8) (hs : s.l.length < 1000000) : ∃ r : Sl UInt8, call cx 50 [.optr 0 1 0] [some [(.vsl s.nil (ofBytes s.l) s.l.length)]] = some (.agg (Enc.cells (gapP s.l)), [some [(.vsl r.nil (ofBytes r.l) r.l.length)]]) := by
  obtain ⟨r1, hr1, hl1⟩ := line_ev s hs kGap (by decide)
  have hln := lnL_len s.l
  have hlr := lnR_len s.l
  have htl := trim_len kGap (lnL s.l)
  obtain ⟨r2, hr2, hl2⟩ := idline_ev r1 (by rw [hr1]; omega) kId (by decide)
  have hcl := cut_len [45] (trimL kGap (lnL s.l))
  have hct := cut_ev (trimL kGap (lnL s.l)) [45] (by omega) (by decide)
  have p1 := pu_ev10 (cutL [45] (trimL kGap (lnL s.l))).1 (by omega)
  have p2 := pu_ev10 (cutL [45] (trimL kGap (lnL s.l))).2.1 (by omega)
  refine ⟨r2, ?_⟩
  rw [It.cells]
  unfold gapP
  simp only
  rw [← hr1]
  generalize idI kId r1.l = q at *
  generalize (cutL [45] (trimL kGap (lnL s.l))).2.2 = f at *
  generalize (cutL [45] (trimL kGap (lnL s.l))).2.1 = y at *
  generalize (cutL [45] (trimL kGap (lnL s.l))).1 = x at *
  generalize trimL kGap (lnL s.l) = t at *
  have hq := q.h
  have hq16 : List.take 16 (ofBytes q.l) = ofBytes q.l := List.take_of_length_le (by simp)
  have hq39 : List.take 39 (ofBytes q.l) = ofBytes q.l := List.take_of_length_le (by simp)
  have z16 : ofBytes ID.zero.l = [.int .u8 0, .int .u8 0, .int .u8 0, .int .u8 0, .int .u8 0, .int .u8 0, .int .u8 0, .int .u8 0, .int .u8 0, .int .u8 0, .int .u8 0, .int .u8 0, .int .u8 0, .int .u8 0, .int .u8 0, .int .u8 0] := rfl
  clear hlr htl hln hcl
  simp only [kGap, kId] at hl1 hl2
  refine call_run Tryz.func50 rfl ⟨rfl, rfl⟩ ?_
  rcases p1 with ⟨v1, e1, c1⟩ | ⟨e1, x1, d1, c1⟩ <;> rcases p2 with ⟨v2, e2, c2⟩ | ⟨e2, x2, d2, c2⟩ <;> rw [e1, e2] <;> clear e1 e2
  all_goals
    simp [Tryz.f50, hl1, hct]
    refine run_unroll ?_
    simp [c1]
    refine run_unroll ?_
    simp [c2]
    refine run_unroll ?_
    simp [hl2, hq39, hq, z16, Rec.zero, List.take_append]
end Go.Ev.S
namespace Go.Ev.S
open Go Go.Proofs Go.Ev
def fldP : Nat → List UInt8 → List Pr
  | 0, _ => []
  | n + 1, b => match pairP b with
    | none => []
    | some (p, r) => p :: fldP n r
def slP (l : List Pr) : Sl Pr := ⟨l.isEmpty, l, fun h => by simpa using h⟩
def entP (b : List UInt8) : It := ⟨idI kId (lnR (lnR (lnR (lnR b)))), false, 0, 0, ⟨(nmI kSeq (lnR (lnR (lnR b))) : Nat), (nmI kReal (lnR b) : Nat), (nmI kMono (lnR (lnR b)) : Nat), idI kBoot (lnR (lnR (lnR (lnR (lnR b))))), slP (fldP 17 (lnR (lnR (lnR (lnR (lnR (lnR b)))))))⟩⟩
theorem pairP_len {b : List UInt8} {p : Pr} {r : List UInt8} (h : pairP b = some (p, r)) : r.length ≤ b.length := by
  unfold pairP at h
  split at h
  · cases h
  · split at h
    · injection h with h
      injection h with _ h
      rw [← h]
      exact Nat.le_trans (lnR_len _) (by simp)
    · split at h
      · cases h
      · split at h
        · cases h
        · injection h with h
          injection h with _ h
          rw [← h]
          simp
def entX (q : ID) (sq rl mn : Nat) (bt : ID) : List D := ofBytes q.l ++ ([.bool false, .int .u64 0, .int .u64 0, .int .u64 sq, .int .u64 rl, .int .u64 mn] ++ ofBytes bt.l)
theorem entX_len (q : ID) (sq rl mn : Nat) (bt : ID) : (entX q sq rl mn bt).length = 38 := by
  simp [entX, q.h, bt.h]
theorem entX_free (q : ID) (sq rl mn : Nat) (bt : ID) : idFree.idFreeL (entX q sq rl mn bt) = true := by
  simp [entX, idFree]
def EntH (X : List D) (Z : Option (List D)) (fs : List Pr) (r : Sl UInt8) (H : Heap) : Prop :=
  (fs = [] ∧ H = [some [(.vsl r.nil (ofBytes r.l) r.l.length)], Z, some (X ++ [.vsl true [] 0])]) ∨
  (fs ≠ [] ∧ ∃ (n k : Nat) (t u : Pr), n = fs.length * 2 ∧ k = fs.length ∧ (H = [some [(.vsl r.nil (ofBytes r.l) r.l.length)], Z, some (X ++ [.osl 5 n 0 k 2]), some [.str t.name, .str t.value], some [.str u.name, .str u.value], some (encs fs)] ∨
    ∃ v w : Pr, H = [some [(.vsl r.nil (ofBytes r.l) r.l.length)], Z, some (X ++ [.osl 5 n 0 k 2]), some [.str t.name, .str t.value], some [.str u.name, .str u.value], some (encs fs), some [.str v.name, .str v.value], some [.str w.name, .str w.value]]))
theorem stay_ent {X : List D} (hX : idFree.idFreeL X = true) {fs : List Pr} {i n k : Nat} (hn : fs.length * 2 = n) (hk : fs.length = k) {H : Heap} (hg : (H[i]?).getD none = some (encs fs)) : stay H 9 (.agg (X ++ [.osl i n 0 k 2])) = some (.agg (X ++ [.vsl false (encs fs) k]), [i]) := by
  have h8 : stay H 8 (.osl i n 0 k 2) = some (.vsl false (encs fs) k, [i]) := by
    rw [stay, if_neg (by simp [idFree])]
    have hl : (encs fs).length = n := by simp [hn]
    have h0 : 0 + k * 2 ≤ n := by omega
    simp only [hget, hg]
    rw [if_pos ⟨hl, h0⟩, if_pos (by simp), List.drop_zero, List.take_of_length_le (by simp; omega)]
  rw [stay, if_neg (by simp [idFree])]
  simp only [stayL_append, stayL_free8 hX, stayL, h8]
  rfl
set_option maxHeartbeats 4000000 in
set_option maxRecDepth 8000 in
theorem entry_ev [MaxL] (s : Sl UInt8) (hs : s.l.length < 1000000) : ∃ q, call cx 51 [.optr 0 1 0] [some [(.vsl s.nil (ofBytes s.l) s.l.length)]] = some q ∧ ∃ r : Sl UInt8, q = (.agg (Enc.cells (entP s.l)), [some [(.vsl r.nil (ofBytes r.l) r.l.length)]]) := by
  obtain ⟨r1, hr1, hl1⟩ := line_ev s hs kPlace (by decide)
  have n0 := lnR_len s.l
  obtain ⟨r2, hr2, hl2⟩ := nline_ev r1 (by rw [hr1]; omega) kReal (by decide)
  have n1 := lnR_len r1.l
  rw [← hr1] at n0
  obtain ⟨r3, hr3, hl3⟩ := nline_ev r2 (by rw [hr2]; omega) kMono (by decide)
  have n2 := lnR_len r2.l
  rw [← hr2] at n1
  obtain ⟨r4, hr4, hl4⟩ := nline_ev r3 (by rw [hr3]; omega) kSeq (by decide)
  have n3 := lnR_len r3.l
  rw [← hr3] at n2
  obtain ⟨r5, hr5, hl5⟩ := idline_ev r4 (by rw [hr4]; omega) kId (by decide)
  have n4 := lnR_len r4.l
  rw [← hr4] at n3
  obtain ⟨r6, hr6, hl6⟩ := idline_ev r5 (by rw [hr5]; omega) kBoot (by decide)
  have n5 := lnR_len r5.l
  rw [← hr5] at n4
  rw [← hr6] at n5
  have hE : Enc.cells (entP s.l) = entX (idI kId r4.l) (nmI kSeq r3.l) (nmI kReal r1.l) (nmI kMono r2.l) (idI kBoot r5.l) ++ [(.vsl (slP (fldP 17 r6.l)).nil (encs (slP (fldP 17 r6.l)).l) (slP (fldP 17 r6.l)).l.length)] := by
    rw [It.cells]
    unfold entP entX
    simp only
    rw [← hr1, ← hr2, ← hr3, ← hr4, ← hr5, ← hr6]
    simp
  rw [hE]
  have hr6' : r6.l.length < 1000000 := by omega
  clear hE n0 n1 n2 n3 n4 n5 hr1 hr2 hr3 hr4 hr5 hr6
  have hXl := entX_len (idI kId r4.l) (nmI kSeq r3.l) (nmI kReal r1.l) (nmI kMono r2.l) (idI kBoot r5.l)
  have hXf := entX_free (idI kId r4.l) (nmI kSeq r3.l) (nmI kReal r1.l) (nmI kMono r2.l) (idI kBoot r5.l)
  obtain ⟨X, hX⟩ : ∃ X, X = entX (idI kId r4.l) (nmI kSeq r3.l) (nmI kReal r1.l) (nmI kMono r2.l) (idI kBoot r5.l) := ⟨_, rfl⟩
  rw [← hX] at hXl hXf ⊢
  unfold entX at hX
  obtain ⟨F, hF⟩ : ∃ F, F = fldP 17 r6.l := ⟨_, rfl⟩
  rw [← hF]
  have hq := (idI kId r4.l).h
  have hb := (idI kBoot r5.l).h
  generalize idI kId r4.l = q at *
  generalize idI kBoot r5.l = bt at *
  generalize nmI kSeq r3.l = sq at *
  generalize nmI kReal r1.l = rl at *
  generalize nmI kMono r2.l = mn at *
  have hq16 : List.take 16 (ofBytes q.l) = ofBytes q.l := List.take_of_length_le (by simp)
  have hb16 : List.take 16 (ofBytes bt.l) = ofBytes bt.l := List.take_of_length_le (by simp)
  simp only [kPlace, kReal, kMono, kSeq, kId, kBoot] at hl1 hl2 hl3 hl4 hl5 hl6
  have hXd : List.drop 38 X = [] := List.drop_eq_nil_of_le (by omega)
  have hXd9 : List.drop 39 X = [] := List.drop_eq_nil_of_le (by omega)
  have hXt : List.take 38 X = X := List.take_of_length_le (by omega)
  have hXt9 : List.take 39 X = X := List.take_of_length_le (by omega)
  have hXc : ∀ n, (∀ x, x ∈ X → closed n x = true) = True := fun n => eq_true (by
    have := closedL_free n X hXf
    rw [closedL_all] at this
    exact List.all_eq_true.1 this)
  refine call_runE (X := cx) (f := 51) (args := [.optr 0 1 0]) (H := [some [(.vsl s.nil (ofBytes s.l) s.l.length)]]) (fun q => ∃ r : Sl UInt8, q = (.agg (X ++ [(.vsl (slP F).nil (encs (slP F).l) (slP F).l.length)]), [some [(.vsl r.nil (ofBytes r.l) r.l.length)]])) Tryz.func51 rfl ⟨rfl, rfl⟩ ?_
  simp [Tryz.f51, hl1, hl2, hl3, hl4, hl5, hl6, hq, hb, List.take_append, List.drop_append, drop_bytes]
  have hZf : idFree.idFreeL [D.int .u8 0, D.int .u8 0, D.int .u8 0, D.int .u8 0, D.int .u8 0, D.int .u8 0, D.int .u8 0, D.int .u8 0, D.int .u8 0, D.int .u8 0, D.int .u8 0, D.int .u8 0, D.int .u8 0, D.int .u8 0, D.int .u8 0, D.int .u8 0, D.bool false, D.int .u64 0, D.int .u64 0, D.int .u64 0, D.int .u64 0, D.int .u64 0, D.int .u8 0, D.int .u8 0, D.int .u8 0, D.int .u8 0, D.int .u8 0, D.int .u8 0, D.int .u8 0, D.int .u8 0, D.int .u8 0, D.int .u8 0, D.int .u8 0, D.int .u8 0, D.int .u8 0, D.int .u8 0, D.int .u8 0, D.int .u8 0, D.vsl true [] 0] = true := rfl
  have hZl : [D.int .u8 0, D.int .u8 0, D.int .u8 0, D.int .u8 0, D.int .u8 0, D.int .u8 0, D.int .u8 0, D.int .u8 0, D.int .u8 0, D.int .u8 0, D.int .u8 0, D.int .u8 0, D.int .u8 0, D.int .u8 0, D.int .u8 0, D.int .u8 0, D.bool false, D.int .u64 0, D.int .u64 0, D.int .u64 0, D.int .u64 0, D.int .u64 0, D.int .u8 0, D.int .u8 0, D.int .u8 0, D.int .u8 0, D.int .u8 0, D.int .u8 0, D.int .u8 0, D.int .u8 0, D.int .u8 0, D.int .u8 0, D.int .u8 0, D.int .u8 0, D.int .u8 0, D.int .u8 0, D.int .u8 0, D.int .u8 0, D.vsl true [] 0].length = 39 := rfl
  generalize [D.int .u8 0, D.int .u8 0, D.int .u8 0, D.int .u8 0, D.int .u8 0, D.int .u8 0, D.int .u8 0, D.int .u8 0, D.int .u8 0, D.int .u8 0, D.int .u8 0, D.int .u8 0, D.int .u8 0, D.int .u8 0, D.int .u8 0, D.int .u8 0, D.bool false, D.int .u64 0, D.int .u64 0, D.int .u64 0, D.int .u64 0, D.int .u64 0, D.int .u8 0, D.int .u8 0, D.int .u8 0, D.int .u8 0, D.int .u8 0, D.int .u8 0, D.int .u8 0, D.int .u8 0, D.int .u8 0, D.int .u8 0, D.int .u8 0, D.int .u8 0, D.int .u8 0, D.int .u8 0, D.int .u8 0, D.int .u8 0, D.vsl true [] 0] = Z at *
  have hZc : ∀ n, (∀ x, x ∈ Z → closed n x = true) = True := fun n => eq_true (by
    have := closedL_free n Z hZf
    rw [closedL_all] at this
    exact List.all_eq_true.1 this)
  have hZd : List.drop 39 Z = [] := List.drop_eq_nil_of_le (by omega)
  refine Run.loopThen (fun (q : List Pr × Sl UInt8) e H' => q.1.length ≤ 17 ∧ q.2.l.length < 1000000 ∧ q.1 ++ fldP (17 - q.1.length) q.2.l = F ∧ EntH X (some Z) q.1 q.2 H' ∧ look e 0 = some (.optr 0 1 0) ∧ look e 2 = some (.optr 1 39 0) ∧ look e 3 = some (.optr 2 39 0) ∧ look e 4 = some (.optr 2 39 19)) (fun q => 17 - q.1.length) ([], r6) ?_ ?_
  · refine ⟨by simp, hr6', by rw [hF]; rfl, .inl ⟨rfl, ?_⟩, by simp, by simp, by simp, by simp⟩
    rw [hX]
    simp
  rintro ⟨fs, r⟩ e H' ⟨hk, hrl, hFf, hH, k0, k2, k3, k4⟩
  simp only at hk hrl hFf hH
  clear hX hF hl1 hl2 hl3 hl4 hl5 hl6 hr6'
  have hl0 := lnR_len r.l
  obtain ⟨r', hr', hp⟩ := lpair_ev r hrl
  rcases hH with ⟨rfl, rfl⟩ | ⟨hne, n, k, t, u, hn, hk2, hH⟩
  · simp only [List.nil_append, List.length_nil, Nat.sub_zero, fldP] at hFf
    cases hpp : pairP r.l with
    | none =>
      rw [hpp] at hp hFf
      simp only [Option.isSome_none] at hp hFf
      subst hFf
      simp [k0, k2, k3, k4, hp, hXl, hXt9, hXc, hXf, hZl, hZd, List.take_append, List.drop_append, slP]
      exact ⟨r', rfl, rfl, rfl⟩
    | some pr =>
      obtain ⟨p, b⟩ := pr
      rw [hpp] at hp hFf
      simp only [Option.isSome_some] at hp hFf
      have hrb := hr' p b hpp
      have hbl := pairP_len hpp
      simp [k0, k2, k3, k4, hp, hXl, hXd9, List.drop_append, maxBytes]
      exact ⟨[p], by simp, by simp, r', by rw [hrb]; omega, by rw [hrb]; exact hFf, .inr ⟨by simp, 2, 1, p, p, rfl, rfl, .inl rfl⟩⟩
  · have hk17 : (k : Int) ≤ 16 ↔ k ≤ 16 := by omega
    have hlk : fs.length = k := hk2.symm
    have hkn : k * 2 = n := by omega
    have hm1 : (k + 1) * 32 ≤ 140737488355328 := by omega
    have hm2 : k + 1 ≤ 140737488355328 := by omega
    have hie : fs.isEmpty = false := by simpa using hne
    have htk : List.take n (encs fs) = encs fs := List.take_of_length_le (by simp; omega)
    have hst := fun {i : Nat} {H : Heap} => stay_ent hXf (fs := fs) (i := i) (n := n) (k := k) hn.symm hlk (H := H)
    by_cases hle : k ≤ 16
    · have hle' : (k : Int) ≤ 16 := by omega
      have hfu : 17 - fs.length = (16 - fs.length) + 1 := by omega
      rw [hfu, fldP] at hFf
      cases hpp : pairP r.l with
      | none =>
        rw [hpp] at hp hFf
        simp only [Option.isSome_none, List.append_nil] at hp hFf
        subst hFf
        rcases hH with rfl | ⟨v, w, rfl⟩
        · simp [-stay, k0, k2, k3, k4, hle', hp, hst, hlk, hXl, hXt9, hXc, hXf, hZl, hZd, List.take_append, List.drop_append, slP, hie]
          exact ⟨r', rfl, rfl, rfl⟩
        · simp [-stay, k0, k2, k3, k4, hle', hp, hst, hlk, hXl, hXt9, hXc, hXf, hZl, hZc, hZd, List.take_append, List.drop_append, slP, hie]
          exact ⟨r', rfl, rfl, rfl⟩
      | some pr =>
        obtain ⟨p, b⟩ := pr
        rw [hpp] at hp hFf
        simp only [Option.isSome_some] at hp hFf
        have hrb := hr' p b hpp
        have hbl := pairP_len hpp
        rcases hH with rfl | ⟨v, w, rfl⟩
        · simp [k0, k2, k3, k4, hle', hp, hlk, hkn, hm1, hm2, hXl, hXd9, List.drop_append, maxBytes]
          refine ⟨fs ++ [p], by simp; omega, by simp [hlk]; omega, r', by rw [hrb]; omega, ?_, .inr ⟨by simp, n + 2, k + 1, t, u, by simp; omega, by simp; omega, .inr ⟨p, p, by rw [encs_snoc]; rfl⟩⟩⟩
          rw [← hFf, hrb, List.append_assoc]
          have e1 : 17 - (fs ++ [p]).length = 16 - fs.length := by simp
          rw [e1]
          rfl
        · simp [k0, k2, k3, k4, hle', hp, hlk, hkn, hm1, hm2, hXl, hXd9, hXc, hZc, List.drop_append, maxBytes]
          refine ⟨fs ++ [p], by simp; omega, by simp [hlk]; omega, r', by rw [hrb]; omega, ?_, .inr ⟨by simp, n + 2, k + 1, t, u, by simp; omega, by simp; omega, .inr ⟨p, p, by rw [encs_snoc]; rfl⟩⟩⟩
          rw [← hFf, hrb, List.append_assoc]
          have e1 : 17 - (fs ++ [p]).length = 16 - fs.length := by simp
          rw [e1]
          rfl
    · have hle' : ¬ (k : Int) ≤ 16 := by omega
      have hfu : 17 - fs.length = 0 := by omega
      rw [hfu, fldP, List.append_nil] at hFf
      subst hFf
      rcases hH with rfl | ⟨v, w, rfl⟩
      · simp [-stay, k0, k2, k3, k4, hle', hst, hlk, hXl, hXt9, hXc, hXf, hZl, hZd, List.take_append, List.drop_append, slP, hie]
        exact ⟨r, rfl, rfl, rfl⟩
      · simp [-stay, k0, k2, k3, k4, hle', hst, hlk, hXl, hXt9, hXc, hXf, hZl, hZc, hZd, List.take_append, List.drop_append, slP, hie]
        exact ⟨r, rfl, rfl, rfl⟩
end Go.Ev.S
namespace Go.Ev.S
open Go Go.Proofs Go.Ev
theorem bequal_ev [MaxL] (a b : Sl UInt8) (_ : a.l.length < 1000000) (_ : b.l.length < 1000000) : call cx 86 [(.vsl a.nil (ofBytes a.l) a.l.length), (.vsl b.nil (ofBytes b.l) b.l.length)] [] = some (.bool (a.l == b.l), []) := by
  have t1 : List.take a.l.length (ofBytes a.l) = ofBytes a.l := List.take_of_length_le (by simp)
  have t2 : List.take b.l.length (ofBytes b.l) = ofBytes b.l := List.take_of_length_le (by simp)
  refine call_run Tryz.func86 rfl ⟨rfl, rfl⟩ ?_
  simp [Tryz.f86]
theorem bpfx_ev [MaxL] (s : Sl UInt8) (p : List UInt8) (hs : s.l.length < 1000000) (hp : p.length < 1000000) (h1 : 1 ≤ p.length) : call cx 49 [(.vsl s.nil (ofBytes s.l) s.l.length), .vsl false (ofBytes p) p.length] [] = some (.bool (pre p s.l), []) := by
  unfold pre
  refine call_run Tryz.func49 rfl ⟨rfl, rfl⟩ ?_
  by_cases hle : p.length ≤ s.l.length
  · have hle' : (p.length : Int) ≤ (s.l.length : Int) := by omega
    have hnn : s.nil = false := Sl.nn (i := 0) (by omega)
    have he := bequal_ev (.of (s.l.take p.length)) (.of p) (by simp; omega) hp
    simp only [Sl.of_l, Sl.of_nil] at he
    have t1 : List.take p.length (ofBytes s.l) = ofBytes (s.l.take p.length) := ofBytes_take _ _
    have l1 : (s.l.take p.length).length = p.length := by simp; omega
    rw [l1] at he
    simp [Tryz.f49, hle', hnn, t1, he]
  · have hle' : ¬ (p.length : Int) ≤ (s.l.length : Int) := by omega
    have hne : (s.l.take p.length == p) = false := by
      refine beq_eq_false_iff_ne.2 fun e => ?_
      have := congrArg List.length e
      simp at this
      omega
    rw [hne]
    simp [Tryz.f49, hle']
def It.zero : It := ⟨ID.zero, false, 0, 0, Rec.zero⟩
theorem pu_lt {s : List UInt8} : (pu 10 s).getD 0 < 18446744073709551616 := by
  cases h : pu 10 s with
  | none => decide
  | some v =>
    unfold pu at h
    split at h
    · cases h
    · exact puGo_lt 10 _ _ _ (by decide) h
theorem nmI_lt (p b : List UInt8) : isU64 (nmI p b : Nat) := by
  have : nmI p b < 18446744073709551616 := pu_lt
  unfold isU64
  omega
theorem u64_zero : isU64 0 := by unfold isU64; decide
theorem Rec.zero_ok : Rec.zero.Ok := ⟨u64_zero, u64_zero, u64_zero⟩
theorem gapP_ok (b : List UInt8) : (gapP b).Ok := by
  have h1 := pu_lt (s := (cutL [45] (trimL kGap (lnL b))).1)
  have h2 := pu_lt (s := (cutL [45] (trimL kGap (lnL b))).2.1)
  refine ⟨?_, ?_, Rec.zero_ok⟩ <;> (unfold gapP isU64; simp only; omega)
theorem entP_ok (b : List UInt8) : (entP b).Ok := ⟨u64_zero, u64_zero, nmI_lt _ _, nmI_lt _ _, nmI_lt _ _⟩
theorem pairP_b {b : List UInt8} {p : Pr} {r : List UInt8} (h : pairP b = some (p, r)) : p.name.length ≤ b.length ∧ p.value.length ≤ b.length := by
  unfold pairP at h
  split at h
  · cases h
  · split at h
    · injection h with h
      injection h with h _
      rw [← h]
      exact ⟨by simp; omega, Nat.le_trans (lnL_len _) (by simp)⟩
    · split at h
      · cases h
      · split at h
        · cases h
        · injection h with h
          injection h with h _
          rw [← h]
          constructor
          · simp; omega
          · simp; omega
theorem fldP_b : ∀ (n : Nat) (b : List UInt8), (∀ p ∈ fldP n b, p.name.length ≤ b.length ∧ p.value.length ≤ b.length) ∧ (fldP n b).length ≤ n
  | 0, b => ⟨fun p h => by simp [fldP] at h, by simp [fldP]⟩
  | n + 1, b => by
    rw [fldP]
    cases h : pairP b with
    | none => exact ⟨fun p h => by simp at h, by simp⟩
    | some q =>
      obtain ⟨p, r⟩ := q
      simp only
      obtain ⟨h1, h2⟩ := fldP_b n r
      have hr := pairP_len h
      refine ⟨fun x hx => ?_, by simpa using h2⟩
      rcases List.mem_cons.1 hx with rfl | hx
      · exact pairP_b h
      · have := h1 x hx
        omega
def itemP (b : List UInt8) : It := if pre kGap b then gapP b else entP b
theorem itemP_ok (b : List UInt8) : (itemP b).Ok := by
  unfold itemP
  split
  · exact gapP_ok b
  · exact entP_ok b
theorem itemP_b (b : List UInt8) (hb : b.length < 1000000) : (∀ p ∈ (itemP b).rc.fields.l, PrB p) ∧ (itemP b).rc.fields.l.length < 1000000 := by
  unfold itemP
  split
  · exact ⟨fun p hp => (by cases hp), (by show (0 : Nat) < 1000000; decide)⟩
  · obtain ⟨h1, h2⟩ := fldP_b 17 (lnR (lnR (lnR (lnR (lnR (lnR b))))))
    have l1 := lnR_len b
    have l2 := lnR_len (lnR b)
    have l3 := lnR_len (lnR (lnR b))
    have l4 := lnR_len (lnR (lnR (lnR b)))
    have l5 := lnR_len (lnR (lnR (lnR (lnR b))))
    have l6 := lnR_len (lnR (lnR (lnR (lnR (lnR b)))))
    refine ⟨fun p hp => ?_, ?_⟩
    · obtain ⟨q1, q2⟩ := h1 p hp
      exact ⟨by omega, by omega⟩
    · show (fldP 17 _).length < _
      omega
def readOk (b : List UInt8) : Bool := itOk (itemP b) && pre (textL (itemP b)) b
def readD (b : List UInt8) : D := if readOk b then .tup [.agg (Enc.cells (itemP b)), .int .i64 (textL (itemP b)).length, .int .i64 0] else .tup [.agg (Enc.cells It.zero), .int .i64 0, .int .i64 20]
set_option maxHeartbeats 4000000 in
set_option maxRecDepth 8000 in
theorem read_ev [MaxL] (s : Sl UInt8) (hs : s.l.length < 1000000) (hlong : itOk (itemP s.l) = true → (textL (itemP s.l)).length < 1000000 ∧ 1 ≤ (textL (itemP s.l)).length) : call cx 16 [(.vsl s.nil (ofBytes s.l) s.l.length)] [] = some (readD s.l, []) := by
  have hok := itemP_ok s.l
  obtain ⟨hb, hn⟩ := itemP_b s.l hs
  have ht := text_ev (itemP s.l) hok hb hn
  have hpg := bpfx_ev s kGap hs (by decide) (by decide)
  obtain ⟨rg, hgap⟩ := gap_ev s hs
  obtain ⟨qe, hent, re, rfl⟩ := entry_ev s hs
  have hI : itemP s.l = if pre kGap s.l then gapP s.l else entP s.l := rfl
  unfold readD readOk
  unfold textD at ht
  generalize itemP s.l = it at *
  replace hpg : call cx 49 [(.vsl s.nil (ofBytes s.l) s.l.length), .vsl false [.int .u8 95, .int .u8 95, .int .u8 71, .int .u8 65, .int .u8 80, .int .u8 61] 6] [] = some (.bool (pre kGap s.l), []) := hpg
  refine call_run Tryz.func16 rfl ⟨rfl, rfl⟩ ?_
  cases hp : pre kGap s.l with
  | true =>
    rw [hp] at hI hpg
    simp only [if_true] at hI
    rw [← hI] at hgap
    cases ho : itOk it with
    | true =>
      obtain ⟨q1, q2⟩ := hlong ho
      rw [ho] at ht
      simp only [if_true] at ht
      have hps := bpfx_ev s (textL it) hs q1 q2
      have hne : ¬ (textL it).length = 0 := by omega
      generalize textL it = t at *
      cases hpt : pre t s.l with
      | true =>
        rw [hpt] at hps
        simp [Tryz.f16, hpg, hgap, ht, hps, hne]
      | false =>
        rw [hpt] at hps
        simp [Tryz.f16, hpg, hgap, ht, hps, hne]
        rfl
    | false =>
      rw [ho] at ht
      simp [Tryz.f16, hpg, hgap, ht]
      rfl
  | false =>
    rw [hp] at hI hpg
    simp only [Bool.false_eq_true, if_false] at hI
    rw [← hI] at hent
    cases ho : itOk it with
    | true =>
      obtain ⟨q1, q2⟩ := hlong ho
      rw [ho] at ht
      simp only [if_true] at ht
      have hps := bpfx_ev s (textL it) hs q1 q2
      have hne : ¬ (textL it).length = 0 := by omega
      generalize textL it = t at *
      cases hpt : pre t s.l with
      | true =>
        rw [hpt] at hps
        simp [Tryz.f16, hpg, hent, ht, hps, hne]
      | false =>
        rw [hpt] at hps
        simp [Tryz.f16, hpg, hent, ht, hps, hne]
        rfl
    | false =>
      rw [ho] at ht
      simp [Tryz.f16, hpg, hent, ht]
      rfl
end Go.Ev.S
namespace Go.Ev.S
open Go Go.Proofs Go.Ev
end Go.Ev.S
namespace Go.Ev.S
open Go Go.Proofs Go.Ev
end Go.Ev.S
namespace Go.Ev.S
open Go Go.Proofs Go.Ev
end Go.Ev.S
namespace Go.Ev.S
open Go Go.Proofs Go.Ev
end Go.Ev.S
namespace Go.Ev.S
open Go Go.Proofs Go.Ev
end Go.Ev.S
namespace Go.Ev.S
open Go Go.Proofs Go.Ev
theorem It.zero_ok : It.zero.Ok := ⟨u64_zero, u64_zero, Rec.zero_ok⟩
structure ReadQ (b : List UInt8) (q : It × Nat × Bool) : Prop where
  ok : q.1.Ok
  bs : ∀ p ∈ q.1.rc.fields.l, p.name.length ≤ b.length ∧ p.value.length ≤ b.length
  n : q.1.rc.fields.l.length ≤ 17
  le : q.2.1 ≤ b.length
end Go.Ev.S
namespace Go.Ev.S
open Go Go.Proofs Go.Ev
theorem dval_dig {k : Nat} (h : k < 10) : dval (UInt8.ofNat (48 + k)) = some k := by
  have e : (UInt8.ofNat (48 + k)).toNat = 48 + k := UInt8.toNat_ofNat_of_lt' (show 48 + k < 256 by omega)
  unfold dval
  rw [if_pos (by rw [e]; omega), e]
  congr 1
  omega
theorem puGo_append (b : Nat) : ∀ (l r : List UInt8) (n : Nat), puGo b (l ++ r) n = match puGo b l n with
    | none => none
    | some m => puGo b r m
  | [], r, n => by simp [puGo]
  | c :: l, r, n => by
    simp only [List.cons_append, puGo]
    cases dval c with
    | none => rfl
    | some d =>
      simp only
      split
      · rfl
      · split
        · rfl
        · exact puGo_append b l r _
theorem puGo_decF : ∀ (f v : Nat), v < 10 ^ f → 1 ≤ f → v < 18446744073709551616 → puGo 10 (decF f v) 0 = some v
  | f + 1, v, h, _, h64 => by
    rw [decF]
    by_cases hv : v < 10
    · rw [if_pos hv]
      simp only [puGo, dval_dig hv]
      rw [if_neg (by omega), if_neg (by omega)]
      congr 1
      omega
    · rw [if_neg hv, puGo_append]
      have hf : 1 ≤ f := by
        rcases f with _ | f
        · simp at h; omega
        · omega
      rw [puGo_decF f (v / 10) (by rw [Nat.pow_succ] at h; omega) hf (by omega)]
      simp only [puGo, dval_dig (Nat.mod_lt v (by decide : 10 > 0))]
      rw [if_neg (by omega), if_neg (by omega)]
      congr 1
      omega
theorem decF_head : ∀ (f v : Nat), v < 10 ^ f → (decF f v).head? = some 48 → v = 0 ∧ (decF f v).length ≤ 1
  | 0, v, _, h => by simp [decF] at h
  | f + 1, v, hv, h => by
    rw [decF] at h ⊢
    by_cases h10 : v < 10
    · rw [if_pos h10] at h ⊢
      simp only [List.head?_cons, Option.some.injEq] at h
      have := congrArg UInt8.toNat h
      rw [UInt8.toNat_ofNat_of_lt' (show 48 + v < 256 by omega)] at this
      simp at this
      exact ⟨by omega, by simp⟩
    · rw [if_neg h10] at h
      exfalso
      rcases f with _ | f
      · simp at hv; omega
      · have hp : v / 10 < 10 ^ (f + 1) := by rw [Nat.pow_succ] at hv; omega
        have hne : decF (f + 1) (v / 10) ≠ [] := by
          rw [decF]
          split <;> simp
        have h' : (decF (f + 1) (v / 10)).head? = some 48 := by
          obtain ⟨a, l, hal⟩ := List.exists_cons_of_ne_nil hne
          rw [hal] at h ⊢
          exact h
        have := (decF_head (f + 1) (v / 10) hp h').1
        omega
theorem num_dec {v : Nat} (h : v < 18446744073709551616) : numP (dec v) = some v := by
  have h1 := dec_pos v
  have h2 := dec_len v
  have h3 := decF_head 20 v (Nat.lt_trans h (by decide))
  unfold numP
  rw [if_neg]
  · exact puGo_decF 20 v (Nat.lt_trans h (by decide)) (by decide) h
  · rintro (e | e | ⟨e1, e2⟩)
    · rw [e] at h1; simp at h1
    · omega
    · have := (h3 e1).2
      unfold dec at e2
      omega
end Go.Ev.S
namespace Go.Ev.S
open Go Go.Proofs Go.Ev
theorem decF_dig : ∀ (f v : Nat), ∀ x ∈ decF f v, 48 ≤ x.toNat ∧ x.toNat ≤ 57
  | 0, _, x, h => by simp [decF] at h
  | f + 1, v, x, h => by
    rw [decF] at h
    split at h
    · rename_i hv
      rw [List.mem_singleton.1 h, UInt8.toNat_ofNat_of_lt' (show 48 + v < 256 by omega)]
      omega
    · rcases List.mem_append.1 h with h | h
      · exact decF_dig f _ x h
      · rw [List.mem_singleton.1 h, UInt8.toNat_ofNat_of_lt' (show 48 + v % 10 < 256 by omega)]
        omega
theorem dec_dig (v : Nat) : ∀ x ∈ dec v, 48 ≤ x.toNat ∧ x.toNat ≤ 57 := decF_dig 20 v
theorem hexc_ge : ∀ k, k < 16 → 48 ≤ (hexc k).toNat := by decide
theorem hexs_ge : ∀ (l : List UInt8), ∀ x ∈ hexs l, 48 ≤ x.toNat
  | [], x, h => by simp [hexs] at h
  | b :: l, x, h => by
    rw [hexs] at h
    have hb := b.toNat_lt
    rcases List.mem_cons.1 h with rfl | h
    · exact hexc_ge _ (by omega)
    · rcases List.mem_cons.1 h with rfl | h
      · exact hexc_ge _ (by omega)
      · exact hexs_ge l x h
theorem hexF_ge : ∀ (f v : Nat), ∀ x ∈ hexF f v, 48 ≤ x.toNat
  | 0, _, x, h => by simp [hexF] at h
  | f + 1, v, x, h => by
    rw [hexF] at h
    split at h
    · rename_i hv
      rw [List.mem_singleton.1 h]
      exact hexc_ge _ hv
    · rcases List.mem_append.1 h with h | h
      · exact hexF_ge f _ x h
      · rw [List.mem_singleton.1 h]
        exact hexc_ge _ (Nat.mod_lt _ (by decide))
theorem showL_ge (c : Cur) : ∀ x ∈ showL c, 48 ≤ x.toNat := by
  intro x h
  unfold showL at h
  simp only [List.mem_append] at h
  have k : ∀ l : List UInt8, (∀ y ∈ l, 48 ≤ y.toNat) → x ∈ l → 48 ≤ x.toNat := fun l hl hx => hl x hx
  rcases h with h | h | h | h | h | h | h | h | h | h | h | h
  · exact k kS (by decide) h
  · exact hexs_ge _ x h
  · exact k kI (by decide) h
  · exact hexF_ge 16 _ x h
  · exact k kB (by decide) h
  · exact hexs_ge _ x h
  · exact k kM (by decide) h
  · exact hexF_ge 16 _ x h
  · exact k kT (by decide) h
  · exact hexF_ge 16 _ x h
  · exact k kX (by decide) h
  · exact hexF_ge 16 _ x h
theorem ne_of_ge {x c : UInt8} (h : c.toNat < x.toNat) : x ≠ c := by rintro rfl; omega
theorem no10 {l : List UInt8} (h : ∀ x ∈ l, 48 ≤ x.toNat) : ∀ x ∈ l, x ≠ 10 := fun x hx => ne_of_ge (by have := h x hx; show 10 < x.toNat; omega)
theorem no10_app {a b : List UInt8} (ha : ∀ x ∈ a, x ≠ 10) (hb : ∀ x ∈ b, x ≠ 10) : ∀ x ∈ a ++ b, x ≠ 10 := fun x hx => (List.mem_append.1 hx).elim (ha x) (hb x)
theorem cut_app (c : UInt8) {A : List UInt8} (h : ∀ x ∈ A, x ≠ c) (B : List UInt8) : cutL [c] (A ++ c :: B) = (A, B, true) := by
  have h1 := idx_at c A B 0 h
  rw [Nat.zero_add] at h1
  unfold cutL
  rw [h1, if_neg (by omega)]
  have e : ((A.length : Nat) : Int).toNat = A.length := by omega
  rw [e]
  simp [List.drop_append]
theorem lnL_app {A : List UInt8} (h : ∀ x ∈ A, x ≠ 10) (B : List UInt8) : lnL (A ++ 10 :: B) = A := by unfold lnL; rw [cut_app 10 h]
theorem lnR_app {A : List UInt8} (h : ∀ x ∈ A, x ≠ 10) (B : List UInt8) : lnR (A ++ 10 :: B) = B := by unfold lnR; rw [cut_app 10 h]
theorem pre_self (p x : List UInt8) : pre p (p ++ x) = true := by unfold pre; simp
theorem trim_self (p x : List UInt8) : trimL p (p ++ x) = x := by unfold trimL; rw [if_pos (pre_self p x)]; simp
theorem pu_dec {v : Nat} (h : v < 18446744073709551616) : pu 10 (dec v) = some v := by
  have hn := num_dec h
  have hp := dec_pos v
  unfold numP at hn
  split at hn
  · cases hn
  · unfold pu
    rw [if_neg (by intro e; rw [e] at hp; simp at hp)]
    exact hn
theorem drop_line (A B : List UInt8) : (A ++ 10 :: B).drop (A.length + 1) = B := by
  rw [List.drop_append]
  simp
theorem nameOk_no {n : List UInt8} (h : nameOk n = true) : n ≠ [] ∧ n.length ≤ 64 ∧ ∀ x ∈ n, 48 ≤ x.toNat ∧ x ≠ 61 := by
  unfold nameOk at h
  split at h
  · cases h
  · rename_i c l
    simp only [Bool.and_eq_true, decide_eq_true_eq, List.all_eq_true] at h
    refine ⟨by simp, h.1.1, fun x hx => ?_⟩
    have := h.2 x hx
    unfold nameC at this
    simp only [Bool.or_eq_true, Bool.and_eq_true, decide_eq_true_eq] at this
    refine ⟨by omega, ?_⟩
    rintro rfl
    have e : (61 : UInt8).toNat = 61 := rfl
    rw [e] at this
    omega
theorem plainV_no {v : List UInt8} (h : plainV v = true) : ∀ x ∈ v, x ≠ 10 := by
  intro x hx
  unfold plainV at h
  have := List.all_eq_true.1 h x hx
  unfold plainC at this
  rintro rfl
  revert this
  decide
theorem prOk_is {p : Pr} (h : prOk p = true) : nameOk p.name = true ∧ p.value.length ≤ 256 := by
  unfold prOk at h
  simp only [Bool.and_eq_true, decide_eq_true_eq] at h
  exact h
theorem anyI_at : ∀ (A B : List UInt8) (c : UInt8) (n : Nat), (∀ x ∈ A, x ≠ 61 ∧ x ≠ 10) → c = 61 ∨ c = 10 → anyI (A ++ c :: B) n = ((n + A.length : Nat) : Int)
  | [], B, c, n, _, hc => by simp [anyI, hc]
  | x :: A, B, c, n, h, hc => by
    have hx := h x (by simp)
    rw [List.cons_append, anyI, if_neg (by rintro (e | e); exact hx.1 e; exact hx.2 e), anyI_at A B c (n + 1) (fun y hy => h y (by simp [hy])) hc]
    simp
    omega
theorem leB_get (v : Nat) (hv : v < 18446744073709551616) (R : List UInt8) : leGet (leB 8 v ++ R) 0 8 = some v := by
  have hl := leB_len 8 v
  unfold leGet
  rw [if_pos ⟨by decide, by decide, by simp [hl]; omega⟩]
  have e : ((leB 8 v ++ R).drop (0 : Int).toNat).take (8 : Int).toNat = leB 8 v := by
    show ((leB 8 v ++ R).drop 0).take 8 = _
    rw [List.drop_zero, List.take_left' hl]
  rw [e, leN_leB, Nat.mod_eq_of_lt (by simpa using hv)]
theorem pairP_text {p : Pr} (h : prOk p = true) (R : List UInt8) : pairP (pairL p ++ R) = some (p, R) := by
  obtain ⟨hn, hv⟩ := prOk_is h
  obtain ⟨n0, n1, n2⟩ := nameOk_no hn
  have hne : ∀ x ∈ p.name, x ≠ 61 ∧ x ≠ 10 := fun x hx => ⟨(n2 x hx).2, ne_of_ge (by have := (n2 x hx).1; show 10 < x.toNat; omega)⟩
  have hpos : 1 ≤ p.name.length := by
    cases hc : p.name with
    | nil => exact absurd hc n0
    | cons => simp
  have gen : ∀ (c : UInt8) (T : List UInt8), c = 61 ∨ c = 10 → pairP (p.name ++ c :: T) = if c = 61 then some (⟨p.name, lnL T⟩, lnR T) else match leGet T 0 8 with
      | none => none
      | some n => if 256 < n ∨ T.length < 9 + n then none else some (⟨p.name, (T.drop 8).take n⟩, T.drop (9 + n)) := by
    intro c T hc
    have ha := anyI_at p.name T c 0 hne hc
    rw [Nat.zero_add] at ha
    have e : ((p.name.length : Nat) : Int).toNat = p.name.length := by omega
    have d1 : (p.name ++ c :: T).drop (p.name.length + 1) = T := by rw [List.drop_append]; simp
    have d2 : (p.name ++ c :: T).getD p.name.length 0 = c := by simp [List.getD]
    have d3 : (p.name ++ c :: T).take p.name.length = p.name := by simp
    unfold pairP
    rw [ha, if_neg (by omega), e, d1, d2, d3]
    all_goals (cases leGet T 0 8 <;> rfl)
  unfold pairL
  cases hp : plainV p.value with
  | true =>
    have e : (if true = true then ((p.name ++ [61]) ++ p.value) ++ [10] else (((p.name ++ [10]) ++ leB 8 p.value.length) ++ p.value) ++ [10]) ++ R = p.name ++ 61 :: (p.value ++ 10 :: R) := by simp
    rw [e, gen 61 _ (.inl rfl), if_pos rfl, lnL_app (plainV_no hp), lnR_app (plainV_no hp)]
  | false =>
    have e : (if false = true then ((p.name ++ [61]) ++ p.value) ++ [10] else (((p.name ++ [10]) ++ leB 8 p.value.length) ++ p.value) ++ [10]) ++ R = p.name ++ 10 :: (leB 8 p.value.length ++ (p.value ++ 10 :: R)) := by simp
    rw [e, gen 10 _ (.inr rfl), if_neg (by decide), leB_get _ (by omega)]
    have hl := leB_len 8 p.value.length
    have hno : ¬ (256 < p.value.length ∨ (leB 8 p.value.length ++ (p.value ++ 10 :: R)).length < 9 + p.value.length) := by
      rintro (h | h)
      · omega
      · simp [hl] at h
        omega
    simp only [hno, if_false]
    have d1 : (leB 8 p.value.length ++ (p.value ++ 10 :: R)).drop 8 = p.value ++ 10 :: R := List.drop_left' hl
    have d2 : (leB 8 p.value.length ++ (p.value ++ 10 :: R)).drop (9 + p.value.length) = R := by
      rw [show 9 + p.value.length = 8 + (p.value.length + 1) by omega, ← List.drop_drop, d1, drop_line]
    rw [d1, d2]
    simp
theorem pairP_end (R : List UInt8) : pairP (10 :: R) = none := by
  unfold pairP
  rw [if_pos (by simp [anyI])]
theorem fldP_text : ∀ (F : List Pr) (n : Nat) (R : List UInt8), F.length ≤ n → (∀ p ∈ F, prOk p = true) → fldP n (bodyL F ++ 10 :: R) = F
  | [], 0, R, _, _ => rfl
  | [], n + 1, R, _, _ => by
    rw [fldP]
    show (match pairP (10 :: R) with | none => [] | some (p, r) => p :: fldP n r) = []
    rw [pairP_end]
  | p :: F, 0, R, h, _ => by simp at h
  | p :: F, n + 1, R, h, hp => by
    have e : bodyL (p :: F) ++ 10 :: R = pairL p ++ (bodyL F ++ 10 :: R) := by simp [bodyL]
    rw [e, fldP, pairP_text (hp p (by simp))]
    show p :: fldP n (bodyL F ++ 10 :: R) = _
    rw [fldP_text F n R (by simpa using h) fun q hq => hp q (by simp [hq])]
end Go.Ev.S
namespace Go.Ev.S
open Go Go.Proofs Go.Ev
def normI (it : It) : It := if it.gap then ⟨it.id, true, it.fr, it.til, Rec.zero⟩ else it
theorem headL_cons (a : List UInt8) (L : List (List UInt8)) (R : List UInt8) : headL (a :: L) ++ R = a ++ 10 :: (headL L ++ R) := by simp [headL]
theorem headL_nil (R : List UInt8) : headL [] ++ R = R := by simp [headL]
theorem textR_eq (it : It) (more : List UInt8) : textR it ++ more = (kPlace ++ showL (cOfP it.id it.rc)) ++ 10 :: ((kReal ++ dec it.rc.real.toNat) ++ 10 :: ((kMono ++ dec it.rc.mono.toNat) ++ 10 :: ((kSeq ++ dec it.rc.seq.toNat) ++ 10 :: ((kId ++ hexs it.id.l) ++ 10 :: ((kBoot ++ hexs it.rc.boot.l) ++ 10 :: (bodyL it.rc.fields.l ++ 10 :: more)))))) := by
  unfold textR sixL
  rw [List.append_assoc, List.append_assoc, headL_cons, headL_cons, headL_cons, headL_cons, headL_cons, headL_cons, headL_nil]
  rfl
theorem textG_eq (it : It) (more : List UInt8) : textG it ++ more = (kGap ++ (dec it.fr.toNat ++ 45 :: dec it.til.toNat)) ++ 10 :: ((kId ++ hexs it.id.l) ++ 10 :: ([] ++ 10 :: more)) := by
  unfold textG
  simp
theorem k10 : (∀ x ∈ kPlace, x ≠ 10) ∧ (∀ x ∈ kReal, x ≠ 10) ∧ (∀ x ∈ kMono, x ≠ 10) ∧ (∀ x ∈ kSeq, x ≠ 10) ∧ (∀ x ∈ kId, x ≠ 10) ∧ (∀ x ∈ kBoot, x ≠ 10) ∧ ∀ x ∈ kGap, x ≠ 10 := by decide
theorem dec10 (v : Nat) : ∀ x ∈ dec v, x ≠ 10 := no10 fun x h => (dec_dig v x h).1
theorem dec45 (v : Nat) : ∀ x ∈ dec v, x ≠ 45 := fun x h => ne_of_ge (by have := (dec_dig v x h).1; show 45 < x.toNat; omega)
theorem gap10 (it : It) : ∀ x ∈ kGap ++ (dec it.fr.toNat ++ 45 :: dec it.til.toNat), x ≠ 10 := by
  refine no10_app k10.2.2.2.2.2.2 (no10_app (dec10 _) fun x h => ?_)
  rcases List.mem_cons.1 h with rfl | h
  · decide
  · exact dec10 _ x h
theorem id10 (i : ID) : ∀ x ∈ kId ++ hexs i.l, x ≠ 10 := no10_app k10.2.2.2.2.1 (no10 (hexs_ge _))
theorem boot10 (i : ID) : ∀ x ∈ kBoot ++ hexs i.l, x ≠ 10 := no10_app k10.2.2.2.2.2.1 (no10 (hexs_ge _))
theorem place10 (c : Cur) : ∀ x ∈ kPlace ++ showL c, x ≠ 10 := no10_app k10.1 (no10 (showL_ge _))
theorem gap_is {it : It} (hi : it.Ok) (ho : itOk it = true) (hg : it.gap = true) : it.fr.toNat < 18446744073709551616 ∧ it.til.toNat < 18446744073709551616 ∧ ((it.fr.toNat : Nat) : Int) = it.fr ∧ ((it.til.toNat : Nat) : Int) = it.til ∧ it.rc.seq = 0 ∧ it.rc.real = 0 ∧ it.rc.mono = 0 ∧ it.rc.boot = ID.zero ∧ it.rc.fields.l = [] ∧ gapOk it = true := by
  have h1 := hi.fr
  have h2 := hi.til
  unfold isU64 at h1 h2
  unfold itOk at ho
  rw [hg, if_pos rfl] at ho
  have ho' := ho
  unfold gapOk at ho
  simp only [Bool.and_eq_true, decide_eq_true_eq] at ho
  obtain ⟨⟨⟨⟨⟨⟨a1, a2⟩, a3⟩, a4⟩, a5⟩, a6⟩, a7⟩ := ho
  exact ⟨by omega, by omega, by omega, by omega, a3, a4, a5, a6, List.eq_nil_of_length_eq_zero a7, ho'⟩
theorem rec_is {it : It} (hi : it.Ok) (ho : itOk it = true) (hg : it.gap = false) : (it.rc.real.toNat < 18446744073709551616 ∧ it.rc.mono.toNat < 18446744073709551616 ∧ it.rc.seq.toNat < 18446744073709551616) ∧ (((it.rc.real.toNat : Nat) : Int) = it.rc.real ∧ ((it.rc.mono.toNat : Nat) : Int) = it.rc.mono ∧ ((it.rc.seq.toNat : Nat) : Int) = it.rc.seq) ∧ it.fr = 0 ∧ it.til = 0 ∧ 1 ≤ it.rc.fields.l.length ∧ it.rc.fields.l.length ≤ 16 ∧ (∀ p ∈ it.rc.fields.l, prOk p = true) ∧ recOk it = true := by
  have h1 := hi.rc.seq
  have h2 := hi.rc.real
  have h3 := hi.rc.mono
  unfold isU64 at h1 h2 h3
  unfold itOk at ho
  rw [hg, if_neg (by decide)] at ho
  have ho' := ho
  unfold recOk at ho
  simp only [Bool.and_eq_true, decide_eq_true_eq, List.all_eq_true] at ho
  obtain ⟨⟨⟨⟨⟨a1, a2⟩, a3⟩, a4⟩, a5⟩, a6⟩ := ho
  exact ⟨⟨by omega, by omega, by omega⟩, ⟨by omega, by omega, by omega⟩, a1, a2, a4, a5, a6, ho'⟩
theorem slP_eq (s : Sl Pr) (h : 1 ≤ s.l.length) : slP s.l = s := by
  obtain ⟨n, l, hn⟩ := s
  cases l with
  | nil => simp at h
  | cons a l =>
    cases n with
    | true => exact absurd (hn rfl) (by simp)
    | false => rfl
theorem gapP_text {it : It} (hi : it.Ok) (ho : itOk it = true) (hg : it.gap = true) (more : List UInt8) : gapP (textG it ++ more) = normI it := by
  obtain ⟨f1, t1, f2, t2, -⟩ := gap_is hi ho hg
  unfold gapP normI
  rw [textG_eq, lnL_app (gap10 it), lnR_app (gap10 it), trim_self, cut_app 45 (dec45 _), hg, if_pos rfl]
  simp only [pu_dec f1, pu_dec t1, Option.getD_some, f2, t2]
  unfold idI
  rw [lnL_app (id10 it.id), trim_self, idOf_hexs]
theorem entP_text {it : It} (hi : it.Ok) (ho : itOk it = true) (hg : it.gap = false) (more : List UInt8) : entP (textR it ++ more) = it := by
  obtain ⟨⟨r1, m1, s1⟩, ⟨r2, m2, s2⟩, a1, a2, a3, a4, a5, -⟩ := rec_is hi ho hg
  have l0 := place10 (cOfP it.id it.rc)
  have l1 := no10_app k10.2.1 (dec10 it.rc.real.toNat)
  have l2 := no10_app k10.2.2.1 (dec10 it.rc.mono.toNat)
  have l3 := no10_app k10.2.2.2.1 (dec10 it.rc.seq.toNat)
  have l4 := id10 it.id
  have l5 := boot10 it.rc.boot
  unfold entP
  rw [textR_eq, lnR_app l0, lnR_app l1, lnR_app l2, lnR_app l3, lnR_app l4, lnR_app l5, fldP_text _ 17 _ (by omega) a5]
  unfold nmI idI
  rw [lnL_app l1, lnL_app l2, lnL_app l3, lnL_app l4, lnL_app l5, trim_self, trim_self, trim_self, trim_self, trim_self, pu_dec r1, pu_dec m1, pu_dec s1, idOf_hexs, idOf_hexs, slP_eq _ a3]
  simp only [Option.getD_some, r2, m2, s2]
  obtain ⟨i, g, f, t, r⟩ := it
  simp only at hg a1 a2
  subst hg a1 a2
  rfl
theorem gap_pre (R : List UInt8) : pre kGap (kPlace ++ R) = false := rfl
theorem itemP_text {it : It} (hi : it.Ok) (ho : itOk it = true) (more : List UInt8) : itemP (textL it ++ more) = normI it := by
  unfold textL itemP
  cases hg : it.gap with
  | true =>
    rw [if_pos rfl, if_pos (by rw [textG_eq, List.append_assoc]; exact pre_self _ _), gapP_text hi ho hg]
  | false =>
    simp only [Bool.false_eq_true, if_false]
    rw [if_neg (by rw [textR_eq, List.append_assoc, gap_pre]; decide), entP_text hi ho hg]
    unfold normI
    rw [hg, if_neg (by decide)]
theorem normI_text (it : It) : textL (normI it) = textL it := by
  unfold normI
  cases hg : it.gap with
  | true =>
    rw [if_pos rfl]
    unfold textL
    rw [hg, if_pos rfl, if_pos rfl]
    rfl
  | false => rw [if_neg (by decide)]
theorem normI_okB {it : It} (hi : it.Ok) (ho : itOk it = true) : itOk (normI it) = true := by
  unfold normI
  cases hg : it.gap with
  | true =>
    obtain ⟨-, -, -, -, -, -, -, -, -, h⟩ := gap_is hi ho hg
    rw [if_pos rfl]
    unfold itOk
    rw [if_pos rfl]
    unfold gapOk at h ⊢
    simp only [Bool.and_eq_true, decide_eq_true_eq] at h ⊢
    exact ⟨⟨⟨⟨⟨⟨h.1.1.1.1.1.1, h.1.1.1.1.1.2⟩, rfl⟩, rfl⟩, rfl⟩, rfl⟩, rfl⟩
  | false => rw [if_neg (by decide)]; exact ho
theorem textL_len {it : It} (hi : it.Ok) (ho : itOk it = true) : (textL it).length ≤ 10000 ∧ 1 ≤ (textL it).length := by
  unfold textL
  cases hg : it.gap with
  | true =>
    rw [if_pos rfl]
    have l1 := dec_len it.fr.toNat
    have l2 := dec_len it.til.toNat
    have l3 := hexs_len it.id.l
    rw [it.id.h] at l3
    unfold textG kGap kId
    simp
    omega
  | false =>
    rw [if_neg (by decide)]
    obtain ⟨-, -, -, -, -, -, -, h⟩ := rec_is hi ho hg
    obtain ⟨b1, -, b3⟩ := prOk_b h
    have h1 := headL_le (sixL it) (sixL_le it hi)
    have h2 := bodyL_le it.rc.fields.l 400 b3
    have h3 : (sixL it).length = 6 := rfl
    rw [h3] at h1
    unfold textR
    simp only [List.length_append, List.length_cons, List.length_nil]
    have h4 : it.rc.fields.l.length * 400 ≤ 16 * 400 := Nat.mul_le_mul_right _ b1
    omega
end Go.Ev.S
namespace Go.Ev.S
open Go Go.Proofs Go.Ev
end Go.Ev.S
namespace Go.Ev.S
open Go Go.Proofs Go.Ev
end Go.Ev.S
namespace Go.Ev.S
open Go Go.Proofs Go.Ev
theorem readD_text {it : It} (hi : it.Ok) (ho : itOk it = true) (more : List UInt8) : readD (textL it ++ more) = .tup [.agg (Enc.cells (normI it)), .int .i64 (textL it).length, .int .i64 0] := by
  unfold readD readOk
  rw [itemP_text hi ho, normI_okB hi ho, normI_text, pre_self, Bool.and_self, if_pos rfl]
def firstI : It := ⟨ID.zero, true, 1, 2, Rec.zero⟩
theorem firstI_ok : firstI.Ok := ⟨by unfold isU64 firstI; decide, by unfold isU64 firstI; decide, Rec.zero_ok⟩
theorem first_text : textL firstI = [95, 95, 71, 65, 80, 61, 49, 45, 50, 10, 95, 95, 83, 69, 81, 78, 85, 77, 95, 73, 68, 61, 48, 48, 48, 48, 48, 48, 48, 48, 48, 48, 48, 48, 48, 48, 48, 48, 48, 48, 48, 48, 48, 48, 48, 48, 48, 48, 48, 48, 48, 48, 48, 48, 10, 10] := by decide
theorem first_ok : itOk firstI = true := by decide
set_option maxHeartbeats 1000000 in
set_option maxRecDepth 8000 in
theorem first_ev [MaxL] : call cx 11 [] [] = some (.bool true, []) := by
  have hr := read_ev (.of (textL firstI ++ [109, 111, 114, 101])) (by rw [Sl.of_l, first_text]; decide) fun h => by
    have := textL_len (itemP_ok (textL firstI ++ [109, 111, 114, 101])) h
    simp only [Sl.of_l]
    omega
  rw [Sl.of_l, readD_text firstI_ok first_ok] at hr
  have ht := text_ev firstI firstI_ok (fun p hp => (by cases hp)) (by decide)
  unfold textD at ht
  rw [first_ok, if_pos rfl] at ht
  rw [first_text] at ht hr
  have hc : Enc.cells firstI = ofBytes ID.zero.l ++ [.bool true, .int .u64 1, .int .u64 2, .int .u64 0, .int .u64 0, .int .u64 0] ++ (ofBytes ID.zero.l ++ [.vsl true [] 0]) := rfl
  have z16 : List.replicate 16 (D.int .u8 0) = ofBytes ID.zero.l := rfl
  refine call_run Tryz.func11 rfl ⟨rfl, rfl⟩ ?_
  have hN : normI firstI = firstI := rfl
  rw [hN, hc] at hr
  rw [hc] at ht
  have zz : ofBytes ID.zero.l = [.int .u8 0, .int .u8 0, .int .u8 0, .int .u8 0, .int .u8 0, .int .u8 0, .int .u8 0, .int .u8 0, .int .u8 0, .int .u8 0, .int .u8 0, .int .u8 0, .int .u8 0, .int .u8 0, .int .u8 0, .int .u8 0] := rfl
  rw [zz] at hr ht
  simp only [Sl.of_nil, List.cons_append, List.nil_append, List.length_cons, List.length_nil, Nat.zero_add, Nat.reduceAdd] at hr ht
  simp [Tryz.f11, hr, ht]
end Go.Ev.S
namespace Go.Ev.S
open Go Go.Proofs Go.Ev
end Go.Ev.S
namespace Go.Ev.S
open Go Go.Proofs Go.Ev
end Go.Ev.S
namespace Go.Ev.S
open Go Go.Proofs Go.Ev
theorem compare_ev [MaxL] [TxtC] (x y : Sl UInt8) : call cx 103 [(.vsl x.nil (ofBytes x.l) x.l.length), (.vsl y.nil (ofBytes y.l) y.l.length)] [] = some (.int .i64 (cmpB x.l y.l), []) := by
  have h : call cx 125 [(.vsl x.nil (ofBytes x.l) x.l.length), (.vsl y.nil (ofBytes y.l) y.l.length)] [] = some (.int .i64 (cmpB x.l y.l), []) := by
    rw [call_ext (X := cx) (f := 125) rfl Tryz.func125 rfl, ex125, cmpExt_bytes x.nil y.nil x.l y.l x.h y.h]
    rfl
  refine call_run Tryz.func103 rfl ⟨rfl, rfl⟩ ?_
  simp [Tryz.f103, h]
theorem compare_id [MaxL] [TxtC] (x y : ID) : call cx 103 [.vsl false (ofBytes x.l) 16, .vsl false (ofBytes y.l) 16] [] = some (.int .i64 (cmpB x.l y.l), []) := by
  have h := compare_ev (.of x.l) (.of y.l)
  simpa using h
def risesM : List Mk → Bool
  | a :: b :: l => decide (cmpB a.id.l b.id.l < 0) && risesM (b :: l)
  | _ => true
def rightM (l : List Mk) : Bool := decide (l.length ≤ 4) && risesM l

theorem right_ev [MaxL] [TxtC] (s : Sl Mk) (hn : s.l.length < 4611686018427387904) :
    call cx 63 [(.vsl s.nil (encs s.l) s.l.length)] [] = some (.bool (rightM s.l), []) := by
  refine call_run Tryz.func63 rfl ⟨rfl, rfl⟩ ?_
  by_cases h4 : s.l.length ≤ 4
  · have h4' : ¬ (4 : Int) < (s.l.length : Int) := by omega
    simp [Tryz.f63, h4', rightM, h4]
    refine Run.loopThen (fun (i : Nat) e H => 1 ≤ i ∧ (i ≤ s.l.length ∨ i = 1) ∧ H = [] ∧ look e 0 = some (.vsl s.nil (encs s.l) s.l.length) ∧ look e 3 = some (.int .i64 i) ∧ risesM s.l = risesM (s.l.drop (i - 1))) (fun i => s.l.length - i) 1 (by simp) ?_
    rintro i e H ⟨hi, hil, rfl, h0, h3, hr⟩
    by_cases hlt : i < s.l.length
    · obtain ⟨k, hk⟩ : ∃ k, k + 1 = i := ⟨i - 1, by omega⟩
      have hlt' : (i : Int) < (s.l.length : Int) := by omega
      have hkl : k < s.l.length := by omega
      have hkl' : (k : Int) < (s.l.length : Int) := by omega
      have hw : IntKind.i64.wrap ((i : Int) - 1) = (k : Int) := by rw [wrap_i64] <;> omega
      have hw2 : IntKind.i64.wrap ((i : Int) + 1) = ((i + 1 : Nat) : Int) := by rw [wrap_i64] <;> omega
      have hc := compare_id s.l[k].id s.l[i].id
      have hr2 : risesM s.l = (decide (cmpB s.l[k].id.l s.l[i].id.l < 0) && risesM (s.l.drop i)) := by
        have e1 : i - 1 = k := by omega
        have e2 : s.l.drop k = s.l[k] :: s.l[i] :: s.l.drop (i + 1) := by
          rw [List.drop_eq_getElem_cons hkl]
          congr 1
          rw [hk, List.drop_eq_getElem_cons hlt]
        rw [hr, e1, e2, risesM, List.drop_eq_getElem_cons hlt]
      have h16 : ∀ k, (16 ≤ 19 + k) = True := fun k => eq_true (by omega)
      have ht : ∀ (m : Mk) (r : List D), (Enc.cells m ++ r).take 16 = ofBytes m.id.l := fun m r => by simp [Mk.cells]
      by_cases hcm : cmpB s.l[k].id.l s.l[i].id.l < 0
      · have hcm' : ¬ 0 ≤ cmpB s.l[k].id.l s.l[i].id.l := by omega
        rw [decide_eq_true hcm, Bool.true_and] at hr2
        simp [h0, h3, hlt', hw, hkl', Sl.nn hlt, h16, hlt, hkl, ht, hc, hcm', hw2]
        exact ⟨i + 1, by omega, by omega, .inl (by omega), rfl, by simpa using hr2⟩
      · have hcm' : 0 ≤ cmpB s.l[k].id.l s.l[i].id.l := by omega
        rw [decide_eq_false hcm, Bool.false_and] at hr2
        simp [h0, h3, hlt', hw, hkl', Sl.nn hlt, h16, hlt, hkl, ht, hc, hcm', hr2]
    · have hlt' : ¬ (i : Int) < (s.l.length : Int) := by omega
      have hr2 : risesM s.l = true := by
        rw [hr]
        have : (s.l.drop (i - 1)).length ≤ 1 := by rw [List.length_drop]; omega
        match s.l.drop (i - 1), this with
        | [], _ => rfl
        | [a], _ => rfl
      simp [h0, h3, hlt', hr2]
  · have h4' : (4 : Int) < (s.l.length : Int) := by omega
    simp [Tryz.f63, h4', rightM, h4]
theorem rightM_le {l : List Mk} (h : rightM l = true) : l.length ≤ 4 := by
  rw [rightM, Bool.and_eq_true] at h
  exact of_decide_eq_true h.1
end Go.Ev.S
namespace Go.Ev.S
open Go Go.Proofs Go.Ev
def mkB (m : Mk) : List UInt8 := m.id.l ++ (leB 8 m.seq.toNat ++ (leB 8 m.lost.toNat ++ leB 8 m.over.toNat))
def mksB (l : List Mk) : List UInt8 := UInt8.ofNat l.length :: l.flatMap mkB
theorem mkB_len (m : Mk) : (mkB m).length = 40 := by simp [mkB]
theorem mkBs_len (l : List Mk) : (l.flatMap mkB).length = l.length * 40 := by
  induction l with
  | nil => rfl
  | cons a l ih => rw [List.flatMap_cons, List.length_append, ih, mkB_len, List.length_cons]; omega
theorem leadd8 [MaxL] [TxtC] (l : List UInt8) (v : Nat) (hn : l.length ≤ 140737488355000) :
    call cx 64 [.vsl false (ofBytes l) l.length, .int .i64 8, .int .u64 v] [] = some (.osl 0 (l.length + 8) 0 (l.length + 8) 1, [some (ofBytes (l ++ leB 8 v))]) := by
  obtain ⟨d, H, hb, hc⟩ := leadd_ev (.of l) 8 v (by simpa using hn)
  have e : leAdd l 8 v = l ++ leB 8 v := by simp [leAdd, szOk]
  simp only [Sl.of_l, Sl.of_nil] at hb hc
  rw [e] at hb
  rcases hb with ⟨rfl, h, rfl⟩ | ⟨rfl, rfl⟩
  · have := congrArg List.length h
    simp at this
  · rw [hc]
    simp
def bytesS (l : List Mk) : Sl UInt8 := if rightM l then .of (mksB l) else .none
def BytesC (l : List Mk) (i : Nat) (X : List UInt8) : Prop := X = UInt8.ofNat l.length :: (l.take i).flatMap mkB
set_option maxRecDepth 4000 in
set_option maxHeartbeats 2000000 in
theorem bytes_ev [MaxL] [TxtC] (s : Sl Mk) (hn : s.l.length < 4611686018427387904) (hok : ∀ m ∈ s.l, m.Ok) :
    call cx 65 [(.vsl s.nil (encs s.l) s.l.length)] [] = some ((.vsl (bytesS s.l).nil (ofBytes (bytesS s.l).l) (bytesS s.l).l.length), []) := by
  have hr := right_ev s hn
  refine call_run Tryz.func65 rfl ⟨rfl, rfl⟩ ?_
  cases h : rightM s.l with
  | false =>
    rw [h] at hr
    simp [Tryz.f65, hr, bytesS, h, ofBytes]
  | true =>
    rw [h] at hr
    have hl := rightM_le h
    have hw8 : IntKind.u8.wrap (s.l.length : Int) = (s.l.length : Int) := by rw [wrap_u8]; omega
    simp [Tryz.f65, hr, bytesS, h, hw8]
    refine Run.loopThen (fun (i : Nat) e H => i ≤ s.l.length ∧ ∃ X : List UInt8, BytesC s.l i X ∧ H = [some (ofBytes X)] ∧ look e 3 = some (.osl 0 X.length 0 X.length 1) ∧ look e 15 = some (.vsl s.nil (encs s.l) s.l.length) ∧ look e 16 = some (.int .i64 s.l.length) ∧ look e 17 = some (.int .i64 i)) (fun i => s.l.length - i) 0 ?_ ?_
    · refine ⟨by omega, [UInt8.ofNat s.l.length], by simp [BytesC], ?_⟩
      simp [ofBytes]
      omega
    rintro i e H ⟨hi, X, hX, rfl, h3, h15, h16, h17⟩
    by_cases hlt : i < s.l.length
    · have hlt' : (i : Int) < (s.l.length : Int) := by omega
      have hw : IntKind.i64.wrap ((i : Int) + 1) = ((i + 1 : Nat) : Int) := by rw [wrap_i64] <;> omega
      have hl40 := mkBs_len (s.l.take i)
      rw [List.length_take, Nat.min_eq_left hi] at hl40
      have hsn : BytesC s.l (i + 1) (X ++ mkB s.l[i]) := by
        unfold BytesC at *
        rw [hX, List.take_succ_eq_append_getElem hlt, List.flatMap_append]; simp
      have hXl : X.length ≤ 200 := by rw [hX, List.length_cons, hl40]; omega
      clear hX hl40
      have hm := hok _ (List.getElem_mem hlt)
      obtain ⟨⟨m0, m1, m2, m3⟩, hme⟩ : ∃ m, s.l[i] = m := ⟨_, rfl⟩
      rw [hme] at hsn hm
      obtain ⟨a1, rfl⟩ : ∃ k : Nat, m1 = k := ⟨m1.toNat, by have := hm.seq; simp [isU64] at this; omega⟩
      obtain ⟨a2, rfl⟩ : ∃ k : Nat, m2 = k := ⟨m2.toNat, by have := hm.lost; simp [isU64] at this; omega⟩
      obtain ⟨a3, rfl⟩ : ∃ k : Nat, m3 = k := ⟨m3.toNat, by have := hm.over; simp [isU64] at this; omega⟩
      have hb : X.length + 16 ≤ 140737488355328 := by omega
      simp [h3, h15, h16, h17, hlt', hlt, Sl.nn hlt, hme, maxBytes, hb]
      clear h3 h15 h16 h17 e
      have d1 := leadd8 (X ++ m0.l) a1 (by simp; omega)
      have d2 := leadd8 (X ++ m0.l ++ leB 8 a1) a2 (by simp; omega)
      have d3 := leadd8 (X ++ m0.l ++ leB 8 a1 ++ leB 8 a2) a3 (by simp; omega)
      simp [ofBytes_append, Nat.add_assoc] at d1 d2 d3
      iterate 4
        refine run_unroll ?_
        simp [d1, d2, d3, hw, List.take_of_length_le]
      exact ⟨i + 1, by omega, by omega, _, hsn, by simp [mkB, ofBytes_append], by simp [mkB], rfl⟩
    · have hlt' : ¬ (i : Int) < (s.l.length : Int) := by omega
      have hit : s.l.take i = s.l := List.take_of_length_le (by omega)
      have hXe : X = mksB s.l := by rw [hX, hit]; rfl
      simp [h3, h15, h16, h17, hlt', hXe]
end Go.Ev.S
namespace Go.Ev
open Go Go.Proofs
theorem of32 (s : BitVec 32) : BitVec.ofInt IntKind.u32.bits (s.toNat : Int) = s := by
  show BitVec.ofInt 32 (s.toNat : Int) = s
  rw [BitVec.ofInt_natCast, BitVec.ofNat_toNat]
  simp
theorem wrap32 (s : BitVec 32) : IntKind.u32.wrap (s.toNat : Int) = (s.toNat : Int) := by
  have := s.isLt
  rw [wrap_u32]
  omega
theorem xor32 (s t : BitVec 32) : xorI .u32 (s.toNat : Int) (t.toNat : Int) = ((s ^^^ t).toNat : Int) := by
  unfold xorI
  rw [of32, of32]
  exact wrap32 _
theorem and32 (s t : BitVec 32) : andI .u32 (s.toNat : Int) (t.toNat : Int) = ((s &&& t).toNat : Int) := by
  unfold andI
  rw [of32, of32]
  exact wrap32 _
theorem bit32 (s : BitVec 32) : andI .u32 (s.toNat : Int) 1 = ((s.toNat % 2 : Nat) : Int) := by
  have h := and32 s 1#32
  have e : ((1#32).toNat : Int) = 1 := rfl
  rw [e] at h
  rw [h]
  congr 1
  rw [BitVec.toNat_and]
  exact Nat.and_one_is_mod _
theorem half32 (s : BitVec 32) : (s.toNat : Int).fdiv 2 = ((s >>> 1).toNat : Int) := by
  rw [BitVec.toNat_ushiftRight, Nat.shiftRight_eq_div_pow, Int.fdiv_eq_ediv_of_nonneg _ (by decide)]
  omega
theorem poly32 (s : BitVec 32) : xorI .u32 (s.toNat : Int) 2197175160 = ((s ^^^ 2197175160#32).toNat : Int) := xor32 s 2197175160#32
theorem byte32 (s : BitVec 32) (c : UInt8) : xorI .u32 (s.toNat : Int) (c.toNat : Int) = ((s ^^^ BitVec.ofNat 32 c.toNat).toNat : Int) := by
  have h := xor32 s (BitVec.ofNat 32 c.toNat)
  have hc := c.toNat_lt
  have e : (BitVec.ofNat 32 c.toNat).toNat = c.toNat := by
    rw [BitVec.toNat_ofNat]
    exact Nat.mod_eq_of_lt (by omega)
  rw [e] at h
  exact h
def crcBit (s : BitVec 32) : BitVec 32 := if s.toNat % 2 = 1 then (s >>> 1) ^^^ 2197175160#32 else s >>> 1
def crcN : Nat → BitVec 32 → BitVec 32
  | 0, s => s
  | n + 1, s => crcN n (crcBit s)
def crcByte (s : BitVec 32) (c : UInt8) : BitVec 32 := crcN 8 (s ^^^ BitVec.ofNat 32 c.toNat)
def crcGo (s : BitVec 32) (l : List UInt8) : BitVec 32 := l.foldl crcByte s
def crcM (s : BitVec 32) (l : List UInt8) : BitVec 32 := ~~~ crcGo (~~~ s) l
theorem not32 (s : BitVec 32) : IntKind.u32.wrap ((BitVec.ofInt IntKind.u32.bits 4294967295 ^^^ BitVec.ofInt IntKind.u32.bits (s.toNat : Int)).toNat : Int) = ((~~~ s).toNat : Int) := by
  rw [of32]
  have e : (BitVec.ofInt 32 4294967295 ^^^ s) = ~~~ s := by
    rw [show BitVec.ofInt 32 4294967295 = BitVec.allOnes 32 from by decide, BitVec.allOnes_xor]
  have h := wrap32 (~~~ s)
  rw [← e] at h ⊢
  exact h
end Go.Ev
namespace Go.Ev.S
open Go Go.Proofs Go.Ev
theorem mnumber_ev [MaxL] [TxtC] (n b : Int) : call cx 18 [.int .i64 n, .int .i64 b] [] = some (.int .i64 (if b < 1 then 0 else (IntKind.i64.wrap (n.tmod b + b)).tmod b), []) := by
  refine call_run Tryz.func18 rfl ⟨rfl, rfl⟩ ?_
  by_cases h1 : b < 1
  · simp [Tryz.f18, h1]
  · have h2 : b ≠ 0 := by omega
    simp [Tryz.f18, h1, h2]
theorem num_ev [MaxL] [TxtC] (n : Int) (b : Nat) (hb : 1 ≤ b) (hb2 : b ≤ 1000000) : ∃ x : Nat, x < b ∧ call cx 18 [.int .i64 n, .int .i64 b] [] = some (.int .i64 x, []) := by
  have h1 : n.tmod b < b := Int.tmod_lt_of_pos _ (by omega)
  have h2 : -(b : Int) < n.tmod b := by
    have := Int.tmod_lt_of_pos (-n) (show (0 : Int) < b by omega)
    rw [Int.neg_tmod] at this
    omega
  have h := mnumber_ev n b
  rw [if_neg (by omega)] at h
  generalize n.tmod b = x at *
  have hw : IntKind.i64.wrap (x + b) = x + b := by rw [wrap_i64]; omega
  rw [hw] at h
  have h3 : 0 ≤ x + b := by omega
  have h4 := Int.tmod_nonneg (b : Int) h3
  have h5 := Int.tmod_lt_of_pos (x + b) (show (0 : Int) < b by omega)
  refine ⟨((x + b).tmod b).toNat, by omega, ?_⟩
  rw [h]
  congr 3
  omega
end Go.Ev.S
namespace Go.Ev.S
open Go Go.Proofs Go.Ev
def seqD (nil : Bool) (zs : List Int) (k : Nat) : List D := [.vsl nil (intsK .i64 zs) zs.length, .int .i64 k]
theorem intsK_at {k : IntKind} {l : List Int} {i : Nat} (h : i < l.length) : (intsK k l).drop i = .int k l[i] :: intsK k (l.drop (i + 1)) := by
  unfold intsK
  rw [← List.map_drop, List.drop_eq_getElem_cons h]
  rfl
@[simp] theorem intsK_len (k : IntKind) (l : List Int) : (intsK k l).length = l.length := by simp [intsK]
theorem seqD_free (nil : Bool) (zs : List Int) (k : Nat) : (∀ x, x ∈ seqD nil zs k → idFree x = true) = True := eq_true (by
  unfold seqD
  simp)
theorem seqD_len (nil : Bool) (zs : List Int) (k : Nat) : (seqD nil zs k).length = 2 := rfl
theorem seqD_cl (nil : Bool) (zs : List Int) (k n : Nat) : (∀ x, x ∈ seqD nil zs k → closed n x = true) = True := eq_true (by
  unfold seqD
  simp)
theorem more_ev [MaxL] [TxtC] (nil : Bool) (zs : List Int) (k : Nat) : call cx 38 [.optr 0 2 0] [some (seqD nil zs k)] = some (.bool (decide (k < zs.length)), [some (seqD nil zs k)]) := by
  refine call_run Tryz.func38 rfl ⟨rfl, rfl⟩ ?_
  unfold seqD
  by_cases h : k < zs.length
  · have h' : (k : Int) < (zs.length : Int) := by omega
    simp [Tryz.f38, h, h']
  · have h' : ¬ (k : Int) < (zs.length : Int) := by omega
    simp [Tryz.f38, h, h']
theorem numI_ev [MaxL] [TxtC] (n b : Int) (hb : 1 ≤ b) (hb2 : b ≤ 1000000) : ∃ x : Nat, (x : Int) < b ∧ call cx 18 [.int .i64 n, .int .i64 b] [] = some (.int .i64 x, []) := by
  obtain ⟨x, h1, h2⟩ := num_ev n b.toNat (by omega) (by omega)
  rw [show ((b.toNat : Nat) : Int) = b by omega] at h2
  exact ⟨x, by omega, h2⟩
theorem n_ev [MaxL] [TxtC] (nil : Bool) (zs : List Int) (hnil : nil = true → zs = []) (hz : zs.length ≤ 1000000) (k : Nat) (b : Int) (hb : 1 ≤ b) (hb2 : b ≤ 1000000) :
    ∃ x k' : Nat, (x : Int) < b ∧ (k < zs.length → k < k') ∧ call cx 39 [.optr 0 2 0, .int .i64 b] [some (seqD nil zs k)] = some (.int .i64 x, [some (seqD nil zs k')]) := by
  unfold seqD
  by_cases hlt : k < zs.length
  · have hnf : nil = false := by
      cases nil with
      | false => rfl
      | true => rw [hnil rfl] at hlt; simp at hlt
    subst hnf
    have hlt' : ¬ (zs.length : Int) ≤ (k : Int) := by omega
    have hlt2 : (k : Int) < (zs.length : Int) := by omega
    have hw : IntKind.i64.wrap ((k : Int) + 1) = ((k + 1 : Nat) : Int) := by rw [wrap_i64] <;> omega
    have hw2 : IntKind.i64.wrap (((k + 1 : Nat) : Int) - 1) = (k : Int) := by rw [wrap_i64] <;> omega
    have hw3 : IntKind.i64.wrap (k : Int) = (k : Int) := by rw [wrap_i64]; omega
    obtain ⟨x, hx, hn⟩ := numI_ev zs[k] b hb hb2
    refine ⟨x, k + 1, hx, fun _ => Nat.lt_succ_self k, ?_⟩
    refine call_run Tryz.func39 rfl ⟨rfl, rfl⟩ ?_
    simp [Tryz.f39, hlt', hw, hlt2, hw3, intsK_at hlt, hn]
  · have hlt' : (zs.length : Int) ≤ (k : Int) := by omega
    refine ⟨0, k, by omega, fun h => absurd h hlt, ?_⟩
    refine call_run Tryz.func39 rfl ⟨rfl, rfl⟩ ?_
    simp [Tryz.f39, hlt']
def namesL : List (List UInt8) := [[65], [66], [77, 69, 83, 83, 65, 71, 69], [95, 80, 73, 68], [88, 95, 49], [80, 82, 73, 79, 82, 73, 84, 89]]
def valuesL : List (List UInt8) := [[], [48], [49], [50, 50], [97, 61, 98], [111, 110, 101, 10, 116, 119, 111], [0, 255], [116, 97, 98, 9, 104, 101, 114, 101], [108, 111, 110, 103, 32, 108, 111, 110, 103, 32, 108, 111, 110, 103, 32, 108, 111, 110, 103, 32, 108, 111, 110, 103, 32, 108, 111, 110, 103, 32, 108, 111, 110, 103], [126, 127, 128]]
def strD (l : List (List UInt8)) : List D := l.map D.str
theorem strD_at {l : List (List UInt8)} {i : Nat} (h : i < l.length) : (strD l).drop i = .str l[i] :: strD (l.drop (i + 1)) := by
  unfold strD
  rw [← List.map_drop, List.drop_eq_getElem_cons h]
  rfl
theorem names_ev [MaxL] [TxtC] : call cx 127 [] [] = some (.vsl false (strD namesL) 6, []) := by
  refine call_some.2 ⟨60, ?_⟩
  kernel_rfl
theorem values_ev [MaxL] [TxtC] : call cx 128 [] [] = some (.vsl false (strD valuesL) 10, []) := by
  refine call_some.2 ⟨60, ?_⟩
  kernel_rfl
def mkOk (p : Pr) : Bool := prOk p && (decide (p.name.length ≤ 8) && decide (p.value.length ≤ 36))
theorem mkOk_ok {p : Pr} (h : mkOk p = true) : prOk p = true := by
  unfold mkOk at h
  rw [Bool.and_eq_true] at h
  exact h.1
theorem mkOk_len {p : Pr} (h : mkOk p = true) : p.name.length ≤ 8 ∧ p.value.length ≤ 36 := by
  unfold mkOk at h
  simp only [Bool.and_eq_true, decide_eq_true_eq] at h
  exact h.2
theorem pairs_ok : ∀ n ∈ namesL, ∀ v ∈ valuesL, mkOk ⟨n, v⟩ = true := by decide
set_option maxHeartbeats 1000000 in
theorem mpair_ev [MaxL] [TxtC] (nil : Bool) (zs : List Int) (hnil : nil = true → zs = []) (hz : zs.length ≤ 1000000) (k : Nat) :
    ∃ (p : Pr) (k' : Nat), mkOk p = true ∧ call cx 110 [.optr 0 2 0] [some (seqD nil zs k)] = some (.agg (Enc.cells p), [some (seqD nil zs k')]) := by
  obtain ⟨x, k1, hx, -, h1⟩ := n_ev nil zs hnil hz k 6 (by decide) (by decide)
  obtain ⟨y, k2, hy, -, h2⟩ := n_ev nil zs hnil hz k1 10 (by decide) (by decide)
  have hx' : x < namesL.length := by show x < 6; omega
  have hy' : y < valuesL.length := by show y < 10; omega
  have g1 := names_ev
  have g2 := values_ev
  refine ⟨⟨namesL[x], valuesL[y]⟩, k2, pairs_ok _ (List.getElem_mem hx') _ (List.getElem_mem hy'), ?_⟩
  have a1 := strD_at hx'
  have a2 := strD_at hy'
  generalize namesL[x] = n at *
  generalize valuesL[y] = v at *
  generalize strD namesL = N at *
  generalize strD valuesL = V at *
  refine call_run Tryz.func110 rfl ⟨rfl, rfl⟩ ?_
  unfold seqD at h1 h2 ⊢
  simp [Tryz.f110, h1, h2, g1, g2, a1, a2, hx, hy, Pr.cells]
def idN (j : Nat) : ID := ⟨[94, 0, 0, 0, 0, 0, 0, 0, 0, 0, 0, 0, 0, 0, 0, UInt8.ofNat j], rfl⟩
theorem mid_ev [MaxL] [TxtC] (n : Int) : ∃ j : Nat, j < 5 ∧ call cx 26 [.int .i64 n] [] = some (.agg (ofBytes (idN j).l), []) := by
  obtain ⟨x, hx, hn⟩ := numI_ev n 5 (by decide) (by decide)
  refine ⟨x, by omega, ?_⟩
  refine call_run Tryz.func26 rfl ⟨rfl, rfl⟩ ?_
  have h : x = 0 ∨ x = 1 ∨ x = 2 ∨ x = 3 ∨ x = 4 := by omega
  rcases h with rfl | rfl | rfl | rfl | rfl <;> simp [Tryz.f26, hn] <;> rfl
theorem mid_small [MaxL] [TxtC] {j : Nat} (hj : j < 5) : call cx 26 [.int .i64 j] [] = some (.agg (ofBytes (idN j).l), []) := by
  have h : j = 0 ∨ j = 1 ∨ j = 2 ∨ j = 3 ∨ j = 4 := by omega
  refine call_some.2 ⟨60, ?_⟩
  rcases h with rfl | rfl | rfl | rfl | rfl <;> kernel_rfl
end Go.Ev.S
namespace Go.Ev.S
open Go Go.Proofs Go.Ev
theorem nameOk_len {n : List UInt8} (h : nameOk n = true) : n.length ≤ 64 := by
  unfold nameOk at h
  split at h
  · cases h
  · simp only [Bool.and_eq_true, decide_eq_true_eq] at h
    exact h.1.1
theorem prOk_len {p : Pr} (h : prOk p = true) : nameOk p.name = true ∧ p.name.length ≤ 64 ∧ p.value.length ≤ 256 := by
  unfold prOk at h
  simp only [Bool.and_eq_true, decide_eq_true_eq] at h
  exact ⟨h.1, nameOk_len h.1, h.2⟩
theorem join_ev [MaxL] [TxtC] (p : Pr) (h : prOk p = true) : call cx 108 [.agg (Enc.cells p)] [] = some (.tup [.vsl false (ofBytes (payL p)) (payL p).length, .int .i64 0], []) := by
  obtain ⟨hn, hn2, hv⟩ := prOk_len h
  have hnm := rname_ev p.name (by omega)
  rw [hn] at hnm
  have hp := pay_ev p (by omega) (by omega)
  have hv' : ¬ (256 : Int) < (p.value.length : Int) := by omega
  refine call_run Tryz.func108 rfl ⟨rfl, rfl⟩ ?_
  rw [Pr.cells] at hp ⊢
  have hl : (payL p).length ≤ 321 := by unfold payL; simp; omega
  have hne : (payL p).length ≠ 0 := by unfold payL; simp
  generalize payL p = w at *
  have hm : w.length ≤ 140737488355328 := by omega
  simp [Tryz.f108, hnm, hp, hv']
theorem loopJ {X : Cx} {f nt n0 : Nat} {Q : Ex → Env → Heap → Prop} {fs : List Fr} {c : Code} {σ : Type} (I : σ → Env → Heap → Prop) (m : σ → Nat) (s : σ) (J : Ex → Env → Heap → Prop) {e : Env} {H : Heap} (h0 : I s e H)
    (step : ∀ s e H, I s e H → Run X f nt n0 (fun ex e' H' => match ex with | .normal => ∃ s', m s' < m s ∧ I s' e' H' | ex => J ex e' H') [] (code X f nt n0 c e H))
    (done : ∀ ex e H, J ex e H → Run X f nt n0 Q fs (some (ex, e, H))) : Run X f nt n0 Q fs (code X f nt n0 (.loop c) e H) := by
  refine Run.loopThen I m s h0 fun s e H hi => Run.mono (step s e H hi) fun ex e H hq => ?_
  rw [run_nil]
  cases ex with
  | normal => exact hq
  | _ => exact done _ _ _ hq
def LsM (L : List Pr) (d : D) (H : Heap) : Prop :=
  ∃ n k t, n = L.length * 2 ∧ k = L.length ∧ ((d = .osl 1 n 0 k 2 ∧ H = [some t, some (encs L)]) ∨ (d = .osl 0 n 0 k 2 ∧ H = [some (encs L), some t]) ∨ (d = .osl 0 n 0 k 2 ∧ H = [some (encs L)]))
def LsH (out : List Pr) (d : D) (H : Heap) : Prop :=
  (out = [] ∧ d = .vsl true [] 0 ∧ H = []) ∨ (out ≠ [] ∧ LsM out d H)
def LsQ (q : D × Heap) : Prop := ∃ out : List Pr, 1 ≤ out.length ∧ out.length ≤ 4 ∧ (∀ p ∈ out, mkOk p = true) ∧ q = (.tup [.vsl false (encs out) out.length, .int .i64 0], [])
set_option maxHeartbeats 4000000 in
theorem list_ev [MaxL] [TxtC] (l : List Pr) (h1 : 1 ≤ l.length) (h4 : l.length ≤ 4) (hok : ∀ p ∈ l, mkOk p = true) : ∃ q, call cx 78 [.vsl false (encs l) l.length] [] = some q ∧ LsQ q := by
  refine call_runE (X := cx) (f := 78) (args := [.vsl false (encs l) l.length]) (H := []) LsQ Tryz.func78 rfl ⟨rfl, rfl⟩ ?_
  have hz : ¬ l.length = 0 := by omega
  simp [Tryz.f78, hz]
  refine Run.loopThen (fun (q : Nat × List Pr) e H' => q.1 ≤ l.length ∧ q.2.length ≤ q.1 ∧ (1 ≤ q.1 → 1 ≤ q.2.length) ∧ (∀ p ∈ q.2, mkOk p = true) ∧ look e 0 = some (.vsl false (encs l) l.length) ∧ look e 5 = some (.int .i64 (q.1 : Nat)) ∧ ∃ d, look e 4 = some d ∧ LsH q.2 d H') (fun q => l.length - q.1) (0, []) ?_ ?_
  · exact ⟨by simp, by simp, by simp, by simp, by simp, by simp, _, by simp, .inl ⟨rfl, rfl, rfl⟩⟩
  rintro ⟨i, out⟩ e H' ⟨hi, ho, ho1, hp, k0, k5, d, k4, hH⟩
  simp only at hi ho ho1 hp k5 hH
  by_cases hlt : i < l.length
  · have hlt' : (i : Int) < (l.length : Int) := by omega
    have hj := join_ev l[i] (mkOk_ok (hok _ (List.getElem_mem hlt)))
    have hpl := hok _ (List.getElem_mem hlt)
    obtain ⟨-, hb1, hb2⟩ := prOk_len (mkOk_ok hpl)
    have hw5 : IntKind.i64.wrap ((i : Int) + 1) = ((i + 1 : Nat) : Int) := by rw [wrap_i64] <;> omega
    rw [Pr.cells] at hj
    rcases hH with ⟨rfl, rfl, rfl⟩ | ⟨hne, n, k, t, hn, hk, hH⟩
    · simp [k0, k4, k5, hlt, hlt', hj, Pr.cells]
      refine run_unroll ?_
      simp [maxBytes]
      refine run_unroll ?_
      simp [hlt, hlt', Pr.cells, hw5]
      exact ⟨i + 1, by omega, by omega, [l[i]], by simp, fun _ => by simp, by simp [hpl], by simp, .inr ⟨by simp, 2, 1, _, rfl, rfl, .inl ⟨rfl, rfl⟩⟩⟩
    have htk : List.take n (encs out) = encs out := List.take_of_length_le (by simp; omega)
    have hlk : out.length = k := hk.symm
    have hkn : k * 2 = n := by omega
    have hm1 : (k + 1) * 32 ≤ 140737488355328 := by omega
    have hm2 : k + 1 ≤ 140737488355328 := by omega
    have hwk : IntKind.i64.wrap (k : Int) = (k : Int) := by rw [wrap_i64]; omega
    rcases hH with ⟨rfl, rfl⟩ | ⟨rfl, rfl⟩ | ⟨rfl, rfl⟩
    all_goals
      simp [k0, k4, k5, hlt, hlt', hj, Pr.cells]
      refine loopJ (fun (z : Nat) e H' => z ≤ k ∧ look e 0 = some (.vsl false (encs l) l.length) ∧ look e 4 = some (.osl 0 n 0 k 2) ∧ look e 5 = some (.int .i64 (i : Nat)) ∧ look e 8 = some (.int .i64 (z : Nat)) ∧ H' = [some (encs out)]) (fun z => k - z) 0
        (fun ex e H' => ex = .exit 2 ∧ ∃ z, z ≤ k ∧ look e 0 = some (.vsl false (encs l) l.length) ∧ look e 4 = some (.osl 0 n 0 k 2) ∧ look e 5 = some (.int .i64 (i : Nat)) ∧ look e 8 = some (.int .i64 (z : Nat)) ∧ H' = [some (encs out)]) ⟨Nat.zero_le _, by simp, by simp, by simp, by simp, rfl⟩ ?_ ?_
      · clear k0 k4 k5
        rintro z e H' ⟨hz, k0, k4, k5, k8, rfl⟩
        have hwz : IntKind.i64.wrap ((z : Int) + 1) = ((z + 1 : Nat) : Int) := by rw [wrap_i64] <;> omega
        by_cases hzl : z < k
        · have hzo : z < out.length := by omega
          obtain ⟨-, c1, c2⟩ := prOk_len (mkOk_ok (hp _ (List.getElem_mem hzo)))
          have p1 := pay_ev out[z] (by omega) (by omega)
          have p2 := pay_ev l[i] (by omega) (by omega)
          rw [Pr.cells] at p1 p2
          generalize payL out[z] = w1 at *
          generalize payL l[i] = w2 at *
          cases hb : Op.bytesLess w1 w2 with
          | true =>
            simp [k0, k4, k5, k8, hzl, hlt, hlt', Pr.cells, p1, p2, hb, hwz, hlk, hkn]
            exact ⟨z + 1, by omega, by omega, rfl⟩
          | false =>
            simp [k0, k4, k5, k8, hzl, hlt, hlt', Pr.cells, p1, p2, hb, hlk, hkn]
            exact ⟨z, hz, rfl⟩
        · simp [k0, k4, k5, k8, hzl]
          exact ⟨z, hz, rfl⟩
      · clear k0 k4 k5
        rintro ex e H' ⟨rfl, z, hz, k0, k4, k5, k8, rfl⟩
        have hcase : (∃ h : z < out.length, out[z].name = l[i].name ∧ out[z].value = l[i].value) ∨ (∃ h : z < out.length, ¬ out[z].name = l[i].name) ∨ (∃ h : z < out.length, out[z].name = l[i].name ∧ ¬ out[z].value = l[i].value) ∨ ¬ z < k := by
          by_cases h : z < out.length
          · by_cases h1 : out[z].name = l[i].name
            · by_cases h2 : out[z].value = l[i].value
              · exact .inl ⟨h, h1, h2⟩
              · exact .inr (.inr (.inl ⟨h, h1, h2⟩))
            · exact .inr (.inl ⟨h, h1⟩)
          · exact .inr (.inr (.inr (by omega)))
        have hcon := fun (h : z < out.length) => (show z < k by omega)
        rcases hcase with ⟨hzo, e1, e2⟩ | ⟨hzo, e1⟩ | ⟨hzo, e1, e2⟩ | hzl
        · simp [k0, k4, k5, k8, hcon hzo, hlt, hlt', Pr.cells, e1, e2, hlk, hkn, hw5]
          exact ⟨i + 1, by omega, by omega, out, by omega, fun _ => by omega, hp, by simp, .inr ⟨hne, n, k, t, hn, hk, .inr (.inr ⟨rfl, rfl⟩)⟩⟩
        all_goals
          first
            | simp [k0, k4, k5, k8, hcon hzo, hlt, hlt', Pr.cells, e1, e2, hlk, hkn, hwk, hm1, hm2, maxBytes]
            | simp [k0, k4, k5, k8, hcon hzo, hlt, hlt', Pr.cells, e1, hlk, hkn, hwk, hm1, hm2, maxBytes]
            | simp [k0, k4, k5, k8, hzl, hlk, hkn, hwk, hm1, hm2, maxBytes]
          refine loopJ (fun (q : Nat × List Pr) e H' => z ≤ q.1 ∧ q.1 ≤ k ∧ q.2.length = k + 1 ∧ (∀ x (h : x < q.2.length), x ≠ q.1 → mkOk q.2[x] = true) ∧ look e 0 = some (.vsl false (encs l) l.length) ∧ look e 4 = some (.osl 0 (n + 2) 0 (k + 1) 2) ∧ look e 5 = some (.int .i64 (i : Nat)) ∧ look e 8 = some (.int .i64 (z : Nat)) ∧ look e 9 = some (.int .i64 (q.1 : Nat)) ∧ H' = [some (encs q.2), some [.str [], .str []]]) (fun q => q.1 - z) (k, out ++ [⟨[], []⟩])
            (fun ex e H' => ex = .exit 4 ∧ ∃ L : List Pr, L.length = k + 1 ∧ (∀ x (h : x < L.length), x ≠ z → mkOk L[x] = true) ∧ look e 0 = some (.vsl false (encs l) l.length) ∧ look e 4 = some (.osl 0 (n + 2) 0 (k + 1) 2) ∧ look e 5 = some (.int .i64 (i : Nat)) ∧ look e 8 = some (.int .i64 (z : Nat)) ∧ H' = [some (encs L), some [.str [], .str []]]) ?_ ?_ ?_
          · refine ⟨hz, Nat.le_refl _, by simp [hlk], fun x h hx => ?_, by simp, by simp, by simp, by simp, by simp, by rw [encs_snoc]; rfl⟩
            have hxo : x < out.length := by simp at h; omega
            simp only [List.getElem_append_left hxo]
            exact hp _ (List.getElem_mem hxo)
          · clear k0 k4 k5 k8
            rintro ⟨j, L⟩ e H' ⟨hzj, hjk, hLl, hLp, k0, k4, k5, k8, k9, rfl⟩
            simp only at hzj hjk hLl hLp k9
            by_cases hj2 : z < j
            · obtain ⟨a, rfl⟩ : ∃ a, j = a + 1 := ⟨j - 1, by omega⟩
              have hwa : IntKind.i64.wrap (((a + 1 : Nat) : Int) - 1) = (a : Int) := by rw [wrap_i64] <;> omega
              have hwb : IntKind.i64.wrap ((a : Int) + 1 - 1) = (a : Int) := by rw [wrap_i64] <;> omega
              have hwc : IntKind.i64.wrap (a : Int) = (a : Int) := by rw [wrap_i64]; omega
              have hak : a < k := by omega
              have ha1 : (a : Int) < (k : Int) + 1 := by omega
              have hza : (z : Int) < (a : Int) + 1 := by omega
              have hza2 : z < a + 1 := hj2
              have h0a : (0 : Int) ≤ (a : Int) + 1 := by omega
              have ha2n : (a + 1) * 2 ≤ n := by omega
              have ha2 : a < L.length := by omega
              have ha3 : a + 1 < L.length := by omega
              have hLn : L.length * 2 = n + 2 := by omega
              simp [k0, k4, k5, k8, k9, hwc, hak, ha1, ha2, ha3, hLn, hza, h0a, ha2n]
              refine ⟨a, by omega, by omega, by omega, _, by simp [hLl], fun x h hx => ?_, rfl, rfl⟩
              rw [List.getElem_set]
              split
              · exact hLp a ha2 (by omega)
              · exact hLp x (by simpa using h) (by omega)
            · simp [k0, k4, k5, k8, k9, hj2]
              exact ⟨L, hLl, fun x h hx => hLp x h (by omega), rfl⟩
          · clear k0 k4 k5 k8
            rintro ex e H' ⟨rfl, L, hLl, hLp, k0, k4, k5, k8, rfl⟩
            have hzl2 : z < L.length := by omega
            have hz1 : (z : Int) < (k : Int) + 1 := by omega
            have hz2 : z * 2 ≤ n := by omega
            have hLn : L.length * 2 = n + 2 := by omega
            simp [k0, k4, k5, k8, hzl2, hlt, hlt', hw5, hz1, hz2, hLn]
            refine ⟨i + 1, by omega, by omega, L.set z l[i], by simp [hLl]; omega, fun _ => by simp [hLl], fun p hp => ?_, by simp, .inr ⟨fun h => ?_, n + 2, k + 1, _, by simp [hLn], by simp [hLl], .inr (.inl ⟨rfl, rfl⟩)⟩⟩
            · obtain ⟨x, hx, rfl⟩ := List.mem_iff_getElem.1 hp
              rw [List.getElem_set]
              split
              · exact hpl
              · exact hLp x (by simpa using hx) (by omega)
            · have := congrArg List.length h
              simp [hLl] at this
  · have hlt' : ¬ (i : Int) < (l.length : Int) := by omega
    have ho2 := ho1 (by omega)
    rcases hH with ⟨rfl, rfl, rfl⟩ | ⟨hne, n, k, t, hn, hk, hH⟩
    · simp at ho2
    have h16 : ¬ (16 : Int) < (k : Int) := by omega
    have htk : List.take n (encs out) = encs out := List.take_of_length_le (by simp; omega)
    have hlk : out.length = k := hk.symm
    have hkn : k * 2 = n := by omega
    rcases hH with ⟨rfl, rfl⟩ | ⟨rfl, rfl⟩ | ⟨rfl, rfl⟩
    all_goals
      simp [k0, k4, k5, hlt', h16, htk, hlk, hkn]
      exact ⟨out, by omega, by omega, hp, by rw [hlk]⟩
end Go.Ev.S
namespace Go.Ev.S
open Go Go.Proofs Go.Ev
theorem drop_u8 {l : List UInt8} {i : Nat} (h : i < l.length) : (ofBytes l).drop i = .int .u8 l[i].toNat :: ofBytes (l.drop (i + 1)) := by
  unfold ofBytes
  rw [← List.map_drop, List.drop_eq_getElem_cons h]
  rfl
set_option maxHeartbeats 2000000 in
theorem cmore_ev [MaxL] [TxtC] (s : BitVec 32) (b : Sl UInt8) (hn : b.l.length < 4611686018427387904) : call cx 107 [.int .u32 s.toNat, (.vsl b.nil (ofBytes b.l) b.l.length)] [] = some (.int .u32 ((crcM s b.l).toNat : Nat), []) := by
  refine call_run Tryz.func107 rfl ⟨rfl, rfl⟩ ?_
  have hun : ∀ v : BitVec 32, unD .xor (.int .u32 (v.toNat : Int)) = some (.int .u32 ((~~~ v).toNat : Int)) := fun v => congrArg (fun x => some (D.int .u32 x)) (not32 v)
  have h0 := hun s
  unfold crcM
  obtain ⟨g, hg⟩ : ∃ g, crcGo (~~~ s) b.l = g := ⟨_, rfl⟩
  rw [hg]
  have h1 := hun g
  generalize ((~~~ g).toNat : Int) = r at *
  generalize ~~~ s = s0 at *
  clear hun
  simp [-unD, Tryz.f107, h0]
  refine Run.loopThen (fun (q : Nat × BitVec 32) e H' => q.1 ≤ b.l.length ∧ crcGo q.2 (b.l.drop q.1) = g ∧ look e 0 = some (.int .u32 (q.2.toNat : Int)) ∧ look e 9 = some (.vsl b.nil (ofBytes b.l) b.l.length) ∧ look e 10 = some (.int .i64 b.l.length) ∧ look e 11 = some (.int .i64 (q.1 : Nat)) ∧ H' = []) (fun q => b.l.length - q.1) (0, s0) ⟨Nat.zero_le _, by simpa using hg, by simp, by simp, by simp, by simp, rfl⟩ ?_
  rintro ⟨i, v⟩ e H' ⟨hi, hR, k0, k9, k10, k11, rfl⟩
  simp only at hi hR k0 k11
  by_cases hlt : i < b.l.length
  · have hlt' : (i : Int) < (b.l.length : Int) := by omega
    have hw : IntKind.i64.wrap ((i : Int) + 1) = ((i + 1 : Nat) : Int) := by rw [wrap_i64] <;> omega
    have hd := drop_u8 hlt
    have hb := byte32 v b.l[i]
    rw [List.drop_eq_getElem_cons hlt] at hR
    generalize b.l[i] = c at *
    replace hR : crcGo (crcN 8 (v ^^^ BitVec.ofNat 32 c.toNat)) (b.l.drop (i + 1)) = g := hR
    generalize v ^^^ BitVec.ofNat 32 c.toNat = w at *
    have hwc : IntKind.u32.wrap (c.toNat : Int) = (c.toNat : Int) := by have := c.toNat_lt; rw [wrap_u32]; omega
    simp [-unD, k0, k9, k10, k11, hlt', Sl.nn hlt, hd, hwc, hb]
    refine loopJ (fun (q : Nat × BitVec 32) e H' => q.1 ≤ 8 ∧ crcN (8 - q.1) q.2 = crcN 8 w ∧ look e 0 = some (.int .u32 (q.2.toNat : Int)) ∧ look e 9 = some (.vsl false (ofBytes b.l) b.l.length) ∧ look e 10 = some (.int .i64 b.l.length) ∧ look e 11 = some (.int .i64 (i : Nat)) ∧ look e 19 = some (.int .i64 (q.1 : Nat)) ∧ H' = []) (fun q => 8 - q.1) (0, w)
      (fun ex e H' => ex = .exit 2 ∧ look e 0 = some (.int .u32 ((crcN 8 w).toNat : Int)) ∧ look e 9 = some (.vsl false (ofBytes b.l) b.l.length) ∧ look e 10 = some (.int .i64 b.l.length) ∧ look e 11 = some (.int .i64 (i : Nat)) ∧ H' = []) ⟨Nat.zero_le _, rfl, by simp, by simp, by simp, by simp, by simp, rfl⟩ ?_ ?_
    · clear k0 k9 k10 k11
      rintro ⟨j, u⟩ e H' ⟨hj, hu, k0, k9, k10, k11, k19, rfl⟩
      simp only at hj hu k0 k19
      by_cases hj8 : j < 8
      · have hji : (j : Int) < 8 := by omega
        have hwj : IntKind.i64.wrap ((j : Int) + 1) = ((j + 1 : Nat) : Int) := by rw [wrap_i64] <;> omega
        have hb1 := bit32 u
        have hb2 := half32 u
        rw [show (2 : Int) = 2 ^ min 1 IntKind.u32.bits from rfl] at hb2
        have hb3 := poly32 (u >>> 1)
        have hst : crcN (8 - (j + 1)) (crcBit u) = crcN 8 w := by
          rw [← hu, show 8 - j = (8 - (j + 1)) + 1 by omega]
          rfl
        unfold crcBit at hst
        generalize u >>> 1 = h at *
        by_cases hp : u.toNat % 2 = 1
        · rw [hp] at hb1
          rw [if_pos hp] at hst
          generalize h ^^^ 2197175160#32 = y at *
          simp [-unD, k0, k9, k10, k11, k19, hji, hwj, hb1]
          exact ⟨j + 1, by omega, by omega, y, hst, by rw [hb2, hb3], rfl⟩
        · have hp0 : u.toNat % 2 = 0 := by omega
          rw [hp0] at hb1
          rw [if_neg hp] at hst
          simp [-unD, k0, k9, k10, k11, k19, hji, hwj, hb1]
          exact ⟨j + 1, by omega, by omega, h, hst, hb2, rfl⟩
      · have hji : ¬ (j : Int) < 8 := by omega
        have hj0 : 8 - j = 0 := by omega
        rw [hj0] at hu
        replace hu : u = crcN 8 w := hu
        simp [-unD, k0, k9, k10, k11, k19, hji, hu]
    · clear k0 k9 k10 k11
      rintro ex e H' ⟨rfl, k0, k9, k10, k11, rfl⟩
      generalize crcN 8 w = z at *
      simp [-unD, k0, k9, k10, k11, hw]
      exact ⟨i + 1, by omega, by omega, z, hR, rfl, rfl⟩
  · have hlt' : ¬ (i : Int) < (b.l.length : Int) := by omega
    rw [List.drop_eq_nil_of_le (by omega)] at hR
    replace hR : v = g := hR
    subst hR
    simp [-unD, k0, k9, k10, k11, hlt', h1]
theorem csum_ev [MaxL] [TxtC] (b : Sl UInt8) (hn : b.l.length < 4611686018427387904) : call cx 77 [.vsl false [(.vsl b.nil (ofBytes b.l) b.l.length)] 1] [] = some (.int .u32 ((crcM 0#32 b.l).toNat : Nat), []) := by
  have h := cmore_ev 0#32 b hn
  replace h : call cx 107 [.int .u32 0, (.vsl b.nil (ofBytes b.l) b.l.length)] [] = some (.int .u32 ((crcM 0#32 b.l).toNat : Nat), []) := h
  generalize ((crcM 0#32 b.l).toNat : Nat) = r at *
  refine call_run Tryz.func77 rfl ⟨rfl, rfl⟩ ?_
  simp [Tryz.f77]
  refine run_unroll ?_
  simp [h]
  refine run_unroll ?_
  simp
end Go.Ev.S
namespace Go.Ev
open Go Go.Proofs
def sealB (b : List UInt8) : List UInt8 := b ++ leB 4 (crcM 0#32 b).toNat
theorem sealB_len (b : List UInt8) : (sealB b).length = b.length + 4 := by simp [sealB]
end Go.Ev
namespace Go.Ev.S
open Go Go.Proofs Go.Ev
def kSign : List UInt8 := [68, 66, 65, 84]
def itB (it : It) : List UInt8 := leB 4 (textL it).length ++ textL it
def rawB (l : List It) (m : List Mk) : List UInt8 := kSign ++ (leB 2 l.length ++ (l.flatMap itB ++ mksB m))
def putOk (l : List It) (m : List Mk) : Bool := decide (l.length ≤ 64) && (rightM m && l.all itOk)
def putS (l : List It) (m : List Mk) : Sl UInt8 := if putOk l m && decide ((sealB (rawB l m)).length ≤ 65536) then .of (sealB (rawB l m)) else .none
theorem mksB_len (l : List Mk) : (mksB l).length = 1 + l.length * 40 := by
  unfold mksB
  rw [List.length_cons, mkBs_len, Nat.add_comm]
theorem itB_len (it : It) : (itB it).length = 4 + (textL it).length := by simp [itB]
theorem raw_len (l : List It) (m : List Mk) : (sealB (rawB l m)).length = 11 + 40 * m.length + (l.map fun x => 4 + (textL x).length).sum := by
  rw [sealB_len]
  unfold rawB
  have : (l.flatMap itB).length = (l.map fun x => 4 + (textL x).length).sum := by
    induction l with
    | nil => rfl
    | cons a l ih => rw [List.flatMap_cons, List.length_append, ih, itB_len, List.map_cons, List.sum_cons]
  simp [kSign, mksB_len, this]
  omega
end Go.Ev.S
namespace Go.Ev.S
open Go Go.Proofs Go.Ev
def GrowH {α : Type} [Enc α] (S : List D) (sz : Nat) (l : List α) (d : D) (H : Heap) : Prop :=
  (l = [] ∧ d = .vsl true [] 0 ∧ H = [some S]) ∨ (l ≠ [] ∧ ∃ n k t, n = l.length * sz ∧ k = l.length ∧ ((d = .osl 2 n 0 k sz ∧ H = [some S, some t, some (encs l)]) ∨ (d = .osl 1 n 0 k sz ∧ H = [some S, some (encs l), some t])))
def PrsQ (nil : Bool) (zs : List Int) (q : D × Heap) : Prop := ∃ (l : List Pr) (k' : Nat), 1 ≤ l.length ∧ l.length ≤ 4 ∧ (∀ p ∈ l, mkOk p = true) ∧ q = (.vsl false (encs l) l.length, [some (seqD nil zs k')])
set_option maxHeartbeats 1000000 in
theorem mpairs_ev [MaxL] [TxtC] (nil : Bool) (zs : List Int) (hnil : nil = true → zs = []) (hz : zs.length ≤ 1000000) (k : Nat) :
    ∃ q, call cx 79 [.optr 0 2 0, .int .i64 4] [some (seqD nil zs k)] = some q ∧ PrsQ nil zs q := by
  obtain ⟨x, k1, hx, -, h1⟩ := n_ev nil zs hnil hz k 4 (by decide) (by decide)
  refine call_runE (X := cx) (f := 79) (args := [.optr 0 2 0, .int .i64 4]) (H := [some (seqD nil zs k)]) (PrsQ nil zs) Tryz.func79 rfl ⟨rfl, rfl⟩ ?_
  have hw : IntKind.i64.wrap ((x : Int) + 1) = ((x + 1 : Nat) : Int) := by rw [wrap_i64] <;> omega
  have sf := seqD_free nil zs
  have sl := seqD_len nil zs
  have sc := seqD_cl nil zs
  simp [Tryz.f79, h1, sf]
  refine Run.loopThen (fun (q : List Pr × Nat × Nat) e H' => q.1.length + q.2.1 = x + 1 ∧ (∀ p ∈ q.1, mkOk p = true) ∧ look e 0 = some (.optr 0 2 0) ∧ look e 6 = some (.int .i64 (q.2.1 : Nat)) ∧ ∃ d, look e 5 = some d ∧ GrowH (seqD nil zs q.2.2) 2 q.1 d H') (fun q => q.2.1) ([], x + 1, k1) ?_ ?_
  · exact ⟨by simp, by simp, by simp, by simp [hw], _, by simp, .inl ⟨rfl, rfl, rfl⟩⟩
  rintro ⟨l, i, k2⟩ e H' ⟨hi, hok, k0, k6, d, k5, hH⟩
  simp only at hi hok k6 hH
  obtain ⟨p, k3, hp, h2⟩ := mpair_ev nil zs hnil hz k2
  rcases hH with ⟨rfl, rfl, rfl⟩ | ⟨hne, n, m, t, hn, hm, hH⟩
  · have hi0 : 0 < i := by simp at hi; omega
    have hw2 : IntKind.i64.wrap ((i : Int) - 1) = ((i - 1 : Nat) : Int) := by rw [wrap_i64] <;> (simp at hi; omega)
    simp [k0, k5, k6, hi0, h2, sf, sc, hw2, Pr.cells, maxBytes]
    exact ⟨[p], i - 1, by omega, by simp at hi ⊢; omega, by simp [hp], rfl, k3, .inr ⟨by simp, 2, 1, _, rfl, rfl, .inl ⟨rfl, rfl⟩⟩⟩
  · have hm1 : (m + 1) * 32 ≤ 140737488355328 := by omega
    have hm2 : m + 1 ≤ 140737488355328 := by omega
    have hlk : l.length = m := hm.symm
    have hkn : m * 2 = n := by omega
    have htk : List.take n (encs l) = encs l := List.take_of_length_le (by simp; omega)
    by_cases hi0 : 0 < i
    · have hw2 : IntKind.i64.wrap ((i : Int) - 1) = ((i - 1 : Nat) : Int) := by rw [wrap_i64] <;> omega
      rcases hH with ⟨rfl, rfl⟩ | ⟨rfl, rfl⟩
      all_goals
        simp [k0, k5, k6, hi0, h2, sf, sc, hw2, Pr.cells, maxBytes, hlk, hkn, hm1, hm2]
        refine ⟨l ++ [p], i - 1, by omega, by simp; omega, fun q hq => ?_, rfl, k3, .inr ⟨by simp, n + 2, m + 1, _, by simp; omega, by simp [hlk], .inr ⟨rfl, by rw [encs_snoc]; rfl⟩⟩⟩
        rcases List.mem_append.1 hq with h | h
        · exact hok q h
        · rw [List.mem_singleton.1 h]; exact hp
    · have hie : l.isEmpty = false := by simpa using hne
      have hl1 : 1 ≤ l.length := by
        cases l with
        | nil => exact absurd rfl hne
        | cons => simp
      rcases hH with ⟨rfl, rfl⟩ | ⟨rfl, rfl⟩
      all_goals
        simp [k0, k5, k6, hi0, sc, hlk, hkn, htk]
        exact ⟨l, k2, hl1, by omega, hok, by rw [hlk]⟩
end Go.Ev.S
namespace Go.Ev.S
open Go Go.Proofs Go.Ev
def RecR (n : Nat) (r : Rec) : Prop := r.seq = n ∧ r.Ok ∧ 1 ≤ r.fields.l.length ∧ r.fields.l.length ≤ 4 ∧ ∀ p ∈ r.fields.l, mkOk p = true
theorem u64_of {n : Nat} (h : n < 18446744073709551616) : isU64 (n : Int) := by
  unfold isU64
  omega
set_option maxHeartbeats 1000000 in
theorem mrec_ev [MaxL] [TxtC] (nil : Bool) (zs : List Int) (hnil : nil = true → zs = []) (hz : zs.length ≤ 1000000) (k : Nat) (n : Nat) (hn : n < 18446744073709551616) :
    ∃ (r : Rec) (k' : Nat), RecR n r ∧ call cx 40 [.optr 0 2 0, .int .u64 n] [some (seqD nil zs k)] = some (.agg (Enc.cells r), [some (seqD nil zs k')]) := by
  obtain ⟨q, h1, l, k1, hl1, hl4, hp, rfl⟩ := mpairs_ev nil zs hnil hz k
  obtain ⟨q, h2, out, ho1, ho4, hop, rfl⟩ := list_ev l hl1 hl4 hp
  obtain ⟨x, k2, hx, -, h3⟩ := n_ev nil zs hnil hz k1 40 (by decide) (by decide)
  obtain ⟨y, k3, hy, -, h4⟩ := n_ev nil zs hnil hz k2 9 (by decide) (by decide)
  obtain ⟨z, k4, hz3, -, h5⟩ := n_ev nil zs hnil hz k3 3 (by decide) (by decide)
  have h6 := mid_small (j := z) (by omega)
  refine ⟨⟨n, x, y, idN z, .of out⟩, k4, ⟨rfl, ⟨u64_of hn, u64_of (by omega), u64_of (by omega)⟩, ho1, ho4, hop⟩, ?_⟩
  have sf := seqD_free nil zs
  have sl := seqD_len nil zs
  have sc := seqD_cl nil zs
  have hx64 : IntKind.u64.wrap (x : Int) = (x : Int) := by rw [wrap_u64]; omega
  have hy64 : IntKind.u64.wrap (y : Int) = (y : Int) := by rw [wrap_u64]; omega
  have hi := (idN z).h
  generalize idN z = iz at *
  have ht : List.take 16 (ofBytes iz.l) = ofBytes iz.l := List.take_of_length_le (by simp)
  have hd : List.drop 17 (ofBytes iz.l ++ [D.vsl true [] 0]) = [] := List.drop_eq_nil_of_le (by simp)
  refine call_run Tryz.func40 rfl ⟨rfl, rfl⟩ ?_
  simp [Tryz.f40, h1, h2, h3, h4, h5, h6, sf, sc, hx64, hy64, Rec.cells, hi, hd, List.take_append]

end Go.Ev.S
namespace Go.Ev.S
open Go Go.Proofs Go.Ev
def MadeI (it : It) : Prop := it.Ok ∧ itOk it = true ∧ it.rc.fields.l.length ≤ 4 ∧ ∀ p ∈ it.rc.fields.l, mkOk p = true
theorem u64_zero' : isU64 0 := by unfold isU64; decide
def recZ : Rec := ⟨0, 0, 0, ID.zero, .none⟩
theorem made_gap (q : ID) {n t : Nat} (h1 : 1 ≤ n) (h2 : n ≤ t) (h3 : t < 18446744073709551616) : MadeI ⟨q, true, n, t, recZ⟩ := by
  refine ⟨⟨u64_of (by omega), u64_of (by omega), ⟨u64_zero', u64_zero', u64_zero'⟩⟩, ?_, Nat.zero_le _, fun p hp => by cases hp⟩
  unfold itOk gapOk
  simp [recZ, Sl.none]
  omega
theorem made_rec (q : ID) {n : Nat} {r : Rec} (h1 : 1 ≤ n) (h : RecR n r) : MadeI ⟨q, false, 0, 0, r⟩ := by
  obtain ⟨a, b, c, d, e⟩ := h
  refine ⟨⟨u64_zero', u64_zero', b⟩, ?_, d, e⟩
  unfold itOk recOk
  simp [a]
  exact ⟨⟨⟨by omega, c⟩, by omega⟩, fun p hp => mkOk_ok (e p hp)⟩
theorem intsK_set {k : IntKind} {l : List Int} {i : Nat} {v : Int} (h : i < l.length) : setRange (intsK k l) i [.int k v] = intsK k (l.set i v) := by
  have hi : i < (intsK k l).length := by simpa using h
  have e : (intsK k l).set i (.int k v) = intsK k (l.set i v) := by unfold intsK; rw [List.map_set]
  rw [← e, List.set_eq_take_append_cons_drop, if_pos hi]
  unfold setRange
  simp
theorem gap_cells (q : ID) (n t : Int) : Enc.cells (⟨q, true, n, t, recZ⟩ : It) = ofBytes q.l ++ [.bool true, .int .u64 n, .int .u64 t, .int .u64 0, .int .u64 0, .int .u64 0, .int .u8 0, .int .u8 0, .int .u8 0, .int .u8 0, .int .u8 0, .int .u8 0, .int .u8 0, .int .u8 0, .int .u8 0, .int .u8 0, .int .u8 0, .int .u8 0, .int .u8 0, .int .u8 0, .int .u8 0, .int .u8 0, .vsl true [] 0] := by
  rw [It.cells]
  rfl
theorem rec_cells (q : ID) (r : Rec) : Enc.cells (⟨q, false, 0, 0, r⟩ : It) = ofBytes q.l ++ (.bool false :: .int .u64 0 :: .int .u64 0 :: Enc.cells r) := by
  rw [It.cells, Rec.cells]
  rfl
theorem rec_noZ (r : Rec) : noZ.noZL (Enc.cells r) = true := by
  rw [Rec.cells]
  simp
def ItsH (S : List D) (out : List It) (last : List Int) (d5 d6 : D) (H : Heap) : Prop :=
  (out = [] ∧ d5 = .vsl true [] 0 ∧ d6 = .optr 1 3 0 ∧ H = [some S, some (intsK .u64 last)]) ∨
  (out ≠ [] ∧ ∃ n m t, n = out.length * 39 ∧ m = out.length ∧ ((d5 = .osl 3 n 0 m 39 ∧ d6 = .optr 1 3 0 ∧ H = [some S, some (intsK .u64 last), some t, some (encs out)]) ∨ (d5 = .osl 1 n 0 m 39 ∧ d6 = .optr 2 3 0 ∧ H = [some S, some (encs out), some (intsK .u64 last), some t])))
end Go.Ev.S
namespace Go.Ev.S
open Go Go.Proofs Go.Ev
theorem headL_len (L : List (List UInt8)) : (headL L).length = (L.map fun s => s.length + 1).sum := by
  induction L with
  | nil => rfl
  | cons a L ih =>
    have : headL (a :: L) = (a ++ [10]) ++ headL L := rfl
    rw [this, List.length_append, ih]
    simp
theorem textL_small {x : It} (h : MadeI x) : (textL x).length ≤ 660 := by
  obtain ⟨hi, ho, h4, hp⟩ := h
  unfold textL
  cases hg : x.gap with
  | true =>
    rw [if_pos rfl]
    have l1 := dec_len x.fr.toNat
    have l2 := dec_len x.til.toNat
    have l3 := hexs_len x.id.l
    rw [x.id.h] at l3
    unfold textG kGap kId
    simp
    omega
  | false =>
    rw [if_neg (by decide)]
    have h2 := bodyL_le x.rc.fields.l 54 fun p hq => by
      have := mkOk_len (hp p hq)
      have h1 := pairL_len p
      omega
    have h3 : x.rc.fields.l.length * 54 ≤ 4 * 54 := Nat.mul_le_mul_right _ h4
    have l0 := (showL_len (cOfP x.id x.rc)).2
    have l4 := hexs_len x.id.l
    have l5 := hexs_len x.rc.boot.l
    rw [x.id.h] at l4
    rw [x.rc.boot.h] at l5
    have d1 := dec_len x.rc.real.toNat
    have d2 := dec_len x.rc.mono.toNat
    have d3 := dec_len x.rc.seq.toNat
    unfold textR
    simp only [List.length_append, List.length_cons, List.length_nil, headL_len, sixL, List.map_cons, List.map_nil, List.sum_cons, List.sum_nil, kPlace, kReal, kMono, kSeq, kId, kBoot]
    omega
theorem sum_small {L : List It} (h : ∀ x ∈ L, MadeI x) : (L.map fun x => 4 + (textL x).length).sum ≤ L.length * 664 := by
  induction L with
  | nil => simp
  | cons a L ih =>
    have h1 := ih fun x hx => h x (List.mem_cons_of_mem _ hx)
    have h2 := textL_small (h a (List.mem_cons_self ..))
    rw [List.map_cons, List.sum_cons, List.length_cons, Nat.add_mul]
    omega
theorem made_all {L : List It} (h : ∀ x ∈ L, MadeI x) : L.all itOk = true := List.all_eq_true.2 fun x hx => (h x hx).2.1
theorem put_made {L : List It} {m : List Mk} (h : ∀ x ∈ L, MadeI x) (hl : L.length ≤ 64) (hr : rightM m = true) : putOk L m = true ∧ putS L m = .of (sealB (rawB L m)) ∧ (sealB (rawB L m)).length = 11 + 40 * m.length + (L.map fun x => 4 + (textL x).length).sum ∧ (sealB (rawB L m)).length ≤ 65536 := by
  have h1 : putOk L m = true := by
    unfold putOk
    rw [decide_eq_true hl, hr, made_all h]
    rfl
  have h2 := raw_len L m
  have h3 := sum_small h
  have h4 := rightM_le hr
  have h5 : L.length * 664 ≤ 64 * 664 := Nat.mul_le_mul_right _ hl
  have h6 : (sealB (rawB L m)).length ≤ 65536 := by omega
  refine ⟨h1, ?_, h2, h6⟩
  unfold putS
  rw [h1, decide_eq_true h6]
  rfl
end Go.Ev.S
namespace Go.Ev.S
open Go Go.Proofs Go.Ev
theorem u32_64 (s : BitVec 32) : IntKind.u64.wrap (s.toNat : Int) = (s.toNat : Int) := by
  have := s.isLt
  rw [wrap_u64]
  omega
theorem cseal_ev [MaxL] [TxtC] (b : Sl UInt8) (hn : b.l.length ≤ 140737488354000) : call cx 37 [(.vsl b.nil (ofBytes b.l) b.l.length)] [] = some ((.vsl ((.of (sealB b.l) : Sl UInt8)).nil (ofBytes ((.of (sealB b.l) : Sl UInt8)).l) ((.of (sealB b.l) : Sl UInt8)).l.length), []) := by
  have h1 := csum_ev b (by omega)
  have hw := u32_64 (crcM 0#32 b.l)
  obtain ⟨d, H, hb, hc⟩ := leadd_ev b 4 (crcM 0#32 b.l).toNat (by omega)
  have e : leAdd b.l 4 (crcM 0#32 b.l).toNat = sealB b.l := by simp [leAdd, szOk, sealB]
  have el := sealB_len b.l
  rw [e] at hb
  generalize (crcM 0#32 b.l).toNat = v at *
  generalize sealB b.l = z at *
  rcases hb with ⟨-, rfl, -⟩ | ⟨rfl, rfl⟩
  · simp at el
  refine call_run Tryz.func37 rfl ⟨rfl, rfl⟩ ?_
  simp [Tryz.f37, h1, hc, hw]
end Go.Ev.S
namespace Go.Ev.S
open Go Go.Proofs Go.Ev
def ItsB (l : List It) : Prop := ∀ x ∈ l, x.Ok ∧ x.rc.fields.l.length < 1000000 ∧ ∀ p ∈ x.rc.fields.l, PrB p
theorem flat_len {l : List It} (h : ItsB l) (ho : ∀ x ∈ l, itOk x = true) : (l.flatMap itB).length ≤ l.length * 10004 := by
  induction l with
  | nil => simp
  | cons a l ih =>
    have h1 := ih (fun x hx => h x (List.mem_cons_of_mem _ hx)) fun x hx => ho x (List.mem_cons_of_mem _ hx)
    have h2 := (textL_len (h a (List.mem_cons_self ..)).1 (ho a (List.mem_cons_self ..))).1
    rw [List.flatMap_cons, List.length_append, itB_len, List.length_cons, Nat.add_mul]
    omega
theorem leadd4 [MaxL] (l : List UInt8) (n v : Nat) (hn : n = 2 ∨ n = 4) (hl : l.length ≤ 140737488355000) :
    call cx 64 [.vsl false (ofBytes l) l.length, .int .i64 n, .int .u64 v] [] = some (.osl 0 (l.length + n) 0 (l.length + n) 1, [some (ofBytes (l ++ leB n v))]) := by
  obtain ⟨d, H, hb, hc⟩ := leadd_ev (.of l) n v (by simpa using hl)
  have e : leAdd l n v = l ++ leB n v := by rcases hn with rfl | rfl <;> simp [leAdd, szOk]
  simp only [Sl.of_l, Sl.of_nil] at hb hc
  rw [e] at hb
  rcases hb with ⟨rfl, h, rfl⟩ | ⟨rfl, rfl⟩
  · have := congrArg List.length h
    simp at this
    omega
  · rw [hc]
    simp
theorem putS_none {l : List It} {m : List Mk} (h : putOk l m = false) : putS l m = .none := by unfold putS; rw [h]; rfl
def PutH (X : List UInt8) (d : D) (H : Heap) : Prop := ∃ n, n = X.length ∧ ((∃ t, d = .osl 1 n 0 n 1 ∧ H = [some t, some (ofBytes X)]) ∨ (∃ t u, d = .osl 2 n 0 n 1 ∧ H = [some t, some u, some (ofBytes X)]))
def PutC (s : List It) (i : Nat) (X : List UInt8) : Prop := X = (kSign ++ leB 2 s.length) ++ (s.take i).flatMap itB
set_option maxHeartbeats 4000000 in
theorem wput_ev [MaxL] (s : Sl It) (m : Sl Mk) (hs : ItsB s.l) (hm : ∀ x ∈ m.l, x.Ok) (hmn : m.l.length < 4611686018427387904) : call cx 25 [(.vsl s.nil (encs s.l) s.l.length), (.vsl m.nil (encs m.l) m.l.length)] [] = some ((.vsl (putS s.l m.l).nil (ofBytes (putS s.l m.l).l) (putS s.l m.l).l.length), []) := by
  have hr := right_ev m hmn
  refine call_run Tryz.func25 rfl ⟨rfl, rfl⟩ ?_
  by_cases h64 : s.l.length ≤ 64
  case neg =>
    have h64' : (64 : Int) < (s.l.length : Int) := by omega
    have hp : putOk s.l m.l = false := by unfold putOk; rw [decide_eq_false h64, Bool.false_and]
    rw [putS_none hp]
    simp [Tryz.f25, h64', Sl.none]
  have h64' : ¬ (64 : Int) < (s.l.length : Int) := by omega
  cases hrm : rightM m.l with
  | false =>
    rw [hrm] at hr
    have hp : putOk s.l m.l = false := by unfold putOk; rw [hrm, Bool.false_and, Bool.and_false]
    rw [putS_none hp]
    simp [Tryz.f25, h64', hr, Sl.none]
  | true =>
  rw [hrm] at hr
  have hw0 : IntKind.u64.wrap (s.l.length : Int) = (s.l.length : Int) := by rw [wrap_u64]; omega
  have h0 := leadd4 kSign 2 s.l.length (.inl rfl) (by decide)
  replace h0 : call cx 64 [.vsl false [.int .u8 68, .int .u8 66, .int .u8 65, .int .u8 84] 4, .int .i64 2, .int .u64 s.l.length] [] = some (.osl 0 6 0 6 1, [some (ofBytes (kSign ++ leB 2 s.l.length))]) := h0
  simp [Tryz.f25, h64', hr, hw0, h0]
  refine Run.loopThen (fun (q : Nat × List UInt8) e H => q.1 ≤ s.l.length ∧ PutC s.l q.1 q.2 ∧ (∀ x ∈ s.l.take q.1, itOk x = true) ∧ (∃ d, look e 5 = some d ∧ PutH q.2 d H) ∧ look e 1 = some (.vsl m.nil (encs m.l) m.l.length) ∧ look e 23 = some (.vsl s.nil (encs s.l) s.l.length) ∧ look e 24 = some (.int .i64 s.l.length) ∧ look e 25 = some (.int .i64 (q.1 : Nat))) (fun q => s.l.length - q.1) (0, kSign ++ leB 2 s.l.length) ?_ ?_
  · refine ⟨Nat.zero_le _, by simp [PutC], by simp, ⟨_, by simp, 6, by simp [kSign], .inl ⟨_, rfl, rfl⟩⟩, by simp, by simp, by simp, by simp⟩
  rintro ⟨i, X⟩ e H ⟨hi, hX, hok, ⟨d, k5, n, hn, hH⟩, k1, k23, k24, k25⟩
  simp only at hi hX hok hn k25
  have hnX : X.length = n := hn.symm
  have htX : List.take n (ofBytes X) = ofBytes X := List.take_of_length_le (by simp; omega)
  have hfl := flat_len (l := s.l.take i) (fun x hx => hs x (List.mem_of_mem_take hx)) hok
  have hXl : X.length ≤ 700000 := by
    rw [List.length_take] at hfl
    have : min i s.l.length * 10004 ≤ 64 * 10004 := Nat.mul_le_mul_right _ (by omega)
    unfold PutC at hX
    rw [hX, List.length_append, List.length_append, leB_len]
    show 4 + 2 + _ ≤ _
    omega
  by_cases hlt : i < s.l.length
  · have hlt' : (i : Int) < (s.l.length : Int) := by omega
    have hw : IntKind.i64.wrap ((i : Int) + 1) = ((i + 1 : Nat) : Int) := by rw [wrap_i64] <;> omega
    obtain ⟨x1, x2, x3⟩ := hs s.l[i] (List.getElem_mem hlt)
    have t1 := text_ev s.l[i] x1 x3 x2
    have hea : List.drop (i * 39) (encs s.l) = Enc.cells s.l[i] ++ encs (s.l.drop (i + 1)) := It.ea hlt
    have htake : s.l.take (i + 1) = s.l.take i ++ [s.l[i]] := List.take_succ_eq_append_getElem hlt
    cases ho : itOk s.l[i] with
    | false =>
      have hp : putOk s.l m.l = false := by
        unfold putOk
        have : s.l.all itOk = false := by
          cases h : s.l.all itOk with
          | false => rfl
          | true => rw [List.all_eq_true] at h; rw [h _ (List.getElem_mem hlt)] at ho; cases ho
        rw [this, Bool.and_false, Bool.and_false]
      rw [putS_none hp]
      unfold textD at t1
      rw [ho, if_neg (by decide)] at t1
      generalize s.l[i] = x at *
      rcases hH with ⟨t, rfl, rfl⟩ | ⟨t, u, rfl, rfl⟩ <;> simp [-It.ea, k5, k1, k23, k24, k25, hlt', Sl.nn hlt, hea, t1, Sl.none]
    | true =>
      unfold textD at t1
      rw [ho, if_pos rfl] at t1
      obtain ⟨tl1, tl2⟩ := textL_len x1 ho
      have hX2 : PutC s.l (i + 1) (X ++ leB 4 (textL s.l[i]).length ++ textL s.l[i]) := by
        unfold PutC at *
        rw [hX, htake, List.flatMap_append]
        simp [itB]
      have hok2 : ∀ x ∈ s.l.take (i + 1), itOk x = true := by
        intro x hx
        rw [htake] at hx
        rcases List.mem_append.1 hx with h | h
        · exact hok x h
        · rw [List.mem_singleton.1 h]; exact ho
      have a1 := leadd4 X 4 (textL s.l[i]).length (.inr rfl) (by omega)
      have hw4 : IntKind.u64.wrap ((textL s.l[i]).length : Int) = ((textL s.l[i]).length : Int) := by rw [wrap_u64]; omega
      have hz : ¬ (textL s.l[i]).length = 0 := by omega
      generalize textL s.l[i] = t at *
      generalize s.l[i] = x at *
      have hb : X.length + 4 + t.length ≤ 140737488355328 := by omega
      have hl4 : (leB 4 t.length).length = 4 := leB_len _ _
      generalize leB 4 t.length = z at *
      replace a1 : call cx 64 [.vsl false (ofBytes X) n, .int .i64 4, .int .u64 (t.length : Nat)] [] = some (.osl 0 (n + 4) 0 (n + 4) 1, [some (ofBytes (X ++ z))]) := by rw [hn]; exact a1
      have hb2 : n + 4 + t.length ≤ 140737488355328 := by omega
      rcases hH with ⟨t0, rfl, rfl⟩ | ⟨t0, u0, rfl, rfl⟩ <;> simp [-It.ea, k5, k1, k23, k24, k25, hlt', Sl.nn hlt, hea, t1, hw, hw4, hz, maxBytes, htX, a1, hb2, hnX, hl4]
      all_goals exact ⟨i + 1, by omega, by omega, _, hX2, hok2, ⟨n + 4 + t.length, by rw [List.length_append, List.length_append, hnX, hl4], .inr ⟨_, _, rfl, by rw [ofBytes_append (X ++ z) t]⟩⟩, by omega⟩
  · have hlt' : ¬ (i : Int) < (s.l.length : Int) := by omega
    have hit : s.l.take i = s.l := List.take_of_length_le (by omega)
    rw [hit] at hok
    have hall : s.l.all itOk = true := List.all_eq_true.2 hok
    have hp : putOk s.l m.l = true := by unfold putOk; rw [decide_eq_true h64, hrm, hall]; rfl
    have hb := bytes_ev m hmn hm
    have hbS : bytesS m.l = .of (mksB m.l) := by unfold bytesS; rw [hrm]; rfl
    rw [hbS] at hb
    have hraw : X ++ mksB m.l = rawB s.l m.l := by unfold PutC at hX; rw [hX, hit]; unfold rawB; simp
    have hml : (mksB m.l).length ≤ 161 := by rw [mksB_len]; have := rightM_le hrm; omega
    have hc := cseal_ev (.of (X ++ mksB m.l)) (by simp; omega)
    have hS : putS s.l m.l = if (sealB (X ++ mksB m.l)).length ≤ 65536 then .of (sealB (X ++ mksB m.l)) else .none := by
      unfold putS
      rw [hp, hraw, Bool.true_and]
      by_cases h : (sealB (rawB s.l m.l)).length ≤ 65536
      · rw [decide_eq_true h, if_pos rfl, if_pos h]
      · rw [decide_eq_false h, if_neg (by decide), if_neg h]
    rw [hS]
    simp only [Sl.of_l, Sl.of_nil] at hc hb
    generalize mksB m.l = y at *
    have hmx : X.length + y.length ≤ 140737488355328 := by omega
    have hsl := sealB_len (X ++ y)
    generalize sealB (X ++ y) = z at *
    rw [ofBytes_append, List.length_append, ← hn] at hc
    have hmn2 : n + y.length ≤ 140737488355328 := by omega
    have htk : List.take (n + y.length) (ofBytes X ++ ofBytes y) = ofBytes X ++ ofBytes y := List.take_of_length_le (by simp; omega)
    by_cases h6 : z.length ≤ 65536
    · have h6' : ¬ (65536 : Int) < (z.length : Int) := by omega
      rw [if_pos h6]
      rcases hH with ⟨t0, rfl, rfl⟩ | ⟨t0, u0, rfl, rfl⟩ <;> simp [k5, k1, k23, k24, k25, hlt', hb, hc, maxBytes, h6', htk, hmn2, hnX]
    · have h6' : (65536 : Int) < (z.length : Int) := by omega
      rw [if_neg h6]
      rcases hH with ⟨t0, rfl, rfl⟩ | ⟨t0, u0, rfl, rfl⟩ <;> simp [k5, k1, k23, k24, k25, hlt', hb, hc, maxBytes, h6', htk, hmn2, hnX, Sl.none]
end Go.Ev.S
namespace Go.Ev.S
open Go Go.Proofs Go.Ev
end Go.Ev.S
namespace Go.Ev.S
open Go Go.Proofs Go.Ev
end Go.Ev.S
namespace Go.Ev.S
open Go Go.Proofs Go.Ev
end Go.Ev.S
namespace Go.Ev.S
open Go Go.Proofs Go.Ev
end Go.Ev.S
namespace Go.Ev.S
open Go Go.Proofs Go.Ev
theorem idN_lt : ∀ j < 4, ∀ i < j, cmpB (idN i).l (idN j).l < 0 := by decide
structure FewN (i : Nat) (l : List Mk) : Prop where
  rises : risesM l = true
  ok : ∀ m ∈ l, m.Ok
  id : ∀ m ∈ l, ∃ j, j < i ∧ m.id = idN j
  len : l.length ≤ i
theorem rises_snocN : ∀ {l : List Mk} {m : Mk}, risesM l = true → (∀ x ∈ l, cmpB x.id.l m.id.l < 0) → risesM (l ++ [m]) = true
  | [], _, _, _ => rfl
  | [a], m, _, h => by simp [risesM, h a (List.mem_cons_self ..)]
  | a :: b :: l, m, hr, h => by
    simp only [risesM, Bool.and_eq_true] at hr
    have := rises_snocN (l := b :: l) hr.2 fun x hx => h x (List.mem_cons_of_mem _ hx)
    simp only [List.cons_append, risesM, Bool.and_eq_true] at this ⊢
    exact ⟨hr.1, this⟩
theorem FewN.same {i : Nat} {l : List Mk} (h : FewN i l) : FewN (i + 1) l :=
  ⟨h.rises, h.ok, fun m hm => by obtain ⟨j, h1, h2⟩ := h.id m hm; exact ⟨j, by omega, h2⟩, by have := h.len; omega⟩
theorem FewN.add {i : Nat} {l : List Mk} (h : FewN i l) (hi : i < 4) {a b c : Nat} (ha : a < 1000) (hb : b < 1000) (hc : c < 1000) : FewN (i + 1) (l ++ [⟨idN i, a, b, c⟩]) := by
  refine ⟨rises_snocN h.rises fun x hx => ?_, fun m hm => ?_, fun m hm => ?_, by have := h.len; simp; omega⟩
  · obtain ⟨j, h1, h2⟩ := h.id x hx
    rw [h2]
    exact idN_lt i hi j h1
  · rcases List.mem_append.1 hm with h' | h'
    · exact h.ok m h'
    · rw [List.mem_singleton.1 h']
      exact ⟨by simp only [isU64]; omega, by simp only [isU64]; omega, by simp only [isU64]; omega⟩
  · rcases List.mem_append.1 hm with h' | h'
    · obtain ⟨j, h1, h2⟩ := h.id m h'
      exact ⟨j, by omega, h2⟩
    · rw [List.mem_singleton.1 h']
      exact ⟨i, by omega, rfl⟩
end Go.Ev.S
namespace Go.Ev.S
open Go Go.Proofs Go.Ev
theorem made_itsB {L : List It} (h : ∀ x ∈ L, MadeI x) : ItsB L := fun x hx => by
  obtain ⟨h1, h2, h3, h4⟩ := h x hx
  refine ⟨h1, by omega, fun p hp => ?_⟩
  have := mkOk_len (h4 p hp)
  exact ⟨by omega, by omega⟩
end Go.Ev.S
namespace Go.Ev.S
open Go Go.Proofs Go.Ev
def ItsN (nil : Bool) (zs : List Int) (most k : Nat) (q : D × Heap) : Prop := ∃ (out : List It) (k' : Nat), out.length ≤ most ∧ (∀ it ∈ out, MadeI it) ∧ (k < zs.length → 0 < most → out ≠ []) ∧
  ((out = [] ∧ q = (.vsl true [] 0, [some (seqD nil zs k')])) ∨ (out ≠ [] ∧ ∃ n m, n = out.length * 39 ∧ m = out.length ∧ q = (.osl 1 n 0 m 39, [some (seqD nil zs k'), some (encs out)])))
set_option maxHeartbeats 4000000 in
theorem items_evn [MaxL] [TxtC] (nil : Bool) (zs : List Int) (hnil : nil = true → zs = []) (hz : zs.length ≤ 1000000) (k : Nat) (most : Nat) (hmost : most ≤ 100) :
    ∃ q, call cx 13 [.optr 0 2 0, .int .i64 most] [some (seqD nil zs k)] = some q ∧ ItsN nil zs most k q := by
  refine call_runE (X := cx) (f := 13) (args := [.optr 0 2 0, .int .i64 most]) (H := [some (seqD nil zs k)]) (ItsN nil zs most k) Tryz.func13 rfl ⟨rfl, rfl⟩ ?_
  have sf := seqD_free nil zs
  have sl := seqD_len nil zs
  have sc := seqD_cl nil zs
  simp [Tryz.f13]
  refine Run.loopThen (fun (q : List It × List Int × Nat) e H' => q.1.length ≤ most ∧ (∀ it ∈ q.1, MadeI it) ∧ q.2.1.length = 3 ∧ (∀ v ∈ q.2.1, 0 ≤ v ∧ v ≤ q.1.length * 6) ∧ look e 0 = some (.optr 0 2 0) ∧ look e 1 = some (.int .i64 most) ∧ ∃ d5 d6, look e 5 = some d5 ∧ look e 6 = some d6 ∧ ItsH (seqD nil zs q.2.2) q.1 q.2.1 d5 d6 H' ∧ (q.1 = [] → q.2.2 = k)) (fun q => most - q.1.length) ([], [0, 0, 0], k) ?_ ?_
  · exact ⟨by simp, by simp, by simp, by simp, by simp, by simp, _, _, by simp, by simp, .inl ⟨rfl, rfl, rfl, rfl⟩, fun _ => rfl⟩
  rintro ⟨out, last, k1⟩ e H' ⟨ho, hmade, hl3, hlast, k0, k1', d5, d6, k5, k6, hH, hk0⟩
  simp only at ho hmade hl3 hlast hH hk0
  have hmo := more_ev nil zs k1
  have hlf : (∀ x, x ∈ intsK .u64 last → idFree x = true) = True := eq_true (by simp [intsK])
  have hlc : ∀ n, (∀ x, x ∈ intsK .u64 last → closed n x = true) = True := fun n => eq_true (by simp [intsK])
  obtain ⟨x1, k2, hx1, -, c1⟩ := n_ev nil zs hnil hz k1 3 (by decide) (by decide)
  obtain ⟨x2, k3, hx2, -, c2⟩ := n_ev nil zs hnil hz k2 3 (by decide) (by decide)
  obtain ⟨x3, k4, hx3, -, c3⟩ := n_ev nil zs hnil hz k3 4 (by decide) (by decide)
  obtain ⟨x4, k5', hx4, -, c4⟩ := n_ev nil zs hnil hz k4 4 (by decide) (by decide)
  have hid := mid_small (j := x1) (by omega)
  have hx1l : x1 < last.length := by omega
  have hat := intsK_at (k := .u64) hx1l
  have hx1i : (x1 : Int) < 3 := hx1
  have hxn : x1 < 3 := by omega
  have hxn2 : x1 + 1 ≤ 3 := by omega
  obtain ⟨hv0, hv1⟩ := hlast _ (List.getElem_mem hx1l)
  obtain ⟨v, hv⟩ : ∃ v : Nat, last[x1] = (v : Int) := ⟨last[x1].toNat, by omega⟩
  rw [hv] at hat hv0 hv1
  have w1 : IntKind.u64.wrap ((v : Int) + 1) = (v : Int) + 1 := by rw [wrap_u64]; omega
  have w2 : IntKind.u64.wrap (x2 : Int) = (x2 : Int) := by rw [wrap_u64]; omega
  have w3 : IntKind.u64.wrap ((v : Int) + 1 + (x2 : Int)) = (v : Int) + 1 + (x2 : Int) := by rw [wrap_u64]; omega
  have w4 : IntKind.u64.wrap (x4 : Int) = (x4 : Int) := by rw [wrap_u64]; omega
  have w5 : IntKind.u64.wrap ((v : Int) + 1 + (x2 : Int) + (x4 : Int)) = (v : Int) + 1 + (x2 : Int) + (x4 : Int) := by rw [wrap_u64]; omega
  obtain ⟨r, k6', hr, c6⟩ := mrec_ev nil zs hnil hz k4 (v + 1 + x2) (by omega)
  rw [show ((v + 1 + x2 : Nat) : Int) = (v : Int) + 1 + x2 by omega] at c6
  have hq := (idN x1).h
  have hgm := made_gap (idN x1) (n := v + 1 + x2) (t := v + 1 + x2 + x4) (by omega) (by omega) (by omega)
  have hrm := made_rec (idN x1) (n := v + 1 + x2) (by omega) hr
  rw [show ((v + 1 + x2 : Nat) : Int) = (v : Int) + 1 + x2 by omega] at hgm
  rw [show ((v + 1 + x2 + x4 : Nat) : Int) = (v : Int) + 1 + x2 + x4 by omega] at hgm
  generalize idN x1 = iq at *
  have hq16 : List.take 16 (ofBytes iq.l) = ofBytes iq.l := List.take_of_length_le (by simp)
  have hq39 : List.take 39 (ofBytes iq.l) = ofBytes iq.l := List.take_of_length_le (by simp)
  have hset1 := fun x => intsK_set (k := .u64) (v := x) hx1l
  have hlast1 : ∀ x : Int, 0 ≤ x → x ≤ (out.length + 1 : Nat) * 6 → ∀ y ∈ last.set x1 x, 0 ≤ y ∧ y ≤ (out.length + 1 : Nat) * 6 := by
    intro x h1 h2 y hy
    rcases List.mem_or_eq_of_mem_set hy with h | rfl
    · have := hlast y h
      omega
    · exact ⟨h1, h2⟩
  have hrz := rec_noZ r
  by_cases h0 : out.length < most
  case neg =>
    rcases hH with ⟨rfl, rfl, rfl, rfl⟩ | ⟨hne, n, m, t, hn, hm, hH⟩
    · have h00 : ¬ 0 < most := h0
      simp [k0, k1', k5, k6, sc, hlf, h00]
      exact ⟨[], k1, by simp, by simp, fun _ h => absurd h h00, .inl ⟨rfl, rfl⟩⟩
    have h00 : ¬ m < most := by omega
    have hkn : m * 39 = n := by omega
    have hlk : out.length = m := hm.symm
    have htk : List.take n (encs out) = encs out := List.take_of_length_le (by simp; omega)
    rcases hH with ⟨rfl, rfl, rfl⟩ | ⟨rfl, rfl, rfl⟩
    all_goals
      simp [k0, k1', k5, k6, sc, hlf, h00, hlk]
      exact ⟨out, k1, by omega, hmade, fun _ _ => hne, .inr ⟨hne, n, m, by omega, by omega, rfl⟩⟩
  cases hmm : decide (k1 < zs.length) with
  | false =>
    rw [hmm] at hmo
    rcases hH with ⟨rfl, rfl, rfl, rfl⟩ | ⟨hne, n, m, t, hn, hm, hH⟩
    · have h00 : 0 < most := h0
      simp [k0, k1', k5, k6, hmo, sf, sc, hlf, h00]
      exact ⟨[], k1, by simp, by simp, fun h _ => (by rw [hk0 rfl, decide_eq_true h] at hmm; cases hmm), .inl ⟨rfl, rfl⟩⟩
    have h00 : m < most := by omega
    have hkn : m * 39 = n := by omega
    have hlk : out.length = m := hm.symm
    have htk : List.take n (encs out) = encs out := List.take_of_length_le (by simp; omega)
    rcases hH with ⟨rfl, rfl, rfl⟩ | ⟨rfl, rfl, rfl⟩
    all_goals
      simp [k0, k1', k5, k6, hmo, sf, sc, hlf, h00, hlk]
      exact ⟨out, k1, by omega, hmade, fun _ _ => hne, .inr ⟨hne, n, m, by omega, by omega, rfl⟩⟩
  | true =>
    rw [hmm] at hmo
    rcases hH with ⟨rfl, rfl, rfl, rfl⟩ | ⟨hne, n, m, t, hn, hm, hH⟩
    · have h00 : 0 < most := h0
      by_cases h3 : x3 = 0
      · subst h3
        simp [k0, k1', k5, k6, hmo, sf, sc, hlf, hl3, h00, c1, c2, c3, c4, hat, hx1i, hxn2, w1, w2, w3, w4, w5, hid, maxBytes, hq, hq39, List.take_append, List.drop_append, drop_bytes, hset1]
        refine ⟨[⟨iq, true, (v : Int) + 1 + x2, (v : Int) + 1 + x2 + x4, recZ⟩], by simp; omega, by simp; omega, by simpa using hgm, last.set x1 ((v : Int) + 1 + x2 + x4), by simp [hl3], hlast1 _ (by omega) (by simp at hv1 ⊢; omega), k5', .inr ⟨by simp, 39, 1, _, rfl, rfl, .inl ⟨rfl, rfl, by rw [encs_one, gap_cells]⟩⟩, fun h => by simp at h⟩
      · have h3' : ¬ (x3 : Int) = 0 := by omega
        simp [k0, k1', k5, k6, hmo, sf, sc, hlf, hl3, h00, c1, c2, c3, h3, c6, hrz, hat, hx1i, hxn2, w1, w2, w3, hid, maxBytes, hq, hq39, List.take_append, List.drop_append, drop_bytes, hset1]
        refine ⟨[⟨iq, false, 0, 0, r⟩], by simp; omega, by simp; omega, by simpa using hrm, last.set x1 ((v : Int) + 1 + x2), by simp [hl3], hlast1 _ (by omega) (by simp at hv1 ⊢; omega), k6', .inr ⟨by simp, 39, 1, _, rfl, rfl, .inl ⟨rfl, rfl, by rw [encs_one, rec_cells]⟩⟩, fun h => by simp at h⟩
    have h00 : m < most := by omega
    have hkn : m * 39 = n := by omega
    have hlk : out.length = m := hm.symm
    have htk : List.take n (encs out) = encs out := List.take_of_length_le (by simp; omega)
    have hm1 : (m + 1) * 104 ≤ 140737488355328 := by omega
    have hm2 : m + 1 ≤ 140737488355328 := by omega
    rcases hH with ⟨rfl, rfl, rfl⟩ | ⟨rfl, rfl, rfl⟩
    all_goals
      by_cases h3 : x3 = 0
      · subst h3
        simp [k0, k1', k5, k6, hmo, sf, sc, hlf, hl3, h00, hkn, hlk, hm1, hm2, c1, c2, c3, c4, hat, hx1i, hxn2, w1, w2, w3, w4, w5, hid, maxBytes, hq, hq39, List.take_append, List.drop_append, drop_bytes, hset1]
        refine ⟨out ++ [⟨iq, true, (v : Int) + 1 + x2, (v : Int) + 1 + x2 + x4, recZ⟩], by simp; omega, by simp; omega, fun it h => ?_, last.set x1 ((v : Int) + 1 + x2 + x4), by simp [hl3], by simpa using hlast1 _ (by omega) (by simp at hv1 ⊢; omega), k5', .inr ⟨by simp, n + 39, m + 1, _, by simp; omega, by simp [hlk], .inr ⟨rfl, rfl, by rw [encs_snoc, gap_cells]⟩⟩, fun h => by simp at h⟩
        rcases List.mem_append.1 h with h | h
        · exact hmade it h
        · rw [List.mem_singleton.1 h]; exact hgm
      · have h3' : ¬ (x3 : Int) = 0 := by omega
        simp [k0, k1', k5, k6, hmo, sf, sc, hlf, hl3, h00, hkn, hlk, hm1, hm2, c1, c2, c3, h3, c6, hrz, hat, hx1i, hxn2, w1, w2, w3, hid, maxBytes, hq, hq39, List.take_append, List.drop_append, drop_bytes, hset1]
        refine ⟨out ++ [⟨iq, false, 0, 0, r⟩], by simp; omega, by simp; omega, fun it h => ?_, last.set x1 ((v : Int) + 1 + x2), by simp [hl3], by simpa using hlast1 _ (by omega) (by simp at hv1 ⊢; omega), k6', .inr ⟨by simp, n + 39, m + 1, _, by simp; omega, by simp [hlk], .inr ⟨rfl, rfl, by rw [encs_snoc, rec_cells]⟩⟩, fun h => by simp at h⟩
        rcases List.mem_append.1 h with h | h
        · exact hmade it h
        · rw [List.mem_singleton.1 h]; exact hrm
end Go.Ev.S
namespace Go.Ev.S
open Go Go.Proofs Go.Ev
theorem idFreeL_ints (k : IntKind) : ∀ l : List Int, idFree.idFreeL (intsK k l) = true
  | [] => rfl
  | _ :: l => idFreeL_ints k l
theorem cmpB_self : ∀ l : List UInt8, cmpB l l = 0
  | [] => rfl
  | a :: l => by rw [cmpB, if_pos rfl]; exact cmpB_self l
def RefH (A : List It) (d : D) (H : Heap) : Prop := (A = [] ∧ d = .vsl true [] 0 ∧ ∃ t, H = [none, some t, none]) ∨ (A ≠ [] ∧ ∃ n k, n = A.length * 39 ∧ k = A.length ∧ ((∃ t, d = .osl 1 n 0 k 39 ∧ H = [some t, some (encs A)]) ∨ (∃ t, d = .osl 0 n 0 k 39 ∧ H = [some (encs A), some t])))
def badI (q : ID) : It := ⟨q, true, 2, 1, recZ⟩
theorem badI_cells (q : ID) : Enc.cells (badI q) = ofBytes q.l ++ [.bool true, .int .u64 2, .int .u64 1, .int .u64 0, .int .u64 0, .int .u64 0, .int .u8 0, .int .u8 0, .int .u8 0, .int .u8 0, .int .u8 0, .int .u8 0, .int .u8 0, .int .u8 0, .int .u8 0, .int .u8 0, .int .u8 0, .int .u8 0, .int .u8 0, .int .u8 0, .int .u8 0, .int .u8 0, .vsl true [] 0] := gap_cells q 2 1
theorem put_bad (l : List It) (q : ID) (m : List Mk) : putS (l ++ [badI q]) m = .none := by
  refine putS_none ?_
  unfold putOk
  have : (l ++ [badI q]).all itOk = false := by
    rw [List.all_append]
    have : itOk (badI q) = false := rfl
    simp [this]
  rw [this, Bool.and_false, Bool.and_false]
set_option maxHeartbeats 4000000 in
set_option maxRecDepth 8000 in
theorem wref_ev [MaxL] (n1 : Bool) (z1 : List Int) (_ : n1 = true → z1 = []) (n' which : Int) : call cx 6 [.vsl n1 (intsK .i64 z1) z1.length, .int .i64 n', .int .i64 which] [] = some (.bool true, []) := by
  have f0 := first_ev
  refine call_run Tryz.func6 rfl ⟨rfl, rfl⟩ ?_
  by_cases hz1 : z1.length ≤ 60
  case neg =>
    have hz' : (60 : Int) < (z1.length : Int) := by omega
    simp [Tryz.f6, f0, hz']
  have hz' : ¬ (60 : Int) < (z1.length : Int) := by omega
  obtain ⟨q, hq, L, k', hL12, hLm, hLn, hsh⟩ := items_evn false (0 :: 0 :: 1 :: z1) (by simp) (by simp; omega) 0 3 (by decide)
  have sf := seqD_free false (0 :: 0 :: 1 :: z1)
  have sl := seqD_len false (0 :: 0 :: 1 :: z1)
  have sc := seqD_cl false (0 :: 0 :: 1 :: z1)
  have hm1 : z1.length + 3 ≤ 140737488355328 := by omega
  have hm2 : 3 + z1.length ≤ 140737488355328 := by omega
  have hm3 : (3 + z1.length) * 8 ≤ 140737488355328 := by omega
  have hlf : (∀ x, x ∈ intsK .i64 z1 → idFree x = true) = True := eq_true (by simp [intsK])
  have hl3 : z1.length + 1 + 1 + 1 = 3 + z1.length := by omega
  have hfL := idFreeL_ints .i64 z1
  have htk3 : List.take (3 + z1.length) (D.int .i64 0 :: D.int .i64 0 :: D.int .i64 1 :: intsK .i64 z1) = D.int .i64 0 :: D.int .i64 0 :: D.int .i64 1 :: intsK .i64 z1 := List.take_of_length_le (by simp; omega)
  have hsq : call cx 13 [.optr 0 2 0, .int .i64 3] [some [.vsl false (D.int .i64 0 :: D.int .i64 0 :: D.int .i64 1 :: intsK .i64 z1) (3 + z1.length), .int .i64 0]] = some q := by
    rw [Nat.add_comm]
    exact hq
  have hLne : L ≠ [] := hLn (by simp) (by decide)
  rcases hsh with ⟨h0, -⟩ | ⟨hne, n, m, hn, hmm, rfl⟩
  · exact absurd h0 hLne
  have hkn : m * 39 = n := by omega
  have hlk : L.length = m := hmm.symm
  have htk : List.take n (encs L) = encs L := List.take_of_length_le (by simp; omega)
  simp [Tryz.f6, f0, hz', sf, maxBytes, hm2, hm3, hlf, hl3, hfL, htk3, hsq, hkn, hlk, htk]
  have hm3 : m ≤ 3 := by omega
  have hm0 : 0 < m := by
    cases L with
    | nil => exact absurd rfl hne
    | cons a l => simp at hlk; omega
  clear hsq hq htk3 hfL hl3 hlf sf sl sc
  obtain ⟨c, hc, hnum⟩ := numI_ev n' 70 (by decide) (by decide)
  refine Run.loopThen (fun (q : Nat × List It) e H' => q.1 ≤ c ∧ q.2.length = q.1 ∧ (∀ x ∈ q.2, MadeI x) ∧ look e 1 = some (.int .i64 n') ∧ look e 2 = some (.int .i64 which) ∧ look e 7 = some (.bool true) ∧ look e 8 = some (.vsl false (encs L) m) ∧ look e 10 = some (.int .i64 (q.1 : Nat)) ∧ ∃ d, look e 9 = some d ∧ RefH q.2 d H') (fun q => c - q.1) (0, []) ⟨Nat.zero_le _, rfl, by simp, by simp, by simp, by simp, by simp, by simp, _, by simp, .inl ⟨rfl, rfl, _, rfl⟩⟩ ?_
  rintro ⟨i, A⟩ e H' ⟨hi, hA, hAm, k1, k2, k7, k8, k10, d, k9, hH⟩
  simp only at hi hA hAm k10 hH
  have hH2 : (A = [] ∧ d = .vsl true [] 0 ∧ ∃ t, H' = [none, some t, none]) ∨ (∃ n k, n = A.length * 39 ∧ k = A.length ∧ A ≠ [] ∧ List.take n (encs A) = encs A ∧ k * 39 = n ∧ k ≤ 70 ∧ ((∃ t, d = .osl 1 n 0 k 39 ∧ H' = [some t, some (encs A)]) ∨ (∃ t, d = .osl 0 n 0 k 39 ∧ H' = [some (encs A), some t]))) := by
    rcases hH with h | ⟨hne, n, k, hn, hk, h⟩
    · exact .inl h
    · exact .inr ⟨n, k, hn, hk, hne, List.take_of_length_le (by simp; omega), by omega, by omega, h⟩
  clear hH
  by_cases hlt : i < c
  · have hlt' : (i : Int) < (c : Int) := by omega
    have hw : IntKind.i64.wrap ((i : Int) + 1) = ((i + 1 : Nat) : Int) := by rw [wrap_i64] <;> omega
    have hmod : (i : Int).tmod (m : Int) = ((i % m : Nat) : Int) := by rw [Int.tmod_eq_emod_of_nonneg (Int.natCast_nonneg _)]; rfl
    have hml : i % m < m := Nat.mod_lt _ hm0
    have hmL : i % m < L.length := by omega
    have hmw : IntKind.i64.wrap ((i % m : Nat) : Int) = ((i % m : Nat) : Int) := by rw [wrap_i64] <;> omega
    have hmz : ¬ (m : Int) = 0 := by omega
    have hmn : ¬ m = 0 := by omega
    have hx := hLm _ (List.getElem_mem hmL)
    have hea : List.drop (i % m * 39) (encs L) = Enc.cells L[i % m] ++ encs (L.drop (i % m + 1)) := It.ea hmL
    generalize L[i % m] = x at *
    generalize i % m = r at *
    have hr1 : (r : Int) < (m : Int) := by omega
    rcases hH2 with ⟨rfl, rfl, tt, rfl⟩ | ⟨nn, kk, hnn, hkk, hne2, htkA, hknA, hk70, ⟨tt, rfl, rfl⟩ | ⟨tt, rfl, rfl⟩⟩
    · simp [-It.ea, k1, k2, k7, k8, k9, k10, hnum, hlt', hmod, hmn, hr1, hea, hlk, hw, maxBytes]
      exact ⟨i + 1, by omega, by omega, [x], by rw [← hA]; rfl, by simpa using hx, by omega, .inr ⟨by simp, 39, 1, rfl, rfl, .inl ⟨_, rfl, by rw [encs_one]⟩⟩⟩
    all_goals
      have hlkA : A.length = kk := hkk.symm
      have m1 : (kk + 1) * 104 ≤ 140737488355328 := by omega
      have m2 : kk ≤ 140737488355327 := by omega
      simp [-It.ea, k1, k2, k7, k8, k9, k10, hnum, hlt', hmod, hmn, hr1, hea, hlk, hw, maxBytes, hlkA, hknA, m1, m2]
      exact ⟨i + 1, by omega, by omega, A ++ [x], by simp [hA], fun y hy => (List.mem_append.1 hy).elim (hAm y) (fun h => by rw [List.mem_singleton.1 h]; exact hx), by omega, .inr ⟨by simp, nn + 39, kk + 1, by simp; omega, by simp [hlkA], .inr ⟨_, rfl, by rw [encs_snoc]⟩⟩⟩
  · have hlt' : ¬ (i : Int) < (c : Int) := by omega
    have hiA : A.length < 70 := by omega
    obtain ⟨j, hj, hid⟩ := mid_ev which
    have hpA := wput_ev (Sl.grown A) .none (made_itsB hAm) (fun x hx => by cases hx) (by decide)
    have hpB := wput_ev (.of L) (.of [⟨idN j, 0, 0, 0⟩, ⟨idN j, 0, 0, 0⟩]) (made_itsB hLm) (fun x hx => by simp at hx; rw [hx]; exact ⟨u64_zero', u64_zero', u64_zero'⟩) (by simp)
    have hpC := wput_ev (.of (L ++ [badI (idN j)])) .none (fun x hx => by
      rcases List.mem_append.1 hx with h | h
      · exact made_itsB hLm x h
      · rw [List.mem_singleton.1 h]
        exact ⟨⟨by show isU64 2; unfold isU64; decide, by show isU64 1; unfold isU64; decide, ⟨u64_zero', u64_zero', u64_zero'⟩⟩, Nat.zero_lt_succ _, fun p hp => by cases hp⟩) (fun x hx => by cases hx) (by decide)
    have hpD := wput_ev (.of L) (.of (List.replicate 5 ⟨ID.zero, 0, 0, 0⟩)) (made_itsB hLm) (fun x hx => by rw [(List.mem_replicate.1 hx).2]; exact ⟨u64_zero', u64_zero', u64_zero'⟩) (by decide)
    have sB : putS L [⟨idN j, 0, 0, 0⟩, ⟨idN j, 0, 0, 0⟩] = .none := putS_none (by
      unfold putOk
      have : rightM [⟨idN j, 0, 0, 0⟩, ⟨idN j, 0, 0, 0⟩] = false := by
        unfold rightM risesM
        simp [cmpB_self]
      rw [this, Bool.false_and, Bool.and_false])
    have sD : putS L (List.replicate 5 ⟨ID.zero, 0, 0, 0⟩) = .none := putS_none (by
      unfold putOk
      have : rightM (List.replicate 5 ⟨ID.zero, 0, 0, 0⟩) = false := rfl
      rw [this, Bool.false_and, Bool.and_false])
    rw [Sl.of_l, Sl.of_l, sB] at hpB
    rw [Sl.of_l, show (Sl.none : Sl Mk).l = [] from rfl, put_bad] at hpC
    rw [Sl.of_l, Sl.of_l, sD] at hpD
    rw [Sl.grown_l, show (Sl.none : Sl Mk).l = [] from rfl] at hpA
    simp only [Sl.of_nil] at hpA hpB hpC hpD
    have hq := (idN j).h
    generalize idN j = iq at *
    rw [encs_snoc, List.length_append, hlk] at hpC
    rw [hlk] at hpB hpD
    have hbc := (badI_cells iq).symm
    have hbl : (Enc.cells (badI iq)).length = 39 := by rw [badI_cells]; simp
    generalize badI iq = bi at *
    replace hpC : call cx 25 [.vsl false (encs L ++ Enc.cells bi) (m + 1), .vsl true [] 0] [] = some (.vsl true [] 0, []) := hpC
    replace hpB : call cx 25 [.vsl false (encs L) m, .vsl false (ofBytes iq.l ++ .int .u64 0 :: .int .u64 0 :: .int .u64 0 :: (ofBytes iq.l ++ [.int .u64 0, .int .u64 0, .int .u64 0])) 2] [] = some (.vsl true [] 0, []) := by
      have e : encs ([⟨iq, 0, 0, 0⟩, ⟨iq, 0, 0, 0⟩] : List Mk) = ofBytes iq.l ++ .int .u64 0 :: .int .u64 0 :: .int .u64 0 :: (ofBytes iq.l ++ [.int .u64 0, .int .u64 0, .int .u64 0]) := by simp [encs_cons, Mk.cells]
      rw [e] at hpB
      exact hpB
    have hq16 : List.take 16 (ofBytes iq.l) = ofBytes iq.l := List.take_of_length_le (by simp)
    have hq17 : List.take 17 (ofBytes iq.l) = ofBytes iq.l := List.take_of_length_le (by simp)
    have hq18 : List.take 18 (ofBytes iq.l) = ofBytes iq.l := List.take_of_length_le (by simp)
    have hq19 : List.take 19 (ofBytes iq.l) = ofBytes iq.l := List.take_of_length_le (by simp)
    have hq39 : List.take 39 (ofBytes iq.l) = ofBytes iq.l := List.take_of_length_le (by simp)
    have e5 : encs (List.replicate 5 (⟨ID.zero, 0, 0, 0⟩ : Mk)) = (List.replicate 5 (List.replicate 16 (D.int .u8 0) ++ [.int .u64 0, .int .u64 0, .int .u64 0])).flatten := rfl
    rw [e5] at hpD
    simp [List.replicate, Sl.none] at hpD
    have b6 : (m + 1) * 39 ≤ n + 39 := by omega
    have b7 : List.take (m + 1) L = L := List.take_of_length_le (by omega)
    have b8 : List.take ((m + 1) * 39 - n) (Enc.cells bi) = Enc.cells bi := List.take_of_length_le (by rw [hbl]; omega)
    have b1 : m * 104 ≤ 140737488355328 := by omega
    have b2 : m ≤ 140737488355328 := by omega
    have b3 : (m + 1) * 104 ≤ 140737488355328 := by omega
    have b4 : m + 1 ≤ 140737488355328 := by omega
    have b5 : m ≤ 140737488355327 := by omega
    by_cases h64 : A.length ≤ 64
    · obtain ⟨p1, p2, p3, p4⟩ := put_made (m := []) hAm h64 rfl
      rw [p2] at hpA
      simp only [Sl.of_l, Sl.of_nil] at hpA
      generalize sealB (rawB A []) = b at *
      have hb0 : 0 < b.length := by rw [p3]; omega
      rcases hH2 with ⟨rfl, rfl, tt, rfl⟩ | ⟨nn, kk, hnn, hkk, hne2, htkA, hknA, hk70, ⟨tt, rfl, rfl⟩ | ⟨tt, rfl, rfl⟩⟩
      · replace hpA : call cx 25 [.vsl true [] 0, .vsl true [] 0] [] = some (.vsl false (ofBytes b) b.length, []) := hpA
        simp [-It.ea, k1, k2, k7, k8, k9, k10, hnum, hlt', hpA, hb0, hid, hlk, hkn, maxBytes, b1, b2, b3, b4, b6, b7, b8, hpB, hpC, hpD, hq, hq16, hq17, hq18, hq19, List.take_append, List.drop_append, drop_bytes, hbc]
      all_goals
        have hlkA : A.length = kk := hkk.symm
        have e1 : (Sl.grown A).nil = false := by simp [Sl.grown, hne2]
        have h64' : (kk : Int) ≤ 64 := by omega
        replace hpA : call cx 25 [.vsl false (encs A) kk, .vsl true [] 0] [] = some (.vsl false (ofBytes b) b.length, []) := by rw [e1, hlkA] at hpA; exact hpA
        simp [-It.ea, k1, k2, k7, k8, k9, k10, hnum, hlt', hpA, hb0, h64', hid, hlk, hkn, hlkA, htkA, hknA, maxBytes, b1, b2, b3, b4, b6, b7, b8, hpB, hpC, hpD, hq, hq16, hq17, hq18, hq19, List.take_append, List.drop_append, drop_bytes, hbc]
    · have hpn : putOk A [] = false := by unfold putOk; rw [decide_eq_false h64, Bool.false_and]
      rw [putS_none hpn] at hpA
      rcases hH2 with ⟨rfl, rfl, tt, rfl⟩ | ⟨nn, kk, hnn, hkk, hne2, htkA, hknA, hk70, ⟨tt, rfl, rfl⟩ | ⟨tt, rfl, rfl⟩⟩
      · exact absurd (Nat.zero_le _) h64
      all_goals
        have hlkA : A.length = kk := hkk.symm
        have e1 : (Sl.grown A).nil = false := by simp [Sl.grown, hne2]
        have h64' : ¬ (kk : Int) ≤ 64 := by omega
        replace hpA : call cx 25 [.vsl false (encs A) kk, .vsl true [] 0] [] = some (.vsl true [] 0, []) := by rw [e1, hlkA] at hpA; exact hpA
        simp [-It.ea, k1, k2, k7, k8, k9, k10, hnum, hlt', hpA, h64', hid, hlk, hkn, hlkA, htkA, hknA, maxBytes, b1, b2, b3, b4, b6, b7, b8, hpB, hpC, hpD, hq, hq16, hq17, hq18, hq19, List.take_append, List.drop_append, drop_bytes, hbc]
end Go.Ev.S
namespace Go.Ev.S
open Go Go.Proofs Go.Ev
end Go.Ev.S
namespace Go.Ev
open Go Go.Proofs Go.ChangeShapes Go.WideShapes Go.ChangeAt Go.RowKit
theorem handed_shaped {H : Type} {enc : TypeId × Value → H} {a : Assume} {C : Checked} {os : Os} {f : FuncId} {fn : Func} {s : ChangeSpec} {conds : List PathCond} {apart fresh handsOn again : Bool} {X : World → Array Value → Prop}
    (hX : ∀ (w w' : World) (args : Array Value), w.heap = w'.heap → X w args → X w' args)
    (own : ownKnob C.prog.godebug = none) (started : os.Started) (noInit : C.prog.inits.idxOf? f = none) (hfn : C.prog.funcs[f]? = some fn)
    (witness : ∃ (w : World) (tape : Tape) (i : Input), w.os = os ∧ (w.forCall tape i).Shaped C.prog ∧ i.vars = [] ∧ Input.okWide C.prog (w.forCall tape i) .any w.heap.size f i ∧
      ((s.pre enc C.prog fn conds apart (w.forCall tape i).memory i.args ∧ X (w.forCall tape i).memory i.args) ∧ sizedMet enc C.prog fn (OpenSpec.ofChange s) apart (w.forCall tape i).memory i.args) ∧ a.holds C.prog (lone (Frame.enter C.prog f i.args .normal) [] (w.forCall tape i)))
    (contract : ∀ (W : World) (base : Nat) (args : Array Value) (ds gs : List (DataW H)) (before : List MemPlace),
      (∀ (j : Nat) t v, fn.params[j]? = some t → args[j]? = some v → Value.okWide C.prog W .any base t v) →
      DataW.Whole enc C.prog fn.params.toList s.vars apart W args.toList ds gs before → X W args → W.ShapedOpen C.prog →
      Calls C.prog f args W fun e W' => ∃ v, e = .returned v ∧ s.post enc C.prog fn apart fresh handsOn again W args v W') :
    ReturnsInHanded a C os f .any (fun w args => (s.pre enc C.prog fn conds apart w args ∧ X w args) ∧ sizedMet enc C.prog fn (OpenSpec.ofChange s) apart w args) (s.post enc C.prog fn apart fresh handsOn again) := by
  refine returnsInHanded_of_calls own started noInit witness ?_
  intro w tape i _ hsh _ hok hpre _
  obtain ⟨_, _, _, fn', hfn', _, _, _, _, hval⟩ := hok
  have e : fn' = fn := Option.some.inj (hfn'.symm.trans hfn)
  subst e
  obtain ⟨⟨⟨ds, gs, before, hw, hc⟩, hx⟩, hz⟩ := hpre
  have hw' := DataW.Whole.of_heap (w' := w.forCall tape i) (by rfl) hw
  refine (contract (w.forCall tape i) w.heap.size i.args ds gs before hval hw' (hX _ _ _ (by rfl) hx) hsh).mono fun e W' ⟨v, he, hp⟩ => ?_
  subst he
  exact ChangeSpec.post_blind hp
end Go.Ev
