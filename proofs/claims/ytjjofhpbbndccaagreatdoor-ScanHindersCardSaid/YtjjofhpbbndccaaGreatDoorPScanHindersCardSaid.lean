import Derived.Test.YtjjofhpbbndccaaGreatDoorC7
import Derived.Test.YtjjofhpbbndccaaGreatDoorTie
import Derived.Test.YtjjofhpbbndccaaGreatDoorCards
import Derived.LaidMore
import Derived.Lay
import Derived.SevenTiedAt
namespace Go.Proofs.YtjjofhpbbndccaaGreatDoor.scanHinders
open Go.ChangeShapes Go.WideShapes Go.ChangeAt Go.RowKit Go.Ev Go.Ev.S
theorem laidOut1 : laidOutB Tryz.prog = true := by kernel_rfl
theorem own : ownKnob Tryz.prog.godebug = none := by kernel_rfl
theorem door_met (os : Os) (args : Array Value) : laidMetH Tryz.prog Rows.scanHindersRow.laid ((World.laidAll Tryz.prog os Rows.scanHindersRow.laid).forCall (fun _ _ => 0) ⟨#[], args, []⟩).memory :=
  by rw [MakeChecks.laidMetH_plain _ _ _ (by kernel_rfl)]; exact laidMet_laidAll _ (by kernel_rfl) (by kernel_rfl)
set_option maxRecDepth 100000 in
theorem contract (H : Type) (enc : TypeId × Value → H) (W : World) (base : Nat) (args : Array Value) (ds gs : List (DataW H)) (before : List MemPlace)
    (X4 : ∀ (j : Nat) t v, Tryz.f3.params[j]? = some t → args[j]? = some v → Value.okWide Tryz.prog W .any base t v)
    (hL : laidMetH Tryz.prog Rows.scanHindersRow.laid W) (hS : W.ShapedOpen Tryz.prog)
    (hW : DataW.Whole enc Tryz.prog Tryz.f3.params.toList Rows.scanHindersSpec.vars false W args.toList ds gs before)
    (hz : (DataW.weightsEach Tryz.prog (Tryz.f3.params.toList ++ (OpenSpec.ofChange Rows.scanHindersSpec).bare.plain.varTypes Tryz.prog) (ds ++ gs)).all (fun k => decide (k ≤ reachBytes)) = true) :
    Calls Tryz.prog 3 args W fun e W' => ∃ v, e = .returned v ∧ Rows.scanHindersSpec.post enc Tryz.prog Tryz.f3 false true false false W args v W' := by
  rw [MakeChecks.laidMetH_plain _ _ _ (by kernel_rfl)] at hL
  obtain ⟨mx, Zl⟩ := Tryz.laysM219.s1_3 W hS
  have hglob := @qtv ⟨mx⟩ (@txt1 ⟨mx⟩) W hL Zl
  have hW' := hW
  obtain ⟨p, q, hA0, hV, rfl, kF, hnd⟩ := hW
  have hA : DataW.TrodAll enc Tryz.prog W 0 (fun _ => true) true Tryz.f3.params.toList args.toList ds p := hA0
  rw [Tryz.params3] at hA X4 hz
  obtain ⟨v0, vs0, d0, ds0, p0, q0, XN, rfl, rfl, h0, r0⟩ := trodAll_cons hA
  obtain ⟨v1, vs1, d1, ds1, p1, q1, rfl, rfl, rfl, h1, r1⟩ := trodAll_cons r0
  obtain ⟨v2, vs2, d2, ds2, p2, q2, rfl, rfl, rfl, h2, r2⟩ := trodAll_cons r1
  obtain ⟨v3, vs3, d3, ds3, p3, q3, rfl, rfl, rfl, h3, r3⟩ := trodAll_cons r2
  obtain ⟨rfl, rfl, rfl⟩ := trodAll_nil r3
  obtain rfl : args = #[v0, v1, v2, v3] := by cases args; simp_all
  obtain ⟨rfl, rfl⟩ := trodVars_none hV
  obtain ⟨z0, hz⟩ := qcH hz
  obtain ⟨z1, hz⟩ := qcH hz
  obtain ⟨z2, hz⟩ := qcH hz
  obtain ⟨z3, hz⟩ := qcH hz
  obtain ⟨ll, c0, ll0, ll1⟩ := qvX (n := 2) (α := ZL) ql8 (fun l => qtq) (by kernel_rfl) (X4 0 22 v0 rfl rfl) ⟨h0, z0⟩
  obtain ⟨ss, c1⟩ := qvY (n := 1) ql7 un5 (by kernel_rfl) (X4 1 24 v1 rfl rfl) ⟨h1, z1⟩
  obtain ⟨nn, c2, nn1⟩ := qvW (n := 1) ql6 (by kernel_rfl) (X4 2 25 v2 rfl rfl) ⟨h2, z2⟩
  obtain ⟨bb, c3, bb1⟩ := qvZ (n := 1) ql5 un5 (by kernel_rfl) (X4 3 26 v3 rfl rfl) ⟨h3, z3⟩
  exact qoX (X := @cx ⟨mx⟩ (@txt1 ⟨mx⟩)) (@qch ⟨mx⟩ (@txt1 ⟨mx⟩) (@qlC ⟨mx⟩)) laidOut1 Tryz.func3 rfl rfl Tryz.underlying4 (by kernel_rfl) rfl hglob hW' ⟨rfl, rfl, rfl⟩ (qcZ c0 (qcZ c1 (qcZ c2 (qcZ c3 qnn))))
    (@qsO ⟨mx⟩ ll ss nn nn1 bb)
set_option maxRecDepth 100000 in
theorem lifted (os : Os) (started : os.Started) (H : Type) (enc : TypeId × Value → H) :
    ReturnsInHanded {} Tryz.checked os 3 .any (fun w args => (Rows.scanHindersSpec.pre enc Tryz.prog Tryz.f3 [] false w args ∧ laidMetH Tryz.prog Rows.scanHindersRow.laid w) ∧ sizedMet enc Tryz.prog Tryz.f3 (OpenSpec.ofChange Rows.scanHindersSpec) false w args) (Rows.scanHindersSpec.post enc Tryz.prog Tryz.f3 false true false false) := by
  refine qts (C := Tryz.checked) (X := fun w _ => laidMetH Tryz.prog Rows.scanHindersRow.laid w) (fun _ _ _ hh h => h.of_heap hh) own started (by kernel_rfl) Tryz.func3
    (ChangeSpec.witness_shaped (enc := enc) (C := Tryz.checked) (os := os) (X := fun w _ => laidMetH Tryz.prog Rows.scanHindersRow.laid w) false (World.laidAll Tryz.prog os Rows.scanHindersRow.laid) #[.slice none 0 0, .agg (Array.replicate 16 (.int .u8 0)), .int .u64 0, .slice none 0 0] 8 (World.laidAll_os _ _ _) (World.shaped_of_ZipB (by kernel_rfl) (by kernel_rfl)) (by kernel_rfl) (by kernel_rfl) (by kernel_rfl) (door_met os _)) ?_
  intro W base args ds gs before X4 hW hz hL hS
  exact contract H enc W base args ds gs before X4 hL hS hW hz
theorem over : Rows.scanHindersRow.holds Tryz.pinned (OpenSpec.ofChange Rows.scanHindersSpec) :=
  OpenClaim.holds_of_wide 3 Tryz.f3 rfl rfl rfl rfl rfl rfl rfl ⟨rfl, rfl, rfl, rfl, rfl⟩ rfl rfl rfl rfl rfl (by kernel_rfl) Tryz.func3 qud
    (of_decide_eq_true (by kernel_rfl)) (by unfold Func.isWrapper; first | (rw [if_pos (by decide +kernel)]; kernel_rfl) | (rw [if_neg (by decide +kernel)]; exact ⟨rfl, rfl⟩))
    (fun os started H enc _ => lifted os started H enc)
theorem proved : Rows.ScanHindersCardSaid :=
  Claim7.holds_tied_plain_at .later [] [.data, .data, .data, .data, .sentinel, .sentinel, .pinned] true (true, Rows.scanHindersCard.stood.harness.2) true
    over (fun _ h => by cases h) pw (fun _ h => by cases h) scanHinders_row_tie rfl ⟨rfl, rfl⟩ pm rfl
    (fun f fn hf hfn => by
      obtain rfl : f = 3 := Option.some.inj (pf.symm.trans hf) |>.symm
      obtain rfl : fn = Tryz.f3 := (Option.some.inj (Tryz.func3.symm.trans hfn)).symm
      exact ⟨pl, fun j t ht => by
        rw [Tryz.params3] at ht
        have hm : t ∈ [22, 24, 25, 26] := by simpa using Array.mem_of_getElem? ht
        exact (show Tryz.prog.wantsStandIn t = false by simpa using List.all_eq_true.1 pa t hm)⟩)
    pg
#print axioms proved
end Go.Proofs.YtjjofhpbbndccaaGreatDoor.scanHinders
