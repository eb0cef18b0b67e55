import Derived.Test.YtgehibgkabhcaaaGreatDoorC8
import Derived.Test.YtgehibgkabhcaaaGreatDoorTie
import Derived.Test.YtgehibgkabhcaaaGreatDoorCards
import Derived.LaidMore
import Derived.Lay
import Derived.SevenTiedAt
namespace Go.Proofs.YtgehibgkabhcaaaGreatDoor.scanSays
open Go.ChangeShapes Go.WideShapes Go.ChangeAt Go.RowKit Go.Ev Go.Ev.S
theorem laidOut1 : laidOutB Tryz.prog = true := by kernel_rfl
theorem own : ownKnob Tryz.prog.godebug = none := by kernel_rfl
theorem door_met (os : Os) (args : Array Value) : laidMetH Tryz.prog Rows.scanSaysRow.laid ((World.laidAll Tryz.prog os Rows.scanSaysRow.laid).forCall (fun _ _ => 0) ⟨#[], args, []⟩).memory :=
  by rw [MakeChecks.laidMetH_plain _ _ _ (by kernel_rfl)]; exact laidMet_laidAll _ (by kernel_rfl) (by kernel_rfl)
set_option maxRecDepth 100000 in
theorem contract (H : Type) (enc : TypeId × Value → H) (W : World) (base : Nat) (args : Array Value) (ds gs : List (DataW H)) (before : List MemPlace)
    (qau : ∀ (j : Nat) t v, Tryz.f3.params[j]? = some t → args[j]? = some v → Value.okWide Tryz.prog W .any base t v)
    (hL : laidMetH Tryz.prog Rows.scanSaysRow.laid W) (hS : W.ShapedOpen Tryz.prog)
    (hW : DataW.Whole enc Tryz.prog Tryz.f3.params.toList Rows.scanSaysSpec.vars false W args.toList ds gs before)
    (hz : (DataW.weightsEach Tryz.prog (Tryz.f3.params.toList ++ (OpenSpec.ofChange Rows.scanSaysSpec).bare.plain.varTypes Tryz.prog) (ds ++ gs)).all (fun k => decide (k ≤ reachBytes)) = true) :
    Calls Tryz.prog 3 args W fun e W' => ∃ v, e = .returned v ∧ Rows.scanSaysSpec.post enc Tryz.prog Tryz.f3 false true false false W args v W' := by
  rw [MakeChecks.laidMetH_plain _ _ _ (by kernel_rfl)] at hL
  obtain ⟨mx, Zt⟩ := Tryz.laysM219.s1_3 W hS
  have hglob := @q0n ⟨mx⟩ (@txt1 ⟨mx⟩) W hL Zt
  have hW' := hW
  obtain ⟨p, q, hA0, hV, rfl, QA, hnd⟩ := hW
  have hA : DataW.TrodAll enc Tryz.prog W 0 (fun _ => true) true Tryz.f3.params.toList args.toList ds p := hA0
  rw [Tryz.params3] at hA qau hz
  obtain ⟨v0, vs0, d0, ds0, p0, q0, qbD, rfl, rfl, h0, r0⟩ := trodAll_cons hA
  obtain ⟨v1, vs1, d1, ds1, p1, q1, rfl, rfl, rfl, h1, r1⟩ := trodAll_cons r0
  obtain ⟨v2, vs2, d2, ds2, p2, q2, rfl, rfl, rfl, h2, r2⟩ := trodAll_cons r1
  obtain ⟨v3, vs3, d3, ds3, p3, q3, rfl, rfl, rfl, h3, r3⟩ := trodAll_cons r2
  obtain ⟨v4, vs4, d4, ds4, p4, q4, rfl, rfl, rfl, h4, r4⟩ := trodAll_cons r3
  obtain ⟨rfl, rfl, rfl⟩ := trodAll_nil r4
  obtain rfl : args = #[v0, v1, v2, v3, v4] := by cases args; simp_all
  obtain ⟨rfl, rfl⟩ := trodVars_none hV
  obtain ⟨z0, hz⟩ := qeN hz
  obtain ⟨z1, hz⟩ := qeN hz
  obtain ⟨z2, hz⟩ := qeN hz
  obtain ⟨z3, hz⟩ := qeN hz
  obtain ⟨z4, hz⟩ := qeN hz
  obtain ⟨ss, c0, ss1⟩ := q2P (n := 1) un9 (by kernel_rfl) (qau 0 9 v0 rfl rfl) ⟨h0, z0⟩
  obtain ⟨ii, c1, ii1⟩ := q2O (n := 3) (α := Inf) Tryz.underlying26 (fun l => q0h) (by kernel_rfl) (qau 1 26 v1 rfl rfl) ⟨h1, z1⟩
  obtain ⟨ll, c2, ll0, ll1⟩ := qsM (n := 2) (α := ZL) qtC (fun l => q0f) (by kernel_rfl) (qau 2 27 v2 rfl rfl) ⟨h2, z2⟩
  obtain ⟨oo, c3, oo0, oo1⟩ := qsM (n := 1) (α := Sx) qtB (fun l => q0g) (by kernel_rfl) (qau 3 28 v3 rfl rfl) ⟨h3, z3⟩
  obtain ⟨bb, c4, bb1⟩ := q2Q (n := 1) qtA un5 (by kernel_rfl) (qau 4 29 v4 rfl rfl) ⟨h4, z4⟩
  exact qxB (X := @cx ⟨mx⟩ (@txt1 ⟨mx⟩)) (@qf4 ⟨mx⟩ (@txt1 ⟨mx⟩) (@qtG ⟨mx⟩)) laidOut1 Tryz.func3 rfl rfl Tryz.underlying4 (by kernel_rfl) rfl hglob hW' ⟨rfl, rfl, rfl⟩ (qff c0 (qff c1 (qff c2 (qff c3 (qff c4 qvI)))))
    (@qu6 ⟨mx⟩ ss ii ii1 ll oo bb)
set_option maxRecDepth 100000 in
theorem lifted (os : Os) (started : os.Started) (H : Type) (enc : TypeId × Value → H) :
    ReturnsInHanded {} Tryz.checked os 3 .any (fun w args => (Rows.scanSaysSpec.pre enc Tryz.prog Tryz.f3 [] false w args ∧ laidMetH Tryz.prog Rows.scanSaysRow.laid w) ∧ sizedMet enc Tryz.prog Tryz.f3 (OpenSpec.ofChange Rows.scanSaysSpec) false w args) (Rows.scanSaysSpec.post enc Tryz.prog Tryz.f3 false true false false) := by
  refine q0j (C := Tryz.checked) (X := fun w _ => laidMetH Tryz.prog Rows.scanSaysRow.laid w) (fun _ _ _ hh h => h.of_heap hh) own started (by kernel_rfl) Tryz.func3
    (ChangeSpec.witness_shaped (enc := enc) (C := Tryz.checked) (os := os) (X := fun w _ => laidMetH Tryz.prog Rows.scanSaysRow.laid w) false (World.laidAll Tryz.prog os Rows.scanSaysRow.laid) #[.string ByteArray.empty, .agg ((#[Value.int .i64 0] ++ (Array.replicate 16 (.int .u8 0))) ++ #[Value.int .u64 0, .int .u64 0]), .slice none 0 0, .slice none 0 0, .slice none 0 0] 8 (World.laidAll_os _ _ _) (World.shaped_of_ZipB (by kernel_rfl) (by kernel_rfl)) (by kernel_rfl) (by kernel_rfl) (by kernel_rfl) (door_met os _)) ?_
  intro W base args ds gs before qau hW hz hL hS
  exact contract H enc W base args ds gs before qau hL hS hW hz
theorem over : Rows.scanSaysRow.holds Tryz.pinned (OpenSpec.ofChange Rows.scanSaysSpec) :=
  OpenClaim.holds_of_wide 3 Tryz.f3 rfl rfl rfl rfl rfl rfl rfl ⟨rfl, rfl, rfl, rfl, rfl⟩ rfl rfl rfl rfl rfl (by kernel_rfl) Tryz.func3 q0L
    (of_decide_eq_true (by kernel_rfl)) (by unfold Func.isWrapper; first | (rw [if_pos (by decide +kernel)]; kernel_rfl) | (rw [if_neg (by decide +kernel)]; exact ⟨rfl, rfl⟩))
    (fun os started H enc _ => lifted os started H enc)
theorem proved : Rows.ScanSaysCardSaid :=
  Claim7.holds_tied_plain_at .later [] [.data, .data, .data, .data, .sentinel, .sentinel, .pinned] true (true, Rows.scanSaysCard.stood.harness.2) true
    over (fun _ h => by cases h) pw (fun _ h => by cases h) scanSays_row_tie rfl ⟨rfl, rfl⟩ pm rfl
    (fun f fn hf hfn => by
      obtain rfl : f = 3 := Option.some.inj (pf.symm.trans hf) |>.symm
      obtain rfl : fn = Tryz.f3 := (Option.some.inj (Tryz.func3.symm.trans hfn)).symm
      exact ⟨pl, fun j t ht => by
        rw [Tryz.params3] at ht
        have hm : t ∈ [9, 26, 27, 28, 29] := by simpa using Array.mem_of_getElem? ht
        exact (show Tryz.prog.wantsStandIn t = false by simpa using List.all_eq_true.1 pa t hm)⟩)
    pg
#print axioms proved
end Go.Proofs.YtgehibgkabhcaaaGreatDoor.scanSays
