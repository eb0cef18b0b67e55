/- AgentArgs: for every input the call returns true, and each argument reads as it did; the card is tied. Conditions: none beside the statement's own. -/
import Derived.Test.YtgbahhhhfgppjaaGreatDoorC7
import Derived.Test.YtgbahhhhfgppjaaGreatDoorTie
import Derived.Test.YtgbahhhhfgppjaaGreatDoorCards
import Derived.LaidMore
import Derived.Lay
import Derived.SevenTiedAt
namespace Go.Proofs.YtgbahhhhfgppjaaGreatDoor.agentArgs
open Go.ChangeShapes Go.WideShapes Go.ChangeAt Go.RowKit Go.Ev Go.Ev.S
theorem laidOut1 : laidOutB Tryz.prog = true := by kernel_rfl
theorem own : ownKnob Tryz.prog.godebug = none := by kernel_rfl
theorem door_met (os : Os) (args : Array Value) : laidMetH Tryz.prog Rows.agentArgsRow.laid ((World.laidAll Tryz.prog os Rows.agentArgsRow.laid).forCall (fun _ _ => 0) ⟨#[], args, []⟩).memory :=
  by rw [MakeChecks.laidMetH_plain _ _ _ (by kernel_rfl)]; exact laidMet_laidAll _ (by kernel_rfl) (by kernel_rfl)
set_option maxRecDepth 100000 in
theorem contract (H : Type) (enc : TypeId × Value → H) (W : World) (base : Nat) (args : Array Value) (ds gs : List (DataW H)) (before : List MemPlace)
    (hval : ∀ (j : Nat) t v, Tryz.f3.params[j]? = some t → args[j]? = some v → Value.okWide Tryz.prog W .any base t v)
    (hL : laidMetH Tryz.prog Rows.agentArgsRow.laid W) (hS : W.ShapedOpen Tryz.prog)
    (hW : DataW.Whole enc Tryz.prog Tryz.f3.params.toList Rows.agentArgsSpec.vars false W args.toList ds gs before)
    (hz : (DataW.weightsEach Tryz.prog (Tryz.f3.params.toList ++ (OpenSpec.ofChange Rows.agentArgsSpec).bare.plain.varTypes Tryz.prog) (ds ++ gs)).all (fun k => decide (k ≤ reachBytes)) = true) :
    Calls Tryz.prog 3 args W fun e W' => ∃ v, e = .returned v ∧ Rows.agentArgsSpec.post enc Tryz.prog Tryz.f3 false true false false W args v W' := by
  rw [MakeChecks.laidMetH_plain _ _ _ (by kernel_rfl)] at hL
  obtain ⟨mx, hmx⟩ := Tryz.laysM185.s1_3 W hS
  have hglob := @globs ⟨mx⟩ W hL hmx
  have hW' := hW
  obtain ⟨p, q, hA0, hV, rfl, hfz, hnd⟩ := hW
  have hA : DataW.TrodAll enc Tryz.prog W 0 (fun _ => true) true Tryz.f3.params.toList args.toList ds p := hA0
  rw [Tryz.params3] at hA hval hz
  obtain ⟨v0, vs0, d0, ds0, p0, q0, hargs, rfl, rfl, h0, r0⟩ := trodAll_cons hA
  obtain ⟨v1, vs1, d1, ds1, p1, q1, rfl, rfl, rfl, h1, r1⟩ := trodAll_cons r0
  obtain ⟨v2, vs2, d2, ds2, p2, q2, rfl, rfl, rfl, h2, r2⟩ := trodAll_cons r1
  obtain ⟨v3, vs3, d3, ds3, p3, q3, rfl, rfl, rfl, h3, r3⟩ := trodAll_cons r2
  obtain ⟨v4, vs4, d4, ds4, p4, q4, rfl, rfl, rfl, h4, r4⟩ := trodAll_cons r3
  obtain ⟨v5, vs5, d5, ds5, p5, q5, rfl, rfl, rfl, h5, r5⟩ := trodAll_cons r4
  obtain ⟨rfl, rfl, rfl⟩ := trodAll_nil r5
  obtain rfl : args = #[v0, v1, v2, v3, v4, v5] := by cases args; simp_all
  obtain ⟨rfl, rfl⟩ := trodVars_none hV
  obtain ⟨z0, hz⟩ := wokEach_cons hz
  obtain ⟨z1, hz⟩ := wokEach_cons hz
  obtain ⟨z2, hz⟩ := wokEach_cons hz
  obtain ⟨z3, hz⟩ := wokEach_cons hz
  obtain ⟨z4, hz⟩ := wokEach_cons hz
  obtain ⟨z5, hz⟩ := wokEach_cons hz
  obtain ⟨gg, c0, gg1⟩ := arg_struct (n := 6) (α := Mat) Tryz.underlying24 (fun l => has_MatS) (by kernel_rfl) (hval 0 24 v0 rfl rfl) ⟨h0, z0⟩
  obtain ⟨ll, c1, ll1⟩ := arg_struct (n := 2) (α := Lim) Tryz.underlying26 (fun l => has_Lim) (by kernel_rfl) (hval 1 26 v1 rfl rfl) ⟨h1, z1⟩
  obtain ⟨ff, c2, ff1⟩ := arg_i64 (n := 1) un3 (by kernel_rfl) (hval 2 3 v2 rfl rfl) ⟨h2, z2⟩
  obtain ⟨kk, c3, kk1⟩ := arg_i64 (n := 1) un3 (by kernel_rfl) (hval 3 3 v3 rfl rfl) ⟨h3, z3⟩
  obtain ⟨tt, c4, tt1⟩ := arg_i64 (n := 1) un3 (by kernel_rfl) (hval 4 3 v4 rfl rfl) ⟨h4, z4⟩
  obtain ⟨zz, zz0, c5, zz1, _, _⟩ := read_ints un27 un3 (by kernel_rfl) (hval 5 27 v5 rfl rfl) h5
  exact law_step (X := @cx ⟨mx⟩) (@good ⟨mx⟩) laidOut1 Tryz.func3 rfl rfl Tryz.underlying4 (by kernel_rfl) rfl hglob hW' ⟨rfl, rfl, rfl⟩ (repL_cons' c0 (repL_cons' c1 (repL_cons' c2 (repL_cons' c3 (repL_cons' c4 (repL_cons' c5 repL_nil'))))))
    (@args_ev ⟨mx⟩ gg gg1 ll ff kk tt zz zz0 zz1)
set_option maxRecDepth 100000 in
theorem lifted (os : Os) (started : os.Started) (H : Type) (enc : TypeId × Value → H) :
    ReturnsInHanded {} Tryz.checked os 3 .any (fun w args => (Rows.agentArgsSpec.pre enc Tryz.prog Tryz.f3 [] false w args ∧ laidMetH Tryz.prog Rows.agentArgsRow.laid w) ∧ sizedMet enc Tryz.prog Tryz.f3 (OpenSpec.ofChange Rows.agentArgsSpec) false w args) (Rows.agentArgsSpec.post enc Tryz.prog Tryz.f3 false true false false) := by
  refine handed_sized (C := Tryz.checked) (X := fun w _ => laidMetH Tryz.prog Rows.agentArgsRow.laid w) (fun _ _ _ hh h => h.of_heap hh) own started (by kernel_rfl) Tryz.func3
    (ChangeSpec.witness_shaped (enc := enc) (C := Tryz.checked) (os := os) (X := fun w _ => laidMetH Tryz.prog Rows.agentArgsRow.laid w) false (World.laidAll Tryz.prog os Rows.agentArgsRow.laid) #[.agg #[.slice none 0 0], .agg #[.int .i64 0, .int .i64 0, .int .i64 0], .int .i64 0, .int .i64 0, .int .i64 0, .slice none 0 0] 8 (World.laidAll_os _ _ _) (World.shaped_of_ZipB (by kernel_rfl) (by kernel_rfl)) (by kernel_rfl) (by kernel_rfl) (by kernel_rfl) (door_met os _)) ?_
  intro W base args ds gs before hval hW hz hL hS
  exact contract H enc W base args ds gs before hval hL hS hW hz
theorem over : Rows.agentArgsRow.holds Tryz.pinned (OpenSpec.ofChange Rows.agentArgsSpec) :=
  OpenClaim.holds_of_wide 3 Tryz.f3 rfl rfl rfl rfl rfl rfl rfl ⟨rfl, rfl, rfl, rfl, rfl⟩ rfl rfl rfl rfl rfl (by kernel_rfl) Tryz.func3 facts
    (of_decide_eq_true (by kernel_rfl)) (by unfold Func.isWrapper; first | (rw [if_pos (by decide +kernel)]; kernel_rfl) | (rw [if_neg (by decide +kernel)]; exact ⟨rfl, rfl⟩))
    (fun os started H enc _ => lifted os started H enc)
theorem proved : Rows.AgentArgsCardSaid :=
  Claim7.holds_tied_plain_at .later [] [.data, .data, .data, .data, .sentinel, .sentinel, .pinned] true (true, Rows.agentArgsCard.stood.harness.2) true
    over (fun _ h => by cases h) pw (fun _ h => by cases h) agentArgs_row_tie rfl ⟨rfl, rfl⟩ pm rfl
    (fun f fn hf hfn => by
      obtain rfl : f = 3 := Option.some.inj (pf.symm.trans hf) |>.symm
      obtain rfl : fn = Tryz.f3 := (Option.some.inj (Tryz.func3.symm.trans hfn)).symm
      exact ⟨pl, fun j t ht => by
        rw [Tryz.params3] at ht
        have hm : t ∈ [24, 26, 3, 3, 3, 27] := by simpa using Array.mem_of_getElem? ht
        exact (show Tryz.prog.wantsStandIn t = false by simpa using List.all_eq_true.1 pa t hm)⟩)
    pg
#print axioms proved
end Go.Proofs.YtgbahhhhfgppjaaGreatDoor.agentArgs
