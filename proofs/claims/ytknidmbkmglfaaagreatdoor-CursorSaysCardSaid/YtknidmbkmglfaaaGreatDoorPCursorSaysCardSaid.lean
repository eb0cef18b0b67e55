/- CursorSays: for every input the call returns true, and each argument reads as it did; the card is tied. Conditions: none beside the statement's own. -/
import Derived.Test.YtknidmbkmglfaaaGreatDoorC5
import Derived.Test.YtknidmbkmglfaaaGreatDoorTie
import Derived.Test.YtknidmbkmglfaaaGreatDoorCards
import Derived.LaidMore
import Derived.Lay
import Derived.SevenTiedAt
namespace Go.Proofs.YtknidmbkmglfaaaGreatDoor.cursorSays
open Go.ChangeShapes Go.WideShapes Go.ChangeAt Go.RowKit Go.Ev Go.Ev.S
theorem laidOut1 : laidOutB Tryz.prog = true := by kernel_rfl
theorem own : ownKnob Tryz.prog.godebug = none := by kernel_rfl
theorem door_met (os : Os) (args : Array Value) : laidMetH Tryz.prog Rows.cursorSaysRow.laid ((World.laidAll Tryz.prog os Rows.cursorSaysRow.laid).forCall (fun _ _ => 0) ⟨#[], args, []⟩).memory :=
  by rw [MakeChecks.laidMetH_plain _ _ _ (by kernel_rfl)]; exact laidMet_laidAll _ (by kernel_rfl) (by kernel_rfl)
set_option maxRecDepth 100000 in
theorem contract (H : Type) (enc : TypeId × Value → H) (W : World) (base : Nat) (args : Array Value) (ds gs : List (DataW H)) (before : List MemPlace)
    (hval : ∀ (j : Nat) t v, Tryz.f3.params[j]? = some t → args[j]? = some v → Value.okWide Tryz.prog W .any base t v)
    (hL : laidMetH Tryz.prog Rows.cursorSaysRow.laid W) (hS : W.ShapedOpen Tryz.prog)
    (hW : DataW.Whole enc Tryz.prog Tryz.f3.params.toList Rows.cursorSaysSpec.vars false W args.toList ds gs before) :
    Calls Tryz.prog 3 args W fun e W' => ∃ v, e = .returned v ∧ Rows.cursorSaysSpec.post enc Tryz.prog Tryz.f3 false true false false W args v W' := by
  rw [MakeChecks.laidMetH_plain _ _ _ (by kernel_rfl)] at hL
  obtain ⟨mx, hmx⟩ := Tryz.laysM219.s1_3 W hS
  have hglob := @globs ⟨mx⟩ W hL hmx
  have hW' := hW
  obtain ⟨p, q, hA0, hV, rfl, hfz, hnd⟩ := hW
  have hA : DataW.TrodAll enc Tryz.prog W 0 (fun _ => true) true Tryz.f3.params.toList args.toList ds p := hA0
  rw [Tryz.params3] at hA hval
  obtain ⟨v0, vs0, d0, ds0, p0, q0, hargs, rfl, rfl, h0, r0⟩ := trodAll_cons hA
  obtain ⟨v1, vs1, d1, ds1, p1, q1, rfl, rfl, rfl, h1, r1⟩ := trodAll_cons r0
  obtain ⟨v2, vs2, d2, ds2, p2, q2, rfl, rfl, rfl, h2, r2⟩ := trodAll_cons r1
  obtain ⟨v3, vs3, d3, ds3, p3, q3, rfl, rfl, rfl, h3, r3⟩ := trodAll_cons r2
  obtain ⟨rfl, rfl, rfl⟩ := trodAll_nil r3
  obtain rfl : args = #[v0, v1, v2, v3] := by cases args; simp_all
  obtain ⟨rfl, rfl⟩ := trodVars_none hV
  obtain ⟨ss, c0, ss1⟩ := arg_str (n := 1) un9 (by kernel_rfl) (hval 0 9 v0 rfl rfl) h0
  obtain ⟨cc, c1, cc1⟩ := arg_struct (n := 3) (α := Cur) Tryz.underlying26 (fun l => has_Cur) (by kernel_rfl) (hval 1 26 v1 rfl rfl) h1
  obtain ⟨dd, c2, dd1⟩ := arg_struct (n := 3) (α := Cur) Tryz.underlying26 (fun l => has_Cur) (by kernel_rfl) (hval 2 26 v2 rfl rfl) h2
  obtain ⟨rr, c3, rr1⟩ := arg_struct (n := 4) (α := Rec) Tryz.underlying29 (fun l => has_Rec) (by kernel_rfl) (hval 3 29 v3 rfl rfl) h3
  exact law_step (X := @cx ⟨mx⟩) (@good ⟨mx⟩) laidOut1 Tryz.func3 rfl rfl Tryz.underlying4 (by kernel_rfl) rfl hglob hW' ⟨rfl, rfl, rfl⟩ (repL_cons' c0 (repL_cons' c1 (repL_cons' c2 (repL_cons' c3 repL_nil'))))
    (@says_ev ⟨mx⟩ ss cc dd cc1 dd1 rr)
set_option maxRecDepth 100000 in
theorem lifted (os : Os) (started : os.Started) (H : Type) (enc : TypeId × Value → H) :
    ReturnsInHanded {} Tryz.checked os 3 .any (fun w args => (Rows.cursorSaysSpec.pre enc Tryz.prog Tryz.f3 [] false w args ∧ laidMetH Tryz.prog Rows.cursorSaysRow.laid w) ∧ sizedMet enc Tryz.prog Tryz.f3 (OpenSpec.ofChange Rows.cursorSaysSpec) false w args) (Rows.cursorSaysSpec.post enc Tryz.prog Tryz.f3 false true false false) := by
  refine handed_shaped (C := Tryz.checked) (X := fun w _ => laidMetH Tryz.prog Rows.cursorSaysRow.laid w) (fun _ _ _ hh h => h.of_heap hh) own started (by kernel_rfl) Tryz.func3
    (ChangeSpec.witness_shaped (enc := enc) (C := Tryz.checked) (os := os) (X := fun w _ => laidMetH Tryz.prog Rows.cursorSaysRow.laid w) false (World.laidAll Tryz.prog os Rows.cursorSaysRow.laid) #[.string ByteArray.empty, .agg ((Array.replicate 16 (.int .u8 0)).push (.int .u64 0) ++ (Array.replicate 16 (.int .u8 0)).push (.int .u64 0) ++ #[.int .u64 0, .int .u64 0]), .agg ((Array.replicate 16 (.int .u8 0)).push (.int .u64 0) ++ (Array.replicate 16 (.int .u8 0)).push (.int .u64 0) ++ #[.int .u64 0, .int .u64 0]), .agg (#[Value.int .u64 0, Value.int .u64 0, Value.int .u64 0] ++ (Array.replicate 16 (.int .u8 0)).push (.slice none 0 0))] 8 (World.laidAll_os _ _ _) (World.shaped_of_ZipB (by kernel_rfl) (by kernel_rfl)) (by kernel_rfl) (by kernel_rfl) (by kernel_rfl) (door_met os _)) ?_
  intro W base args ds gs before hval hW hL hS
  exact contract H enc W base args ds gs before hval hL hS hW
theorem over : Rows.cursorSaysRow.holds Tryz.pinned (OpenSpec.ofChange Rows.cursorSaysSpec) :=
  OpenClaim.holds_of_wide 3 Tryz.f3 rfl rfl rfl rfl rfl rfl rfl ⟨rfl, rfl, rfl, rfl, rfl⟩ rfl rfl rfl rfl rfl (by kernel_rfl) Tryz.func3 (by kernel_rfl)
    (of_decide_eq_true (by kernel_rfl)) (by unfold Func.isWrapper; first | (rw [if_pos (by decide +kernel)]; kernel_rfl) | (rw [if_neg (by decide +kernel)]; exact ⟨rfl, rfl⟩))
    (fun os started H enc _ => lifted os started H enc)
theorem proved : Rows.CursorSaysCardSaid :=
  Claim7.holds_tied_plain_at .later [] [.data, .data, .data, .data, .sentinel, .sentinel, .pinned] true (true, Rows.cursorSaysCard.stood.harness.2) true
    over (fun _ h => by cases h) (by kernel_rfl) (fun _ h => by cases h) cursorSays_row_tie rfl ⟨rfl, rfl⟩ (by kernel_rfl) rfl
    (fun f fn hf hfn => by
      obtain rfl : f = 3 := Option.some.inj ((show Tryz.prog.funcNamed Tryz.f3.name = some 3 by kernel_rfl).symm.trans hf) |>.symm
      obtain rfl : fn = Tryz.f3 := (Option.some.inj (Tryz.func3.symm.trans hfn)).symm
      exact ⟨by kernel_rfl, fun j t ht => by
        rw [Tryz.params3] at ht
        have hm : t ∈ [9, 26, 26, 29] := by simpa using Array.mem_of_getElem? ht
        have hall : ([9, 26, 26, 29].all fun u => !Tryz.prog.wantsStandIn u) = true := by kernel_rfl
        exact (show Tryz.prog.wantsStandIn t = false by simpa using List.all_eq_true.1 hall t hm)⟩)
    (by kernel_rfl)
#print axioms proved
end Go.Proofs.YtknidmbkmglfaaaGreatDoor.cursorSays
