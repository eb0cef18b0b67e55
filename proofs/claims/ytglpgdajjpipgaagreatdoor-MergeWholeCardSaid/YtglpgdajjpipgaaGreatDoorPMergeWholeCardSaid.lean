import Derived.Test.YtglpgdajjpipgaaGreatDoorC8
import Derived.Test.YtglpgdajjpipgaaGreatDoorTie
import Derived.Test.YtglpgdajjpipgaaGreatDoorCards
import Derived.LaidMore
import Derived.Lay
import Derived.SevenTiedAt
namespace Go.Proofs.YtglpgdajjpipgaaGreatDoor.mergeWhole
open Go.ChangeShapes Go.WideShapes Go.ChangeAt Go.RowKit Go.Ev Go.Ev.S
theorem laidOut1:laidOutB Tryz.prog=true:=by kernel_rfl
theorem own:ownKnob Tryz.prog.godebug=none:=by kernel_rfl
theorem door_met(os:Os)(args:Array Value):laidMetH Tryz.prog Rows.mergeWholeRow.laid ((World.laidAll Tryz.prog os Rows.mergeWholeRow.laid).forCall (fun _ _=>0) ⟨#[],args,[]⟩).memory:=
  by rw[MakeChecks.laidMetH_plain _ _ _ (by kernel_rfl)];exact laidMet_laidAll _ (by kernel_rfl) (by kernel_rfl)
set_option maxRecDepth 100000 in
theorem contract(H:Type)(enc:TypeId×Value->H)(W:World)(base:Nat)(args:Array Value)(ds gs:List (DataW H))(before:List MemPlace)
    (hval:∀(j:Nat) t v,Tryz.f3.params[j]?=some t->args[j]?=some v->Value.okWide Tryz.prog W .any base t v)
    (hL:laidMetH Tryz.prog Rows.mergeWholeRow.laid W) (hS:W.ShapedOpen Tryz.prog)
    (hW:DataW.Whole enc Tryz.prog Tryz.f3.params.toList Rows.mergeWholeSpec.vars false W args.toList ds gs before)
    (hz:(DataW.weightsEach Tryz.prog (Tryz.f3.params.toList++(OpenSpec.ofChange Rows.mergeWholeSpec).bare.plain.varTypes Tryz.prog) (ds++gs)).all (fun k=>decide (k<=reachBytes))=true):
    Calls Tryz.prog 3 args W fun e W'=>∃v,e=.returned v/\Rows.mergeWholeSpec.post enc Tryz.prog Tryz.f3 false true false false W args v W':=by
  rw[MakeChecks.laidMetH_plain _ _ _ (by kernel_rfl)] at hL
  obtain⟨mx,kF⟩:=Tryz.laysM219.s1_3 W hS
  have hglob:= @q36 ⟨mx⟩ (@txt1 ⟨mx⟩) W hL kF
  have hW':=hW
  obtain⟨p,q,hA0,hV,rfl,QK,hnd⟩:=hW
  have hA:DataW.TrodAll enc Tryz.prog W 0 (fun _=>true) true Tryz.f3.params.toList args.toList ds p:=hA0
  rw[Tryz.params3] at hA hval hz
  obtain⟨v0,vs0,d0,ds0,p0,q0,qcn,rfl,rfl,h0,r0⟩:=trodAll_cons hA
  obtain⟨v1,vs1,d1,ds1,p1,q1,rfl,rfl,rfl,h1,r1⟩:=trodAll_cons r0
  obtain⟨rfl,rfl,rfl⟩:=trodAll_nil r1
  obtain rfl:args= #[v0,v1]:=by cases args;simp_all
  obtain⟨rfl,rfl⟩:=trodVars_none hV
  obtain⟨z0,hz⟩:=qme hz
  obtain⟨z1,hz⟩:=qme hz
  obtain⟨ll,c0,ll0,ll1⟩:=q6t (n:=2) (α:=ZL) qwy (fun l=>q30) (by kernel_rfl) (hval 0 22 v0 rfl rfl) ⟨h0,z0⟩
  obtain⟨zz,zz0,c1,zz1,_,zz2⟩:=qy7 qmm un3 (by kernel_rfl) (hval 1 23 v1 rfl rfl) h1
  exact q0M (X:= @cx ⟨mx⟩ (@txt1 ⟨mx⟩)) (@good ⟨mx⟩ (@txt1 ⟨mx⟩) (@qw1 ⟨mx⟩)) laidOut1 Tryz.func3 rfl rfl Tryz.underlying4 (by kernel_rfl) rfl hglob hW' ⟨rfl,rfl,rfl⟩ (qn7 c0 (qn7 c1 qy2))
    (@q0e ⟨mx⟩ ll zz zz0 zz1 zz2)
set_option maxRecDepth 100000 in
theorem lifted(os:Os)(started:os.Started)(H:Type)(enc:TypeId×Value->H):
    ReturnsInHanded {} Tryz.checked os 3 .any (fun w args=>(Rows.mergeWholeSpec.pre enc Tryz.prog Tryz.f3 [] false w args/\laidMetH Tryz.prog Rows.mergeWholeRow.laid w)/\sizedMet enc Tryz.prog Tryz.f3 (OpenSpec.ofChange Rows.mergeWholeSpec) false w args) (Rows.mergeWholeSpec.post enc Tryz.prog Tryz.f3 false true false false):=by
  refine q32 (C:=Tryz.checked) (X:=fun w _=>laidMetH Tryz.prog Rows.mergeWholeRow.laid w) (fun _ _ _ hh h=>h.of_heap hh) own started (by kernel_rfl) Tryz.func3
    (ChangeSpec.witness_shaped (enc:=enc) (C:=Tryz.checked) (os:=os) (X:=fun w _=>laidMetH Tryz.prog Rows.mergeWholeRow.laid w) false (World.laidAll Tryz.prog os Rows.mergeWholeRow.laid) #[.slice none 0 0, .slice none 0 0] 8 (World.laidAll_os _ _ _) (World.shaped_of_ZipB (by kernel_rfl) (by kernel_rfl)) (by kernel_rfl) (by kernel_rfl) (by kernel_rfl) (door_met os _)) ?_
  intro W base args ds gs before hval hW hz hL hS
  exact contract H enc W base args ds gs before hval hL hS hW hz
theorem over:Rows.mergeWholeRow.holds Tryz.pinned (OpenSpec.ofChange Rows.mergeWholeSpec):=
  OpenClaim.holds_of_wide 3 Tryz.f3 rfl rfl rfl rfl rfl rfl rfl ⟨rfl,rfl,rfl,rfl,rfl⟩ rfl rfl rfl rfl rfl (by kernel_rfl) Tryz.func3 q4p
    (of_decide_eq_true (by kernel_rfl)) (by unfold Func.isWrapper;first|(rw[if_pos (by decide+kernel)];kernel_rfl)|(rw[if_neg (by decide+kernel)];exact⟨rfl,rfl⟩))
    (fun os started H enc _=>lifted os started H enc)
theorem proved:Rows.MergeWholeCardSaid:=
  Claim7.holds_tied_plain_at .later [] [.data, .data, .data, .data, .sentinel, .sentinel, .pinned] true (true,Rows.mergeWholeCard.stood.harness.2) true
    over (fun _ h=>by cases h) pw (fun _ h=>by cases h) mergeWhole_row_tie rfl ⟨rfl,rfl⟩ pm rfl
    (fun f fn hf hfn=>by
      obtain rfl:f=3:=Option.some.inj (pf.symm.trans hf)|>.symm
      obtain rfl:fn=Tryz.f3:=(Option.some.inj (Tryz.func3.symm.trans hfn)).symm
      exact⟨pl,fun j t ht=>by
        rw[Tryz.params3] at ht
        have hm:t∈[22,23]:=by simpa using Array.mem_of_getElem? ht
        exact(show Tryz.prog.wantsStandIn t=false by simpa using List.all_eq_true.1 pa t hm)⟩)
    pg
#print axioms proved
end Go.Proofs.YtglpgdajjpipgaaGreatDoor.mergeWhole
