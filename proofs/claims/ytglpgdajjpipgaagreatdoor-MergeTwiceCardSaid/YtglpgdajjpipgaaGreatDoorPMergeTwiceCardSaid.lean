import Derived.Test.YtglpgdajjpipgaaGreatDoorC8
import Derived.Test.YtglpgdajjpipgaaGreatDoorTie
import Derived.Test.YtglpgdajjpipgaaGreatDoorCards
import Derived.LaidMore
import Derived.Lay
import Derived.SevenTiedAt
namespace Go.Proofs.YtglpgdajjpipgaaGreatDoor.mergeTwice
open Go.ChangeShapes Go.WideShapes Go.ChangeAt Go.RowKit Go.Ev Go.Ev.S
theorem laidOut1:laidOutB Tryz.prog=true:=by kernel_rfl
theorem own:ownKnob Tryz.prog.godebug=none:=by kernel_rfl
theorem door_met(os:Os)(args:Array Value):laidMetH Tryz.prog Rows.mergeTwiceRow.laid ((World.laidAll Tryz.prog os Rows.mergeTwiceRow.laid).forCall (fun _ _=>0) ⟨#[],args,[]⟩).memory:=
  by rw[MakeChecks.laidMetH_plain _ _ _ (by kernel_rfl)];exact laidMet_laidAll _ (by kernel_rfl) (by kernel_rfl)
set_option maxRecDepth 100000 in
theorem contract(H:Type)(enc:TypeId×Value->H)(W:World)(base:Nat)(args:Array Value)(ds gs:List (DataW H))(before:List MemPlace)
    (qdj:∀(j:Nat) t v,Tryz.f4.params[j]?=some t->args[j]?=some v->Value.okWide Tryz.prog W .any base t v)
    (hL:laidMetH Tryz.prog Rows.mergeTwiceRow.laid W) (hS:W.ShapedOpen Tryz.prog)
    (hW:DataW.Whole enc Tryz.prog Tryz.f4.params.toList Rows.mergeTwiceSpec.vars false W args.toList ds gs before)
    (hz:(DataW.weightsEach Tryz.prog (Tryz.f4.params.toList++(OpenSpec.ofChange Rows.mergeTwiceSpec).bare.plain.varTypes Tryz.prog) (ds++gs)).all (fun k=>decide (k<=reachBytes))=true):
    Calls Tryz.prog 4 args W fun e W'=>∃v,e=.returned v/\Rows.mergeTwiceSpec.post enc Tryz.prog Tryz.f4 false true false false W args v W':=by
  rw[MakeChecks.laidMetH_plain _ _ _ (by kernel_rfl)] at hL
  obtain⟨mx,kG⟩:=Tryz.laysM219.s1_3 W hS
  have hglob:= @q3V ⟨mx⟩ (@txt1 ⟨mx⟩) W hL kG
  have hW':=hW
  obtain⟨p,q,hA0,hV,rfl,QL,hnd⟩:=hW
  have hA:DataW.TrodAll enc Tryz.prog W 0 (fun _=>true) true Tryz.f4.params.toList args.toList ds p:=hA0
  rw[Tryz.params4] at hA qdj hz
  obtain⟨v0,vs0,d0,ds0,p0,q0,qcf,rfl,rfl,h0,r0⟩:=trodAll_cons hA
  obtain⟨v1,vs1,d1,ds1,p1,q1,rfl,rfl,rfl,h1,r1⟩:=trodAll_cons r0
  obtain⟨v2,vs2,d2,ds2,p2,q2,rfl,rfl,rfl,h2,r2⟩:=trodAll_cons r1
  obtain⟨rfl,rfl,rfl⟩:=trodAll_nil r2
  obtain rfl:args= #[v0,v1,v2]:=by cases args;simp_all
  obtain⟨rfl,rfl⟩:=trodVars_none hV
  obtain⟨z0,hz⟩:=qje hz
  obtain⟨z1,hz⟩:=qje hz
  obtain⟨z2,hz⟩:=qje hz
  obtain⟨ll,c0,ll0,ll1⟩:=q6C (n:=2) (α:=ZL) qwD (fun l=>q3P) (by kernel_rfl) (qdj 0 22 v0 rfl rfl) ⟨h0,z0⟩
  obtain⟨ww,c1,ww1⟩:=q6D (n:=1) un3 (by kernel_rfl) (qdj 1 3 v1 rfl rfl) ⟨h1,z1⟩
  obtain⟨zz,zz0,c2,zz1,_,zz2⟩:=qyP qmr un3 (by kernel_rfl) (qdj 2 23 v2 rfl rfl) h2
  exact q1i (X:= @cx ⟨mx⟩ (@txt1 ⟨mx⟩)) (@good ⟨mx⟩ (@txt1 ⟨mx⟩) (@qwG ⟨mx⟩)) laidOut1 Tryz.func4 rfl rfl Tryz.underlying4 (by kernel_rfl) rfl hglob hW' ⟨rfl,rfl,rfl⟩ (qjG c0 (qjG c1 (qjG c2 qyL)))
    (@q00 ⟨mx⟩ ll ww zz zz0 zz1 zz2)
set_option maxRecDepth 100000 in
theorem lifted(os:Os)(started:os.Started)(H:Type)(enc:TypeId×Value->H):
    ReturnsInHanded {} Tryz.checked os 4 .any (fun w args=>(Rows.mergeTwiceSpec.pre enc Tryz.prog Tryz.f4 [] false w args/\laidMetH Tryz.prog Rows.mergeTwiceRow.laid w)/\sizedMet enc Tryz.prog Tryz.f4 (OpenSpec.ofChange Rows.mergeTwiceSpec) false w args) (Rows.mergeTwiceSpec.post enc Tryz.prog Tryz.f4 false true false false):=by
  refine q3R (C:=Tryz.checked) (X:=fun w _=>laidMetH Tryz.prog Rows.mergeTwiceRow.laid w) (fun _ _ _ hh h=>h.of_heap hh) own started (by kernel_rfl) Tryz.func4
    (ChangeSpec.witness_shaped (enc:=enc) (C:=Tryz.checked) (os:=os) (X:=fun w _=>laidMetH Tryz.prog Rows.mergeTwiceRow.laid w) false (World.laidAll Tryz.prog os Rows.mergeTwiceRow.laid) #[.slice none 0 0, .int .i64 0, .slice none 0 0] 8 (World.laidAll_os _ _ _) (World.shaped_of_ZipB (by kernel_rfl) (by kernel_rfl)) (by kernel_rfl) (by kernel_rfl) (by kernel_rfl) (door_met os _)) ?_
  intro W base args ds gs before qdj hW hz hL hS
  exact contract H enc W base args ds gs before qdj hL hS hW hz
theorem over:Rows.mergeTwiceRow.holds Tryz.pinned (OpenSpec.ofChange Rows.mergeTwiceSpec):=
  OpenClaim.holds_of_wide 4 Tryz.f4 rfl rfl rfl rfl rfl rfl rfl ⟨rfl,rfl,rfl,rfl,rfl⟩ rfl rfl rfl rfl rfl (by kernel_rfl) Tryz.func4 q4A
    (of_decide_eq_true (by kernel_rfl)) (by unfold Func.isWrapper;first|(rw[if_pos (by decide+kernel)];kernel_rfl)|(rw[if_neg (by decide+kernel)];exact⟨rfl,rfl⟩))
    (fun os started H enc _=>lifted os started H enc)
theorem proved:Rows.MergeTwiceCardSaid:=
  Claim7.holds_tied_plain_at .later [] [.data, .data, .data, .data, .sentinel, .sentinel, .pinned] true (true,Rows.mergeTwiceCard.stood.harness.2) true
    over (fun _ h=>by cases h) pw (fun _ h=>by cases h) mergeTwice_row_tie rfl ⟨rfl,rfl⟩ pm rfl
    (fun f fn hf hfn=>by
      obtain rfl:f=4:=Option.some.inj (pf.symm.trans hf)|>.symm
      obtain rfl:fn=Tryz.f4:=(Option.some.inj (Tryz.func4.symm.trans hfn)).symm
      exact⟨pl,fun j t ht=>by
        rw[Tryz.params4] at ht
        have hm:t∈[22,3,23]:=by simpa using Array.mem_of_getElem? ht
        exact(show Tryz.prog.wantsStandIn t=false by simpa using List.all_eq_true.1 pa t hm)⟩)
    pg
#print axioms proved
end Go.Proofs.YtglpgdajjpipgaaGreatDoor.mergeTwice
