import Derived.Test.YtaponndjgdfkbaaEv18
/- How the evaluator's equations are used. -/
namespace Go.Ev
def enterK (ks : List Nat) : Nat → Nat → Env → Heap → Option (Env × Heap)
  | 0, _, e, H => some (keepE ks e, H)
  | k + 1, n0, e, H => if H.length ≤ n0 + k then some (keepE ks e, H)
    else if envClosed (n0 + k) (keepE ks e) && (H.take (n0 + k)).all (blkClosed (n0 + k)) then some (keepE ks e, H.take (n0 + k)) else none
/-- A part of code, by its way from the top. -/
def cAt : List Nat → Code → Code
  | [], c => c
  | 0 :: p, .seq a _ => cAt p a
  | _ :: p, .seq _ b => cAt p b
  | 0 :: p, .cond _ a _ => cAt p a
  | _ :: p, .cond _ _ b => cAt p b
  | _ :: p, .block _ c => cAt p c
  | _ :: p, .scope c => cAt p c
  | _ :: p, .loop c => cAt p c
  | _, c => c
/-- A function's code. -/
def bodyOf (f : Func) : Code := f.body.getD .skip
attribute [simp] code_skip code_label code_exit code_ret code_cond
attribute [simp] dstOk evOp evOpW opd opds partsD ofVal ofVal1 ofVals look putE keepE enterK argEnv resD oneOrTup binD unD intD builtinD callD callV ldD stD mem hget hset setRange cellsOf fieldAddrD fieldD fieldOf partD ptrAdd indexAddrD indexD sliceD bounds lenD minmaxD convD buildD buildSliceD makeSliceD structPlace fillD zeroCellsD srcD appendD copyD eqD cellEq cellsEq shiftD newBlk isConstOp slc bytesD idFree idFree.idFreeL vFree vFree.vFreeL closed closed.closedL blkClosed blkVFree envClosed pack pack1 pack1.packs shift shift.shiftL freeze freeze.freezeL freezeArgs isNilD cAt bodyOf strD
end Go.Ev
