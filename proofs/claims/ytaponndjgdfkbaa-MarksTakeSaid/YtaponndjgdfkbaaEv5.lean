import Derived.Test.YtaponndjgdfkbaaEv4
/-
  Each operation on data is what the operation does: places, parts, numbers.
-/
namespace Go.Ev

section
variable {X : Cx} {P : Program} {ok : Nat → Prop} {w w' : World} {ι : Iota} {H H' : Heap}

theorem ptrAdd_rep {p p' : D} {v : Value} {k : Nat} (hp : Rep ok w ι H p v) (h : ptrAdd k p = some p') : ∃ a, v = .pointer (some a) ∧ Rep ok w ι H p' (.pointer (some (a.add k))) := by
  cases hp <;> simp only [ptrAdd, reduceCtorEq] at h
  · rename_i ds a f ha hc hr hh
    injection h with h
    subst h
    refine ⟨a, rfl, .vptr (a.add k) (fun j => f (k + j)) (by rw [add_block]; exact ha) (fun d hd => hc d (List.mem_of_mem_drop hd)) (fun j d hj => ?_) (fun j d hj => ?_)⟩
    · rw [addr_add_add]
      exact hr _ d (by simpa [List.getElem?_drop] using hj)
    · exact hh _ d (by simpa [List.getElem?_drop] using hj)
  · rename_i i st off a hi hh
    injection h with h
    subst h
    refine ⟨a, rfl, .optr _ hi fun ds hd => ⟨(hh ds hd).1, fun e => ?_⟩⟩
    obtain ⟨b, s, h1, rfl⟩ := (hh ds hd).2 e
    exact ⟨b, s, h1, addr_add _ _ _⟩

theorem fieldAt_run {s : TypeId} {p p' : D} {v : Value} {f : Nat} (hp : Rep ok w ι H p v) (h : fieldAddrD P s p f = some p') :
    ∃ v', (Instr.fieldAt s v f).run P w = .ok v' w ∧ Rep ok w ι H p' v' := by
  unfold fieldAddrD fieldOf at h
  cases hu : P.underlying s with
  | none => simp [hu] at h
  | some d =>
    cases d <;> simp only [hu, reduceCtorEq] at h
    rename_i fs
    cases hf : fs[f]? with
    | none => simp [hf] at h
    | some fd =>
      simp only [hf] at h
      split at h
      · cases h
      · rename_i hz
        obtain ⟨a, rfl, hr⟩ := ptrAdd_rep hp h
        refine ⟨_, ?_, hr⟩
        simp [Instr.fieldAt, run_underlying hu, hf, Instr.sureAddr, fieldPlace, sizeOf_run (Nat.pos_of_ne_zero hz), hz]

theorem indexAt_run {t : TypeId} {x i p' : D} {v iv : Value} (hx : Rep ok w ι H x v) (hi : Rep ok w ι H i iv) (h : indexAddrD P t x i = some p') :
    ∃ v', (Instr.indexAt t v iv).run P w = .ok v' w ∧ Rep ok w ι H p' v' := by
  unfold indexAddrD at h
  split at h
  · rename_i n e k i hu
    split at h
    · rename_i hc
      obtain ⟨a, rfl, hr⟩ := ptrAdd_rep hx h
      cases hi
      refine ⟨_, ?_, hr⟩
      simp [Instr.indexAt, asIntOf, run_underlying hu, Instr.sureAddr, hc.1, hc.2.1, sizeOf_run hc.2.2]
    · cases h
  · rename_i e cs len k i hu
    split at h
    · rename_i hc
      injection h with h
      subst h
      cases hi
      cases hx with
      | vsl a f ha hcc hr hh hlc =>
        refine ⟨.pointer (some (a.add (i.toNat * szOf P e))), ?_, .vptr _ (fun j => f (i.toNat * szOf P e + j)) (by rw [add_block]; exact ha) (fun d hd => hcc d (List.mem_of_mem_drop hd)) (fun j d hj => ?_) (fun j d hj => ?_)⟩
        · simp [Instr.indexAt, asIntOf, run_underlying hu, hc.1, hc.2.1, sizeOf_run hc.2.2]
        · rw [addr_add_add]
          exact hr _ d (by simpa [List.getElem?_drop] using hj)
        · exact hh _ d (by simpa [List.getElem?_drop] using hj)
    · cases h
  · rename_i e id st off len k' k i hu
    split at h
    · rename_i hc
      injection h with h
      subst h
      cases hi
      cases hx with
      | osl a hi hh hlc =>
        refine ⟨.pointer (some (a.add (i.toNat * szOf P e))), ?_, .optr _ hi fun ds hd => ⟨(hh ds hd).1, fun e => ?_⟩⟩
        · simp [Instr.indexAt, asIntOf, run_underlying hu, hc.1, hc.2.1, sizeOf_run hc.2.2]
        · obtain ⟨b, s, h1, rfl, _⟩ := (hh ds hd).2 e
          exact ⟨b, s, h1, addr_add _ _ _⟩
    · cases h
  · cases h

theorem part_run {t : TypeId} {cs : List D} {vs : Array Value} {off : Nat} {d : D} (hx : Rep ok w ι H (.agg cs) (.agg vs)) (h : partD P t cs off = some d) :
    ∃ v, (part t vs off).run P w = .ok v w ∧ Rep ok w ι H d v := by
  cases hx with
  | agg hl hc hh =>
    unfold partD at h
    split at h
    · rename_i hq
      split at h
      · rename_i hle
        injection h with h
        subst h
        obtain ⟨dsc, hu⟩ : ∃ dsc, P.underlying t = some dsc := by
          unfold aggQ at hq
          cases hu : P.underlying t with
          | none => simp [hu] at hq
          | some x => exact ⟨x, rfl⟩
        refine ⟨.agg (vs.extract off (off + szOf P t)), by simp [part, isAgg_run hq, sizeOf_run' hu], ?_⟩
        refine .agg (by simp; omega) (fun d hd => hc d (List.mem_of_mem_drop (List.mem_of_mem_take hd))) fun j d hj => ?_
        rw [List.getElem?_take] at hj
        split at hj
        · rename_i hjl
          rw [List.getElem?_drop] at hj
          have := hh _ d hj
          rw [Array.getD_eq_getD_getElem?] at this ⊢
          rw [Array.getElem?_extract]
          rw [if_pos (by omega)]
          exact this
        · cases hj
      · cases h
    · rename_i hq
      have hlt : off < vs.size := by rw [hl]; exact (List.getElem?_eq_some_iff.1 h).1
      refine ⟨vs[off], by simp [part, isAgg_run hq, hlt], ?_⟩
      have := hh _ d h
      rw [Array.getD_eq_getD_getElem?, Array.getElem?_eq_getElem hlt] at this
      exact this
    · cases h

theorem field_run {s : TypeId} {x d : D} {v : Value} {f : Nat} (hx : Rep ok w ι H x v) (h : fieldD P s x f = some d) :
    ∃ v', (Instr.field s v f).run P w = .ok v' w ∧ Rep ok w ι H d v' := by
  unfold fieldD fieldOf at h
  cases hu : P.underlying s with
  | none => simp [hu] at h
  | some dd =>
    cases dd <;> simp only [hu, reduceCtorEq] at h
    rename_i fs
    cases hf : fs[f]? with
    | none => simp [hf] at h
    | some fd =>
      simp only [hf] at h
      cases hx <;> simp only [reduceCtorEq] at h
      rename_i ds vs hl hc hh
      obtain ⟨v', h1, h2⟩ := part_run (Rep.agg hl hc hh) h
      exact ⟨v', by simp [Instr.field, run_underlying hu, hf, asAgg, h1], h2⟩

theorem index_run {t : TypeId} {x i d : D} {v iv : Value} (hx : Rep ok w ι H x v) (hi : Rep ok w ι H i iv) (h : indexD P t x i = some d) :
    ∃ v', (Instr.index t v iv).run P w = .ok v' w ∧ Rep ok w ι H d v' := by
  unfold indexD at h
  split at h
  · rename_i n e cs k i hu
    split at h
    · rename_i hc
      cases hi
      cases hx with
      | agg hl hcc hh =>
        obtain ⟨v', h1, h2⟩ := part_run (Rep.agg hl hcc hh) h
        refine ⟨v', ?_, h2⟩
        have hz : (sizeOf e).run P w = .ok (szOf P e) w := by
          unfold partD aggQ at h
          cases hu : P.underlying e with
          | none => simp [hu] at h
          | some x => exact sizeOf_run' hu w
        simp [Instr.index, asIntOf, run_underlying hu, hc.1, hc.2, hz, h1]
    · cases h
  · rename_i s k i hu
    split at h
    · rename_i hc
      cases hi
      cases hx
      cases hb : s[i.toNat]? with
      | none => simp [hb] at h
      | some b =>
        simp only [hb, Option.map_some, Option.some.injEq] at h
        subst h
        have hlt : i.toNat < s.length := (List.getElem?_eq_some_iff.1 hb).1
        refine ⟨.int .u8 b.toNat, ?_, .int _ _⟩
        have hg : (⟨s.toArray⟩ : ByteArray)[i.toNat]? = some b := by
          have e1 : s[i.toNat] = b := (List.getElem?_eq_some_iff.1 hb).2
          rw [getElem?_pos (⟨s.toArray⟩ : ByteArray) i.toNat (by simpa [ByteArray.size] using hlt)]
          rw [← e1]
          rfl
        simp [Instr.index, asIntOf, run_underlying hu, hc, hg]
    · cases h
  · cases h

theorem intD_run {op : BinOp} {t : TypeId} {k : IntKind} {a b : Int} {d : D} (h1 : op ≠ .shl) (h2 : op ≠ .shr) (h : intD op k a b = some d) :
    ∃ v, (binOp op t (.int k a) (.int k b)).run P w = .ok v w ∧ Rep ok w ι H d v := by
  cases op <;> simp only [intD, reduceCtorEq, Option.some.injEq, ne_eq] at h h1 h2
  case quo =>
    split at h
    · cases h
    · rename_i hb
      injection h with h
      subst h
      exact ⟨_, by simp [binOp, Op.intDiv, hb], .int _ _⟩
  case rem =>
    split at h
    · cases h
    · rename_i hb
      injection h with h
      subst h
      exact ⟨_, by simp [binOp, Op.intDiv, hb], .int _ _⟩
  case add | sub | mul =>
    subst h
    exact ⟨_, by simp [binOp, Op.intArith], .int _ _⟩
  case and | or | xor | andNot =>
    subst h
    exact ⟨_, by simp only [binOp, ne_eq, not_true_eq_false, if_false]; rfl, .int _ _⟩
  all_goals
    subst h
    exact ⟨_, by simp [binOp, Op.intCmp], .bool _⟩

theorem shiftD_run {op : BinOp} {t : TypeId} {k k' : IntKind} {a b : Int} {d : D} (ho : op = .shl ∨ op = .shr) (h : shiftD op k a b = some d) :
    ∃ v, (binOp op t (.int k a) (.int k' b)).run P w = .ok v w ∧ Rep ok w ι H d v := by
  unfold shiftD at h
  split at h
  · cases h
  · rename_i hb
    rcases ho with rfl | rfl <;> simp only [Option.some.injEq] at h <;> subst h
    · exact ⟨_, by simp [binOp, Op.shift, hb], .int _ _⟩
    · exact ⟨_, by simp [binOp, Op.shift, hb], .int _ _⟩

theorem bytes_toList (x : List UInt8) : (⟨x.toArray⟩ : ByteArray).toList = x := by
  rw [ByteArray.toList_eq]

theorem strD_run {op : BinOp} {t : TypeId} {x y : List UInt8} {d : D} (h : strD op x y = some d) :
    ∃ v, (binOp op t (.string ⟨x.toArray⟩) (.string ⟨y.toArray⟩)).run P w = .ok v w ∧ Rep ok w ι H d v := by
  cases op <;> simp only [strD, reduceCtorEq] at h
  case add =>
    split at h
    · rename_i hl
      injection h with h
      subst h
      refine ⟨.string ⟨(x ++ y).toArray⟩, ?_, .str _⟩
      have e : (⟨x.toArray⟩ : ByteArray) ++ ⟨y.toArray⟩ = ⟨(x ++ y).toArray⟩ := by
        apply ByteArray.ext
        simp
      simp only [binOp, Op.stringOp, e]
      rw [if_neg]
      · rfl
      · simp [ByteArray.size, IntKind.max, IntKind.bits, IntKind.signed]
        omega
    · cases h
  all_goals
    injection h with h
    subst h
    exact ⟨_, by simp [binOp, Op.stringOp], .bool _⟩

theorem unD_run {op : UnOp} {x d : D} {v : Value} (hx : Rep ok w ι H x v) (h : unD op x = some d) :
    ∃ v', (Op.unary op v).run P w = .ok v' w ∧ Rep ok w ι H d v' := by
  unfold unD at h
  split at h <;> cases h <;> cases hx
  · exact ⟨_, by simp [Op.unary, Op.intArith], .int _ _⟩
  · exact ⟨_, by simp [Op.unary, Op.intBits], .int _ _⟩
  · exact ⟨_, by simp [Op.unary], .bool _⟩

end
end Go.Ev
