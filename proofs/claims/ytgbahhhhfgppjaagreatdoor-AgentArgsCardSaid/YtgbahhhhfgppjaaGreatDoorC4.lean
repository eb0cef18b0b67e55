import Derived.Test.YtgbahhhhfgppjaaGreatDoorC3
import Derived.Shelf.Bytes.SlIndexWhole
import Derived.Lib.LaidU8T
import Derived.Shelf.Spec.DecodeRune
import Derived.Lib.IndexEntry
import Derived.Shelf.SortG.Plain
import Derived.Shelf.SortG.SortNone
import Derived.Sort.OwnSorted
/- One function more that is met by a contract. -/
namespace Go.Ev
open Go Go.Proofs Go.RowKit
/-- Contracts that are not laid yet, by the functions' numbers. -/
class TxtC where
  t : Nat → List D → Heap → Option (D × Heap)
/-- The same, but one function more is met by a contract. -/
def Cx.add (X : Cx) (T : Nat) (t : List D → Heap → Option (D × Heap)) : Cx :=
  { X with con := fun f => if f = T then t else X.con f, bad := fun f => if f = T then true else X.bad f }
section
variable {X : Cx} {T : Nat} {t : List D → Heap → Option (D × Heap)}
theorem add_enter : enter (X.add T t) = enter X := rfl
theorem add_opd : opd (X.add T t) = opd X := rfl
theorem add_partsD : partsD (X.add T t) = partsD X := by
  funext e l
  induction l with
  | nil => rfl
  | cons p l ih =>
    obtain ⟨i, x⟩ := p
    simp only [partsD, ih, add_opd]
theorem add_opds : opds (X.add T t) = opds X := by
  funext e l
  induction l with
  | nil => rfl
  | cons x l ih => simp only [opds, ih, add_opd]
theorem add_callD : callD (X.add T t) = callD X := rfl
theorem add_builtinD : builtinD (X.add T t) = builtinD X := rfl
theorem add_P : (X.add T t).P = X.P := rfl
theorem add_dynBad : dynBad (X.add T t) = dynBad X := rfl
theorem add_evOp : evOp (X.add T t) = evOp X := by
  funext F o e H
  unfold evOp
  simp only [add_partsD, add_opds, add_opd, add_callD, add_builtinD, add_P]
theorem add_evOpW : evOpW (X.add T t) = evOpW X := by
  funext F d o e H
  unfold evOpW
  simp only [add_partsD, add_evOp, add_opd, add_dynBad, add_P]
theorem add_evOps : evOps (X.add T t) = evOps X := by
  funext F nt d ops l
  induction l with
  | nil => rfl
  | cons o l ih =>
    funext e H
    simp only [evOps, ih, add_evOpW]
theorem add_resD : resD (X.add T t) = resD X := by
  funext e H l
  induction l with
  | nil => rfl
  | cons r l ih => cases r <;> simp only [resD, ih, add_P]
theorem add_evOpsL : evOpsL (X.add T t) = evOpsL X := by
  funext F nt ow ops L k ws rs l
  induction l generalizing k ws rs with
  | nil => funext e H; simp only [evOpsL]
  | cons o l ih =>
    funext e H
    have hw : evOpW (X.add T t) F (bwD ow o.dst) o.op e H = evOpW X F (bwD ow o.dst) o.op e H := by rw [add_evOpW]
    have hop : opd (X.add T t) e = opd X e := by rw [add_opd]
    rw [evOpsL, evOpsL, hw]
    cases hd : dstOk nt o.dst with
    | false => simp only
    | true =>
      cases hg : guardQ ops e o.guard with
      | none => simp only
      | some b =>
        cases b with
        | false => simp only [ih]
        | true =>
          cases ho : evOpW X F (bwD ow o.dst) o.op e H with
          | none => simp only
          | some q =>
            obtain ⟨d, H1⟩ := q
            simp only
            rw [ih]
            by_cases hc : (rIn L k = true → apartR L k (idsL (o.op.operands.toList.map (opd X e))) ws) ∧ (wIn L k = true → H.length ≤ H1.length ∧ apartW L k H H1 rs)
            · rw [if_pos hc, if_pos (by rw [hop]; exact hc), hop]
            · rw [if_neg hc, if_neg (by rw [hop]; exact hc)]
theorem add_regW : regW (X.add T t) = regW X := rfl
theorem add_drawOk : drawOk (X.add T t) = drawOk X := rfl
theorem add_evR {F : CallF} : evR (X.add T t) F = evR X F := by
  funext f nt id draw ops e H
  unfold evR
  rw [add_evOpsL, add_evOps, add_regW]
  rfl
theorem add_okCode {f : Nat} : okCode (X.add T t) f = okCode X f := by
  funext c
  induction c with
  | seq a b ha hb => simp only [okCode, ha, hb]
  | cond x a b ha hb => simp only [okCode, ha, hb]
  | block i c h => simp only [okCode, h]
  | loop c h => simp only [okCode, h]
  | scope c h => simp only [okCode, h]
  | region i o d => simp only [okCode, add_drawOk]; rfl
  | _ => rfl
theorem add_conT : (X.add T t).con T = t := by simp [Cx.add]
theorem add_con {f : Nat} (h : f ≠ T) : (X.add T t).con f = X.con f := by simp [Cx.add, h]
theorem add_bad {f : Nat} (h : f ≠ T) : (X.add T t).bad f = X.bad f := by simp [Cx.add, h]
theorem add_badT : (X.add T t).bad T = true := by simp [Cx.add]
/-- What is told without the contract is told with it. -/
theorem ev_up (hbad : X.bad T = true) (hcon : ∀ args H, X.con T args H = none) {fn : Func} {b : Code} (hf : X.P.funcs[T]? = some fn) (hb : fn.body = some b) :
    ∀ n, FLe (evF X n) (evF (X.add T t) n) ∧ ∀ f nt n0 c e H r, evC X n f nt n0 c e H = some r → evC (X.add T t) n f nt n0 c e H = some r
  | 0 => ⟨fun f args H r h => by simp [evF] at h, fun f nt n0 c e H r h => by simp [evC] at h⟩
  | n + 1 => by
    obtain ⟨ihF, ihC⟩ := ev_up hbad hcon hf hb n
    constructor
    · intro f args H r h
      by_cases hT : f = T
      · subst hT
        simp only [evF, hcon, hf, hb, hbad, if_true] at h
        cases h
      simp only [evF, add_con hT, add_bad hT, add_resD] at h ⊢
      cases hcn : X.con f args H with
      | some q => simp only [hcn] at h ⊢; exact h
      | none =>
      simp only [hcn] at h ⊢
      have eP : (X.add T t).P = X.P := rfl
      have eX : (X.add T t).ext = X.ext := rfl
      have eZ : (X.add T t).fzr = X.fzr := rfl
      rw [eP]
      cases hff : X.P.funcs[f]? with
      | none => simp [hff] at h
      | some fn =>
        simp only [hff] at h ⊢
        cases hbb : fn.body with
        | none => simp only [hbb] at h ⊢; rw [eX]; exact h
        | some c =>
          simp only [hbb] at h ⊢
          cases hbd : X.bad f <;> simp only [hbd, Bool.false_eq_true, if_false, if_true] at h ⊢
          · cases hc : evC X n f fn.ntmps H.length c (argEnv 0 args) H with
            | none => simp [hc] at h
            | some q =>
              rw [ihC _ _ _ _ _ _ _ hc]
              rw [hc] at h
              rw [eZ]
              exact h
          · cases h
    · intro f nt n0 c e H r h
      cases c with
      | region id ops draw =>
        rw [evC] at h ⊢
        rw [add_enter, add_evR]
        cases hen : enter X f n0 id e H with
        | none => simp [hen] at h
        | some q =>
          obtain ⟨e1, H1⟩ := q
          simp only [hen] at h ⊢
          cases ho : evR X (evF X n) f nt id draw ops e1 H1 with
          | none => simp [ho] at h
          | some q =>
            rw [evR_mono ihF ho]
            rw [ho] at h
            exact h
      | seq a b =>
        rw [evC] at h ⊢
        cases ha : evC X n f nt n0 a e H with
        | none => simp [ha] at h
        | some q =>
          obtain ⟨ex, e1, H1⟩ := q
          rw [ihC _ _ _ _ _ _ _ ha]
          rw [ha] at h
          cases ex with
          | normal => exact ihC _ _ _ _ _ _ _ h
          | exit i => exact h
          | ret => exact h
      | cond x a b =>
        rw [evC] at h ⊢
        rw [add_opd]
        split at h
        · exact ihC _ _ _ _ _ _ _ h
        · cases h
      | block id c =>
        rw [evC] at h ⊢
        cases ha : evC X n f nt n0 c e H with
        | none => simp [ha] at h
        | some q =>
          rw [ihC _ _ _ _ _ _ _ ha]
          rw [ha] at h
          exact h
      | scope c =>
        rw [evC] at h ⊢
        exact ihC _ _ _ _ _ _ _ h
      | loop c =>
        rw [evC] at h ⊢
        cases ha : evC X n f nt n0 c e H with
        | none => simp [ha] at h
        | some q =>
          obtain ⟨ex, e1, H1⟩ := q
          rw [ihC _ _ _ _ _ _ _ ha]
          rw [ha] at h
          cases ex with
          | normal => exact ihC _ _ _ _ _ _ _ h
          | exit i => exact h
          | ret => exact h
      | skip => exact h
      | label l => exact h
      | exit id => exact h
      | ret => exact h
      | goto l => simp [evC] at h
      | rangeFunc a b c d => simp [evC] at h
      | refuse w => simp [evC] at h
theorem call_up (hbad : X.bad T = true) (hcon : ∀ args H, X.con T args H = none) {fn : Func} {b : Code} (hf : X.P.funcs[T]? = some fn) (hb : fn.body = some b) {f : Nat} {args : List D} {H : Heap} {r : D × Heap} (h : call X f args H = some r) : call (X.add T t) f args H = some r := by
  obtain ⟨n, hn⟩ := call_some.1 h
  exact call_some.2 ⟨n, (ev_up hbad hcon hf hb n).1 _ _ _ _ hn⟩
theorem sim_add {ok : Nat → Prop} {w : World} {ι : Iota} {H : Heap} : Sim (X.add T t) ok w ι H ↔ Sim X ok w ι H := ⟨fun h => ⟨h.okS, h.glob, h.inj, h.blk⟩, fun h => ⟨h.okS, h.glob, h.inj, h.blk⟩⟩
theorem callPost_add {ok : Nat → Prop} {w w' : World} {ι : Iota} {H H' : Heap} {r : D} {v : Value} (h : CallPost X ok w ι H r H' v w') : CallPost (X.add T t) ok w ι H r H' v w' := by
  obtain ⟨ι', ok', h1, h2, h3, h4⟩ := h
  exact ⟨ι', ok', sim_add.2 h1, h2, h3, h4⟩
theorem good_add (hG : Good X) (hrun : ∀ (args : List D) (H : Heap) (r : D) (H' : Heap), t args H = some (r, H') → ∀ (ok : Nat → Prop) (w : World) (ι : Iota) (vs : List Value), Sim X ok w ι H → RepL ok w ι H args vs → Goes X.P (callFunc T vs.toArray) w (CallPost X ok w ι H r H')) : Good (X.add T t) where
  mixed := hG.mixed
  okc f fn c hf hb hbad := by
    by_cases hT : f = T
    · subst hT
      rw [add_badT] at hbad
      cases hbad
    · rw [add_bad hT] at hbad
      rw [add_okCode]
      exact hG.okc f fn c hf hb hbad
  ng := hG.ng
  ext f fn args d hf hb he ok w ι H vs hs hv := hG.ext f fn args d hf hb he ok w ι H vs (sim_add.1 hs) hv
  con f args H r H' hc ok w ι vs hs hv := by
    by_cases hT : f = T
    · subst hT
      rw [add_conT] at hc
      exact (hrun args H r H' hc ok w ι vs (sim_add.1 hs) hv).mono fun v w' h => callPost_add h
    · rw [add_con hT] at hc
      exact (hG.con f args H r H' hc ok w ι vs (sim_add.1 hs) hv).mono fun v w' h => callPost_add h
end
end Go.Ev
/- bytes.Index is met by the shelf's contract. -/
namespace Go.Ev
open Go Go.Proofs Go.RowKit Go.Shelf
/-- The bytes that cells are, if they are. -/
def bytesR : List D → Option (List UInt8)
  | [] => some []
  | .int .u8 n :: l => if 0 ≤ n ∧ n < 256 then (bytesR l).map fun r => UInt8.ofNat n.toNat :: r else none
  | _ => none
@[simp] theorem bytesR_of : ∀ (s : List UInt8), bytesR (ofBytes s) = some s
  | [] => rfl
  | b :: s => by
    have h := b.toNat_lt
    have : bytesR (ofBytes (b :: s)) = if (0 : Int) ≤ (b.toNat : Int) ∧ (b.toNat : Int) < 256 then (bytesR (ofBytes s)).map fun r => UInt8.ofNat (b.toNat : Int).toNat :: r else none := rfl
    rw [this, bytesR_of s, if_pos (by omega)]
    simp
theorem bytesR_inv : ∀ {ds : List D} {s : List UInt8}, bytesR ds = some s → ds = ofBytes s
  | [], s, h => by simp [bytesR] at h; subst h; rfl
  | d :: l, s, h => by
    unfold bytesR at h
    split at h
    · rename_i e; cases e
    · rename_i n l' e
      cases e
      split at h
      · rename_i hn
        cases hr : bytesR l with
        | none => rw [hr] at h; simp at h
        | some r =>
          rw [hr] at h
          simp only [Option.map_some, Option.some.injEq] at h
          subst h
          rw [bytesR_inv hr]
          simp only [ofBytes, List.map_cons, List.cons.injEq, D.int.injEq, true_and, and_true]
          rw [UInt8.toNat_ofNat_of_lt' (by simp; omega)]
          omega
      · cases h
    · cases h
def conBIdx : List D → Heap → Option (D × Heap)
  | [.vsl _ ds l, .vsl false es k], H => match bytesR ds, bytesR es with
    | some s, some t => if s.length = l ∧ t.length = k ∧ 1 ≤ k ∧ l < 4294967281 ∧ k < 4294967281 then some (.int .i64 (idxN t s 0), H) else none
    | _, _ => none
  | _, _ => none
section
variable {X : Cx} {ρ : Ren} {ok : Nat → Prop} {w : World} {ι : Iota} {H H' : Heap} {r : D} {args : List D} {vs : List Value}
theorem bytes_ints (s : List UInt8) : Lib.bytesOf (s.map fun b => (b.toNat : Int)) = s := by
  simp [Lib.bytesOf, List.map_map, Function.comp_def]
theorem vsl_cells {a : Addr} {s : List UInt8} {l c : Nat} (h : Rep ok w ι H (.vsl false (ofBytes s) l) (.slice (some a) l c)) :
    (∀ i, i < s.length → w.cell? (a.add i) = some (.int .u8 ((s.map fun b => (b.toNat : Int)).getD i 0))) ∧ l ≤ c := by
  cases h with
  | vsl a f ha hc hr h hlc =>
    refine ⟨fun i hi => ?_, hlc⟩
    have hj : (ofBytes s)[i]? = some (.int .u8 (s[i].toNat : Int)) := by simp [ofBytes, hi]
    have h1 := hr i _ hj
    have h2 := h i _ hj
    rw [h1]
    generalize f i = v at h2
    cases h2
    simp [List.getD_eq_getElem?_getD, hi]
theorem ints_rng (s : List UInt8) : ∀ x ∈ s.map (fun b => (b.toNat : Int)), 0 ≤ x ∧ x < 256 := by
  intro x hx
  obtain ⟨b, _, rfl⟩ := List.mem_map.1 hx
  have := b.toNat_lt
  omega
theorem conBIdx_run {m : Int} (L : Lays.n185 X.P ρ) (hg : X.glob (ρ.g 1) = some [.int .i64 m]) (h : conBIdx args H = some (r, H')) (hs : Sim X ok w ι H) (hv : RepL ok w ι H args vs) :
    Goes X.P (callFunc (ρ.f 185) vs.toArray) w (CallPost X ok w ι H r H') := by
  have he : ∀ args w, (callFunc (ρ.f 185) args).run X.P w = .ok (.enter (ρ.f 185) args) w := Go.Proofs.enters_of L.f185 (by kernel_rfl) rfl
  unfold conBIdx at h
  split at h
  · rename_i nil ds l es k
    split at h
    · rename_i s t hs1 ht1
      split at h
      · rename_i hc
        obtain ⟨rfl, rfl, h2, h3, h4⟩ := hc
        injection h with h
        injection h with e1 e2
        subst e1; subst e2
        obtain rfl := bytesR_inv hs1
        obtain rfl := bytesR_inv ht1
        obtain ⟨v1, us, rfl, r1, hv⟩ := repL_cons hv
        obtain ⟨v2, us, rfl, r2, hv⟩ := repL_cons hv
        cases repL_nil hv
        obtain ⟨a2, c2, rfl⟩ : ∃ a c, v2 = .slice (some a) t.length c := by cases r2; exact ⟨_, _, rfl⟩
        obtain ⟨q2, _⟩ := vsl_cells r2
        have hrep : ∀ w' : World, Rep ok w' ι H (.int .i64 (idxN t s 0)) (.int .i64 (idxN t s 0)) := fun w' => .int .i64 _
        cases nil with
        | true =>
          obtain ⟨rfl, rfl⟩ : s = [] ∧ v1 = .slice none 0 0 := by
            generalize hds : ofBytes s = ds at r1
            generalize s.length = n at r1
            cases r1
            exact ⟨by cases s <;> simp [ofBytes] at hds ⊢, rfl⟩
          refine con_below hs (he _ _) ((Any.bytes_Index_nil L (some a2) t.length c2 w (by omega) (fun h => ?_)).mono ?_)
          · have h0 := q2 0 (by omega)
            have e2 : a2 = ⟨a2.block, a2.off, none⟩ := Lib.plain_of_cell (by simpa [Addr.add] using h0)
            refine ⟨a2.block, a2.off, (t.map fun b => (b.toNat : Int)).getD 0 0, congrArg some e2, ?_⟩
            rw [addr_add_zero, e2] at h0
            exact h0
          rintro e w' ⟨rfl, rfl⟩
          refine ⟨_, rfl, ?_, Below.refl _ _⟩
          have h0 : ¬ t.length = 0 := by omega
          have ht : t.isEmpty = false := by cases t <;> simp at h0 ⊢
          rw [if_neg h0]
          have := hrep w'
          simpa [idxN, ht] using this
        | false =>
          obtain ⟨a1, c1, rfl⟩ : ∃ a c, v1 = .slice (some a) s.length c := by cases r1; exact ⟨_, _, rfl⟩
          obtain ⟨q1, hcap⟩ := vsl_cells r1
          refine con_below hs (he _ _) ((Any.bytes_Index_at L a1 a2 s.length c1 t.length c2 (s.map fun b => (b.toNat : Int)) (t.map fun b => (b.toNat : Int)) m w (by simp) (by simp) (ints_rng s) (ints_rng t) q1 q2 hcap h3 (by omega) (glob_int hs hg)).mono ?_)
          rintro e w' ⟨rfl, q, rfl⟩
          refine ⟨_, rfl, ?_, below_drewN (Below.refl _ _) q⟩
          rw [bytes_ints, bytes_ints, idx_lib]
          exact hrep _
      · cases h
    · cases h
  · cases h
end
end Go.Ev
/- The decoder's tables: what they read as. -/
namespace Go.Ev
open Go Go.Proofs Go.RowKit Go.Shelf
def u8first : List D := (List.range 256).map fun c => .int .u8 (Lib.firstT c)
def u8acc : List D := (List.range 16).flatMap fun i => [.int .u8 (Lib.accLo i), .int .u8 (Lib.accHi i)]
theorem rep_ints {W : World} {g : Nat} {ds : List D} {z : Nat → Int} (hd : ∀ (j : Nat) (d : D), ds[j]? = some d → d = .int .u8 (z j)) (hc : ∀ j, j < ds.length → W.cell? ⟨g, j, none⟩ = some (.int .u8 (z j))) : Rep (· < W.heap.size) W iota0 [] (.vptr ds) (.pointer (some ⟨g, 0, none⟩)) := by
  refine .vptr _ (fun j => .int .u8 (z j)) (fun d hm => ?_) (fun d hm => ?_) (fun j d hj => ?_) (fun j d hj => ?_)
  · obtain ⟨j, hj⟩ := List.mem_iff_getElem?.1 hm
    have := cell_lt (hc j (List.getElem?_eq_some_iff.1 hj).1)
    exact this
  · obtain ⟨j, hj⟩ := List.mem_iff_getElem?.1 hm
    rw [hd j d hj]
    rfl
  · rw [addr_add, Nat.zero_add]
    exact hc j (List.getElem?_eq_some_iff.1 hj).1
  · rw [hd j d hj]
    exact .int .u8 _
theorem flat2 {α : Type} (f g : Nat → α) : ∀ (n k : Nat) (j : Nat) (d : α), ((List.range' k n).flatMap fun i => [f i, g i])[j]? = some d → d = if j % 2 = 0 then f (k + j / 2) else g (k + j / 2)
  | 0, k, j, d, h => by simp at h
  | n + 1, k, 0, d, h => by simp [List.range'_succ] at h; simp [h]
  | n + 1, k, 1, d, h => by simp [List.range'_succ] at h; simp [h]
  | n + 1, k, j + 2, d, h => by
    simp only [List.range'_succ, List.flatMap_cons, List.cons_append, List.nil_append, List.getElem?_cons_succ] at h
    have := flat2 f g n (k + 1) j d h
    rw [this]
    have e1 : (j + 2) % 2 = j % 2 := by omega
    have e2 : k + (j + 2) / 2 = k + 1 + j / 2 := by omega
    rw [e1, e2]
theorem rep_u8 {W : World} {g3 g4 : Nat} (h : Lib.Utf8Tabs g3 g4 W) : Rep (· < W.heap.size) W iota0 [] (.vptr u8first) (.pointer (some ⟨g3, 0, none⟩)) ∧ Rep (· < W.heap.size) W iota0 [] (.vptr u8acc) (.pointer (some ⟨g4, 0, none⟩)) := by
  obtain ⟨h1, h2⟩ := h
  constructor
  · refine rep_ints (z := fun j => (Lib.firstT j : Int)) (fun j d hj => ?_) fun j hj => h1 j (by simpa [u8first] using hj)
    simp only [u8first, List.getElem?_map, Option.map_eq_some_iff] at hj
    obtain ⟨a, ha, rfl⟩ := hj
    rw [List.getElem?_range (by have := (List.getElem?_eq_some_iff.1 ha).1; simpa using this)] at ha
    cases ha
    rfl
  · refine rep_ints (z := fun j => if j % 2 = 0 then (Lib.accLo (j / 2) : Int) else Lib.accHi (j / 2)) (fun j d hj => ?_) fun j hj => ?_
    · have := flat2 (fun i => D.int .u8 (Lib.accLo i)) (fun i => D.int .u8 (Lib.accHi i)) 16 0 j d (by rw [← List.range_eq_range']; exact hj)
      rw [this, Nat.zero_add]
      split <;> rfl
    · have hl : u8acc.length = 32 := rfl
      have hj' : j < 32 := by rw [← hl]; exact hj
      obtain ⟨a, b⟩ := h2 (j / 2) (by omega)
      by_cases he : j % 2 = 0
      · have e : j = 2 * (j / 2) := by omega
        rw [if_pos he]
        rw [← e] at a
        exact a
      · have e : j = 2 * (j / 2) + 1 := by omega
        rw [if_neg he]
        rw [← e] at b
        exact b
/-- The tables, of what the evaluator knows. -/
theorem u8_tabs {X : Cx} {ok : Nat → Prop} {w : World} {ι : Iota} {H : Heap} {g3 g4 : Nat} (hs : Sim X ok w ι H) (h3 : X.glob g3 = some u8first) (h4 : X.glob g4 = some u8acc) : Lib.Utf8Tabs g3 g4 w := by
  have get : ∀ {g : Nat} {ds : List D}, X.glob g = some ds → ∀ (j : Nat) (z : Int), ds[j]? = some (.int .u8 z) → w.cell? ⟨g, j, none⟩ = some (.int .u8 z) := by
    intro g ds hg j z hj
    have h := hs.glob g ds hg
    cases h with
    | vptr a f ha hc hr h =>
      have h1 := hr j _ hj
      have h2 := h j _ hj
      rw [addr_add, Nat.zero_add] at h1
      generalize f j = v at h1 h2
      cases h2
      exact h1
  refine ⟨fun c hc => get h3 c _ (by simp [u8first, List.getElem?_map, List.getElem?_range hc]), fun i hi => ?_⟩
  have hall : ∀ i : Nat, i < 16 → u8acc[2 * i]? = some (.int .u8 (Lib.accLo i)) ∧ u8acc[2 * i + 1]? = some (.int .u8 (Lib.accHi i)) := by
    intro i hi
    match i, hi with
    | 0, _ | 1, _ | 2, _ | 3, _ | 4, _ | 5, _ | 6, _ | 7, _ | 8, _ | 9, _ | 10, _ | 11, _ | 12, _ | 13, _ | 14, _ | 15, _ => exact ⟨rfl, rfl⟩
    | i + 16, h => omega
  obtain ⟨a, b⟩ := hall i hi
  exact ⟨get h4 _ _ a, get h4 _ _ b⟩
/-- The bytes that a slice's cells are. -/
def sliceB : List D → Nat → Option (List UInt8)
  | ds, n => match bytesR ds with
    | some s => if n ≤ s.length ∧ 1 ≤ n then some (s.take n) else none
    | none => none
def conDec : List D → Heap → Option (D × Heap)
  | [.vsl false ds n], H => match sliceB ds n with
    | some s => some (.tup [.int .i32 (Lib.decodeGo ⟨s.toArray⟩).1, .int .i64 (Lib.decodeGo ⟨s.toArray⟩).2], H)
    | none => none
  | _, _ => none
end Go.Ev
/- The decoder is met by the shelf's contract. -/
namespace Go.Ev
open Go Go.Proofs Go.RowKit Go.Shelf
section
variable {X : Cx} {ρ : Ren} {ok : Nat → Prop} {w : World} {ι : Iota} {H H' : Heap} {r : D} {args : List D} {vs : List Value}
theorem sliceB_inv {ds : List D} {n : Nat} {s : List UInt8} (h : sliceB ds n = some s) : ∃ t : List UInt8, ds = ofBytes t ∧ n ≤ t.length ∧ 1 ≤ n ∧ s = t.take n := by
  unfold sliceB at h
  simp only at h
  cases hr : bytesR ds with
  | none => rw [hr] at h; cases h
  | some t =>
    rw [hr] at h
    simp only at h
    by_cases hc : n ≤ t.length ∧ 1 ≤ n
    · rw [if_pos hc] at h
      injection h with h
      exact ⟨t, bytesR_inv hr, hc.1, hc.2, h.symm⟩
    · rw [if_neg hc] at h
      cases h
theorem slice_cells {a : Addr} {t : List UInt8} {n c : Nat} (h : Rep ok w ι H (.vsl false (ofBytes t) n) (.slice (some a) n c)) (hn : n ≤ t.length) (h1 : 1 ≤ n) : a = ⟨a.block, a.off, none⟩ ∧ (∀ j, j < n → w.cell? ⟨a.block, a.off + j, none⟩ = some (.int .u8 ((⟨(t.take n).toArray⟩ : ByteArray).get! j).toNat)) ∧ ok a.block := by
  cases h with
  | vsl a f ha hc hr h hlc =>
    have hc' : ∀ (j : Nat) (hj : j < t.length), w.cell? (a.add j) = some (.int .u8 (t[j].toNat : Int)) := by
      intro j hj
      have hj' : (ofBytes t)[j]? = some (.int .u8 (t[j].toNat : Int)) := by simp [ofBytes, hj]
      have h1 := hr j _ hj'
      have h2 := h j _ hj'
      rw [h1]
      generalize f j = v at h2
      cases h2
      rfl
    have h0 := hc' 0 (by omega)
    have e2 : a = ⟨a.block, a.off, none⟩ := Lib.plain_of_cell (by simpa [Addr.add] using h0)
    refine ⟨e2, fun j hj => ?_, ?_⟩
    · have := hc' j (by omega)
      rw [e2, addr_add] at this
      rw [this]
      have hsz : j < (⟨(t.take n).toArray⟩ : ByteArray).size := by rw [ba_size]; simp; omega
      have : (⟨(t.take n).toArray⟩ : ByteArray).get! j = t[j] := by
        rw [Utf8W.get!_of_lt _ j hsz]
        show (t.take n).toArray[j] = _
        simp
      rw [this]
    · exact ha (.int .u8 (t[0].toNat : Int)) (by
        refine List.mem_iff_getElem?.2 ⟨0, ?_⟩
        have h0 : 0 < t.length := by omega
        simp [ofBytes, h0])
theorem conDec_run (L : Lays7.n32 X.P ρ) (h3 : X.glob (ρ.g 2) = some u8first) (h4 : X.glob (ρ.g 3) = some u8acc) (h : conDec args H = some (r, H')) (hs : Sim X ok w ι H) (hv : RepL ok w ι H args vs) :
    Goes X.P (callFunc (ρ.f 32) vs.toArray) w (CallPost X ok w ι H r H') := by
  have he : ∀ args w, (callFunc (ρ.f 32) args).run X.P w = .ok (.enter (ρ.f 32) args) w := Go.Proofs.enters_of L.f32 (by kernel_rfl) rfl
  unfold conDec at h
  split at h
  · rename_i ds n
    split at h
    · rename_i s hsb
      obtain ⟨t, rfl, hn, h1, rfl⟩ := sliceB_inv hsb
      injection h with h
      injection h with e1 e2
      subst e1; subst e2
      obtain ⟨v1, us, rfl, r1, hv⟩ := repL_cons hv
      cases repL_nil hv
      obtain ⟨a1, c1, rfl⟩ : ∃ a c, v1 = .slice (some a) n c := by cases r1; exact ⟨_, _, rfl⟩
      obtain ⟨q1, q2, _⟩ := slice_cells r1 hn h1
      have hsz : (⟨(t.take n).toArray⟩ : ByteArray).size = n := by rw [ba_size]; simp; omega
      have hc := Any7.utf8_DecodeRune L ⟨(t.take n).toArray⟩ a1.block a1.off c1 w (u8_tabs hs h3 h4) (fun j hj => q2 j (by rw [hsz] at hj; exact hj))
      rw [hsz, ← q1] at hc
      refine con_below hs (he _ _) (hc.mono ?_)
      rintro e w' ⟨rfl, hb⟩
      refine ⟨_, rfl, ?_, hb⟩
      refine .tup rfl fun j d hj => ?_
      match j, hj with
      | 0, hj => simp at hj; subst hj; exact .int .i32 _
      | 1, hj => simp at hj; subst hj; exact .int .i64 _
      | j + 2, hj => simp at hj
    · cases h
  · cases h
end
end Go.Ev
/- A text that is longer than where it is looked for: nowhere. -/
namespace Go.Ev
open Go Go.Proofs Go.RowKit Go.Shelf
def conIS (m : Int) : List D → Heap → Option (D × Heap)
  | [.str s, .str sub], H => if s.length < sub.length ∧ 2 ≤ sub.length ∧ (sub.length : Int) ≤ m ∧ s.length < 1000000 then some (.int .i64 (-1), H) else none
  | _, _ => none
section
variable {X : Cx} {ρ : Ren} {ok : Nat → Prop} {w : World} {ι : Iota} {H H' : Heap} {r : D} {args : List D} {vs : List Value}
theorem idxN_long {sub : List UInt8} : ∀ {s : List UInt8} {n : Nat}, s.length < sub.length → idxN sub s n = -1
  | [], n, h => by
    unfold idxN
    cases sub with
    | nil => simp at h
    | cons => rfl
  | b :: l, n, h => by
    unfold idxN
    have hp : sub.isPrefixOf (b :: l) = false := by
      cases hp : sub.isPrefixOf (b :: l) with
      | false => rfl
      | true =>
        have := (List.isPrefixOf_iff_prefix.1 hp).length_le
        omega
    rw [hp]
    simp only [Bool.false_eq_true, if_false]
    exact idxN_long (by simp at h; omega)
theorem conIS_run {m : Int} {f g : Nat} {fn : Func} (hf : X.P.funcs[f]? = some fn) (hn : fn.body = none) (hng : (fn.name == "runtime.NumGoroutine") = false)
    (h1 : Extern.findNext fn = none) (h2 : Extern.find fn = some Extern.BytealgIndex.index) (hgi : X.P.globals.findIdx? (·.name == "internal/bytealg.MaxLen") = some g) (hg : X.glob g = some [.int .i64 m])
    (h : conIS m args H = some (r, H')) (hs : Sim X ok w ι H) (hv : RepL ok w ι H args vs) : Goes X.P (callFunc f vs.toArray) w (CallPost X ok w ι H r H') := by
  unfold conIS at h
  split at h
  · rename_i s sub
    split at h
    · rename_i hc
      injection h with h
      injection h with e1 e2
      subst e1; subst e2
      cases repL_str2 hv
      have hr := Lib.run_indexString (P := X.P) ⟨s.toArray⟩ ⟨sub.toArray⟩ w g m hgi (glob_int hs hg) (by simpa [ByteArray.size] using hc.2.1) (by simpa [ByteArray.size] using hc.2.2.1) (by simp [ByteArray.size]; omega)
      refine Goes.value (v := .int .i64 (-1)) (w' := w) ?_ ⟨ι, ok, hs, .int _ _, .refl _ (Nat.le_refl _), fun i ds hi hd => by rw [hget, List.getElem?_eq_none hi] at hd; cases hd⟩
      rw [run_callFunc_extern hf hng (by rw [hn]; rfl) h1 h2]
      show ((Extern.BytealgIndex.index #[.string ⟨s.toArray⟩, .string ⟨sub.toArray⟩]).run X.P w).andThen _ = _
      rw [hr, idx_lib, idxN_long hc.1]
      rfl
    · cases h
  · cases h
end
end Go.Ev
/- Steps by hand between the evaluator's steps. -/
namespace Go.Ev
open Go Go.Proofs Go.RowKit
section
variable {X : Cx} {ok : Nat → Prop} {w w' : World} {ι : Iota} {H H' : Heap}
theorem cell_same {a : Addr} {j : Nat} {v : Value} (hk : w'.heap[a.block]? = w.heap[a.block]?) (h : w.cell? (a.add j) = some v) : w'.cell? (a.add j) = some v := by
  rw [World.cell?_of_block (w := w)]
  · exact h
  · rw [add_block]
    exact hk
/-- A value reads as it did where others' memory stands as it stood. -/
theorem Rep.same {d : D} {v : Value} (h : Rep ok w ι H d v) (hk : ∀ b, ok b → w'.heap[b]? = w.heap[b]?) : Rep ok w' ι H d v := by
  induction h with
  | bool b => exact .bool b
  | int k n => exact .int k n
  | str s => exact .str s
  | nilp => exact .nilp
  | nilf => exact .nilf
  | nili => exact .nili
  | raw v => exact .raw v
  | agg hl hc h ih => exact .agg hl hc fun j d hj => ih j d hj
  | tup hl h ih => exact .tup hl fun j d hj => ih j d hj
  | vptr a f ha hc hr h ih => exact .vptr a f ha hc (fun j d hj => cell_same (hk _ (ha d (mem_of_get? hj))) (hr j d hj)) fun j d hj => ih j d hj
  | optr a hi h => exact .optr a hi h
  | vnil => exact .vnil
  | vsl a f ha hc hr h hlc ih => exact .vsl a f ha hc (fun j d hj => cell_same (hk _ (ha d (mem_of_get? hj))) (hr j d hj)) (fun j d hj => ih j d hj) hlc
  | osl a hi h hlc => exact .osl a hi h hlc
  | fn hl h ih => exact .fn hl fun j d hj => ih j d hj
  | iface h ih => exact .iface ih
theorem sim_same (hs : Sim X ok w ι H) (hsz : w.heap.size ≤ w'.heap.size) (hk : ∀ b, ok b → w'.heap[b]? = w.heap[b]?) (hn : ∀ i ds b s, hget H i = some ds → ι i = some (b, s) → w'.heap[b]? = w.heap[b]?) : Sim X ok w' ι H := by
  refine ⟨fun b h => Nat.lt_of_lt_of_le (hs.okS b h) hsz, fun g cs hg => (hs.glob g cs hg).same hk, hs.inj, fun i ds hd => ?_⟩
  obtain ⟨b, arr, e, fr, q1, q2, q3, q4, q5, q6, q7, q8⟩ := hs.blk i ds hd
  exact ⟨b, arr, e, fr, q1, q2, by rw [hn i ds b _ hd q1]; exact q3, q4, q5, q6, q7, fun j d hj => (q8 j d hj).same hk⟩
theorem env_same {e : Env} {ts : Array Value} (he : EnvRep ok w ι H e ts) (hk : ∀ b, ok b → w'.heap[b]? = w.heap[b]?) : EnvRep ok w' ι H e ts := fun t d ht => ⟨(he t d ht).1, (he t d ht).2.same hk⟩
/-- Some operations by the evaluator, the others behind them by hand. -/
theorem evOps_app {F : CallF} (hF : SoundF X F) {nt : Nat} {drw : Bool} {ops : Array Oper} {Q : Exit → Act → World → Prop} {r : List Oper} : ∀ {l : List Oper} {e e' : Env} {H H' : Heap} {ok : Nat → Prop} {w : World} {ι : Iota} {a : Act}, evOps X F nt drw ops l e H = some (e', H') →
    Sim X ok w ι H → EnvRep ok w ι H e a.tmps → nt ≤ a.tmps.size → (∀ a' w', Out X H.length ok w ι H a e' H' a' w' → wpList X.P ops Q r a' w') → wpList X.P ops Q (l ++ r) a w
  | [], e, e', H, H', ok, w, ι, a, h, hs, he, hn, hQ => by
    simp only [evOps, Option.some.injEq, Prod.mk.injEq] at h
    obtain ⟨rfl, rfl⟩ := h
    exact hQ a w ⟨rfl, rfl, ι, ok, hs, he, .refl _ (Nat.le_refl _)⟩
  | o :: l, e, e', H, H', ok, w, ι, a, h, hs, he, hn, hQ => by
    simp only [evOps] at h
    split at h
    · rename_i hdst hg
      split at h
      · rename_i d H1 ho
        have hw := wanted_of_guard he hg
        simp only [List.cons_append, wpList, hw, if_true]
        refine .inl ?_
        unfold Oper.wp
        refine Goes.upon ((opW_goes hF hs he ho).mono fun v w1 hp => ?_)
        obtain ⟨ι1, ok1, k1, k2, k3⟩ := hp
        obtain ⟨s1, s2⟩ := put_size a o.dst v
        refine evOps_app hF h k1 (put_env (he.evol' hs k3) k2 hn hdst) (by omega) fun a2 w2 hout => hQ a2 w2 ?_
        obtain ⟨t1, t2, ι2, ok2, u1, u2, u3⟩ := hout
        exact ⟨by omega, by rw [t2, s2], ι2, ok2, u1, u2, k3.trans (u3.mono k3.nle.2)⟩
      · cases h
    · rename_i hdst hg
      have hw := wanted_of_guard he hg
      simp only [List.cons_append, wpList, hw, Bool.false_eq_true, if_false]
      obtain ⟨s1, s2⟩ := put_size a o.dst undef
      refine evOps_app hF h hs (put_env he undef_rep hn hdst) (by omega) fun a2 w2 hout => hQ a2 w2 ?_
      obtain ⟨t1, t2, rest⟩ := hout
      exact ⟨by omega, by rw [t2, s2], rest⟩
    · cases h
/-- A call by hand. -/
theorem wp_callOp {P : Program} {ops : Array Oper} {Q : Exit → Act → World → Prop} {r : List Oper} {o : Oper} {c : Call} {f : Nat} {a : Act} (hg : o.guard = none) (ho : o.op = .call c) (hc : c.callee = .value (.func f))
    (h : Goes P (callFunc f (c.args.toList.map a.eval).toArray) w fun v w1 => wpList P ops Q r (a.put o.dst v) w1) : wpList P ops Q (o :: r) a w := by
  have hw : Region.wanted o (yielded ops a.tmps) = true := by unfold Region.wanted; rw [hg]
  simp only [wpList, hw, if_true]
  refine .inl ?_
  unfold Oper.wp
  have e : execOp a.eval o = callFunc f (c.args.toList.map a.eval).toArray := by
    simp only [execOp, ho, resolve, hc, Act.eval, Deferred.ofValue]
    simp only [pure_bind, invoke]
    congr 1
    apply Array.ext'
    simp
  rw [e]
  exact Goes.upon h
theorem code_sound (hG : Good X) {f nt n0 : Nat} {c : Code} {e e' : Env} {ex : Ex} {a : Act} (h : code X f nt n0 c e H = some (ex, e', H')) (hok : okCode X f c = true) (hn : n0 ≤ H.length) (hs : Sim X ok w ι H) (he : EnvRep ok w ι H e a.tmps) (ht : nt ≤ a.tmps.size) :
    c.wp X.P (CQ X n0 ok w ι H a ex e' H') a w := by
  obtain ⟨n, hn'⟩ := code_some.1 h
  exact (sound hG n).2 f nt n0 c e e' H H' ex ok w ι a hn' hok hn hs he ht
end
end Go.Ev
/-
  Runs that end in a panic of the program's own: functions that make nothing, on values that hold no names.
-/
namespace Go.Ev
open Go Go.Proofs Go.RowKit
/-- What a region's operation panics with. -/
def PanOp (X : Cx) (P : Nat → Nat → Nat → Code → Env → D → Prop) (o : Op) (e : Env) (d : D) : Prop :=
  (∃ x t d0, o = .panic x ∧ opd X e x = some (.iface t d0) ∧ d = .iface t d0) ∨
  (∃ c g f caps args fn cd, o = .call c ∧ c.callee = .value g ∧ opds X e c.args.toList = some args ∧ opd X e g = some (.fn f caps) ∧ X.P.funcs[f]? = some fn ∧ fn.body = some cd ∧ X.bad f = false ∧ (args ++ caps).all idFree = true ∧
    P f fn.ntmps 0 cd (argEnv 0 (args ++ caps)) d)
/-- A run that panics; what it made is left. -/
def PanC (X : Cx) : Nat → Nat → Nat → Nat → Code → Env → Heap → D → Heap → Prop
  | 0, _, _, _, _, _, _, _, _ => False
  | n + 1, f, nt, n0, c, e, H, d, H' => match c with
    | .region id ops false => ∃ e1 H1 l1 o l2 e2, enter X f n0 id e H = some (e1, H1) ∧ ops.toList = l1 ++ o :: l2 ∧ evOps X (call X) nt (regW X f id false ops) ops l1 e1 H1 = some (e2, H') ∧ guardQ ops e2 o.guard = some true ∧ idFree d = true ∧ vFree d = true ∧
        PanOp X (fun f nt n0 c e d => ∃ L, PanC X n f nt n0 c e [] d L) o.op e2 d
    | .seq a b => PanC X n f nt n0 a e H d H' ∨ ∃ e1 H1, code X f nt n0 a e H = some (.normal, e1, H1) ∧ PanC X n f nt n0 b e1 H1 d H'
    | .cond c a b => ∃ t, opd X e c = some (.bool t) ∧ PanC X n f nt n0 (if t then a else b) e H d H'
    | .block _ c | .scope c => PanC X n f nt n0 c e H d H'
    | .loop c => PanC X n f nt n0 c e H d H' ∨ ∃ e1 H1, code X f nt n0 c e H = some (.normal, e1, H1) ∧ PanC X n f nt n0 (.loop c) e1 H1 d H'
    | _ => False
/-- A function's call panics. -/
def Pan (X : Cx) (f : Nat) (args : List D) (d : D) : Prop :=
  ∃ n fn c L, X.P.funcs[f]? = some fn ∧ fn.body = some c ∧ X.bad f = false ∧ args.all idFree = true ∧ PanC X n f fn.ntmps 0 c (argEnv 0 args) [] d L
section
variable {X : Cx} {ok ok' : Nat → Prop} {w w' : World} {ι : Iota} {H H' : Heap}
/-- A step of the run that ends in a panic. -/
def GoesP (P : Program) (s : Sem Next) (w : World) (R : Value → World → Prop) : Prop :=
  match s.run P w with
  | .ok (.enter f args) w' => Calls P f args w' fun e w'' => ∃ v, e = .panicked [{ v, recovered := false }] ∧ R v w''
  | .halt (.panic v) w' => R v w'
  | _ => False
theorem GoesP.upon {P : Program} {o : Oper} {a : Act} {s : Sem Next} {next : Act → World → Prop} {Q : Exit → Act → World → Prop} (h : GoesP P s w fun v w' => Q (.panic [{ v, recovered := false }]) a w') : o.upon P a next Q (s.run P w) := by
  unfold GoesP at h
  split at h
  · rename_i f args w' hr
    rw [hr]
    simp only [Oper.upon]
    exact h.mono fun e w'' ⟨v, h1, h2⟩ => by subst h1; exact h2
  · rename_i v w' hr
    rw [hr]
    exact h
  · exact h.elim
theorem GoesP.mono {P : Program} {s : Sem Next} {R R' : Value → World → Prop} (h : GoesP P s w R) (hr : ∀ v w', R v w' → R' v w') : GoesP P s w R' := by
  unfold GoesP at *
  split at h
  · exact h.mono fun e w'' ⟨v, h1, h2⟩ => ⟨v, h1, hr _ _ h2⟩
  · exact hr _ _ h
  · exact h.elim
/-- Where a run has panicked. -/
def PQ (X : Cx) (n : Nat) (ok : Nat → Prop) (w : World) (ι : Iota) (H : Heap) (a : Act) (d : D) (H' : Heap) (x : Exit) (a' : Act) (w' : World) : Prop :=
  a'.defers = a.defers ∧ ∃ v ι' ok', x = .panic [{ v, recovered := false }] ∧ Sim X ok' w' ι' H' ∧ Rep ok' w' ι' H' d v ∧ Evol n ok w ι H ok' w' ι' H'
/-- A call by value that panics. -/
theorem panF_sound {f : Nat} {fn : Func} {c : Code} {args : List D} {d : D} {L : Heap} {vs : List Value} (hf : X.P.funcs[f]? = some fn) (hb : fn.body = some c) (hng : (fn.name == "runtime.NumGoroutine") = false)
    (hfree : args.all idFree = true) (hd : idFree d = true) (hvd : vFree d = true) (hs : Sim X ok w ι H) (hv : RepL ok w ι H args vs)
    (hC : ∀ a : Act, EnvRep ok w iota0 [] (argEnv 0 args) a.tmps → fn.ntmps ≤ a.tmps.size → c.wp X.P (PQ X 0 ok w iota0 [] a d L) a w) :
    GoesP X.P (callFunc f vs.toArray) w fun v w' => Sim X ok w' ι H ∧ Rep ok w' ι H d v ∧ Evol H.length ok w ι H ok w' ι H := by
  have henter : (callFunc f vs.toArray).run X.P w = .ok (.enter f vs.toArray) w := Go.Proofs.enters_of hf hng hb _ _
  have hv' : RepL ok w iota0 [] args vs := ⟨hv.1, fun j d hj => (hv.2 j d hj).free (allFree hfree d (mem_of_get? hj)) _ _⟩
  unfold GoesP
  rw [henter]
  simp only
  refine calls_of_wp hf hb (wp_mono (hC ⟨vs.toArray ++ Array.replicate (fn.ntmps - vs.toArray.size) undef, []⟩ ?_ ?_) ?_)
  · intro t d ht
    obtain ⟨_, h2⟩ := argEnv_look args 0 t d ht
    rw [Nat.sub_zero] at h2
    have hlt : t < vs.length := by rw [hv.1]; exact (List.getElem?_eq_some_iff.1 h2).1
    refine ⟨by simp; omega, ?_⟩
    have := hv'.2 t d h2
    rw [Array.getD_eq_getD_getElem?, Array.getElem?_append_left (by simpa using hlt)]
    simpa [List.getD_eq_getElem?_getD] using this
  · simp
    omega
  · rintro x a' w' ⟨hdf, v, ι1, ok1, rfl, k1, k2, k3⟩
    refine ⟨hdf, v, rfl, ?_⟩
    have hfr : ∀ b, b < w.heap.size → w'.heap[b]? = w.heap[b]? := fun b hb => k3.frame b hb (fun i ds s hd => by simp [hget] at hd)
    refine ⟨sim_same hs k3.size (fun b h => hfr b (hs.okS b h)) (fun i ds b s hd hi => hfr b (hs.lt hd hi)), (k2.free hd ι H).vfree hvd ok, ⟨k3.os, k3.tape, k3.output, k3.size, fun b hb _ => hfr b hb, fun _ h => h, fun _ h _ => .inl h, ⟨Nat.le_refl _, Nat.le_refl _⟩, fun i _ ds hd => ⟨ds, hd, Nat.le_refl _, fun _ => rfl⟩, fun i ds _ s hd hi _ => ⟨i, ds, s, hd, hi⟩⟩⟩
theorem PQ.trans {n : Nat} {a a1 : Act} {w1 : World} {H1 : Heap} {ok1 : Nat → Prop} {ι1 : Iota} {d : D} (h2 : a1.defers = a.defers) (h3 : Evol n ok w ι H ok1 w1 ι1 H1) {x : Exit} {a2 : Act} {w2 : World}
    (h : PQ X n ok1 w1 ι1 H1 a1 d H' x a2 w2) : PQ X n ok w ι H a d H' x a2 w2 := by
  obtain ⟨t, v, ι2, ok2, rfl, u1, u2, u3⟩ := h
  exact ⟨by rw [t, h2], v, ι2, ok2, rfl, u1, u2, h3.trans u3⟩
/-- A RUN THAT PANICS, soundly. -/
theorem panC_sound (hG : Good X) : ∀ (n f nt n0 : Nat) (c : Code) (e : Env) (H : Heap) (d : D) (H' : Heap) (ok : Nat → Prop) (w : World) (ι : Iota) (a : Act), PanC X n f nt n0 c e H d H' → okCode X f c = true → n0 ≤ H.length → Sim X ok w ι H → EnvRep ok w ι H e a.tmps → nt ≤ a.tmps.size →
    c.wp X.P (PQ X n0 ok w ι H a d H') a w := by
  intro n
  induction n using Nat.strongRecOn with
  | _ n ih0 =>
  cases n with
  | zero => intro f nt n0 c e H d H' ok w ι a h; exact h.elim
  | succ n =>
    have ih := ih0 n (by omega)
    intro f nt n0 c e H d H' ok w ι a h hoc hn hs he hnt
    cases c with
    | region id ops draw =>
      cases draw with
      | true => exact h.elim
      | false =>
        obtain ⟨e1, H1, l1, o, l2, e2, hen, hl, hev, hg, hd, hvd, hop⟩ := h
        obtain ⟨ok1, ι1, s1, s2, s3⟩ := enter_sound hen hn hs he
        refine wp_region_list ?_
        rw [hl]
        refine evOps_app (call_sound hG) hev s1 s2 hnt fun a' w' hout => ?_
        obtain ⟨t1, t2, ι2, ok2, u1, u2, u3⟩ := hout
        have hw := wanted_of_guard u2 hg
        simp only [wpList, hw, if_true]
        refine .inl ?_
        have hev2 := s3.trans (u3.mono s3.nle.2)
        rcases hop with ⟨x, t, d0, ho, hx, rfl⟩ | ⟨c, g, f', caps, args, fn, cd, ho, hc, hargs, hgf, hf, hb, hbad, hfree, L, hP⟩
        · obtain ⟨v, hv, hr⟩ : ∃ v, a'.eval x = .iface t v ∧ Rep ok2 w' ι2 H' d0 v := by
            have := opd_rep u1 u2 hx
            generalize a'.eval x = y at this
            cases this
            exact ⟨_, rfl, by assumption⟩
          have hrun : (execOp a'.eval o).run X.P w' = .halt (.panic (.iface t v)) w' := by
            simp only [execOp, ho, hv]
            rfl
          unfold Oper.wp
          rw [hrun, Oper.upon_panic]
          exact ⟨t2, _, ι2, ok2, rfl, u1, .iface hr, hev2⟩
        · have hv := opds_rep u1 u2 hargs
          have hb1 := opd_rep u1 u2 hgf
          generalize hcv : a'.eval g = cv at hb1
          cases hb1 with
          | @fn _ _ _ _ vs hl hh =>
            have e0 : execOp a'.eval o = callFunc f' ((c.args.toList.map a'.eval) ++ vs.toList).toArray := by
              simp only [execOp, ho, resolve, hc, hcv, Deferred.ofValue]
              simp only [pure_bind, invoke]
              congr 1
              apply Array.ext'
              simp
            unfold Oper.wp
            rw [e0]
            refine GoesP.upon ((panF_sound hf hb (hG.ng f' fn hf) hfree hd hvd u1 (RepL.append hv (repL_fn hl hh)) fun a2 he2 ht2 => ih f' fn.ntmps 0 cd _ [] d L ok2 w' iota0 a2 hP (hG.okc f' fn cd hf hb hbad) (Nat.le_refl _) (sim_alone u1) he2 ht2).mono fun v w2 hq => ?_)
            obtain ⟨q1, q2, q3⟩ := hq
            exact ⟨t2, v, ι2, ok2, rfl, q1, q2, hev2.trans (q3.mono (Nat.le_trans s3.nle.2 u3.nle.2))⟩
    | seq x y =>
      simp only [okCode, Bool.and_eq_true] at hoc
      refine wp_seq ?_
      rcases h with h | ⟨e1, H1, hx, h⟩
      · refine wp_mono (ih f nt n0 x e H d H' ok w ι a h hoc.1 hn hs he hnt) ?_
        rintro z a' w' ⟨t, v, ι', ok', rfl, r⟩
        exact ⟨t, v, ι', ok', rfl, r⟩
      · refine wp_mono (code_sound hG hx hoc.1 hn hs he hnt) ?_
        rintro z a1 w1 ⟨rfl, t1, t2, ι1, ok1, u1, u2, u3⟩
        refine wp_mono (ih f nt n0 y e1 H1 d H' ok1 w1 ι1 a1 h hoc.2 u3.nle.2 u1 u2 (by omega)) ?_
        exact fun z a2 w2 hq => PQ.trans t2 u3 hq
    | cond c x y =>
      simp only [okCode, Bool.and_eq_true] at hoc
      obtain ⟨t, hc, h⟩ := h
      refine wp_cond (ofBool hs he hc) (ih f nt n0 _ e H d H' ok w ι a h ?_ hn hs he hnt)
      cases t
      · exact hoc.2
      · exact hoc.1
    | block id c =>
      refine wp_block (wp_mono (ih f nt n0 c e H d H' ok w ι a h hoc hn hs he hnt) ?_)
      rintro z a' w' ⟨t, v, ι', ok', rfl, r⟩
      exact ⟨t, v, ι', ok', rfl, r⟩
    | scope c =>
      refine wp_scope_straight (wp_mono (ih f nt n0 c e H d H' ok w ι a h hoc hn hs he hnt) ?_)
      rintro z a' w' ⟨t, v, ι', ok', rfl, r⟩
      exact ⟨t, v, ι', ok', rfl, r⟩
    | loop c =>
      simp only [okCode] at hoc
      have key : ∀ m, m ≤ n → ∀ (e : Env) (H : Heap) (ok : Nat → Prop) (w : World) (ι : Iota) (a : Act), PanC X (m + 1) f nt n0 (.loop c) e H d H' → n0 ≤ H.length → Sim X ok w ι H → EnvRep ok w ι H e a.tmps → nt ≤ a.tmps.size → Code.rounds X.P c (PQ X n0 ok w ι H a d H') (m + 1) a w := by
        intro m
        induction m with
        | zero =>
          intro _ e H ok w ι a h
          rcases h with h | ⟨_, _, _, h⟩
          · exact h.elim
          · exact h.elim
        | succ m ihm =>
          intro hm e H ok w ι a h hn hs he hnt
          rw [rounds_succ]
          rcases h with h | ⟨e1, H1, hx, h⟩
          · refine wp_mono (ih0 (m + 1) (by omega) f nt n0 c e H d H' ok w ι a h hoc hn hs he hnt) ?_
            rintro z a' w' ⟨t, v, ι', ok', rfl, r⟩
            exact ⟨t, v, ι', ok', rfl, r⟩
          · refine wp_mono (code_sound hG hx hoc hn hs he hnt) ?_
            rintro z a1 w1 ⟨rfl, t1, t2, ι1, ok1, u1, u2, u3⟩
            exact rounds_mono (fun z a2 w2 hq => PQ.trans t2 u3 hq) _ _ _ (ihm (by omega) e1 H1 ok1 w1 ι1 a1 h u3.nle.2 u1 u2 (by omega))
      exact wp_loop_rounds _ (key n (Nat.le_refl _) e H ok w ι a h hn hs he hnt)
    | skip => exact h.elim
    | label l => exact h.elim
    | exit id => exact h.elim
    | ret => exact h.elim
    | _ => exact h.elim
/-- A call by name that panics. -/
def PanR (X : Cx) (f : Nat) (args : List D) (H : Heap) (d : D) (H' : Heap) : Prop :=
  ∃ n fn c, X.P.funcs[f]? = some fn ∧ fn.body = some c ∧ X.bad f = false ∧ PanC X n f fn.ntmps H.length c (argEnv 0 args) H d H'
theorem panR_sound (hG : Good X) {f : Nat} {args : List D} {d : D} {vs : List Value} (h : PanR X f args H d H') (hs : Sim X ok w ι H) (hv : RepL ok w ι H args vs) :
    GoesP X.P (callFunc f vs.toArray) w fun v w' => ∃ ι' ok', Sim X ok' w' ι' H' ∧ Rep ok' w' ι' H' d v ∧ Evol H.length ok w ι H ok' w' ι' H' := by
  obtain ⟨n, fn, c, hf, hb, hbad, hP⟩ := h
  have henter : (callFunc f vs.toArray).run X.P w = .ok (.enter f vs.toArray) w := Go.Proofs.enters_of hf (hG.ng f fn hf) hb _ _
  unfold GoesP
  rw [henter]
  simp only
  refine calls_of_wp hf hb (wp_mono (panC_sound hG n f fn.ntmps H.length c (argEnv 0 args) H d H' ok w ι ⟨vs.toArray ++ Array.replicate (fn.ntmps - vs.toArray.size) undef, []⟩ hP (hG.okc f fn c hf hb hbad) (Nat.le_refl _) hs ?_ ?_) ?_)
  · intro t d ht
    obtain ⟨_, h2⟩ := argEnv_look args 0 t d ht
    rw [Nat.sub_zero] at h2
    have hlt : t < vs.length := by rw [hv.1]; exact (List.getElem?_eq_some_iff.1 h2).1
    refine ⟨by simp; omega, ?_⟩
    have := hv.2 t d h2
    rw [Array.getD_eq_getD_getElem?, Array.getElem?_append_left (by simpa using hlt)]
    simpa [List.getD_eq_getElem?_getD] using this
  · simp
    omega
  · rintro x a' w' ⟨hdf, v, ι1, ok1, rfl, k1, k2, k3⟩
    exact ⟨hdf, v, rfl, ι1, ok1, k1, k2, k3⟩
end
end Go.Ev
/-
  Runs that panic: the rules.
-/
namespace Go.Ev
open Go Go.Proofs
def PanE (X : Cx) (f nt n0 : Nat) (c : Code) (e : Env) (H : Heap) (d : D) (H' : Heap) : Prop := ∃ n, PanC X n f nt n0 c e H d H'
section
variable {X : Cx} {f nt n0 : Nat} {e : Env} {H H' : Heap} {d : D}
theorem PanE.seqL {a b : Code} (h : PanE X f nt n0 a e H d H') : PanE X f nt n0 (.seq a b) e H d H' := by
  obtain ⟨n, h⟩ := h
  exact ⟨n + 1, .inl h⟩
/-- First what goes well, then the panic. -/
theorem PanE.seqR {a b : Code} (h : Run X f nt n0 (fun ex e1 H1 => ex = .normal ∧ PanE X f nt n0 b e1 H1 d H') [] (code X f nt n0 a e H)) : PanE X f nt n0 (.seq a b) e H d H' := by
  cases ho : code X f nt n0 a e H with
  | none => rw [ho, run_none] at h; exact h.elim
  | some q =>
    obtain ⟨ex, e1, H1⟩ := q
    rw [ho, run_nil] at h
    obtain ⟨rfl, n, h⟩ := h
    exact ⟨n + 1, .inr ⟨e1, H1, ho, h⟩⟩
theorem PanE.cond {c : Operand} {a b : Code} {t : Bool} (hc : opd X e c = some (.bool t)) (h : PanE X f nt n0 (if t then a else b) e H d H') : PanE X f nt n0 (.cond c a b) e H d H' := by
  obtain ⟨n, h⟩ := h
  exact ⟨n + 1, t, hc, h⟩
theorem PanE.block {id : Nat} {c : Code} (h : PanE X f nt n0 c e H d H') : PanE X f nt n0 (.block id c) e H d H' := by
  obtain ⟨n, h⟩ := h
  exact ⟨n + 1, h⟩
theorem PanE.scope {c : Code} (h : PanE X f nt n0 c e H d H') : PanE X f nt n0 (.scope c) e H d H' := by
  obtain ⟨n, h⟩ := h
  exact ⟨n + 1, h⟩
theorem PanE.loop {c : Code} {σ : Type} (I : σ → Env → Heap → Prop) (m : σ → Nat)
    (step : ∀ s e H, I s e H → PanE X f nt n0 c e H d H' ∨ Run X f nt n0 (fun ex e1 H1 => ex = .normal ∧ ∃ s', m s' < m s ∧ I s' e1 H1) [] (code X f nt n0 c e H)) : ∀ (s : σ) {e : Env} {H : Heap}, I s e H → PanE X f nt n0 (.loop c) e H d H' := by
  have key : ∀ (k : Nat) (s : σ), m s ≤ k → ∀ {e : Env} {H : Heap}, I s e H → PanE X f nt n0 (.loop c) e H d H' := by
    intro k
    induction k with
    | zero =>
      intro s hk e H hi
      rcases step s e H hi with ⟨n, h⟩ | h
      · exact ⟨n + 1, .inl h⟩
      · cases ho : code X f nt n0 c e H with
        | none => rw [ho, run_none] at h; exact h.elim
        | some q =>
          obtain ⟨ex, e1, H1⟩ := q
          rw [ho, run_nil] at h
          obtain ⟨rfl, s', hs, _⟩ := h
          omega
    | succ k ih =>
      intro s hk e H hi
      rcases step s e H hi with ⟨n, h⟩ | h
      · exact ⟨n + 1, .inl h⟩
      · cases ho : code X f nt n0 c e H with
        | none => rw [ho, run_none] at h; exact h.elim
        | some q =>
          obtain ⟨ex, e1, H1⟩ := q
          rw [ho, run_nil] at h
          obtain ⟨rfl, s', hs, hi'⟩ := h
          obtain ⟨n, h⟩ := ih s' (by omega) hi'
          exact ⟨n + 1, .inr ⟨e1, H1, ho, h⟩⟩
  exact fun s e H hi => key (m s) s (Nat.le_refl _) hi
/-- A region whose last operation (of those that are reached) panics of itself. -/
theorem PanE.panic {id : Nat} {ops : Array Oper} {l1 l2 : List Oper} {o : Oper} {x : Operand} {t : Nat} {d0 : D} {e1 e2 : Env} {H1 : Heap} (hen : enter X f n0 id e H = some (e1, H1)) (hl : ops.toList = l1 ++ o :: l2)
    (hev : evOps X (call X) nt (regW X f id false ops) ops l1 e1 H1 = some (e2, H')) (hg : guardQ ops e2 o.guard = some true) (ho : o.op = .panic x) (hx : opd X e2 x = some (.iface t d0)) (hd : idFree d0 = true) (hv : vFree d0 = true) : PanE X f nt n0 (.region id ops false) e H (.iface t d0) H' :=
  ⟨1, e1, H1, l1, o, l2, e2, hen, hl, hev, hg, hd, hv, .inl ⟨x, t, d0, ho, hx, rfl⟩⟩
/-- A region in which a call panics. -/
theorem PanE.call {id : Nat} {ops : Array Oper} {l1 l2 : List Oper} {o : Oper} {c : Call} {g : Operand} {f' : Nat} {caps args : List D} {e1 e2 : Env} {H1 : Heap} (hen : enter X f n0 id e H = some (e1, H1)) (hl : ops.toList = l1 ++ o :: l2)
    (hev : evOps X (call X) nt (regW X f id false ops) ops l1 e1 H1 = some (e2, H')) (hg : guardQ ops e2 o.guard = some true) (ho : o.op = .call c) (hc : c.callee = .value g) (ha : opds X e2 c.args.toList = some args) (hf : opd X e2 g = some (.fn f' caps)) (hp : Pan X f' (args ++ caps) d) (hd : idFree d = true) (hv : vFree d = true) : PanE X f nt n0 (.region id ops false) e H d H' := by
  obtain ⟨n, fn, cd, L, q1, q2, q3, q4, q5⟩ := hp
  exact ⟨n + 1, e1, H1, l1, o, l2, e2, hen, hl, hev, hg, hd, hv, .inr ⟨c, g, f', caps, args, fn, cd, ho, hc, ha, hf, q1, q2, q3, q4, L, q5⟩⟩
theorem pan_of {fn : Func} {c : Code} {args : List D} {L : Heap} (hf : X.P.funcs[f]? = some fn) (hb : fn.body = some c) (hbad : X.bad f = false) (ha : args.all idFree = true) (h : PanE X f fn.ntmps 0 c (argEnv 0 args) [] d L) : Pan X f args d := by
  obtain ⟨n, h⟩ := h
  exact ⟨n, fn, c, L, hf, hb, hbad, ha, h⟩
theorem panR_of {fn : Func} {c : Code} {args : List D} (hf : X.P.funcs[f]? = some fn) (hb : fn.body = some c) (hbad : X.bad f = false) (h : PanE X f fn.ntmps H.length c (argEnv 0 args) H d H') : PanR X f args H d H' := by
  obtain ⟨n, h⟩ := h
  exact ⟨n, fn, c, hf, hb, hbad, h⟩
end
end Go.Ev
/-
  Runs that panic, as a function: what they panic with, and the memory then.
-/
namespace Go.Ev
open Go Go.Proofs Go.RowKit
/-- What an operation panics with. -/
def panOp (X : Cx) (P : Nat → List D → Option D) (o : Op) (e : Env) : Option D :=
  match o with
  | .panic x => match opd X e x with
    | some (.iface t d) => if idFree d && vFree d then some (.iface t d) else none
    | _ => none
  | .call c => match c.callee, opds X e c.args.toList with
    | .value g, some args => match opd X e g with
      | some (.fn f caps) => P f (args ++ caps)
      | _ => none
    | _, _ => none
  | _ => none
/-- What operations, one behind the other, panic with. -/
noncomputable def opsP (X : Cx) (P : Nat → List D → Option D) (nt : Nat) (bw : Bool) (ops : Array Oper) : List Oper → Env → Heap → Option (D × Heap)
  | [], _, _ => none
  | o :: l, e, H => match dstOk nt o.dst, guardQ ops e o.guard with
    | true, some true => match evOpW X (call X) bw o.op e H with
      | some (d, H') => opsP X P nt bw ops l (putE e o.dst d) H'
      | none => (panOp X P o.op e).map (·, H)
    | true, some false => opsP X P nt bw ops l (putE e o.dst (.tup [])) H
    | _, _ => none
/-- What a function panics with: nothing of it is kept. -/
def panFn (X : Cx) (ev : Nat → Nat → Nat → Code → Env → Heap → Option (D × Heap)) (f : Nat) (args : List D) : Option D :=
  match X.con f args [], X.P.funcs[f]? with
  | none, some fn => match fn.body with
    | some c => if X.bad f = false ∧ args.all idFree = true then match ev f fn.ntmps 0 c (argEnv 0 args) [] with
        | some (d, _) => if idFree d && vFree d then some d else none
        | none => none
      else none
    | none => none
  | _, _ => none
noncomputable def evP (X : Cx) : Nat → Nat → Nat → Nat → Code → Env → Heap → Option (D × Heap)
  | 0, _, _, _, _, _, _ => none
  | n + 1, f, nt, n0, c, e, H => match c with
    | .region id ops draw => match draw, enter X f n0 id e H with
      | false, some (e1, H1) => opsP X (panFn X (evP X n)) nt (regW X f id false ops) ops ops.toList e1 H1
      | _, _ => none
    | .seq a b => match code X f nt n0 a e H with
      | some (.normal, e1, H1) => evP X n f nt n0 b e1 H1
      | some _ => none
      | none => evP X n f nt n0 a e H
    | .cond c a b => match opd X e c with
      | some (.bool t) => evP X n f nt n0 (if t then a else b) e H
      | _ => none
    | .block _ c => evP X n f nt n0 c e H
    | .scope c => evP X n f nt n0 c e H
    | .loop c => match code X f nt n0 c e H with
      | some (.normal, e1, H1) => evP X n f nt n0 (.loop c) e1 H1
      | some _ => none
      | none => evP X n f nt n0 c e H
    | _ => none
section
variable {X : Cx} {f nt n0 : Nat} {e : Env} {H H' : Heap} {d : D}
theorem panOp_le {P Q : Nat → List D → Option D} (h : ∀ f args d, P f args = some d → Q f args = some d) {o : Op} {d : D} (hp : panOp X P o e = some d) : panOp X Q o e = some d := by
  unfold panOp at hp ⊢
  split at hp
  · exact hp
  · split at hp
    · split at hp
      · exact h _ _ _ hp
      · cases hp
    · cases hp
  · cases hp
theorem opsP_le {P Q : Nat → List D → Option D} (h : ∀ f args d, P f args = some d → Q f args = some d) {bw : Bool} {ops : Array Oper} : ∀ {l : List Oper} {e : Env} {H : Heap} {r : D × Heap}, opsP X P nt bw ops l e H = some r → opsP X Q nt bw ops l e H = some r
  | [], _, _, _, hp => hp
  | o :: l, e, H, r, hp => by
    rw [opsP] at hp ⊢
    split at hp
    · split at hp
      · exact opsP_le h hp
      · cases hq : panOp X P o.op e with
        | none => rw [hq] at hp; cases hp
        | some q => rw [hq] at hp; simp only [panOp_le h hq]; exact hp
    · exact opsP_le h hp
    · cases hp
theorem panFn_le {E G : Nat → Nat → Nat → Code → Env → Heap → Option (D × Heap)} (h : ∀ f nt n0 c e H r, E f nt n0 c e H = some r → G f nt n0 c e H = some r) {f : Nat} {args : List D} {d : D} (hp : panFn X E f args = some d) : panFn X G f args = some d := by
  unfold panFn at hp ⊢
  split at hp
  · split at hp
    · split at hp
      · rename_i hcond
        rw [if_pos hcond]
        split at hp
        · rename_i hE
          rw [h _ _ _ _ _ _ _ hE]
          exact hp
        · cases hp
      · cases hp
    · cases hp
  · cases hp
theorem evP_succ : ∀ {n f nt n0 : Nat} {c : Code} {e : Env} {H : Heap} {r : D × Heap}, evP X n f nt n0 c e H = some r → evP X (n + 1) f nt n0 c e H = some r := by
  intro n
  induction n with
  | zero => intro f nt n0 c e H r h; simp [evP] at h
  | succ n ih =>
    intro f nt n0 c e H r h
    rw [evP.eq_def] at h ⊢
    cases c with
    | region id ops draw =>
      simp only at h ⊢
      split at h
      · exact opsP_le (fun f args d hp => panFn_le (fun f nt n0 c e H r hh => ih hh) hp) h
      · cases h
    | seq a b =>
      simp only at h ⊢
      split at h
      · exact ih h
      · cases h
      · exact ih h
    | cond c a b =>
      simp only at h ⊢
      split at h
      · exact ih h
      · cases h
    | block id c => exact ih h
    | scope c => exact ih h
    | loop c =>
      simp only at h ⊢
      split at h
      · exact ih h
      · cases h
      · exact ih h
    | skip => cases h
    | label l => cases h
    | exit id => cases h
    | ret => cases h
    | _ => cases h
theorem evP_le {n m : Nat} (hnm : n ≤ m) {c : Code} {r : D × Heap} (h : evP X n f nt n0 c e H = some r) : evP X m f nt n0 c e H = some r := by
  induction hnm with
  | refl => exact h
  | step _ ih => exact evP_succ ih
/-- What code panics with. -/
noncomputable def codeP (X : Cx) (f nt n0 : Nat) (c : Code) (e : Env) (H : Heap) : Option (D × Heap) := lim fun n => evP X n f nt n0 c e H
theorem codeP_some {c : Code} {r : D × Heap} : codeP X f nt n0 c e H = some r ↔ ∃ n, evP X n f nt n0 c e H = some r := lim_some fun _ _ _ hnm h => evP_le hnm h
/-- What a function of values panics with. -/
noncomputable def panF (X : Cx) (f : Nat) (args : List D) : Option D := panFn X (codeP X) f args
theorem panF_lim {f : Nat} {args : List D} {d : D} (h : panF X f args = some d) : ∃ n, panFn X (evP X n) f args = some d := by
  unfold panF panFn at h
  split at h
  · rename_i hc hf
    split at h
    · rename_i c hb
      split at h
      · rename_i hcond
        split at h
        · rename_i hE
          obtain ⟨n, hn⟩ := codeP_some.1 hE
          refine ⟨n, ?_⟩
          unfold panFn
          simp only [hc, hf, hb, if_pos hcond, hn]
          exact h
        · cases h
      · cases h
    · cases h
  · cases h
theorem panOp_lim {o : Op} {d : D} (h : panOp X (panF X) o e = some d) : ∃ n, panOp X (panFn X (evP X n)) o e = some d := by
  unfold panOp at h
  split at h
  · refine ⟨0, ?_⟩
    unfold panOp
    exact h
  · split at h
    · rename_i hc ha
      split at h
      · rename_i hg
        obtain ⟨n, hn⟩ := panF_lim h
        refine ⟨n, ?_⟩
        unfold panOp
        simp only [hc, ha, hg]
        exact hn
      · cases h
    · cases h
  · cases h
theorem opsP_lim {bw : Bool} {ops : Array Oper} : ∀ {l : List Oper} {e : Env} {H : Heap} {r : D × Heap}, opsP X (panF X) nt bw ops l e H = some r → ∃ n, opsP X (panFn X (evP X n)) nt bw ops l e H = some r
  | [], _, _, _, hp => ⟨0, hp⟩
  | o :: l, e, H, r, hp => by
    rw [opsP] at hp
    split at hp
    · rename_i hd hg
      split at hp
      · rename_i ho
        obtain ⟨n, hn⟩ := opsP_lim hp
        exact ⟨n, by rw [opsP, hd, hg]; simp only [ho]; exact hn⟩
      · rename_i ho
        cases hq : panOp X (panF X) o.op e with
        | none => rw [hq] at hp; cases hp
        | some q =>
          rw [hq] at hp
          obtain ⟨n, hn⟩ := panOp_lim hq
          exact ⟨n, by rw [opsP, hd, hg]; simp only [ho, hn]; exact hp⟩
    · rename_i hd hg
      obtain ⟨n, hn⟩ := opsP_lim hp
      exact ⟨n, by rw [opsP, hd, hg]; exact hn⟩
    · cases hp
/-- The rules. -/
theorem codeP_region {id : Nat} {ops : Array Oper} {e1 : Env} {H1 : Heap} {r : D × Heap} (hen : enter X f n0 id e H = some (e1, H1)) (h : opsP X (panF X) nt (regW X f id false ops) ops ops.toList e1 H1 = some r) : codeP X f nt n0 (.region id ops false) e H = some r := by
  obtain ⟨n, hn⟩ := opsP_lim h
  exact codeP_some.2 ⟨n + 1, by rw [evP.eq_def]; simp only [hen]; exact hn⟩
theorem codeP_cond {c : Operand} {a b : Code} {t : Bool} {r : D × Heap} (hc : opd X e c = some (.bool t)) (h : codeP X f nt n0 (if t then a else b) e H = some r) : codeP X f nt n0 (.cond c a b) e H = some r := by
  obtain ⟨n, hn⟩ := codeP_some.1 h
  exact codeP_some.2 ⟨n + 1, by rw [evP.eq_def]; simp only [hc]; exact hn⟩
theorem codeP_block {id : Nat} {c : Code} {r : D × Heap} (h : codeP X f nt n0 c e H = some r) : codeP X f nt n0 (.block id c) e H = some r := by
  obtain ⟨n, hn⟩ := codeP_some.1 h
  exact codeP_some.2 ⟨n + 1, hn⟩
theorem codeP_scope {c : Code} {r : D × Heap} (h : codeP X f nt n0 c e H = some r) : codeP X f nt n0 (.scope c) e H = some r := by
  obtain ⟨n, hn⟩ := codeP_some.1 h
  exact codeP_some.2 ⟨n + 1, hn⟩
theorem codeP_seqR {a b : Code} {e1 : Env} {H1 : Heap} {r : D × Heap} (ha : code X f nt n0 a e H = some (.normal, e1, H1)) (h : codeP X f nt n0 b e1 H1 = some r) : codeP X f nt n0 (.seq a b) e H = some r := by
  obtain ⟨n, hn⟩ := codeP_some.1 h
  exact codeP_some.2 ⟨n + 1, by rw [evP.eq_def]; simp only [ha]; exact hn⟩
theorem codeP_loopR {c : Code} {e1 : Env} {H1 : Heap} {r : D × Heap} (ha : code X f nt n0 c e H = some (.normal, e1, H1)) (h : codeP X f nt n0 (.loop c) e1 H1 = some r) : codeP X f nt n0 (.loop c) e H = some r := by
  obtain ⟨n, hn⟩ := codeP_some.1 h
  exact codeP_some.2 ⟨n + 1, by rw [evP.eq_def]; simp only [ha]; exact hn⟩
theorem opsP_none {P : Nat → List D → Option D} {bw : Bool} {ops : Array Oper} : ∀ {l : List Oper} {e : Env} {H : Heap} {r : D × Heap}, opsP X P nt bw ops l e H = some r → evOps X (call X) nt bw ops l e H = none
  | [], _, _, _, hp => by cases hp
  | o :: l, e, H, r, hp => by
    rw [opsP] at hp
    rw [evOps]
    split at hp
    · rename_i hd hg
      rw [hd, hg]
      simp only
      split at hp
      · rename_i ho
        rw [ho]
        exact opsP_none hp
      · rename_i ho
        rw [ho]
    · rename_i hd hg
      rw [hd, hg]
      exact opsP_none hp
    · cases hp
theorem evP_none : ∀ {n f nt n0 : Nat} {c : Code} {e : Env} {H : Heap} {r : D × Heap}, evP X n f nt n0 c e H = some r → code X f nt n0 c e H = none := by
  intro n
  induction n with
  | zero => intro f nt n0 c e H r h; simp [evP] at h
  | succ n ih =>
    intro f nt n0 c e H r h
    rw [evP.eq_def] at h
    cases c with
    | region id ops draw =>
      simp only at h
      split at h
      · rename_i hen
        rw [code_region, hen]
        simp only [evR, opsP_none h]
        rfl
      · cases h
    | seq a b =>
      simp only at h
      rw [code_seq]
      split at h
      · rename_i hc
        rw [hc]
        exact ih h
      · cases h
      · rename_i hc
        rw [hc]
    | cond c a b =>
      simp only at h
      rw [code_cond]
      split at h
      · rename_i hc
        rw [hc]
        exact ih h
      · cases h
    | block id c => rw [code_block, ih h]
    | scope c => rw [code_scope, ih h]
    | loop c =>
      simp only at h
      rw [code_loop]
      split at h
      · rename_i hc
        rw [hc]
        exact ih h
      · cases h
      · rename_i hc
        rw [hc]
    | skip => cases h
    | label l => cases h
    | exit id => cases h
    | ret => cases h
    | _ => cases h
theorem codeP_none {c : Code} {r : D × Heap} (h : codeP X f nt n0 c e H = some r) : code X f nt n0 c e H = none := by
  obtain ⟨n, hn⟩ := codeP_some.1 h
  exact evP_none hn
theorem codeP_seqL {a b : Code} {r : D × Heap} (h : codeP X f nt n0 a e H = some r) : codeP X f nt n0 (.seq a b) e H = some r := by
  have hc := codeP_none h
  obtain ⟨n, hn⟩ := codeP_some.1 h
  exact codeP_some.2 ⟨n + 1, by rw [evP.eq_def]; simp only [hc]; exact hn⟩
theorem codeP_loopL {c : Code} {r : D × Heap} (h : codeP X f nt n0 c e H = some r) : codeP X f nt n0 (.loop c) e H = some r := by
  have hc := codeP_none h
  obtain ⟨n, hn⟩ := codeP_some.1 h
  exact codeP_some.2 ⟨n + 1, by rw [evP.eq_def]; simp only [hc]; exact hn⟩
/-- A function that panics tells nothing. -/
theorem panF_none {args : List D} (h : panF X f args = some d) : call X f args [] = none := by
  unfold panF panFn at h
  split at h
  · rename_i hc hf
    split at h
    · rename_i c hb
      split at h
      · rename_i hcond
        split at h
        · rename_i hE
          rw [call_body hc hf hb hcond.1]
          have := codeP_none hE
          simp only [List.length_nil, this]
        · cases h
      · cases h
    · cases h
  · cases h
/-- What the function tells, the relation has. -/
theorem opsP_pan {n : Nat} (ih : ∀ {f nt n0 : Nat} {c : Code} {e : Env} {H : Heap} {d : D} {H' : Heap}, evP X n f nt n0 c e H = some (d, H') → PanC X n f nt n0 c e H d H') {bw : Bool} {ops : Array Oper} :
    ∀ {l : List Oper} {e : Env} {H : Heap} {d : D} {H' : Heap}, opsP X (panFn X (evP X n)) nt bw ops l e H = some (d, H') →
      ∃ l1 o l2 e2, l = l1 ++ o :: l2 ∧ evOps X (call X) nt bw ops l1 e H = some (e2, H') ∧ guardQ ops e2 o.guard = some true ∧ idFree d = true ∧ vFree d = true ∧ PanOp X (fun f nt n0 c e d => ∃ L, PanC X n f nt n0 c e [] d L) o.op e2 d
  | [], _, _, _, _, hp => by cases hp
  | o :: l, e, H, d, H', hp => by
    rw [opsP] at hp
    split at hp
    · rename_i hd hg
      split at hp
      · rename_i d1 H1 ho
        obtain ⟨l1, o', l2, e2, h1, h2, h3⟩ := opsP_pan ih hp
        exact ⟨o :: l1, o', l2, e2, by rw [h1]; rfl, by rw [evOps, hd, hg]; simp only [ho]; exact h2, h3⟩
      · rename_i ho
        cases hq : panOp X (panFn X (evP X n)) o.op e with
        | none => rw [hq] at hp; cases hp
        | some q =>
          rw [hq] at hp
          injection hp with hp
          injection hp with hp1 hp2
          subst hp1; subst hp2
          refine ⟨[], o, l, e, rfl, rfl, hg, ?_⟩
          unfold panOp at hq
          split at hq
          · rename_i x hop
            split at hq
            · rename_i t d0 hx
              split at hq
              · rename_i hfv
                injection hq with hq
                subst hq
                rw [Bool.and_eq_true] at hfv
                exact ⟨hfv.1, hfv.2, .inl ⟨x, t, d0, hop, hx, rfl⟩⟩
              · cases hq
            · cases hq
          · rename_i c hop
            split at hq
            · rename_i g args hc ha
              split at hq
              · rename_i f' caps hgf
                unfold panFn at hq
                split at hq
                · rename_i fn hcon hf
                  split at hq
                  · rename_i cd hb
                    split at hq
                    · rename_i hcond
                      split at hq
                      · rename_i d2 L hE
                        split at hq
                        · rename_i hfv
                          injection hq with hq
                          subst hq
                          rw [Bool.and_eq_true] at hfv
                          exact ⟨hfv.1, hfv.2, .inr ⟨c, g, f', caps, args, fn, cd, hop, hc, ha, hgf, hf, hb, hcond.1, hcond.2, L, ih hE⟩⟩
                        · cases hq
                      · cases hq
                    · cases hq
                  · cases hq
                · cases hq
              · cases hq
            · cases hq
          · cases hq
    · rename_i hd hg
      obtain ⟨l1, o', l2, e2, h1, h2, h3⟩ := opsP_pan ih hp
      exact ⟨o :: l1, o', l2, e2, by rw [h1]; rfl, by rw [evOps, hd, hg]; exact h2, h3⟩
    · cases hp
theorem evP_pan : ∀ {n f nt n0 : Nat} {c : Code} {e : Env} {H : Heap} {d : D} {H' : Heap}, evP X n f nt n0 c e H = some (d, H') → PanC X n f nt n0 c e H d H' := by
  intro n
  induction n with
  | zero => intro f nt n0 c e H d H' h; simp [evP] at h
  | succ n ih =>
    intro f nt n0 c e H d H' h
    rw [evP.eq_def] at h
    rw [PanC.eq_def]
    cases c with
    | region id ops draw =>
      cases draw with
      | true => cases h
      | false =>
        simp only at h ⊢
        split at h
        · rename_i e1 H1 _ hen
          obtain ⟨l1, o, l2, e2, h1, h2, h3, h4, h5, h6⟩ := opsP_pan ih h
          exact ⟨e1, H1, l1, o, l2, e2, hen, h1, h2, h3, h4, h5, h6⟩
        · cases h
    | seq a b =>
      simp only at h ⊢
      split at h
      · rename_i hc
        exact .inr ⟨_, _, hc, ih h⟩
      · cases h
      · exact .inl (ih h)
    | cond c a b =>
      simp only at h ⊢
      split at h
      · rename_i t hc
        exact ⟨t, hc, ih h⟩
      · cases h
    | block id c => exact ih h
    | scope c => exact ih h
    | loop c =>
      simp only at h ⊢
      split at h
      · rename_i hc
        exact .inr ⟨_, _, hc, ih h⟩
      · cases h
      · exact .inl (ih h)
    | skip => cases h
    | label l => cases h
    | exit id => cases h
    | ret => cases h
    | _ => cases h
/-- A call by name: what it panics with, the memory then. -/
noncomputable def panN (X : Cx) (f : Nat) (args : List D) (H : Heap) : Option (D × Heap) :=
  match X.P.funcs[f]? with
  | some fn => match fn.body with
    | some c => if X.bad f = false then codeP X f fn.ntmps H.length c (argEnv 0 args) H else none
    | none => none
  | none => none
theorem panN_panR {args : List D} (h : panN X f args H = some (d, H')) : PanR X f args H d H' := by
  unfold panN at h
  split at h
  · rename_i fn hf
    split at h
    · rename_i c hb
      split at h
      · rename_i hbad
        obtain ⟨n, hn⟩ := codeP_some.1 h
        exact ⟨n, fn, c, hf, hb, hbad, evP_pan hn⟩
      · cases h
    · cases h
  · cases h
theorem opsP_strip {P : Nat → List D → Option D} {bw : Bool} (ops : Array Oper) : ∀ (l : List Oper) (e : Env) (H : Heap), opsP X P nt bw (stripL ops.toList).toArray (stripL l) e H = opsP X P nt bw ops l e H
  | [], e, H => rfl
  | o :: l, e, H => by
    simp only [stripL, opsP, stripOp, guardQ_strip, opsP_strip ops l]
theorem evP_strip : ∀ (n : Nat) (c : Code) (e : Env) (H : Heap), evP X n f nt n0 (stripC c) e H = evP X n f nt n0 c e H := by
  intro n
  induction n with
  | zero => intro c e H; simp [evP]
  | succ n ih =>
    intro c e H
    cases c with
    | region id ops draw =>
      have h1 : (stripL ops.toList).toArray.toList = stripL ops.toList := by simp
      cases draw with
      | true => simp only [stripC, evP]
      | false =>
        simp only [stripC, evP]
        cases enter X f n0 id e H with
        | none => rfl
        | some q => simp only [opsP_strip, regW]
    | seq a b => simp only [stripC, evP, ih, code_strip]
    | cond x a b =>
      simp only [stripC, evP]
      split
      · rename_i t _
        cases t <;> simp only [ih, if_true, if_false, Bool.false_eq_true]
      · rfl
    | block id c => simp only [stripC, evP, ih]
    | loop c =>
      have := ih (.loop c)
      simp only [stripC] at this
      simp only [stripC, evP, ih, this, code_strip]
    | scope c => simp only [stripC, evP, ih]
    | _ => rfl
theorem codeP_strip {c : Code} : codeP X f nt n0 (stripC c) e H = codeP X f nt n0 c e H := by
  unfold codeP
  congr 1
  funext n
  exact evP_strip n c e H
/-- A function's panic, by its code. -/
theorem panF_of {fn : Func} {args : List D} {H' : Heap} (hf : X.P.funcs[f]? = some fn) (hb : fn.body.isSome = true) (hbad : X.bad f = false ∧ X.con f args [] = none) (ha : args.all idFree = true) (hd : idFree d = true ∧ vFree d = true)
    (h : codeP X f fn.ntmps 0 (stripC (bodyOf fn)) (argEnv 0 args) [] = some (d, H')) : panF X f args = some d := by
  rw [codeP_strip] at h
  unfold panF panFn
  cases hbd : fn.body with
  | none => rw [hbd] at hb; cases hb
  | some c =>
    have hc : bodyOf fn = c := by simp only [bodyOf, hbd, Option.getD_some]
    rw [hc] at h
    simp only [hbad.2, hf, hbd, if_pos (show X.bad f = false ∧ args.all idFree = true from ⟨hbad.1, ha⟩), h, hd.1, hd.2, Bool.and_self, if_true]
theorem panN_of {fn : Func} {args : List D} {r : D × Heap} (hf : X.P.funcs[f]? = some fn) (hb : fn.body.isSome = true) (hbad : X.bad f = false)
    (h : codeP X f fn.ntmps H.length (stripC (bodyOf fn)) (argEnv 0 args) H = some r) : panN X f args H = some r := by
  rw [codeP_strip] at h
  unfold panN
  cases hbd : fn.body with
  | none => rw [hbd] at hb; cases hb
  | some c =>
    have hc : bodyOf fn = c := by simp only [bodyOf, hbd, Option.getD_some]
    rw [hc] at h
    simp only [hf, hbd, hbad, if_true]
    exact h
/-- What panics by name tells nothing. -/
theorem panN_none {args : List D} {r : D × Heap} (hcon : X.con f args H = none) (h : panN X f args H = some r) : call X f args H = none := by
  unfold panN at h
  split at h
  · rename_i fn hf
    split at h
    · rename_i c hb
      split at h
      · rename_i hbad
        rw [call_body hcon hf hb hbad, codeP_none h]
      · cases h
    · cases h
  · cases h
end
end Go.Ev
/-
  Own memory of any shape: what is told of it block by block; what stands apart stays.
-/
namespace Go.Ev
open Go Go.Proofs
/-- Nothing is lost, and what is not in L stays as it is. -/
structure Ext (L : List Nat) (H T : Heap) : Prop where
  len : H.length ≤ T.length
  out : ∀ i, i < H.length → i ∉ L → hget T i = hget H i
theorem Ext.refl (L : List Nat) (H : Heap) : Ext L H H := ⟨Nat.le_refl _, fun _ _ _ => rfl⟩
/-- Names of L, or new ones. -/
def NewL (L M : List Nat) (n : Nat) : Prop := ∀ i, i ∈ M → i ∈ L ∨ n ≤ i
theorem NewL.refl (L : List Nat) (n : Nat) : NewL L L n := fun _ h => .inl h
theorem NewL.trans {L M K : List Nat} {n m : Nat} (h : NewL L M n) (h2 : NewL M K m) (hn : n ≤ m) : NewL L K n := fun i hi => by
  rcases h2 i hi with h' | h'
  · exact h i h'
  · exact .inr (Nat.le_trans hn h')
theorem Ext.trans {L M : List Nat} {H T K : Heap} (h : Ext L H T) (h2 : Ext M T K) (hm : NewL L M H.length) : Ext L H K :=
  ⟨Nat.le_trans h.len h2.len, fun i hi hl => by
    rw [h2.out i (Nat.lt_of_lt_of_le hi h.len) fun hc => (hm i hc).elim hl fun hge => absurd hi (Nat.not_lt.2 hge), h.out i hi hl]⟩
theorem Ext.mono {L M : List Nat} {H T : Heap} (h : Ext L H T) (hm : ∀ i, i ∈ L → i ∈ M) : Ext M H T := ⟨h.len, fun i hi hn => h.out i hi fun hc => hn (hm i hc)⟩
theorem Ext.get {L : List Nat} {H T : Heap} (h : Ext L H T) {i : Nat} {ds : List D} (hg : hget H i = some ds) (hi : i ∉ L) : hget T i = some ds := by
  rw [h.out i (hget_lt hg) hi, hg]
theorem Ext.new (H : Heap) (ds : List D) : Ext [] H (newBlk H ds) := ⟨by rw [length_newBlk]; omega, fun i hi _ => hget_newBlk_lt hi⟩
theorem Ext.set (H : Heap) (i : Nat) (ds : List D) : Ext [i] H (hset H i ds) := ⟨by rw [length_hset]; omega, fun j _ hn => hget_hset_other (by simpa using hn)⟩
theorem Ext.app (H L : Heap) : Ext [] H (H ++ L) := ⟨by simp, fun i hi _ => hget_join_lt hi⟩
theorem Ext.lt {L : List Nat} {H T : Heap} (h : Ext L H T) {i : Nat} (hi : i < H.length) : i < T.length := Nat.lt_of_lt_of_le hi h.len
theorem hset_self {H : Heap} {i : Nat} {ds : List D} (h : hget H i = some ds) : hset H i ds = H := by
  have hl := hget_lt h
  unfold hset
  apply List.ext_getElem?
  intro j
  rw [List.getElem?_set]
  by_cases hj : i = j
  · subst hj
    unfold hget at h
    rw [List.getElem?_eq_getElem hl] at h
    simp only [Option.getD_some] at h
    rw [if_pos rfl, if_pos hl, List.getElem?_eq_getElem hl, h]
  · rw [if_neg hj]
/-- A slice of the run's own, or nil: its cells, k an element. -/
def RowA (H : Heap) (k : Nat) (v : D) (cs : List D) (L : List Nat) : Prop :=
  (v = .vsl true [] 0 ∧ cs = [] ∧ L = []) ∨ ∃ r n, v = .osl r cs.length 0 n k ∧ cs.length = n * k ∧ hget H r = some cs ∧ L = [r]
theorem RowA.nil (H : Heap) (k : Nat) : RowA H k (.vsl true [] 0) [] [] := .inl ⟨rfl, rfl, rfl⟩
theorem RowA.ext {H T : Heap} {k : Nat} {v : D} {cs : List D} {L M : List Nat} (h : RowA H k v cs L) (he : Ext M H T) (hd : ∀ i, i ∈ L → i ∉ M) : RowA T k v cs L := by
  rcases h with h | ⟨r, n, h1, h2, h3, rfl⟩
  · exact .inl h
  · exact .inr ⟨r, n, h1, h2, he.get h3 (hd r (by simp)), rfl⟩
theorem RowA.lt {H : Heap} {k : Nat} {v : D} {cs : List D} {L : List Nat} (h : RowA H k v cs L) {i : Nat} (hi : i ∈ L) : i < H.length := by
  rcases h with ⟨_, _, rfl⟩ | ⟨r, n, h1, h2, h3, rfl⟩
  · simp at hi
  · rw [List.mem_singleton.1 hi]; exact hget_lt h3
/-- An own slice that is appended to. -/
theorem RowA.append {P : Program} {H : Heap} {st xt e : TypeId} {k : Nat} {v x : D} {cs xs : List D} {L : List Nat} {m : Nat} (h : RowA H k v cs L) (hu : P.underlying st = some (.slice e)) (hk : szOf P e = k)
    (hsrc : srcA P H e xt x = some (xs, m)) (hz : (zeroCellsD P e 0).isSome = true) (hm : m ≠ 0) (hl : xs.length = m * k) (hk0 : 0 < k) (hb : (cs.length + m) * bytesOf P e ≤ maxBytes) (hb2 : cs.length + m ≤ maxBytes) :
    ∃ v' T L', appendD P H st xt v x = some (v', T) ∧ RowA T k v' (cs ++ xs) L' ∧ Ext L H T ∧ NewL L L' H.length := by
  obtain ⟨z, hz⟩ := Option.isSome_iff_exists.1 hz
  rcases h with ⟨rfl, rfl, rfl⟩ | ⟨r, n, rfl, h2, h3, rfl⟩
  · simp only [List.length_nil, Nat.zero_add] at hb hb2
    refine ⟨.osl H.length xs.length 0 m k, newBlk H xs, [H.length], ?_, .inr ⟨H.length, m, ?_, ?_, ?_, rfl⟩, Ext.new H xs, fun i hi => .inr (Nat.le_of_eq (List.mem_singleton.1 hi).symm)⟩
    · unfold appendD
      simp only [hu, hk, hsrc, hz, if_neg hm, if_pos (show m * bytesOf P e ≤ maxBytes ∧ m ≤ maxBytes from ⟨hb, hb2⟩)]
    · simp
    · simpa using hl
    · simp
  · have hn : n + m ≤ cs.length + m := by
      rw [h2]
      have := Nat.le_mul_of_pos_right n hk0
      omega
    refine ⟨.osl r (cs.length + xs.length) 0 (n + m) k, hset H r (cs ++ xs), [r], ?_, .inr ⟨r, n + m, ?_, ?_, ?_, rfl⟩, Ext.set H r _, NewL.refl _ _⟩
    · unfold appendD
      simp only [hu, hk, hsrc, hz, h3]
      rw [if_pos ⟨trivial, trivial, h2.symm, Nat.le_trans (Nat.mul_le_mul_right _ hn) hb, Nat.le_trans hn hb2⟩]
    · rw [List.length_append]
    · rw [List.length_append, h2, hl, Nat.add_mul]
    · exact hget_hset_same (hget_lt h3)
/-- A slice that is not empty has a block. -/
theorem RowA.own {H : Heap} {k : Nat} {v : D} {cs : List D} {L : List Nat} (h : RowA H k v cs L) (hc : cs ≠ []) : ∃ r n, v = .osl r cs.length 0 n k ∧ cs.length = n * k ∧ hget H r = some cs ∧ L = [r] := by
  rcases h with ⟨_, h2, _⟩ | h
  · exact absurd h2 hc
  · exact h
theorem RowA.of {H : Heap} {k r n : Nat} {cs : List D} (h1 : cs.length = n * k) (h2 : hget H r = some cs) : RowA H k (.osl r cs.length 0 n k) cs [r] := .inr ⟨r, n, rfl, h1, h2, rfl⟩
/-- A cell that is read, told by its place. -/
theorem ldD_h (P : Program) (H : Heap) (t : TypeId) (p : D) : ldD P H t p = match aggQ P t, mem H p with
    | some true, some cs => if szOf P t ≤ cs.length then some (.agg (cs.take (szOf P t))) else none
    | some false, some cs => cs.head?
    | _, _ => none := by
  unfold ldD
  cases aggQ P t with
  | none => rfl
  | some b =>
    cases mem H p with
    | none => cases b <;> rfl
    | some cs => cases b <;> cases cs <;> rfl
/-- One cell of an own block is read. -/
theorem ld_cell {P : Program} {H : Heap} {t : TypeId} {q st off : Nat} {cs : List D} {d : D} (hg : hget H q = some cs) (hs : cs.length = st) (ha : aggQ P t = some false) (hc : cs[off]? = some d) : ldD P H t (.optr q st off) = some d := by
  have hlt := (List.getElem?_eq_some_iff.1 hc).1
  unfold ldD
  simp only [ha, mem, hg, hs, if_true]
  rw [List.drop_eq_getElem_cons hlt]
  simp only [Option.some.injEq]
  exact (List.getElem?_eq_some_iff.1 hc).2
/-- So many cells of an own block are read. -/
theorem ld_agg {P : Program} {H : Heap} {t : TypeId} {q st off n : Nat} {cs : List D} (hg : hget H q = some cs) (hs : cs.length = st) (ha : aggQ P t = some true) (hn : szOf P t = n) (hl : off + n ≤ cs.length) : ldD P H t (.optr q st off) = some (.agg ((cs.drop off).take n)) := by
  unfold ldD
  simp only [ha, mem, hg, hs, if_true, hn]
  rw [if_pos (by rw [List.length_drop]; omega)]
theorem setRange1 {cs : List D} {off : Nat} {d : D} (h : off < cs.length) : setRange cs off [d] = cs.set off d := by
  unfold setRange
  rw [List.set_eq_take_append_cons_drop, if_pos h]
  simp
/-- One cell of an own block is written. -/
theorem st_cell {P : Program} {H : Heap} {t : TypeId} {q st off : Nat} {cs : List D} {x : D} (hg : hget H q = some cs) (hs : cs.length = st) (hn : szOf P t = 1) (hx : cellsOf x = some [x]) (ho : off < cs.length) (hcl : closed H.length x = true) : stD P H t (.optr q st off) x = some (hset H q (cs.set off x)) := by
  unfold stD
  simp only [hx, hg]
  rw [if_pos ⟨hs, by rw [hn]; rfl, by omega, by simp; omega, by simpa using hcl⟩, setRange1 ho]
/-- What a function of 'gr' tells. -/
theorem call_runH {X : Cx} {f : Nat} {H : Heap} {fn : Func} {args : List D} {r : D × Heap} (hf : X.P.funcs[f]? = some fn) (hb : fn.body.isSome = true) (hbad : X.bad f = false ∧ X.con f args H = none)
    (h : Run X f fn.ntmps H.length (FinG X (X.fzr f) fn.results.toList (· = r)) [] (code X f fn.ntmps H.length (stripC (bodyOf fn)) (argEnv 0 args) H)) (hg : (X.gr f && X.byRef f) = true := by rfl) : call X f args H = some r := by
  obtain ⟨r', h1, rfl⟩ := call_runG (· = r) hf hb hbad h hg
  exact h1
end Go.Ev
/- Texts in order. -/
namespace Go.Ev
open Go Go.Proofs
def leT (x y : List UInt8) : Bool := decide (x ≤ y)
def sortL (l : List (List UInt8)) : List (List UInt8) := l.mergeSort leT
theorem leT_trans (a b c : List UInt8) (h1 : leT a b = true) (h2 : leT b c = true) : leT a c = true := by
  simp only [leT, decide_eq_true_eq] at *
  exact List.le_trans h1 h2
theorem leT_total (a b : List UInt8) : (leT a b || leT b a) = true := by
  simp only [leT, Bool.or_eq_true, decide_eq_true_eq]
  exact List.le_total a b
theorem leT_anti (a b : List UInt8) (h1 : leT a b = true) (h2 : leT b a = true) : a = b := by
  simp only [leT, decide_eq_true_eq] at h1 h2
  exact List.le_antisymm h1 h2
theorem sortL_perm (l : List (List UInt8)) : (sortL l).Perm l := List.mergeSort_perm l leT
@[simp] theorem sortL_len (l : List (List UInt8)) : (sortL l).length = l.length := (sortL_perm l).length_eq
theorem sortL_mem {l : List (List UInt8)} {x : List UInt8} : x ∈ sortL l ↔ x ∈ l := (sortL_perm l).mem_iff
theorem sortL_pair (l : List (List UInt8)) : (sortL l).Pairwise fun a b => leT a b = true := List.pairwise_mergeSort leT_trans leT_total l
/-- Two rows in order of the same texts are one. -/
theorem sort_uniq {a b : List (List UInt8)} (ha : a.Pairwise fun a b => leT a b = true) (hb : b.Pairwise fun a b => leT a b = true) (h : a.Perm b) : a = b :=
  List.Perm.eq_of_pairwise (le := fun a b => leT a b = true) (fun a b _ _ h1 h2 => leT_anti a b h1 h2) ha hb h
theorem sortL_of_perm {l l' : List (List UInt8)} (h : l.Perm l') : sortL l = sortL l' := sort_uniq (sortL_pair l) (sortL_pair l') (((sortL_perm l).trans h).trans (sortL_perm l').symm)
/-- One more text, taken away again. -/
theorem sortL_filter {l : List (List UInt8)} {x : List UInt8} (hx : x ∉ l) : (sortL (l ++ [x])).filter (fun y => !(y == x)) = sortL l := by
  refine sort_uniq ((sortL_pair _).filter _) (sortL_pair _) ?_
  refine ((sortL_perm (l ++ [x])).filter _).trans (List.Perm.trans (List.Perm.of_eq ?_) (sortL_perm l).symm)
  rw [List.filter_append]
  have h1 : l.filter (fun y => !(y == x)) = l := by
    rw [List.filter_eq_self]
    intro y hy
    have : y ≠ x := fun e => hx (e ▸ hy)
    simpa using this
  rw [h1]
  simp
end Go.Ev
/- slices.Sort of texts, by the shelf's contract. -/
namespace Go.Ev
open Go Go.Proofs Go.RowKit Go.Shelf Go.Sort
/-- Texts, a cell each. -/
def txtD (l : List (List UInt8)) : List D := l.map .str
def strsD : List D → Option (List (List UInt8))
  | [] => some []
  | .str s :: l => (strsD l).map (s :: ·)
  | _ => none
theorem strsD_txt : ∀ l, strsD (txtD l) = some l
  | [] => rfl
  | s :: l => by simp only [txtD, List.map_cons, strsD]; rw [show List.map D.str l = txtD l from rfl, strsD_txt l]; rfl
theorem txt_strsD : ∀ {ds l}, strsD ds = some l → ds = txtD l
  | [], l, h => by simp only [strsD, Option.some.injEq] at h; subst h; rfl
  | d :: ds, l, h => by
    cases d <;> simp only [strsD] at h <;> try cases h
    cases hs : strsD ds with
    | none => rw [hs] at h; cases h
    | some r =>
      rw [hs] at h
      simp only [Option.map_some, Option.some.injEq] at h
      subst h
      rw [txt_strsD hs]
      rfl

def conSort : List D → Heap → Option (D × Heap)
  | [.vsl true [] 0], H => some (.tup [], H)
  | [.osl i st 0 len 1], H => match hget H i with
    | some ds => match strsD ds with
      | some l => if l.length = st ∧ len = st ∧ st < 4611686018427387904 then some (.tup [], hset H i (txtD (sortL l))) else none
      | none => none
    | none => none
  | _, _ => none
section
variable {X : Cx} {ρ : Ren} {ok : Nat → Prop} {w : World} {ι : Iota} {H H' : Heap} {r : D} {args : List D} {vs : List Value}
theorem rep_txt {s : List UInt8} {v : Value} (h : Rep ok w ι H (.str s) v) : v = encStr s := by
  cases h
  rfl
theorem conSort_run (L : SlLaysN.n54 X.P ρ) (henter : ∀ args w, (callFunc (ρ.f 54) args).run X.P w = .ok (.enter (ρ.f 54) args) w) (h : conSort args H = some (r, H')) (hs : Sim X ok w ι H) (hv : RepL ok w ι H args vs) :
    Goes X.P (callFunc (ρ.f 54) vs.toArray) w (CallPost X ok w ι H r H') := by
  unfold conSort at h
  split at h
  · injection h with h
    injection h with h1 h2
    subst h1; subst h2
    obtain ⟨v, us, rfl, a1, a2⟩ := repL_cons hv
    cases repL_nil a2
    cases a1
    refine con_below hs (henter _ _) ((AnyG.slices_Sort_string_none L none 0 w).mono ?_)
    rintro e w' ⟨rfl, rfl⟩
    exact ⟨_, rfl, .tup rfl (fun j d hj => by simp at hj), Below.refl _ _⟩
  · rename_i H0 i st len
    split at h
    · rename_i ds hd
      split at h
      · rename_i l hl
        split at h
        · rename_i hc
          obtain ⟨c1, rfl, c3⟩ := hc
          injection h with h
          injection h with h1 h2
          subst h1; subst h2
          have hds := txt_strsD hl
          subst hds
          have hdl : (txtD l).length = len := by simp [txtD, c1]
          obtain ⟨v, us, rfl, a1, a2⟩ := repL_cons hv
          cases repL_nil a2
          cases a1 with
          | @osl _ _ _ _ _ _ _ c a hi hh hlc =>
            obtain ⟨b, s, q1, rfl, q3⟩ := (hh _ hd).2 hdl
            obtain ⟨b', arr, e2, fr, k1, k2, k3, k4, k5, k6, k7, k8⟩ := hs.blk i _ hd
            rw [q1] at k1
            injection k1 with k1
            injection k1 with k1 k1'
            subst k1; subst k1'
            have hb : b < w.heap.size := (Array.getElem?_eq_some_iff.1 k3).1
            have hcell : ∀ j, j < l.length → arr.getD j undef = encStr (l.getD j []) := by
              intro j hj
              have : (txtD l)[j]? = some (.str (l.getD j [])) := by simp [txtD, hj]
              exact rep_txt (k8 j _ this)
            have hH : Holds encStr w b 0 l.toArray := by
              intro j hj
              have hj' : j < l.length := by simpa using hj
              have hja : j < arr.size := by omega
              refine ⟨?_, ?_⟩
              · rw [Nat.zero_add, cell_of_heap k3, Array.getElem?_eq_getElem hja]
                have := hcell j hj'
                rw [Array.getD_eq_getD_getElem?, Array.getElem?_eq_getElem hja] at this
                simp only [Option.getD_some] at this
                rw [this]
                simp [hj']
              · rw [Nat.zero_add, frozen_of_heap k3]
                have := fz_of k5 j hja
                simp only [Bool.and_eq_false_iff, decide_eq_false_iff_not]
                omega
            unfold Goes
            rw [henter]
            simp only
            have hll : (sortL l).length = l.length := by simp [sortL]
            have hcall := AnyG.slices_Sort_string L b 0 c l w hH hb (by omega)
            rw [c1] at hcall
            refine hcall.mono ?_
            rintro e w' ⟨rfl, n, os, rfl⟩
            refine ⟨_, rfl, ?_⟩
            have hg := grownBy_sorted (w := w) (g := b) (n := n) (os := os) (sortL l).toArray
            have hbl := heap_sorted (n := n) (os := os) (sortL l).toArray k3
            have hsz : (putCells encStr 0 (sortL l).toArray arr).size = arr.size := by simp [putCells]
            have hget : ∀ j, j < arr.size → (putCells encStr 0 (sortL l).toArray arr).getD j undef = if j < l.length then encStr ((sortL l).getD j []) else arr.getD j undef := by
              intro j hj
              rw [Array.getD_eq_getD_getElem?, Array.getElem?_eq_getElem (by omega), Array.getD_eq_getD_getElem?, Array.getElem?_eq_getElem hj]
              simp only [putCells, Array.getElem_mapIdx, Option.getD_some]
              by_cases hjl : j < l.length
              · have : j < (sortL l).length := by omega
                simp [hjl, hll]
              · simp [hjl, hll]
            obtain ⟨ι', s1, s2, s3⟩ := step_set (i := i) (ds := txtD l) (ds' := txtD (sortL l)) (b := b) (sz := arr.size) (b' := b) (arr' := putCells encStr 0 (sortL l).toArray arr) (w' := grow (putRow encStr (Sort.ahead w n) b 0 (sortL l).toArray) os) hs hd q1 ⟨hg.os, hg.tape, hg.output⟩ hg.size
              (fun c hc hne => hg.block c hc (fun e => hne (by injection e))) hbl (.inl ⟨rfl, hsz⟩) (by simp [txtD, hll]) (by rw [hsz]; simpa [txtD, hll, c1] using k4) (by rw [hsz]; exact k5)
              (fun j hj => by
                rw [hsz] at hj
                rw [hget j hj]
                by_cases hjl : j < l.length
                · rw [if_pos hjl]
                  rfl
                · rw [if_neg hjl]
                  exact k6 j hj)
              (fun d hd => by
                simp only [txtD, List.mem_map] at hd
                obtain ⟨s, _, rfl⟩ := hd
                rfl)
              (fun j d hj => by
                have hjl : j < l.length := by
                  have := (List.getElem?_eq_some_iff.1 hj).1
                  simpa [txtD, hll] using this
                rw [hget j (by omega), if_pos hjl]
                have : (txtD (sortL l))[j]? = some (.str ((sortL l).getD j [])) := by
                  unfold txtD
                  rw [List.getElem?_map, List.getD_eq_getElem?_getD, List.getElem?_eq_getElem (show j < (sortL l).length by omega)]
                  rfl
                rw [this] at hj
                injection hj with hj
                subst hj
                exact .str _)
            refine ⟨ι', ok, s1, .tup rfl (fun j d hj => by simp at hj), s2, fun k ds hk hd2 => ?_⟩
            have := hget_lt hd2
            rw [length_hset] at this
            omega
        · cases h
      · cases h
    · cases h
  · cases h
end
end Go.Ev
