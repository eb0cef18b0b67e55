import Derived.Test.YtaponndjgdfkbaaDoorC2
import Derived.Lib.LaidTab
import Derived.Stop.LaidErr
import Derived.LaidMore
import Derived.ProofKit
import Derived.Below
import Derived.Shelf.Strings.Search2
import Derived.Shelf.Strconv.Clone
import Derived.WalkSmall
import Derived.Shelf.Bytes.SlIndexWhole
import Derived.Shelf.Strconv.Itoa1
/- Package-level variables that are laid: what they read as. -/
namespace Go.Ev
open Go Go.Proofs Go.RowKit Go.ChangeShapes
theorem addr_add_zero (a : Addr) : a.add 0 = a := by
  obtain ⟨b, o, p⟩ := a
  cases p <;> simp [Addr.add]
theorem rep_tab {P : Program} {W : World} {name : String} {k : IntKind} {zs : List Int} {g : Nat} (h : Lib.TabIs P W name k zs) (hg : P.globalNamed name = some g) :
    Rep (· < W.heap.size) W iota0 [] (.vptr (zs.map (.int k))) (.pointer (some ⟨g, 0, none⟩)) := by
  have hc : ∀ i, i < zs.length → W.cell? ⟨g, i, none⟩ = some (.int k (zs.getD i 0)) := fun i hi => h.cell hg i hi
  refine .vptr _ (fun j => .int k (zs.getD j 0)) (fun d hd => ?_) (fun d hd => ?_) (fun j d hj => ?_) (fun j d hj => ?_)
  · obtain ⟨j, hj⟩ := List.mem_iff_getElem?.1 hd
    have hlt : j < zs.length := by
      have := (List.getElem?_eq_some_iff.1 hj).1
      simpa using this
    have := cell_lt (hc j hlt)
    exact this
  · obtain ⟨z, _, rfl⟩ := List.mem_map.1 hd
    rfl
  · have hlt : j < zs.length := by
      have := (List.getElem?_eq_some_iff.1 hj).1
      simpa using this
    rw [addr_add, Nat.zero_add]
    exact hc j hlt
  · have hlt : j < zs.length := by
      have := (List.getElem?_eq_some_iff.1 hj).1
      simpa using this
    rw [List.getElem?_map, List.getElem?_eq_getElem hlt, Option.map_some, Option.some.injEq] at hj
    subst hj
    rw [List.getD_eq_getElem?_getD, List.getElem?_eq_getElem hlt, Option.getD_some]
    exact .int k _
theorem rep_err {P : Program} {W : World} {name : String} {g : Nat} {tp : TypeId} {text : List UInt8} (hg : P.globalNamed name = some g)
    (h : ∃ (a : Addr) (s : ByteArray), W.var? P name = some #[.iface tp (.pointer (some a))] ∧ W.cell? a = some (.string s) ∧ s.data.toList = text ∧ s.size ≤ maxLen) :
    Rep (· < W.heap.size) W iota0 [] (.vptr [.iface tp (.vptr [.str text])]) (.pointer (some ⟨g, 0, none⟩)) := by
  obtain ⟨a, s, hv, hc, rfl, _⟩ := h
  have hcell : W.cell? ⟨g, 0, none⟩ = some (.iface tp (.pointer (some a))) := by
    have := World.var?_cell hg hv 0
    simpa using this
  have one : ∀ {d e : D} {j : Nat}, [e][j]? = some d → j = 0 ∧ d = e := fun {d e j} hj => by
    cases j with
    | zero => simp at hj; exact ⟨rfl, hj.symm⟩
    | succ j => simp at hj
  have hin : Rep (· < W.heap.size) W iota0 [] (.vptr [.str s.data.toList]) (.pointer (some a)) := by
    refine .vptr a (fun _ => .string s) (fun d hd => cell_lt hc) (fun d hd => by rw [List.mem_singleton.1 hd]; rfl) (fun j d hj => ?_) (fun j d hj => ?_)
    · obtain ⟨rfl, rfl⟩ := one hj
      rw [addr_add_zero]
      exact hc
    · obtain ⟨rfl, rfl⟩ := one hj
      have := Rep.str (ok := (· < W.heap.size)) (w := W) (ι := iota0) (H := []) s.data.toList
      simpa using this
  refine .vptr _ (fun _ => .iface tp (.pointer (some a))) (fun d hd => cell_lt hcell) (fun d hd => by rw [List.mem_singleton.1 hd]; rfl) (fun j d hj => ?_) (fun j d hj => ?_)
  · obtain ⟨rfl, rfl⟩ := one hj
    rw [addr_add_zero]
    exact hcell
  · obtain ⟨rfl, rfl⟩ := one hj
    exact .iface hin
/-- The sign of a pointer's name. -/
def star : String := String.ofList [Char.ofNat 42]
theorem err_row {P : Program} {nm base : String} {tp : TypeId} (hs : star ++ base = nm)
    (hrows : ((List.range P.types.size).all fun u => P.typeName? 3 u != some nm || u == tp) = true)
    (hnamed : ((List.range P.types.size).all fun e => P.typeName? 2 e != some base || (match (P.info? e).map (·.desc) with | some (TypeDesc.named _ _) => true | _ => false)) = true)
    (hstar : base.toList.head? ≠ some (Char.ofNat 42)) : ∀ u, P.typeName? 3 u = some nm → u = tp := by
  subst hs
  intro u hu
  exact typeName_ptr_named (nm := base) hrows hnamed hstar u hu
end Go.Ev
/- Functions that are met by a contract. -/
namespace Go.Ev
open Go Go.Proofs Go.RowKit
section
variable {X : Cx} {ok : Nat → Prop} {w w' : World} {ι : Iota} {H : Heap}
theorem below_evol {n : Nat} (hn : n ≤ H.length) (hb : Below w.heap.size w w') : Evol n ok w ι H ok w' ι H where
  os := hb.os
  tape := hb.tape
  output := hb.output
  size := hb.size
  frame b hlt _ := hb.block b hlt
  okU _ h := h
  okN b h _ := .inl h
  nle := ⟨hn, hn⟩
  heap i _ ds h := ⟨ds, h, Nat.le_refl _, fun _ => rfl⟩
  own i ds b s h1 h2 _ := ⟨i, ds, s, h1, h2⟩
theorem below_sim (hs : Sim X ok w ι H) (hb : Below w.heap.size w w') : Sim X ok w' ι H := by
  have hev : Evol H.length ok w ι H ok w' ι H := below_evol (Nat.le_refl _) hb
  refine ⟨fun b h => Nat.lt_of_lt_of_le (hs.okS b h) hb.size, fun g cs hg => (((hs.glob g cs hg).lift (ι := ι) (H := H)).evol hs hev rfl).free rfl _ _, hs.inj, fun i ds hd => ?_⟩
  obtain ⟨b, arr, e, fr, q1, q2, q3, q4, q5, q6, q7, q8⟩ := hs.blk i ds hd
  have hlt : b < w.heap.size := by
    rcases Nat.lt_or_ge b w.heap.size with h | h
    · exact h
    · rw [Array.getElem?_eq_none h] at q3; cases q3
  exact ⟨b, arr, e, fr, q1, q2, by rw [hb.block b hlt]; exact q3, q4, q5, q6, q7, fun j d hj => (q8 j d hj).evol hs hev (q8 j d hj).closed⟩
/-- A function that leaves all that was there as it was, and gives something without names. -/
theorem con_below {f : Nat} {vs : List Value} {r : D} (hs : Sim X ok w ι H) (henter : (callFunc f vs.toArray).run X.P w = .ok (.enter f vs.toArray) w)
    (hc : Calls X.P f vs.toArray w fun e w' => ∃ v, e = .returned v ∧ Rep ok w' ι H r v ∧ Below w.heap.size w w') : Goes X.P (callFunc f vs.toArray) w (CallPost X ok w ι H r H) := by
  unfold Goes
  rw [henter]
  refine hc.mono ?_
  rintro e w' ⟨v, rfl, hr, hb⟩
  exact ⟨v, rfl, ι, ok, below_sim hs hb, hr, below_evol (Nat.le_refl _) hb, fun i ds hi hd => by rw [hget, List.getElem?_eq_none hi] at hd; cases hd⟩
/-- One variable of one number. -/
theorem glob_int {g : Nat} {k : IntKind} {m : Int} (hs : Sim X ok w ι H) (hg : X.glob g = some [.int k m]) : w.cell? ⟨g, 0, none⟩ = some (.int k m) := by
  have h := hs.glob g _ hg
  cases h with
  | vptr a f ha hc hr h =>
    have h1 := hr 0 (.int k m) rfl
    have h2 := h 0 (.int k m) rfl
    rw [addr_add_zero] at h1
    generalize f 0 = v at h1 h2
    cases h2
    exact h1
theorem rep_one {W : World} {g : Nat} {k : IntKind} {m : Int} (h : W.cell? ⟨g, 0, none⟩ = some (.int k m)) : Rep (· < W.heap.size) W iota0 [] (.vptr [.int k m]) (.pointer (some ⟨g, 0, none⟩)) := by
  refine .vptr _ (fun _ => .int k m) (fun d hd => cell_lt h) (fun d hd => by rw [List.mem_singleton.1 hd]; rfl) (fun j d hj => ?_) (fun j d hj => ?_)
  · cases j with
    | zero => rw [addr_add_zero]; exact h
    | succ j => simp at hj
  · cases j with
    | zero => simp at hj; subst hj; exact .int k m
    | succ j => simp at hj
end
/-- A number that a program's start sets, whatever it is. -/
class MaxL where
  m : Int
end Go.Ev
/- Functions of the library that are met by the shelf's contracts: strings.Index, Clone. -/
namespace Go.Ev
open Go Go.Proofs Go.RowKit Go.Shelf
/-- Where a text stands in another one first, or -1. -/
def idxN (sub : List UInt8) : List UInt8 → Nat → Int
  | [], n => if sub.isEmpty then n else -1
  | b :: l, n => if sub.isPrefixOf (b :: l) then n else idxN sub l (n + 1)
theorem idxN_lib (sub : List UInt8) : ∀ (l : List UInt8) (n : Nat), idxN sub l n = if Lib.index l sub = -1 then -1 else Lib.index l sub + n
  | [], n => by
    simp only [idxN, Lib.index]
    by_cases h : sub.isEmpty = true <;> simp [h]
  | b :: l, n => by
    have hg := Lib.index_ge l sub
    simp only [idxN, Lib.index, idxN_lib sub l (n + 1)]
    by_cases hp : sub.isPrefixOf (b :: l) = true
    · simp [hp]
    · by_cases h : Lib.index l sub = -1
      · simp [h, hp]
      · have h2 : ¬ Lib.index l sub + 1 = -1 := by omega
        simp only [beq_iff_eq, h, h2, hp, if_false, Bool.false_eq_true]
        omega
theorem idx_lib (sub l : List UInt8) : Lib.index l sub = idxN sub l 0 := by
  rw [idxN_lib]
  split
  · assumption
  · simp
def conIdx : List D → Heap → Option (D × Heap)
  | [.str s, .str sub], H => if s.length < 4294967281 then some (.int .i64 (idxN sub s 0), H) else none
  | _, _ => none
def conClone : List D → Heap → Option (D × Heap)
  | [.str s], H => if s.length ≤ 281474976710656 then some (.str s, H) else none
  | _, _ => none
section
variable {X : Cx} {ρ : Ren} {ok : Nat → Prop} {w : World} {ι : Iota} {H H' : Heap} {r : D} {args : List D} {vs : List Value}
theorem repL_str1 {s : List UInt8} (hv : RepL ok w ι H [.str s] vs) : vs = [.string ⟨s.toArray⟩] := by
  obtain ⟨v, us, rfl, h1, h2⟩ := repL_cons hv
  cases repL_nil h2
  cases h1
  rfl
theorem repL_str2 {s t : List UInt8} (hv : RepL ok w ι H [.str s, .str t] vs) : vs = [.string ⟨s.toArray⟩, .string ⟨t.toArray⟩] := by
  obtain ⟨v, us, rfl, h1, h2⟩ := repL_cons hv
  cases repL_str1 h2
  cases h1
  rfl
theorem conIdx_run {m : Int} (L : Lays.n219 X.P ρ) (hg : X.glob (ρ.g 1) = some [.int .i64 m]) (h : conIdx args H = some (r, H')) (hs : Sim X ok w ι H) (hv : RepL ok w ι H args vs) :
    Goes X.P (callFunc (ρ.f 219) vs.toArray) w (CallPost X ok w ι H r H') := by
  have he : ∀ args w, (callFunc (ρ.f 219) args).run X.P w = .ok (.enter (ρ.f 219) args) w := Go.Proofs.enters_of L.f219 (by kernel_rfl) rfl
  unfold conIdx at h
  split at h
  · rename_i s sub
    split at h
    · rename_i hlen
      injection h with h
      injection h with h1 h2
      subst h1; subst h2
      cases repL_str2 hv
      refine con_below hs (he _ _) ((Any.stringslite_Index L ⟨s.toArray⟩ ⟨sub.toArray⟩ m w (by simpa [ByteArray.size] using hlen) (glob_int hs hg)).mono ?_)
      rintro e w' ⟨rfl, rfl⟩
      refine ⟨_, rfl, ?_, Below.refl _ _⟩
      rw [idx_lib]
      exact .int .i64 _
    · cases h
  · cases h
theorem conClone_run (L : LaysM.n316 X.P ρ) (h : conClone args H = some (r, H')) (hs : Sim X ok w ι H) (hv : RepL ok w ι H args vs) :
    Goes X.P (callFunc (ρ.f 316) vs.toArray) w (CallPost X ok w ι H r H') := by
  have he : ∀ args w, (callFunc (ρ.f 316) args).run X.P w = .ok (.enter (ρ.f 316) args) w := Go.Proofs.enters_of L.f316 (by kernel_rfl) rfl
  unfold conClone at h
  split at h
  · rename_i s
    split at h
    · rename_i hlen
      injection h with h
      injection h with h1 h2
      subst h1; subst h2
      cases repL_str1 hv
      refine con_below hs (he _ _) ((Any.stringslite_Clone L ⟨s.toArray⟩ w (by simpa [ByteArray.size] using hlen)).mono ?_)
      rintro e w' ⟨rfl, hb⟩
      exact ⟨_, rfl, .str s, hb⟩
    · cases h
  · cases h
end
end Go.Ev
/- bytes.Index is met by the shelf's contract. -/
namespace Go.Ev
open Go Go.Proofs Go.RowKit Go.Shelf
/-- The bytes that cells are, if they are. -/
def bytesR : List D → Option (List UInt8)
  | [] => some []
  | .int .u8 n :: l => if 0 ≤ n ∧ n < 256 then (bytesR l).map fun r => UInt8.ofNat n.toNat :: r else none
  | _ => none
@[simp] theorem bytesR_of : ∀ (s : List UInt8), bytesR (ofBytes s) = some s
  | [] => rfl
  | b :: s => by
    have h := b.toNat_lt
    have : bytesR (ofBytes (b :: s)) = if (0 : Int) ≤ (b.toNat : Int) ∧ (b.toNat : Int) < 256 then (bytesR (ofBytes s)).map fun r => UInt8.ofNat (b.toNat : Int).toNat :: r else none := rfl
    rw [this, bytesR_of s, if_pos (by omega)]
    simp
theorem bytesR_inv : ∀ {ds : List D} {s : List UInt8}, bytesR ds = some s → ds = ofBytes s
  | [], s, h => by simp [bytesR] at h; subst h; rfl
  | d :: l, s, h => by
    unfold bytesR at h
    split at h
    · rename_i e; cases e
    · rename_i n l' e
      cases e
      split at h
      · rename_i hn
        cases hr : bytesR l with
        | none => rw [hr] at h; simp at h
        | some r =>
          rw [hr] at h
          simp only [Option.map_some, Option.some.injEq] at h
          subst h
          rw [bytesR_inv hr]
          simp only [ofBytes, List.map_cons, List.cons.injEq, D.int.injEq, true_and, and_true]
          rw [UInt8.toNat_ofNat_of_lt' (by simp; omega)]
          omega
      · cases h
    · cases h
def conBIdx : List D → Heap → Option (D × Heap)
  | [.vsl nil ds l, .vsl false es k], H => match bytesR ds, bytesR es with
    | some s, some t => if s.length = l ∧ t.length = k ∧ 2 ≤ k ∧ l < 4294967281 ∧ k < 4294967281 then some (.int .i64 (idxN t s 0), H) else none
    | _, _ => none
  | _, _ => none
section
variable {X : Cx} {ρ : Ren} {ok : Nat → Prop} {w : World} {ι : Iota} {H H' : Heap} {r : D} {args : List D} {vs : List Value}
theorem bytes_ints (s : List UInt8) : Lib.bytesOf (s.map fun b => (b.toNat : Int)) = s := by
  simp [Lib.bytesOf, List.map_map, Function.comp_def]
theorem vsl_cells {a : Addr} {s : List UInt8} {l c : Nat} (h : Rep ok w ι H (.vsl false (ofBytes s) l) (.slice (some a) l c)) :
    (∀ i, i < s.length → w.cell? (a.add i) = some (.int .u8 ((s.map fun b => (b.toNat : Int)).getD i 0))) ∧ l ≤ c := by
  cases h with
  | vsl a f ha hc hr h hlc =>
    refine ⟨fun i hi => ?_, hlc⟩
    have hj : (ofBytes s)[i]? = some (.int .u8 (s[i].toNat : Int)) := by simp [ofBytes, hi]
    have h1 := hr i _ hj
    have h2 := h i _ hj
    rw [h1]
    generalize f i = v at h2
    cases h2
    simp [List.getD_eq_getElem?_getD, hi]
theorem ints_rng (s : List UInt8) : ∀ x ∈ s.map (fun b => (b.toNat : Int)), 0 ≤ x ∧ x < 256 := by
  intro x hx
  obtain ⟨b, _, rfl⟩ := List.mem_map.1 hx
  have := b.toNat_lt
  omega
theorem conBIdx_run {m : Int} (L : Lays.n185 X.P ρ) (hg : X.glob (ρ.g 1) = some [.int .i64 m]) (h : conBIdx args H = some (r, H')) (hs : Sim X ok w ι H) (hv : RepL ok w ι H args vs) :
    Goes X.P (callFunc (ρ.f 185) vs.toArray) w (CallPost X ok w ι H r H') := by
  have he : ∀ args w, (callFunc (ρ.f 185) args).run X.P w = .ok (.enter (ρ.f 185) args) w := Go.Proofs.enters_of L.f185 (by kernel_rfl) rfl
  unfold conBIdx at h
  split at h
  · rename_i nil ds l es k
    split at h
    · rename_i s t hs1 ht1
      split at h
      · rename_i hc
        obtain ⟨rfl, rfl, h2, h3, h4⟩ := hc
        injection h with h
        injection h with e1 e2
        subst e1; subst e2
        obtain rfl := bytesR_inv hs1
        obtain rfl := bytesR_inv ht1
        obtain ⟨v1, us, rfl, r1, hv⟩ := repL_cons hv
        obtain ⟨v2, us, rfl, r2, hv⟩ := repL_cons hv
        cases repL_nil hv
        obtain ⟨a2, c2, rfl⟩ : ∃ a c, v2 = .slice (some a) t.length c := by cases r2; exact ⟨_, _, rfl⟩
        obtain ⟨q2, _⟩ := vsl_cells r2
        have hrep : ∀ w' : World, Rep ok w' ι H (.int .i64 (idxN t s 0)) (.int .i64 (idxN t s 0)) := fun w' => .int .i64 _
        cases nil with
        | true =>
          obtain ⟨rfl, rfl⟩ : s = [] ∧ v1 = .slice none 0 0 := by
            generalize hds : ofBytes s = ds at r1
            generalize s.length = n at r1
            cases r1
            exact ⟨by cases s <;> simp [ofBytes] at hds ⊢, rfl⟩
          refine con_below hs (he _ _) ((Any.bytes_Index_nil L (some a2) t.length c2 w (by omega) (fun h => by omega)).mono ?_)
          rintro e w' ⟨rfl, rfl⟩
          refine ⟨_, rfl, ?_, Below.refl _ _⟩
          have h0 : ¬ t.length = 0 := by omega
          have ht : t.isEmpty = false := by cases t <;> simp at h0 ⊢
          rw [if_neg h0]
          have := hrep w'
          simpa [idxN, ht] using this
        | false =>
          obtain ⟨a1, c1, rfl⟩ : ∃ a c, v1 = .slice (some a) s.length c := by cases r1; exact ⟨_, _, rfl⟩
          obtain ⟨q1, hcap⟩ := vsl_cells r1
          refine con_below hs (he _ _) ((Any.bytes_Index_at L a1 a2 s.length c1 t.length c2 (s.map fun b => (b.toNat : Int)) (t.map fun b => (b.toNat : Int)) m w (by simp) (by simp) (ints_rng s) (ints_rng t) q1 q2 hcap h3 (by omega) (glob_int hs hg)).mono ?_)
          rintro e w' ⟨rfl, q, rfl⟩
          refine ⟨_, rfl, ?_, below_drewN (Below.refl _ _) q⟩
          rw [bytes_ints, bytes_ints, idx_lib]
          exact hrep _
      · cases h
    · cases h
  · cases h
end
end Go.Ev
/- Numbers as texts: what the shelf has of it. -/
namespace Go.Ev
open Go Go.Proofs Go.RowKit Go.Shelf
/-- The decimal digits of a number below 10^f. -/
def decF : Nat → Nat → List UInt8
  | 0, _ => []
  | f + 1, v => if v < 10 then [UInt8.ofNat (48 + v)] else decF f (v / 10) ++ [UInt8.ofNat (48 + v % 10)]
def dec (v : Nat) : List UInt8 := decF 20 v
theorem decF_lib : ∀ {f v : Nat}, v < 10 ^ f → 1 ≤ f → decF f v = Lib.decDigits v
  | f + 1, v, h, _ => by
    rw [decF, Lib.decDigits]
    by_cases hv : v < 10
    · rw [if_pos hv, dif_pos hv]
    · have hf : 1 ≤ f := by
        rcases f with _ | f
        · simp at h; omega
        · omega
      rw [if_neg hv, dif_neg hv, decF_lib (f := f) (by rw [Nat.pow_succ] at h; omega) hf]
theorem dec_lib {v : Nat} (h : v < 18446744073709551616) : dec v = Lib.decDigits v := decF_lib (Nat.lt_trans h (by decide)) (by decide)
def conLen64 : List D → Heap → Option (D × Heap)
  | [.int .u64 x], H => if 0 ≤ x ∧ x ≤ 18446744073709551615 then some (.int .i64 (Lib.bitLen x.toNat), H) else none
  | _, _ => none
def conSmall : List D → Heap → Option (D × Heap)
  | [.int .i64 x], H => if 0 ≤ x ∧ x < 100 then some (.str (dec x.toNat), H) else none
  | _, _ => none
section
variable {X : Cx} {ρ : Ren} {ok : Nat → Prop} {w : World} {ι : Iota} {H H' : Heap} {r : D} {args : List D} {vs : List Value}
theorem repL_int1 {k : IntKind} {x : Int} (hv : RepL ok w ι H [.int k x] vs) : vs = [.int k x] := by
  obtain ⟨v, us, rfl, h1, h2⟩ := repL_cons hv
  cases repL_nil h2
  cases h1
  rfl
theorem conLen64_run (L : Lays.n129 X.P ρ) (h : conLen64 args H = some (r, H')) (hs : Sim X ok w ι H) (hv : RepL ok w ι H args vs) :
    Goes X.P (callFunc (ρ.f 129) vs.toArray) w (CallPost X ok w ι H r H') := by
  have he : ∀ args w, (callFunc (ρ.f 129) args).run X.P w = .ok (.enter (ρ.f 129) args) w := Go.Proofs.enters_of L.f129 (by kernel_rfl) rfl
  unfold conLen64 at h
  split at h
  · rename_i x
    split at h
    · rename_i hc
      injection h with h
      injection h with h1 h2
      subst h1; subst h2
      cases repL_int1 hv
      refine con_below hs (he _ _) ((Any.bits_Len64 L x w hc.1 hc.2).mono ?_)
      rintro e w' ⟨rfl, rfl⟩
      exact ⟨_, rfl, .int .i64 _, Below.refl _ _⟩
    · cases h
  · cases h
theorem conSmall_run (L : Lays.n283 X.P ρ) (h : conSmall args H = some (r, H')) (hs : Sim X ok w ι H) (hv : RepL ok w ι H args vs) :
    Goes X.P (callFunc (ρ.f 283) vs.toArray) w (CallPost X ok w ι H r H') := by
  have he : ∀ args w, (callFunc (ρ.f 283) args).run X.P w = .ok (.enter (ρ.f 283) args) w := Go.Proofs.enters_of L.f283 (by kernel_rfl) rfl
  unfold conSmall at h
  split at h
  · rename_i x
    split at h
    · rename_i hc
      injection h with h
      injection h with h1 h2
      subst h1; subst h2
      cases repL_int1 hv
      have hx : x = ((x.toNat : Nat) : Int) := by omega
      have := Any.internal_strconv_small L x.toNat (by omega) w
      rw [← hx] at this
      refine con_below hs (he _ _) (this.mono ?_)
      rintro e w' ⟨rfl, rfl⟩
      rw [dec_lib (by omega)]
      exact ⟨_, rfl, .str _, Below.refl _ _⟩
    · cases h
  · cases h
end
end Go.Ev
