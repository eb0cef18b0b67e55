import Derived.Test.YtaponndjgdfkbaaEv21
import Derived.Lib.BytesEntry
import Derived.Laws.Externs
/- Two rows of bytes are compared by a function without a body. -/
namespace Go.Ev
open Go Go.Proofs

def byteInts : List D → Option (List Int)
  | [] => some []
  | .int .u8 n :: l => (byteInts l).map (n :: ·)
  | _ => none
def slb : D → Option (List Int)
  | .vsl true [] 0 => some []
  | .vsl false cs len => if cs.length = len then byteInts cs else none
  | _ => none
def cmpExt : List D → Option D
  | [x, y] => match slb x, slb y with
    | some a, some b => some (.int .i64 (Extern.BytealgCompare.cmp ⟨(Lib.bytesOf a).toArray⟩ ⟨(Lib.bytesOf b).toArray⟩))
    | _, _ => none
  | _ => none

theorem byteInts_get : ∀ {cs : List D} {l : List Int}, byteInts cs = some l → cs.length = l.length ∧ ∀ (j : Nat) x, l[j]? = some x → cs[j]? = some (.int .u8 x)
  | [], l, h => by simp only [byteInts, Option.some.injEq] at h; subst h; simp
  | d :: cs, l, h => by
    cases d with
    | int k n =>
      cases k with
      | u8 =>
        simp only [byteInts] at h
        cases hb : byteInts cs with
        | none => simp [hb] at h
        | some l' =>
          simp only [hb, Option.map_some, Option.some.injEq] at h
          subst h
          obtain ⟨h1, h2⟩ := byteInts_get hb
          refine ⟨by simp [h1], fun j x hj => ?_⟩
          cases j with
          | zero => simpa using hj
          | succ j => simpa using h2 j x (by simpa using hj)
      | _ => simp [byteInts] at h
    | _ => simp [byteInts] at h

theorem slb_run {P : Program} {ok : Nat → Prop} {w : World} {ι : Iota} {H : Heap} {d : D} {v : Value} {l : List Int} (h : slb d = some l) (hr : Rep ok w ι H d v) :
    (Extern.Bytes.bytesOf v).run P w = .ok ⟨(Lib.bytesOf l).toArray⟩ w := by
  cases hr with
  | vnil => simp only [slb, Option.some.injEq] at h; subst h; simp [Extern.Bytes.bytesOf, Lib.bytesOf]; rfl
  | vsl a f ha hc hr hf hlc =>
    rename_i ds len c
    simp only [slb] at h
    split at h
    · rename_i hlen
      obtain ⟨h1, h2⟩ := byteInts_get h
      have := Lib.run_loadBytesX (P := P) w l a .empty (fun j x hj => by
        have hd := h2 j x hj
        rw [hr j _ hd]
        have := hf j _ hd
        generalize f j = v at this
        cases this
        rfl)
      simp only [Extern.Bytes.bytesOf]
      rw [← hlen, h1, this]
      simp
    · cases h
  | _ => simp [slb] at h

theorem cmpExt_run {P : Program} {f : Nat} {fn : Func} (hf : P.funcs[f]? = some fn) (hn : fn.body = none) (hng : (fn.name == "runtime.NumGoroutine") = false)
    (h1 : Extern.findNext fn = none) (h2 : Extern.find fn = some Extern.BytealgCompare.compare) {ok : Nat → Prop} {w : World} {ι : Iota} {H : Heap} {args : List D} {d : D} {vs : List Value}
    (h : cmpExt args = some d) (hv : RepL ok w ι H args vs) : ∃ v, (callFunc f vs.toArray).run P w = .ok (.value v) w ∧ Rep ok w ι H d v ∧ idFree d = true := by
  rw [run_callFunc_extern hf hng (by rw [hn]; rfl) h1 h2]
  match args, h with
  | [x, y], h =>
    simp only [cmpExt] at h
    cases hx : slb x with
    | none => simp [hx] at h
    | some a =>
      cases hy : slb y with
      | none => simp [hx, hy] at h
      | some b =>
        simp only [hx, hy, Option.some.injEq] at h
        subst h
        obtain ⟨u, v, rfl, hu, hv⟩ : ∃ u v, vs = [u, v] ∧ Rep ok w ι H x u ∧ Rep ok w ι H y v := by
          obtain ⟨hl, hh⟩ := hv
          match vs, hl with
          | [u, v], _ => exact ⟨u, v, rfl, hh 0 x rfl, hh 1 y rfl⟩
        refine ⟨_, ?_, .int .i64 _, rfl⟩
        have hc : Extern.BytealgCompare.compare [u, v].toArray = (do pure (goInt (Extern.BytealgCompare.cmp (← Extern.Bytes.bytesOf u) (← Extern.Bytes.bytesOf v)))) := rfl
        rw [hc]
        simp only [Sem.run_bind, slb_run hx hu, slb_run hy hv, Result.andThen]
        rfl

/-- One row of bytes and another one: less, the same, greater. -/
def cmpB : List UInt8 → List UInt8 → Int
  | [], [] => 0
  | [], _ :: _ => -1
  | _ :: _, [] => 1
  | a :: x, b :: y => if a = b then cmpB x y else if a < b then -1 else 1

theorem ba_size (l : List UInt8) : (ByteArray.mk l.toArray).size = l.length := by
  show l.toArray.size = _
  simp
theorem ba_get (l : List UInt8) (i : Nat) : (ByteArray.mk l.toArray)[i]! = (l[i]?).getD 0 := by
  by_cases h : i < l.length
  · have h' : i < (ByteArray.mk l.toArray).size := by rw [ba_size]; exact h
    rw [getElem!_pos (ByteArray.mk l.toArray) i h', List.getElem?_eq_getElem h]
    rfl
  · have h' : ¬ i < (ByteArray.mk l.toArray).size := by rw [ba_size]; exact h
    rw [getElem!_neg (ByteArray.mk l.toArray) i h', List.getElem?_eq_none (by omega)]
    rfl
theorem cmp_cons (a : UInt8) (x : List UInt8) (b : UInt8) (y : List UInt8) :
    Extern.BytealgCompare.cmp ⟨(a :: x).toArray⟩ ⟨(b :: y).toArray⟩ = if a = b then Extern.BytealgCompare.cmp ⟨x.toArray⟩ ⟨y.toArray⟩ else if a < b then -1 else 1 := by
  have hs : min (ByteArray.mk (a :: x).toArray).size (ByteArray.mk (b :: y).toArray).size = min x.length y.length + 1 := by
    show min (a :: x).toArray.size (b :: y).toArray.size = _
    simp only [List.size_toArray, List.length_cons]
    omega
  have hs' : min (ByteArray.mk x.toArray).size (ByteArray.mk y.toArray).size = min x.length y.length := by
    show min x.toArray.size y.toArray.size = _
    simp
  have hg : ∀ (c : UInt8) (z : List UInt8) (i : Nat), (ByteArray.mk (c :: z).toArray)[i + 1]! = (ByteArray.mk z.toArray)[i]! := fun c z i => by
    rw [ba_get, ba_get]; rfl
  have hg0 : ∀ (c : UInt8) (z : List UInt8), (ByteArray.mk (c :: z).toArray)[0]! = c := fun c z => by rw [ba_get]; rfl
  unfold Extern.BytealgCompare.cmp
  rw [hs, hs', List.range_succ_eq_map, List.find?_cons]
  simp only [hg0]
  by_cases hab : a = b
  · subst hab
    simp only [bne_self_eq_false, if_true, List.find?_map, Function.comp_def, hg, Nat.succ_eq_add_one]
    cases List.find? (fun i => (ByteArray.mk x.toArray)[i]! != (ByteArray.mk y.toArray)[i]!) (List.range (min x.length y.length)) with
    | some i => simp only [Option.map_some, hg]
    | none =>
      have e : ∀ (c : UInt8) (z : List UInt8), (ByteArray.mk (c :: z).toArray).size = (ByteArray.mk z.toArray).size + 1 := fun c z => by
        show (c :: z).toArray.size = z.toArray.size + 1
        simp
      simp only [Option.map_none, e, Nat.add_lt_add_iff_right, gt_iff_lt]
  · have : (a != b) = true := by simp [hab]
    simp only [this, hab, if_false, hg0]

theorem cmp_eq : ∀ (x y : List UInt8), Extern.BytealgCompare.cmp ⟨x.toArray⟩ ⟨y.toArray⟩ = cmpB x y
  | [], [] => rfl
  | [], b :: y => by
    unfold Extern.BytealgCompare.cmp
    rw [ba_size, ba_size]
    simp [cmpB]
  | a :: x, [] => by
    unfold Extern.BytealgCompare.cmp
    rw [ba_size, ba_size]
    simp [cmpB]
  | a :: x, b :: y => by rw [cmp_cons, cmpB, cmp_eq x y]

theorem byteInts_bytes (s : List UInt8) : byteInts (ofBytes s) = some (s.map fun b => (b.toNat : Int)) := by
  induction s with
  | nil => rfl
  | cons a s ih => simp only [ofBytes, List.map_cons, byteInts] at ih ⊢; rw [ih]; rfl
theorem bytesOf_bytes (s : List UInt8) : Lib.bytesOf (s.map fun b => (b.toNat : Int)) = s := by
  simp [Lib.bytesOf, Function.comp_def]
theorem cmpExt_bytes (m n : Bool) (x y : List UInt8) (hm : m = true → x = []) (hn : n = true → y = []) :
    cmpExt [.vsl m (ofBytes x) x.length, .vsl n (ofBytes y) y.length] = some (.int .i64 (cmpB x y)) := by
  have h : ∀ (m : Bool) (x : List UInt8), (m = true → x = []) → slb (.vsl m (ofBytes x) x.length) = some (x.map fun b => (b.toNat : Int)) := by
    intro m x hm
    cases m with
    | true => rw [hm rfl]; rfl
    | false => simp [slb, byteInts_bytes]
  simp only [cmpExt, h m x hm, h n y hn, bytesOf_bytes, cmp_eq]
end Go.Ev
