import Derived.Test.YtaponndjgdfkbaaEv20
/- What has no names in it stays as it is. -/
namespace Go.Ev
mutual
theorem pack1_free (n0 : Nat) (H : Heap) (seen : List Nat) (acc : Heap) : ∀ (d : D), idFree d = true → pack1 n0 H seen acc d = some (d, seen, acc)
  | .agg cs, h => by simp only [idFree] at h; simp only [pack1, packs_free n0 H seen acc cs h, Option.map_some]
  | .tup cs, h => by simp only [idFree] at h; simp only [pack1, packs_free n0 H seen acc cs h, Option.map_some]
  | .fn f cs, h => by simp only [pack1, h, if_true]
  | .iface t d, h => by simp only [pack1, h, if_true]
  | .optr .., h => by simp [idFree] at h
  | .osl .., h => by simp [idFree] at h
  | .bool _, _ => rfl
  | .int _ _, _ => rfl
  | .str _, _ => rfl
  | .nilp, _ => rfl
  | .nilf, _ => rfl
  | .nili, _ => rfl
  | .vptr _, _ => rfl
  | .vsl .., _ => rfl
theorem packs_free (n0 : Nat) (H : Heap) (seen : List Nat) (acc : Heap) : ∀ (cs : List D), idFree.idFreeL cs = true → pack1.packs n0 H seen acc cs = some (cs, seen, acc)
  | [], _ => rfl
  | d :: l, h => by
    simp only [idFree.idFreeL, Bool.and_eq_true] at h
    simp only [pack1.packs, pack1_free n0 H seen acc d h.1, packs_free n0 H seen acc l h.2]
end
mutual
theorem shift_free (n : Nat) : ∀ (d : D), idFree d = true → shift n d = d
  | .agg cs, h => by simp only [idFree] at h; simp only [shift, shiftL_free n cs h]
  | .tup cs, h => by simp only [idFree] at h; simp only [shift, shiftL_free n cs h]
  | .fn f cs, h => by simp only [idFree] at h; simp only [shift, shiftL_free n cs h]
  | .iface t d, h => by simp only [idFree] at h; simp only [shift, shift_free n d h]
  | .optr .., h => by simp [idFree] at h
  | .osl .., h => by simp [idFree] at h
  | .bool _, _ => rfl
  | .int _ _, _ => rfl
  | .str _, _ => rfl
  | .nilp, _ => rfl
  | .nilf, _ => rfl
  | .nili, _ => rfl
  | .vptr _, _ => rfl
  | .vsl .., _ => rfl
theorem shiftL_free (n : Nat) : ∀ (cs : List D), idFree.idFreeL cs = true → shift.shiftL n cs = cs
  | [], _ => rfl
  | d :: l, h => by
    simp only [idFree.idFreeL, Bool.and_eq_true] at h
    simp only [shift.shiftL, shift_free n d h.1, shiftL_free n l h.2]
end
mutual
theorem closed_free (n : Nat) : ∀ (d : D), idFree d = true → closed n d = true
  | .agg cs, h => by simp only [idFree] at h; simp only [closed, closedL_free n cs h]
  | .tup cs, h => by simp only [idFree] at h; simp only [closed, closedL_free n cs h]
  | .fn f cs, h => by simp only [idFree] at h; simp only [closed, closedL_free n cs h]
  | .iface t d, h => by simp only [idFree] at h; simp only [closed, closed_free n d h]
  | .optr .., h => by simp [idFree] at h
  | .osl .., h => by simp [idFree] at h
  | .bool _, _ => rfl
  | .int _ _, _ => rfl
  | .str _, _ => rfl
  | .nilp, _ => rfl
  | .nilf, _ => rfl
  | .nili, _ => rfl
  | .vptr _, _ => rfl
  | .vsl .., _ => rfl
theorem closedL_free (n : Nat) : ∀ (cs : List D), idFree.idFreeL cs = true → closed.closedL n cs = true
  | [], _ => rfl
  | d :: l, h => by
    simp only [idFree.idFreeL, Bool.and_eq_true] at h
    simp only [closed.closedL, closed_free n d h.1, closedL_free n l h.2, Bool.and_self]
end
theorem freezeL_free (H : Heap) : ∀ (cs : List D), idFree.idFreeL cs = true → freeze.freezeL H cs = some cs
  | [], _ => rfl
  | d :: l, h => by
    simp only [idFree.idFreeL, Bool.and_eq_true] at h
    have hd : freeze H d = some d := by
      cases d with
      | agg cs => have h1 := h.1; simp only [idFree] at h1; simp only [freeze, freezeL_free H cs h1, Option.map_some]
      | fn f cs => have h1 := h.1; simp only [idFree] at h1; simp only [freeze, freezeL_free H cs h1, Option.map_some]
      | osl _ _ _ _ _ => simp [idFree] at h
      | optr _ _ _ => simp [idFree] at h
      | _ => simp only [freeze, h.1, if_true]
    simp only [freeze.freezeL, hd, freezeL_free H l h.2]
theorem idFreeL_all : ∀ (cs : List D), idFree.idFreeL cs = cs.all idFree
  | [] => rfl
  | d :: l => by simp only [idFree.idFreeL, List.all_cons, idFreeL_all l]
theorem closedL_all (n : Nat) : ∀ (cs : List D), closed.closedL n cs = cs.all (closed n)
  | [] => rfl
  | d :: l => by simp only [closed.closedL, List.all_cons, closedL_all n l]
theorem idFreeL_append : ∀ (a b : List D), idFree.idFreeL (a ++ b) = (idFree.idFreeL a && idFree.idFreeL b)
  | [], b => by simp [idFree.idFreeL]
  | x :: a, b => by simp [idFree.idFreeL, idFreeL_append a b, Bool.and_assoc]
theorem closedL_append (n : Nat) : ∀ (a b : List D), closed.closedL n (a ++ b) = (closed.closedL n a && closed.closedL n b)
  | [], b => by simp [closed.closedL]
  | x :: a, b => by simp [closed.closedL, closedL_append n a b, Bool.and_assoc]
theorem vFreeL_append : ∀ (a b : List D), vFree.vFreeL (a ++ b) = (vFree.vFreeL a && vFree.vFreeL b)
  | [], b => by simp [vFree.vFreeL]
  | x :: a, b => by simp [vFree.vFreeL, vFreeL_append a b, Bool.and_assoc]

@[simp] theorem ofBytes_len (s : List UInt8) : (ofBytes s).length = s.length := by simp [ofBytes]
@[simp] theorem idFree_bytes (s : List UInt8) : idFree.idFreeL (ofBytes s) = true := by
  induction s with
  | nil => rfl
  | cons a s ih => simpa [ofBytes, idFree.idFreeL, idFree] using ih
@[simp] theorem vFree_bytes (s : List UInt8) : vFree.vFreeL (ofBytes s) = true := by
  induction s with
  | nil => rfl
  | cons a s ih => simpa [ofBytes, vFree.vFreeL, vFree] using ih
@[simp] theorem closedL_bytes (n : Nat) (s : List UInt8) : closed.closedL n (ofBytes s) = true := closedL_free n _ (idFree_bytes s)
@[simp] theorem all_idFree_bytes (s : List UInt8) : (ofBytes s).all idFree = true := by simp [ofBytes, idFree]
@[simp] theorem all_closed_bytes (n : Nat) (s : List UInt8) : (ofBytes s).all (closed n) = true := by simp [ofBytes, closed]
@[simp] theorem all_vFree_bytes (s : List UInt8) : (ofBytes s).all vFree = true := by simp [ofBytes, vFree]
@[simp] theorem take_bytes {s : List UInt8} {n : Nat} (h : s.length ≤ n) : (ofBytes s).take n = ofBytes s := List.take_of_length_le (by simpa using h)
@[simp] theorem bytes_allI (s : List UInt8) : (∀ x, x ∈ ofBytes s → idFree x = true) = True := eq_true (List.all_eq_true.1 (all_idFree_bytes s))
@[simp] theorem bytes_allC (s : List UInt8) (n : Nat) : (∀ x, x ∈ ofBytes s → closed n x = true) = True := eq_true (List.all_eq_true.1 (all_closed_bytes n s))
@[simp] theorem bytes_allV (s : List UInt8) : (∀ x, x ∈ ofBytes s → vFree x = true) = True := eq_true (List.all_eq_true.1 (all_vFree_bytes s))
attribute [simp] packs_free shiftL_free closedL_free freezeL_free idFreeL_append closedL_append vFreeL_append
theorem wrap_i64 {n : Int} (h : -9223372036854775808 ≤ n ∧ n < 9223372036854775808) : IntKind.i64.wrap n = n := by
  simp only [IntKind.wrap, IntKind.signed, IntKind.bits]; simp; omega
theorem wrap_u64 {n : Int} (h : 0 ≤ n ∧ n < 18446744073709551616) : IntKind.u64.wrap n = n := by
  simp only [IntKind.wrap, IntKind.signed, IntKind.bits]; simp; omega
end Go.Ev
