import Derived.Test.YtkfojmihnjnhfaaGreatDoorC4
import Derived.Shelf.Strings.BuilderF
import Derived.Test.YtkfojmihnjnhfaaGreatDoorProg
import Derived.Laws.RangeString
namespace Go.Ev.S
open Go Go.Proofs Go.Ev Go.Lib
theorem ofVal_int (k:IntKind) (n:Int):ofVal (.int k n) = some (.int k n):=rfl
theorem set_bytes {l:List UInt8} {i:Nat} (x:UInt8) (h:i < l.length):setRange (ofBytes l) i [.int .u8 (x.toNat:Int)] = ofBytes (l.set i x):=by
 rw [setRange,List.set_eq_take_append_cons_drop,if_pos h]
 simp [ofBytes,List.map_take,List.map_drop]
theorem set_arr {d:Array UInt8} {tl:List UInt8} {i:Nat} (x:UInt8) (h:i < d.size):(d.toList ++ tl).set i x = (d.setIfInBounds i x).toList ++ tl:=by
 rw [List.set_append_left _ _ (by simpa using h)]
 simp
def smL:List UInt8:=smalls.data.toList
theorem sm_at {k:Nat} (h:k < 200):smL[k]? = some (sm k):=by
 have hl:smL.length = 200:=by decide +kernel
 unfold sm
 rw [List.getD_eq_getElem?_getD]
 have:smL[k]? = some (smL[k]'(by omega)):=List.getElem?_eq_getElem (by omega)
 rw [this]
 show _ = some ((smL[k]?).getD 0)
 rw [this]
 rfl
theorem wk {nd j:Nat} (a:Int) (h:(nd:Int) - a = (j:Int)) (hj:j≤24):IntKind.i64.wrap ((nd:Int) - a) = (j:Int):=by
 rw [h,wrap_i64]
 omega
structure Fb8 (v p q x6 x7 y8 y9 y10 y11 t8 t9 t10 t11 z8 z9 z10 z11:Nat):Prop where
 a1:(v:Int).tmod 100000000 = (p:Int)
 a2:(v:Int).tdiv 100000000 = (q:Int)
 a3:(p:Int).tdiv 10000 = (x6:Int)
 a4:(p:Int).tmod 10000 = (x7:Int)
 a5:(x7:Int).tdiv 100 = (y8:Int)
 a6:(x7:Int).tmod 100 = (y9:Int)
 a7:(x6:Int).tdiv 100 = (y10:Int)
 a8:(x6:Int).tmod 100 = (y11:Int)
 w1:IntKind.u32.wrap (p:Int) = (p:Int)
 w2:IntKind.u64.wrap (q:Int) = (q:Int)
 w3:IntKind.u32.wrap (x6:Int) = (x6:Int)
 v8:IntKind.u32.wrap (y8:Int) = (y8:Int)
 v10:IntKind.u32.wrap (y10:Int) = (y10:Int)
 u8:IntKind.u32.wrap ((y8:Int) * 2) = (t8:Int)
 u9:IntKind.u32.wrap ((y9:Int) * 2) = (t9:Int)
 u10:IntKind.u32.wrap ((y10:Int) * 2) = (t10:Int)
 u11:IntKind.u32.wrap ((y11:Int) * 2) = (t11:Int)
 w8:IntKind.u32.wrap ((t8:Int)+1) = (z8:Int)
 w9:IntKind.u32.wrap ((t9:Int)+1) = (z9:Int)
 w10:IntKind.u32.wrap ((t10:Int)+1) = (z10:Int)
 w11:IntKind.u32.wrap ((t11:Int)+1) = (z11:Int)
 s1:smL[z9]? = some (sm (v % 100 * 2+1))
 s2:smL[t9]? = some (sm (v % 100 * 2))
 s3:smL[z8]? = some (sm (v / 100 % 100 * 2+1))
 s4:smL[t8]? = some (sm (v / 100 % 100 * 2))
 s5:smL[z11]? = some (sm (v / 100 / 100 % 100 * 2+1))
 s6:smL[t11]? = some (sm (v / 100 / 100 % 100 * 2))
 s7:smL[z10]? = some (sm (v / 100 / 100 / 100 % 100 * 2+1))
 s8:smL[t10]? = some (sm (v / 100 / 100 / 100 % 100 * 2))
 fq:v / 100 / 100 / 100 / 100 = q
theorem dv (a b c:Nat) (h:c = a / b):(a:Int).tdiv (b:Int) = (c:Int):=by rw [h];exact (Int.ofNat_tdiv a b).symm
theorem md (a b c:Nat) (h:c = a % b):(a:Int).tmod (b:Int) = (c:Int):=by rw [h];exact (Int.ofNat_tmod a b).symm
theorem wu32 {a:Int} {c:Nat} (h:a = (c:Int)) (hc:c < 4294967296):IntKind.u32.wrap a = (c:Int):=by rw [h,wrap_u32];omega
theorem fb8 (v:Nat) (hv:v < 18446744073709551616):∃ p q x6 x7 y8 y9 y10 y11 t8 t9 t10 t11 z8 z9 z10 z11,Fb8 v p q x6 x7 y8 y9 y10 y11 t8 t9 t10 t11 z8 z9 z10 z11:=by
 have w2:IntKind.u64.wrap ((v / 100000000:Nat):Int) = ((v / 100000000:Nat):Int):=by rw [wrap_u64];omega
 clear hv
 obtain ⟨p,hp⟩:∃ p,p = v % 100000000:=⟨_,rfl⟩
 have f9:v % 100 = p % 10000 % 100:=by omega
 have f8:v / 100 % 100 = p % 10000 / 100:=by omega
 have f11:v / 100 / 100 % 100 = p / 10000 % 100:=by omega
 have f10:v / 100 / 100 / 100 % 100 = p / 10000 / 100:=by omega
 have fq:v / 100 / 100 / 100 / 100 = v / 100000000:=by omega
 have bp:p < 100000000:=by omega
 refine ⟨p,v / 100000000,p / 10000,p % 10000,p % 10000 / 100,p % 10000 % 100,p / 10000 / 100,p / 10000 % 100,p % 10000 / 100 * 2,p % 10000 % 100 * 2,p / 10000 / 100 * 2,p / 10000 % 100 * 2,p % 10000 / 100 * 2+1,p % 10000 % 100 * 2+1,p / 10000 / 100 * 2+1,p / 10000 % 100 * 2+1,?_⟩
 have b6:p / 10000 < 10000:=by omega
 have b7:p % 10000 < 10000:=by omega
 have b8:p % 10000 / 100 < 100:=by omega
 have b9:p % 10000 % 100 < 100:=by omega
 have b10:p / 10000 / 100 < 100:=by omega
 have b11:p / 10000 % 100 < 100:=by omega
 constructor
 case a1=>exact md v 100000000 p hp
 case a2=>exact dv v 100000000 _ rfl
 case a3=>exact dv p 10000 _ rfl
 case a4=>exact md p 10000 _ rfl
 case a5=>exact dv _ 100 _ rfl
 case a6=>exact md _ 100 _ rfl
 case a7=>exact dv _ 100 _ rfl
 case a8=>exact md _ 100 _ rfl
 case w1=>exact wu32 rfl (by omega)
 case w2=>exact w2
 case w3=>exact wu32 rfl (by omega)
 case v8=>exact wu32 rfl (by omega)
 case v10=>exact wu32 rfl (by omega)
 case u8=>exact wu32 (by omega) (by omega)
 case u9=>exact wu32 (by omega) (by omega)
 case u10=>exact wu32 (by omega) (by omega)
 case u11=>exact wu32 (by omega) (by omega)
 case w8=>exact wu32 (by omega) (by omega)
 case w9=>exact wu32 (by omega) (by omega)
 case w10=>exact wu32 (by omega) (by omega)
 case w11=>exact wu32 (by omega) (by omega)
 case s1=>rw [f9];exact sm_at (by omega)
 case s2=>rw [f9];exact sm_at (by omega)
 case s3=>rw [f8];exact sm_at (by omega)
 case s4=>rw [f8];exact sm_at (by omega)
 case s5=>rw [f11];exact sm_at (by omega)
 case s6=>rw [f11];exact sm_at (by omega)
 case s7=>rw [f10];exact sm_at (by omega)
 case s8=>rw [f10];exact sm_at (by omega)
 case fq=>exact fq
structure Fb4 (v q x7 y8 y9 t8 t9 z8 z9:Nat):Prop where
 a1:(v:Int).tmod 10000 = (x7:Int)
 a2:(v:Int).tdiv 10000 = (q:Int)
 a5:(x7:Int).tdiv 100 = (y8:Int)
 a6:(x7:Int).tmod 100 = (y9:Int)
 w2:IntKind.u32.wrap (q:Int) = (q:Int)
 v8:IntKind.u32.wrap (y8:Int) = (y8:Int)
 u8:IntKind.u32.wrap ((y8:Int) * 2) = (t8:Int)
 u9:IntKind.u32.wrap ((y9:Int) * 2) = (t9:Int)
 w8:IntKind.u32.wrap ((t8:Int)+1) = (z8:Int)
 w9:IntKind.u32.wrap ((t9:Int)+1) = (z9:Int)
 s1:smL[z9]? = some (sm (v % 100 * 2+1))
 s2:smL[t9]? = some (sm (v % 100 * 2))
 s3:smL[z8]? = some (sm (v / 100 % 100 * 2+1))
 s4:smL[t8]? = some (sm (v / 100 % 100 * 2))
 fq:v / 100 / 100 = q
theorem fb4 (v:Nat) (hv:v < 100000000):∃ q x7 y8 y9 t8 t9 z8 z9,Fb4 v q x7 y8 y9 t8 t9 z8 z9:=by
 have f9:v % 100 = v % 10000 % 100:=by omega
 have f8:v / 100 % 100 = v % 10000 / 100:=by omega
 have fq:v / 100 / 100 = v / 10000:=by omega
 refine ⟨v / 10000,v % 10000,v % 10000 / 100,v % 10000 % 100,v % 10000 / 100 * 2,v % 10000 % 100 * 2,v % 10000 / 100 * 2+1,v % 10000 % 100 * 2+1,?_⟩
 have b8:v % 10000 / 100 < 100:=by omega
 have b9:v % 10000 % 100 < 100:=by omega
 constructor
 case a1=>exact md v 10000 _ rfl
 case a2=>exact dv v 10000 _ rfl
 case a5=>exact dv _ 100 _ rfl
 case a6=>exact md _ 100 _ rfl
 case w2=>exact wu32 rfl (by omega)
 case v8=>exact wu32 rfl (by omega)
 case u8=>exact wu32 (by omega) (by omega)
 case u9=>exact wu32 (by omega) (by omega)
 case w8=>exact wu32 (by omega) (by omega)
 case w9=>exact wu32 (by omega) (by omega)
 case s1=>rw [f9];exact sm_at (by omega)
 case s2=>rw [f9];exact sm_at (by omega)
 case s3=>rw [f8];exact sm_at (by omega)
 case s4=>rw [f8];exact sm_at (by omega)
 case fq=>exact fq
structure Fb2 (v q y9 t9 z9:Nat):Prop where
 a1:(v:Int).tmod 100 = (y9:Int)
 a2:(v:Int).tdiv 100 = (q:Int)
 w2:IntKind.u32.wrap (q:Int) = (q:Int)
 u9:IntKind.u32.wrap ((y9:Int) * 2) = (t9:Int)
 w9:IntKind.u32.wrap ((t9:Int)+1) = (z9:Int)
 s1:smL[z9]? = some (sm (v % 100 * 2+1))
 s2:smL[t9]? = some (sm (v % 100 * 2))
 fq:v / 100 = q
theorem fb2 (v:Nat) (hv:v < 100000000):∃ q y9 t9 z9,Fb2 v q y9 t9 z9:=by
 refine ⟨v / 100,v % 100,v % 100 * 2,v % 100 * 2+1,?_⟩
 constructor
 case a1=>exact md v 100 _ rfl
 case a2=>exact dv v 100 _ rfl
 case w2=>exact wu32 rfl (by omega)
 case u9=>exact wu32 (by omega) (by omega)
 case w9=>exact wu32 (by omega) (by omega)
 case s1=>exact sm_at (by omega)
 case s2=>exact sm_at (by omega)
 case fq=>rfl
theorem fb1 (v:Nat) (hv:v < 10):IntKind.u32.wrap (48+(v:Int)) = ((UInt8.ofNat (48+v)).toNat:Int)∧IntKind.u8.wrap ((UInt8.ofNat (48+v)).toNat:Int) = ((UInt8.ofNat (48+v)).toNat:Int):=by
 have h:(UInt8.ofNat (48+v)).toNat = 48+v:=UInt8.toNat_ofNat_of_lt' (show 48+v < 256 by omega)
 rw [h,wrap_u32 (by omega),wrap_u8 (by omega)]
 omega
theorem lt8 {n u nd v:Nat} {d:Array UInt8} (h:FmtInv n u nd v d) (h8:nd < 8):v < 100000000 :=
 Nat.lt_of_lt_of_le h.small (Nat.le_trans (Nat.pow_le_pow_right (by decide) (show nd≤7 by omega)) (by decide))
set_option maxHeartbeats 4000000 in
theorem fb10_ev [MaxL] [TxtC] (n u:Nat) (hn:n≤24) (hu:u < 10 ^ n) (hu64:u < 18446744073709551616) (tl:List UInt8) (htl:tl.length = 24 - n) (d:Array UInt8) (hd:d.size = n) (H:Heap) (b:Nat) (hb:b < H.length)
  (hcl:H.all (blkClosed H.length) = true) (hg:H[b] = some (ofBytes (d.toList ++ tl))) :
  ∃ v' dk,FmtInv n u 0 v' dk∧call cx 191 [.osl b 24 0 n 1,.int .u64 u] H = some (.tup [],H.set b (some (ofBytes (dk.toList ++ tl)))):=by
 suffices hs:∃ r,call cx 191 [.osl b 24 0 n 1,.int .u64 u] H = some r∧∃ v' dk,FmtInv n u 0 v' dk∧r = (.tup [],H.set b (some (ofBytes (dk.toList ++ tl)))) by
  obtain ⟨r,h1,v',dk,h2,rfl⟩:=hs
  exact ⟨v',dk,h2,h1⟩
 have hset:H.set b (some (ofBytes (d.toList ++ tl))) = H:=by rw [← hg,List.set_getElem_self]
 refine call_runE (fun r=>∃ v' dk,FmtInv n u 0 v' dk∧r = (D.tup [],H.set b (some (ofBytes (dk.toList ++ tl))))) Tryz.func191 rfl ⟨rfl,rfl⟩ ?_
 unfold Tryz.f191
 generalize hS:Value.string _ = S
 have hv:ofVal S = some (.str smL):=by rw [← hS];kernel_rfl
 clear hS
 simp
 refine Run.loopThen (fun (nd:Nat) e H'=>∃ v dk,FmtInv n u nd v dk∧H' = H.set b (some (ofBytes (dk.toList ++ tl)))∧look e 0 = some (.osl b 24 0 n 1)∧look e 1 = some (.int .u64 (v:Nat))∧look e 4 = some (.int .i64 nd)) (fun nd=>nd) n ?_ ?_
 ·exact ⟨u,d,by rw [← hd];exact FmtInv.start d u (by rw [hd];exact hu),hset.symm,by simp,by simp,by simp⟩
 rintro nd e H' ⟨v,dk,hi,rfl,h0,h1,h4⟩
 have hv64:v < 18446744073709551616:=by
  have:=hi.rest
  have:=Nat.div_le_self u (10 ^ (n - nd))
  omega
 have hle:=hi.le
 have hsz:=hi.size
 have hlen:∀ (a:Array UInt8),a.size = n→(a.toList ++ tl).length = 24:=fun a ha=>by simp [ha,htl];omega
 have fin:∀ (a:Array UInt8) (v':Nat),FmtInv n u 0 v' a→∃ x y,((∀ z,z∈(H.set b (some (ofBytes (a.toList ++ tl)))).take H.length→blkClosed H.length z = true)∧D.tup [] = x∧(H.set b (some (ofBytes (a.toList ++ tl)))).take H.length = y) ∧
   ∃ v' dk,FmtInv n u 0 v' dk∧x = D.tup []∧y = H.set b (some (ofBytes (dk.toList ++ tl))):=fun a v' ha=>by
  refine ⟨_,_,⟨fun z hz=>?_,rfl,rfl⟩,v',a,ha,rfl,List.take_of_length_le (by simp)⟩
  have hz':=List.mem_of_mem_take hz
  rcases List.mem_or_eq_of_mem_set hz' with h | rfl
  ·exact List.all_eq_true.1 hcl z h
  ·simp [blkClosed]
 have hnn:n+(24 - n) = 24:=by omega
 have sb:∀ (a:Array UInt8) (j:Nat) (x:UInt8),a.size = n→j < n→setRange (ofBytes (a.toList ++ tl)) j [.int .u8 (x.toNat:Int)] = ofBytes ((a.setIfInBounds j x).toList ++ tl):=fun a j x ha hj=>by
  rw [set_bytes x (by simp [ha,htl];omega),set_arr x (by omega)]
 by_cases h8:8≤nd
 ·obtain ⟨m,hm⟩:∃ m,nd = m+8:=⟨nd - 8,by omega⟩
  have i1:=FmtInv.step2' (k:=m+6) (by rw [hm] at hi;exact hi)
  have i2:=FmtInv.step2' (k:=m+4) i1
  have i3:=FmtInv.step2' (k:=m+2) i2
  have i4:=FmtInv.step2' (k:=m) i3
  obtain ⟨j1,hj1⟩:∃ y,y = m+7:=⟨_,rfl⟩
  obtain ⟨j2,hj2⟩:∃ y,y = m+6:=⟨_,rfl⟩
  obtain ⟨j3,hj3⟩:∃ y,y = m+5:=⟨_,rfl⟩
  obtain ⟨j4,hj4⟩:∃ y,y = m+4:=⟨_,rfl⟩
  obtain ⟨j5,hj5⟩:∃ y,y = m+3:=⟨_,rfl⟩
  obtain ⟨j6,hj6⟩:∃ y,y = m+2:=⟨_,rfl⟩
  obtain ⟨j7,hj7⟩:∃ y,y = m+1:=⟨_,rfl⟩
  rw [show m+6+1 = j1 by omega,show m+4+1 = j3 by omega,show m+2+1 = j5 by omega,← hj2,← hj4,← hj6,← hj7] at i4
  have e1:(nd:Int) - 1 = ((j1:Nat):Int):=by omega
  have e2:(nd:Int) - 2 = ((j2:Nat):Int):=by omega
  have e3:(nd:Int) - 3 = ((j3:Nat):Int):=by omega
  have e4:(nd:Int) - 4 = ((j4:Nat):Int):=by omega
  have e5:(nd:Int) - 5 = ((j5:Nat):Int):=by omega
  have e6:(nd:Int) - 6 = ((j6:Nat):Int):=by omega
  have e7:(nd:Int) - 7 = ((j7:Nat):Int):=by omega
  have e8:(nd:Int) - 8 = ((m:Nat):Int):=by omega
  have h8':(8:Int)≤(nd:Int):=by omega
  have hbd:∀ j:Nat,j < nd→((j:Int) < (n:Int))∧j < n∧j < 24:=fun j hj=>by omega
  have l1:=hbd j1 (by omega)
  have l2:=hbd j2 (by omega)
  have l3:=hbd j3 (by omega)
  have l4:=hbd j4 (by omega)
  have l5:=hbd j5 (by omega)
  have l6:=hbd j6 (by omega)
  have l7:=hbd j7 (by omega)
  have l8:=hbd m (by omega)
  have hmn:m < nd:=by omega
  clear hbd
  have k1:=wk 1 e1 (Nat.le_of_lt l1.2.2)
  have k2:=wk 2 e2 (Nat.le_of_lt l2.2.2)
  have k3:=wk 3 e3 (Nat.le_of_lt l3.2.2)
  have k4:=wk 4 e4 (Nat.le_of_lt l4.2.2)
  have k5:=wk 5 e5 (Nat.le_of_lt l5.2.2)
  have k6:=wk 6 e6 (Nat.le_of_lt l6.2.2)
  have k7:=wk 7 e7 (Nat.le_of_lt l7.2.2)
  have k8:=wk 8 e8 (Nat.le_of_lt l8.2.2)
  clear e1 e2 e3 e4 e5 e6 e7 e8
  obtain ⟨p,q,x6,x7,y8,y9,y10,y11,t8,t9,t10,t11,z8,z9,z10,z11,⟨a1,a2,a3,a4,a5,a6,a7,a8,w1,w2,w3,v8,v10,u8,u9,u10,u11,w8,w9,w10,w11,s1,s2,s3,s4,s5,s6,s7,s8,fq⟩⟩:=fb8 v hv64
  rw [fq] at i4
  clear i1 i2 i3 hi hv64 fq hu64 hu
  generalize sm (v % 100 * 2+1) = c1 at *
  generalize sm (v % 100 * 2) = c2 at *
  generalize sm (v / 100 % 100 * 2+1) = c3 at *
  generalize sm (v / 100 % 100 * 2) = c4 at *
  generalize sm (v / 100 / 100 % 100 * 2+1) = c5 at *
  generalize sm (v / 100 / 100 % 100 * 2) = c6 at *
  generalize sm (v / 100 / 100 / 100 % 100 * 2+1) = c7 at *
  generalize sm (v / 100 / 100 / 100 % 100 * 2) = c8 at *
  simp [-ofVal,ofVal_int,h0,h1,h4,hv,a1,a2,a3,a4,a5,a6,a7,a8,w1,w2,w3,w8,w9,w10,w11,u8,u9,u10,u11,v8,v10,k1,k2,k3,k4,k5,k6,k7,k8,s1,s2,s3,s4,s5,s6,s7,s8,h8',hb,l1,l2,l3,l4,l5,l6,l7,l8,hsz,htl,hnn,sb,Nat.succ_le_of_lt]
  exact ⟨m,hmn,q,_,i4,by simp,rfl,rfl⟩
 ·have h8':¬ (8:Int)≤(nd:Int):=by omega
  have q0:v < 100000000:=lt8 hi (by omega)
  have wv:IntKind.u32.wrap (v:Int) = (v:Int):=wu32 rfl (by omega)
  clear hv64 hu64 hu
  by_cases h4':4≤nd
  ·obtain ⟨m,hm⟩:∃ m,nd = m+4:=⟨nd - 4,by omega⟩
   have i1:=FmtInv.step2' (k:=m+2) (by rw [hm] at hi;exact hi)
   have i2:=FmtInv.step2' (k:=m) i1
   obtain ⟨j1,hj1⟩:∃ y,y = m+3:=⟨_,rfl⟩
   obtain ⟨j2,hj2⟩:∃ y,y = m+2:=⟨_,rfl⟩
   obtain ⟨j3,hj3⟩:∃ y,y = m+1:=⟨_,rfl⟩
   rw [show m+2+1 = j1 by omega,← hj2,← hj3] at i2
   have g4:(4:Int)≤(nd:Int):=by omega
   have e1:(nd:Int) - 1 = (j1:Int):=by omega
   have e2:(nd:Int) - 2 = (j2:Int):=by omega
   have e3:(nd:Int) - 3 = (j3:Int):=by omega
   have e4:(nd:Int) - 4 = (m:Int):=by omega
   have hbd:∀ j:Nat,j < nd→((j:Int) < (n:Int))∧j < n∧j < 24:=fun j hj=>by omega
   have l1:=hbd j1 (by omega)
   have l2:=hbd j2 (by omega)
   have l3:=hbd j3 (by omega)
   have l4:=hbd m (by omega)
   have hm4:m < 4:=by omega
   have k1:=wk 1 e1 (Nat.le_of_lt l1.2.2)
   have k2:=wk 2 e2 (Nat.le_of_lt l2.2.2)
   have k3:=wk 3 e3 (Nat.le_of_lt l3.2.2)
   have k4:=wk 4 e4 (Nat.le_of_lt l4.2.2)
   clear hbd e1 e2 e3 e4
   obtain ⟨q,x7,y8,y9,t8,t9,z8,z9,⟨a1,a2,a5,a6,w2,v8,u8,u9,w8,w9,s1,s2,s3,s4,fq⟩⟩:=fb4 v q0
   rw [fq] at i2
   clear i1 hi fq
   generalize sm (v % 100 * 2+1) = c1 at *
   generalize sm (v % 100 * 2) = c2 at *
   generalize sm (v / 100 % 100 * 2+1) = c3 at *
   generalize sm (v / 100 % 100 * 2) = c4 at *
   simp [-Array.toList_setIfInBounds,-ofVal,ofVal_int,h0,h1,h4,hv,h8',g4,wv,a1,a2,a5,a6,w2,v8,u8,u9,w8,w9,k1,k2,k3,k4,s1,s2,s3,s4,hb,l1,l2,l3,l4,hsz,htl,hnn,sb,Nat.succ_le_of_lt]
   clear a1 a2 a5 a6 w2 v8 u8 u9 w8 w9 s1 s2 s3 s4 k1 k2 k3 k4 wv
   obtain ⟨dk1,hdk1⟩:∃ a,a = (((dk.setIfInBounds j1 c1).setIfInBounds j2 c2).setIfInBounds j3 c3).setIfInBounds m c4:=⟨_,rfl⟩
   rw [← hdk1] at i2 ⊢
   clear hdk1
   by_cases x2:2≤m
   ·obtain ⟨m2,hm2⟩:∃ mm,m = mm+2:=⟨m - 2,by omega⟩
    have i6:=FmtInv.step2' (k:=m2) (by rw [hm2] at i2;exact i2)
    obtain ⟨p1,hp1⟩:∃ y,y = m2+1:=⟨_,rfl⟩
    have g2:(2:Int)≤(m:Int):=by omega
    have e1:(m:Int) - 1 = (p1:Int):=by omega
    have e2:(m:Int) - 2 = (m2:Int):=by omega
    have hle2:=i2.le
    have r1:(p1:Int) < (n:Int)∧p1 < n∧p1 < 24:=by omega
    have r2:(m2:Int) < (n:Int)∧m2 < n∧m2 < 24:=by omega
    have m2lt:m2 < 2:=by omega
    have q1:q < 100000000:=lt8 i2 (by omega)
    rw [← hp1] at i6
    have j1':=wk 1 e1 (Nat.le_of_lt r1.2.2)
    have j2':=wk 2 e2 (Nat.le_of_lt r2.2.2)
    clear e1 e2
    obtain ⟨v2,y9,t9,z9,⟨a1,a2,w2,u9,w9,s1,s2,fq⟩⟩:=fb2 q q1
    rw [fq] at i6
    generalize sm (q % 100 * 2+1) = c5 at *
    generalize sm (q % 100 * 2) = c6 at *
    simp [-Array.toList_setIfInBounds,-ofVal,ofVal_int,hv,g2,r1,r2,j1',j2',a1,a2,w2,u9,w9,s1,s2,hb,i2.size,htl,hnn,sb,Nat.succ_le_of_lt]
    clear a1 a2 w2 u9 w9 s1 s2 j1' j2' fq
    obtain ⟨dk2,hdk2⟩:∃ a,a = (dk1.setIfInBounds p1 c5).setIfInBounds m2 c6:=⟨_,rfl⟩
    rw [← hdk2] at i6 ⊢
    clear hdk2
    by_cases y1:m2 = 1
    ·have z1:v2 < 10:=by have:=i6.small;rw [y1] at this;simpa using this
     have i5:=FmtInv.step1 (by rw [y1] at i6;exact i6)
     obtain ⟨d1,d2⟩:=fb1 v2 z1
     have g0:(0:Int) < (m2:Int):=by omega
     have gn:0 < m2:=by omega
     have g1:0 < n:=by have:=i6.le;omega
     generalize UInt8.ofNat (48+v2) = c9 at *
     simp [-Array.toList_setIfInBounds,-ofVal,-blkClosed,ofVal_int,gn,g1,d1,d2,hb,i6.size,htl,hnn,sb]
     exact orP_fin (fin _ _ i5)
    ·have z0:m2 = 0:=by omega
     rw [z0] at i6
     simp [-Array.toList_setIfInBounds,-ofVal,-blkClosed,z0]
     exact orP_fin (fin _ _ i6)
   ·have g2:¬ (2:Int)≤(m:Int):=by omega
    simp [-Array.toList_setIfInBounds,-ofVal,ofVal_int,g2]
    by_cases y1:m = 1
    ·have z1:q < 10:=by have:=i2.small;rw [y1] at this;simpa using this
     have i5:=FmtInv.step1 (by rw [y1] at i2;exact i2)
     obtain ⟨d1,d2⟩:=fb1 q z1
     have g0:(0:Int) < (m:Int):=by omega
     have gn:0 < m:=by omega
     have g1:0 < n:=by have:=i2.le;omega
     generalize UInt8.ofNat (48+q) = c9 at *
     simp [-Array.toList_setIfInBounds,-ofVal,-blkClosed,ofVal_int,gn,g1,d1,d2,hb,i2.size,htl,hnn,sb]
     exact orP_fin (fin _ _ i5)
    ·have z0:m = 0:=by omega
     rw [z0] at i2
     simp [-Array.toList_setIfInBounds,-ofVal,-blkClosed,z0]
     exact orP_fin (fin _ _ i2)
  ·have g4:¬ (4:Int)≤(nd:Int):=by omega
   simp [-ofVal,ofVal_int,h0,h1,h4,h8',g4,wv]
   clear wv
   by_cases x2:2≤nd
   ·obtain ⟨m2,hm2⟩:∃ mm,nd = mm+2:=⟨nd - 2,by omega⟩
    have i6:=FmtInv.step2' (k:=m2) (by rw [hm2] at hi;exact hi)
    obtain ⟨p1,hp1⟩:∃ y,y = m2+1:=⟨_,rfl⟩
    have g2:(2:Int)≤(nd:Int):=by omega
    have e1:(nd:Int) - 1 = (p1:Int):=by omega
    have e2:(nd:Int) - 2 = (m2:Int):=by omega
    have hle2:=hi.le
    have r1:(p1:Int) < (n:Int)∧p1 < n∧p1 < 24:=by omega
    have r2:(m2:Int) < (n:Int)∧m2 < n∧m2 < 24:=by omega
    have m2lt:m2 < 2:=by omega
    have q1:v < 100000000:=lt8 hi (by omega)
    rw [← hp1] at i6
    have j1':=wk 1 e1 (Nat.le_of_lt r1.2.2)
    have j2':=wk 2 e2 (Nat.le_of_lt r2.2.2)
    clear e1 e2
    obtain ⟨v2,y9,t9,z9,⟨a1,a2,w2,u9,w9,s1,s2,fq⟩⟩:=fb2 v q1
    rw [fq] at i6
    generalize sm (v % 100 * 2+1) = c5 at *
    generalize sm (v % 100 * 2) = c6 at *
    simp [-Array.toList_setIfInBounds,-ofVal,ofVal_int,hv,g2,r1,r2,j1',j2',a1,a2,w2,u9,w9,s1,s2,hb,hi.size,htl,hnn,sb,Nat.succ_le_of_lt]
    clear a1 a2 w2 u9 w9 s1 s2 j1' j2' fq
    obtain ⟨dk2,hdk2⟩:∃ a,a = (dk.setIfInBounds p1 c5).setIfInBounds m2 c6:=⟨_,rfl⟩
    rw [← hdk2] at i6 ⊢
    clear hdk2
    by_cases y1:m2 = 1
    ·have z1:v2 < 10:=by have:=i6.small;rw [y1] at this;simpa using this
     have i5:=FmtInv.step1 (by rw [y1] at i6;exact i6)
     obtain ⟨d1,d2⟩:=fb1 v2 z1
     have g0:(0:Int) < (m2:Int):=by omega
     have gn:0 < m2:=by omega
     have g1:0 < n:=by have:=i6.le;omega
     generalize UInt8.ofNat (48+v2) = c9 at *
     simp [-Array.toList_setIfInBounds,-ofVal,-blkClosed,ofVal_int,gn,g1,d1,d2,hb,i6.size,htl,hnn,sb]
     exact orP_fin (fin _ _ i5)
    ·have z0:m2 = 0:=by omega
     rw [z0] at i6
     simp [-Array.toList_setIfInBounds,-ofVal,-blkClosed,z0]
     exact orP_fin (fin _ _ i6)
   ·have g2:¬ (2:Int)≤(nd:Int):=by omega
    simp [-Array.toList_setIfInBounds,-ofVal,ofVal_int,g2]
    by_cases y1:nd = 1
    ·have z1:v < 10:=by have:=hi.small;rw [y1] at this;simpa using this
     have i5:=FmtInv.step1 (by rw [y1] at hi;exact hi)
     obtain ⟨d1,d2⟩:=fb1 v z1
     have g0:(0:Int) < (nd:Int):=by omega
     have gn:0 < nd:=by omega
     have g1:0 < n:=by have:=hi.le;omega
     generalize UInt8.ofNat (48+v) = c9 at *
     simp [-Array.toList_setIfInBounds,-ofVal,-blkClosed,ofVal_int,gn,g1,d1,d2,hb,hi.size,htl,hnn,sb]
     exact orP_fin (fin _ _ i5)
    ·have z0:nd = 0:=by omega
     rw [z0] at hi
     simp [-Array.toList_setIfInBounds,-ofVal,-blkClosed,z0]
     exact orP_fin (fin _ _ hi)
end Go.Ev.S
namespace Go.Ev.S
open Go Go.Proofs Go.Ev Go.Lib
theorem row_dec {u v':Nat} {dk:Array UInt8} (h:FmtInv (nDigits u) u 0 v' dk):dk.toList = decDigits u:=by
 apply List.ext_getElem
 ·rw [decDigits_length,Array.length_toList,h.size]
 ·intro j h1 h2
  rw [row_is_numeral h j h2,getElem!_pos dk j (by simpa using h1)]
  simp
set_option maxHeartbeats 1000000 in
theorem fui_ev [MaxL] [TxtC] (v:Nat) (hv:v < 18446744073709551616):call cx 160 [.int .u64 v,.int .i64 10] [] = some (.str (dec v),[]):=by
 refine call_run Tryz.func160 rfl ⟨rfl,rfl⟩ ?_
 by_cases hs:v < 100
 ·have hs':(v:Int) < 100:=by omega
  have h1:=small_ev v hs
  have hw:IntKind.i64.wrap (v:Int) = (v:Int):=by rw [wrap_i64];omega
  simp [Tryz.f160,hs',h1,hw]
 ·have hs':¬ (v:Int) < 100:=by omega
  have h1:=ndig_ev v (by omega) hv
  have hn:nDigits v≤20:=by
   have:=numDigits_eq v (by omega) hv
   split at this <;> omega
  obtain ⟨v',dk,i1,i2⟩:=fb10_ev (nDigits v) v (by omega) (lt_pow_nDigits v) hv (List.replicate (24 - nDigits v) 0) (by simp) (Array.replicate (nDigits v) 0) (by simp) [some (ofBytes (List.replicate 24 0))] 0 (by simp) (by simp) (by
   simp only [List.getElem_cons_zero,Array.toList_replicate,List.replicate_append_replicate]
   congr 3
   omega)
  have hr:=row_dec i1
  have hsz:=i1.size
  have hl:(decDigits v).length = nDigits v:=decDigits_length v
  rw [hr] at i2
  rw [dec_lib hv]
  generalize nDigits v = n at *
  generalize decDigits v = w at *
  have hn':(n:Int)≤24:=by omega
  have hn2:n≤24:=by omega
  clear hv
  have e24:ofBytes (List.replicate 24 0) = [D.int .u8 0,D.int .u8 0,D.int .u8 0,D.int .u8 0,D.int .u8 0,D.int .u8 0,D.int .u8 0,D.int .u8 0,D.int .u8 0,D.int .u8 0,D.int .u8 0,D.int .u8 0,D.int .u8 0,D.int .u8 0,D.int .u8 0,D.int .u8 0,D.int .u8 0,D.int .u8 0,D.int .u8 0,D.int .u8 0,D.int .u8 0,D.int .u8 0,D.int .u8 0,D.int .u8 0]:=rfl
  rw [e24] at i2
  have hd:dk.toList = w:=hr
  have k1:w.length+(24 - n) = 24:=by omega
  have k2:n≤w.length+(24 - n):=by omega
  have k3:List.take n (ofBytes (w ++ List.replicate (24 - n) 0)) = ofBytes w:=by
   rw [ofBytes_take,← hl,List.take_left]
  have k4:n≤24:=hn2
  simp [Tryz.f160,hs',h1,hn',hn2,i2,k1,k3]
theorem fu_ev [MaxL] [TxtC] (v:Nat) (hv:v < 18446744073709551616):call cx 131 [.int .u64 v,.int .i64 10] [] = some (.str (dec v),[]):=by
 have h:=fui_ev v hv
 refine call_run Tryz.func131 rfl ⟨rfl,rfl⟩ ?_
 simp [Tryz.f131,h]
end Go.Ev.S
namespace Go.Ev
open Go Go.Proofs
def nameC (c:UInt8):Bool:=(decide (65≤c.toNat) && decide (c.toNat≤90)) || (decide (48≤c.toNat) && decide (c.toNat≤57)) || decide (c.toNat = 95)
def digC (c:UInt8):Bool:=decide (48≤c.toNat) && decide (c.toNat≤57)
def nameOk:List UInt8→Bool
 | []=>false
 | c :: l=>decide ((c :: l).length≤64) && !digC c && (c :: l).all nameC
def prOk (p:Pr):Bool:=nameOk p.name && decide (p.value.length≤256)
def plainC (c:UInt8):Bool:= !(decide (c.toNat < 32) && decide (c.toNat≠9))
def plainV (s:List UInt8):Bool:=s.all plainC
def pairL (p:Pr):List UInt8:=if plainV p.value then ((p.name ++ [61]) ++ p.value) ++ [10] else (((p.name ++ [10]) ++ leB 8 p.value.length) ++ p.value) ++ [10]
def recOk (it:It):Bool:=decide (it.fr = 0) && decide (it.til = 0) && decide (it.rc.seq≠0) && decide (1≤it.rc.fields.l.length) && decide (it.rc.fields.l.length≤16) && it.rc.fields.l.all prOk
def gapOk (it:It):Bool:=decide (1≤it.fr) && decide (it.fr≤it.til) && decide (it.rc.seq = 0) && decide (it.rc.real = 0) && decide (it.rc.mono = 0) && decide (it.rc.boot = ID.zero) && decide (it.rc.fields.l.length = 0)
def itOk (it:It):Bool:=if it.gap then gapOk it else recOk it
end Go.Ev
namespace Go.Ev.S
open Go Go.Proofs Go.Ev
theorem plain_ev [MaxL] [TxtC] (s:List UInt8) (_:s.length < 1000000):call cx 144 [.str s] [] = some (.bool (plainV s),[]):=by
 refine call_run Tryz.func144 rfl ⟨rfl,rfl⟩ ?_
 unfold plainV
 obtain ⟨r,hr⟩:∃ r,s.all plainC = r:=⟨_,rfl⟩
 rw [hr]
 simp [Tryz.f144]
 refine Run.loopThen (fun (k:Nat) e H'=>k≤s.length∧(s.drop k).all plainC = r∧look e 0 = some (.str s)∧look e 5 = some (.int .i64 s.length)∧look e 6 = some (.int .i64 k)∧H' = []) (fun k=>s.length - k) 0 ?_ ?_
 ·simpa using hr
 rintro k e H' ⟨hk,hR,k0,k5,k6,rfl⟩
 by_cases hlt:k < s.length
 ·have hlt':(k:Int) < (s.length:Int):=by omega
  have hw:IntKind.i64.wrap ((k:Int)+1) = ((k+1:Nat):Int):=by rw [wrap_i64] <;> omega
  have hat:s[k]? = some s[k]:=List.getElem?_eq_getElem hlt
  rw [List.drop_eq_getElem_cons hlt,List.all_cons] at hR
  generalize s[k] = c at *
  by_cases h1:c.toNat < 32
  ·have h1':(c.toNat:Int) < 32:=by omega
   by_cases h2:c.toNat = 9
   ·have h2':(c.toNat:Int) = 9:=by omega
    have hc:plainC c = true:=by simp [plainC,h2]
    rw [hc,Bool.true_and] at hR
    simp [k0,k5,k6,hlt',hat,hw,h2]
    exact ⟨k+1,by omega,by omega,by simpa using hR,by omega⟩
   ·have h2':¬ (c.toNat:Int) = 9:=by omega
    have hc:plainC c = false:=by simp [plainC,h1,h2]
    rw [hc,Bool.false_and] at hR
    subst hR
    simp [k0,k5,k6,hlt',hat,h1',h2']
  ·have h1':¬ (c.toNat:Int) < 32:=by omega
   have hc:plainC c = true:=by simp [plainC,h1]
   rw [hc,Bool.true_and] at hR
   simp [k0,k5,k6,hlt',hat,hw,h1']
   exact ⟨k+1,by omega,by omega,by simpa using hR,by omega⟩
 ·have hlt':¬ (k:Int) < (s.length:Int):=by omega
  rw [List.drop_eq_nil_of_le (by omega)] at hR
  have:r = true:=hR.symm
  subst this
  simp [k0,k5,k6,hlt']
theorem nameC_cases (c:UInt8):(nameC c = true∧((65≤c.toNat∧c.toNat≤90)∨(¬ (65≤c.toNat∧c.toNat≤90)∧48≤c.toNat∧c.toNat≤57)∨c.toNat = 95))∨(nameC c = false∧¬ (65≤c.toNat∧c.toNat≤90)∧¬ (48≤c.toNat∧c.toNat≤57)∧c.toNat≠95):=by
 cases h:nameC c with
 | true =>
  simp [nameC] at h
  exact .inl ⟨rfl,by omega⟩
 | false =>
  simp [nameC] at h
  exact .inr ⟨rfl,by omega,by omega,by omega⟩
set_option maxHeartbeats 2000000 in
theorem fname_evX [MaxL] [TxtC] (s:List UInt8):call cx 166 [.str s] [] = some (.bool (nameOk s),[]):=by
 refine call_run Tryz.func166 rfl ⟨rfl,rfl⟩ ?_
 cases s with
 | nil=>simp [Tryz.f166,nameOk]
 | cons c l =>
  have hl1:¬ (l.length:Int)+1 < 1:=by omega
  by_cases h64:64 < l.length+1
  ·have h64':(64:Int) < (l.length:Int)+1:=by omega
   have hN:nameOk (c :: l) = false:=by simp [nameOk];omega
   rw [hN]
   simp [Tryz.f166,hl1,h64']
  ·have h64':¬ (64:Int) < (l.length:Int)+1:=by omega
   have hs:(c :: l).length < 1000000:=by simp;omega
   have hN:nameOk (c :: l) = (!digC c && (c :: l).all nameC):=by
    simp only [nameOk]
    rw [decide_eq_true (by simp;omega),Bool.true_and]
   rw [hN]
   by_cases hd:48≤c.toNat∧c.toNat≤57
   ·have hd1:(48:Int)≤(c.toNat:Int):=by omega
    have hd2:(c.toNat:Int)≤57:=by omega
    have hdc:digC c = true:=by simp [digC,hd.1,hd.2]
    rw [hdc]
    simp [Tryz.f166,hl1,h64',hd1,hd2]
   ·have hdc:digC c = false:=by simp [digC];omega
    rw [hdc]
    have hcond:(¬ (48:Int)≤(c.toNat:Int))∨((48:Int)≤(c.toNat:Int)∧¬ (c.toNat:Int)≤57):=by omega
    obtain ⟨r,hr⟩:∃ r,(c :: l).all nameC = r:=⟨_,rfl⟩
    rw [hr]
    obtain ⟨S,hS⟩:∃ S,S = c :: l:=⟨_,rfl⟩
    have hn:(l.length:Int)+1 = (S.length:Int):=by rw [hS];simp
    rw [← hS] at hr hs
    rcases hcond with h48 | ⟨h48,h57⟩
    ·have h48n:¬ 48≤c.toNat:=by omega
     simp [Tryz.f166,hl1,h64',h48]
     rw [hn,← hS]
     clear hS hn hN
     refine Run.loopThen (fun (k:Nat) e H'=>k≤S.length∧(S.drop k).all nameC = r∧look e 0 = some (.str S)∧look e 24 = some (.int .i64 S.length)∧look e 25 = some (.int .i64 k)∧H' = []) (fun k=>S.length - k) 0 ?_ ?_
     ·simpa using hr
     rintro k e H' ⟨hk,hR,k0,k24,k25,rfl⟩
     by_cases hlt:k < S.length
     ·have hlt':(k:Int) < (S.length:Int):=by omega
      have hw:IntKind.i64.wrap ((k:Int)+1) = ((k+1:Nat):Int):=by rw [wrap_i64] <;> omega
      have hat:S[k]? = some S[k]:=List.getElem?_eq_getElem hlt
      rw [List.drop_eq_getElem_cons hlt,List.all_cons] at hR
      generalize S[k] = x at *
      rcases nameC_cases x with ⟨hx,h1 | ⟨h1,h2⟩ | h1⟩ | ⟨hx,h1,h2,h3⟩
      ·rw [hx,Bool.true_and] at hR
       have g1:(65:Int)≤(x.toNat:Int):=by omega
       have g2:(x.toNat:Int)≤90:=by omega
       simp [k0,k24,k25,hlt',hat,hw,g1,g2]
       exact ⟨k+1,by omega,by omega,by simpa using hR,by omega⟩
      ·rw [hx,Bool.true_and] at hR
       have g1:(48:Int)≤(x.toNat:Int):=by omega
       have g2:(x.toNat:Int)≤57:=by omega
       have g3:¬ (65:Int)≤(x.toNat:Int):=by omega
       have g4:¬ 65≤x.toNat:=by omega
       simp [k0,k24,k25,hlt',hat,hw,g1,g2,g3]
       exact ⟨k+1,by omega,by omega,by simpa using hR,by omega⟩
      ·rw [hx,Bool.true_and] at hR
       have g1:(x.toNat:Int) = 95:=by omega
       simp [k0,k24,k25,hlt',hat,hw,h1]
       exact ⟨k+1,by omega,by omega,by simpa using hR,by omega⟩
      ·rw [hx,Bool.false_and] at hR
       subst hR
       have g0:¬ (x.toNat:Int) = 95:=by omega
       by_cases q1:65≤x.toNat
       ·have g1:(65:Int)≤(x.toNat:Int):=by omega
        have g2:¬ (x.toNat:Int)≤90:=by omega
        have g2':¬ x.toNat≤90:=by omega
        have g3:(48:Int)≤(x.toNat:Int):=by omega
        have g3':48≤x.toNat:=by omega
        have g4:¬ (x.toNat:Int)≤57:=by omega
        have g4':¬ x.toNat≤57:=by omega
        simp [k0,k24,k25,hlt',hat,g0,g1,g2,g3,g4]
       ·have g1:¬ (65:Int)≤(x.toNat:Int):=by omega
        by_cases q2:48≤x.toNat
        ·have g3:(48:Int)≤(x.toNat:Int):=by omega
         have g4:¬ (x.toNat:Int)≤57:=by omega
         have g4':¬ x.toNat≤57:=by omega
         simp [k0,k24,k25,hlt',hat,g0,g1,g3,g4]
        ·have g3:¬ (48:Int)≤(x.toNat:Int):=by omega
         simp [k0,k24,k25,hlt',hat,g0,g1,g3]
     ·have hlt':¬ (k:Int) < (S.length:Int):=by omega
      rw [List.drop_eq_nil_of_le (by omega)] at hR
      have:r = true:=hR.symm
      subst this
      simp [k0,k24,k25,hlt']
    ·have h48n:48≤c.toNat:=by omega
     have h57n:¬ c.toNat≤57:=by omega
     simp [Tryz.f166,hl1,h64',h48,h57]
     rw [hn,← hS]
     clear hS hn hN
     refine Run.loopThen (fun (k:Nat) e H'=>k≤S.length∧(S.drop k).all nameC = r∧look e 0 = some (.str S)∧look e 24 = some (.int .i64 S.length)∧look e 25 = some (.int .i64 k)∧H' = []) (fun k=>S.length - k) 0 ?_ ?_
     ·simpa using hr
     rintro k e H' ⟨hk,hR,k0,k24,k25,rfl⟩
     by_cases hlt:k < S.length
     ·have hlt':(k:Int) < (S.length:Int):=by omega
      have hw:IntKind.i64.wrap ((k:Int)+1) = ((k+1:Nat):Int):=by rw [wrap_i64] <;> omega
      have hat:S[k]? = some S[k]:=List.getElem?_eq_getElem hlt
      rw [List.drop_eq_getElem_cons hlt,List.all_cons] at hR
      generalize S[k] = x at *
      rcases nameC_cases x with ⟨hx,h1 | ⟨h1,h2⟩ | h1⟩ | ⟨hx,h1,h2,h3⟩
      ·rw [hx,Bool.true_and] at hR
       have g1:(65:Int)≤(x.toNat:Int):=by omega
       have g2:(x.toNat:Int)≤90:=by omega
       simp [k0,k24,k25,hlt',hat,hw,g1,g2]
       exact ⟨k+1,by omega,by omega,by simpa using hR,by omega⟩
      ·rw [hx,Bool.true_and] at hR
       have g1:(48:Int)≤(x.toNat:Int):=by omega
       have g2:(x.toNat:Int)≤57:=by omega
       have g3:¬ (65:Int)≤(x.toNat:Int):=by omega
       have g4:¬ 65≤x.toNat:=by omega
       simp [k0,k24,k25,hlt',hat,hw,g1,g2,g3]
       exact ⟨k+1,by omega,by omega,by simpa using hR,by omega⟩
      ·rw [hx,Bool.true_and] at hR
       have g1:(x.toNat:Int) = 95:=by omega
       simp [k0,k24,k25,hlt',hat,hw,h1]
       exact ⟨k+1,by omega,by omega,by simpa using hR,by omega⟩
      ·rw [hx,Bool.false_and] at hR
       subst hR
       have g0:¬ (x.toNat:Int) = 95:=by omega
       by_cases q1:65≤x.toNat
       ·have g1:(65:Int)≤(x.toNat:Int):=by omega
        have g2:¬ (x.toNat:Int)≤90:=by omega
        have g2':¬ x.toNat≤90:=by omega
        have g3:(48:Int)≤(x.toNat:Int):=by omega
        have g3':48≤x.toNat:=by omega
        have g4:¬ (x.toNat:Int)≤57:=by omega
        have g4':¬ x.toNat≤57:=by omega
        simp [k0,k24,k25,hlt',hat,g0,g1,g2,g3,g4]
       ·have g1:¬ (65:Int)≤(x.toNat:Int):=by omega
        by_cases q2:48≤x.toNat
        ·have g3:(48:Int)≤(x.toNat:Int):=by omega
         have g4:¬ (x.toNat:Int)≤57:=by omega
         have g4':¬ x.toNat≤57:=by omega
         simp [k0,k24,k25,hlt',hat,g0,g1,g3,g4]
        ·have g3:¬ (48:Int)≤(x.toNat:Int):=by omega
         simp [k0,k24,k25,hlt',hat,g0,g1,g3]
     ·have hlt':¬ (k:Int) < (S.length:Int):=by omega
      rw [List.drop_eq_nil_of_le (by omega)] at hR
      have:r = true:=hR.symm
      subst this
      simp [k0,k24,k25,hlt']
end Go.Ev.S
namespace Go.Ev.S
open Go Go.Proofs Go.Ev
theorem fright_evX [MaxL] [TxtC] (p:Pr):call cx 140 [.agg (Enc.cells p)] [] = some (.bool (prOk p),[]):=by
 have hn:=fname_evX p.name
 refine call_run Tryz.func140 rfl ⟨rfl,rfl⟩ ?_
 unfold prOk
 cases hq:nameOk p.name with
 | false =>
  rw [hq] at hn
  simp [Tryz.f140,hn,Pr.cells]
 | true =>
  rw [hq] at hn
  by_cases hv:p.value.length≤256
  ·have hv':(p.value.length:Int)≤256:=by omega
   simp [Tryz.f140,hn,Pr.cells,hv,hv']
  ·have hv':¬ (p.value.length:Int)≤256:=by omega
   simp [Tryz.f140,hn,Pr.cells,hv,hv']
theorem number_ev [MaxL] [TxtC] (v:Nat) (h:v < 18446744073709551616):call cx 97 [.int .u64 v] [] = some (.str (dec v),[]):=by
 have hf:=fu_ev v h
 refine call_run Tryz.func97 rfl ⟨rfl,rfl⟩ ?_
 simp [Tryz.f97,hf]

set_option maxHeartbeats 4000000 in
theorem wright_gap [MaxL] [TxtC] (it:It) (hg:it.gap = true):call cx 96 [.agg (Enc.cells it)] [] = some (.bool (gapOk it),[]):=by
 refine call_run Tryz.func96 rfl ⟨rfl,rfl⟩ ?_
 unfold gapOk
 have ht17:List.take 17 (ofBytes it.rc.boot.l ++ [(.vsl it.rc.fields.nil (encs it.rc.fields.l) it.rc.fields.l.length)]) = ofBytes it.rc.boot.l ++ [(.vsl it.rc.fields.nil (encs it.rc.fields.l) it.rc.fields.l.length)]:=List.take_of_length_le (by simp)

 rcases Classical.em (¬ (1≤it.fr)) with hfr | hfr
 ·simp [Tryz.f96,hg,hfr,ht17]
 replace hfr:=Classical.not_not.1 hfr
 rcases Classical.em (¬ (it.fr≤it.til)) with htil | htil
 ·simp [Tryz.f96,hg,hfr,htil,ht17]
 replace htil:=Classical.not_not.1 htil
 rcases Classical.em (¬ (it.rc.seq = 0)) with hseq | hseq
 ·simp [Tryz.f96,hg,hfr,htil,hseq,ht17]
 replace hseq:=Classical.not_not.1 hseq
 rcases Classical.em (¬ (it.rc.real = 0)) with hreal | hreal
 ·simp [Tryz.f96,hg,hfr,htil,hseq,hreal,ht17]
 replace hreal:=Classical.not_not.1 hreal
 rcases Classical.em (¬ (it.rc.mono = 0)) with hmono | hmono
 ·simp [Tryz.f96,hg,hfr,htil,hseq,hreal,hmono,ht17]
 replace hmono:=Classical.not_not.1 hmono
 have he:=cellsEq16 it.rc.boot ID.zero
 replace he:cellsEq [.i,.i,.i,.i,.i,.i,.i,.i,.i,.i,.i,.i,.i,.i,.i,.i] (ofBytes it.rc.boot.l) [.int .u8 0,.int .u8 0,.int .u8 0,.int .u8 0,.int .u8 0,.int .u8 0,.int .u8 0,.int .u8 0,.int .u8 0,.int .u8 0,.int .u8 0,.int .u8 0,.int .u8 0,.int .u8 0,.int .u8 0,.int .u8 0] = some (it.rc.boot == ID.zero):=he
 rcases Classical.em (¬ (it.rc.boot = ID.zero)) with hboot | hboot
 ·have hbe:(it.rc.boot == ID.zero) = false:=beq_eq_false_iff_ne.2 hboot
  rw [hbe] at he
  simp [Tryz.f96,hg,hfr,htil,hseq,hreal,hmono,hboot,he,ht17,List.drop_append]
 replace hboot:=Classical.not_not.1 hboot
 have hbe:(it.rc.boot == ID.zero) = true:=by rw [hboot];simp
 rw [hbe] at he
 have hbd:decide (it.rc.boot = ID.zero) = true:=decide_eq_true hboot
 clear hbe hboot
 by_cases hlen:it.rc.fields.l.length = 0
 ·have hlen':(it.rc.fields.l.length:Int) = 0:=by omega
  have hld:decide (it.rc.fields.l.length = 0) = true:=decide_eq_true hlen
  simp [-decide_eq_true_eq,Tryz.f96,hg,hfr,htil,hseq,hreal,hmono,hbd,he,hlen',ht17,List.drop_append]
  exact List.length_eq_zero_iff.1 hlen
 ·have hlen':¬ (it.rc.fields.l.length:Int) = 0:=by omega
  simp [Tryz.f96,hg,hfr,htil,hseq,hreal,hmono,hbd,hlen,he,ht17,List.drop_append]
set_option maxHeartbeats 4000000 in
theorem wright_recX [MaxL] [TxtC] (it:It) (hg:it.gap = false):call cx 96 [.agg (Enc.cells it)] [] = some (.bool (recOk it),[]):=by
 refine call_run Tryz.func96 rfl ⟨rfl,rfl⟩ ?_
 unfold recOk
 have ht17:List.take 17 (ofBytes it.rc.boot.l ++ [(.vsl it.rc.fields.nil (encs it.rc.fields.l) it.rc.fields.l.length)]) = ofBytes it.rc.boot.l ++ [(.vsl it.rc.fields.nil (encs it.rc.fields.l) it.rc.fields.l.length)]:=List.take_of_length_le (by simp)
 rcases Classical.em (¬ (it.fr = 0)) with hfr | hfr
 ·simp [Tryz.f96,hg,hfr,ht17]
 replace hfr:=Classical.not_not.1 hfr
 rcases Classical.em (¬ (it.til = 0)) with htil | htil
 ·simp [Tryz.f96,hg,hfr,htil,ht17]
 replace htil:=Classical.not_not.1 htil
 by_cases hseq:it.rc.seq = 0
 ·simp [Tryz.f96,hg,hfr,htil,hseq,ht17]
 by_cases hl1:it.rc.fields.l.length < 1
 ·have hl1':(it.rc.fields.l.length:Int) < 1:=by omega
  have hd:decide (1≤it.rc.fields.l.length) = false:=decide_eq_false (by omega)
  rw [hd]
  simp [Tryz.f96,hg,hfr,htil,hseq,hl1',ht17]
 have hl1':¬ (it.rc.fields.l.length:Int) < 1:=by omega
 have hd1:decide (1≤it.rc.fields.l.length) = true:=decide_eq_true (by omega)
 rw [hd1]
 by_cases hl2:16 < it.rc.fields.l.length
 ·have hl2':(16:Int) < (it.rc.fields.l.length:Int):=by omega
  have hd:decide (it.rc.fields.l.length≤16) = false:=decide_eq_false (by omega)
  rw [hd]
  simp [Tryz.f96,hg,hfr,htil,hseq,hl1',hl2',ht17]
 have hl2':¬ (16:Int) < (it.rc.fields.l.length:Int):=by omega
 have hd2:decide (it.rc.fields.l.length≤16) = true:=decide_eq_true (by omega)
 rw [hd2,decide_eq_true hfr,decide_eq_true htil,decide_eq_true hseq]
 simp only [Bool.true_and]
 obtain ⟨r,hr⟩:∃ r,it.rc.fields.l.all prOk = r:=⟨_,rfl⟩
 rw [hr]
 simp [Tryz.f96,hg,hfr,htil,hseq,hl1',hl2',ht17]
 generalize it.rc.fields = F at *
 refine Run.loopThen (fun (k:Nat) e H'=>k≤F.l.length∧(F.l.drop k).all prOk = r∧look e 73 = some (.vsl F.nil (encs F.l) F.l.length)∧look e 74 = some (.int .i64 F.l.length)∧look e 75 = some (.int .i64 k)∧(H' = [some (Enc.cells it),some (.int .u64 it.rc.seq :: .int .u64 it.rc.real :: .int .u64 it.rc.mono :: (ofBytes it.rc.boot.l ++ [(.vsl F.nil (encs F.l) F.l.length)]))]∨∃ p:Pr,H' = [some (Enc.cells p)])) (fun k=>F.l.length - k) 0 ?_ ?_
 ·simpa using hr
 rintro k e H' ⟨hk,hR,k73,k74,k75,hH⟩
 by_cases hlt:k < F.l.length
 ·have hlt':(k:Int) < (F.l.length:Int):=by omega
  have hw:IntKind.i64.wrap ((k:Int)+1) = ((k+1:Nat):Int):=by rw [wrap_i64] <;> omega
  rw [List.drop_eq_getElem_cons hlt,List.all_cons] at hR
  have hf:=fright_evX F.l[k]
  have hnn:=Sl.nn hlt
  cases hp:prOk F.l[k] with
  | true =>
   rw [hp] at hf
   rw [hp,Bool.true_and] at hR
   rcases hH with rfl | ⟨p,rfl⟩
   ·simp [k73,k74,k75,hlt,hlt',hw,hnn,hf]
    exact ⟨k+1,by omega,by omega,by simpa using hR,by omega,_,rfl⟩
   ·simp [k73,k74,k75,hlt,hlt',hw,hnn,hf]
    exact ⟨k+1,by omega,by omega,by simpa using hR,by omega,_,rfl⟩
  | false =>
   rw [hp] at hf
   rw [hp,Bool.false_and] at hR
   subst hR
   rcases hH with rfl | ⟨p,rfl⟩
   ·simp [k73,k74,k75,hlt,hlt',hnn,hf]
   ·simp [k73,k74,k75,hlt,hlt',hnn,hf]
 ·have hlt':¬ (k:Int) < (F.l.length:Int):=by omega
  rw [List.drop_eq_nil_of_le (by omega)] at hR
  have:r = true:=hR.symm
  subst this
  rcases hH with rfl | ⟨p,rfl⟩
  ·simp [k73,k74,k75,hlt']
  ·simp [k73,k74,k75,hlt']

theorem wright_evX [MaxL] [TxtC] (it:It):call cx 96 [.agg (Enc.cells it)] [] = some (.bool (itOk it),[]):=by
 unfold itOk
 cases hg:it.gap with
 | true=>rw [if_pos rfl];exact wright_gap it hg
 | false=>rw [if_neg (by decide)];exact wright_recX it hg
theorem wright_ev [MaxL] [TxtC] (it:It) (_:∀ p∈it.rc.fields.l,PrB p) (_:it.rc.fields.l.length < 1000000):call cx 96 [.agg (Enc.cells it)] [] = some (.bool (itOk it),[]):=wright_evX it
end Go.Ev.S
namespace Go.Ev.S
open Go Go.Proofs Go.Ev
set_option maxHeartbeats 2000000 in
theorem pair_ev [MaxL] [TxtC] (p:Pr) (hb:PrB p):call cx 102 [.agg (Enc.cells p)] [] = some (.str (pairL p),[]):=by
 obtain ⟨h1,h2⟩:=hb
 have hp:=plain_ev p.value h2
 refine call_run Tryz.func102 rfl ⟨rfl,rfl⟩ ?_
 unfold pairL
 cases hv:plainV p.value with
 | true =>
  rw [hv] at hp
  have x1:p.name.length+1≤4611686018427387904:=by omega
  have x2:p.name.length+1+p.value.length≤4611686018427387904:=by omega
  have x3:p.name.length+(p.value.length+1)≤4611686018427387904:=by omega
  have x4:p.name.length+(p.value.length+1)+1≤4611686018427387904:=by omega
  have x5:p.name.length+(p.value.length+1+1)≤4611686018427387904:=by omega
  simp [Tryz.f102,hp,Pr.cells,x1,x2,x4]
 | false =>
  rw [hv] at hp
  obtain ⟨d,H,hB,hc⟩:=leadd_ev (Sl.none (α:=UInt8)) 8 p.value.length (by show (0:Nat)≤_;omega)
  have hla:leAdd (Sl.none (α:=UInt8)).l 8 p.value.length = leB 8 p.value.length:=rfl
  rw [hla] at hB
  have hl8:(leB 8 p.value.length).length = 8:=by simp
  generalize leB 8 p.value.length = L at *
  replace hc:call cx 63 [.vsl true [] 0,.int .i64 8,.int .u64 (p.value.length:Nat)] [] = some (d,H):=hc
  rcases hB with ⟨_,rfl,_⟩ | ⟨rfl,rfl⟩
  ·simp at hl8
  have hw:IntKind.u64.wrap (p.value.length:Int) = (p.value.length:Int):=by rw [wrap_u64] <;> omega
  have x1:p.name.length+1≤4611686018427387904:=by omega
  have x2:p.name.length+1+8≤4611686018427387904:=by omega
  have x3:p.name.length+(8+1)≤4611686018427387904:=by omega
  have x4:p.name.length+(8+1)+p.value.length≤4611686018427387904:=by omega
  have x5:p.name.length+(8+1+p.value.length)≤4611686018427387904:=by omega
  have x6:p.name.length+(p.value.length+(8+1))≤4611686018427387904:=by omega
  have x7:p.name.length+(8+p.value.length+1)≤4611686018427387903:=by omega
  simp [Tryz.f102,hp,Pr.cells,hc,hw,hl8,x1,x2,x4,x7]
end Go.Ev.S
namespace Go.Ev.S
open Go Go.Proofs Go.Ev
def nameG:List UInt8→Nat→Bool
 | [],_=>true
 | c :: l,k=>(nameC c && (decide (0 < k) || !digC c)) && nameG l (k+1)
theorem nameG_pos:∀ (l:List UInt8) (k:Nat),0 < k→nameG l k = l.all nameC
 | [],_,_=>rfl
 | c :: l,k,h=>by rw [nameG,nameG_pos l (k+1) (by omega)];simp [h]
theorem nameOk_G (s:List UInt8):nameOk s = (nameG s 0 && (decide (1≤s.length) && decide (s.length≤64))):=by
 cases s with
 | nil=>rfl
 | cons c l =>
  rw [nameOk,nameG,nameG_pos l 1 (by omega),List.all_cons]
  simp
  cases nameC c <;> cases digC c <;> cases l.all nameC <;> simp
set_option maxHeartbeats 4000000 in
theorem rname_evX [MaxL] [TxtC] (s:List UInt8) (_:s.length≤9223372036854775807):call cx 161 [.str s] [] = some (.bool (nameOk s),[]):=by
 refine call_run Tryz.func161 rfl ⟨rfl,rfl⟩ ?_
 rw [nameOk_G]
 obtain ⟨r,hr⟩:∃ r,(nameG s 0 && (decide (1≤s.length) && decide (s.length≤64))) = r:=⟨_,rfl⟩
 rw [hr]
 simp [Tryz.f161]
 refine Run.loopThen (fun (k:Nat) e H'=>k≤s.length∧(nameG (s.drop k) k && (decide (1≤s.length) && decide (s.length≤64))) = r∧look e 0 = some (.str s)∧look e 3 = some (.int .i64 k)∧H' = []) (fun k=>s.length - k) 0 ?_ ?_
 ·simpa using hr
 rintro k e H' ⟨hk,hR,k0,k3,rfl⟩
 by_cases hlt:k < s.length
 ·have hlt':(k:Int) < (s.length:Int):=by omega
  have hw:IntKind.i64.wrap ((k:Int)+1) = ((k+1:Nat):Int):=by rw [wrap_i64] <;> omega
  have hat:s[k]? = some s[k]:=List.getElem?_eq_getElem hlt
  rw [List.drop_eq_getElem_cons hlt,nameG] at hR
  generalize s[k] = c at *
  have hnx:(nameC c && (decide (0 < k) || !digC c)) = true→∃ j:Nat,s.length - j < s.length - k∧j≤s.length∧(nameG (s.drop j) j && (decide (1≤s.length) && decide (s.length≤64))) = r∧(j:Int) = (k:Int)+1:=fun h=>⟨k+1,by omega,by omega,by rw [h,Bool.true_and] at hR;exact hR,by omega⟩
  have hno:(nameC c && (decide (0 < k) || !digC c)) = false→r = false:=fun h=>by rw [h,Bool.false_and,Bool.false_and] at hR;exact hR.symm
  cases hb:(nameC c && (decide (0 < k) || !digC c)) with
  | true =>
   obtain ⟨j,j1,j2,j3,j4⟩:=hnx hb
   simp [nameC,digC] at hb
   by_cases h1:(48:Int)≤(c.toNat:Int) <;> by_cases h2:(c.toNat:Int)≤57 <;> rcases (show ((k = 0) = True∧(0 < k) = False)∨((k = 0) = False∧(0 < k) = True) by by_cases hk0:k = 0;exact .inl ⟨eq_true hk0,eq_false (by omega)⟩;exact .inr ⟨eq_false hk0,eq_true (by omega)⟩) with ⟨h3,h3'⟩ | ⟨h3,h3'⟩ <;> by_cases h4:(65:Int)≤(c.toNat:Int) <;> by_cases h5:(c.toNat:Int)≤90 <;> by_cases h6:(c.toNat:Int) = 95 <;> try (exfalso;simp at h3;omega)
   all_goals simp [k0,k3,hlt',hat,hw,h1,h2,h3',h4,h5,h6]
   all_goals exact ⟨j,j1,j2,j3,by omega⟩
  | false =>
   have:=hno hb
   subst this
   simp [nameC,digC] at hb
   by_cases h1:(48:Int)≤(c.toNat:Int) <;> by_cases h2:(c.toNat:Int)≤57 <;> rcases (show ((k = 0) = True∧(0 < k) = False)∨((k = 0) = False∧(0 < k) = True) by by_cases hk0:k = 0;exact .inl ⟨eq_true hk0,eq_false (by omega)⟩;exact .inr ⟨eq_false hk0,eq_true (by omega)⟩) with ⟨h3,h3'⟩ | ⟨h3,h3'⟩ <;> by_cases h4:(65:Int)≤(c.toNat:Int) <;> by_cases h5:(c.toNat:Int)≤90 <;> by_cases h6:(c.toNat:Int) = 95 <;> try (exfalso;simp at h3;omega)
   all_goals simp [k0,k3,hlt',hat,h1,h2,h3',h4,h5,h6]
 ·have hlt':¬ (k:Int) < (s.length:Int):=by omega
  rw [List.drop_eq_nil_of_le (by omega),nameG,Bool.true_and] at hR
  by_cases h1:1≤s.length
  ·have h1':(1:Int)≤(s.length:Int):=by omega
   by_cases h2:s.length≤64
   ·have h2':(s.length:Int)≤64:=by omega
    simp only [h1,h2,decide_true,Bool.and_self] at hR
    subst hR
    simp [k0,k3,hlt',h1',h2']
   ·have h2':¬ (s.length:Int)≤64:=by omega
    simp only [h1,h2,decide_true,decide_false,Bool.and_false] at hR
    subst hR
    simp [k0,k3,hlt',h1',h2']
  ·have h1':¬ (1:Int)≤(s.length:Int):=by omega
   simp only [h1,decide_false,Bool.false_and] at hR
   subst hR
   simp [k0,k3,hlt',h1']
theorem rname_ev [MaxL] [TxtC] (s:List UInt8) (hs:s.length < 1000000):call cx 161 [.str s] [] = some (.bool (nameOk s),[]):=rname_evX s (by omega)
end Go.Ev.S
namespace Go.Ev.S
open Go Go.Proofs Go.Ev
end Go.Ev.S
namespace Go.Ev
open Go Go.Proofs Go.RowKit
section
variable {X:Cx} {ok:Nat→Prop} {w w':World} {ι:Iota} {H H':Heap}
theorem cell_same {a:Addr} {j:Nat} {v:Value} (hk:w'.heap[a.block]? = w.heap[a.block]?) (h:w.cell? (a.add j) = some v):w'.cell? (a.add j) = some v:=by
 rw [World.cell?_of_block (w:=w)]
 ·exact h
 ·rw [add_block]
  exact hk
theorem Rep.same {d:D} {v:Value} (h:Rep ok w ι H d v) (hk:∀ b,ok b→w'.heap[b]? = w.heap[b]?):Rep ok w' ι H d v:=by
 induction h with
 | bool b=>exact .bool b
 | int k n=>exact .int k n
 | str s=>exact .str s
 | nilp=>exact .nilp
 | nilf=>exact .nilf
 | nili=>exact .nili
 | raw v=>exact .raw v
 | agg hl hc h ih=>exact .agg hl hc fun j d hj=>ih j d hj
 | tup hl h ih=>exact .tup hl fun j d hj=>ih j d hj
 | vptr a f ha hc hr h ih=>exact .vptr a f ha hc (fun j d hj=>cell_same (hk _ (ha d (mem_of_get? hj))) (hr j d hj)) fun j d hj=>ih j d hj
 | optr a hi h=>exact .optr a hi h
 | vnil=>exact .vnil
 | vsl a f ha hc hr h hlc ih=>exact .vsl a f ha hc (fun j d hj=>cell_same (hk _ (ha d (mem_of_get? hj))) (hr j d hj)) (fun j d hj=>ih j d hj) hlc
 | osl a hi h hlc=>exact .osl a hi h hlc
 | fn hl h ih=>exact .fn hl fun j d hj=>ih j d hj
 | iface h ih=>exact .iface ih
theorem sim_same (hs:Sim X ok w ι H) (hsz:w.heap.size≤w'.heap.size) (hk:∀ b,ok b→w'.heap[b]? = w.heap[b]?) (hn:∀ i ds b s,hget H i = some ds→ι i = some (b,s)→w'.heap[b]? = w.heap[b]?):Sim X ok w' ι H:=by
 refine ⟨fun b h=>Nat.lt_of_lt_of_le (hs.okS b h) hsz,fun g cs hg=>(hs.glob g cs hg).same hk,hs.inj,fun i ds hd=>?_⟩
 obtain ⟨b,arr,e,fr,q1,q2,q3,q4,q5,q6,q7,q8⟩:=hs.blk i ds hd
 exact ⟨b,arr,e,fr,q1,q2,by rw [hn i ds b _ hd q1];exact q3,q4,q5,q6,q7,fun j d hj=>(q8 j d hj).same hk⟩
theorem env_same {e:Env} {ts:Array Value} (he:EnvRep ok w ι H e ts) (hk:∀ b,ok b→w'.heap[b]? = w.heap[b]?):EnvRep ok w' ι H e ts:=fun t d ht=>⟨(he t d ht).1,(he t d ht).2.same hk⟩
theorem evOps_app {F:CallF} (hF:SoundF X F) {nt:Nat} {drw:Bool} {ops:Array Oper} {Q:Exit→Act→World→Prop} {r:List Oper}:∀ {l:List Oper} {e e':Env} {H H':Heap} {ok:Nat→Prop} {w:World} {ι:Iota} {a:Act},evOps X F nt drw ops l e H = some (e',H') →
  Sim X ok w ι H→EnvRep ok w ι H e a.tmps→nt≤a.tmps.size→(∀ a' w',Out X H.length ok w ι H a e' H' a' w'→wpList X.P ops Q r a' w')→wpList X.P ops Q (l ++ r) a w
 | [],e,e',H,H',ok,w,ι,a,h,hs,he,hn,hQ=>by
  simp only [evOps,Option.some.injEq,Prod.mk.injEq] at h
  obtain ⟨rfl,rfl⟩:=h
  exact hQ a w ⟨rfl,rfl,ι,ok,hs,he,.refl _ (Nat.le_refl _)⟩
 | o :: l,e,e',H,H',ok,w,ι,a,h,hs,he,hn,hQ=>by
  simp only [evOps] at h
  split at h
  ·rename_i hdst hg
   split at h
   ·rename_i d H1 ho
    have hw:=wanted_of_guard he hg
    simp only [List.cons_append,wpList,hw,if_true]
    refine .inl ?_
    unfold Oper.wp
    refine Goes.upon ((opW_goes hF hs he ho).mono fun v w1 hp=>?_)
    obtain ⟨ι1,ok1,k1,k2,k3⟩:=hp
    obtain ⟨s1,s2⟩:=put_size a o.dst v
    refine evOps_app hF h k1 (put_env (he.evol' hs k3) k2 hn hdst) (by omega) fun a2 w2 hout=>hQ a2 w2 ?_
    obtain ⟨t1,t2,ι2,ok2,u1,u2,u3⟩:=hout
    exact ⟨by omega,by rw [t2,s2],ι2,ok2,u1,u2,k3.trans (u3.mono k3.nle.2)⟩
   ·cases h
  ·rename_i hdst hg
   have hw:=wanted_of_guard he hg
   simp only [List.cons_append,wpList,hw,Bool.false_eq_true,if_false]
   obtain ⟨s1,s2⟩:=put_size a o.dst undef
   refine evOps_app hF h hs (put_env he undef_rep hn hdst) (by omega) fun a2 w2 hout=>hQ a2 w2 ?_
   obtain ⟨t1,t2,rest⟩:=hout
   exact ⟨by omega,by rw [t2,s2],rest⟩
  ·cases h
theorem wp_callOp {P:Program} {ops:Array Oper} {Q:Exit→Act→World→Prop} {r:List Oper} {o:Oper} {c:Call} {f:Nat} {a:Act} (hg:o.guard = none) (ho:o.op = .call c) (hc:c.callee = .value (.func f))
  (h:Goes P (callFunc f (c.args.toList.map a.eval).toArray) w fun v w1=>wpList P ops Q r (a.put o.dst v) w1):wpList P ops Q (o :: r) a w:=by
 have hw:Region.wanted o (yielded ops a.tmps) = true:=by unfold Region.wanted;rw [hg]
 simp only [wpList,hw,if_true]
 refine .inl ?_
 unfold Oper.wp
 have e:execOp a.eval o = callFunc f (c.args.toList.map a.eval).toArray:=by
  simp only [execOp,ho,resolve,hc,Act.eval,Deferred.ofValue]
  simp only [pure_bind,invoke]
  congr 1
  apply Array.ext'
  simp
 rw [e]
 exact Goes.upon h
theorem code_sound (hG:Good X) {f nt n0:Nat} {c:Code} {e e':Env} {ex:Ex} {a:Act} (h:code X f nt n0 c e H = some (ex,e',H')) (hok:okCode X f c = true) (hn:n0≤H.length) (hs:Sim X ok w ι H) (he:EnvRep ok w ι H e a.tmps) (ht:nt≤a.tmps.size) :
  c.wp X.P (CQ X n0 ok w ι H a ex e' H') a w:=by
 obtain ⟨n,hn'⟩:=code_some.1 h
 exact (sound hG n).2 f nt n0 c e e' H H' ex ok w ι a hn' hok hn hs he ht
end
end Go.Ev
namespace Go.Ev
open Go Go.Proofs Go.RowKit Go.Shelf
section
variable {P:Program} {ρ:Ren}
def FreshAt (w:World) (v v':Value):Prop:= ∀ k,v'.ownBlock = some k→v.ownBlock = some k∨w.heap.size≤k
theorem append_fresh (w:World) (base:Nat) (t u ty e:TypeId) (i:TypeInfo) (ht:P.underlying t = some (.slice e)) (hu:P.underlying u = some .string) (hi:P.info? e = some i) (hz:i.zero = some (.int .u8 0))
  (hsize:i.size = 1) (hby:i.bytes = 1) (v:Value) (n:Nat) (xs:List Value) (hown:w.ownsRowF base e 1 v n xs) (s:ByteArray)
  (h63:n+s.size≤maxLen) (hbytes:n+s.size≤140737488355328) (hbase:base≤w.heap.size) :
  ∃ v' w',(Builtin.append_ #[t,u] ty #[v,.string s]).run P w = .ok v' w'∧w'.ownsRowF base e 1 v' (n+s.size) (xs ++ Lib.strCells s)∧w.grownBy w' v.ownBlock∧FreshAt w v v':=by
 obtain ⟨v',w',h1,h2,h3,-⟩:=Lib.run_append_own_stringF (P:=P) w base t u ty e i ht hu hi hz hsize hby v n xs hown s h63 hbytes hbase
 refine ⟨v',w',h1,h2,h3,?_⟩
 rcases hown.2 with ⟨rfl,rfl⟩ | ⟨g,cap,cur,fz,rfl,hbg,hg,hfz,hnc,hcm,hcs,htake⟩
 ·obtain ⟨v1,w1,q1,q2,-,-⟩:=Lib.run_append_own_stringF (P:=P) w w.heap.size t u ty e i ht hu hi hz hsize hby (.slice none 0 0) 0 xs ⟨hown.1,.inl ⟨rfl,rfl⟩⟩ s h63 hbytes (Nat.le_refl _)
  rw [h1] at q1
  injection q1 with e1 e2
  subst e1;subst e2
  intro k hk
  rcases q2.2 with ⟨rfl,_⟩ | ⟨g,cap,cur,fz,rfl,hbg,_⟩
  ·simp [Value.ownBlock] at hk
  ·simp only [Value.ownBlock,Option.some.injEq] at hk
   exact .inr (by omega)
 ·have hxl:xs.length = n:=by simpa using hown.1
  by_cases hroom:n+s.size≤cap
  ·have hcs':cur.size = cap:=by simpa using hcs
   have hr:=Lib.run_append_room_stringF (P:=P) w t u ty e i ht hu hi hsize g n cap cur fz hg (by simpa using hfz) s hroom (by omega)
   rw [h1] at hr
   injection hr with e1 e2
   subst e1
   intro k hk
   exact .inl hk
  ·have holds:∀ j u,xs[j]? = some u→w.cell? ((⟨g,0,none⟩:Addr).add j) = some u:=hown.cells (g:=g) rfl
   have hr:=Lib.run_append_grow_string (P:=P) w t u ty e i (.int .u8 0) ht hu hi hz ⟨g,0,none⟩ n cap xs (by rw [hsize];simpa using hxl) holds s (by omega) (by simp only [maxLen] at h63;omega) (by rw [hby];exact growslice_fits (by omega) (by omega))
   rw [h1] at hr
   injection hr with e1 e2
   subst e1
   intro k hk
   simp only [Value.ownBlock,Option.some.injEq] at hk
   exact .inr (by omega)
theorem wpList_append_x {ops:Array Oper} {rest:List Oper} {o:Oper} {a:Act} {Q:Exit→Act→World→Prop} {w:World} (hgd:o.guard = none) (sl x:Operand) (t u:TypeId)
  (ho:o.op = .call { callee:=.builtin .append,args:= #[sl,x],argTypes:= #[t,u] })
  (base:Nat) (e:TypeId) (i:TypeInfo) (ht:P.underlying t = some (.slice e)) (hu:P.underlying u = some .string) (hi:P.info? e = some i) (hz:i.zero = some (.int .u8 0))
  (hsize:i.size = 1) (hby:i.bytes = 1)
  (v:Value) (n:Nat) (xs:List Value) (hs:a.eval sl = v) (hown:w.ownsRowF base e 1 v n xs) (s:ByteArray) (hx:a.eval x = .string s)
  (h63:n+s.size≤maxLen) (hbytes:n+s.size≤140737488355328) (hbase:base≤w.heap.size)
  (h:∀ v' w',w'.ownsRowF base e 1 v' (n+s.size) (xs ++ Lib.strCells s)→w.grownBy w' v.ownBlock→FreshAt w v v'→wpList P ops Q rest (a.put o.dst v') w'):wpList P ops Q (o :: rest) a w:=by
 refine wpList_plain hgd fun K hK=>?_
 obtain ⟨v',w',hr,h2,h3,h4⟩:=append_fresh (P:=P) w base t u o.type e i ht hu hi hz hsize hby v n xs hown s h63 hbytes hbase
 unfold Oper.wp execOp
 simp only [ho,resolve,invoke,builtin,Sem.run_bind,Sem.run_pure,Result.andThen_ok,List.map_toArray,List.map_cons,List.map_nil,hs,hx,hr]
 exact hK _ _ (h v' w' h2 h3 h4)
theorem copyCheck_x (L:Lays.n240 P ρ) (X:Builder.X72 P ρ) (B b:Nat) (bs:List Value) (w:World) (h:Lib.IsBuilderF (ρ.t 72) (ρ.t 5) B b bs w) :
  Calls P (ρ.f 240) #[.pointer (some ⟨b,0,none⟩)] w fun e w'=>e = .returned (.tuple #[])∧(Lib.BuilderAtF (ρ.t 72) (ρ.t 5) B b (.pointer (some ⟨b,0,none⟩)) bs w'∧Below B w w'∧w'.heap.size = w.heap.size∧(∀ k,k≠b→w'.heap[k]? = w.heap[k]?)∧w'.cell? ⟨b,1,none⟩ = w.cell? ⟨b,1,none⟩):=by
 rcases h with h | h
 ·refine (Any.Builder_copyCheck_fresh L X b w h.cell0 h.shape h.frozen0).mono ?_
  rintro e w' ⟨rfl,rfl⟩
  refine ⟨rfl,h.used _,(Below.refl B w).setCell (p:=⟨b,0,none⟩) h.1 _,by simp [World.setCell],fun k hk=>Below.heap_setCell _ _ _ _ (fun e=>hk e),?_⟩
  obtain ⟨_,v,hb,_⟩:=h
  simp [World.cell?,World.setCell,Array.getElem?_modify,hb]
 ·refine (Any.Builder_copyCheck_used L X b w h.cell0).mono ?_
  rintro e w' ⟨rfl,rfl⟩
  exact ⟨rfl,h,Below.refl B _,rfl,fun _ _=>rfl,rfl⟩
set_option maxHeartbeats 2000000 in
set_option maxRecDepth 100000 in
theorem writeString_x (L:Lays.n166 P ρ) (X:Builder.Extra P ρ) (B b:Nat) (bs:List Value) (s:ByteArray) (w:World) (h:Lib.IsBuilderF (ρ.t 72) (ρ.t 5) B b bs w) (hlen:bs.length+s.size≤140737488355328) (hBw:B≤w.heap.size) :
  Calls P (ρ.f 166) #[.pointer (some ⟨b,0,none⟩),.string s] w fun e w'=>e = .returned (.tuple #[.int .i64 s.size,.nilIface])∧(Lib.BuilderAtF (ρ.t 72) (ρ.t 5) B b (.pointer (some ⟨b,0,none⟩)) (bs ++ Lib.strCells s) w'∧Below B w w' ∧
   (∀ k,k < w.heap.size→k≠b→(∀ v,w.cell? ⟨b,1,none⟩ = some v→v.ownBlock≠some k)→w'.heap[k]? = w.heap[k]?) ∧
   ∀ v v',w.cell? ⟨b,1,none⟩ = some v→w'.cell? ⟨b,1,none⟩ = some v'→FreshAt w v v'):=by
 obtain ⟨i0,hi,hz0,hz1,hz2⟩:=info_parts X.infoByte
 have mixed:=L.mixed
 have t72:=L.t72;have a72:=L.a72;have z72:=L.z72;have v72:=L.v72;have u72:=run_underlying L.t72
 have t70:=L.t70;have a70:=L.a70;have z70:=L.z70;have v70:=L.v70;have u70:=run_underlying L.t70
 have t37:=L.t37;have a37:=L.a37;have z37:=L.z37;have v37:=L.v37;have u37:=run_underlying L.t37
 have t3:=L.t3;have a3:=L.a3;have z3:=L.z3;have v3:=L.v3;have u3:=run_underlying L.t3
 have t9:=L.t9;have a9:=L.a9;have z9:=L.z9;have v9:=L.v9;have u9:=run_underlying L.t9
 have t4:=L.t4;have a4:=L.a4;have z4:=L.z4;have v4:=L.v4;have u4:=run_underlying L.t4
 have t164:=L.t164;have a164:=L.a164;have z164:=L.z164;have v164:=L.v164;have u164:=run_underlying L.t164
 have t5:=X.t5;have a5:=X.a5;have z5:=X.z5;have v5:=X.v5;have u5:=run_underlying X.t5
 have e240:∀ args w,(callFunc (ρ.f 240) args).run P w = .ok (.enter (ρ.f 240) args) w:=enters_of L.f240 (by kernel_rfl) rfl
 go_enter L.f166,Body.n166_ntmps ρ
 go_wp2_with (go_at_fn (ρ.f 240);refine (copyCheck_x { L with } X.toX72 B b bs _ h).mono ?_)
 rintro e w1 ⟨rfl,h1,hb1,hz1',hk1,hc1⟩
 obtain ⟨hB,v,hbk,hown,hne⟩:=h1
 have c0:w1.cell? ⟨b,0,none⟩ = some (.pointer (some ⟨b,0,none⟩)):=by rw [Lib.cell_of_heap hbk];rfl
 have c1:w1.cell? ⟨b,1,none⟩ = some v:=by rw [Lib.cell_of_heap hbk];rfl
 have c1':=hc1.symm.trans c1
 clear hc1
 go_wp2_with (at_builtin;refine wpList_append_x rfl _ _ (ρ.t 37) (ρ.t 9) rfl B (ρ.t 5) i0 L.t37 L.t9 hi hz0 hz1 hz2 _ _ _ rfl hown s rfl ?c3 ?c4 ?c5 ?_)
 case c3=>unfold maxLen;omega
 case c4=>omega
 case c5=>have:=hb1.size;omega
 intro v' w2 hown' hgrow hfresh
 have hlt:b < w1.heap.size:=by
  rcases Nat.lt_or_ge b w1.heap.size with h' | h'
  ·exact h'
  ·simp [Array.getElem?_eq_none h'] at hbk
 have hb2:w2.heap[b]? = some (.cells #[.pointer (some ⟨b,0,none⟩),v] (ρ.t 72) (0,0)):=by
  rw [hgrow.block b hlt (fun e=>hne e.symm)]
  exact hbk
 have d0:w2.cell? ⟨b,0,none⟩ = some (.pointer (some ⟨b,0,none⟩)):=by rw [Lib.cell_of_heap hb2];rfl
 have d1:w2.cell? ⟨b,1,none⟩ = some v:=by rw [Lib.cell_of_heap hb2];rfl
 have f1:w2.frozen? ⟨b,1,none⟩ = false:=Lib.frozen_of_heap hb2 1
 obtain ⟨ao,n',cap,rfl⟩:∃ ao n' cap,v' = .slice ao n' cap:=by
  rcases hown'.2 with ⟨hv,_⟩ | ⟨g,cap,cur,fz,hv,_⟩
  ·exact ⟨_,_,_,hv⟩
  ·exact ⟨_,_,_,hv⟩
 go_wp2
 go_ret2
 refine ⟨rfl,?_,?_,?_,?_⟩
 ·exact Lib.BuilderAtF.put (T:=(ρ.t 72)) (e:=(ρ.t 5)) hB hb2 (bs':=bs ++ Lib.strCells s) (by simpa [Lib.strCells_length] using hown') X.neB5
 ·exact (hb1.grown hgrow (by have:=hb1.size;omega) (fun k hk=>(hown.lt k hk).1)).setCell (p:=⟨b,1,none⟩) hB _
 ·intro k hk hkb hkv
  rw [Below.heap_setCell _ _ _ _ (fun e=>hkb e),hgrow.block k (by omega) (fun e=>hkv v c1' e.symm),hk1 k hkb]
 ·intro v0 v1 h0 h1 k hk
  have e0:v0 = v:=Option.some.inj (h0.symm.trans c1')
  subst e0
  have e1:(w2.setCell ⟨b,1,none⟩ (.slice ao n' cap)).cell? ⟨b,1,none⟩ = some (.slice ao n' cap):=by
   simp [World.cell?,World.setCell,Array.getElem?_modify,hb2]
  have e2:v1 = .slice ao n' cap:=Option.some.inj (h1.symm.trans e1)
  subst e2
  have:=hfresh k hk
  rw [hz1'] at this
  exact this
end
end Go.Ev
namespace Go.Ev
open Go Go.Proofs Go.RowKit Go.Shelf
def Cov (w:World) (b k:Nat):Prop:=k = b∨∃ v,w.cell? ⟨b,1,none⟩ = some v∧v.ownBlock = some k
section
variable {T e:TypeId} {B b:Nat} {bs:List Value} {w w':World}
theorem bld_open (h:Lib.IsBuilderF T e B b bs w):∃ p v,w.heap[b]? = some (.cells #[p,v] T (0,0))∧w.ownsRowF B e 1 v bs.length bs∧v.ownBlock≠some b∧w.cell? ⟨b,1,none⟩ = some v∧B≤b:=by
 rcases h with ⟨hB,v,hb,hown,hne⟩ | ⟨hB,v,hb,hown,hne⟩
 ·exact ⟨_,v,hb,hown,hne,by rw [Lib.cell_of_heap hb];rfl,hB⟩
 ·exact ⟨_,v,hb,hown,hne,by rw [Lib.cell_of_heap hb];rfl,hB⟩
theorem lt_of_heap {k:Nat} {o:Obj} (h:w.heap[k]? = some o):k < w.heap.size:=by
 rcases Nat.lt_or_ge k w.heap.size with h' | h'
 ·exact h'
 ·rw [Array.getElem?_eq_none h'] at h;cases h
theorem cov_lt (h:Lib.IsBuilderF T e B b bs w) {k:Nat} (hk:Cov w b k):k < w.heap.size∧B≤k:=by
 obtain ⟨p,v,h1,h2,h3,h4,h5⟩:=bld_open h
 rcases hk with rfl | ⟨v',hv,hk⟩
 ·exact ⟨lt_of_heap h1,h5⟩
 ·obtain rfl:=Option.some.inj (hv.symm.trans h4)
  rcases h2.2 with ⟨rfl,_⟩ | ⟨g,cap,cur,fz,rfl,hbg,hg,_⟩
  ·simp [Value.ownBlock] at hk
  ·simp only [Value.ownBlock,Option.some.injEq] at hk
   subst hk
   exact ⟨lt_of_heap hg,hbg⟩
theorem owns_same {v:Value} {n:Nat} {xs:List Value} (h:w.ownsRowF B e 1 v n xs) (hk:∀ k,v.ownBlock = some k→w'.heap[k]? = w.heap[k]?):w'.ownsRowF B e 1 v n xs:=by
 refine ⟨h.1,?_⟩
 rcases h.2 with h | ⟨g,cap,cur,fz,rfl,hbg,hg,rest⟩
 ·exact .inl h
 ·exact .inr ⟨g,cap,cur,fz,rfl,hbg,by rw [hk g rfl];exact hg,rest⟩
theorem bld_same (h:Lib.IsBuilderF T e B b bs w) (hk:∀ k,Cov w b k→w'.heap[k]? = w.heap[k]?):Lib.IsBuilderF T e B b bs w'∧w'.cell? ⟨b,1,none⟩ = w.cell? ⟨b,1,none⟩:=by
 have hb:=hk b (.inl rfl)
 have hc:w'.cell? ⟨b,1,none⟩ = w.cell? ⟨b,1,none⟩:=World.cell?_of_block hb
 refine ⟨?_,hc⟩
 have hrow:∀ v,w.cell? ⟨b,1,none⟩ = some v→∀ k,v.ownBlock = some k→w'.heap[k]? = w.heap[k]?:=fun v hv k hvk=>hk k (.inr ⟨v,hv,hvk⟩)
 rcases h with ⟨hB,v,h1,hown,hne⟩ | ⟨hB,v,h1,hown,hne⟩
 ·exact .inl ⟨hB,v,by rw [hb];exact h1,owns_same hown (hrow v (by rw [Lib.cell_of_heap h1];rfl)),hne⟩
 ·exact .inr ⟨hB,v,by rw [hb];exact h1,owns_same hown (hrow v (by rw [Lib.cell_of_heap h1];rfl)),hne⟩
end
structure HSt (X:Cx) (ok0:Nat→Prop) (w0:World) (T e:TypeId) (b:Nat) (l:List UInt8) (ev:Env) (H:Heap) (a:Act) (w:World):Prop where
 st:∃ ok ι,Sim X ok w ι H∧EnvRep ok w ι H ev a.tmps∧Evol 0 ok0 w0 iota0 [] ok w ι H∧∀ k,Cov w b k→¬ ok k∧∀ i ds s,hget H i = some ds→ι i≠some (k,s)
 lo:w0.heap.size≤b
 bl:Lib.IsBuilderF T e b b (Lib.byteCells l) w
section
variable {X:Cx} {ok0:Nat→Prop} {w0:World} {T e:TypeId} {b:Nat} {l:List UInt8} {ev ev':Env} {H H':Heap} {a:Act} {w:World}
theorem hst_out {ok:Nat→Prop} {ι:Iota} (_:Sim X ok w ι H) (hev:Evol 0 ok0 w0 iota0 [] ok w ι H) (hap:∀ k,Cov w b k→¬ ok k∧∀ i ds s,hget H i = some ds→ι i≠some (k,s))
  (hlo:w0.heap.size≤b) (hbl:Lib.IsBuilderF T e b b (Lib.byteCells l) w) {n:Nat} {a':Act} {w':World} (ho:Out X n ok w ι H a ev' H' a' w'):HSt X ok0 w0 T e b l ev' H' a' w':=by
 obtain ⟨t1,t2,ι',ok',s1,s2,s3⟩:=ho
 have hk:∀ k,Cov w b k→w'.heap[k]? = w.heap[k]?:=fun k hc=>s3.frame k (cov_lt hbl hc).1 (hap k hc).2
 obtain ⟨hbl',hc'⟩:=bld_same hbl hk
 refine ⟨⟨ok',ι',s1,s2,hev.trans (s3.mono (Nat.zero_le _)),?_⟩,hlo,hbl'⟩
 intro k hc
 have hcw:Cov w b k:=by
  rcases hc with rfl | ⟨v,hv,hvk⟩
  ·exact .inl rfl
  ·exact .inr ⟨v,by rw [← hc'];exact hv,hvk⟩
 have hlt:=(cov_lt hbl hcw).1
 obtain ⟨h1,h2⟩:=hap k hcw
 refine ⟨fun hok=>?_,fun i ds s hd he=>?_⟩
 ·rcases s3.okN k hok hlt with h | ⟨i,ds,s,hd,he⟩
  ·exact h1 h
  ·exact h2 i ds s hd he
 ·obtain ⟨j,ds',s',hd',he'⟩:=s3.own i ds k s hd he hlt
  exact h2 j ds' s' hd' he'
theorem HSt.code (hG:Good X) (h:HSt X ok0 w0 T e b l ev H a w) {f nt:Nat} {c:Code} {ex:Ex} (hc:Ev.code X f nt 0 c ev H = some (ex,ev',H')) (hok:okCode X f c = true) (ht:nt≤a.tmps.size) {Q:Exit→Act→World→Prop}
  (hQ:∀ a' w',a'.tmps.size = a.tmps.size→a'.defers = a.defers→HSt X ok0 w0 T e b l ev' H' a' w'→Q (exOf ex) a' w'):c.wp X.P Q a w:=by
 obtain ⟨ok,ι,hs,he,hev,hap⟩:=h.st
 refine wp_mono (code_sound hG hc hok (Nat.zero_le _) hs he ht) ?_
 rintro x a' w' ⟨rfl,hout⟩
 exact hQ a' w' hout.1 hout.2.1 (hst_out hs hev hap h.lo h.bl hout)
theorem HSt.ops (hG:Good X) (h:HSt X ok0 w0 T e b l ev H a w) {nt:Nat} {ops:Array Oper} {l1 l2:List Oper} (hc:evOps X (call X) nt false ops l1 ev H = some (ev',H')) (ht:nt≤a.tmps.size) {Q:Exit→Act→World→Prop}
  (hQ:∀ a' w',a'.tmps.size = a.tmps.size→a'.defers = a.defers→HSt X ok0 w0 T e b l ev' H' a' w'→wpList X.P ops Q l2 a' w'):wpList X.P ops Q (l1 ++ l2) a w:=by
 obtain ⟨ok,ι,hs,he,hev,hap⟩:=h.st
 exact evOps_app (call_sound hG) hc hs he ht fun a' w' hout=>hQ a' w' hout.1 hout.2.1 (hst_out hs hev hap h.lo h.bl hout)
theorem HSt.slot (h:HSt X ok0 w0 T e b l ev H a w) {t:Nat} {v:Value} (ht:look ev t = some (.raw v)):a.tmps.getD t undef = v:=by
 obtain ⟨ok,ι,hs,he,hev,hap⟩:=h.st
 have:=(he t _ ht).2
 generalize a.tmps.getD t undef = x at this ⊢
 cases this
 rfl
theorem HSt.slotS (h:HSt X ok0 w0 T e b l ev H a w) {t:Nat} {s:List UInt8} (ht:look ev t = some (.str s)):a.tmps.getD t undef = .string ⟨s.toArray⟩:=by
 obtain ⟨ok,ι,hs,he,hev,hap⟩:=h.st
 have:=(he t _ ht).2
 generalize a.tmps.getD t undef = x at this ⊢
 cases this
 rfl
end
section
variable {X:Cx} {ρ:Ren} {ok0:Nat→Prop} {w0:World} {b:Nat} {l:List UInt8} {ev:Env} {H:Heap} {a:Act} {w:World}
theorem HSt.write (L:Lays.n166 X.P ρ) (E:Builder.Extra X.P ρ) (h:HSt X ok0 w0 (ρ.t 72) (ρ.t 5) b l ev H a w) (s:List UInt8) (hl:l.length+s.length≤140737488355328) :
  Goes X.P (callFunc (ρ.f 166) #[.pointer (some ⟨b,0,none⟩),.string ⟨s.toArray⟩]) w fun v w'=>HSt X ok0 w0 (ρ.t 72) (ρ.t 5) b (l ++ s) ev H a w'∧Rep (fun _=>False) w' iota0 [] (.tup [.int .i64 s.length,.nili]) v:=by
 obtain ⟨ok,ι,hs,he,hev,hap⟩:=h.st
 have hen:∀ args w,(callFunc (ρ.f 166) args).run X.P w = .ok (.enter (ρ.f 166) args) w:=Go.Proofs.enters_of L.f166 (by kernel_rfl) rfl
 have hsz:(⟨s.toArray⟩:ByteArray).size = s.length:=ba_size s
 have hbs:=cov_lt h.bl (.inl rfl)
 unfold Goes
 rw [hen]
 refine (writeString_x L E b b _ ⟨s.toArray⟩ w h.bl (by rw [Lib.byteCells_length,hsz];exact hl) (by omega)).mono ?_
 rintro e w' ⟨rfl,hbl',hbel,hx,hfr⟩
 have hun:∀ k,k < w.heap.size→¬ Cov w b k→w'.heap[k]? = w.heap[k]?:=fun k hk hc=>hx k hk (fun e=>hc (.inl e)) (fun v hv e=>hc (.inr ⟨v,hv,e⟩))
 have hok:∀ k,ok k→w'.heap[k]? = w.heap[k]?:=fun k hk=>hun k (hs.okS k hk) fun hc=>(hap k hc).1 hk
 have hnm:∀ i ds c s,hget H i = some ds→ι i = some (c,s)→w'.heap[c]? = w.heap[c]?:=fun i ds c s hd hi=>hun c (hs.lt hd hi) fun hc=>(hap c hc).2 i ds s hd hi
 have hcat:Lib.byteCells l ++ Lib.strCells ⟨s.toArray⟩ = Lib.byteCells (l ++ s):=by
  rw [Lib.strCells_eq,← Lib.byteCells_append]
 rw [hcat] at hbl'
 refine ⟨_,rfl,⟨⟨ok,ι,sim_same hs hbel.size hok hnm,env_same he hok,?_,?_⟩,h.lo,.inr hbl'⟩,?_⟩
 ·refine ⟨hbel.os.trans hev.os,hbel.tape.trans hev.tape,hbel.output.trans hev.output,Nat.le_trans hev.size hbel.size,fun k hk hno=>?_,hev.okU,hev.okN,hev.nle,hev.heap,hev.own⟩
  rw [hbel.block k (Nat.lt_of_lt_of_le hk h.lo)]
  exact hev.frame k hk hno
 ·intro k hc
  rcases hc with rfl | ⟨v',hv',hk⟩
  ·exact hap _ (.inl rfl)
  ·obtain ⟨p,v,q1,q2,q3,q4,q5⟩:=bld_open h.bl
   rcases hfr v v' q4 hv' k hk with h1 | h1
   ·exact hap k (.inr ⟨v,q4,h1⟩)
   ·refine ⟨fun hok=>?_,fun i ds s hd hi=>?_⟩
    ·have:=hs.okS k hok
     omega
    ·have:=hs.lt hd hi
     omega
 ·refine .tup rfl fun j d hj=>?_
  match j,hj with
  | 0,hj =>
   simp at hj
   subst hj
   rw [hsz]
   exact .int .i64 _
  | 1,hj =>
   simp at hj
   subst hj
   exact .nili
  | j+2,hj=>simp at hj
end
end Go.Ev
namespace Go.Ev
open Go Go.Proofs Go.RowKit Go.Shelf
section
variable {X:Cx} {ok0:Nat→Prop} {w0:World} {T e:TypeId} {b:Nat} {l:List UInt8} {ev ev':Env} {H H':Heap} {a:Act} {w:World}
theorem run_code {f nt n0:Nat} {Q:Ex→Env→Heap→Prop} {o:Option (Ex × Env × Heap)} (h:Run X f nt n0 Q [] o):∃ ex e1 H1,o = some (ex,e1,H1)∧Q ex e1 H1:=by
 cases o with
 | none=>rw [run_none] at h;exact h.elim
 | some q =>
  obtain ⟨ex,e1,H1⟩:=q
  rw [run_nil] at h
  exact ⟨ex,e1,H1,rfl,h⟩
theorem HSt.run (hG:Good X) (h:HSt X ok0 w0 T e b l ev H a w) {f nt:Nat} {c:Code} (hok:okCode X f c = true) (ht:nt≤a.tmps.size) {K:Exit→Act→World→Prop}
  (hR:Run X f nt 0 (fun ex e1 H1=>∀ a' w',a'.tmps.size = a.tmps.size→a'.defers = a.defers→HSt X ok0 w0 T e b l e1 H1 a' w'→K (exOf ex) a' w') [] (Ev.code X f nt 0 (stripC c) ev H)):c.wp X.P K a w:=by
 obtain ⟨ex,e1,H1,h1,h2⟩:=run_code hR
 rw [code_strip] at h1
 exact h.code hG h1 hok ht h2
structure PSt (X:Cx) (ok0:Nat→Prop) (w0:World) (ev:Env) (H:Heap) (a:Act) (w:World):Prop where
 st:∃ ok ι,Sim X ok w ι H∧EnvRep ok w ι H ev a.tmps∧Evol 0 ok0 w0 iota0 [] ok w ι H
theorem PSt.run (hG:Good X) (h:PSt X ok0 w0 ev H a w) {f nt:Nat} {c:Code} (hok:okCode X f c = true) (ht:nt≤a.tmps.size) {K:Exit→Act→World→Prop}
  (hR:Run X f nt 0 (fun ex e1 H1=>∀ a' w',a'.tmps.size = a.tmps.size→a'.defers = a.defers→PSt X ok0 w0 e1 H1 a' w'→K (exOf ex) a' w') [] (Ev.code X f nt 0 (stripC c) ev H)):c.wp X.P K a w:=by
 obtain ⟨ex,e1,H1,h1,h2⟩:=run_code hR
 rw [code_strip] at h1
 obtain ⟨ok,ι,hs,he,hev⟩:=h.st
 refine wp_mono (code_sound hG h1 hok (Nat.zero_le _) hs he ht) ?_
 rintro x a' w' ⟨rfl,t1,t2,ι',ok',s1,s2,s3⟩
 exact h2 a' w' t1 t2 ⟨⟨ok',ι',s1,s2,hev.trans (s3.mono (Nat.zero_le _))⟩⟩
theorem PSt.make (h:PSt X ok0 w0 ev H a w) {t nt:Nat} {T e:TypeId} (_:T≠e) (ht:t < nt) (hn:nt≤a.tmps.size) :
  HSt X ok0 w0 T e w.heap.size [] ((t,.raw (.pointer (some ⟨w.heap.size,0,none⟩))) :: ev) H (a.put (some t) (.pointer (some ⟨w.heap.size,0,none⟩))) (w.alloc (.cells #[.pointer none,.slice none 0 0] T)):=by
 obtain ⟨ok,ι,hs,he,hev⟩:=h.st
 have hold:∀ k,k < w.heap.size→(w.alloc (.cells #[.pointer none,.slice none 0 0] T)).heap[k]? = w.heap[k]?:=fun k hk=>Lib.alloc_old w _ k hk
 have hsz:w.heap.size≤(w.alloc (.cells #[.pointer none,.slice none 0 0] T)).heap.size:=by simp
 have hok:∀ k,ok k→(w.alloc (.cells #[.pointer none,.slice none 0 0] T)).heap[k]? = w.heap[k]?:=fun k hk=>hold k (hs.okS k hk)
 have hfr:=Lib.IsBuilderF.of (Lib.fresh_isBuilder T e w)
 refine ⟨⟨ok,ι,sim_same hs hsz hok fun i ds c s hd hi=>hold c (hs.lt hd hi),?_,?_,?_⟩,hev.size,hfr⟩
 ·exact put_env (dst:=some t) (env_same he hok) (.raw _) hn (by simpa [dstOk] using ht)
 ·refine ⟨hev.os,hev.tape,hev.output,Nat.le_trans hev.size hsz,fun k hk hno=>?_,hev.okU,hev.okN,hev.nle,hev.heap,hev.own⟩
  rw [hold k (Nat.lt_of_lt_of_le hk hev.size)]
  exact hev.frame k hk hno
 ·intro k hc
  have hge:w.heap.size≤k:=by
   have:=cov_lt hfr hc
   exact this.2
  refine ⟨fun hk=>?_,fun i ds s hd hi=>?_⟩
  ·have:=hs.okS k hk
   omega
  ·have:=hs.lt hd hi
   omega
end
end Go.Ev
namespace Go.Proofs
open Go.Shelf
def Tryz.layW_ren:Go.Shelf.Ren:=⟨fun | 166=>101 | 240=>143 | 276=>168 | n=>n,fun | 0=>0 | 3=>3 | 4=>4 | 5=>5 | 9=>9 | 20=>20 | 37=>34 | 70=>150 | 72=>152 | 75=>158 | 80=>162 | 164=>205 | n=>n,fun n=>n⟩
theorem Tryz.layW:Lays.n166 Tryz.prog Tryz.layW_ren:={
 mixed:=by kernel_rfl
 f166:=Tryz.func101.trans (congrArg some (by kernel_rfl))
 f240:=Tryz.func143.trans (congrArg some (by kernel_rfl))
 f276:=Tryz.func168.trans (congrArg some (by kernel_rfl))
 t0:=Tryz.underlying0
 a0:=Tryz.isAgg0
 z0:=Tryz.sizeOf0
 v0:=Tryz.zeroValue0
 t3:=Tryz.underlying3
 a3:=Tryz.isAgg3
 z3:=Tryz.sizeOf3
 v3:=Tryz.zeroValue3
 t4:=Tryz.underlying4
 a4:=Tryz.isAgg4
 z4:=Tryz.sizeOf4
 v4:=Tryz.zeroValue4
 t9:=Tryz.underlying9
 a9:=Tryz.isAgg9
 z9:=Tryz.sizeOf9
 v9:=Tryz.zeroValue9
 t20:=Tryz.underlying20
 a20:=Tryz.isAgg20
 z20:=Tryz.sizeOf20
 v20:=Tryz.zeroValue20
 t37:=Tryz.underlying34
 a37:=Tryz.isAgg34
 z37:=Tryz.sizeOf34
 v37:=Tryz.zeroValue34
 t70:=Tryz.underlying150
 a70:=Tryz.isAgg150
 z70:=Tryz.sizeOf150
 v70:=Tryz.zeroValue150
 t72:=Tryz.underlying152
 a72:=Tryz.isAgg152
 z72:=Tryz.sizeOf152
 v72:=Tryz.zeroValue152
 t75:=Tryz.underlying158
 a75:=Tryz.isAgg158
 z75:=Tryz.sizeOf158
 v75:=Tryz.zeroValue158
 t164:=Tryz.underlying205
 a164:=Tryz.isAgg205
 z164:=Tryz.sizeOf205
 v164:=Tryz.zeroValue205 }
theorem Tryz.layW_X:Builder.Extra Tryz.prog Tryz.layW_ren:={
 sizeBuilder:=by kernel_rfl
 liesBuilder:=by kernel_rfl
 t5:=Tryz.underlying5
 a5:=Tryz.isAgg5
 z5:=Tryz.sizeOf5
 v5:=Tryz.zeroValue5
 infoByte:=by kernel_rfl
 cellsByte:=by kernel_rfl
 sizeByte:=by kernel_rfl
 neB5:=by decide }
end Go.Proofs
namespace Go.Ev.S
open Go Go.Proofs Go.Ev Go.RowKit
def kPlace:List UInt8:=[95,95,67,85,82,83,79,82,61]
def kReal:List UInt8:=[95,95,82,69,65,76,84,73,77,69,95,84,73,77,69,83,84,65,77,80,61]
def kMono:List UInt8:=[95,95,77,79,78,79,84,79,78,73,67,95,84,73,77,69,83,84,65,77,80,61]
def kSeq:List UInt8:=[95,95,83,69,81,78,85,77,61]
def kId:List UInt8:=[95,95,83,69,81,78,85,77,95,73,68,61]
def kBoot:List UInt8:=[95,66,79,79,84,95,73,68,61]
def sixL (it:It):List (List UInt8):=[kPlace ++ showL (cOfP it.id it.rc),kReal ++ dec it.rc.real.toNat,kMono ++ dec it.rc.mono.toNat,kSeq ++ dec it.rc.seq.toNat,kId ++ hexs it.id.l,kBoot ++ hexs it.rc.boot.l]
def headL (L:List (List UInt8)):List UInt8:=(L.map (· ++ [10])).flatten
def bodyL (F:List Pr):List UInt8:=(F.map pairL).flatten
def textR (it:It):List UInt8:=headL (sixL it) ++ bodyL it.rc.fields.l ++ [10]
def sL:Code→Code
 | .seq a _=>a
 | c=>c
def sR:Code→Code
 | .seq _ b=>b
 | c=>c
def cB:Code→Code
 | .block _ c=>c
 | .loop c=>c
 | c=>c
theorem wp_ofSeq {P:Program} {c:Code} {Q:Exit→Act→World→Prop} {a:Act} {w:World} (hc:c = .seq (sL c) (sR c)) (h:∀ K:Exit→Act→World→Prop,(∀ a w,(sR c).wp P Q a w→K .normal a w)→(∀ x a w,x≠.normal→Q x a w→K x a w)→(sL c).wp P K a w):c.wp P Q a w:=by
 rw [hc]
 refine wp_seq (h _ (fun a w h=>h) fun x a w hx hq=>?_)
 cases x <;> first | exact absurd rfl hx | exact hq
noncomputable def tx0:Code:=bodyOf Tryz.f64
noncomputable def tx1:Code:=sR tx0
noncomputable def tx2:Code:=sR tx1
noncomputable def tx3:Code:=sR tx2
noncomputable def tx4:Code:=sR tx3
noncomputable def tx5:Code:=sR tx4
set_option maxHeartbeats 4000000 in
set_option maxRecDepth 4000 in
theorem text_pre [MaxL] [TxtC] (hT:TxtRun) (it:It) (hg:it.gap = false) (hr:recOk it = true) (hb:∀ p∈it.rc.fields.l,PrB p) (hn:it.rc.fields.l.length < 1000000)
  (ok0:Nat→Prop) (w0:World) (a:Act) (hs:Sim cx ok0 w0 iota0 []) (he:EnvRep ok0 w0 iota0 [] (argEnv 0 [.agg (Enc.cells it)]) a.tmps) (ht:83≤a.tmps.size) {K:Exit→Act→World→Prop}
  (hK:∀ a' w' e',a'.tmps.size = a.tmps.size→a'.defers = a.defers→look e' 3 = some (.optr 1 20 0)→look e' 1 = some (.optr 0 39 0)→PSt cx ok0 w0 e' [some (Enc.cells it),some (Enc.cells it.rc)] a' w'→tx4.wp cx.P K a' w') :
  tx0.wp cx.P K a w0:=by
 have hG:=good hT
 have hp0:PSt cx ok0 w0 (argEnv 0 [.agg (Enc.cells it)]) [] a w0:=⟨⟨ok0,iota0,hs,he,.refl _ (Nat.le_refl _)⟩⟩
 have hw:=wright_ev it hb hn
 unfold itOk at hw
 rw [hg,if_neg (by decide),hr] at hw
 have ht17:List.take 17 (ofBytes it.rc.boot.l ++ [(.vsl it.rc.fields.nil (encs it.rc.fields.l) it.rc.fields.l.length)]) = ofBytes it.rc.boot.l ++ [(.vsl it.rc.fields.nil (encs it.rc.fields.l) it.rc.fields.l.length)]:=List.take_of_length_le (by simp)
 refine wp_ofSeq (c:=tx0) rfl fun K0 k0 _=>?_
 refine hp0.run hG (f:=64) (nt:=83) (by kernel_rfl) ht ?_
 simp [sL,tx0,bodyOf,Tryz.f64]
 intro a1 w1 s1 d1 h1
 refine k0 _ _ ?_
 refine wp_ofSeq (c:=tx1) rfl fun K1 k1 _=>?_
 refine h1.run hG (f:=64) (nt:=83) (by kernel_rfl) (by omega) ?_
 simp [sL,sR,tx1,tx0,bodyOf,Tryz.f64,hw]
 intro a2 w2 s2 d2 h2
 refine k1 _ _ ?_
 refine wp_ofSeq (c:=tx2) rfl fun K2 k2 _=>?_
 refine h2.run hG (f:=64) (nt:=83) (by kernel_rfl) (by omega) ?_
 simp [sL,sR,tx2,tx1,tx0,bodyOf,Tryz.f64,hg]
 intro a3 w3 s3 d3 h3
 refine k2 _ _ ?_
 refine wp_ofSeq (c:=tx3) rfl fun K3 k3 _=>?_
 refine h3.run hG (f:=64) (nt:=83) (by kernel_rfl) (by omega) ?_
 simp [sL,sR,tx3,tx2,tx1,tx0,bodyOf,Tryz.f64,ht17]
 intro a4 w4 s4 d4 h4
 exact k3 _ _ (hK a4 w4 _ (by omega) (by simp [d4,d3,d2,d1]) (by simp) (by simp) h4)
end Go.Ev.S
namespace Go.Ev
open Go Go.Proofs Go.RowKit Go.Shelf
theorem wp_allocOp {P:Program} {ops:Array Oper} {Q:Exit→Act→World→Prop} {r:List Oper} {o:Oper} {t:TypeId} {zv:Value} {a:Act} {w:World} (hg:o.guard = none) (ho:o.op = .alloc t) (hz:∀ w,(zeroValue t).run P w = .ok zv w)
  (h:wpList P ops Q r (a.put o.dst (.pointer (some ⟨w.heap.size,0,none⟩))) (w.alloc (.cells zv.cells t))):wpList P ops Q (o :: r) a w:=by
 have hw:Region.wanted o (yielded ops a.tmps) = true:=by unfold Region.wanted;rw [hg]
 simp only [wpList,hw,if_true]
 refine .inl ?_
 unfold Oper.wp
 refine Goes.upon (Goes.value (v:=.pointer (some ⟨w.heap.size,0,none⟩)) (w':=w.alloc (.cells zv.cells t)) ?_ h)
 simp [execOp,ho,Instr.alloc,hz,newVar,newRow]
section
variable {X:Cx} {ok0:Nat→Prop} {w0:World} {T e:TypeId} {b:Nat} {l:List UInt8} {ev ev':Env} {H H':Heap} {a:Act} {w:World}
theorem HSt.slotI (h:HSt X ok0 w0 T e b l ev H a w) {t:Nat} {k:IntKind} {n:Int} (ht:look ev t = some (.int k n)):a.tmps.getD t undef = .int k n:=by
 obtain ⟨ok,ι,hs,he,hev,hap⟩:=h.st
 have:=(he t _ ht).2
 generalize a.tmps.getD t undef = x at this ⊢
 cases this
 rfl
theorem HSt.put (h:HSt X ok0 w0 T e b l ev H a w) {t:Nat} {d:D} {v:Value} (hd:Rep (fun _=>False) w iota0 [] d v) (ht:t < a.tmps.size):HSt X ok0 w0 T e b l ((t,d) :: ev) H (a.put (some t) v) w:=by
 obtain ⟨ok,ι,hs,he,hev,hap⟩:=h.st
 refine ⟨⟨ok,ι,hs,?_,hev,hap⟩,h.lo,h.bl⟩
 exact put_env (nt:=a.tmps.size) (dst:=some t) he ((hd.okMono fun b hb=>hb.elim).lift) (Nat.le_refl _) (by simpa [dstOk] using ht)
end
end Go.Ev
namespace Go.Ev.S
open Go Go.Proofs Go.Ev Go.RowKit
theorem xorI_u64 (a b:Int):isU64 (xorI .u64 a b):=by
 unfold xorI isU64
 simp only [IntKind.wrap,IntKind.signed,IntKind.bits]
 simp
 omega
theorem xorP_u64:∀ (L:List (List UInt8)) (v:Int),isU64 v→isU64 (xorP L v)
 | [],v,h=>h
 | b :: l,v,h=>by rw [xorP];exact xorP_u64 l _ (xorI_u64 _ _)
theorem cOfP_ok (q:ID) (r:Rec) (h:r.Ok):CurOk (cOfP q r):=⟨h.seq,h.mono,h.real,xorP_u64 _ _ (by unfold isU64;omega)⟩
set_option maxHeartbeats 4000000 in
set_option maxRecDepth 4000 in
theorem text_make [MaxL] [TxtC] (_:TxtRun) (it:It) (ok0:Nat→Prop) (w0:World) (a:Act) (w:World) (e:Env) (ht:83≤a.tmps.size) (k3:look e 3 = some (.optr 1 20 0)) (k1:look e 1 = some (.optr 0 39 0))
  (h:PSt cx ok0 w0 e [some (Enc.cells it),some (Enc.cells it.rc)] a w) {K:Exit→Act→World→Prop}
  (hK:∀ a' w' e' b,a'.tmps.size = a.tmps.size→a'.defers = a.defers→look e' 3 = some (.optr 1 20 0)→look e' 1 = some (.optr 0 39 0)→look e' 4 = some (.raw (.pointer (some ⟨b,0,none⟩))) →
   HSt cx ok0 w0 152 5 b [] e' [some (Enc.cells it),some (Enc.cells it.rc)] a' w'→tx5.wp cx.P K a' w'):tx4.wp cx.P K a w:=by
 refine wp_ofSeq (c:=tx4) rfl fun K4 k4 _=>?_
 refine wp_region_list (wp_allocOp rfl rfl Tryz.zeroValue152 ?_)
 have hm:=h.make (t:=4) (nt:=83) (T:=152) (e:=5) (by decide) (by omega) ht
 exact k4 _ _ (hK _ _ _ _ (by simp [Act.put]) (by simp [Act.put]) (by simpa [look] using k3) (by simpa [look] using k1) (by simp [look]) hm)
theorem sub5 {P:Program} {Q:Exit→Act→World→Prop} {a:Act} {w:World} (h:(sL (sL tx5)).wp P (Exit.then ((sR (sL tx5)).wp P (Exit.then ((sR tx5).wp P Q) Q)) (Exit.then ((sR tx5).wp P Q) Q)) a w):tx5.wp P Q a w:=by
 have e1:tx5 = .seq (.seq (sL (sL tx5)) (sR (sL tx5))) (sR tx5):=rfl
 rw [e1]
 exact wp_seq (wp_seq h)
set_option maxHeartbeats 4000000 in
set_option maxRecDepth 4000 in
theorem text_six [MaxL] [TxtC] (hT:TxtRun) (it:It) (hi:it.Ok) (hb:∀ p∈it.rc.fields.l,PrB p) (hn:it.rc.fields.l.length < 1000000) (ok0:Nat→Prop) (w0:World) (a:Act) (w:World) (e:Env) (b:Nat) (ht:83≤a.tmps.size) (k3:look e 3 = some (.optr 1 20 0)) (k1:look e 1 = some (.optr 0 39 0)) (k4:look e 4 = some (.raw (.pointer (some ⟨b,0,none⟩))))
  (h:HSt cx ok0 w0 152 5 b [] e [some (Enc.cells it),some (Enc.cells it.rc)] a w) {K:Exit→Act→World→Prop}
  (hK:∀ a' w' e',a'.tmps.size = a.tmps.size→a'.defers = a.defers→look e' 3 = some (.optr 1 20 0)→look e' 4 = some (.raw (.pointer (some ⟨b,0,none⟩))) →
   look e' 59 = some (.vsl false ((sixL it).map D.str) 6)→look e' 60 = some (.int .i64 6)→look e' 61 = some (.int .i64 0) →
   HSt cx ok0 w0 152 5 b [] e' [some (Enc.cells it),some (Enc.cells it.rc)] a' w'→K .normal a' w'):(sL (sL tx5)).wp cx.P K a w:=by
 have hG:=good hT
 have hof:=cof_ev it.id it.rc hn hb
 have hok:=cOfP_ok it.id it.rc hi.rc
 have hsh:=show_ev _ hok
 have hr1:=hi.rc.real
 have hr2:=hi.rc.mono
 have hr3:=hi.rc.seq
 unfold isU64 at hr1 hr2 hr3
 have n1:=number_ev it.rc.real.toNat (by omega)
 have n2:=number_ev it.rc.mono.toNat (by omega)
 have n3:=number_ev it.rc.seq.toNat (by omega)
 have e1:((it.rc.real.toNat:Nat):Int) = it.rc.real:=by omega
 have e2:((it.rc.mono.toNat:Nat):Int) = it.rc.mono:=by omega
 have e3:((it.rc.seq.toNat:Nat):Int) = it.rc.seq:=by omega
 rw [e1] at n1
 rw [e2] at n2
 rw [e3] at n3
 have x1:=hex_ev it.id.l it.id.h
 have x2:=hex_ev it.rc.boot.l it.rc.boot.h
 have l0:=(showL_len (cOfP it.id it.rc)).2
 have l4:=hexs_len it.id.l
 have l5:=hexs_len it.rc.boot.l
 rw [it.id.h] at l4
 rw [it.rc.boot.h] at l5
 have hL:Enc.cells it.rc = .int .u64 it.rc.seq :: .int .u64 it.rc.real :: .int .u64 it.rc.mono :: (ofBytes it.rc.boot.l ++ [(.vsl it.rc.fields.nil (encs it.rc.fields.l) it.rc.fields.l.length)]):=Rec.cells it.rc
 have ht17:List.take 17 (ofBytes it.rc.boot.l ++ [(.vsl it.rc.fields.nil (encs it.rc.fields.l) it.rc.fields.l.length)]) = ofBytes it.rc.boot.l ++ [(.vsl it.rc.fields.nil (encs it.rc.fields.l) it.rc.fields.l.length)]:=List.take_of_length_le (by simp)
 refine h.run hG (f:=64) (nt:=83) (by kernel_rfl) ht ?_
 rw [hL] at hof ⊢
 unfold sixL kPlace kReal kMono kSeq kId kBoot at hK
 have d1:=dec_len it.rc.real.toNat
 have d2:=dec_len it.rc.mono.toNat
 have d3:=dec_len it.rc.seq.toNat
 generalize showL (cOfP it.id it.rc) = s0 at *
 generalize dec it.rc.real.toNat = s1 at *
 generalize dec it.rc.mono.toNat = s2 at *
 generalize dec it.rc.seq.toNat = s3 at *
 generalize hexs it.id.l = s4 at *
 generalize hexs it.rc.boot.l = s5 at *
 have c0:9+s0.length≤4611686018427387904:=by omega
 have c1:21+s1.length≤4611686018427387904:=by omega
 have c2:22+s2.length≤4611686018427387904:=by omega
 have c3:9+s3.length≤4611686018427387904:=by omega
 have c4:12+s4.length≤4611686018427387904:=by omega
 have c5:9+s5.length≤4611686018427387904:=by omega
 simp [sL,sR,tx5,tx4,tx3,tx2,tx1,tx0,bodyOf,Tryz.f64,k1,k3,k4,hof,hsh,n1,n2,n3,x1,x2,ht17,List.drop_append,c0,c1,c2,c3,c4,c5]
 intro a1 w1 z1 z2 h1
 rw [← hL] at h1
 exact hK a1 w1 _ z1 z2 (by simp) (by simp) (by simp) (by simp) (by simp) h1
end Go.Ev.S
namespace Go.Ev.S
open Go Go.Proofs Go.Ev Go.RowKit
theorem wp_hide {P:Program} {c:Code} {Q:Exit→Act→World→Prop} {a:Act} {w:World} (h:∀ K:Exit→Act→World→Prop,(∀ x a w,Q x a w→K x a w)→c.wp P K a w):c.wp P Q a w:=h Q fun _ _ _ h=>h
def rgOps:Code→Array Oper
 | .region _ ops _=>ops
 | _=>#[]
noncomputable def bd1:Code:=cB (cB (sR (sL tx5)))
noncomputable def ops10:Array Oper:=rgOps (sR (cB (sL (sR (sR bd1)))))
theorem strs_at' {l:List (List UInt8)} {i:Nat} (h:i < l.length):(l.map D.str).drop i = .str l[i] :: (l.map D.str).drop (i+1):=by
 rw [List.drop_eq_getElem_cons (by simpa using h)]
 simp
theorem headL_snoc {L:List (List UInt8)} {k:Nat} (h:k < L.length):headL (L.take k) ++ (L[k] ++ [10]) = headL (L.take (k+1)):=by
 unfold headL
 rw [List.take_succ_eq_append_getElem h,List.map_append,List.flatten_append]
 simp
theorem headL_le (L:List (List UInt8)) (h:∀ s∈L,s.length≤300):(headL L).length≤L.length * 301:=by
 induction L with
 | nil=>simp [headL]
 | cons a l ih =>
  have h1:=h a (by simp)
  have h2:=ih fun s hs=>h s (by simp [hs])
  unfold headL at *
  simp only [List.map_cons,List.flatten_cons,List.length_append,List.length_cons,List.length_nil] at *
  omega
set_option maxHeartbeats 4000000 in
set_option maxRecDepth 4000 in
theorem text_loop1 [MaxL] [TxtC] (hT:TxtRun) (L:List (List UInt8)) (hL6:L.length = 6) (hLl:∀ s∈L,s.length≤300) (ok0:Nat→Prop) (w0:World) (a:Act) (w:World) (e:Env) (b:Nat) (H:Heap) (_:H.length = 2) (ht:83≤a.tmps.size) (k3:look e 3 = some (.optr 1 20 0)) (k4:look e 4 = some (.raw (.pointer (some ⟨b,0,none⟩))))
  (k59:look e 59 = some (.vsl false (L.map D.str) 6)) (k60:look e 60 = some (.int .i64 6)) (k61:look e 61 = some (.int .i64 0))
  (h:HSt cx ok0 w0 152 5 b [] e H a w) {Q:Exit→Act→World→Prop}
  (hQ:∀ a' w' e',a'.tmps.size = a.tmps.size→a'.defers = a.defers→look e' 3 = some (.optr 1 20 0)→look e' 4 = some (.raw (.pointer (some ⟨b,0,none⟩))) →
   HSt cx ok0 w0 152 5 b (headL L) e' H a' w'→Q .normal a' w'):(sR (sL tx5)).wp cx.P Q a w:=by
 have hG:=good hT
 have eB:sR (sL tx5) = .block 0 (.loop bd1):=rfl
 rw [eB]
 refine wp_block (wp_loop (fun a' w'=>∃ (k:Nat) (e':Env),k≤6∧a'.tmps.size = a.tmps.size∧a'.defers = a.defers∧look e' 3 = some (.optr 1 20 0)∧look e' 4 = some (.raw (.pointer (some ⟨b,0,none⟩)))∧look e' 59 = some (.vsl false (L.map D.str) 6)∧look e' 60 = some (.int .i64 6)∧look e' 61 = some (.int .i64 k) ∧
   HSt cx ok0 w0 152 5 b (headL (L.take k)) e' H a' w') (fun a' _=>6 - (intOf (a'.tmps.getD 61 undef)).toNat) ⟨0,e,by omega,rfl,rfl,k3,k4,k59,k60,k61,h⟩ ?_)
 rintro a1 w1 ⟨k,e1,hk,z1,z2,j3,j4,j59,j60,j61,h1⟩
 have hmu:=h1.slotI j61
 rw [hmu]
 refine wp_ofSeq (c:=bd1) rfl fun K1 f1 g1=>?_
 by_cases hlt:k < 6
 ·have hlt':(k:Int) < 6:=by omega
  refine h1.run hG (f:=64) (nt:=83) (by kernel_rfl) (by omega) ?_
  simp [sL,sR,cB,bd1,tx5,tx4,tx3,tx2,tx1,tx0,bodyOf,Tryz.f64,j3,j4,j59,j60,j61,hlt']
  intro a2 w2 s2 d2 h2
  refine f1 _ _ ?_
  refine wp_ofSeq (c:=sR bd1) rfl fun K2 f2 g2=>?_
  refine h2.run hG (f:=64) (nt:=83) (by kernel_rfl) (by omega) ?_
  simp [sL,sR,cB,bd1,tx5,tx4,tx3,tx2,tx1,tx0,bodyOf,Tryz.f64]
  intro a3 w3 s3 d3 h3
  refine f2 _ _ ?_
  refine wp_ofSeq (c:=sR (sR bd1)) rfl fun K3 f3 g3=>?_
  have eB1:sL (sR (sR bd1)) = .block 1 (cB (sL (sR (sR bd1)))):=rfl
  rw [eB1]
  refine wp_block (wp_ofSeq rfl fun K4 f4 g4=>?_)
  have hkL:k < L.length:=by omega
  have hat:=strs_at' hkL
  refine h3.run hG (f:=64) (nt:=83) (by kernel_rfl) (by omega) ?_
  simp [sL,sR,cB,bd1,tx5,tx4,tx3,tx2,tx1,tx0,bodyOf,Tryz.f64,hlt',hat]
  intro a4 w4 s4 d4 h4
  refine f4 _ _ ?_
  have eR:sR (cB (sL (sR (sR bd1)))) = .region 10 ops10 false:=rfl
  rw [eR]
  refine wp_region_list ?_
  have eo:ops10.toList = ops10.toList.take 2 ++ ops10.toList.drop 2:=(List.take_append_drop 2 _).symm
  rw [eo]
  have hl1:=hLl L[k] (List.getElem_mem hkL)
  have hll:=headL_le (L.take k) (fun s hs=>hLl s (List.mem_of_mem_take hs))
  rw [List.length_take] at hll
  have hsn:=headL_snoc hkL
  generalize L[k] = x at *
  have x1:x.length+1≤4611686018427387904:=by omega
  refine h4.ops hG (nt:=83) (ops:=ops10) (l1:=ops10.toList.take 2) (ev':=(66,.str (x ++ [10])) :: (65,.str x) :: [(6,.str x),(64,.str x),(63,.vptr (.str x :: List.drop (k+1) (List.map D.str L))),(3,.optr 1 20 0),(4,.raw (.pointer (some ⟨b,0,none⟩))),(59,.vsl false (List.map D.str L) 6),(60,.int .i64 6),(61,.int .i64 k)]) (H':=H) ?_ (by omega) ?_
  ·simp [ops10,rgOps,sL,sR,cB,bd1,tx5,tx4,tx3,tx2,tx1,tx0,bodyOf,Tryz.f64,evOps,guardQ,x1]
  intro a5 w5 s5 d5 h5
  have eo2:ops10.toList.drop 2 = [(ops10.toList.drop 2).headD default]:=rfl
  rw [eo2]
  refine wp_callOp rfl rfl rfl ?_
  have ea:∀ a:Act,#[a.tmps.getD 4 undef,a.tmps.getD 66 undef] = #[a.tmps.getD 4 undef,a.tmps.getD 66 undef]:=fun _=>rfl
  have q4:=h5.slot (t:=4) (v:=.pointer (some ⟨b,0,none⟩)) (by simp)
  have q66:=h5.slotS (t:=66) (s:=x ++ [10]) (by simp)
  show Goes _ (callFunc 101 #[a5.tmps.getD 4 undef,a5.tmps.getD 66 undef]) _ _
  rw [q4,q66]
  refine (h5.write (ρ:=Tryz.layW_ren) Tryz.layW Tryz.layW_X (x ++ [10]) ?_).mono ?_
  ·simp only [List.length_append,List.length_cons,List.length_nil]
   omega
  rintro v w6 ⟨h6,hv⟩
  rw [hsn] at h6
  replace h6:HSt cx ok0 w0 152 5 b (headL (L.take (k+1))) _ H a5 w6:=h6
  have hp:=h6.put (t:=67) hv (by omega)
  show K3 .normal (a5.put (some 67) v) w6
  refine f3 _ _ ?_
  have hw:IntKind.i64.wrap ((k:Int)+1) = ((k+1:Nat):Int):=by rw [wrap_i64] <;> omega
  have z5:(a5.put (some 67) v).tmps.size = a5.tmps.size:=by simp [Act.put]
  have z6:(a5.put (some 67) v).defers = a5.defers:=rfl
  refine wp_hide fun K5 f5=>?_
  refine hp.run hG (f:=64) (nt:=83) (by kernel_rfl) (by omega) ?_
  simp [sL,sR,cB,bd1,tx5,tx4,tx3,tx2,tx1,tx0,bodyOf,Tryz.f64,hw]
  intro a7 w7 s7 d7 h7
  refine f5 .normal _ _ ?_
  have hm7:=h7.slotI (t:=61) (k:=.i64) (n:=((k+1:Nat):Int)) (by simp)
  refine ⟨⟨k+1,_,by omega,by omega,by rw [d7,z6,d5,d4,d3,d2,z2],?_,?_,?_,?_,?_,h7⟩,?_⟩
  ·simp
  ·simp
  ·simp
  ·simp
  ·simp
  ·rw [hm7]
   show 6 - (((k+1:Nat):Int)).toNat < 6 - ((k:Int)).toNat
   omega
 ·have hlt':¬ (k:Int) < 6:=by omega
  have hke:k = 6:=by omega
  have htk:L.take k = L:=List.take_of_length_le (by omega)
  rw [htk] at h1
  refine h1.run hG (f:=64) (nt:=83) (by kernel_rfl) (by omega) ?_
  simp [sL,sR,cB,bd1,tx5,tx4,tx3,tx2,tx1,tx0,bodyOf,Tryz.f64,j3,j4,j59,j60,j61,hlt']
  intro a2 w2 s2 d2 h2
  refine f1 _ _ ?_
  refine wp_ofSeq (c:=sR bd1) rfl fun K2 f2 g2=>?_
  refine h2.run hG (f:=64) (nt:=83) (by kernel_rfl) (by omega) ?_
  simp [sL,sR,cB,bd1,tx5,tx4,tx3,tx2,tx1,tx0,bodyOf,Tryz.f64]
  intro a3 w3 s3 d3 h3
  refine g2 (.exit 0) a3 w3 (by intro h;cases h) ?_
  show Q .normal a3 w3
  exact hQ a3 w3 _ (by omega) (by rw [d3,d2,z2]) (by simp) (by simp) h3
end Go.Ev.S
namespace Go.Ev.S
open Go Go.Proofs Go.Ev Go.RowKit
noncomputable def tx6:Code:=sR tx5
noncomputable def bd2:Code:=cB (cB (sR (sL tx6)))
noncomputable def ops15:Array Oper:=rgOps (sR (cB (sL (sR (sR bd2)))))
theorem bodyL_snoc {F:List Pr} {k:Nat} (h:k < F.length):bodyL (F.take k) ++ pairL F[k] = bodyL (F.take (k+1)):=by
 unfold bodyL
 rw [List.take_succ_eq_append_getElem h,List.map_append,List.flatten_append]
 simp
theorem pairL_len (p:Pr):(pairL p).length≤p.name.length+p.value.length+10:=by
 unfold pairL
 split
 ·simp
  omega
 ·simp
  omega
theorem bodyL_le (F:List Pr) (n:Nat) (h:∀ p∈F,(pairL p).length≤n):(bodyL F).length≤F.length * n:=by
 induction F with
 | nil=>simp [bodyL]
 | cons a l ih =>
  have h1:=h a (by simp)
  have h2:=ih fun s hs=>h s (by simp [hs])
  unfold bodyL at *
  simp only [List.map_cons,List.flatten_cons,List.length_append,List.length_cons]
  rw [Nat.add_mul]
  omega
theorem sub6 {P:Program} {Q:Exit→Act→World→Prop} {a:Act} {w:World} (h:(sL (sL tx6)).wp P (Exit.then ((sR (sL tx6)).wp P (Exit.then ((sR tx6).wp P Q) Q)) (Exit.then ((sR tx6).wp P Q) Q)) a w):tx6.wp P Q a w:=by
 have e1:tx6 = .seq (.seq (sL (sL tx6)) (sR (sL tx6))) (sR tx6):=rfl
 rw [e1]
 exact wp_seq (wp_seq h)
set_option maxHeartbeats 4000000 in
set_option maxRecDepth 4000 in
theorem text_12 [MaxL] [TxtC] (hT:TxtRun) (it:It) (ok0:Nat→Prop) (w0:World) (a:Act) (w:World) (e:Env) (b:Nat) (l:List UInt8) (ht:83≤a.tmps.size) (k3:look e 3 = some (.optr 1 20 0)) (k4:look e 4 = some (.raw (.pointer (some ⟨b,0,none⟩))))
  (h:HSt cx ok0 w0 152 5 b l e [some (Enc.cells it),some (Enc.cells it.rc)] a w) {K:Exit→Act→World→Prop}
  (hK:∀ a' w' e',a'.tmps.size = a.tmps.size→a'.defers = a.defers→look e' 4 = some (.raw (.pointer (some ⟨b,0,none⟩))) →
   look e' 70 = some (.vsl it.rc.fields.nil (encs it.rc.fields.l) it.rc.fields.l.length)→look e' 71 = some (.int .i64 it.rc.fields.l.length)→look e' 72 = some (.int .i64 0) →
   HSt cx ok0 w0 152 5 b l e' [some (Enc.cells it),some (Enc.cells it.rc)] a' w'→K .normal a' w'):(sL (sL tx6)).wp cx.P K a w:=by
 have hG:=good hT
 have hL:Enc.cells it.rc = .int .u64 it.rc.seq :: .int .u64 it.rc.real :: .int .u64 it.rc.mono :: (ofBytes it.rc.boot.l ++ [(.vsl it.rc.fields.nil (encs it.rc.fields.l) it.rc.fields.l.length)]):=Rec.cells it.rc
 refine h.run hG (f:=64) (nt:=83) (by kernel_rfl) ht ?_
 rw [hL]
 simp [sL,sR,tx6,tx5,tx4,tx3,tx2,tx1,tx0,bodyOf,Tryz.f64,k3,k4]
 intro a1 w1 z1 z2 h1
 rw [← hL] at h1
 exact hK a1 w1 _ z1 z2 (by simp) (by simp) (by simp) (by simp) h1
set_option maxHeartbeats 4000000 in
set_option maxRecDepth 4000 in
theorem text_loop2 [MaxL] [TxtC] (hT:TxtRun) (it:It) (l0:List UInt8) (hl0:l0.length≤3000) (F:Sl Pr) (hF16:F.l.length≤16) (hb:∀ p∈F.l,PrB p) (hpl:∀ p∈F.l,(pairL p).length≤3000) (ok0:Nat→Prop) (w0:World) (a:Act) (w:World) (e:Env) (b:Nat) (ht:83≤a.tmps.size) (k4:look e 4 = some (.raw (.pointer (some ⟨b,0,none⟩))))
  (k70:look e 70 = some (.vsl F.nil (encs F.l) F.l.length)) (k71:look e 71 = some (.int .i64 F.l.length)) (k72:look e 72 = some (.int .i64 0))
  (h:HSt cx ok0 w0 152 5 b l0 e [some (Enc.cells it),some (Enc.cells it.rc)] a w) {Q:Exit→Act→World→Prop}
  (hQ:∀ a' w' e' H',a'.tmps.size = a.tmps.size→a'.defers = a.defers→look e' 4 = some (.raw (.pointer (some ⟨b,0,none⟩))) →
   HSt cx ok0 w0 152 5 b (l0 ++ bodyL F.l) e' H' a' w'→Q .normal a' w'):(sR (sL tx6)).wp cx.P Q a w:=by
 have hG:=good hT
 have eB:sR (sL tx6) = .block 2 (.loop bd2):=rfl
 rw [eB]
 refine wp_block (wp_loop (fun a' w'=>∃ (k:Nat) (e':Env) (H':Heap),k≤F.l.length∧a'.tmps.size = a.tmps.size∧a'.defers = a.defers∧look e' 4 = some (.raw (.pointer (some ⟨b,0,none⟩)))∧look e' 70 = some (.vsl F.nil (encs F.l) F.l.length)∧look e' 71 = some (.int .i64 F.l.length)∧look e' 72 = some (.int .i64 k) ∧
   (H' = [some (Enc.cells it),some (Enc.cells it.rc)]∨∃ p:Pr,H' = [some (Enc.cells p)]) ∧
   HSt cx ok0 w0 152 5 b (l0 ++ bodyL (F.l.take k)) e' H' a' w') (fun a' _=>F.l.length - (intOf (a'.tmps.getD 72 undef)).toNat) ⟨0,e,_,by omega,rfl,rfl,k4,k70,k71,k72,.inl rfl,by simpa [bodyL] using h⟩ ?_)
 rintro a1 w1 ⟨k,e1,H1,hk,z1,z2,j4,j70,j71,j72,hH,h1⟩
 have hmu:=h1.slotI j72
 rw [hmu]
 have hstart:∀ (c:Bool),decide (k < F.l.length) = c→∀ K:Exit→Act→World→Prop,(∀ a' w' e' H',a'.tmps.size = a1.tmps.size→a'.defers = a1.defers→look e' 4 = some (.raw (.pointer (some ⟨b,0,none⟩)))→look e' 70 = some (.vsl F.nil (encs F.l) F.l.length)→look e' 71 = some (.int .i64 F.l.length)→look e' 72 = some (.int .i64 k)→look e' 73 = some (.bool c)→H' = [] →
   HSt cx ok0 w0 152 5 b (l0 ++ bodyL (F.l.take k)) e' H' a' w'→K .normal a' w')→(sL bd2).wp cx.P K a1 w1:=by
  intro c hc K hK
  rcases hH with rfl | ⟨p,rfl⟩
  ·refine h1.run hG (f:=64) (nt:=83) (by kernel_rfl) (by omega) ?_
   simp [sL,sR,cB,bd2,tx6,tx5,tx4,tx3,tx2,tx1,tx0,bodyOf,Tryz.f64,j4,j70,j71,j72]
   intro a2 w2 s2 d2 h2
   exact hK a2 w2 _ _ s2 d2 (by simp) (by simp) (by simp) (by simp) (by simp [hc]) rfl h2
  ·refine h1.run hG (f:=64) (nt:=83) (by kernel_rfl) (by omega) ?_
   simp [sL,sR,cB,bd2,tx6,tx5,tx4,tx3,tx2,tx1,tx0,bodyOf,Tryz.f64,j4,j70,j71,j72]
   intro a2 w2 s2 d2 h2
   exact hK a2 w2 _ _ s2 d2 (by simp) (by simp) (by simp) (by simp) (by simp [hc]) rfl h2
 refine wp_ofSeq (c:=bd2) rfl fun K1 f1 g1=>?_
 by_cases hlt:k < F.l.length
 ·refine hstart true (by simpa using hlt) K1 fun a2 w2 e2 H2 s2 d2 j4 j70 j71 j72 j73 hH2 h2=>?_
  subst hH2
  refine f1 _ _ ?_
  refine wp_ofSeq (c:=sR bd2) rfl fun K2 f2 g2=>?_
  refine h2.run hG (f:=64) (nt:=83) (by kernel_rfl) (by omega) ?_
  simp [sL,sR,cB,bd2,tx6,tx5,tx4,tx3,tx2,tx1,tx0,bodyOf,Tryz.f64,j73]
  intro a3 w3 s3 d3 h3
  refine f2 _ _ ?_
  refine wp_ofSeq (c:=sR (sR bd2)) rfl fun K3 f3 g3=>?_
  have eB1:sL (sR (sR bd2)) = .block 3 (cB (sL (sR (sR bd2)))):=rfl
  rw [eB1]
  refine wp_block (wp_ofSeq rfl fun K4 f4 g4=>?_)
  have hkL:(k:Int) < (F.l.length:Int):=by omega
  have hat:=encs_at (α:=Pr) (n:=2) rfl hlt
  have hb1:=hb F.l[k] (List.getElem_mem hlt)
  have hp1:=pair_ev F.l[k] hb1
  have hnil:F.nil = false:=Sl.nn hlt
  refine h3.run hG (f:=64) (nt:=83) (by kernel_rfl) (by omega) ?_
  simp [sL,sR,cB,bd2,tx6,tx5,tx4,tx3,tx2,tx1,tx0,bodyOf,Tryz.f64,j4,j70,j71,j72,hkL,hat,hnil]
  intro a4 w4 s4 d4 h4
  refine f4 _ _ ?_
  have eR:sR (cB (sL (sR (sR bd2)))) = .region 15 ops15 false:=rfl
  rw [eR]
  refine wp_region_list ?_
  have eo:ops15.toList = ops15.toList.take 2 ++ ops15.toList.drop 2:=(List.take_append_drop 2 _).symm
  rw [eo]
  have hll:=bodyL_le (F.l.take k) 3000 (fun p hp=>hpl p (List.mem_of_mem_take hp))
  have hl1:=hpl F.l[k] (List.getElem_mem hlt)
  rw [List.length_take] at hll
  have hsn:=bodyL_snoc hlt
  generalize F.l[k] = p at *
  refine h4.ops hG (nt:=83) (ops:=ops15) (l1:=ops15.toList.take 2) (ev':=(77,.str (pairL p)) :: (76,.agg (Enc.cells p)) :: [(8,D.optr 0 2 0),(75,D.agg (Enc.cells p)),(74,D.vptr (Enc.cells p ++ encs (List.drop (k+1) F.l))),(4,D.raw (Value.pointer (some { block:=b,off:=0 }))),(70,D.vsl false (encs F.l) F.l.length),(71,D.int IntKind.i64 F.l.length),(72,D.int IntKind.i64 k)]) (H':=[some (Enc.cells p)]) ?_ (by omega) ?_
  ·simp [ops15,rgOps,sL,sR,cB,bd2,tx6,tx5,tx4,tx3,tx2,tx1,tx0,bodyOf,Tryz.f64,evOps,guardQ,hp1]
  intro a5 w5 s5 d5 h5
  have eo2:ops15.toList.drop 2 = [(ops15.toList.drop 2).headD default]:=rfl
  rw [eo2]
  refine wp_callOp rfl rfl rfl ?_
  have q4:=h5.slot (t:=4) (v:=.pointer (some ⟨b,0,none⟩)) (by simp)
  have q77:=h5.slotS (t:=77) (s:=pairL p) (by simp)
  show Goes _ (callFunc 101 #[a5.tmps.getD 4 undef,a5.tmps.getD 77 undef]) _ _
  rw [q4,q77]
  refine (h5.write (ρ:=Tryz.layW_ren) Tryz.layW Tryz.layW_X (pairL p) ?_).mono ?_
  ·simp only [List.length_append]
   omega
  rintro v w6 ⟨h6,hv⟩
  rw [List.append_assoc,hsn] at h6
  replace h6:HSt cx ok0 w0 152 5 b (l0 ++ bodyL (F.l.take (k+1))) _ [some (Enc.cells p)] a5 w6:=h6
  have hp:=h6.put (t:=78) hv (by omega)
  show K3 .normal (a5.put (some 78) v) w6
  refine f3 _ _ ?_
  have hw:IntKind.i64.wrap ((k:Int)+1) = ((k+1:Nat):Int):=by rw [wrap_i64] <;> omega
  have z5:(a5.put (some 78) v).tmps.size = a5.tmps.size:=by simp [Act.put]
  have z6:(a5.put (some 78) v).defers = a5.defers:=rfl
  refine wp_hide fun K5 f5=>?_
  refine hp.run hG (f:=64) (nt:=83) (by kernel_rfl) (by omega) ?_
  simp [sL,sR,cB,bd2,tx6,tx5,tx4,tx3,tx2,tx1,tx0,bodyOf,Tryz.f64,hw]
  intro a7 w7 s7 d7 h7
  refine f5 .normal _ _ ?_
  have hm7:=h7.slotI (t:=72) (k:=.i64) (n:=((k+1:Nat):Int)) (by simp)
  refine ⟨⟨k+1,_,_,by omega,by omega,by rw [d7,z6,d5,d4,d3,d2,z2],?_,?_,?_,?_,?_,h7⟩,?_⟩
  ·simp
  ·simp [hnil]
  ·simp [look]
  ·simp [look]
  ·exact .inr ⟨p,rfl⟩
  ·rw [hm7]
   show F.l.length - (((k+1:Nat):Int)).toNat < F.l.length - ((k:Int)).toNat
   omega
 ·refine hstart false (by simpa using hlt) K1 fun a2 w2 e2 H2 s2 d2 j4 j70 j71 j72 j73 hH2 h2=>?_
  subst hH2
  refine f1 _ _ ?_
  have hke:k = F.l.length:=by omega
  have htk:F.l.take k = F.l:=List.take_of_length_le (by omega)
  rw [htk] at h2
  refine wp_ofSeq (c:=sR bd2) rfl fun K2 f2 g2=>?_
  refine h2.run hG (f:=64) (nt:=83) (by kernel_rfl) (by omega) ?_
  simp [sL,sR,cB,bd2,tx6,tx5,tx4,tx3,tx2,tx1,tx0,bodyOf,Tryz.f64,j73]
  intro a3 w3 s3 d3 h3
  refine g2 (.exit 2) a3 w3 (by intro h;cases h) ?_
  show Q .normal a3 w3
  exact hQ a3 w3 _ _ (by omega) (by rw [d3,d2,z2]) j4 h3
end Go.Ev.S
namespace Go.Ev
open Go Go.Proofs Go.RowKit Go.Shelf
section
variable {X:Cx} {ρ:Ren} {ok0:Nat→Prop} {w0:World} {T e:TypeId} {b:Nat} {l:List UInt8} {ev ev':Env} {H H':Heap} {a:Act} {w:World}
theorem HSt.below (h:HSt X ok0 w0 T e b l ev H a w):Below w0.heap.size w0 w:=by
 obtain ⟨ok,ι,hs,he,hev,hap⟩:=h.st
 exact ⟨hev.os,hev.tape,hev.output,hev.size,fun k hk=>hev.frame k hk fun i ds s hd=>by simp [hget] at hd⟩
theorem HSt.str (L:Lays.n169 X.P ρ) (E:Builder.Extra X.P ρ) (h:HSt X ok0 w0 (ρ.t 72) (ρ.t 5) b l ev H a w) :
  Goes X.P (callFunc (ρ.f 169) #[.pointer (some ⟨b,0,none⟩)]) w fun v w'=>v = .string ⟨l.toArray⟩∧Below w0.heap.size w0 w':=by
 have hen:∀ args w,(callFunc (ρ.f 169) args).run X.P w = .ok (.enter (ρ.f 169) args) w:=Go.Proofs.enters_of L.f169 (by kernel_rfl) rfl
 have hbs:=cov_lt h.bl (.inl rfl)
 have hb:=h.below
 have hlo:=h.lo
 unfold Goes
 rw [hen]
 refine (Any.Builder_String_any_f L E b b l w h.bl (by omega)).mono ?_
 rintro x w' ⟨rfl,-,hbel⟩
 refine ⟨_,rfl,rfl,⟨hbel.os.trans hb.os,hbel.tape.trans hb.tape,hbel.output.trans hb.output,Nat.le_trans hb.size hbel.size,fun k hk=>?_⟩⟩
 rw [hbel.block k (Nat.lt_of_lt_of_le hk hlo),hb.block k hk]
theorem pst_below (hs:Sim X ok0 w0 iota0 []) (hb:Below w0.heap.size w0 w):PSt X ok0 w0 [] [] a w :=
 ⟨⟨ok0,iota0,below_sim hs hb,fun t d h=>by simp [look] at h,below_evol (Nat.zero_le _) hb⟩⟩
theorem PSt.put (h:PSt X ok0 w0 ev H a w) {t:Nat} {d:D} {v:Value} (hd:Rep (fun _=>False) w iota0 [] d v) (ht:t < a.tmps.size):PSt X ok0 w0 ((t,d) :: ev) H (a.put (some t) v) w:=by
 obtain ⟨ok,ι,hs,he,hev⟩:=h.st
 refine ⟨⟨ok,ι,hs,?_,hev⟩⟩
 exact put_env (nt:=a.tmps.size) (dst:=some t) he ((hd.okMono fun b hb=>hb.elim).lift) (Nat.le_refl _) (by simpa [dstOk] using ht)
theorem PSt.ops (hG:Good X) (h:PSt X ok0 w0 ev H a w) {nt:Nat} {ops:Array Oper} {l1 l2:List Oper} (hc:evOps X (call X) nt false ops l1 ev H = some (ev',H')) (ht:nt≤a.tmps.size) {Q:Exit→Act→World→Prop}
  (hQ:∀ a' w',a'.tmps.size = a.tmps.size→a'.defers = a.defers→PSt X ok0 w0 ev' H' a' w'→wpList X.P ops Q l2 a' w'):wpList X.P ops Q (l1 ++ l2) a w:=by
 obtain ⟨ok,ι,hs,he,hev⟩:=h.st
 refine evOps_app (call_sound hG) hc hs he ht fun a' w' hout=>?_
 obtain ⟨t1,t2,ι',ok',s1,s2,s3⟩:=hout
 exact hQ a' w' t1 t2 ⟨⟨ok',ι',s1,s2,hev.trans (s3.mono (Nat.zero_le _))⟩⟩
theorem call_hand {f : Nat} {fn : Func} {c : Code} {args : List D} {vs : List Value} {r : D} {w : World} {ι : Iota} {ok : Nat → Prop} (hf : X.P.funcs[f]? = some fn) (hb : fn.body = some c) (hng : (fn.name == "runtime.NumGoroutine") = false) (hfree : ∀ d ∈ args, idFree d = true)
  (hs:Sim X ok w ι []) (hv:RepL ok w ι [] args vs)
  (h:∀ a,a.tmps.size = max vs.length fn.ntmps→a.defers = []→EnvRep ok w iota0 [] (argEnv 0 args) a.tmps→Sim X ok w iota0 [] →
   c.wp X.P (fun x a' w'=>(x = .normal∨x = .ret)∧a'.defers = []∧∃ e' H' ds,PSt X ok w e' H' a' w'∧resD X e' H' fn.results.toList = some ds∧packR (X.fzr f) 0 H' (oneOrTup ds) = some (r,[])) a w) :
  Goes X.P (callFunc f vs.toArray) w (CallPost X ok w ι [] r []):=by
 have henter:(callFunc f vs.toArray).run X.P w = .ok (.enter f vs.toArray) w:=Go.Proofs.enters_of hf hng hb _ _
 have hs0:Sim X ok w iota0 []:=⟨hs.okS,hs.glob,fun i j ds es b s s' hd=>by simp [hget] at hd,fun i ds hd=>by simp [hget] at hd⟩
 unfold Goes
 rw [henter]
 simp only
 refine calls_of_wp hf hb (wp_mono (h ⟨vs.toArray ++ Array.replicate (fn.ntmps - vs.toArray.size) undef,[]⟩ ?_ rfl ?_ hs0) ?_)
 ·simp
  omega
 ·intro t d ht
  obtain ⟨_,h2⟩:=argEnv_look args 0 t d ht
  rw [Nat.sub_zero] at h2
  have hlt:t < vs.length:=by rw [hv.1];exact (List.getElem?_eq_some_iff.1 h2).1
  refine ⟨by simp;omega,?_⟩
  have:=(hv.2 t d h2).free (hfree d (mem_of_get? h2)) iota0 []
  rw [Array.getD_eq_getD_getElem?,Array.getElem?_append_left (by simpa using hlt)]
  simpa [List.getD_eq_getElem?_getD] using this
 ·rintro x a' w' ⟨hex,k2,e',H1,ds,⟨ok1,ι1,k3,k4,k5⟩,hr,hp⟩
  obtain ⟨v,q1,q2⟩:=results_run (fn:=fn) k3 k4 hr
  obtain ⟨ok2,ι2,p1,p2,p3,p4⟩:=packR_rep k5.nle.2 k3 q2 hp
  have hev:=k5.trans p3
  have hpost:CallPost X ok w ι [] r [] v w':=⟨ι2,ok2,p1,p2,⟨hev.os,hev.tape,hev.output,hev.size,fun b hb _=>hev.frame b hb fun i ds s hd=>by simp [hget] at hd,hev.okU,fun b h1 h2=>(hev.okN b h1 h2).imp id fun ⟨i,ds,s,hd,_⟩=>by simp [hget] at hd,⟨Nat.le_refl _,Nat.le_refl _⟩,fun i hi=>by simp at hi,fun i ds' b s hd=>by simp [hget] at hd⟩,p4⟩
  rcases hex with rfl | rfl
  ·exact ⟨k2,v,q1,v,rfl,hpost⟩
  ·exact ⟨k2,v,q1,v,rfl,hpost⟩
end
end Go.Ev
namespace Go.Ev.S
open Go Go.Proofs Go.Ev Go.RowKit
noncomputable def tx7:Code:=sR tx6
noncomputable def tx8:Code:=sR tx7
noncomputable def ops17:Array Oper:=rgOps (sL tx7)
noncomputable def ops18:Array Oper:=rgOps (sL tx8)
set_option maxHeartbeats 4000000 in
set_option maxRecDepth 4000 in
theorem text_end [MaxL] [TxtC] (hT:TxtRun) (l:List UInt8) (hl:l.length≤1000000) (ok0:Nat→Prop) (w0:World) (hs0:Sim cx ok0 w0 iota0 []) (a:Act) (w:World) (e:Env) (b:Nat) (H:Heap) (ht:83≤a.tmps.size) (hd:a.defers = []) (k4:look e 4 = some (.raw (.pointer (some ⟨b,0,none⟩))))
  (h:HSt cx ok0 w0 152 5 b l e H a w) {Q:Exit→Act→World→Prop}
  (hQ:∀ a' w' e' H',a'.defers = []→look e' 2 = some (.osl 0 (l.length+1) 0 (l.length+1) 1)→H' = [some (ofBytes (l ++ [10]))]→PSt cx ok0 w0 e' H' a' w'→Q .ret a' w'):tx7.wp cx.P Q a w:=by
 have hG:=good hT
 refine wp_ofSeq (c:=tx7) rfl fun K1 f1 g1=>?_
 have eR:sL tx7 = .region 17 ops17 false:=rfl
 rw [eR]
 refine wp_region_list ?_
 have eo:ops17.toList = [(ops17.toList).headD default]:=rfl
 rw [eo]
 refine wp_callOp rfl rfl rfl ?_
 have q4:=h.slot k4
 show Goes _ (callFunc 101 #[a.tmps.getD 4 undef,.string ⟨#[10]⟩]) _ _
 rw [q4]
 refine (h.write (ρ:=Tryz.layW_ren) Tryz.layW Tryz.layW_X [10] ?_).mono ?_
 ·simp only [List.length_cons,List.length_nil]
  omega
 rintro v w1 ⟨h1,hv⟩
 replace h1:HSt cx ok0 w0 152 5 b (l ++ [10]) e H a w1:=h1
 have hp:=h1.put (t:=80) hv (by omega)
 show K1 .normal (a.put (some 80) v) w1
 refine f1 _ _ ?_
 have z5:(a.put (some 80) v).tmps.size = a.tmps.size:=by simp [Act.put]
 have z6:(a.put (some 80) v).defers = a.defers:=rfl
 have k4':look ((80,.tup [.int .i64 (([10]:List UInt8).length:Nat),.nili]) :: e) 4 = some (.raw (.pointer (some ⟨b,0,none⟩))):=by simpa [look] using k4
 generalize ((80,D.tup [.int .i64 (([10]:List UInt8).length:Nat),.nili]) :: e) = e1 at *
 have q4':=hp.slot k4'
 generalize a.put (some 80) v = a1 at *
 refine wp_ofSeq (c:=tx8) rfl fun K2 f2 g2=>?_
 have eR:sL tx8 = .region 18 ops18 false:=rfl
 rw [eR]
 refine wp_region_list ?_
 have eo:ops18.toList = (ops18.toList).headD default :: (ops18.toList.drop 1):=rfl
 rw [eo]
 refine wp_callOp rfl rfl rfl ?_
 show Goes _ (callFunc 103 #[a1.tmps.getD 4 undef]) _ _
 rw [q4']
 refine (hp.str (ρ:=Tryz.lays169_ren) Tryz.lays169 Tryz.Builder_Extra_169).mono ?_
 rintro v2 w2 ⟨rfl,hb2⟩
 have hp2:=(pst_below (a:=a1) hs0 hb2).put (t:=81) (.str (l ++ [10])) (by omega)
 show wpList _ _ _ (ops18.toList.drop 1) (a1.put (some 81) _) w2
 have z7:(a1.put (some 81) (.string ⟨(l ++ [10]).toArray⟩)).tmps.size = a1.tmps.size:=by simp [Act.put]
 have z8:(a1.put (some 81) (.string ⟨(l ++ [10]).toArray⟩)).defers = a1.defers:=rfl
 have eo:ops18.toList.drop 1 = ops18.toList.drop 1 ++ []:=(List.append_nil _).symm
 rw [eo]
 refine hp2.ops hG (nt:=83) (ops:=ops18) (l1:=ops18.toList.drop 1) (ev':=[(2,.osl 0 (l.length+1) 0 (l.length+1) 1),(82,.osl 0 (l.length+1) 0 (l.length+1) 1),(81,.str (l ++ [10]))]) (H':=[some (ofBytes (l ++ [10]))]) ?_ (by omega) ?_
 ·simp [ops18,rgOps,sL,sR,tx8,tx7,tx6,tx5,tx4,tx3,tx2,tx1,tx0,bodyOf,Tryz.f64,evOps,guardQ]
 intro a3 w3 s3 d3 h3
 show K2 .normal a3 w3
 refine f2 _ _ ?_
 show (Code.ret).wp cx.P Q a3 w3
 exact wp_ret (hQ a3 w3 _ _ (by rw [d3,z8,z6,hd]) (by simp [look]) rfl h3)
end Go.Ev.S
namespace Go.Ev.S
open Go Go.Proofs Go.Ev Go.RowKit
theorem prOk_b {it:It} (hr:recOk it = true):it.rc.fields.l.length≤16∧(∀ p∈it.rc.fields.l,PrB p)∧∀ p∈it.rc.fields.l,(pairL p).length≤400:=by
 unfold recOk at hr
 simp only [Bool.and_eq_true,decide_eq_true_eq,List.all_eq_true] at hr
 have h:∀ p∈it.rc.fields.l,p.name.length≤64∧p.value.length≤256:=by
  intro p hp
  have:=hr.2 p hp
  unfold prOk at this
  simp only [Bool.and_eq_true,decide_eq_true_eq] at this
  refine ⟨?_,this.2⟩
  have h1:=this.1
  unfold nameOk at h1
  split at h1
  ·cases h1
  ·rename_i c l e
   simp only [Bool.and_eq_true,decide_eq_true_eq] at h1
   rw [e]
   exact h1.1.1
 refine ⟨hr.1.2,fun p hp=>?_,fun p hp=>?_⟩
 ·obtain ⟨h1,h2⟩:=h p hp
  exact ⟨by omega,by omega⟩
 ·obtain ⟨h1,h2⟩:=h p hp
  have:=pairL_len p
  omega
theorem sixL_le (it:It) (_:it.Ok):∀ s∈sixL it,s.length≤300:=by
 have l0:=(showL_len (cOfP it.id it.rc)).2
 have l4:=hexs_len it.id.l
 have l5:=hexs_len it.rc.boot.l
 rw [it.id.h] at l4
 rw [it.rc.boot.h] at l5
 have d1:=dec_len it.rc.real.toNat
 have d2:=dec_len it.rc.mono.toNat
 have d3:=dec_len it.rc.seq.toNat
 intro s hs
 simp only [sixL,List.mem_cons,List.not_mem_nil,or_false] at hs
 rcases hs with rfl | rfl | rfl | rfl | rfl | rfl <;> simp only [List.length_append,kPlace,kReal,kMono,kSeq,kId,kBoot,List.length_cons,List.length_nil] <;> omega
set_option maxHeartbeats 4000000 in
set_option maxRecDepth 4000 in
theorem text_body [MaxL] [TxtC] (hT:TxtRun) (it:It) (hi:it.Ok) (hg:it.gap = false) (hr:recOk it = true) (ok0:Nat→Prop) (w0:World) (a:Act) (hs:Sim cx ok0 w0 iota0 []) (he:EnvRep ok0 w0 iota0 [] (argEnv 0 [.agg (Enc.cells it)]) a.tmps) (ht:83≤a.tmps.size) (hd:a.defers = []) :
  tx0.wp cx.P (fun x a' w'=>x = .ret∧a'.defers = []∧∃ e' H',look e' 2 = some (.osl 0 (textR it).length 0 (textR it).length 1)∧H' = [some (ofBytes (textR it))]∧PSt cx ok0 w0 e' H' a' w') a w0:=by
 obtain ⟨hn,hb,hpl⟩:=prOk_b hr
 have h6:(sixL it).length = 6:=rfl
 have hsl:=sixL_le it hi
 have hll:=headL_le (sixL it) hsl
 have hbl:=bodyL_le it.rc.fields.l 400 hpl
 refine text_pre hT it hg hr hb (by omega) ok0 w0 a hs he ht fun a1 w1 e1 z1 y1 k3 k1 h1=>?_
 refine text_make hT it ok0 w0 a1 w1 e1 (by omega) k3 k1 h1 fun a2 w2 e2 b z2 y2 k3 k1 k4 h2=>?_
 refine sub5 (text_six hT it hi hb (by omega) ok0 w0 a2 w2 e2 b (by omega) k3 k1 k4 h2 fun a3 w3 e3 z3 y3 k3 k4 k59 k60 k61 h3=>?_)
 show (sR (sL tx5)).wp _ _ _ _
 refine text_loop1 hT (sixL it) h6 hsl ok0 w0 a3 w3 e3 b _ rfl (by omega) k3 k4 k59 k60 k61 h3 fun a4 w4 e4 z4 y4 k3 k4 h4=>?_
 show (sR tx5).wp _ _ _ _
 refine sub6 (text_12 hT it ok0 w0 a4 w4 e4 b _ (by omega) k3 k4 h4 fun a5 w5 e5 z5 y5 k4 k70 k71 k72 h5=>?_)
 show (sR (sL tx6)).wp _ _ _ _
 refine text_loop2 hT it _ (by omega) it.rc.fields hn hb (fun p hp=>Nat.le_trans (hpl p hp) (by omega)) ok0 w0 a5 w5 e5 b (by omega) k4 k70 k71 k72 h5 fun a6 w6 e6 H6 z6 y6 k4 h6=>?_
 show tx7.wp _ _ _ _
 refine text_end hT _ ?_ ok0 w0 hs a6 w6 e6 b H6 (by omega) (by simp [y6,y5,y4,y3,y2,y1,hd]) k4 h6 fun a7 w7 e7 H7 y7 k2 hH h7=>?_
 ·rw [List.length_append]
  omega
 ·have e1:headL (sixL it) ++ bodyL it.rc.fields.l ++ [10] = textR it:=rfl
  have e2:(headL (sixL it) ++ bodyL it.rc.fields.l).length+1 = (textR it).length:=by rw [← e1,List.length_append,List.length_append,List.length_append];rfl
  rw [e2] at k2
  rw [e1] at hH
  show _∧_
  exact ⟨rfl,y7,e7,H7,k2,hH,h7⟩
end Go.Ev.S
namespace Go.Ev.S
open Go Go.Proofs Go.Ev Go.RowKit
theorem encs_inj:∀ {a b:List Pr},encs a = encs b→a = b
 | [],[],_=>rfl
 | [],p :: l,h=>by simp [encs_cons,Pr.cells] at h
 | p :: l,[],h=>by simp [encs_cons,Pr.cells] at h
 | p :: l,q :: m,h=>by
  obtain ⟨pn,pv⟩:=p
  obtain ⟨qn,qv⟩:=q
  simp only [encs_cons,Pr.cells,List.cons_append,List.nil_append,List.cons.injEq,D.str.injEq] at h
  obtain ⟨rfl,rfl,h⟩:=h
  rw [encs_inj h]
theorem ofB_inj:∀ {a b:List UInt8},ofBytes a = ofBytes b→a = b
 | [],[],_=>rfl
 | [],p :: l,h=>by simp [ofBytes] at h
 | p :: l,[],h=>by simp [ofBytes] at h
 | p :: l,q :: m,h=>by
  simp only [ofBytes,List.map_cons,List.cons.injEq,D.int.injEq,true_and] at h
  obtain ⟨h1,h2⟩:=h
  have h3:p = q:=UInt8.toNat_inj.1 (by omega)
  rw [ofB_inj h2,h3]
theorem id_inj {a b:ID} (h:ofBytes a.l = ofBytes b.l):a = b:=by
 obtain ⟨a,ha⟩:=a
 obtain ⟨b,hb⟩:=b
 have e:a = b:=ofB_inj h
 subst e
 rfl
theorem it_inj {a b:It} (h:Enc.cells a = Enc.cells b):a = b:=by
 obtain ⟨ai,ag,af,at',⟨a1,ar,am,ab,⟨an,al,ah⟩⟩⟩:=a
 obtain ⟨bi,bg,bf,bt,⟨b1,br,bm,bb,⟨bn,bl,bh⟩⟩⟩:=b
 have h1:=congrArg (List.take 16) h
 have h2:=congrArg (List.drop 16) h
 have h3:=congrArg (fun l=>(List.drop 22 l).take 16) h
 have h4:=congrArg (List.drop 38) h
 rw [It.t16,It.t16] at h1
 rw [It.d16,It.d16] at h2
 simp [It.d22] at h3
 simp only [It.d38,List.cons.injEq,D.vsl.injEq,and_true] at h4
 have e1:=id_inj h1
 have e3:=id_inj h3
 obtain ⟨e4,e5,-⟩:=h4
 have e6:=encs_inj e5
 simp only [List.cons.injEq,D.bool.injEq,D.int.injEq,true_and] at h2
 obtain ⟨x1,x2,x3,x4,x5,x6,-⟩:=h2
 subst_vars
 simp_all
open Classical in
noncomputable def conText (args:List D) (H:Heap):Option (D × Heap) :=
 if h:H = []∧∃ it:It,args = [.agg (Enc.cells it)]∧it.Ok∧it.gap = false∧recOk it = true then some (.vsl false (ofBytes (textR h.2.choose)) (textR h.2.choose).length,[]) else none
theorem conText_right {it:It} (hi:it.Ok) (hg:it.gap = false) (hr:recOk it = true):conText [.agg (Enc.cells it)] [] = some (.vsl false (ofBytes (textR it)) (textR it).length,[]):=by
 have h:([]:Heap) = []∧∃ it':It,[D.agg (Enc.cells it)] = [.agg (Enc.cells it')]∧it'.Ok∧it'.gap = false∧recOk it' = true:=⟨rfl,it,rfl,hi,hg,hr⟩
 unfold conText
 rw [dif_pos h]
 have e:it = h.2.choose:=by
  have:=h.2.choose_spec.1
  injection this with this _
  injection this with this
  exact it_inj this
 rw [← e]
theorem conText_none {it:It} (h:it.gap = true∨recOk it = false):conText [.agg (Enc.cells it)] [] = none:=by
 unfold conText
 rw [dif_neg]
 rintro ⟨-,it',e,-,hg,hr⟩
 simp only [List.cons.injEq,D.agg.injEq,and_true] at e
 have:=it_inj e
 subst this
 rcases h with h | h
 ·rw [hg] at h;cases h
 ·rw [hr] at h;cases h
theorem conText_inv {args:List D} {H:Heap} {q:D × Heap} (h:conText args H = some q):H = []∧∃ it:It,args = [.agg (Enc.cells it)]∧it.Ok∧it.gap = false∧recOk it = true∧q = (.vsl false (ofBytes (textR it)) (textR it).length,[]):=by
 unfold conText at h
 split at h
 ·rename_i hx
  have hs:=hx.2.choose_spec
  exact ⟨hx.1,hx.2.choose,hs.1,hs.2.1,hs.2.2.1,hs.2.2.2,(Option.some.inj h).symm⟩
 ·cases h
@[instance_reducible] def txt0:TxtC:=⟨fun _ _ _=>none⟩
theorem txt0_run [MaxL]:@TxtRun _ txt0:=fun h=>by cases h
set_option maxRecDepth 4000 in
theorem conText_run [MaxL] {T:TxtC} {args:List D} {H:Heap} {r:D} {H':Heap} (h:conText args H = some (r,H')) {ok:Nat→Prop} {w:World} {ι:Iota} {vs:List Value} (hs:Sim (@cx _ T) ok w ι H) (hv:RepL ok w ι H args vs):Goes Tryz.prog (callFunc 64 vs.toArray) w (CallPost (@cx _ T) ok w ι H r H'):=by
 obtain ⟨rfl,it,rfl,hi,hg,hr,e⟩:=conText_inv h
 injection e with e1 e2
 subst e1
 subst e2
 have h0:=@text_body _ txt0 txt0_run it hi hg hr
 have:=call_hand (X:=@cx _ txt0) (f:=64) (c:=tx0) (r:=.vsl false (ofBytes (textR it)) (textR it).length) Tryz.func64 rfl rfl (by intro d hd;simp only [List.mem_singleton] at hd;subst hd;simp [idFree]) ⟨hs.okS,hs.glob,hs.inj,hs.blk⟩ hv fun a z1 z2 he hs0=>wp_mono (h0 ok w a hs0 he (by rw [z1];exact Nat.le_max_right _ _) z2) ?_
 ·refine this.mono ?_
  rintro v w' ⟨ι',ok',k1,k2,k3,k4⟩
  exact ⟨ι',ok',⟨k1.okS,k1.glob,k1.inj,k1.blk⟩,k2,k3,k4⟩
 ·rintro x a' w' ⟨rfl,y1,e',H',k2,rfl,hp⟩
  refine ⟨.inr rfl,y1,e',_,[.osl 0 (textR it).length 0 (textR it).length 1],hp,?_,?_⟩
  ·simp [Tryz.f64,resD,k2]
  ·simp [packR,oneOrTup]
end Go.Ev.S
namespace Go.Ev
open Go Go.Proofs Go.RowKit Go.Shelf
def cL:Code→Code
 | .seq a _=>a
 | .cond _ a _=>a
 | c=>c
def cR:Code→Code
 | .seq _ b=>b
 | .cond _ _ b=>b
 | c=>c
def cOps:Code→Array Oper
 | .region _ ops _=>ops
 | _=>#[]
theorem wp_ofSeq' {P:Program} {c:Code} {Q:Exit→Act→World→Prop} {a:Act} {w:World} (hc:c = .seq (cL c) (cR c)) (h:∀ K:Exit→Act→World→Prop,(∀ a w,(cR c).wp P Q a w→K .normal a w)→(∀ x a w,x≠.normal→Q x a w→K x a w)→(cL c).wp P K a w):c.wp P Q a w:=by
 rw [hc]
 refine wp_seq (h _ (fun a w h=>h) fun x a w hx hq=>?_)
 cases x <;> first | exact absurd rfl hx | exact hq
theorem wp_rangeOp {P:Program} {ops:Array Oper} {Q:Exit→Act→World→Prop} {r:List Oper} {o:Oper} {t:TypeId} {x:Operand} {s:ByteArray} {a:Act} {w:World} (hg:o.guard = none) (ho:o.op = .range t x) (hx:a.eval x = .string s) (ht:P.underlying t = some .string)
  (h:wpList P ops Q r (a.put o.dst (.pointer (some ⟨w.heap.size,0,none⟩))) (w.iter s 0)):wpList P ops Q (o :: r) a w:=by
 have hw:Region.wanted o (yielded ops a.tmps) = true:=by unfold Region.wanted;rw [hg]
 simp only [wpList,hw,if_true]
 refine .inl ?_
 unfold Oper.wp
 refine Goes.upon (Goes.value (v:=.pointer (some ⟨w.heap.size,0,none⟩)) (w':=w.iter s 0) ?_ h)
 simp [execOp,ho,hx,run_range_string w t s ht]
theorem run_next_at {P:Program} {w:World} {b:Nat} {s:ByteArray} {pos:Nat} {ty:TypeId} (hb:w.heap[b]? = some (.stringIter s pos)) (h:pos < s.size) {c n:Nat} (hd:Utf8.decode s pos = (c,n)) :
  (Instr.next (.pointer (some ⟨b,0,none⟩)) true ty).run P w = .ok (.tuple #[.bool true,.int .i64 pos,.int .i32 c]) { w with heap:=w.heap.setIfInBounds b (.stringIter s (pos+n)) }:=by
 simp [Instr.next,getObj,setObj,Sem.run,hb,h,hd,goInt]
theorem run_next_over {P:Program} {w:World} {b:Nat} {s:ByteArray} {pos:Nat} {ty:TypeId} (hb:w.heap[b]? = some (.stringIter s pos)) (h:¬ pos < s.size) :
  (Instr.next (.pointer (some ⟨b,0,none⟩)) true ty).run P w = .ok (.tuple #[.bool false]) w:=by
 simp [Instr.next,getObj,Sem.run,hb,h]
theorem wp_nextOp {P:Program} {ops:Array Oper} {Q:Exit→Act→World→Prop} {r:List Oper} {o:Oper} {x:Operand} {b pos c n:Nat} {s:ByteArray} {a:Act} {w:World} (hg:o.guard = none) (ho:o.op = .next x true) (hx:a.eval x = .pointer (some ⟨b,0,none⟩))
  (hb:w.heap[b]? = some (.stringIter s pos)) (hp:pos < s.size) (hd:Utf8.decode s pos = (c,n))
  (h:wpList P ops Q r (a.put o.dst (.tuple #[.bool true,.int .i64 pos,.int .i32 c])) { w with heap:=w.heap.setIfInBounds b (.stringIter s (pos+n)) }):wpList P ops Q (o :: r) a w:=by
 have hw:Region.wanted o (yielded ops a.tmps) = true:=by unfold Region.wanted;rw [hg]
 simp only [wpList,hw,if_true]
 refine .inl ?_
 unfold Oper.wp
 refine Goes.upon (Goes.value (v:=.tuple #[.bool true,.int .i64 pos,.int .i32 c]) ?_ h)
 simp [execOp,ho,hx,run_next_at hb hp hd]
theorem wp_overOp {P:Program} {ops:Array Oper} {Q:Exit→Act→World→Prop} {r:List Oper} {o:Oper} {x:Operand} {b pos:Nat} {s:ByteArray} {a:Act} {w:World} (hg:o.guard = none) (ho:o.op = .next x true) (hx:a.eval x = .pointer (some ⟨b,0,none⟩))
  (hb:w.heap[b]? = some (.stringIter s pos)) (hp:¬ pos < s.size)
  (h:wpList P ops Q r (a.put o.dst (.tuple #[.bool false])) w):wpList P ops Q (o :: r) a w:=by
 have hw:Region.wanted o (yielded ops a.tmps) = true:=by unfold Region.wanted;rw [hg]
 simp only [wpList,hw,if_true]
 refine .inl ?_
 unfold Oper.wp
 refine Goes.upon (Goes.value (v:=.tuple #[.bool false]) ?_ h)
 simp [execOp,ho,hx,run_next_over hb hp]
structure ISt (X:Cx) (ok0:Nat→Prop) (w0:World) (b:Nat) (s:ByteArray) (pos:Nat) (ev:Env) (H:Heap) (a:Act) (w:World):Prop where
 st:∃ ok ι,Sim X ok w ι H∧EnvRep ok w ι H ev a.tmps∧Evol 0 ok0 w0 iota0 [] ok w ι H∧¬ ok b∧∀ i ds s,hget H i = some ds→ι i≠some (b,s)
 lo:w0.heap.size≤b
 it:w.heap[b]? = some (.stringIter s pos)
section
variable {X:Cx} {ok0:Nat→Prop} {w0:World} {b pos:Nat} {s:ByteArray} {ev ev':Env} {H H':Heap} {a:Act} {w:World}
theorem ISt.pst (h:ISt X ok0 w0 b s pos ev H a w):PSt X ok0 w0 ev H a w:=by
 obtain ⟨ok,ι,hs,he,hev,_⟩:=h.st
 exact ⟨⟨ok,ι,hs,he,hev⟩⟩
theorem ISt.out {ok:Nat→Prop} {ι:Iota} (_:Sim X ok w ι H) (hev:Evol 0 ok0 w0 iota0 [] ok w ι H) (hap:¬ ok b∧∀ i ds s,hget H i = some ds→ι i≠some (b,s))
  (hlo:w0.heap.size≤b) (hit:w.heap[b]? = some (.stringIter s pos)) {n:Nat} {a':Act} {w':World} (ho:Out X n ok w ι H a ev' H' a' w'):ISt X ok0 w0 b s pos ev' H' a' w':=by
 obtain ⟨t1,t2,ι',ok',s1,s2,s3⟩:=ho
 have hlt:=lt_of_heap hit
 have hk:w'.heap[b]? = w.heap[b]?:=s3.frame b hlt hap.2
 refine ⟨⟨ok',ι',s1,s2,hev.trans (s3.mono (Nat.zero_le _)),fun hok=>?_,fun i ds z hd he=>?_⟩,hlo,by rw [hk];exact hit⟩
 ·rcases s3.okN b hok hlt with h | ⟨i,ds,z,hd,he⟩
  ·exact hap.1 h
  ·exact hap.2 i ds z hd he
 ·obtain ⟨j,ds',z',hd',he'⟩:=s3.own i ds b z hd he hlt
  exact hap.2 j ds' z' hd' he'
theorem ISt.run (hG:Good X) (h:ISt X ok0 w0 b s pos ev H a w) {f nt:Nat} {c:Code} (hok:okCode X f c = true) (ht:nt≤a.tmps.size) {K:Exit→Act→World→Prop}
  (hR:Run X f nt 0 (fun ex e1 H1=>∀ a' w',a'.tmps.size = a.tmps.size→a'.defers = a.defers→ISt X ok0 w0 b s pos e1 H1 a' w'→K (exOf ex) a' w') [] (Ev.code X f nt 0 (stripC c) ev H)):c.wp X.P K a w:=by
 obtain ⟨ex,e1,H1,h1,h2⟩:=run_code hR
 rw [code_strip] at h1
 obtain ⟨ok,ι,hs,he,hev,hap⟩:=h.st
 refine wp_mono (code_sound hG h1 hok (Nat.zero_le _) hs he ht) ?_
 rintro x a' w' ⟨rfl,hout⟩
 exact h2 a' w' hout.1 hout.2.1 (ISt.out hs hev hap h.lo h.it hout)
theorem ISt.ops (hG:Good X) (h:ISt X ok0 w0 b s pos ev H a w) {nt:Nat} {ops:Array Oper} {l1 l2:List Oper} (hc:evOps X (call X) nt false ops l1 ev H = some (ev',H')) (ht:nt≤a.tmps.size) {Q:Exit→Act→World→Prop}
  (hQ:∀ a' w',a'.tmps.size = a.tmps.size→a'.defers = a.defers→ISt X ok0 w0 b s pos ev' H' a' w'→wpList X.P ops Q l2 a' w'):wpList X.P ops Q (l1 ++ l2) a w:=by
 obtain ⟨ok,ι,hs,he,hev,hap⟩:=h.st
 exact evOps_app (call_sound hG) hc hs he ht fun a' w' hout=>hQ a' w' hout.1 hout.2.1 (ISt.out hs hev hap h.lo h.it hout)
theorem ISt.slot (h:ISt X ok0 w0 b s pos ev H a w) {t:Nat} {v:Value} (ht:look ev t = some (.raw v)):a.tmps.getD t undef = v:=by
 obtain ⟨ok,ι,hs,he,hev,hap⟩:=h.st
 have:=(he t _ ht).2
 generalize a.tmps.getD t undef = x at this ⊢
 cases this
 rfl
theorem ISt.put (h:ISt X ok0 w0 b s pos ev H a w) {t:Nat} {d:D} {v:Value} (hd:Rep (fun _=>False) w iota0 [] d v) (ht:t < a.tmps.size):ISt X ok0 w0 b s pos ((t,d) :: ev) H (a.put (some t) v) w:=by
 obtain ⟨ok,ι,hs,he,hev,hap⟩:=h.st
 refine ⟨⟨ok,ι,hs,?_,hev,hap⟩,h.lo,h.it⟩
 exact put_env (nt:=a.tmps.size) (dst:=some t) he ((hd.okMono fun b hb=>hb.elim).lift) (Nat.le_refl _) (by simpa [dstOk] using ht)
theorem PSt.slotS (h:PSt X ok0 w0 ev H a w) {t:Nat} {l:List UInt8} (ht:look ev t = some (.str l)):a.tmps.getD t undef = .string ⟨l.toArray⟩:=by
 obtain ⟨ok,ι,hs,he,hev⟩:=h.st
 have:=(he t _ ht).2
 generalize a.tmps.getD t undef = x at this ⊢
 cases this
 rfl
theorem PSt.slotB (h:PSt X ok0 w0 ev H a w) {t:Nat} {c:Bool} (ht:look ev t = some (.bool c)):a.tmps.getD t undef = .bool c:=by
 obtain ⟨ok,ι,hs,he,hev⟩:=h.st
 have:=(he t _ ht).2
 generalize a.tmps.getD t undef = x at this ⊢
 cases this
 rfl
theorem PSt.slotI (h:PSt X ok0 w0 ev H a w) {t:Nat} {k:IntKind} {n:Int} (ht:look ev t = some (.int k n)):a.tmps.getD t undef = .int k n:=by
 obtain ⟨ok,ι,hs,he,hev⟩:=h.st
 have:=(he t _ ht).2
 generalize a.tmps.getD t undef = x at this ⊢
 cases this
 rfl
theorem PSt.iter (h:PSt X ok0 w0 ev H a w) {t nt:Nat} (s:ByteArray) (ht:t < nt) (hn:nt≤a.tmps.size) :
  ISt X ok0 w0 w.heap.size s 0 ((t,.raw (.pointer (some ⟨w.heap.size,0,none⟩))) :: ev) H (a.put (some t) (.pointer (some ⟨w.heap.size,0,none⟩))) (w.iter s 0):=by
 obtain ⟨ok,ι,hs,he,hev⟩:=h.st
 have hold:∀ k,k < w.heap.size→(w.iter s 0).heap[k]? = w.heap[k]?:=fun k hk=>Lib.alloc_old w _ k hk
 have hsz:w.heap.size≤(w.iter s 0).heap.size:=by simp [World.iter]
 have hok:∀ k,ok k→(w.iter s 0).heap[k]? = w.heap[k]?:=fun k hk=>hold k (hs.okS k hk)
 refine ⟨⟨ok,ι,sim_same hs hsz hok fun i ds c s hd hi=>hold c (hs.lt hd hi),?_,?_,?_,?_⟩,hev.size,World.iter_heap w s 0⟩
 ·exact put_env (dst:=some t) (env_same he hok) (.raw _) hn (by simpa [dstOk] using ht)
 ·refine ⟨hev.os,hev.tape,hev.output,Nat.le_trans hev.size hsz,fun k hk hno=>?_,hev.okU,hev.okN,hev.nle,hev.heap,hev.own⟩
  rw [hold k (Nat.lt_of_lt_of_le hk hev.size)]
  exact hev.frame k hk hno
 ·intro hk
  have:=hs.okS _ hk
  omega
 ·intro i ds s hd hi
  have:=hs.lt hd hi
  omega
theorem ISt.step (h:ISt X ok0 w0 b s pos ev H a w) (pos':Nat):ISt X ok0 w0 b s pos' ev H a { w with heap:=w.heap.setIfInBounds b (.stringIter s pos') }:=by
 obtain ⟨ok,ι,hs,he,hev,hnb,hno⟩:=h.st
 have hlt:=lt_of_heap h.it
 have hold:∀ k,k≠b→({ w with heap:=w.heap.setIfInBounds b (.stringIter s pos') }:World).heap[k]? = w.heap[k]?:=fun k hk=>Array.getElem?_setIfInBounds_ne (Ne.symm hk)
 have hsz:({ w with heap:=w.heap.setIfInBounds b (.stringIter s pos') }:World).heap.size = w.heap.size:=by simp
 have hok:∀ k,ok k→({ w with heap:=w.heap.setIfInBounds b (.stringIter s pos') }:World).heap[k]? = w.heap[k]?:=fun k hk=>hold k (by rintro rfl;exact hnb hk)
 have hlo:=h.lo
 refine ⟨⟨ok,ι,sim_same hs (by omega) hok fun i ds c z hd hi=>hold c (by rintro rfl;exact hno i ds z hd hi),env_same he hok,?_,hnb,hno⟩,hlo,by simp [hlt]⟩
 refine ⟨hev.os,hev.tape,hev.output,by rw [hsz];exact hev.size,fun k hk hn=>?_,hev.okU,hev.okN,hev.nle,hev.heap,hev.own⟩
 rw [hold k (by omega)]
 exact hev.frame k hk hn
end
end Go.Ev
namespace Go.Ev.S
open Go Go.Proofs Go.Ev Go.RowKit
noncomputable def ia0:Code:=bodyOf Tryz.f200
def itPos (w:World) (b:Nat):Nat:=match w.heap[b]? with
 | some (.stringIter _ p)=>p
 | _=>0
noncomputable def iaA0:Code:=cAt [1,1,0,1,0,1,0,1,0,0] ia0
noncomputable def iaAB:Code:=cAt [1,1,0,1,0,1,0,1,0,0,1,0,0] ia0
noncomputable def iaAo:Array Oper:=cOps (cL iaA0)
noncomputable def iaAp:Array Oper:=cOps (cL iaAB)
set_option maxHeartbeats 4000000 in
set_option maxRecDepth 4000 in
theorem iaA_ev [MaxL] [TxtC] (hT:TxtRun) (ok0:Nat→Prop) (w0:World) (a:Act) (w:World) (e:Env) (ht:129≤a.tmps.size) (k1:look e 1 = some (.str [61,10]))
  (h:PSt cx ok0 w0 e [] a w) {Q:Exit→Act→World→Prop}
  (hQ:∀ a' w' e',a'.tmps.size = a.tmps.size→a'.defers = a.defers→PSt cx ok0 w0 e' [] a' w'→Q .normal a' w'):iaA0.wp cx.P Q a w:=by
 have hG:=good hT
 refine wp_ofSeq' (c:=iaA0) rfl fun K1 f1 g1=>?_
 have eR:cL iaA0 = .region 6 iaAo false:=rfl
 rw [eR]
 refine wp_region_list ?_
 have eo:iaAo.toList = [(iaAo.toList).headD default] ++ [((iaAo.toList).drop 1).headD default]:=rfl
 rw [eo]
 refine h.ops hG (nt:=129) (ev':=(27,.str [61,10]) :: e) (H':=[]) ?_ ht ?_
 ·simp [iaAo,iaA0,ia0,cOps,cL,bodyOf,Tryz.f200,evOps,guardQ,k1]
 intro a1 w1 z1 d1 h1
 refine wp_rangeOp (t:=9) (x:=.tmp 27) (s:=⟨#[61,10]⟩) rfl rfl (h1.slotS (l:=[61,10]) (by simp [look])) Tryz.underlying9 ?_
 have h2:=h1.iter (t:=28) (nt:=129) ⟨#[61,10]⟩ (by decide) (by omega)
 show K1 .normal (a1.put (some 28) (.pointer (some ⟨w1.heap.size,0,none⟩))) (w1.iter ⟨#[61,10]⟩ 0)
 refine f1 _ _ ?_
 have z2:(a1.put (some 28) (.pointer (some ⟨w1.heap.size,0,none⟩))).tmps.size = a.tmps.size:=by simp [Act.put,z1]
 have d2:(a1.put (some 28) (.pointer (some ⟨w1.heap.size,0,none⟩))).defers = a.defers:=by simp [Act.put,d1]
 have hin:∃ p,p≤2∧∃ e',look e' 28 = some (.raw (.pointer (some ⟨w1.heap.size,0,none⟩)))∧ISt cx ok0 w0 w1.heap.size ⟨#[61,10]⟩ p e' [] (a1.put (some 28) (.pointer (some ⟨w1.heap.size,0,none⟩))) (w1.iter ⟨#[61,10]⟩ 0):=⟨0,by omega,_,by simp [look],h2⟩
 generalize (a1.put (some 28) (.pointer (some ⟨w1.heap.size,0,none⟩))) = a2 at *
 generalize w1.iter ⟨#[61,10]⟩ 0 = w2 at *
 generalize w1.heap.size = b at *
 clear h2 h1
 have eB:cR iaA0 = .block 0 (.loop iaAB):=rfl
 rw [eB]
 refine wp_block (wp_loop (fun a' w'=>a'.tmps.size = a.tmps.size∧a'.defers = a.defers∧∃ p,p≤2∧∃ e',look e' 28 = some (.raw (.pointer (some ⟨b,0,none⟩)))∧ISt cx ok0 w0 b ⟨#[61,10]⟩ p e' [] a' w') (fun _ w'=>2 - itPos w' b) ⟨z2,d2,hin⟩ ?_)
 rintro a3 w3 ⟨z3,d3,p,hp,e3,j28,h3⟩
 have hmu:itPos w3 b = p:=by unfold itPos;rw [h3.it]
 rw [hmu]
 refine wp_ofSeq' (c:=iaAB) rfl fun K2 f2 g2=>?_
 have eR:cL iaAB = .region 7 iaAp false:=rfl
 rw [eR]
 refine wp_region_list ?_
 have eo:iaAp.toList = (iaAp.toList).headD default :: (iaAp.toList).drop 1:=rfl
 rw [eo]
 have q28:=h3.slot j28
 rcases Nat.lt_or_ge p 2 with hlt | hge
 ·obtain ⟨c,hc,hd⟩:∃ c,(c = 61∨c = 10)∧Utf8.decode ⟨#[61,10]⟩ p = (c,1):=by
   match p,hlt with
   | 0,_=>exact ⟨61,.inl rfl,by decide⟩
   | 1,_=>exact ⟨10,.inr rfl,by decide⟩
  refine wp_nextOp (x:=.tmp 28) (b:=b) (pos:=p) (c:=c) (n:=1) (s:=⟨#[61,10]⟩) rfl rfl q28 h3.it hlt hd ?_
  have h4:=(h3.step (p+1)).put (t:=29) (d:=.tup [.bool true,.int .i64 p,.int .i32 c]) (v:=.tuple #[.bool true,.int .i64 p,.int .i32 c]) (.tup rfl fun j d hj=>by
   match j,hj with
   | 0,hj=>simp at hj;subst hj;exact .bool _
   | 1,hj=>simp at hj;subst hj;exact .int .i64 _
   | 2,hj=>simp at hj;subst hj;exact .int .i32 _
   | j+3,hj=>simp at hj) (by omega)
  show wpList _ _ _ ((iaAp.toList).drop 1) (a3.put (some 29) _) _
  have z4:(a3.put (some 29) (.tuple #[.bool true,.int .i64 p,.int .i32 c])).tmps.size = a.tmps.size:=by simp [Act.put,z3]
  have d4:(a3.put (some 29) (.tuple #[.bool true,.int .i64 p,.int .i32 c])).defers = a.defers:=by simp [Act.put,d3]
  generalize (a3.put (some 29) (.tuple #[.bool true,.int .i64 p,.int .i32 c])) = a4 at *
  have eo:(iaAp.toList).drop 1 = (iaAp.toList).drop 1 ++ []:=(List.append_nil _).symm
  rw [eo]
  refine h4.ops hG (nt:=129) (ev':=(30,.bool true) :: (29,.tup [.bool true,.int .i64 p,.int .i32 c]) :: e3) (H':=[]) ?_ (by omega) ?_
  ·simp [iaAp,iaAB,ia0,cOps,cL,bodyOf,Tryz.f200,evOps,guardQ]
  intro a5 w5 z5 d5 h5
  show K2 .normal a5 w5
  refine f2 _ _ ?_
  refine h5.run hG (f:=200) (nt:=129) (by kernel_rfl) (by omega) ?_
  have hne:¬ (c:Int) = 65533:=by omega
  have hc1:((c:Nat):Int) = 61∨((c:Nat):Int) = 10:=by omega
  simp [iaAB,ia0,cR,bodyOf,Tryz.f200,hne,j28]
  intro a6 w6 z6 d6 h6
  refine ⟨⟨by omega,by rw [d6,d5,d4],p+1,by omega,_, ?_,h6⟩,?_⟩
  ·simp [look]
  have hmu2:itPos w6 b = p+1:=by unfold itPos;rw [h6.it]
  rw [hmu2]
  omega
 ·have hp2:p = 2:=by omega
  subst hp2
  refine wp_overOp (x:=.tmp 28) (b:=b) (pos:=2) (s:=⟨#[61,10]⟩) rfl rfl q28 h3.it (by decide) ?_
  have h4:=h3.put (t:=29) (d:=.tup [.bool false]) (v:=.tuple #[.bool false]) (.tup rfl fun j d hj=>by
   match j,hj with
   | 0,hj=>simp at hj;subst hj;exact .bool _
   | j+1,hj=>simp at hj) (by omega)
  show wpList _ _ _ ((iaAp.toList).drop 1) (a3.put (some 29) _) _
  have z4:(a3.put (some 29) (.tuple #[.bool false])).tmps.size = a.tmps.size:=by simp [Act.put,z3]
  have d4:(a3.put (some 29) (.tuple #[.bool false])).defers = a.defers:=by simp [Act.put,d3]
  generalize (a3.put (some 29) (.tuple #[.bool false])) = a4 at *
  have eo:(iaAp.toList).drop 1 = (iaAp.toList).drop 1 ++ []:=(List.append_nil _).symm
  rw [eo]
  refine h4.ops hG (nt:=129) (ev':=(30,.bool false) :: (29,.tup [.bool false]) :: e3) (H':=[]) ?_ (by omega) ?_
  ·simp [iaAp,iaAB,ia0,cOps,cL,bodyOf,Tryz.f200,evOps,guardQ]
  intro a5 w5 z5 d5 h5
  show K2 .normal a5 w5
  refine f2 _ _ ?_
  refine h5.run hG (f:=200) (nt:=129) (by kernel_rfl) (by omega) ?_
  simp [iaAB,ia0,cR,bodyOf,Tryz.f200]
  intro a6 w6 z6 d6 h6
  exact hQ a6 w6 _ (by omega) (by rw [d6,d5,d4])  h6.pst
noncomputable def iaB0:Code:=cAt [1,1,1,1,1,1,0,1,0,0,1,0,0,1,1,1,1] ia0
noncomputable def iaBB:Code:=cAt [1,1,1,1,1,1,0,1,0,0,1,0,0,1,1,1,1,1,0,0] ia0
noncomputable def iaBo:Array Oper:=cOps (cL iaB0)
noncomputable def iaBp:Array Oper:=cOps (cL iaBB)
set_option maxHeartbeats 4000000 in
set_option maxRecDepth 4000 in
theorem iaB_ev [MaxL] [TxtC] (hT:TxtRun) (ok0:Nat→Prop) (w0:World) (a:Act) (w:World) (e:Env) (ht:129≤a.tmps.size) (s:List UInt8) (d11 d12:D) (r:Int) (hr:128≤r) (k0:look e 0 = some (.vsl false (ofBytes s) s.length)) (k1:look e 1 = some (.str [61,10])) (k11:look e 11 = some d11) (k12:look e 12 = some d12) (k13:look e 13 = some (.int .i32 r))
  (h:PSt cx ok0 w0 e [] a w) {Q:Exit→Act→World→Prop}
  (hQ:∀ a' w' e',a'.tmps.size = a.tmps.size→a'.defers = a.defers→look e' 0 = some (.vsl false (ofBytes s) s.length)→look e' 1 = some (.str [61,10])→look e' 11 = some d11→look e' 12 = some d12→PSt cx ok0 w0 e' [] a' w'→Q .normal a' w'):iaB0.wp cx.P Q a w:=by
 have hG:=good hT
 refine wp_ofSeq' (c:=iaB0) rfl fun K1 f1 g1=>?_
 have eR:cL iaB0 = .region 47 iaBo false:=rfl
 rw [eR]
 refine wp_region_list ?_
 have eo:iaBo.toList = [(iaBo.toList).headD default] ++ [((iaBo.toList).drop 1).headD default]:=rfl
 rw [eo]
 refine h.ops hG (nt:=129) (ev':=(120,.str [61,10]) :: e) (H':=[]) ?_ ht ?_
 ·simp [iaBo,iaB0,ia0,cOps,cL,bodyOf,Tryz.f200,evOps,guardQ,k1]
 intro a1 w1 z1 d1 h1
 refine wp_rangeOp (t:=9) (x:=.tmp 120) (s:=⟨#[61,10]⟩) rfl rfl (h1.slotS (l:=[61,10]) (by simp [look])) Tryz.underlying9 ?_
 have h2:=h1.iter (t:=121) (nt:=129) ⟨#[61,10]⟩ (by decide) (by omega)
 show K1 .normal (a1.put (some 121) (.pointer (some ⟨w1.heap.size,0,none⟩))) (w1.iter ⟨#[61,10]⟩ 0)
 refine f1 _ _ ?_
 have z2:(a1.put (some 121) (.pointer (some ⟨w1.heap.size,0,none⟩))).tmps.size = a.tmps.size:=by simp [Act.put,z1]
 have d2:(a1.put (some 121) (.pointer (some ⟨w1.heap.size,0,none⟩))).defers = a.defers:=by simp [Act.put,d1]
 have hin:∃ p,p≤2∧∃ e',look e' 0 = some (.vsl false (ofBytes s) s.length)∧look e' 1 = some (.str [61,10])∧look e' 11 = some d11∧look e' 12 = some d12∧look e' 13 = some (.int .i32 r)∧look e' 121 = some (.raw (.pointer (some ⟨w1.heap.size,0,none⟩)))∧ISt cx ok0 w0 w1.heap.size ⟨#[61,10]⟩ p e' [] (a1.put (some 121) (.pointer (some ⟨w1.heap.size,0,none⟩))) (w1.iter ⟨#[61,10]⟩ 0):=⟨0,by omega,_,by simp [look,k0],by simp [look,k1],by simp [look,k11],by simp [look,k12],by simp [look,k13],by simp [look],h2⟩
 generalize (a1.put (some 121) (.pointer (some ⟨w1.heap.size,0,none⟩))) = a2 at *
 generalize w1.iter ⟨#[61,10]⟩ 0 = w2 at *
 generalize w1.heap.size = b at *
 clear h2 h1
 have eB:cR iaB0 = .block 6 (.loop iaBB):=rfl
 rw [eB]
 refine wp_block (wp_loop (fun a' w'=>a'.tmps.size = a.tmps.size∧a'.defers = a.defers∧∃ p,p≤2∧∃ e',look e' 0 = some (.vsl false (ofBytes s) s.length)∧look e' 1 = some (.str [61,10])∧look e' 11 = some d11∧look e' 12 = some d12∧look e' 13 = some (.int .i32 r)∧look e' 121 = some (.raw (.pointer (some ⟨b,0,none⟩)))∧ISt cx ok0 w0 b ⟨#[61,10]⟩ p e' [] a' w') (fun _ w'=>2 - itPos w' b) ⟨z2,d2,hin⟩ ?_)
 rintro a3 w3 ⟨z3,d3,p,hp,e3,j0,j1,j11,j12,j13,j28,h3⟩
 have hmu:itPos w3 b = p:=by unfold itPos;rw [h3.it]
 rw [hmu]
 refine wp_ofSeq' (c:=iaBB) rfl fun K2 f2 g2=>?_
 have eR:cL iaBB = .region 48 iaBp false:=rfl
 rw [eR]
 refine wp_region_list ?_
 have eo:iaBp.toList = (iaBp.toList).headD default :: (iaBp.toList).drop 1:=rfl
 rw [eo]
 have q28:=h3.slot j28
 rcases Nat.lt_or_ge p 2 with hlt | hge
 ·obtain ⟨c,hc,hd⟩:∃ c,(c = 61∨c = 10)∧Utf8.decode ⟨#[61,10]⟩ p = (c,1):=by
   match p,hlt with
   | 0,_=>exact ⟨61,.inl rfl,by decide⟩
   | 1,_=>exact ⟨10,.inr rfl,by decide⟩
  refine wp_nextOp (x:=.tmp 121) (b:=b) (pos:=p) (c:=c) (n:=1) (s:=⟨#[61,10]⟩) rfl rfl q28 h3.it hlt hd ?_
  have h4:=(h3.step (p+1)).put (t:=122) (d:=.tup [.bool true,.int .i64 p,.int .i32 c]) (v:=.tuple #[.bool true,.int .i64 p,.int .i32 c]) (.tup rfl fun j d hj=>by
   match j,hj with
   | 0,hj=>simp at hj;subst hj;exact .bool _
   | 1,hj=>simp at hj;subst hj;exact .int .i64 _
   | 2,hj=>simp at hj;subst hj;exact .int .i32 _
   | j+3,hj=>simp at hj) (by omega)
  show wpList _ _ _ ((iaBp.toList).drop 1) (a3.put (some 122) _) _
  have z4:(a3.put (some 122) (.tuple #[.bool true,.int .i64 p,.int .i32 c])).tmps.size = a.tmps.size:=by simp [Act.put,z3]
  have d4:(a3.put (some 122) (.tuple #[.bool true,.int .i64 p,.int .i32 c])).defers = a.defers:=by simp [Act.put,d3]
  generalize (a3.put (some 122) (.tuple #[.bool true,.int .i64 p,.int .i32 c])) = a4 at *
  have eo:(iaBp.toList).drop 1 = (iaBp.toList).drop 1 ++ []:=(List.append_nil _).symm
  rw [eo]
  refine h4.ops hG (nt:=129) (ev':=(123,.bool true) :: (122,.tup [.bool true,.int .i64 p,.int .i32 c]) :: e3) (H':=[]) ?_ (by omega) ?_
  ·simp [iaBp,iaBB,ia0,cOps,cL,bodyOf,Tryz.f200,evOps,guardQ]
  intro a5 w5 z5 d5 h5
  show K2 .normal a5 w5
  refine f2 _ _ ?_
  refine h5.run hG (f:=200) (nt:=129) (by kernel_rfl) (by omega) ?_
  have hne:¬ r = (c:Int):=by omega
  have hc1:((c:Nat):Int) = 61∨((c:Nat):Int) = 10:=by omega
  simp [iaBB,ia0,cR,bodyOf,Tryz.f200,hne,j0,j1,j11,j12,j13,j28]
  intro a6 w6 z6 d6 h6
  refine ⟨⟨by omega,by rw [d6,d5,d4],p+1,by omega,_,?_,?_,?_,?_,?_,?_,h6⟩,?_⟩
  ·simp [look]
  ·simp [look]
  ·simp [look]
  ·simp [look]
  ·simp [look]
  ·simp [look]
  have hmu2:itPos w6 b = p+1:=by unfold itPos;rw [h6.it]
  rw [hmu2]
  omega
 ·have hp2:p = 2:=by omega
  subst hp2
  refine wp_overOp (x:=.tmp 121) (b:=b) (pos:=2) (s:=⟨#[61,10]⟩) rfl rfl q28 h3.it (by decide) ?_
  have h4:=h3.put (t:=122) (d:=.tup [.bool false]) (v:=.tuple #[.bool false]) (.tup rfl fun j d hj=>by
   match j,hj with
   | 0,hj=>simp at hj;subst hj;exact .bool _
   | j+1,hj=>simp at hj) (by omega)
  show wpList _ _ _ ((iaBp.toList).drop 1) (a3.put (some 122) _) _
  have z4:(a3.put (some 122) (.tuple #[.bool false])).tmps.size = a.tmps.size:=by simp [Act.put,z3]
  have d4:(a3.put (some 122) (.tuple #[.bool false])).defers = a.defers:=by simp [Act.put,d3]
  generalize (a3.put (some 122) (.tuple #[.bool false])) = a4 at *
  have eo:(iaBp.toList).drop 1 = (iaBp.toList).drop 1 ++ []:=(List.append_nil _).symm
  rw [eo]
  refine h4.ops hG (nt:=129) (ev':=(123,.bool false) :: (122,.tup [.bool false]) :: e3) (H':=[]) ?_ (by omega) ?_
  ·simp [iaBp,iaBB,ia0,cOps,cL,bodyOf,Tryz.f200,evOps,guardQ]
  intro a5 w5 z5 d5 h5
  show K2 .normal a5 w5
  refine f2 _ _ ?_
  refine h5.run hG (f:=200) (nt:=129) (by kernel_rfl) (by omega) ?_
  simp [iaBB,ia0,cR,bodyOf,Tryz.f200]
  intro a6 w6 z6 d6 h6
  exact hQ a6 w6 _ (by omega) (by rw [d6,d5,d4]) (by simp [look,j0]) (by simp [look,j1]) (by simp [look,j11]) (by simp [look,j12]) h6.pst
end Go.Ev.S
namespace Go.Ev
open Go Go.Proofs Go.Shelf
def anyI:List UInt8→Nat→Int
 | [],_=>-1
 | b :: l,n=>if b = 61∨b = 10 then n else anyI l (n+1)
theorem anyI_skip:∀ (k:Nat) (l:List UInt8) (n:Nat),k≤l.length→(∀ j (_:j < k) (hl:j < l.length),l[j]≠61∧l[j]≠10)→anyI l n = anyI (l.drop k) (n+k)
 | 0,l,n,_,_=>by simp
 | k+1,[],n,h,_=>by simp at h
 | k+1,b :: l,n,h,hb=>by
  have h0:=hb 0 (by omega) (by simp)
  simp only [List.getElem_cons_zero] at h0
  rw [anyI,if_neg (by rintro (h | h);exact h0.1 h;exact h0.2 h),List.drop_succ_cons,anyI_skip k l (n+1) (by simpa using h) (fun j hj hl=>by
   have:=hb (j+1) (by omega) (by simpa using hl)
   simpa using this)]
  congr 1
  omega
theorem get_arr (l:List UInt8) (k:Nat) (h:k < l.length):((⟨l.toArray⟩:ByteArray).get! k) = l[k]:=by
 rw [Utf8W.get!_of_lt _ k (by rw [ba_size];exact h)]
 show l.toArray[k] = _
 simp
theorem dec_facts (l:List UInt8) (hl:0 < l.length) (h128:128≤l[0].toNat) (r n:Nat) (hd:Utf8.decode ⟨l.toArray⟩ 0 = (r,n)) :
  128≤r∧r < 2000000∧1≤n∧n≤4∧n≤l.length∧(∀ j (_:j < n) (hl:j < l.length),128≤l[j].toNat)∧(r≠65533→2≤n∧(Utf8.encode r).data.toList.length = n∧(Utf8.encode r).data.toList≠[61,10]):=by
 have hsz:(⟨l.toArray⟩:ByteArray).size = l.length:=ba_size l
 have key:∀ k,(∀ j,1≤j→j < k→(decide (0+j < (⟨l.toArray⟩:ByteArray).size) && ((⟨l.toArray⟩:ByteArray).get! (0+j)).toNat / 64 == 2) = true)→(1≤k→k≤l.length)∧∀ j (_:j < k) (hl:j < l.length),128≤l[j].toNat:=by
  intro k hk
  constructor
  ·intro h1
   by_cases hk1:k = 1
   ·omega
   ·have:=hk (k - 1) (by omega) (by omega)
    simp only [Bool.and_eq_true,decide_eq_true_eq,hsz] at this
    omega
  ·intro j hj hlj
   by_cases h0:j = 0
   ·subst h0;exact h128
   ·have:=hk j (by omega) hj
    simp only [Bool.and_eq_true,decide_eq_true_eq,beq_iff_eq,Nat.zero_add,get_arr l j hlj] at this
    omega
 have k1:=key 1 (fun j h1 h2=>by omega)
 have h0:=get_arr l 0 hl
 generalize hS:(⟨l.toArray⟩:ByteArray) = S at *
 have hb0:=l[0].toNat_lt
 rw [← h0] at h128 hb0
 clear h0
 unfold Utf8.decode at hd
 simp only [Nat.add_zero] at hd
 have bad:(Utf8.runeError,1) = (r,n)→128≤r∧r < 2000000∧1≤n∧n≤4∧n≤l.length∧(∀ j (_:j < n) (hl:j < l.length),128≤l[j].toNat)∧(r≠65533→2≤n∧(Utf8.encode r).data.toList.length = n∧(Utf8.encode r).data.toList≠[61,10]):=by
  intro h
  injection h with h1 h2
  subst h1;subst h2
  exact ⟨by decide,by decide,by omega,by omega,k1.1 (by omega),k1.2,fun h=>absurd rfl h⟩
 rw [if_neg (by omega)] at hd
 split at hd
 ·rename_i hc
  simp only [Bool.and_eq_true,beq_iff_eq] at hc
  have k2:=key 2 (fun j h1 h2=>by
   have:j = 1:=by omega
   subst this
   simp only [Bool.and_eq_true,beq_iff_eq]
   exact hc.2)
  split at hd
  ·rename_i hge
   injection hd with h1 h2
   subst h2
   have hm:=Nat.mod_lt (S.get! (0+1)).toNat (show 0 < 64 by decide)
   have hm2:=Nat.mod_lt (S.get! 0).toNat (show 0 < 32 by decide)
   have hr:r < 2048:=by omega
   have hr1:128≤r:=by omega
   refine ⟨hr1,by omega,by omega,by omega,k2.1 (by omega),k2.2,fun _=>⟨by omega,?_⟩⟩
   have hv:Utf8.valid (r:Int) = true:=by unfold Utf8.valid;simp;omega
   unfold Utf8.encode
   simp only [hv,if_true,Int.toNat_natCast]
   rw [if_neg (by omega),if_pos (by omega)]
   refine ⟨rfl,?_⟩
   intro e
   simp only [List.cons.injEq,and_true] at e
   have:=congrArg UInt8.toNat e.1
   rw [UInt8.toNat_ofNat_of_lt' (by show _ < 256;omega)] at this
   simp at this
   omega
  ·exact bad hd
 ·split at hd
  ·rename_i hc
   simp only [Bool.and_eq_true,beq_iff_eq] at hc
   have k3:=key 3 (fun j h1 h2=>by
    simp only [Bool.and_eq_true,beq_iff_eq]
    rcases (by omega:j = 1∨j = 2) with rfl | rfl
    ·exact hc.1.2
    ·exact hc.2)
   split at hd
   ·rename_i hge
    simp only [Bool.and_eq_true,decide_eq_true_eq] at hge
    injection hd with h1 h2
    subst h2
    have hm:=Nat.mod_lt (S.get! (0+1)).toNat (show 0 < 64 by decide)
    have hm2:=Nat.mod_lt (S.get! (0+2)).toNat (show 0 < 64 by decide)
    have hm3:=Nat.mod_lt (S.get! 0).toNat (show 0 < 16 by decide)
    have hr:r < 65536:=by omega
    have hr1:2048≤r:=by omega
    rw [h1] at hge
    refine ⟨by omega,by omega,by omega,by omega,k3.1 (by omega),k3.2,fun _=>⟨by omega,?_⟩⟩
    unfold Utf8.encode
    simp only [hge.2,if_true,Int.toNat_natCast]
    rw [if_neg (by omega),if_neg (by omega),if_pos (by omega)]
    exact ⟨rfl,by intro e;simp at e⟩
   ·exact bad hd
  ·split at hd
   ·rename_i hc
    simp only [Bool.and_eq_true,beq_iff_eq] at hc
    have k4:=key 4 (fun j h1 h2=>by
     simp only [Bool.and_eq_true,beq_iff_eq]
     rcases (by omega:j = 1∨j = 2∨j = 3) with rfl | rfl | rfl
     ·exact hc.1.1.2
     ·exact hc.1.2
     ·exact hc.2)
    split at hd
    ·rename_i hge
     simp only [Bool.and_eq_true,decide_eq_true_eq] at hge
     injection hd with h1 h2
     subst h2
     rw [h1] at hge
     have hv:=hge.2
     have hr:r < 1114112:=by
      unfold Utf8.valid at hv
      simp at hv
      omega
     refine ⟨by omega,by omega,by omega,by omega,k4.1 (by omega),k4.2,fun _=>⟨by omega,?_⟩⟩
     unfold Utf8.encode
     simp only [hge.2,if_true,Int.toNat_natCast]
     rw [if_neg (by omega),if_neg (by omega),if_neg (by omega)]
     exact ⟨rfl,by intro e;simp at e⟩
    ·exact bad hd
   ·exact bad hd
end Go.Ev
namespace Go.Ev.S
open Go Go.Proofs Go.Ev Go.RowKit
def iaQ [MaxL] [TxtC] (ok0:Nat→Prop) (w0:World) (v:Int):Exit→Act→World→Prop:=fun x a' w'=>x = .ret∧a'.defers = []∧∃ e',look e' 4 = some (.int .i64 v)∧PSt cx ok0 w0 e' [] a' w'
theorem ia_byte [MaxL] [TxtC] (c:UInt8):call cx 226 [.str [61,10],.int .u8 c.toNat] [] = some (.int .i64 (if c = 61 then 0 else if c = 10 then 1 else -1),[]):=by
 rw [call_ext (X:=cx) (f:=226) rfl Tryz.func226 rfl,ex226]
 by_cases h1:c = 61
 ·subst h1;rfl
 by_cases h2:c = 10
 ·subst h2;rfl
 have h1':¬ (61:UInt8) = c:=fun e=>h1 e.symm
 have h2':¬ (10:UInt8) = c:=fun e=>h2 e.symm
 simp [idxBExt,idxB,h1,h2,h1',h2']
theorem ia_use [MaxL] [TxtC] (n:Nat):call cx 228 [.int .i64 n] [] = some (.bool (decide (8 < n)),[]):=by
 refine call_run Tryz.func228 rfl ⟨rfl,rfl⟩ ?_
 simp [Tryz.f228]
 omega
theorem ia_dec [MaxL] [TxtC] (l:List UInt8) (h:1≤l.length):call cx 231 [.vsl false (ofBytes l) l.length] [] = some (.tup [.int .i32 (Utf8.decode ⟨l.toArray⟩ 0).1,.int .i64 (Utf8.decode ⟨l.toArray⟩ 0).2],[]):=by
 refine call_con ?_
 rw [co231]
 have h0:¬ (⟨l.toArray⟩:ByteArray).size = 0:=by rw [ba_size];omega
 simp only [conDec,sliceB,bytesR_of]
 rw [if_pos ⟨Nat.le_refl _,h⟩,List.take_length]
 simp only [Lib.decodeGo,h0,if_false]
theorem ia_is [MaxL] [TxtC] (l:List UInt8) (h2:2 < l.length) (hm:(l.length:Int)≤MaxL.m):call cx 213 [.str [61,10],.str l] [] = some (.int .i64 (-1),[]):=by
 refine call_con ?_
 rw [co213]
 simp only [conIS]
 rw [if_pos ⟨by simpa using h2,by omega,hm,by simp⟩]
set_option maxHeartbeats 4000000 in
set_option maxRecDepth 4000 in
theorem ia_one [MaxL] [TxtC] (hT:TxtRun) (c:UInt8) (ok0:Nat→Prop) (w0:World) (a:Act) (ht:129≤a.tmps.size) (hd:a.defers = []) (h:PSt cx ok0 w0 (argEnv 0 [.vsl false (ofBytes [c]) 1,.str [61,10]]) [] a w0):ia0.wp cx.P (iaQ ok0 w0 (anyI [c] 0)) a w0:=by
 have hG:=good hT
 have hc:=c.toNat_lt
 have hw:IntKind.i32.wrap (c.toNat:Int) = (c.toNat:Int):=by rw [wrap_i32] <;> omega
 have hof:ofBytes [c] = [.int .u8 c.toNat]:=rfl
 rw [hof] at h
 refine wp_ofSeq' (c:=ia0) rfl fun K1 f1 g1=>?_
 refine h.run hG (f:=200) (nt:=129) (by kernel_rfl) (by omega) ?_
 simp [cL,ia0,bodyOf,Tryz.f200]
 intro a1 w1 z1 d1 h1
 refine f1 _ _ ?_
 show (cAt [1] ia0).wp _ _ _ _
 refine wp_ofSeq' (c:=(cAt [1] ia0)) rfl fun K2 f2 g2=>?_
 refine h1.run hG (f:=200) (nt:=129) (by kernel_rfl) (by omega) ?_
 simp [cL,ia0,bodyOf,Tryz.f200]
 intro a2 w2 z2 d2 h2
 refine f2 _ _ ?_
 show (cAt [1,1] ia0).wp _ _ _ _
 rcases Nat.lt_or_ge c.toNat 128 with h128 | h128
 ·have hi:=ia_byte c
  have hlt:¬ (128:Int)≤(c.toNat:Int):=by omega
  refine wp_ofSeq' (c:=(cAt [1,1] ia0)) rfl fun K3 f3 g3=>?_
  refine h2.run hG (f:=200) (nt:=129) (by kernel_rfl) (by omega) ?_
  by_cases h1:c = 61
  ·rw [if_pos h1] at hi
   simp [cL,ia0,bodyOf,Tryz.f200,hi,hw,hlt]
   intro a3 w3 z3 d3 h3
   exact g3 _ _ _ (by intro e;cases e) ⟨rfl,by rw [d3,d2,d1,hd],_,by simp [look,anyI,h1],h3⟩
  by_cases h2:c = 10
  ·rw [if_neg h1,if_pos h2] at hi
   simp [cL,ia0,bodyOf,Tryz.f200,hi,hw,hlt]
   intro a3 w3 z3 d3 h3
   exact g3 _ _ _ (by intro e;cases e) ⟨rfl,by rw [d3,d2,d1,hd],_,by simp [look,anyI,h2],h3⟩
  rw [if_neg h1,if_neg h2] at hi
  simp [cL,ia0,bodyOf,Tryz.f200,hi,hw,hlt]
  intro a3 w3 z3 d3 h3
  exact g3 _ _ _ (by intro e;cases e) ⟨rfl,by rw [d3,d2,d1,hd],_,by simp [look,anyI,h1,h2],h3⟩
 ·have hge:(128:Int)≤(c.toNat:Int):=by omega
  have hne:anyI [c] 0 = -1:=by
   have h1:¬ c = 61:=by rintro rfl;revert h128;decide
   have h2:¬ c = 10:=by rintro rfl;revert h128;decide
   simp [anyI,h1,h2]
  refine wp_ofSeq' (c:=(cAt [1,1] ia0)) rfl fun K0 f0 g0=>?_
  refine wp_ofSeq' (c:=(cAt [1,1,0] ia0)) rfl fun K3 f3 g3=>?_
  refine h2.run hG (f:=200) (nt:=129) (by kernel_rfl) (by omega) ?_
  simp [cL,ia0,bodyOf,Tryz.f200]
  intro a3 w3 z3 d3 h3
  refine f3 _ _ ?_
  show (Code.cond _ _ _).wp _ _ _ _
  refine wp_cond (t:=true) (h3.slotB (by simp [look])) ?_
  show (cAt [1,1,0,1,0] ia0).wp _ _ _ _
  refine wp_ofSeq' (c:=(cAt [1,1,0,1,0] ia0)) rfl fun K4 f4 g4=>?_
  refine h3.run hG (f:=200) (nt:=129) (by kernel_rfl) (by omega) ?_
  simp [cL,ia0,bodyOf,Tryz.f200,hw]
  intro a4 w4 z4 d4 h4
  refine f4 _ _ ?_
  show (cAt [1,1,0,1,0,1] ia0).wp _ _ _ _
  refine wp_ofSeq' (c:=(cAt [1,1,0,1,0,1] ia0)) rfl fun K8 f8 g8=>?_
  refine wp_ofSeq' (c:=(cAt [1,1,0,1,0,1,0] ia0)) rfl fun K5 f5 g5=>?_
  refine h4.run hG (f:=200) (nt:=129) (by kernel_rfl) (by omega) ?_
  simp [cL,ia0,bodyOf,Tryz.f200,hge]
  intro a5 w5 z5 d5 h5
  refine f5 _ _ ?_
  show (Code.cond _ _ _).wp _ _ _ _
  refine wp_cond (t:=true) (h5.slotB (by simp [look])) ?_
  show (cAt [1,1,0,1,0,1,0,1,0] ia0).wp _ _ _ _
  refine wp_ofSeq' (c:=(cAt [1,1,0,1,0,1,0,1,0] ia0)) rfl fun K9 f9 g9=>?_
  refine iaA_ev hT ok0 w0 a5 w5 _ (by omega) (by simp [look]) h5 fun a9 w9 e9 z9 d9 h9=>?_
  refine f9 _ _ ?_
  refine h9.run hG (f:=200) (nt:=129) (by kernel_rfl) (by omega) ?_
  simp [cR,ia0,bodyOf,Tryz.f200]
  intro a10 w10 z10 d10 h10
  exact g8 _ _ _ (by intro e;cases e) (g0 _ _ _ (by intro e;cases e) ⟨rfl,by rw [d10,d9,d5,d4,d3,d2,d1,hd],_,by simp [look,hne],h10⟩)
end Go.Ev.S
namespace Go.Ev.S
open Go Go.Proofs Go.Ev Go.RowKit
def iaOf:Value→Int
 | .int _ n=>n
 | _=>0
def iaI [MaxL] [TxtC] (ok0:Nat→Prop) (w0:World) (a:Act) (s:List UInt8) (i:Nat) (a':Act) (w':World):Prop:=a'.tmps.size = a.tmps.size∧a'.defers = []∧i≤s.length∧anyI (s.drop i) i = anyI s 0∧∃ e',look e' 0 = some (.vsl false (ofBytes s) s.length)∧look e' 1 = some (.str [61,10])∧look e' 12 = some (.int .i64 (i:Nat))∧PSt cx ok0 w0 e' [] a' w'
theorem iaI_of [MaxL] [TxtC] (ok0:Nat→Prop) (w0:World) (a:Act) (s:List UInt8) (i:Nat) (a':Act) (w':World) (e:Env) (h1:a'.tmps.size = a.tmps.size) (h2:a'.defers = []) (h3:i≤s.length) (h4:anyI (s.drop i) i = anyI s 0) (k0:look e 0 = some (.vsl false (ofBytes s) s.length)) (k1:look e 1 = some (.str [61,10])) (k12:look e 12 = some (.int .i64 (i:Nat))) (h:PSt cx ok0 w0 e [] a' w'):iaI ok0 w0 a s i a' w':=⟨h1,h2,h3,h4,e,k0,k1,k12,h⟩
set_option maxHeartbeats 4000000 in
set_option maxRecDepth 4000 in
theorem ia_round [MaxL] [TxtC] (hT:TxtRun) (s:List UInt8) (h8:s.length≤8) (ok0:Nat→Prop) (w0:World) (a:Act) (ht:129≤a.tmps.size) (i:Nat) (a0:Act) (w1:World) (hI:iaI ok0 w0 a s i a0 w1) (hlt:i < s.length) {Q:Exit→Act→World→Prop}
  (hret:∀ a' w',iaQ ok0 w0 (anyI s 0) .ret a' w'→Q .ret a' w') (hgo:∀ i' a' w',i < i'→iaI ok0 w0 a s i' a' w'→Q .normal a' w'):(cAt [1,1,1,1,1,1,0,1,0,0] ia0).wp cx.P Q a0 w1:=by
 have hG:=good hT
 have hgm:cx.glob 0 = some [.int .i64 MaxL.m]:=rfl
 obtain ⟨zz,dd,hi,hany,e,k0,k1,k12,h⟩:=hI
 have hlt':(i:Int) < (s.length:Int):=by omega
 have hsi:s[i]? = some s[i]:=List.getElem?_eq_getElem hlt
 have hdrop:=List.drop_eq_getElem_cons hlt
 have hat:=ofBytes_at hlt
 have hofd:ofBytes (s.drop i) = .int .u8 s[i].toNat :: ofBytes (s.drop (i+1)):=by
  rw [hdrop];rfl
 have htk:List.take (s.length - i) (.int .u8 (s[i].toNat:Int) :: ofBytes (s.drop (i+1))) = .int .u8 (s[i].toNat:Int) :: ofBytes (s.drop (i+1)):=List.take_of_length_le (by simp;omega)
 have hdl:(s.drop i).length = s.length - i:=by simp
 have hdec:=dec_facts (s.drop i) (by omega)
 have hdc:=ia_dec (s.drop i) (by omega)
 have hb:(s.drop i)[0]'(by omega) = s[i]:=by simp
 rw [hb] at hdec
 have hskip:=anyI_skip
 have hib:=ia_byte s[i]
 have hany0:=hany
 rw [hdrop,anyI] at hany
 have hcw:=s[i].toNat_lt
 have hw32:IntKind.i32.wrap (s[i].toNat:Int) = (s[i].toNat:Int):=by rw [wrap_i32] <;> omega
 have hw1:IntKind.i64.wrap ((i:Int)+1) = ((i+1:Nat):Int):=by rw [wrap_i64] <;> omega
 rcases Nat.lt_or_ge s[i].toNat 128 with h128 | h128
 ·have hlt2:(s[i].toNat:Int) < 128:=by omega
  clear hdec hdc
  generalize s[i] = c at *
  refine h.run hG (f:=200) (nt:=129) (by kernel_rfl) (by omega) ?_
  by_cases h1:c = 61
  ·rw [if_pos h1] at hib
   rw [if_pos (.inl h1)] at hany
   simp [ia0,bodyOf,Tryz.f200,k0,k1,k12,hlt',hat,hib,hw32,hlt2]
   intro a3 w3 z3 d3 h3
   exact hret _ _ ⟨rfl,by rw [d3,dd],_,by simp [look,← hany],h3⟩
  by_cases h2:c = 10
  ·rw [if_neg h1,if_pos h2] at hib
   rw [if_pos (.inr h2)] at hany
   simp [ia0,bodyOf,Tryz.f200,k0,k1,k12,hlt',hat,hib,hw32,hlt2]
   intro a3 w3 z3 d3 h3
   exact hret _ _ ⟨rfl,by rw [d3,dd],_,by simp [look,← hany],h3⟩
  rw [if_neg h1,if_neg h2] at hib
  rw [if_neg (by rintro (h | h);exact h1 h;exact h2 h)] at hany
  simp [ia0,bodyOf,Tryz.f200,k0,k1,k12,hlt',hat,hib,hw32,hlt2,hw1]
  intro a3 w3 z3 d3 h3
  exact hgo (i+1) _ _ (by omega) (iaI_of ok0 w0 a s (i+1) _ _ _ (by omega) (by rw [d3,dd]) hlt hany (by simp [look]) (by simp [look]) (by simp [look]) h3)
 ·have hge2:¬ (s[i].toNat:Int) < 128:=by omega
  obtain ⟨⟨r,n⟩,hrn⟩:∃ q,Utf8.decode ⟨(s.drop i).toArray⟩ 0 = q:=⟨_,rfl⟩
  obtain ⟨q1,q1b,q2,q3,q4,q5,q6⟩:=hdec h128 r n hrn
  rw [hrn] at hdc
  simp only at hdc
  have hnext:anyI (s.drop (i+n)) (i+n) = anyI s 0:=by
   rw [← hany0,anyI_skip n (s.drop i) i q4 (fun j hj hl=>by
    have:=q5 j hj hl
    constructor
    ·intro e;rw [e] at this;revert this;decide
    ·intro e;rw [e] at this;revert this;decide),List.drop_drop]
  have hin:i+n≤s.length:=by omega
  have hwn:IntKind.i64.wrap ((i:Int)+(n:Int)) = ((i+n:Nat):Int):=by rw [wrap_i64] <;> omega
  rw [hdl,hofd] at hdc
  have hdl0:((s.length:Int) - (i:Int)).toNat = s.length - i:=by omega
  have hr0:0≤(i:Int):=by omega
  clear hdec hskip hib hany hrn q5
  have hcase:(r≠65533∧n = 2)∨(r≠65533∧3≤n∧(n:Int)≤MaxL.m)∨(r≠65533∧3≤n∧¬ (n:Int)≤MaxL.m)∨r = 65533:=by
   by_cases hr:r = 65533
   ·exact .inr (.inr (.inr hr))
   ·have:=(q6 hr).1
    by_cases h2:n = 2
    ·exact .inl ⟨hr,h2⟩
    ·by_cases hm:(n:Int)≤MaxL.m
     ·exact .inr (.inl ⟨hr,by omega,hm⟩)
     ·exact .inr (.inr (.inl ⟨hr,by omega,hm⟩))
  rcases hcase with ⟨hr,h2⟩ | ⟨hr,h3,hm⟩ | hby
  ·obtain ⟨_,hel,hen⟩:=q6 hr
   have hr':¬ (r:Int) = 65533:=by omega
   have hen':¬ [61,10] = (Utf8.encode (r:Int)).data.toList:=fun e=>hen e.symm
   subst h2
   have hw2:IntKind.i64.wrap ((i:Int)+2) = (i:Int)+2:=by rw [wrap_i64] <;> omega
   refine h.run hG (f:=200) (nt:=129) (by kernel_rfl) (by omega) ?_
   simp [ia0,bodyOf,Tryz.f200,k0,k1,k12,hlt',hat,hw32,hge2,hdc,hr',hen',hw2,htk,Nat.le_of_lt hlt]
   intro a3 w3 z3 d3 h3
   exact hgo (i+2) _ _ (by omega) (iaI_of ok0 w0 a s (i+2) _ _ _ (by omega) (by rw [d3,dd]) hin hnext (by simp [look]) (by simp [look]) (by simp [look]) h3)
  ·obtain ⟨_,hel,hen⟩:=q6 hr
   have hr':¬ (r:Int) = 65533:=by omega
   have hn2:¬ 2 = (n:Int):=by omega
   have hix:=ia_is (Utf8.encode (r:Int)).data.toList (by omega) (by rw [hel];exact hm)
   refine h.run hG (f:=200) (nt:=129) (by kernel_rfl) (by omega) ?_
   simp [ia0,bodyOf,Tryz.f200,k0,k1,k12,hlt',hat,hw32,hge2,hdc,hr',hn2,hm,hgm,hix,hwn,htk,Nat.le_of_lt hlt]
   intro a3 w3 z3 d3 h3
   exact hgo (i+n) _ _ (by omega) (iaI_of ok0 w0 a s (i+n) _ _ _ (by omega) (by rw [d3,dd]) hin hnext (by simp [look]) (by simp [look]) (by simp [look]) h3)
  ·have hcond:(¬ (r:Int) = 65533∧¬ 2 = (n:Int)∧¬ (n:Int)≤MaxL.m)∨(r:Int) = 65533:=by
    rcases hby with ⟨h1,h2,h3⟩ | h1
    ·exact .inl ⟨by omega,by omega,h3⟩
    ·exact .inr (by omega)
   refine wp_ofSeq' (c:=(cAt [1,1,1,1,1,1,0,1,0,0] ia0)) rfl fun K1 f1 g1=>?_
   refine h.run hG (f:=200) (nt:=129) (by kernel_rfl) (by omega) ?_
   simp [cL,ia0,bodyOf,Tryz.f200,k0,k1,k12,hlt']
   intro a1 w1 z1 d1 h1
   refine f1 _ _ ?_
   show (cAt [1,1,1,1,1,1,0,1,0,0,1] ia0).wp _ _ _ _
   refine wp_ofSeq' (c:=(cAt [1,1,1,1,1,1,0,1,0,0,1] ia0)) rfl fun K10 f10 g10=>?_
   refine wp_block ?_
   show (cAt [1,1,1,1,1,1,0,1,0,0,1,0,0] ia0).wp _ _ _ _
   refine wp_ofSeq' (c:=(cAt [1,1,1,1,1,1,0,1,0,0,1,0,0] ia0)) rfl fun K2 f2 g2=>?_
   refine h1.run hG (f:=200) (nt:=129) (by kernel_rfl) (by omega) ?_
   simp [cL,ia0,bodyOf,Tryz.f200,hat,hw32,hlt]
   intro a2 w2 z2 d2 h2
   refine f2 _ _ ?_
   show (cAt [1,1,1,1,1,1,0,1,0,0,1,0,0,1] ia0).wp _ _ _ _
   refine wp_ofSeq' (c:=(cAt [1,1,1,1,1,1,0,1,0,0,1,0,0,1] ia0)) rfl fun K3 f3 g3=>?_
   refine h2.run hG (f:=200) (nt:=129) (by kernel_rfl) (by omega) ?_
   simp [cL,ia0,bodyOf,Tryz.f200,hge2]
   intro a3 w3 z3 d3 h3
   refine f3 _ _ ?_
   show (cAt [1,1,1,1,1,1,0,1,0,0,1,0,0,1,1] ia0).wp _ _ _ _
   refine wp_ofSeq' (c:=(cAt [1,1,1,1,1,1,0,1,0,0,1,0,0,1,1] ia0)) rfl fun K4 f4 g4=>?_
   refine h3.run hG (f:=200) (nt:=129) (by kernel_rfl) (by omega) ?_
   simp [cL,ia0,bodyOf,Tryz.f200,hat,hdc,htk,Nat.le_of_lt hlt]
   intro a4 w4 z4 d4 h4
   refine f4 _ _ ?_
   show (cAt [1,1,1,1,1,1,0,1,0,0,1,0,0,1,1,1] ia0).wp _ _ _ _
   refine wp_ofSeq' (c:=(cAt [1,1,1,1,1,1,0,1,0,0,1,0,0,1,1,1] ia0)) rfl fun K5 f5 g5=>?_
   have hst:∀ (a9:Act) (w9:World) (e9:Env),a9.tmps.size = a.tmps.size→a9.defers = []→look e9 0 = some (.vsl false (ofBytes s) s.length)→look e9 1 = some (.str [61,10])→look e9 11 = some (.int .i64 (n:Nat))→look e9 12 = some (.int .i64 (i:Nat))→look e9 13 = some (.int .i32 (r:Nat))→PSt cx ok0 w0 e9 [] a9 w9→K5 .normal a9 w9:=by
    intro a9 w9 e9 z9 d9 m0 m1 m11 m12 m13 h9
    refine f5 _ _ ?_
    show iaB0.wp _ _ _ _
    refine iaB_ev hT ok0 w0 a9 w9 e9 (by omega) s _ _ (r:Int) (by omega) m0 m1 m11 m12 m13 h9 fun b1 v1 e1 y1 t1 n0 n1 n11 n12 hb1=>?_
    show Exit.inBlock 5 _ .normal b1 v1
    refine f10 _ _ ?_
    show (cAt [1,1,1,1,1,1,0,1,0,0,1,1] ia0).wp _ _ _ _
    refine hb1.run hG (f:=200) (nt:=129) (by kernel_rfl) (by omega) ?_
    simp [ia0,bodyOf,Tryz.f200,n0,n1,n11,n12,hwn]
    intro b2 v2 y2 t2 hb2
    exact hgo (i+n) _ _ (by omega) (iaI_of ok0 w0 a s (i+n) _ _ _ (by omega) (by rw [t2,t1,d9]) hin hnext (by simp [look]) (by simp [look]) (by simp [look]) hb2)
   refine h4.run hG (f:=200) (nt:=129) (by kernel_rfl) (by omega) ?_
   rcases hcond with ⟨c1,c2,c3⟩ | c1
   ·simp [cL,ia0,bodyOf,Tryz.f200,c1,c2,c3,hgm]
    intro a9 w9 z9 d9 h9
    exact hst a9 w9 _ (by omega) (by rw [d9,d4,d3,d2,d1,dd]) (by simp [look]) (by simp [look]) (by simp [look]) (by simp [look]) (by simp [look]) h9
   ·simp [cL,ia0,bodyOf,Tryz.f200,c1]
    intro a9 w9 z9 d9 h9
    exact hst a9 w9 _ (by omega) (by rw [d9,d4,d3,d2,d1,dd]) (by simp [look]) (by simp [look]) (by simp [look]) (by simp [look]) (by simp [look,c1]) h9
end Go.Ev.S
namespace Go.Ev.S
open Go Go.Proofs Go.Ev Go.RowKit
set_option maxHeartbeats 4000000 in
set_option maxRecDepth 4000 in
theorem ia_many [MaxL] [TxtC] (hT:TxtRun) (s:List UInt8) (h2:2≤s.length) (h8:s.length≤8) (ok0:Nat→Prop) (w0:World) (a:Act) (ht:129≤a.tmps.size) (hd:a.defers = []) (h:PSt cx ok0 w0 (argEnv 0 [.vsl false (ofBytes s) s.length,.str [61,10]]) [] a w0):ia0.wp cx.P (iaQ ok0 w0 (anyI s 0)) a w0:=by
 have hG:=good hT
 have hn1:¬ (s.length:Int) = 1:=by omega
 have hus:=ia_use s.length
 have hn8:¬ 8 < s.length:=by omega
 simp only [hn8,decide_false] at hus
 refine wp_ofSeq' (c:=ia0) rfl fun K1 f1 g1=>?_
 refine h.run hG (f:=200) (nt:=129) (by kernel_rfl) (by omega) ?_
 simp [cL,ia0,bodyOf,Tryz.f200]
 intro a1 w1 z1 d1 h1
 refine f1 _ _ ?_
 show (cAt [1] ia0).wp _ _ _ _
 refine wp_ofSeq' (c:=(cAt [1] ia0)) rfl fun K2 f2 g2=>?_
 refine h1.run hG (f:=200) (nt:=129) (by kernel_rfl) (by omega) ?_
 simp [cL,ia0,bodyOf,Tryz.f200]
 intro a2 w2 z2 d2 h2
 refine f2 _ _ ?_
 show (cAt [1,1] ia0).wp _ _ _ _
 refine wp_ofSeq' (c:=(cAt [1,1] ia0)) rfl fun K3 f3 g3=>?_
 refine h2.run hG (f:=200) (nt:=129) (by kernel_rfl) (by omega) ?_
 simp [cL,ia0,bodyOf,Tryz.f200,hn1]
 intro a3 w3 z3 d3 h3
 refine f3 _ _ ?_
 show (cAt [1,1,1] ia0).wp _ _ _ _
 refine wp_ofSeq' (c:=(cAt [1,1,1] ia0)) rfl fun K4 f4 g4=>?_
 refine h3.run hG (f:=200) (nt:=129) (by kernel_rfl) (by omega) ?_
 simp [cL,ia0,bodyOf,Tryz.f200]
 intro a4 w4 z4 d4 h4
 refine f4 _ _ ?_
 show (cAt [1,1,1,1] ia0).wp _ _ _ _
 refine wp_ofSeq' (c:=(cAt [1,1,1,1] ia0)) rfl fun K5 f5 g5=>?_
 refine h4.run hG (f:=200) (nt:=129) (by kernel_rfl) (by omega) ?_
 simp [cL,ia0,bodyOf,Tryz.f200,hus]
 intro a5 w5 z5 d5 h5
 refine f5 _ _ ?_
 show (cAt [1,1,1,1,1] ia0).wp _ _ _ _
 refine wp_ofSeq' (c:=(cAt [1,1,1,1,1] ia0)) rfl fun K6 f6 g6=>?_
 refine h5.run hG (f:=200) (nt:=129) (by kernel_rfl) (by omega) ?_
 simp [cL,ia0,bodyOf,Tryz.f200]
 intro a6 w6 z6 d6 h6
 refine f6 _ _ ?_
 show (cAt [1,1,1,1,1,1] ia0).wp _ _ _ _
 refine wp_ofSeq' (c:=(cAt [1,1,1,1,1,1] ia0)) rfl fun K0 f0 g0=>?_
 refine wp_ofSeq' (c:=(cAt [1,1,1,1,1,1,0] ia0)) rfl fun K7 f7 g7=>?_
 refine h6.run hG (f:=200) (nt:=129) (by kernel_rfl) (by omega) ?_
 simp [cL,ia0,bodyOf,Tryz.f200]
 intro a7 w7 z7 d7 h7
 refine f7 _ _ ?_
 show (Code.block 4 (.loop _)).wp _ _ _ _
 have hI0:iaI ok0 w0 a s 0 a7 w7:=iaI_of ok0 w0 a s 0 _ _ _ (by omega) (by rw [d7,d6,d5,d4,d3,d2,d1,hd]) (by omega) (by simp) (by simp [look]) (by simp [look]) (by simp [look]) h7
 refine wp_block (wp_loop (fun a' w'=>∃ i,iaI ok0 w0 a s i a' w') (fun a' _=>s.length - (iaOf (a'.tmps.getD 12 undef)).toNat) ⟨0,hI0⟩ ?_)
 rintro a9 w9 ⟨i,hI⟩
 have hmu:∀ {i:Nat} {a9:Act} {w9:World},iaI ok0 w0 a s i a9 w9→(iaOf (a9.tmps.getD 12 undef)).toNat = i:=by
  rintro i a9 w9 ⟨_,_,_,_,e,_,_,k12,h⟩
  rw [h.slotI k12]
  simp [iaOf]
 rw [hmu hI]
 have hle:=hI.2.2.1
 by_cases hlt:i < s.length
 ·refine ia_round hT s h8 ok0 w0 a ht i a9 w9 hI hlt ?_ ?_
  ·intro a' w' hq
   show K0 .ret a' w'
   exact g0 _ _ _ (by intro e;cases e) hq
  ·intro i' a' w' hi' hI'
   refine ⟨⟨i',hI'⟩,?_⟩
   rw [hmu hI']
   have:=hI'.2.2.1
   omega
 ·obtain ⟨zz,dd,hi,hany,e,k0,k1,k12,hp⟩:=hI
  have hie:i = s.length:=by omega
  subst hie
  rw [List.drop_length,anyI] at hany
  show (cAt [1,1,1,1,1,1,0,1,0,0] ia0).wp _ _ _ _
  refine hp.run hG (f:=200) (nt:=129) (by kernel_rfl) (by omega) ?_
  simp [ia0,bodyOf,Tryz.f200,k0,k1,k12]
  intro b1 v1 y1 t1 hb1
  show K0 .normal b1 v1
  refine f0 _ _ ?_
  show (cAt [1,1,1,1,1,1,1] ia0).wp _ _ _ _
  refine hb1.run hG (f:=200) (nt:=129) (by kernel_rfl) (by omega) ?_
  simp [ia0,bodyOf,Tryz.f200]
  intro b2 v2 y2 t2 hb2
  exact ⟨rfl,by rw [t2,t1,dd],_,by simp [look,← hany],hb2⟩
def conAny (args:List D) (H:Heap):Option (D × Heap):=match args,H with
 | [.vsl false ds n,.str t],[]=>match bytesR ds with
  | some s=>if s.length = n∧1≤n∧n≤8∧t = [61,10] then some (.int .i64 (anyI s 0),[]) else none
  | none=>none
 | _,_=>none
theorem conAny_inv {args:List D} {H:Heap} {q:D × Heap} (h:conAny args H = some q):∃ s:List UInt8,args = [.vsl false (ofBytes s) s.length,.str [61,10]]∧H = []∧1≤s.length∧s.length≤8∧q = (.int .i64 (anyI s 0),[]):=by
 unfold conAny at h
 split at h
 ·rename_i ds n t
  cases hr:bytesR ds with
  | none=>rw [hr] at h;cases h
  | some s =>
   rw [hr] at h
   simp only at h
   split at h
   ·rename_i hc
    obtain ⟨c1,c2,c3,c4⟩:=hc
    injection h with h
    subst c1
    subst c4
    exact ⟨s,by rw [bytesR_inv hr],rfl,c2,c3,h.symm⟩
   ·cases h
 ·cases h
theorem conAny_short (s:List UInt8) (h1:1≤s.length) (h8:s.length≤8):conAny [.vsl false (ofBytes s) s.length,.str [61,10]] [] = some (.int .i64 (anyI s 0),[]):=by
 simp [conAny,h1,h8]
theorem conAny_none (s:List UInt8) (b:Bool) (h:s.length = 0∨8 < s.length):conAny [.vsl b (ofBytes s) s.length,.str [61,10]] [] = none:=by
 cases b with
 | true=>rfl
 | false =>
  simp only [conAny,bytesR_of]
  rw [if_neg (by omega)]
set_option maxRecDepth 4000 in
theorem conAny_run [MaxL] {T:TxtC} {args:List D} {H:Heap} {r:D} {H':Heap} (h:conAny args H = some (r,H')) {ok:Nat→Prop} {w:World} {ι:Iota} {vs:List Value} (hs:Sim (@cx _ T) ok w ι H) (hv:RepL ok w ι H args vs):Goes Tryz.prog (callFunc 200 vs.toArray) w (CallPost (@cx _ T) ok w ι H r H'):=by
 obtain ⟨s,rfl,rfl,h1,h8,e⟩:=conAny_inv h
 injection e with e1 e2
 subst e1
 subst e2
 have:=call_hand (X:=@cx _ txt0) (f:=200) (c:=ia0) (r:=.int .i64 (anyI s 0)) Tryz.func200 rfl rfl (by intro d hd;simp only [List.mem_cons,List.not_mem_nil,or_false] at hd;rcases hd with rfl | rfl <;> simp [idFree]) ⟨hs.okS,hs.glob,hs.inj,hs.blk⟩ hv fun a z1 z2 he hs0=>wp_mono (Q:=@iaQ _ txt0 ok w (anyI s 0)) ?_ ?_
 ·refine this.mono ?_
  rintro v w' ⟨ι',ok',k1,k2,k3,k4⟩
  exact ⟨ι',ok',⟨k1.okS,k1.glob,k1.inj,k1.blk⟩,k2,k3,k4⟩
 ·have hp:@PSt (@cx _ txt0) ok w (argEnv 0 [.vsl false (ofBytes s) s.length,.str [61,10]]) [] a w:=⟨⟨ok,iota0,hs0,he,.refl _ (Nat.le_refl _)⟩⟩
  have hz:129≤a.tmps.size:=by rw [z1];exact Nat.le_max_right _ _
  by_cases h2:2≤s.length
  ·exact @ia_many _ txt0 txt0_run s h2 h8 ok w a hz z2 hp
  ·match s,h1,h2,hp with
   | [c],_,_,hp=>exact @ia_one _ txt0 txt0_run c ok w a hz z2 hp
   | c :: d :: s,_,h2,_=>simp at h2
 ·rintro x a' w' ⟨rfl,y1,e',k4,hp⟩
  refine ⟨.inr rfl,y1,e',_,[.int .i64 (anyI s 0)],hp,?_,?_⟩
  ·simp [Tryz.f200,resD,k4]
  ·simp [packR,oneOrTup]
end Go.Ev.S
namespace Go.Ev.S
open Go Go.Proofs Go.Ev Go.RowKit
noncomputable instance txt1:TxtC:=⟨fun f=>if f = 64 then conText else if f = 200 then conAny else fun _ _=>none⟩
set_option maxRecDepth 100000 in
theorem txt1_run [MaxL]:TxtRun:=by
 intro f args H r H' h ok w ι vs hs hv
 replace h:(if f = 64 then conText else if f = 200 then conAny else fun _ _=>none) args H = some (r,H'):=h
 by_cases h1:f = 64
 ·rw [if_pos h1] at h
  subst h1
  exact conText_run h hs hv
 ·rw [if_neg h1] at h
  by_cases h2:f = 200
  ·rw [if_pos h2] at h
   subst h2
   exact conAny_run h hs hv
  ·rw [if_neg h2] at h
   cases h
end Go.Ev.S
namespace Go.Ev.S
open Go Go.Proofs Go.Ev Go.RowKit
theorem ite_run {X:Cx} {f nt n0:Nat} {K:Ex→Env→Heap→Prop} {fr:List Fr} {dr:Bool} {l:List SOp} {e:Env} {d:Option Tmp} {a b:Nat} {x:D × Heap} (h:a≤b) (hr:RunK X f nt n0 K fr dr l e d (some x)):RunK X f nt n0 K fr dr l e d (if a≤b then some x else none):=by rw [if_pos h];exact hr
def kGap:List UInt8:=[95,95,71,65,80,61]
def textG (it:It):List UInt8:=kGap ++ (dec it.fr.toNat ++ (45 :: (dec it.til.toNat ++ (10 :: (kId ++ (hexs it.id.l ++ [10,10]))))))
def textL (it:It):List UInt8:=if it.gap then textG it else textR it
def textD (it:It):D:=if itOk it then .vsl false (ofBytes (textL it)) (textL it).length else .vsl true [] 0
set_option maxHeartbeats 4000000 in
theorem text_bad [MaxL] (it:It) (hb:∀ p∈it.rc.fields.l,PrB p) (hn:it.rc.fields.l.length < 1000000) (ho:itOk it = false):call cx 64 [.agg (Enc.cells it)] [] = some (.vsl true [] 0,[]):=by
 have hw:=wright_ev it hb hn
 rw [ho] at hw
 have hcon:cx.con 64 [.agg (Enc.cells it)] [] = none:=by
  refine conText_none ?_
  unfold itOk at ho
  cases hg:it.gap with
  | true=>exact .inl rfl
  | false=>rw [hg,if_neg (by decide)] at ho;exact .inr ho
 refine call_run Tryz.func64 rfl ⟨rfl,hcon⟩ ?_
 simp [Tryz.f64,hw]
set_option maxHeartbeats 4000000 in
set_option maxRecDepth 4000 in
theorem text_gap [MaxL] (it:It) (hi:it.Ok) (hg:it.gap = true) (hb:∀ p∈it.rc.fields.l,PrB p) (hn:it.rc.fields.l.length < 1000000) (ho:itOk it = true):call cx 64 [.agg (Enc.cells it)] [] = some (.vsl false (ofBytes (textG it)) (textG it).length,[]):=by
 have hw:=wright_ev it hb hn
 rw [ho] at hw
 have hcon:cx.con 64 [.agg (Enc.cells it)] [] = none:=conText_none (.inl hg)
 have hr1:=hi.fr
 have hr2:=hi.til
 unfold isU64 at hr1 hr2
 have n1:=number_ev it.fr.toNat (by omega)
 have n2:=number_ev it.til.toNat (by omega)
 have e1:((it.fr.toNat:Nat):Int) = it.fr:=by omega
 have e2:((it.til.toNat:Nat):Int) = it.til:=by omega
 rw [e1] at n1
 rw [e2] at n2
 have x1:=hex_ev it.id.l it.id.h
 have l4:=hexs_len it.id.l
 rw [it.id.h] at l4
 have d1:=dec_len it.fr.toNat
 have d2:=dec_len it.til.toNat
 unfold textG kGap kId
 generalize dec it.fr.toNat = s1 at *
 generalize dec it.til.toNat = s2 at *
 generalize hexs it.id.l = s4 at *
 refine call_run Tryz.func64 rfl ⟨rfl,hcon⟩ ?_
 have c0:6+s1.length≤4611686018427387904:=by omega
 have c1:s1.length≤4611686018427387897:=by omega
 simp [Tryz.f64,hw,hg,n1,n2,c0,c1]
 iterate
  refine ite_run (by omega) ?_
  try simp [x1]
theorem text_ev [MaxL] (it:It) (hi:it.Ok) (hb:∀ p∈it.rc.fields.l,PrB p) (hn:it.rc.fields.l.length < 1000000):call cx 64 [.agg (Enc.cells it)] [] = some (textD it,[]):=by
 unfold textD textL
 cases ho:itOk it with
 | false=>exact text_bad it hb hn ho
 | true =>
  cases hg:it.gap with
  | true=>exact text_gap it hi hg hb hn ho
  | false =>
   unfold itOk at ho
   rw [hg,if_neg (by decide)] at ho
   exact call_con (conText_right hi hg ho)
end Go.Ev.S
namespace Go.Ev.S
open Go Go.Proofs Go.Ev
end Go.Ev.S
namespace Go.Ev.S
open Go Go.Proofs Go.Ev
end Go.Ev.S
namespace Go.Ev.S
open Go Go.Proofs Go.Ev
def cutL (sep s:List UInt8):List UInt8 × List UInt8 × Bool:=if idxN sep s 0 = -1 then (s,[],false) else (s.take (idxN sep s 0).toNat,s.drop ((idxN sep s 0).toNat+sep.length),true)
theorem cutlite_ev [MaxL] [TxtC] (s sep:List UInt8) (hs:s.length < 1000000) (hl:sep.length < 1000000):call cx 156 [.str s,.str sep] [] = some (.tup [.str (cutL sep s).1,.str (cutL sep s).2.1,.bool (cutL sep s).2.2],[]):=by
 have h:=index_ev s sep (by omega)
 unfold cutL
 refine call_run Tryz.func156 rfl ⟨rfl,rfl⟩ ?_
 rcases idx_cases sep s 0 with ⟨i,h1,h2,-⟩ | h1
 ·rw [h1] at h
  rw [h1]
  obtain ⟨j,hj⟩:∃ j,j = i+sep.length:=⟨_,rfl⟩
  have hw:IntKind.i64.wrap ((i:Int)+(sep.length:Int)) = (j:Int):=by rw [wrap_i64] <;> omega
  have hn:¬ ((0+i:Nat):Int) = -1:=by omega
  have g1:(i:Int)≤(s.length:Int):=by omega
  have g2:(j:Int)≤(s.length:Int):=by omega
  have g3:j≤s.length:=by omega
  have g4:i≤s.length:=by omega
  rw [Nat.zero_add] at h hn
  simp [Tryz.f156,h,hw,g1,g2,← hj]
  exact List.take_of_length_le (by simp)
 ·rw [h1] at h
  simp [Tryz.f156,h,h1]
theorem cut_ev [MaxL] [TxtC] (s sep:List UInt8) (hs:s.length < 1000000) (hl:sep.length < 1000000):call cx 127 [.str s,.str sep] [] = some (.tup [.str (cutL sep s).1,.str (cutL sep s).2.1,.bool (cutL sep s).2.2],[]):=by
 have h:=cutlite_ev s sep hs hl
 refine call_run Tryz.func127 rfl ⟨rfl,rfl⟩ ?_
 simp [Tryz.f127,h]
end Go.Ev.S
namespace Go.Ev.S
open Go Go.Proofs Go.Ev
def pre (p s:List UInt8):Bool:=s.take p.length == p
theorem pfx_ev [MaxL] [TxtC] (s p:List UInt8) (_:s.length < 1000000) (_:p.length < 1000000):call cx 181 [.str s,.str p] [] = some (.bool (pre p s),[]):=by
 refine call_run Tryz.func181 rfl ⟨rfl,rfl⟩ ?_
 by_cases h:p.length≤s.length
 ·have h':(p.length:Int)≤(s.length:Int):=by omega
  simp [Tryz.f181,h',pre]
 ·have h':¬ (p.length:Int)≤(s.length:Int):=by omega
  have hn:pre p s = false:=by
   unfold pre
   rw [List.take_of_length_le (by omega)]
   rw [beq_eq_false_iff_ne]
   intro e
   rw [e] at h
   omega
  simp [Tryz.f181,h',hn]
theorem pre_len {p s:List UInt8} (h:pre p s = true):p.length≤s.length:=by
 unfold pre at h
 have:=congrArg List.length (beq_iff_eq.1 h)
 rw [List.length_take] at this
 omega
theorem trim_ev [MaxL] [TxtC] (s p:List UInt8) (hs:s.length < 1000000) (hp:p.length < 1000000):call cx 129 [.str s,.str p] [] = some (.str (if pre p s then s.drop p.length else s),[]):=by
 have h:=pfx_ev s p hs hp
 have h2:call cx 159 [.str s,.str p] [] = some (.str (if pre p s then s.drop p.length else s),[]):=by
  refine call_run Tryz.func159 rfl ⟨rfl,rfl⟩ ?_
  cases hq:pre p s with
  | true =>
   have:=pre_len hq
   have g:(p.length:Int)≤(s.length:Int):=by omega
   rw [hq] at h
   simp [Tryz.f159,h,g]
   exact List.take_of_length_le (by simp)
  | false =>
   rw [hq] at h
   simp [Tryz.f159,h]
 refine call_run Tryz.func129 rfl ⟨rfl,rfl⟩ ?_
 simp [Tryz.f129,h2]
end Go.Ev.S
namespace Go.Ev.S
open Go Go.Proofs Go.Ev
theorem orI_u8 (a b:UInt8):orI .u8 (a.toNat:Int) (b.toNat:Int) = ((a ||| b).toNat:Int):=by
 unfold orI
 have h:=(a ||| b).toNat_lt
 have e:(BitVec.ofInt IntKind.u8.bits (a.toNat:Int) ||| BitVec.ofInt IntKind.u8.bits (b.toNat:Int)).toNat = (a ||| b).toNat:=by
  simp [IntKind.bits]
  rfl
 rw [e,wrap_u8]
 omega
theorem lower_ev [MaxL] [TxtC] (c:UInt8):call cx 183 [.int .u8 c.toNat] [] = some (.int .u8 ((c ||| 32).toNat:Int),[]):=by
 have h:=orI_u8 c 32
 have h':orI .u8 (c.toNat:Int) 32 = ((c ||| 32).toNat:Int):=h
 refine call_run Tryz.func183 rfl ⟨rfl,rfl⟩ ?_
 simp [Tryz.f183,h']
theorem all_u8 {p:UInt8→Bool} (h:((List.range 256).all fun k=>p (UInt8.ofNat k)) = true) (c:UInt8):p c = true:=by
 have:=List.all_eq_true.1 h c.toNat (List.mem_range.2 c.toNat_lt)
 rw [UInt8.ofNat_toNat] at this
 exact this
theorem low_lt {c:UInt8} (h:c.toNat < 48):(c ||| 32).toNat < 97:=by
 have:=all_u8 (p:=fun c=>decide (c.toNat < 48) == false || decide ((c ||| 32).toNat < 97)) (by decide +kernel) c
 simpa [h] using this
theorem low_95 {c:UInt8} (h:c.toNat = 95):122 < (c ||| 32).toNat:=by
 simp [h]
def dval (c:UInt8):Option Nat:=if 48≤c.toNat∧c.toNat≤57 then some (c.toNat - 48) else if 97≤(c ||| 32).toNat∧(c ||| 32).toNat≤122 then some ((c ||| 32).toNat - 97+10) else none
def puGo (b:Nat):List UInt8→Nat→Option Nat
 | [],n=>some n
 | c :: l,n=>match dval c with
  | none=>none
  | some d=>if b≤d then none else if 18446744073709551616≤n * b+d then none else puGo b l (n * b+d)
def pu (b:Nat) (s:List UInt8):Option Nat:=if s = [] then none else puGo b s 0
theorem wrap_over {x d:Nat} (hx:x < 18446744073709551616) (hd:d < 16) (h:18446744073709551616≤x+d):IntKind.u64.wrap ((x:Int)+(d:Int)) < (x:Int):=by
 simp only [IntKind.wrap,IntKind.signed,IntKind.bits]
 simp
 omega
theorem puGo_lt (b:Nat):∀ (l:List UInt8) (n v:Nat),n < 18446744073709551616→puGo b l n = some v→v < 18446744073709551616
 | [],n,v,hn,h=>by simp [puGo] at h;omega
 | c :: l,n,v,hn,h=>by
  unfold puGo at h
  split at h
  ·cases h
  ·split at h
   ·cases h
   ·split at h
    ·cases h
    ·exact puGo_lt b l _ v (by omega) h
set_option maxHeartbeats 2000000 in
set_option maxRecDepth 4000 in
theorem pui_ev [MaxL] [TxtC] (b:Nat) (hb:b = 10∨b = 16) (s:List UInt8) (hs:s.length < 4611686018427387904) :
  (∃ n,pu b s = some n∧call cx 157 [.str s,.int .i64 b,.int .i64 64] [] = some (.tup [.int .u64 n,.nili],[])) ∨
  (pu b s = none∧∃ (x:Nat) (c:Int),(c = 1∨c = 2)∧call cx 157 [.str s,.int .i64 b,.int .i64 64] [] = some (.tup [.int .u64 x,.iface 230 (.int .i64 c)],[])):=by
 suffices h:∃ r,call cx 157 [.str s,.int .i64 b,.int .i64 64] [] = some r∧((∃ n,pu b s = some n∧r = (.tup [.int .u64 n,.nili],[]))∨(pu b s = none∧∃ (x:Nat) (c:Int),(c = 1∨c = 2)∧r = (.tup [.int .u64 x,.iface 230 (.int .i64 c)],[]))) by
  obtain ⟨r,h1,⟨n,h2,rfl⟩ | ⟨h2,x,c,h3,rfl⟩⟩:=h
  ·exact .inl ⟨n,h2,h1⟩
  ·exact .inr ⟨h2,x,c,h3,h1⟩
 refine call_runE (fun r=>(∃ n:Nat,pu b s = some n∧r = (D.tup [.int .u64 n,.nili],[]))∨(pu b s = none∧∃ (x:Nat) (c:Int),(c = 1∨c = 2)∧r = (D.tup [.int .u64 x,.iface 230 (.int .i64 c)],[]))) Tryz.func157 rfl ⟨rfl,rfl⟩ ?_
 by_cases h0:s = []
 ·subst h0
  simp [Tryz.f157,pu]
  exact ⟨0,rfl⟩
 ·have hpos:s.length≠0:=by simpa using h0
  have hc2:(2:Int)≤(b:Int):=by omega
  have hc36:(b:Int)≤36:=by omega
  have hbz:¬ (b:Int) = 0:=by omega
  have hmx:IntKind.u64.wrap (IntKind.u64.wrap (2 ^ min 64 IntKind.u64.bits) - 1) = 18446744073709551615:=by decide
  have hpu:pu b s = puGo b s 0:=by rw [pu,if_neg h0]
  rcases hb with rfl | rfl
  ·simp [Tryz.f157,h0,hmx]
   refine Run.loopThen (fun (z:Nat × Nat) e H'=>z.1≤s.length∧z.2 < 18446744073709551616∧puGo 10 (s.drop z.1) z.2 = puGo 10 s 0∧H' = [some (ofBytes s)]∧look e 1 = some (.int .i64 10)∧look e 8 = some (.bool false)∧look e 9 = some (.str s)∧look e 10 = some (.int .u64 1844674407370955162)∧look e 11 = some (.int .u64 18446744073709551615)∧look e 12 = some (.bool false)∧look e 13 = some (.int .u64 (z.2:Nat))∧look e 99 = some (.osl 0 s.length 0 s.length 1)∧look e 100 = some (.int .i64 s.length)∧look e 101 = some (.int .i64 (z.1:Nat))) (fun z=>s.length - z.1) (0,0) (by simp) ?_
   rintro ⟨i,n⟩ e H' ⟨hi,hn,hp,rfl,h1,h8,h9,h10,h11,h12,h13,h99,h100,h101⟩
   simp only at hi hn hp h13 h101
   by_cases hlt:i < s.length
   ·have hlt':(i:Int) < (s.length:Int):=by omega
    have hw:IntKind.i64.wrap ((i:Int)+1) = ((i+1:Nat):Int):=by rw [wrap_i64] <;> omega
    have hc:=lower_ev s[i]
    have hclt:=s[i].toNat_lt
    rw [List.drop_eq_getElem_cons hlt,puGo] at hp
    unfold dval at hp
    by_cases hd:48≤s[i].toNat∧s[i].toNat≤57
    ·rw [if_pos hd] at hp
     have g1:(48:Int)≤(s[i].toNat:Int):=by omega
     have g2:(s[i].toNat:Int)≤57:=by omega
     have g3:¬ (s[i].toNat:Int) = 95:=by omega
     obtain ⟨d,hdd⟩:∃ d,d = s[i].toNat - 48:=⟨_,rfl⟩
     have dw:IntKind.u8.wrap ((s[i].toNat:Int) - 48) = (d:Int):=by rw [wrap_u8] <;> omega
     rw [← hdd] at hp
     simp only at hp
     have hd16:d < 16:=by omega
     have wd:IntKind.u64.wrap (d:Int) = (d:Int):=by rw [wrap_u64];omega
     by_cases hbd:10≤d
     ·have hbd':(10:Int)≤(d:Int):=by omega
      rw [if_pos hbd] at hp
      simp [h1,h8,h9,h10,h11,h12,h13,h99,h100,h101,hlt',ofBytes_at hlt,g1,g2,g3,dw,hbd']
      exact ⟨by rw [hpu];exact hp.symm,0,rfl⟩
     ·have hbd':¬ (10:Int)≤(d:Int):=by omega
      rw [if_neg hbd] at hp
      by_cases hcut:1844674407370955162≤n
      ·have hcut':(1844674407370955162:Int)≤(n:Int):=by omega
       rw [if_pos (by omega)] at hp
       simp [h1,h8,h9,h10,h11,h12,h13,h99,h100,h101,hlt',ofBytes_at hlt,g1,g2,g3,dw,hbd',hcut']
       exact ⟨by rw [hpu];exact hp.symm,18446744073709551615,rfl⟩
      ·have hcut':¬ (1844674407370955162:Int)≤(n:Int):=by omega
       obtain ⟨m,hm⟩:∃ m,m = n * 10:=⟨_,rfl⟩
       have hm64:m < 18446744073709551616:=by omega
       have wm:IntKind.u64.wrap ((n:Int) * 10) = (m:Int):=by rw [wrap_u64] <;> omega
       rw [← hm] at hp
       by_cases hov:18446744073709551616≤m+d
       ·rw [if_pos hov] at hp
        have hx:=wrap_over hm64 (by omega) hov
        generalize hX:IntKind.u64.wrap ((m:Int)+(d:Int)) = X at hx
        simp [h1,h8,h9,h10,h11,h12,h13,h99,h100,h101,hlt',ofBytes_at hlt,g1,g2,g3,dw,hbd',hcut',wd,wm,hX,hx]
        exact ⟨by rw [hpu];exact hp.symm,18446744073709551615,rfl⟩
       ·rw [if_neg hov] at hp
        obtain ⟨q,hq⟩:∃ q,q = m+d:=⟨_,rfl⟩
        have wq:IntKind.u64.wrap ((m:Int)+(d:Int)) = (q:Int):=by rw [wrap_u64] <;> omega
        have hx1:¬ (q:Int) < (m:Int):=by omega
        have hx2:¬ (18446744073709551615:Int) < (q:Int):=by omega
        rw [← hq] at hp
        simp [h1,h8,h9,h10,h11,h12,h13,h99,h100,h101,hlt',ofBytes_at hlt,g1,g2,g3,dw,hbd',hcut',wd,wm,wq,hx1,hx2,hw]
        exact ⟨i+1,by omega,by omega,q,by omega,hp,rfl,by simp⟩
    ·rw [if_neg hd] at hp
     by_cases h48:s[i].toNat < 48
     ·have lw:=low_lt h48
      rw [if_neg (by omega)] at hp
      have g1:¬ (48:Int)≤(s[i].toNat:Int):=by omega
      have g3:¬ (s[i].toNat:Int) = 95:=by omega
      have f1:¬ (97:Int)≤((s[i] ||| 32).toNat:Int):=by omega
      generalize (s[i] ||| 32).toNat = lc at *
      simp only at hp
      simp [h1,h8,h9,h10,h11,h12,h13,h99,h100,h101,hlt',ofBytes_at hlt,g1,g3,hc,f1]
      exact ⟨by rw [hpu];exact hp.symm,0,rfl⟩
     ·have g1:(48:Int)≤(s[i].toNat:Int):=by omega
      have g2:¬ (s[i].toNat:Int)≤57:=by omega
      by_cases g95:s[i].toNat = 95
      ·have lw:=low_95 g95
       rw [if_neg (by omega)] at hp
       have g3:(s[i].toNat:Int) = 95:=by omega
       have f1:(97:Int)≤((s[i] ||| 32).toNat:Int):=by omega
       have f2:¬ ((s[i] ||| 32).toNat:Int)≤122:=by omega
       generalize (s[i] ||| 32).toNat = lc at *
       rw [g3] at hc
       simp only at hp
       simp [h1,h8,h9,h10,h11,h12,h13,h99,h100,h101,hlt',ofBytes_at hlt,g3,hc,f1,f2]
       exact ⟨by rw [hpu];exact hp.symm,0,rfl⟩
      ·have g3:¬ (s[i].toNat:Int) = 95:=by omega
       have lw256:=(s[i] ||| 32).toNat_lt
       generalize (s[i] ||| 32).toNat = lc at *
       by_cases f:97≤lc∧lc≤122
       ·rw [if_pos f] at hp
        have f1:(97:Int)≤(lc:Int):=by omega
        have f2:(lc:Int)≤122:=by omega
        obtain ⟨d0,hd0⟩:∃ d,d = lc - 97:=⟨_,rfl⟩
        obtain ⟨d,hdd⟩:∃ d,d = d0+10:=⟨_,rfl⟩
        have dw1:IntKind.u8.wrap ((lc:Int) - 97) = (d0:Int):=by rw [wrap_u8] <;> omega
        have dw2:IntKind.u8.wrap ((d0:Int)+10) = (d:Int):=by rw [wrap_u8] <;> omega
        rw [← hd0,← hdd] at hp
        simp only at hp
        have hd16:d < 36:=by omega
        have wd:IntKind.u64.wrap (d:Int) = (d:Int):=by rw [wrap_u64];omega
        by_cases hbd:10≤d
        ·have hbd':(10:Int)≤(d:Int):=by omega
         rw [if_pos hbd] at hp
         simp [h1,h8,h9,h10,h11,h12,h13,h99,h100,h101,hlt',ofBytes_at hlt,g1,g2,g3,hc,f1,f2,dw1,dw2,hbd']
         exact ⟨by rw [hpu];exact hp.symm,0,rfl⟩
        ·have hbd':¬ (10:Int)≤(d:Int):=by omega
         rw [if_neg hbd] at hp
         by_cases hcut:1844674407370955162≤n
         ·have hcut':(1844674407370955162:Int)≤(n:Int):=by omega
          rw [if_pos (by omega)] at hp
          simp [h1,h8,h9,h10,h11,h12,h13,h99,h100,h101,hlt',ofBytes_at hlt,g1,g2,g3,hc,f1,f2,dw1,dw2,hbd',hcut']
          exact ⟨by rw [hpu];exact hp.symm,18446744073709551615,rfl⟩
         ·have hcut':¬ (1844674407370955162:Int)≤(n:Int):=by omega
          obtain ⟨m,hm⟩:∃ m,m = n * 10:=⟨_,rfl⟩
          have hm64:m < 18446744073709551616:=by omega
          have wm:IntKind.u64.wrap ((n:Int) * 10) = (m:Int):=by rw [wrap_u64] <;> omega
          rw [← hm] at hp
          by_cases hov:18446744073709551616≤m+d
          ·rw [if_pos hov] at hp
           have hx:=wrap_over hm64 (by omega) hov
           generalize hX:IntKind.u64.wrap ((m:Int)+(d:Int)) = X at hx
           simp [h1,h8,h9,h10,h11,h12,h13,h99,h100,h101,hlt',ofBytes_at hlt,g1,g2,g3,hc,f1,f2,dw1,dw2,hbd',hcut',wd,wm,hX,hx]
           exact ⟨by rw [hpu];exact hp.symm,18446744073709551615,rfl⟩
          ·rw [if_neg hov] at hp
           obtain ⟨q,hq⟩:∃ q,q = m+d:=⟨_,rfl⟩
           have wq:IntKind.u64.wrap ((m:Int)+(d:Int)) = (q:Int):=by rw [wrap_u64] <;> omega
           have hx1:¬ (q:Int) < (m:Int):=by omega
           have hx2:¬ (18446744073709551615:Int) < (q:Int):=by omega
           rw [← hq] at hp
           simp [h1,h8,h9,h10,h11,h12,h13,h99,h100,h101,hlt',ofBytes_at hlt,g1,g2,g3,hc,f1,f2,dw1,dw2,hbd',hcut',wd,wm,wq,hx1,hx2,hw]
           exact ⟨i+1,by omega,by omega,q,by omega,hp,rfl,by simp⟩
       ·rw [if_neg f] at hp
        by_cases f3:97≤lc
        ·have f1:(97:Int)≤(lc:Int):=by omega
         have f2:¬ (lc:Int)≤122:=by omega
         simp only at hp
         simp [h1,h8,h9,h10,h11,h12,h13,h99,h100,h101,hlt',ofBytes_at hlt,g1,g2,g3,hc,f1,f2]
         exact ⟨by rw [hpu];exact hp.symm,0,rfl⟩
        ·have f1:¬ (97:Int)≤(lc:Int):=by omega
         simp only at hp
         simp [h1,h8,h9,h10,h11,h12,h13,h99,h100,h101,hlt',ofBytes_at hlt,g1,g2,g3,hc,f1]
         exact ⟨by rw [hpu];exact hp.symm,0,rfl⟩
   ·have hlt':¬ (i:Int) < (s.length:Int):=by omega
    rw [List.drop_eq_nil_of_le (by omega),puGo] at hp
    simp [h1,h8,h9,h10,h11,h12,h13,h99,h100,h101,hlt']
    exact ⟨n,by rw [hpu];exact hp.symm,rfl⟩
  ·simp [Tryz.f157,h0,hmx]
   refine Run.loopThen (fun (z:Nat × Nat) e H'=>z.1≤s.length∧z.2 < 18446744073709551616∧puGo 16 (s.drop z.1) z.2 = puGo 16 s 0∧H' = [some (ofBytes s)]∧look e 1 = some (.int .i64 16)∧look e 8 = some (.bool false)∧look e 9 = some (.str s)∧look e 10 = some (.int .u64 1152921504606846976)∧look e 11 = some (.int .u64 18446744073709551615)∧look e 12 = some (.bool false)∧look e 13 = some (.int .u64 (z.2:Nat))∧look e 99 = some (.osl 0 s.length 0 s.length 1)∧look e 100 = some (.int .i64 s.length)∧look e 101 = some (.int .i64 (z.1:Nat))) (fun z=>s.length - z.1) (0,0) (by simp) ?_
   rintro ⟨i,n⟩ e H' ⟨hi,hn,hp,rfl,h1,h8,h9,h10,h11,h12,h13,h99,h100,h101⟩
   simp only at hi hn hp h13 h101
   by_cases hlt:i < s.length
   ·have hlt':(i:Int) < (s.length:Int):=by omega
    have hw:IntKind.i64.wrap ((i:Int)+1) = ((i+1:Nat):Int):=by rw [wrap_i64] <;> omega
    have hc:=lower_ev s[i]
    have hclt:=s[i].toNat_lt
    rw [List.drop_eq_getElem_cons hlt,puGo] at hp
    unfold dval at hp
    by_cases hd:48≤s[i].toNat∧s[i].toNat≤57
    ·rw [if_pos hd] at hp
     have g1:(48:Int)≤(s[i].toNat:Int):=by omega
     have g2:(s[i].toNat:Int)≤57:=by omega
     have g3:¬ (s[i].toNat:Int) = 95:=by omega
     obtain ⟨d,hdd⟩:∃ d,d = s[i].toNat - 48:=⟨_,rfl⟩
     have dw:IntKind.u8.wrap ((s[i].toNat:Int) - 48) = (d:Int):=by rw [wrap_u8] <;> omega
     rw [← hdd] at hp
     simp only at hp
     have hd16:d < 16:=by omega
     have wd:IntKind.u64.wrap (d:Int) = (d:Int):=by rw [wrap_u64];omega
     by_cases hbd:16≤d
     ·have hbd':(16:Int)≤(d:Int):=by omega
      rw [if_pos hbd] at hp
      simp [h1,h8,h9,h10,h11,h12,h13,h99,h100,h101,hlt',ofBytes_at hlt,g1,g2,g3,dw,hbd']
      exact ⟨by rw [hpu];exact hp.symm,0,rfl⟩
     ·have hbd':¬ (16:Int)≤(d:Int):=by omega
      rw [if_neg hbd] at hp
      by_cases hcut:1152921504606846976≤n
      ·have hcut':(1152921504606846976:Int)≤(n:Int):=by omega
       rw [if_pos (by omega)] at hp
       simp [h1,h8,h9,h10,h11,h12,h13,h99,h100,h101,hlt',ofBytes_at hlt,g1,g2,g3,dw,hbd',hcut']
       exact ⟨by rw [hpu];exact hp.symm,18446744073709551615,rfl⟩
      ·have hcut':¬ (1152921504606846976:Int)≤(n:Int):=by omega
       obtain ⟨m,hm⟩:∃ m,m = n * 16:=⟨_,rfl⟩
       have hm64:m < 18446744073709551616:=by omega
       have wm:IntKind.u64.wrap ((n:Int) * 16) = (m:Int):=by rw [wrap_u64] <;> omega
       rw [← hm] at hp
       by_cases hov:18446744073709551616≤m+d
       ·rw [if_pos hov] at hp
        have hx:=wrap_over hm64 (by omega) hov
        generalize hX:IntKind.u64.wrap ((m:Int)+(d:Int)) = X at hx
        simp [h1,h8,h9,h10,h11,h12,h13,h99,h100,h101,hlt',ofBytes_at hlt,g1,g2,g3,dw,hbd',hcut',wd,wm,hX,hx]
        exact ⟨by rw [hpu];exact hp.symm,18446744073709551615,rfl⟩
       ·rw [if_neg hov] at hp
        obtain ⟨q,hq⟩:∃ q,q = m+d:=⟨_,rfl⟩
        have wq:IntKind.u64.wrap ((m:Int)+(d:Int)) = (q:Int):=by rw [wrap_u64] <;> omega
        have hx1:¬ (q:Int) < (m:Int):=by omega
        have hx2:¬ (18446744073709551615:Int) < (q:Int):=by omega
        rw [← hq] at hp
        simp [h1,h8,h9,h10,h11,h12,h13,h99,h100,h101,hlt',ofBytes_at hlt,g1,g2,g3,dw,hbd',hcut',wd,wm,wq,hx1,hx2,hw]
        exact ⟨i+1,by omega,by omega,q,by omega,hp,rfl,by simp⟩
    ·rw [if_neg hd] at hp
     by_cases h48:s[i].toNat < 48
     ·have lw:=low_lt h48
      rw [if_neg (by omega)] at hp
      have g1:¬ (48:Int)≤(s[i].toNat:Int):=by omega
      have g3:¬ (s[i].toNat:Int) = 95:=by omega
      have f1:¬ (97:Int)≤((s[i] ||| 32).toNat:Int):=by omega
      generalize (s[i] ||| 32).toNat = lc at *
      simp only at hp
      simp [h1,h8,h9,h10,h11,h12,h13,h99,h100,h101,hlt',ofBytes_at hlt,g1,g3,hc,f1]
      exact ⟨by rw [hpu];exact hp.symm,0,rfl⟩
     ·have g1:(48:Int)≤(s[i].toNat:Int):=by omega
      have g2:¬ (s[i].toNat:Int)≤57:=by omega
      by_cases g95:s[i].toNat = 95
      ·have lw:=low_95 g95
       rw [if_neg (by omega)] at hp
       have g3:(s[i].toNat:Int) = 95:=by omega
       have f1:(97:Int)≤((s[i] ||| 32).toNat:Int):=by omega
       have f2:¬ ((s[i] ||| 32).toNat:Int)≤122:=by omega
       generalize (s[i] ||| 32).toNat = lc at *
       rw [g3] at hc
       simp only at hp
       simp [h1,h8,h9,h10,h11,h12,h13,h99,h100,h101,hlt',ofBytes_at hlt,g3,hc,f1,f2]
       exact ⟨by rw [hpu];exact hp.symm,0,rfl⟩
      ·have g3:¬ (s[i].toNat:Int) = 95:=by omega
       have lw256:=(s[i] ||| 32).toNat_lt
       generalize (s[i] ||| 32).toNat = lc at *
       by_cases f:97≤lc∧lc≤122
       ·rw [if_pos f] at hp
        have f1:(97:Int)≤(lc:Int):=by omega
        have f2:(lc:Int)≤122:=by omega
        obtain ⟨d0,hd0⟩:∃ d,d = lc - 97:=⟨_,rfl⟩
        obtain ⟨d,hdd⟩:∃ d,d = d0+10:=⟨_,rfl⟩
        have dw1:IntKind.u8.wrap ((lc:Int) - 97) = (d0:Int):=by rw [wrap_u8] <;> omega
        have dw2:IntKind.u8.wrap ((d0:Int)+10) = (d:Int):=by rw [wrap_u8] <;> omega
        rw [← hd0,← hdd] at hp
        simp only at hp
        have hd16:d < 36:=by omega
        have wd:IntKind.u64.wrap (d:Int) = (d:Int):=by rw [wrap_u64];omega
        by_cases hbd:16≤d
        ·have hbd':(16:Int)≤(d:Int):=by omega
         rw [if_pos hbd] at hp
         simp [h1,h8,h9,h10,h11,h12,h13,h99,h100,h101,hlt',ofBytes_at hlt,g1,g2,g3,hc,f1,f2,dw1,dw2,hbd']
         exact ⟨by rw [hpu];exact hp.symm,0,rfl⟩
        ·have hbd':¬ (16:Int)≤(d:Int):=by omega
         rw [if_neg hbd] at hp
         by_cases hcut:1152921504606846976≤n
         ·have hcut':(1152921504606846976:Int)≤(n:Int):=by omega
          rw [if_pos (by omega)] at hp
          simp [h1,h8,h9,h10,h11,h12,h13,h99,h100,h101,hlt',ofBytes_at hlt,g1,g2,g3,hc,f1,f2,dw1,dw2,hbd',hcut']
          exact ⟨by rw [hpu];exact hp.symm,18446744073709551615,rfl⟩
         ·have hcut':¬ (1152921504606846976:Int)≤(n:Int):=by omega
          obtain ⟨m,hm⟩:∃ m,m = n * 16:=⟨_,rfl⟩
          have hm64:m < 18446744073709551616:=by omega
          have wm:IntKind.u64.wrap ((n:Int) * 16) = (m:Int):=by rw [wrap_u64] <;> omega
          rw [← hm] at hp
          by_cases hov:18446744073709551616≤m+d
          ·rw [if_pos hov] at hp
           have hx:=wrap_over hm64 (by omega) hov
           generalize hX:IntKind.u64.wrap ((m:Int)+(d:Int)) = X at hx
           simp [h1,h8,h9,h10,h11,h12,h13,h99,h100,h101,hlt',ofBytes_at hlt,g1,g2,g3,hc,f1,f2,dw1,dw2,hbd',hcut',wd,wm,hX,hx]
           exact ⟨by rw [hpu];exact hp.symm,18446744073709551615,rfl⟩
          ·rw [if_neg hov] at hp
           obtain ⟨q,hq⟩:∃ q,q = m+d:=⟨_,rfl⟩
           have wq:IntKind.u64.wrap ((m:Int)+(d:Int)) = (q:Int):=by rw [wrap_u64] <;> omega
           have hx1:¬ (q:Int) < (m:Int):=by omega
           have hx2:¬ (18446744073709551615:Int) < (q:Int):=by omega
           rw [← hq] at hp
           simp [h1,h8,h9,h10,h11,h12,h13,h99,h100,h101,hlt',ofBytes_at hlt,g1,g2,g3,hc,f1,f2,dw1,dw2,hbd',hcut',wd,wm,wq,hx1,hx2,hw]
           exact ⟨i+1,by omega,by omega,q,by omega,hp,rfl,by simp⟩
       ·rw [if_neg f] at hp
        by_cases f3:97≤lc
        ·have f1:(97:Int)≤(lc:Int):=by omega
         have f2:¬ (lc:Int)≤122:=by omega
         simp only at hp
         simp [h1,h8,h9,h10,h11,h12,h13,h99,h100,h101,hlt',ofBytes_at hlt,g1,g2,g3,hc,f1,f2]
         exact ⟨by rw [hpu];exact hp.symm,0,rfl⟩
        ·have f1:¬ (97:Int)≤(lc:Int):=by omega
         simp only at hp
         simp [h1,h8,h9,h10,h11,h12,h13,h99,h100,h101,hlt',ofBytes_at hlt,g1,g2,g3,hc,f1]
         exact ⟨by rw [hpu];exact hp.symm,0,rfl⟩
   ·have hlt':¬ (i:Int) < (s.length:Int):=by omega
    rw [List.drop_eq_nil_of_le (by omega),puGo] at hp
    simp [h1,h8,h9,h10,h11,h12,h13,h99,h100,h101,hlt']
    exact ⟨n,by rw [hpu];exact hp.symm,rfl⟩
end Go.Ev.S
namespace Go.Ev.S
open Go Go.Proofs Go.Ev
def numP (s:List UInt8):Option Nat:=if s = []∨20 < s.length∨(s.head? = some 48∧1 < s.length) then none else puGo 10 s 0
end Go.Ev.S
namespace Go.Ev.S
open Go Go.Proofs Go.Ev
theorem clone_ev [MaxL] [TxtC] (s:List UInt8) (h:s.length≤281474976710656):call cx 215 [.str s] [] = some (.str s,[]):=by
 refine call_con ?_
 rw [co215,conClone,if_pos h]
theorem syntax_ev [MaxL] [TxtC] (f s:List UInt8) (h:s.length≤281474976710656):∃ d,call cx 185 [.str f,.str s] [] = some (.vptr d,[]):=by
 have hc:=clone_ev s h
 suffices hh:∃ r,call cx 185 [.str f,.str s] [] = some r∧∃ d,r = (.vptr d,[]) by
  obtain ⟨r,h1,d,rfl⟩:=hh
  exact ⟨d,h1⟩
 refine call_runE (fun r=>∃ d,r = (D.vptr d,[])) Tryz.func185 rfl ⟨rfl,rfl⟩ ?_
 simp [Tryz.f185,hc]
theorem range_ev [MaxL] [TxtC] (f s:List UInt8) (h:s.length≤281474976710656):∃ d,call cx 186 [.str f,.str s] [] = some (.vptr d,[]):=by
 have hc:=clone_ev s h
 suffices hh:∃ r,call cx 186 [.str f,.str s] [] = some r∧∃ d,r = (.vptr d,[]) by
  obtain ⟨r,h1,d,rfl⟩:=hh
  exact ⟨d,h1⟩
 refine call_runE (fun r=>∃ d,r = (D.vptr d,[])) Tryz.func186 rfl ⟨rfl,rfl⟩ ?_
 simp [Tryz.f186,hc]
theorem toerr_ev [MaxL] [TxtC] (f s:List UInt8) (h:s.length≤281474976710656) (b c:Int) (hc:c = 1∨c = 2):∃ d,call cx 158 [.str f,.str s,.int .i64 b,.int .i64 64,.iface 230 (.int .i64 c)] [] = some (.iface 232 (.vptr d),[]):=by
 obtain ⟨d1,h1⟩:=syntax_ev f s h
 obtain ⟨d2,h2⟩:=range_ev f s h
 suffices hh:∃ r,call cx 158 [.str f,.str s,.int .i64 b,.int .i64 64,.iface 230 (.int .i64 c)] [] = some r∧∃ d,r = (.iface 232 (.vptr d),[]) by
  obtain ⟨r,h1,d,rfl⟩:=hh
  exact ⟨d,h1⟩
 refine call_runE (fun r=>∃ d,r = (D.iface 232 (.vptr d),[])) Tryz.func158 rfl ⟨rfl,rfl⟩ ?_
 rcases hc with rfl | rfl
 ·simp [Tryz.f158,h2]
 ·simp [Tryz.f158,h1]
theorem pu_ev [MaxL] [TxtC] (b:Nat) (hb:b = 10∨b = 16) (s:List UInt8) (hs:s.length≤281474976710656) :
  (∃ n,pu b s = some n∧call cx 128 [.str s,.int .i64 b,.int .i64 64] [] = some (.tup [.int .u64 n,.nili],[])) ∨
  (pu b s = none∧∃ (x:Nat) (d:List D),call cx 128 [.str s,.int .i64 b,.int .i64 64] [] = some (.tup [.int .u64 x,.iface 232 (.vptr d)],[])):=by
 rcases pui_ev b hb s (by omega) with ⟨n,h1,h2⟩ | ⟨h1,x,c,hc,h2⟩
 ·refine .inl ⟨n,h1,?_⟩
  refine call_run Tryz.func128 rfl ⟨rfl,rfl⟩ ?_
  simp [Tryz.f128,h2]
 ·obtain ⟨d,hd⟩:=toerr_ev [80,97,114,115,101,85,105,110,116] s hs b c hc
  refine .inr ⟨h1,x,d,?_⟩
  refine call_run Tryz.func128 rfl ⟨rfl,rfl⟩ ?_
  simp [Tryz.f128,h2,hd]
end Go.Ev.S
namespace Go.Ev.S
open Go Go.Proofs Go.Ev
def trimL (p s:List UInt8):List UInt8:=if pre p s then s.drop p.length else s
theorem trim_len (p s:List UInt8):(trimL p s).length≤s.length:=by
 unfold trimL
 split <;> simp
def lnL (b:List UInt8):List UInt8:=(cutL [10] b).1
def lnR (b:List UInt8):List UInt8:=(cutL [10] b).2.1
theorem cut_len (sep s:List UInt8):(cutL sep s).1.length≤s.length∧(cutL sep s).2.1.length≤s.length:=by
 unfold cutL
 split
 ·simp
 ·simp
  omega
theorem lnL_len (b:List UInt8):(lnL b).length≤b.length:=(cut_len [10] b).1
theorem lnR_len (b:List UInt8):(lnR b).length≤b.length:=(cut_len [10] b).2
def nmI (p b:List UInt8):Nat:=(pu 10 (trimL p (lnL b))).getD 0
def idI (p b:List UInt8):ID:=idOf (trimL p (lnL b))
end Go.Ev.S
namespace Go.Ev.S
open Go Go.Proofs Go.Ev Go.RowKit
def asc:List D:=(List.range 256).map fun i=>.bool (decide (i = 61∨i = 10))
theorem asc_ev [MaxL]:call cx 229 [.str [61,10]] [] = some (.tup [.agg asc,.bool true],[]):=call_some.2 ⟨60,by kernel_rfl⟩
theorem asc_len:asc.length = 256:=by simp [asc]
theorem asc_at (c:UInt8):asc.drop c.toNat = .bool (decide (c = 61∨c = 10)) :: asc.drop (c.toNat+1):=by
 have hl:c.toNat < asc.length:=by rw [asc_len];exact c.toNat_lt
 rw [List.drop_eq_getElem_cons hl]
 congr 1
 simp only [asc,List.getElem_map,List.getElem_range]
 congr 1
 have h1:c.toNat = 61↔c = 61:=⟨fun h=>UInt8.toNat_inj.1 h,fun h=>by rw [h];rfl⟩
 have h2:c.toNat = 10↔c = 10:=⟨fun h=>UInt8.toNat_inj.1 h,fun h=>by rw [h];rfl⟩
 rw [decide_eq_decide,h1,h2]
theorem asc_has [MaxL] (c:UInt8):call cx 230 [.vptr asc,.int .u8 c.toNat] [] = some (.bool (decide (c = 61∨c = 10)),[]):=by
 have ha:=asc_at c
 have hc:=c.toNat_lt
 have hc':(c.toNat:Int) < 256:=by omega
 generalize decide (c = 61∨c = 10) = b at *
 refine call_run Tryz.func230 rfl ⟨rfl,rfl⟩ ?_
 simp [Tryz.f230,ha,hc']
set_option maxHeartbeats 2000000 in
set_option maxRecDepth 8000 in
theorem any_big [MaxL] (s:List UInt8) (h8:8 < s.length) (hn:s.length < 1000000):call cx 200 [.vsl false (ofBytes s) s.length,.str [61,10]] [] = some (.int .i64 (anyI s 0),[]):=by
 have hus:=ia_use s.length
 simp only [h8,decide_true] at hus
 have hn1:¬ (s.length:Int) = 1:=by omega
 have ha:=asc_ev
 have hal:=asc_len
 have haf:asc.all idFree = true:=by unfold asc;rw [List.all_map,List.all_eq_true];intro x _;rfl
 have hac:asc.all (closed 0) = true:=by unfold asc;rw [List.all_map,List.all_eq_true];intro x _;rfl
 have hafL:idFree.idFreeL asc = true:=by rw [idFreeL_all];exact haf
 have haf2:(∀ x,x∈asc→idFree x = true) = True:=eq_true (List.all_eq_true.1 haf)
 have hacs:∀ n,asc.all (closed n) = true:=fun n=>by unfold asc;rw [List.all_map,List.all_eq_true];intro x _;rfl
 have hhas:=asc_has
 have hfz:freeze.freezeL [some asc] asc = some asc:=by
  have:=freezeL_idf [] [some asc] asc hafL
  rw [this]
  have gen:∀ (l:List D),(∀ d∈l,∃ b,d = .bool b)→freeze.freezeL [] l = some l:=by
   intro l
   induction l with
   | nil=>intro _;rfl
   | cons a l ih =>
    intro h
    obtain ⟨b,rfl⟩:=h a (by simp)
    have:=ih fun d hd=>h d (by simp [hd])
    rw [freeze.freezeL,this]
    rfl
  refine gen _ fun d hd=>?_
  simp only [asc,List.mem_map] at hd
  obtain ⟨i,_,rfl⟩:=hd
  exact ⟨_,rfl⟩
 have hsh:shift.shiftL 0 asc = asc:=shiftL_of_free 0 asc hafL
 obtain ⟨r,hr⟩:∃ r,anyI s 0 = r:=⟨_,rfl⟩
 rw [hr]
 have htk:List.take 256 asc = asc:=List.take_of_length_le (by omega)
 generalize hA:asc = A at *
 clear hA
 refine call_run Tryz.func200 rfl ⟨rfl,conAny_none s false (.inr h8)⟩ ?_
 simp [-List.reduceReplicate,Tryz.f200,hn1,hus,ha,hal,hacs,hsh]
 refine Run.loopThen (fun (k:Nat) e H'=>k≤s.length∧anyI (s.drop k) k = r∧H' = [some A]∧look e 7 = some (.optr 0 256 0)∧look e 60 = some (.vsl false (ofBytes s) s.length)∧look e 61 = some (.int .i64 s.length)∧look e 62 = some (.int .i64 k)) (fun k=>s.length - k) 0 ?_ ?_
 ·simpa using hr
 rintro k e H' ⟨hk,hR,rfl,k7,k60,k61,k62⟩
 by_cases hlt:k < s.length
 ·have hlt':(k:Int) < (s.length:Int):=by omega
  have hw:IntKind.i64.wrap ((k:Int)+1) = ((k+1:Nat):Int):=by rw [wrap_i64] <;> omega
  have hat:=ofBytes_at hlt
  rw [List.drop_eq_getElem_cons hlt,anyI] at hR
  have hh:=hhas s[k]
  generalize s[k] = c at *
  by_cases hc:c = 61∨c = 10
  ·rw [if_pos hc] at hR
   simp only [hc,decide_true] at hh
   simp [k7,k60,k61,k62,hlt',hat,hh,hal,haf2]
   exact hR
  ·rw [if_neg hc] at hR
   simp only [hc,decide_false] at hh
   simp [k7,k60,k61,k62,hlt',hat,hh,hal,haf2,hw]
   exact ⟨k+1,by omega,hlt,hR,by omega⟩
 ·have hlt':¬ (k:Int) < (s.length:Int):=by omega
  rw [List.drop_eq_nil_of_le (by omega),anyI] at hR
  simp [k7,k60,k61,k62,hlt']
  exact hR
theorem any_nil [MaxL] (b:Bool):call cx 200 [.vsl b [] 0,.str [61,10]] [] = some (.int .i64 (-1),[]):=by
 have hus:call cx 228 [.int .i64 0] [] = some (.bool false,[]):=ia_use 0
 refine call_run Tryz.func200 rfl ⟨rfl,conAny_none [] b (.inl rfl)⟩ ?_
 simp [Tryz.f200,hus]
 refine run_unroll ?_
 simp
theorem any_ev [MaxL] (s:Sl UInt8) (hn:s.l.length < 1000000):call cx 200 [(.vsl s.nil (ofBytes s.l) s.l.length),.str [61,10]] [] = some (.int .i64 (anyI s.l 0),[]):=by
 by_cases h0:s.l.length = 0
 ·have hl:s.l = []:=List.length_eq_zero_iff.1 h0
  rw [hl]
  exact any_nil s.nil
 ·have hnn:s.nil = false:=by
   cases h:s.nil with
   | false=>rfl
   | true=>exact absurd (by rw [s.h h];rfl) h0
  rw [hnn]
  by_cases h8:8 < s.l.length
  ·exact any_big s.l h8 hn
  ·exact call_con (conAny_short s.l (by omega) (by omega))
end Go.Ev.S
namespace Go.Ev.S
open Go Go.Proofs Go.Ev
theorem bidx_ev [MaxL] (s:Sl UInt8) (hs:s.l.length < 1000000):call cx 83 [(.vsl s.nil (ofBytes s.l) s.l.length),.vsl false [.int .u8 10] 1] [] = some (.int .i64 (idxN [10] s.l 0),[]):=by
 refine call_con ?_
 rw [co83]
 have h10:bytesR [.int .u8 10] = some [10]:=rfl
 have h2:s.l.length < 4294967281:=by omega
 simp [conBIdx,h10,h2]
theorem bcut_ev [MaxL] (s:Sl UInt8) (hs:s.l.length < 1000000):∃ (a r:Sl UInt8) (f:Bool),a.l = lnL s.l∧r.l = lnR s.l∧call cx 198 [(.vsl s.nil (ofBytes s.l) s.l.length),.vsl false [.int .u8 10] 1] [] = some (.tup [(.vsl a.nil (ofBytes a.l) a.l.length),(.vsl r.nil (ofBytes r.l) r.l.length),.bool f],[]):=by
 have h:=bidx_ev s hs
 rcases idx_cases [10] s.l 0 with ⟨i,h1,h2,-⟩ | h1
 ·simp only [Nat.zero_add,List.length_cons,List.length_nil] at h1 h2
  have hn:¬ ((i:Nat):Int) = -1:=by omega
  refine ⟨⟨s.nil,s.l.take i,fun e=>by rw [s.h e];simp⟩,⟨s.nil,s.l.drop (i+1),fun e=>by rw [s.h e];simp⟩,true,?_,?_,?_⟩
  ·simp [lnL,cutL,h1,hn]
  ·simp [lnR,cutL,h1,hn]
  ·rw [h1] at h
   have hw:IntKind.i64.wrap ((i:Int)+1) = ((i+1:Nat):Int):=by rw [wrap_i64] <;> omega
   have g1:i≤s.l.length:=by omega
   have g2:i+1≤s.l.length:=by omega
   have g1':(i:Int)≤(s.l.length:Int):=by omega
   have g2':((i+1:Nat):Int)≤(s.l.length:Int):=by omega
   have t1:List.take i (ofBytes s.l) = ofBytes (s.l.take i):=ofBytes_take _ _
   have t2:List.take (s.l.length - (i+1)) (List.drop (i+1) (ofBytes s.l)) = ofBytes (s.l.drop (i+1)):=by
    rw [ofBytes_drop]
    exact List.take_of_length_le (by simp)
   have l1:(s.l.take i).length = i:=by simp;omega
   have l2:(s.l.drop (i+1)).length = s.l.length - (i+1):=by simp
   obtain ⟨j,hj⟩:∃ j,j = i+1:=⟨_,rfl⟩
   rw [← hj] at hw g2 g2' t2 l2 ⊢
   have g3:((s.l.length:Int) - (j:Int)).toNat = s.l.length - j:=by omega
   refine call_run Tryz.func198 rfl ⟨rfl,rfl⟩ ?_
   simp [Tryz.f198,h,hw,g1',g2',t1,t2,l1,l2]
 ·refine ⟨s,.none,false,?_,?_,?_⟩
  ·simp [lnL,cutL,h1]
  ·simp [lnR,cutL,h1]
  ·rw [h1] at h
   refine call_run Tryz.func198 rfl ⟨rfl,rfl⟩ ?_
   simp [Tryz.f198,h,Sl.none]
theorem line_ev [MaxL] (s:Sl UInt8) (hs:s.l.length < 1000000) (p:List UInt8) (hp:p.length < 1000):∃ r:Sl UInt8,r.l = lnR s.l∧call cx 169 [.optr 0 1 0,.str p] [some [(.vsl s.nil (ofBytes s.l) s.l.length)]] = some (.str (trimL p (lnL s.l)),[some [(.vsl r.nil (ofBytes r.l) r.l.length)]]):=by
 obtain ⟨a,r,f,h1,h2,h3⟩:=bcut_ev s hs
 refine ⟨r,h2,?_⟩
 have hl:=lnL_len s.l
 have ht:=trim_ev (lnL s.l) p (by omega) (by omega)
 have hb:bytesD (ofBytes a.l) = some a.l:=bytesD_of a.l
 have ht2:List.take a.l.length (ofBytes a.l) = ofBytes a.l:=List.take_of_length_le (by simp)
 rw [← h1] at ht ⊢
 refine call_run Tryz.func169 rfl ⟨rfl,rfl⟩ ?_
 simp [Tryz.f169,h3,ht,hb,trimL]
theorem nline_ev [MaxL] (s:Sl UInt8) (hs:s.l.length < 1000000) (p:List UInt8) (hp:p.length < 1000):∃ r:Sl UInt8,r.l = lnR s.l∧call cx 171 [.optr 0 1 0,.str p] [some [(.vsl s.nil (ofBytes s.l) s.l.length)]] = some (.int .u64 (nmI p s.l:Nat),[some [(.vsl r.nil (ofBytes r.l) r.l.length)]]):=by
 obtain ⟨r,h1,h2⟩:=line_ev s hs p hp
 refine ⟨r,h1,?_⟩
 have hl:=lnL_len s.l
 have ht:=trim_len p (lnL s.l)
 unfold nmI
 rcases pu_ev 10 (.inl rfl) (trimL p (lnL s.l)) (by omega) with ⟨v,e1,e2⟩ | ⟨e1,x,d,e2⟩
 ·rw [e1]
  have e3:call cx 128 [.str (trimL p (lnL s.l)),.int .i64 10,.int .i64 64] [] = some (.tup [.int .u64 v,.nili],[]):=e2
  refine call_run Tryz.func171 rfl ⟨rfl,rfl⟩ ?_
  simp [Tryz.f171,h2,e3]
 ·rw [e1]
  have e3:call cx 128 [.str (trimL p (lnL s.l)),.int .i64 10,.int .i64 64] [] = some (.tup [.int .u64 x,.iface 232 (.vptr d)],[]):=e2
  refine call_run Tryz.func171 rfl ⟨rfl,rfl⟩ ?_
  simp [Tryz.f171,h2,e3]
theorem idline_ev [MaxL] (s:Sl UInt8) (hs:s.l.length < 1000000) (p:List UInt8) (hp:p.length < 1000):∃ r:Sl UInt8,r.l = lnR s.l∧call cx 170 [.optr 0 1 0,.str p] [some [(.vsl s.nil (ofBytes s.l) s.l.length)]] = some (.agg (ofBytes (idI p s.l).l),[some [(.vsl r.nil (ofBytes r.l) r.l.length)]]):=by
 obtain ⟨r,h1,h2⟩:=line_ev s hs p hp
 refine ⟨r,h1,?_⟩
 have hl:=lnL_len s.l
 have ht:=trim_len p (lnL s.l)
 have hid:=id_ev (trimL p (lnL s.l)) (by omega)
 have e:(idI p s.l).l = (idP (trimL p (lnL s.l))).getD zero16:=rfl
 rw [← e] at hid
 have hl16:=(idI p s.l).h
 have ht16:List.take 16 (ofBytes (idI p s.l).l) = ofBytes (idI p s.l).l:=List.take_of_length_le (by simp)
 refine call_run Tryz.func170 rfl ⟨rfl,rfl⟩ ?_
 simp [Tryz.f170,h2,hid,hl16,ht16]
end Go.Ev.S
namespace Go.Ev
open Go Go.Proofs
mutual
theorem noZ_free:∀ (d:D),idFree d = true→noZ d = true
 | .agg cs,h=>by simp only [idFree] at h;simp only [noZ];exact noZL_free cs h
 | .tup cs,h=>by simp only [idFree] at h;simp only [noZ];exact noZL_free cs h
 | .fn _ cs,h=>by simp only [idFree] at h;simp only [noZ];exact noZL_free cs h
 | .iface _ d,h=>by simp only [idFree] at h;simp only [noZ];exact noZ_free d h
 | .optr ..,h=>by simp [idFree] at h
 | .osl ..,h=>by simp [idFree] at h
 | .bool _,_=>rfl
 | .int _ _,_=>rfl
 | .str _,_=>rfl
 | .nilp,_=>rfl
 | .nilf,_=>rfl
 | .nili,_=>rfl
 | .vptr _,_=>rfl
 | .vsl ..,_=>rfl
 | .raw _,_=>rfl
theorem noZL_free:∀ (l:List D),idFree.idFreeL l = true→noZ.noZL l = true
 | [],_=>rfl
 | d :: l,h=>by
  simp only [idFree.idFreeL,Bool.and_eq_true] at h
  simp only [noZ.noZL,noZ_free d h.1,noZL_free l h.2,Bool.and_self]
end
@[simp] theorem noZL_append (a b:List D):noZ.noZL (a ++ b) = (noZ.noZL a && noZ.noZL b):=by
 induction a with
 | nil=>simp [noZ.noZL]
 | cons d l ih=>simp [noZ.noZL,ih,Bool.and_assoc]
@[simp] theorem noZL_of (l:List UInt8):noZ.noZL (ofBytes l) = true:=noZL_free _ (by simp)
@[simp] theorem noZL_cells {α:Type} [Enc α] (a:α):noZ.noZL (Enc.cells a) = true:=noZL_free _ (cells_idFreeL a)
@[simp] theorem noZL_encs {α:Type} [Enc α] (l:List α):noZ.noZL (encs l) = true:=noZL_free _ (encs_idFreeL l)
end Go.Ev
namespace Go.Ev.S
open Go Go.Proofs Go.Ev
theorem anyI_cases:∀ (l:List UInt8) (n:Nat),(∃ k:Nat,anyI l n = ((n+k:Nat):Int)∧∃ h:k < l.length,(l[k] = 61∨l[k] = 10)∧∀ j (hj:j < k),l[j]≠61∧l[j]≠10)∨anyI l n = -1
 | [],n=>.inr rfl
 | b :: l,n=>by
  by_cases hb:b = 61∨b = 10
  ·exact .inl ⟨0,by rw [anyI,if_pos hb];simp,by simp,hb,fun j hj=>by omega⟩
  ·rw [anyI,if_neg hb]
   rcases anyI_cases l (n+1) with ⟨k,h1,h2,h3,h4⟩ | h
   ·refine .inl ⟨k+1,by rw [h1];congr 1;omega,by simpa using h2,by simpa using h3,fun j hj=>?_⟩
    cases j with
    | zero=>exact ⟨fun e=>hb (.inl e),fun e=>hb (.inr e)⟩
    | succ j=>exact h4 j (by omega)
   ·exact .inr h
def pairP (b:List UInt8):Option (Pr × List UInt8) :=
 if anyI b 0 < 1 then none
 else if b.getD (anyI b 0).toNat 0 = 61 then some (⟨b.take (anyI b 0).toNat,lnL (b.drop ((anyI b 0).toNat+1))⟩,lnR (b.drop ((anyI b 0).toNat+1)))
 else match leGet (b.drop ((anyI b 0).toNat+1)) 0 8 with
  | none=>none
  | some n=>if 256 < n∨(b.drop ((anyI b 0).toNat+1)).length < 9+n then none
   else some (⟨b.take (anyI b 0).toNat,((b.drop ((anyI b 0).toNat+1)).drop 8).take n⟩,(b.drop ((anyI b 0).toNat+1)).drop (9+n))
theorem leGet_lt (l:List UInt8) (n:Nat) (h:leGet l 0 8 = some n):n < 18446744073709551616∧8≤l.length:=by
 unfold leGet at h
 split at h
 ·rename_i hc
  injection h with h
  refine ⟨?_,by omega⟩
  rw [← h]
  have:=leN_lt ((l.drop (0:Int).toNat).take (8:Int).toNat)
  refine Nat.lt_of_lt_of_le this ?_
  have hl:((l.drop (0:Int).toNat).take (8:Int).toNat).length≤8:=by simp;omega
  exact Nat.le_trans (Nat.pow_le_pow_right (by decide) hl) (by decide)
 ·cases h
set_option maxHeartbeats 4000000 in
set_option maxRecDepth 8000 in
theorem lpair_ev [MaxL] (s:Sl UInt8) (hs:s.l.length < 1000000):∃ r:Sl UInt8,(∀ p b,pairP s.l = some (p,b)→r.l = b) ∧
  call cx 172 [.optr 0 1 0] [some [(.vsl s.nil (ofBytes s.l) s.l.length)]] = some (.tup [.agg (match pairP s.l with | some (p,_)=>[.str p.name,.str p.value] | none=>[.str [],.str []]),.bool (pairP s.l).isSome],[some [(.vsl r.nil (ofBytes r.l) r.l.length)]]):=by
 have ha:=any_ev s hs
 rcases anyI_cases s.l 0 with ⟨k,h1,h2,h3,-⟩ | h1
 ·rw [Nat.zero_add] at h1
  rw [h1] at ha
  cases k with
  | zero =>
   have hP:pairP s.l = none:=by unfold pairP;rw [h1,if_pos (by decide)]
   rw [hP]
   refine ⟨s,fun p b h=>(by cases h),?_⟩
   have ha0:call cx 200 [(.vsl s.nil (ofBytes s.l) s.l.length),.str [61,10]] [] = some (.int .i64 0,[]):=ha
   refine call_run Tryz.func172 rfl ⟨rfl,rfl⟩ ?_
   simp [Tryz.f172,ha0]
  | succ m =>
   obtain ⟨k,hk⟩:∃ k,k = m+1:=⟨_,rfl⟩
   rw [← hk] at h1 ha h2
   have hk1:1≤k:=by omega
   have h3':s.l[k] = 61∨s.l[k] = 10:=by subst hk;exact h3
   clear h3
   have hkn:¬ (k:Int) < 1:=by omega
   have hnn:s.nil = false:=Sl.nn h2
   rw [hnn] at ha
   have hat:=ofBytes_at h2
   have hgd:s.l.getD k 0 = s.l[k]:=by rw [List.getD,List.getElem?_eq_getElem h2];rfl
   have hw1:IntKind.i64.wrap ((k:Int)+1) = ((k+1:Nat):Int):=by rw [wrap_i64] <;> omega
   have t1:List.take k (ofBytes s.l) = ofBytes (s.l.take k):=ofBytes_take _ _
   have t1l:(s.l.take k).length = k:=by simp;omega
   have t1b:bytesD (ofBytes (s.l.take k)) = some (s.l.take k):=bytesD_of _
   have t1t:List.take k (ofBytes (s.l.take k)) = ofBytes (s.l.take k):=List.take_of_length_le (by simp;omega)
   obtain ⟨R,hR⟩:∃ R:Sl UInt8,R = ⟨false,s.l.drop (k+1),fun e=>by cases e⟩:=⟨_,rfl⟩
   have hRl:R.l = s.l.drop (k+1):=by rw [hR]
   have hRn:R.nil = false:=by rw [hR]
   have hRlen:R.l.length = s.l.length - (k+1):=by rw [hRl];simp
   have t2:List.take (s.l.length - (k+1)) (List.drop (k+1) (ofBytes s.l)) = ofBytes R.l:=by
    rw [ofBytes_drop,← hRl]
    exact List.take_of_length_le (by simp [hRlen])
   have g1:k≤s.l.length:=by omega
   have g1':(k:Int)≤(s.l.length:Int):=by omega
   have g0':(k:Int) < (s.l.length:Int):=by omega
   have g2:k+1≤s.l.length:=by omega
   have g2':((k+1:Nat):Int)≤(s.l.length:Int):=by omega
   obtain ⟨j,hj⟩:∃ j,j = k+1:=⟨_,rfl⟩
   have g3:((s.l.length:Int) - (j:Int)).toNat = s.l.length - j:=by omega
   have hln:=line_ev R (by omega) [] (by decide)
   obtain ⟨r,hr1,hr2⟩:=hln
   have htr:trimL [] (lnL R.l) = lnL R.l:=by unfold trimL;simp
   rw [htr] at hr2
   have hlg:=leget_ev R 0 8 ⟨by decide,by decide⟩ (by omega)
   have hP:pairP s.l = if s.l[k] = 61 then some (⟨s.l.take k,lnL R.l⟩,lnR R.l) else match leGet R.l 0 8 with
     | none=>none
     | some n=>if 256 < n∨R.l.length < 9+n then none else some (⟨s.l.take k,(R.l.drop 8).take n⟩,R.l.drop (9+n)):=by
    unfold pairP
    have hkn':((k:Int)).toNat = k:=by omega
    rw [h1,if_neg hkn,hkn',hgd,← hRl]
   rw [hP]
   have hc10:s.l[k]≠61→s.l[k] = 10:=fun h=>h3'.resolve_left h
   rw [hRn] at hr2 hlg
   rw [← hRlen] at t2
   generalize s.l[k] = c at *
   have hsl:s.l.length - (k+1) = R.l.length:=hRlen.symm
   rw [← hj] at hw1 t2 g2 g2' hsl
   by_cases hc:c = 61
   ·rw [if_pos hc]
    subst hc
    refine ⟨r,fun p b h=>(by injection h with h;injection h with _ h;rw [← h];exact hr1),?_⟩
    clear hlg hP hc10 h3'
    refine call_run Tryz.func172 rfl ⟨rfl,rfl⟩ ?_
    simp [Tryz.f172,ha,hkn,hnn,hat,hw1,t1,t1l,t1b,t2,g0',g1',g2',hsl,hr2]
   ·rw [if_neg hc]
    have hc2:=hc10 hc
    subst hc2
    clear hr1 hr2 htr hP hc10 h3' hc
    cases hg:leGet R.l 0 8 with
    | none =>
     rw [hg] at hlg
     simp only [optN,Option.getD_none,Option.isSome_none] at hlg
     refine ⟨R,fun p b h=>(by cases h),?_⟩
     rw [hRn]
     refine call_run Tryz.func172 rfl ⟨rfl,rfl⟩ ?_
     simp [Tryz.f172,ha,hkn,hnn,hat,hw1,t1,t1l,t1b,t2,g0',g1',g2',hsl,hlg]
    | some n =>
     obtain ⟨hn64,hR8⟩:=leGet_lt _ _ hg
     rw [hg] at hlg
     simp only [optN,Option.getD_some,Option.isSome_some] at hlg
     by_cases hbig:256 < n
     ·have hbig':(256:Int) < (n:Int):=by omega
      refine ⟨R,fun p b h=>(by simp only [hbig,true_or,if_true] at h;cases h),?_⟩
      rw [hRn]
      simp only [hbig,true_or,if_true]
      refine call_run Tryz.func172 rfl ⟨rfl,rfl⟩ ?_
      simp [Tryz.f172,ha,hkn,hnn,hat,hw1,t1,t1l,t1b,t2,g0',g1',g2',hsl,hlg,hbig']
     ·have hbig':¬ (256:Int) < (n:Int):=by omega
      have hwn:IntKind.i64.wrap (n:Int) = (n:Int):=by rw [wrap_i64] <;> omega
      have hwn9:IntKind.i64.wrap (9+(n:Int)) = 9+(n:Int):=by rw [wrap_i64] <;> omega
      by_cases hsh:R.l.length < 9+n
      ·have hsh':(R.l.length:Int) < 9+(n:Int):=by omega
       refine ⟨R,fun p b h=>(by simp only [hsh,or_true,if_true] at h;cases h),?_⟩
       rw [hRn]
       simp only [hsh,or_true,if_true]
       refine call_run Tryz.func172 rfl ⟨rfl,rfl⟩ ?_
       simp [Tryz.f172,ha,hkn,hnn,hat,hw1,t1,t1l,t1b,t2,g0',g1',g2',hsl,hlg,hbig',hwn,hwn9,hsh']
      ·have hsh':¬ (R.l.length:Int) < 9+(n:Int):=by omega
       have hno:¬ (256 < n∨R.l.length < 9+n):=by omega
       simp only [hno,if_false]
       obtain ⟨V,hV⟩:∃ V,V = (R.l.drop 8).take n:=⟨_,rfl⟩
       have hVl:V.length = n:=by rw [hV];simp;omega
       obtain ⟨q,hq⟩:∃ q,q = 9+n:=⟨_,rfl⟩
       obtain ⟨q8,hq8⟩:∃ q,q = 8+n:=⟨_,rfl⟩
       have w8:IntKind.u64.wrap (8+(n:Int)) = (q8:Int):=by rw [wrap_u64] <;> omega
       have w9:IntKind.u64.wrap (q:Int) = (q:Int):=by rw [wrap_u64] <;> omega
       have hq9:9+(n:Int) = (q:Int):=by omega
       have e8:((q8:Int) - 8).toNat = n:=by omega
       have eq9:((R.l.length:Int) - (q:Int)).toNat = R.l.length - q:=by omega
       have b1:(q8:Int)≤(R.l.length:Int):=by omega
       have b2:(8:Int)≤(q8:Int):=by omega
       have b3:(q:Int)≤(R.l.length:Int):=by omega
       have b4:q8≤R.l.length:=by omega
       have b5:8≤q8:=by omega
       have b6:q≤R.l.length:=by omega
       have b7:q8 - 8 = n:=by omega
       have tv:List.take n (List.drop 8 (ofBytes R.l)) = ofBytes V:=by rw [ofBytes_drop,ofBytes_take,← hV]
       have tvb:bytesD (ofBytes V) = some V:=bytesD_of _
       have tvt:List.take n (ofBytes V) = ofBytes V:=List.take_of_length_le (by simp;omega)
       obtain ⟨Q,hQ⟩:∃ Q:Sl UInt8,Q = ⟨false,R.l.drop q,fun e=>by cases e⟩:=⟨_,rfl⟩
       have hQl:Q.l = R.l.drop q:=by rw [hQ]
       have hQn:Q.nil = false:=by rw [hQ]
       have hQlen:R.l.length - q = Q.l.length:=by rw [hQl];simp
       have tq:List.take (R.l.length - q) (List.drop q (ofBytes R.l)) = ofBytes Q.l:=by
        rw [ofBytes_drop,← hQl]
        exact List.take_of_length_le (by simp [hQlen])
       rw [hQlen] at tq
       refine ⟨Q,fun p b h=>(by injection h with h;injection h with _ h;rw [← h,hQl,hq]),?_⟩
       rw [hQn]
       rw [hq9] at hsh' hwn9
       rw [← hV]
       clear hg hV hQl hQ hR hRl hsh
       refine call_run Tryz.func172 rfl ⟨rfl,rfl⟩ ?_
       simp [Tryz.f172,ha,hkn,hnn,hat,hw1,t1,t1l,t1b,t2,g0',g1',g2',hsl,hlg,hbig',hwn,hq9,hwn9,hsh',w8,w9,b1,b2,b3,b7,tv,tvb,tq,hVl,hQlen]
 ·have hP:pairP s.l = none:=by unfold pairP;rw [h1,if_pos (by decide)]
  rw [hP]
  refine ⟨s,fun p b h=>(by cases h),?_⟩
  rw [h1] at ha
  refine call_run Tryz.func172 rfl ⟨rfl,rfl⟩ ?_
  simp [Tryz.f172,ha]
end Go.Ev.S
namespace Go.Ev.S
open Go Go.Proofs Go.Ev
def Rec.zero:Rec:=⟨0,0,0,ID.zero,.none⟩
def gapP (b:List UInt8):It:=⟨idI kId (lnR b),true,((pu 10 (cutL [45] (trimL kGap (lnL b))).1).getD 0:Nat),((pu 10 (cutL [45] (trimL kGap (lnL b))).2.1).getD 0:Nat),Rec.zero⟩
theorem pu_ev10 [MaxL] (s:List UInt8) (hs:s.length≤1000000) :
  (∃ v:Nat,(pu 10 s).getD 0 = v∧call cx 128 [.str s,.int .i64 10,.int .i64 64] [] = some (.tup [.int .u64 v,.nili],[])) ∨
  ((pu 10 s).getD 0 = 0∧∃ (x:Nat) (d:List D),call cx 128 [.str s,.int .i64 10,.int .i64 64] [] = some (.tup [.int .u64 x,.iface 232 (.vptr d)],[])):=by
 rcases pu_ev 10 (.inl rfl) s (by omega) with ⟨v,e1,e2⟩ | ⟨e1,x,d,e2⟩
 ·exact .inl ⟨v,by rw [e1];rfl,e2⟩
 ·exact .inr ⟨by rw [e1];rfl,x,d,e2⟩
set_option maxHeartbeats 4000000 in
set_option maxRecDepth 8000 in
theorem gap_ev [MaxL] (s:Sl UInt8) (hs:s.l.length < 1000000):∃ r:Sl UInt8,call cx 146 [.optr 0 1 0] [some [(.vsl s.nil (ofBytes s.l) s.l.length)]] = some (.agg (Enc.cells (gapP s.l)),[some [(.vsl r.nil (ofBytes r.l) r.l.length)]]):=by
 obtain ⟨r1,hr1,hl1⟩:=line_ev s hs kGap (by decide)
 have hln:=lnL_len s.l
 have hlr:=lnR_len s.l
 have htl:=trim_len kGap (lnL s.l)
 obtain ⟨r2,hr2,hl2⟩:=idline_ev r1 (by rw [hr1];omega) kId (by decide)
 have hcl:=cut_len [45] (trimL kGap (lnL s.l))
 have hct:=cut_ev (trimL kGap (lnL s.l)) [45] (by omega) (by decide)
 have p1:=pu_ev10 (cutL [45] (trimL kGap (lnL s.l))).1 (by omega)
 have p2:=pu_ev10 (cutL [45] (trimL kGap (lnL s.l))).2.1 (by omega)
 refine ⟨r2,?_⟩
 rw [It.cells]
 unfold gapP
 simp only
 rw [← hr1]
 generalize idI kId r1.l = q at *
 generalize (cutL [45] (trimL kGap (lnL s.l))).2.2 = f at *
 generalize (cutL [45] (trimL kGap (lnL s.l))).2.1 = y at *
 generalize (cutL [45] (trimL kGap (lnL s.l))).1 = x at *
 generalize trimL kGap (lnL s.l) = t at *
 have hq:=q.h
 have hq16:List.take 16 (ofBytes q.l) = ofBytes q.l:=List.take_of_length_le (by simp)
 have hq39:List.take 39 (ofBytes q.l) = ofBytes q.l:=List.take_of_length_le (by simp)
 have z16:ofBytes ID.zero.l = [.int .u8 0,.int .u8 0,.int .u8 0,.int .u8 0,.int .u8 0,.int .u8 0,.int .u8 0,.int .u8 0,.int .u8 0,.int .u8 0,.int .u8 0,.int .u8 0,.int .u8 0,.int .u8 0,.int .u8 0,.int .u8 0]:=rfl
 clear hlr htl hln hcl
 simp only [kGap,kId] at hl1 hl2
 refine call_run Tryz.func146 rfl ⟨rfl,rfl⟩ ?_
 rcases p1 with ⟨v1,e1,c1⟩ | ⟨e1,x1,d1,c1⟩ <;> rcases p2 with ⟨v2,e2,c2⟩ | ⟨e2,x2,d2,c2⟩ <;> rw [e1,e2] <;> clear e1 e2
 all_goals
  simp [Tryz.f146,hl1,hct]
  refine run_unroll ?_
  simp [c1]
  refine run_unroll ?_
  simp [c2]
  refine run_unroll ?_
  simp [hl2,hq39,hq,z16,Rec.zero,List.take_append]
end Go.Ev.S
namespace Go.Ev.S
open Go Go.Proofs Go.Ev
def fldP:Nat→List UInt8→List Pr
 | 0,_=>[]
 | n+1,b=>match pairP b with
  | none=>[]
  | some (p,r)=>p :: fldP n r
def slP (l:List Pr):Sl Pr:=⟨l.isEmpty,l,fun h=>by simpa using h⟩
def entP (b:List UInt8):It:=⟨idI kId (lnR (lnR (lnR (lnR b)))),false,0,0,⟨(nmI kSeq (lnR (lnR (lnR b))):Nat),(nmI kReal (lnR b):Nat),(nmI kMono (lnR (lnR b)):Nat),idI kBoot (lnR (lnR (lnR (lnR (lnR b))))),slP (fldP 17 (lnR (lnR (lnR (lnR (lnR (lnR b)))))))⟩⟩
theorem pairP_len {b:List UInt8} {p:Pr} {r:List UInt8} (h:pairP b = some (p,r)):r.length≤b.length:=by
 unfold pairP at h
 split at h
 ·cases h
 ·split at h
  ·injection h with h
   injection h with _ h
   rw [← h]
   exact Nat.le_trans (lnR_len _) (by simp)
  ·split at h
   ·cases h
   ·split at h
    ·cases h
    ·injection h with h
     injection h with _ h
     rw [← h]
     simp
def entX (q:ID) (sq rl mn:Nat) (bt:ID):List D:=ofBytes q.l ++ ([.bool false,.int .u64 0,.int .u64 0,.int .u64 sq,.int .u64 rl,.int .u64 mn] ++ ofBytes bt.l)
theorem entX_len (q:ID) (sq rl mn:Nat) (bt:ID):(entX q sq rl mn bt).length = 38:=by
 simp [entX,q.h,bt.h]
theorem entX_free (q:ID) (sq rl mn:Nat) (bt:ID):idFree.idFreeL (entX q sq rl mn bt) = true:=by
 simp [entX,idFree]
def EntH (X:List D) (Z:Option (List D)) (fs:List Pr) (r:Sl UInt8) (H:Heap):Prop :=
 (fs = []∧H = [some [(.vsl r.nil (ofBytes r.l) r.l.length)],Z,some (X ++ [.vsl true [] 0])]) ∨
 (fs≠[]∧∃ (n k:Nat) (t u:Pr),n = fs.length * 2∧k = fs.length∧(H = [some [(.vsl r.nil (ofBytes r.l) r.l.length)],Z,some (X ++ [.osl 5 n 0 k 2]),some [.str t.name,.str t.value],some [.str u.name,.str u.value],some (encs fs)] ∨
  ∃ v w:Pr,H = [some [(.vsl r.nil (ofBytes r.l) r.l.length)],Z,some (X ++ [.osl 5 n 0 k 2]),some [.str t.name,.str t.value],some [.str u.name,.str u.value],some (encs fs),some [.str v.name,.str v.value],some [.str w.name,.str w.value]]))
theorem stay_ent {X:List D} (hX:idFree.idFreeL X = true) {fs:List Pr} {i n k:Nat} (hn:fs.length * 2 = n) (hk:fs.length = k) {H:Heap} (hg:(H[i]?).getD none = some (encs fs)):stay H 9 (.agg (X ++ [.osl i n 0 k 2])) = some (.agg (X ++ [.vsl false (encs fs) k]),[i]):=by
 have h8:stay H 8 (.osl i n 0 k 2) = some (.vsl false (encs fs) k,[i]):=by
  rw [stay,if_neg (by simp [idFree])]
  have hl:(encs fs).length = n:=by simp [hn]
  have h0:0+k * 2≤n:=by omega
  simp only [hget,hg]
  rw [if_pos ⟨hl,h0⟩,if_pos (by simp),List.drop_zero,List.take_of_length_le (by simp;omega)]
 rw [stay,if_neg (by simp [idFree])]
 simp only [stayL_append,stayL_free8 hX,stayL,h8]
 rfl
set_option maxHeartbeats 4000000 in
set_option maxRecDepth 8000 in
theorem entry_ev [MaxL] (s:Sl UInt8) (hs:s.l.length < 1000000):∃ q,call cx 147 [.optr 0 1 0] [some [(.vsl s.nil (ofBytes s.l) s.l.length)]] = some q∧∃ r:Sl UInt8,q = (.agg (Enc.cells (entP s.l)),[some [(.vsl r.nil (ofBytes r.l) r.l.length)]]):=by
 obtain ⟨r1,hr1,hl1⟩:=line_ev s hs kPlace (by decide)
 have n0:=lnR_len s.l
 obtain ⟨r2,hr2,hl2⟩:=nline_ev r1 (by rw [hr1];omega) kReal (by decide)
 have n1:=lnR_len r1.l
 rw [← hr1] at n0
 obtain ⟨r3,hr3,hl3⟩:=nline_ev r2 (by rw [hr2];omega) kMono (by decide)
 have n2:=lnR_len r2.l
 rw [← hr2] at n1
 obtain ⟨r4,hr4,hl4⟩:=nline_ev r3 (by rw [hr3];omega) kSeq (by decide)
 have n3:=lnR_len r3.l
 rw [← hr3] at n2
 obtain ⟨r5,hr5,hl5⟩:=idline_ev r4 (by rw [hr4];omega) kId (by decide)
 have n4:=lnR_len r4.l
 rw [← hr4] at n3
 obtain ⟨r6,hr6,hl6⟩:=idline_ev r5 (by rw [hr5];omega) kBoot (by decide)
 have n5:=lnR_len r5.l
 rw [← hr5] at n4
 rw [← hr6] at n5
 have hE:Enc.cells (entP s.l) = entX (idI kId r4.l) (nmI kSeq r3.l) (nmI kReal r1.l) (nmI kMono r2.l) (idI kBoot r5.l) ++ [(.vsl (slP (fldP 17 r6.l)).nil (encs (slP (fldP 17 r6.l)).l) (slP (fldP 17 r6.l)).l.length)]:=by
  rw [It.cells]
  unfold entP entX
  simp only
  rw [← hr1,← hr2,← hr3,← hr4,← hr5,← hr6]
  simp
 rw [hE]
 have hr6':r6.l.length < 1000000:=by omega
 clear hE n0 n1 n2 n3 n4 n5 hr1 hr2 hr3 hr4 hr5 hr6
 have hXl:=entX_len (idI kId r4.l) (nmI kSeq r3.l) (nmI kReal r1.l) (nmI kMono r2.l) (idI kBoot r5.l)
 have hXf:=entX_free (idI kId r4.l) (nmI kSeq r3.l) (nmI kReal r1.l) (nmI kMono r2.l) (idI kBoot r5.l)
 obtain ⟨X,hX⟩:∃ X,X = entX (idI kId r4.l) (nmI kSeq r3.l) (nmI kReal r1.l) (nmI kMono r2.l) (idI kBoot r5.l):=⟨_,rfl⟩
 rw [← hX] at hXl hXf ⊢
 unfold entX at hX
 obtain ⟨F,hF⟩:∃ F,F = fldP 17 r6.l:=⟨_,rfl⟩
 rw [← hF]
 have hq:=(idI kId r4.l).h
 have hb:=(idI kBoot r5.l).h
 generalize idI kId r4.l = q at *
 generalize idI kBoot r5.l = bt at *
 generalize nmI kSeq r3.l = sq at *
 generalize nmI kReal r1.l = rl at *
 generalize nmI kMono r2.l = mn at *
 have hq16:List.take 16 (ofBytes q.l) = ofBytes q.l:=List.take_of_length_le (by simp)
 have hb16:List.take 16 (ofBytes bt.l) = ofBytes bt.l:=List.take_of_length_le (by simp)
 simp only [kPlace,kReal,kMono,kSeq,kId,kBoot] at hl1 hl2 hl3 hl4 hl5 hl6
 have hXd:List.drop 38 X = []:=List.drop_eq_nil_of_le (by omega)
 have hXd9:List.drop 39 X = []:=List.drop_eq_nil_of_le (by omega)
 have hXt:List.take 38 X = X:=List.take_of_length_le (by omega)
 have hXt9:List.take 39 X = X:=List.take_of_length_le (by omega)
 have hXc:∀ n,(∀ x,x∈X→closed n x = true) = True:=fun n=>eq_true (by
  have:=closedL_free n X hXf
  rw [closedL_all] at this
  exact List.all_eq_true.1 this)
 refine call_runE (X:=cx) (f:=147) (args:=[.optr 0 1 0]) (H:=[some [(.vsl s.nil (ofBytes s.l) s.l.length)]]) (fun q=>∃ r:Sl UInt8,q = (.agg (X ++ [(.vsl (slP F).nil (encs (slP F).l) (slP F).l.length)]),[some [(.vsl r.nil (ofBytes r.l) r.l.length)]])) Tryz.func147 rfl ⟨rfl,rfl⟩ ?_
 simp [Tryz.f147,hl1,hl2,hl3,hl4,hl5,hl6,hq,hb,List.take_append,List.drop_append,drop_bytes]
 have hZf:idFree.idFreeL [D.int .u8 0,D.int .u8 0,D.int .u8 0,D.int .u8 0,D.int .u8 0,D.int .u8 0,D.int .u8 0,D.int .u8 0,D.int .u8 0,D.int .u8 0,D.int .u8 0,D.int .u8 0,D.int .u8 0,D.int .u8 0,D.int .u8 0,D.int .u8 0,D.bool false,D.int .u64 0,D.int .u64 0,D.int .u64 0,D.int .u64 0,D.int .u64 0,D.int .u8 0,D.int .u8 0,D.int .u8 0,D.int .u8 0,D.int .u8 0,D.int .u8 0,D.int .u8 0,D.int .u8 0,D.int .u8 0,D.int .u8 0,D.int .u8 0,D.int .u8 0,D.int .u8 0,D.int .u8 0,D.int .u8 0,D.int .u8 0,D.vsl true [] 0] = true:=rfl
 have hZl:[D.int .u8 0,D.int .u8 0,D.int .u8 0,D.int .u8 0,D.int .u8 0,D.int .u8 0,D.int .u8 0,D.int .u8 0,D.int .u8 0,D.int .u8 0,D.int .u8 0,D.int .u8 0,D.int .u8 0,D.int .u8 0,D.int .u8 0,D.int .u8 0,D.bool false,D.int .u64 0,D.int .u64 0,D.int .u64 0,D.int .u64 0,D.int .u64 0,D.int .u8 0,D.int .u8 0,D.int .u8 0,D.int .u8 0,D.int .u8 0,D.int .u8 0,D.int .u8 0,D.int .u8 0,D.int .u8 0,D.int .u8 0,D.int .u8 0,D.int .u8 0,D.int .u8 0,D.int .u8 0,D.int .u8 0,D.int .u8 0,D.vsl true [] 0].length = 39:=rfl
 generalize [D.int .u8 0,D.int .u8 0,D.int .u8 0,D.int .u8 0,D.int .u8 0,D.int .u8 0,D.int .u8 0,D.int .u8 0,D.int .u8 0,D.int .u8 0,D.int .u8 0,D.int .u8 0,D.int .u8 0,D.int .u8 0,D.int .u8 0,D.int .u8 0,D.bool false,D.int .u64 0,D.int .u64 0,D.int .u64 0,D.int .u64 0,D.int .u64 0,D.int .u8 0,D.int .u8 0,D.int .u8 0,D.int .u8 0,D.int .u8 0,D.int .u8 0,D.int .u8 0,D.int .u8 0,D.int .u8 0,D.int .u8 0,D.int .u8 0,D.int .u8 0,D.int .u8 0,D.int .u8 0,D.int .u8 0,D.int .u8 0,D.vsl true [] 0] = Z at *
 have hZc:∀ n,(∀ x,x∈Z→closed n x = true) = True:=fun n=>eq_true (by
  have:=closedL_free n Z hZf
  rw [closedL_all] at this
  exact List.all_eq_true.1 this)
 have hZd:List.drop 39 Z = []:=List.drop_eq_nil_of_le (by omega)
 refine Run.loopThen (fun (q:List Pr × Sl UInt8) e H'=>q.1.length≤17∧q.2.l.length < 1000000∧q.1 ++ fldP (17 - q.1.length) q.2.l = F∧EntH X (some Z) q.1 q.2 H'∧look e 0 = some (.optr 0 1 0)∧look e 2 = some (.optr 1 39 0)∧look e 3 = some (.optr 2 39 0)∧look e 4 = some (.optr 2 39 19)) (fun q=>17 - q.1.length) ([],r6) ?_ ?_
 ·refine ⟨by simp,hr6',by rw [hF];rfl,.inl ⟨rfl,?_⟩,by simp,by simp,by simp,by simp⟩
  rw [hX]
  simp
 rintro ⟨fs,r⟩ e H' ⟨hk,hrl,hFf,hH,k0,k2,k3,k4⟩
 simp only at hk hrl hFf hH
 clear hX hF hl1 hl2 hl3 hl4 hl5 hl6 hr6'
 have hl0:=lnR_len r.l
 obtain ⟨r',hr',hp⟩:=lpair_ev r hrl
 rcases hH with ⟨rfl,rfl⟩ | ⟨hne,n,k,t,u,hn,hk2,hH⟩
 ·simp only [List.nil_append,List.length_nil,Nat.sub_zero,fldP] at hFf
  cases hpp:pairP r.l with
  | none =>
   rw [hpp] at hp hFf
   simp only [Option.isSome_none] at hp hFf
   subst hFf
   simp [k0,k2,k3,k4,hp,hXl,hXt9,hXc,hXf,hZl,hZd,List.take_append,List.drop_append,slP]
   exact ⟨r',rfl,rfl,rfl⟩
  | some pr =>
   obtain ⟨p,b⟩:=pr
   rw [hpp] at hp hFf
   simp only [Option.isSome_some] at hp hFf
   have hrb:=hr' p b hpp
   have hbl:=pairP_len hpp
   simp [k0,k2,k3,k4,hp,hXl,hXd9,List.drop_append,maxBytes]
   exact ⟨[p],by simp,by simp,r',by rw [hrb];omega,by rw [hrb];exact hFf,.inr ⟨by simp,2,1,p,p,rfl,rfl,.inl rfl⟩⟩
 ·have hk17:(k:Int)≤16↔k≤16:=by omega
  have hlk:fs.length = k:=hk2.symm
  have hkn:k * 2 = n:=by omega
  have hm1:(k+1) * 32≤140737488355328:=by omega
  have hm2:k+1≤140737488355328:=by omega
  have hie:fs.isEmpty = false:=by simpa using hne
  have htk:List.take n (encs fs) = encs fs:=List.take_of_length_le (by simp;omega)
  have hst:=fun {i:Nat} {H:Heap}=>stay_ent hXf (fs:=fs) (i:=i) (n:=n) (k:=k) hn.symm hlk (H:=H)
  by_cases hle:k≤16
  ·have hle':(k:Int)≤16:=by omega
   have hfu:17 - fs.length = (16 - fs.length)+1:=by omega
   rw [hfu,fldP] at hFf
   cases hpp:pairP r.l with
   | none =>
    rw [hpp] at hp hFf
    simp only [Option.isSome_none,List.append_nil] at hp hFf
    subst hFf
    rcases hH with rfl | ⟨v,w,rfl⟩
    ·simp [-stay,k0,k2,k3,k4,hle',hp,hst,hlk,hXl,hXt9,hXc,hXf,hZl,hZd,List.take_append,List.drop_append,slP,hie]
     exact ⟨r',rfl,rfl,rfl⟩
    ·simp [-stay,k0,k2,k3,k4,hle',hp,hst,hlk,hXl,hXt9,hXc,hXf,hZl,hZc,hZd,List.take_append,List.drop_append,slP,hie]
     exact ⟨r',rfl,rfl,rfl⟩
   | some pr =>
    obtain ⟨p,b⟩:=pr
    rw [hpp] at hp hFf
    simp only [Option.isSome_some] at hp hFf
    have hrb:=hr' p b hpp
    have hbl:=pairP_len hpp
    rcases hH with rfl | ⟨v,w,rfl⟩
    ·simp [k0,k2,k3,k4,hle',hp,hlk,hkn,hm1,hm2,hXl,hXd9,List.drop_append,maxBytes]
     refine ⟨fs ++ [p],by simp;omega,by simp [hlk];omega,r',by rw [hrb];omega,?_,.inr ⟨by simp,n+2,k+1,t,u,by simp;omega,by simp;omega,.inr ⟨p,p,by rw [encs_snoc];rfl⟩⟩⟩
     rw [← hFf,hrb,List.append_assoc]
     have e1:17 - (fs ++ [p]).length = 16 - fs.length:=by simp
     rw [e1]
     rfl
    ·simp [k0,k2,k3,k4,hle',hp,hlk,hkn,hm1,hm2,hXl,hXd9,hXc,hZc,List.drop_append,maxBytes]
     refine ⟨fs ++ [p],by simp;omega,by simp [hlk];omega,r',by rw [hrb];omega,?_,.inr ⟨by simp,n+2,k+1,t,u,by simp;omega,by simp;omega,.inr ⟨p,p,by rw [encs_snoc];rfl⟩⟩⟩
     rw [← hFf,hrb,List.append_assoc]
     have e1:17 - (fs ++ [p]).length = 16 - fs.length:=by simp
     rw [e1]
     rfl
  ·have hle':¬ (k:Int)≤16:=by omega
   have hfu:17 - fs.length = 0:=by omega
   rw [hfu,fldP,List.append_nil] at hFf
   subst hFf
   rcases hH with rfl | ⟨v,w,rfl⟩
   ·simp [-stay,k0,k2,k3,k4,hle',hst,hlk,hXl,hXt9,hXc,hXf,hZl,hZd,List.take_append,List.drop_append,slP,hie]
    exact ⟨r,rfl,rfl,rfl⟩
   ·simp [-stay,k0,k2,k3,k4,hle',hst,hlk,hXl,hXt9,hXc,hXf,hZl,hZc,hZd,List.take_append,List.drop_append,slP,hie]
    exact ⟨r,rfl,rfl,rfl⟩
end Go.Ev.S
