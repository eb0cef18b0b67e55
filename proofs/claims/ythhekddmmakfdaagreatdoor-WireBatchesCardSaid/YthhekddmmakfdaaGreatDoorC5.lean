import Derived.Test.YthhekddmmakfdaaGreatDoorC4
import Derived.Shelf.Strings.BuilderF
import Derived.Shelf.Strconv.Itoa0
import Derived.Shelf.Strconv.Itoa1
import Derived.Shelf.LaysM
import Derived.Shelf.Strconv.Clone
import Derived.Shelf.Strings.Search2
import Derived.Shelf.Bytes.SlIndexWhole
import Derived.Test.YthhekddmmakfdaaGreatDoorProg
import Derived.Shelf.Spec.DecodeRune
import Derived.Lib.ItoaMem
namespace Go.Ev.S
open Go Go.Proofs Go.Ev
def szOk (n:Int):Bool:=n == 1 || n == 2 || n == 4 || n == 8
theorem lesize_ev [MaxL] [TxtC] (n:Int):call cx 105 [.int .i64 n] [] = some (.bool (szOk n),[]):=by
 refine call_run Tryz.func105 rfl ⟨rfl,rfl⟩ ?_
 unfold szOk
 by_cases h1:n = 1
 ·subst h1;simp [Tryz.f105]
 ·by_cases h2:n = 2
  ·subst h2;simp [Tryz.f105]
  ·by_cases h3:n = 4
   ·subst h3;simp [Tryz.f105]
   ·simp [Tryz.f105,h1,h2,h3]
theorem szOk_le {n:Int} (h:szOk n = true):1≤n∧n≤8:=by
 simp [szOk] at h
 omega
def leGet (l:List UInt8) (at_ n:Int):Option Nat :=
 if szOk n = true∧0≤at_∧at_+n≤l.length then some (leN ((l.drop at_.toNat).take n.toNat)) else none
def optN (o:Option Nat):D:=.tup [.int .u64 ((o.getD 0:Nat):Int),.bool o.isSome]
theorem bits64:2 ^ IntKind.u64.bits = 18446744073709551616:=by simp only [IntKind.bits]
theorem leget_step (x y:Nat) (hy:y < 256) (hx:x * 256+y < 18446744073709551616) :
  orI .u64 (IntKind.u64.wrap ((x:Int) * 256)) (y:Int) = ((x * 256+y:Nat):Int):=by
 have e3:x * 256 < 2 ^ IntKind.u64.bits:=Nat.lt_of_lt_of_eq (Nat.lt_of_le_of_lt (Nat.le_add_right _ _) hx) bits64.symm
 have e4:y < 2 ^ IntKind.u64.bits:=Nat.lt_of_lt_of_eq (Nat.lt_of_lt_of_le hy (by decide)) bits64.symm
 have e1:IntKind.u64.wrap ((x:Int) * 256) = ((x * 256:Nat):Int):=by clear e3 e4;rw [wrap_u64] <;> omega
 rw [e1,orI_nat rfl e3 e4,or_shl x y hy]
set_option maxHeartbeats 1000000 in
theorem leget_ev [MaxL] [TxtC] (s:Sl UInt8) (at_ n:Int) (hat:-9223372036854775808≤at_∧at_ < 9223372036854775808) (hl:s.l.length < 4611686018427387904) :
  call cx 72 [(.vsl s.nil (ofBytes s.l) s.l.length),.int .i64 at_,.int .i64 n] [] = some (optN (leGet s.l at_ n),[]):=by
 have hs:=lesize_ev n
 refine call_run Tryz.func72 rfl ⟨rfl,rfl⟩ ?_
 cases hz:szOk n with
 | false =>
  rw [hz] at hs
  simp [Tryz.f72,hs,leGet,hz,optN]
 | true =>
  rw [hz] at hs
  have hb:=szOk_le hz
  by_cases h0:at_ < 0
  ·have h0':¬ 0≤at_:=by omega
   simp [Tryz.f72,hs,leGet,hz,optN,h0,h0']
  ·have h0':0≤at_:=by omega
   have hw:IntKind.i64.wrap ((s.l.length:Int) - n) = (s.l.length:Int) - n:=by rw [wrap_i64];omega
   by_cases hle:at_+n≤s.l.length
   ·have hle':¬ ((s.l.length:Int) - n < at_):=by omega
    obtain ⟨a,rfl⟩:∃ a:Nat,at_ = a:=⟨at_.toNat,by omega⟩
    obtain ⟨k,rfl⟩:∃ k:Nat,n = k:=⟨n.toNat,by omega⟩
    have hw1:IntKind.i64.wrap ((k:Int) - 1) = (k:Int) - 1:=by rw [wrap_i64];omega
    have hnn:s.nil = false:=Sl.nn (i:=a) (by omega)
    simp [Tryz.f72,hs,leGet,hz,optN,h0,h0',hw,hle,hle',hw1,hnn]
    refine Run.loopThen (fun (i:Nat) e H=>i≤k∧H = []∧look e 0 = some (.vsl s.nil (ofBytes s.l) s.l.length)∧look e 1 = some (.int .i64 a)∧look e 8 = some (.int .u64 (leN ((s.l.drop (a+i)).take (k - i)):Nat))∧look e 9 = some (.int .i64 ((i:Int) - 1))) (fun i=>i) k (by simp [leN,hnn]) ?_
    rintro i e H ⟨hi,rfl,h0,h1,h8,h9⟩
    cases i with
    | zero=>simp [h0,h1,h8,h9]
    | succ j =>
     have hj:(0:Int)≤(j:Int):=by omega
     have hwj:IntKind.i64.wrap ((a:Int)+(j:Int)) = ((a+j:Nat):Int):=by rw [wrap_i64] <;> omega
     have hwk:IntKind.i64.wrap ((j:Int) - 1) = (j:Int) - 1:=by rw [wrap_i64];omega
     have hlt:a+j < s.l.length:=by omega
     have hlt':((a+j:Nat):Int) < (s.l.length:Int):=by omega
     have e1:((j+1:Nat):Int) - 1 = (j:Int):=by omega
     rw [e1] at h9
     have hd:(s.l.drop (a+j)).take (k - j) = s.l[a+j] :: (s.l.drop (a+(j+1))).take (k - (j+1)):=by
      rw [List.drop_eq_getElem_cons hlt,show k - j = (k - (j+1))+1 by omega,List.take_succ_cons,Nat.add_assoc]
     have hn8:leN ((s.l.drop (a+(j+1))).take (k - (j+1))) < 256 ^ 7:=by
      refine Nat.lt_of_lt_of_le (leN_lt _) (Nat.pow_le_pow_right (by decide) ?_)
      rw [List.length_take]
      omega
     have hst:=leget_step (leN ((s.l.drop (a+(j+1))).take (k - (j+1)))) s.l[a+j].toNat s.l[a+j].toNat_lt (by have:=s.l[a+j].toNat_lt;omega)
     have hwu:IntKind.u64.wrap (s.l[a+j].toNat:Int) = (s.l[a+j].toNat:Int):=by rw [wrap_u64];have:=s.l[a+j].toNat_lt;omega
     have g1:(0:Int)≤(a:Int)+(j:Int):=by omega
     have g2:(a:Int)+(j:Int) < (s.l.length:Int):=by omega
     have g3:((a:Int)+(j:Int)).toNat = a+j:=by omega
     simp [h0,h1,h8,h9,hj,hwj,hwk,hwu,hnn,g1,g2,g3,ofBytes_at hlt,IntKind.bits]
     rw [hst]
     exact ⟨j,by omega,by omega,by rw [hd,leN,Nat.mul_comm,Nat.add_comm],rfl⟩
   ·have hle':(s.l.length:Int) - n < at_:=by omega
    simp [Tryz.f72,hs,leGet,hz,optN,h0,h0',hw,hle,hle']
end Go.Ev.S
namespace Go.Ev
open Go Go.Proofs
section
variable {P:Program} {n:Nat} {t e:TypeId} {cs:List D}
theorem has_bool (hu:P.underlying t = some .bool) (h:HasT P (n+1) t cs):∃ b,cs = [.bool b]:=by
 unfold HasT at h;rw [hu] at h;exact h
theorem has_int {k:IntKind} (hu:P.underlying t = some (.int k)) (h:HasT P (n+1) t cs):∃ x,cs = [.int k x]∧(Lit.int k x).wf = true:=by
 unfold HasT at h;rw [hu] at h;exact h
theorem has_u64 (hu:P.underlying t = some (.int .u64)) (h:HasT P (n+1) t cs):∃ x,cs = [.int .u64 x]∧isU64 x:=by
 obtain ⟨x,h1,h2⟩:=has_int hu h
 refine ⟨x,h1,?_⟩
 simp [Lit.wf,IntKind.min,IntKind.max,IntKind.signed,IntKind.bits] at h2
 unfold isU64
 omega
theorem has_u8 (hu:P.underlying t = some (.int .u8)) (h:HasT P (n+1) t cs):∃ x:UInt8,cs = [.int .u8 x.toNat]:=by
 obtain ⟨x,h1,h2⟩:=has_int hu h
 simp [Lit.wf,IntKind.min,IntKind.max,IntKind.signed,IntKind.bits] at h2
 refine ⟨UInt8.ofNat x.toNat,?_⟩
 rw [h1,UInt8.toNat_ofNat_of_lt' (by simp;omega)]
 congr 2
 omega
theorem has_str (hu:P.underlying t = some .string) (h:HasT P (n+1) t cs):∃ s,cs = [.str s]∧s.length≤maxLen:=by
 unfold HasT at h;rw [hu] at h;exact h
theorem rows_bytes {e:TypeId} (hu:P.underlying e = some (.int .u8)):∀ (ls:List (List D)),(∀ l,l∈ls→l.length = P.cellsOf e∧HasT P (n+1) e l)→∃ s:List UInt8,ls.flatten = ofBytes s∧s.length = ls.length
 | [],_=>⟨[],rfl,rfl⟩
 | l :: ls,h=>by
  obtain ⟨x,hx⟩:=has_u8 hu (h l (List.mem_cons_self ..)).2
  obtain ⟨s,h1,h2⟩:=rows_bytes hu ls fun l' hl=>h l' (List.mem_cons_of_mem _ hl)
  exact ⟨x :: s,by rw [List.flatten_cons,hx,h1];rfl,by simp [h2]⟩
theorem has_id (hu:P.underlying t = some (.array 16 e)) (he:P.underlying e = some (.int .u8)) (h:HasT P (n+2) t cs):∃ i:ID,cs = ofBytes i.l:=by
 unfold HasT at h
 rw [hu] at h
 obtain ⟨ls,h1,h2,h3⟩:=h
 obtain ⟨s,s1,s2⟩:=rows_bytes he ls h3
 exact ⟨⟨s,by omega⟩,by rw [h1,s1]⟩
theorem has_bytes (hu:P.underlying t = some (.slice e)) (he:P.underlying e = some (.int .u8)) (h:HasT P (n+2) t cs):∃ s:Sl UInt8,cs = [(.vsl s.nil (ofBytes s.l) s.l.length)]∧s.l.length≤maxLen:=by
 unfold HasT at h
 rw [hu] at h
 rcases h with rfl | ⟨ls,h1,h2,h3⟩
 ·exact ⟨.none,rfl,by simp⟩
 ·obtain ⟨s,s1,s2⟩:=rows_bytes he ls h3
  exact ⟨.of s,by rw [h1,s1,← s2];rfl,by simp only [Sl.of_l];omega⟩
theorem rows_enc {α:Type} [Enc α] {R:α→Prop} {Q:List D→Prop} (hel:∀ l,Q l→∃ a:α,l = Enc.cells a∧R a):∀ (ls:List (List D)),(∀ l,l∈ls→Q l)→∃ s:List α,ls.flatten = encs s∧s.length = ls.length∧∀ a,a∈s→R a
 | [],_=>⟨[],rfl,rfl,by simp⟩
 | l :: ls,h=>by
  obtain ⟨x,hx,hr⟩:=hel l (h l (List.mem_cons_self ..))
  obtain ⟨s,h1,h2,h3⟩:=rows_enc hel ls fun l' hl=>h l' (List.mem_cons_of_mem _ hl)
  refine ⟨x :: s,by rw [List.flatten_cons,hx,h1,encs_cons],by simp [h2],fun a ha=>?_⟩
  rcases List.mem_cons.1 ha with rfl | ha
  ·exact hr
  ·exact h3 a ha
theorem has_slice {α:Type} [Enc α] {R:α→Prop} (hu:P.underlying t = some (.slice e)) (hel:∀ l,HasT P n e l→∃ a:α,l = Enc.cells a∧R a) (h:HasT P (n+1) t cs):∃ s:Sl α,cs = [(.vsl s.nil (encs s.l) s.l.length)]∧s.l.length≤maxLen∧∀ a,a∈s.l→R a:=by
 unfold HasT at h
 rw [hu] at h
 rcases h with rfl | ⟨ls,h1,h2,h3⟩
 ·exact ⟨.none,rfl,by simp,by simp⟩
 ·obtain ⟨s,s1,s2,s3⟩:=rows_enc hel ls fun l hl=>(h3 l hl).2
  exact ⟨.of s,by rw [h1,s1,← s2];rfl,by simp only [Sl.of_l];omega,s3⟩
theorem has_struct {fs:Array Field} (hu:P.underlying t = some (.struct fs)) (h:HasT P (n+1) t cs):HasFs P (HasT P n) fs.toList cs:=by
 unfold HasT at h;rw [hu] at h;exact h
end
theorem cor_val {W:World} {d:D} {v:Value} (h:Cor W [d] v.cells.toList) (ho:v.oneCell' = true):Rep (· < W.heap.size) W iota0 [] d v:=by
 have hv:v.cells.toList = [v]:=by
  cases v <;> first | rfl | simp [Value.oneCell'] at ho
 rw [hv] at h
 exact h.2.2 0 d rfl
end Go.Ev
namespace Go.Ev
open Go Go.Proofs
theorem one_slice {P:Program} {W:World} {base:Nat} {t e:TypeId} {v:Value} (hu:P.underlying t = some (.slice e)) (h:Value.okWide P W .any base t v):v.oneCell' = true:=by
 simp only [Value.okWide,hu,Cell.okWide] at h
 cases v <;> first | rfl | simp [Cell.ok,hu] at h
theorem one_int {P:Program} {W:World} {base:Nat} {t:TypeId} {k:IntKind} {v:Value} (hu:P.underlying t = some (.int k)) (h:Value.okWide P W .any base t v):v.oneCell' = true:=by
 simp only [Value.okWide,hu,Cell.okWide] at h
 cases v <;> first | rfl | simp [Cell.ok,hu] at h
section
variable {H:Type} {enc:TypeId × Value→H} {P:Program} {W:World} {base n:Nat} {t e:TypeId} {v:Value} {d:DataW H} {ps:List MemPlace}
theorem arg_bytes (hu:P.underlying t = some (.slice e)) (he:P.underlying e = some (.int .u8)) (hp:PlainT P (n+2) t = true) (hv:Value.okWide P W .any base t v) (h:DataW.Trod enc P W 0 (fun _=>true) true t v d ps) :
  ∃ s:Sl UInt8,Rep (· < W.heap.size) W iota0 [] (.vsl s.nil (ofBytes s.l) s.l.length) v∧s.l.length≤maxLen:=by
 obtain ⟨ds,h1,h2⟩:=read_plain hp h
 obtain ⟨s,rfl,hl⟩:=has_bytes hu he h1
 exact ⟨s,cor_val h2 (one_slice hu hv),hl⟩
theorem arg_slice {α:Type} [Enc α] {R:α→Prop} (hu:P.underlying t = some (.slice e)) (hel:∀ l,HasT P n e l→∃ a:α,l = Enc.cells a∧R a) (hp:PlainT P (n+1) t = true) (hv:Value.okWide P W .any base t v) (h:DataW.Trod enc P W 0 (fun _=>true) true t v d ps) :
  ∃ s:Sl α,Rep (· < W.heap.size) W iota0 [] (.vsl s.nil (encs s.l) s.l.length) v∧s.l.length≤maxLen∧∀ a,a∈s.l→R a:=by
 obtain ⟨ds,h1,h2⟩:=read_plain hp h
 obtain ⟨s,rfl,hl,hr⟩:=has_slice hu hel h1
 exact ⟨s,cor_val h2 (one_slice hu hv),hl,hr⟩
end
theorem repL_nil' {ok:Nat→Prop} {w:World} {ι:Iota} {H:Heap}:RepL ok w ι H [] []:=⟨rfl,by simp⟩
theorem repL_cons' {ok:Nat→Prop} {w:World} {ι:Iota} {H:Heap} {d:D} {v:Value} {ds:List D} {vs:List Value} (h:Rep ok w ι H d v) (hs:RepL ok w ι H ds vs):RepL ok w ι H (d :: ds) (v :: vs):=by
 refine ⟨by simp [hs.1],fun j x hj=>?_⟩
 cases j with
 | zero=>simp at hj;subst hj;exact h
 | succ j=>exact hs.2 j x (by simpa using hj)
def Rec.Fit (r:Rec):Prop:=r.fields.l.length≤maxLen∧∀ p,p∈r.fields.l→p.name.length≤maxLen∧p.value.length≤maxLen
end Go.Ev
namespace Go.Ev
open Go Go.Proofs
@[simp] theorem ID.ta (i:ID) (r:List D):(ofBytes i.l ++ r).take 16 = ofBytes i.l:=by simp
@[simp] theorem ID.da (i:ID) (r:List D):(ofBytes i.l ++ r).drop 16 = r:=by simp
structure Cur where
 seq:ID
 n:Int
 boot:ID
 mono:Int
 real:Int
 xor:Int
 deriving DecidableEq
instance:Enc Cur:=⟨36,fun m=>(ofBytes m.seq.l ++ (.int .u64 m.n :: (ofBytes m.boot.l ++ (.int .u64 m.mono :: (.int .u64 m.real :: (.int .u64 m.xor :: ([]:List D))))))),fun m=>by simp,fun m=>by simp [idFree]⟩
theorem Cur.cells (m:Cur):Enc.cells m = (ofBytes m.seq.l ++ (.int .u64 m.n :: (ofBytes m.boot.l ++ (.int .u64 m.mono :: (.int .u64 m.real :: (.int .u64 m.xor :: ([]:List D))))))):=rfl
@[simp] theorem Cur.size:Enc.size Cur = 36:=rfl
@[simp] theorem Cur.cl (a:Cur):(Enc.cells a).length = 36:=Enc.len a
@[simp] theorem Cur.ct (a:Cur) (r:List D):(Enc.cells a ++ r).take 36 = Enc.cells a:=cells_take rfl a r
@[simp] theorem Cur.ct' (a:Cur):(Enc.cells a).take 36 = Enc.cells a:=cells_take' rfl a
@[simp] theorem Cur.cd (a:Cur) (r:List D):(Enc.cells a ++ r).drop 36 = r:=cells_drop rfl a r
@[simp] theorem Cur.el (l:List Cur):(encs l).length = l.length * 36:=encs_len' rfl l
@[simp] theorem Cur.ed (l:List Cur) (i:Nat):(encs l).drop (i * 36) = encs (l.drop i):=encs_drop rfl l i
@[simp] theorem Cur.et (l:List Cur) (i:Nat):(encs l).take (i * 36) = encs (l.take i):=encs_take rfl l i
@[simp high] theorem Cur.ea {l:List Cur} {i:Nat} (h:i < l.length):(encs l).drop (i * 36) = Enc.cells l[i] ++ encs (l.drop (i+1)):=encs_at rfl h
@[simp high] theorem Cur.es (m:Cur) {l:List Cur} {j:Nat} (h:j < l.length):setRange (encs l) (j * 36) (Enc.cells m) = encs (l.set j m):=encs_set rfl m l h
@[simp] theorem Cur.t0 (m:Cur):(Enc.cells m).take 16 = ofBytes m.seq.l:=by simp [Cur.cells]
@[simp] theorem Cur.t0' (m:Cur) (r:List D):(Enc.cells m ++ r).take 16 = ofBytes m.seq.l:=by simp [Cur.cells]
@[simp] theorem Cur.s0 (m:Cur) (x:ID):setRange (Enc.cells m) 0 (ofBytes x.l) = Enc.cells { m with seq:=x }:=by simp [List.take_append,Cur.cells]
@[simp] theorem Cur.d16 (m:Cur):(Enc.cells m).drop 16 = (.int .u64 m.n :: (ofBytes m.boot.l ++ (.int .u64 m.mono :: (.int .u64 m.real :: (.int .u64 m.xor :: ([]:List D)))))):=by simp [Cur.cells]
@[simp] theorem Cur.d16' (m:Cur) (r:List D):(Enc.cells m ++ r).drop 16 = (.int .u64 m.n :: (ofBytes m.boot.l ++ (.int .u64 m.mono :: (.int .u64 m.real :: (.int .u64 m.xor :: ([]:List D)))))) ++ r:=by simp [Cur.cells]
@[simp] theorem Cur.g16 (m:Cur) (h):(Enc.cells m)[16]'h = .int .u64 m.n:=by simp [Cur.cells]
@[simp] theorem Cur.q16 (m:Cur):(Enc.cells m)[16]? = some (.int .u64 m.n):=by simp [Cur.cells]
@[simp] theorem Cur.s16 (m:Cur) (x:Int):setRange (Enc.cells m) 16 [.int .u64 x] = Enc.cells { m with n:=x }:=by simp [List.drop_append,drop_bytes,Cur.cells]
@[simp] theorem Cur.d17 (m:Cur):(Enc.cells m).drop 17 = (ofBytes m.boot.l ++ (.int .u64 m.mono :: (.int .u64 m.real :: (.int .u64 m.xor :: ([]:List D))))):=by simp [List.drop_append,drop_bytes,Cur.cells]
@[simp] theorem Cur.d17' (m:Cur) (r:List D):(Enc.cells m ++ r).drop 17 = (ofBytes m.boot.l ++ (.int .u64 m.mono :: (.int .u64 m.real :: (.int .u64 m.xor :: ([]:List D))))) ++ r:=by simp [List.drop_append,drop_bytes,Cur.cells]
@[simp] theorem Cur.s17 (m:Cur) (x:ID):setRange (Enc.cells m) 17 (ofBytes x.l) = Enc.cells { m with boot:=x }:=by simp [List.take_append,List.drop_append,drop_bytes,List.take_of_length_le,Cur.cells]
@[simp] theorem Cur.d33 (m:Cur):(Enc.cells m).drop 33 = (.int .u64 m.mono :: (.int .u64 m.real :: (.int .u64 m.xor :: ([]:List D)))):=by simp [List.drop_append,drop_bytes,Cur.cells]
@[simp] theorem Cur.d33' (m:Cur) (r:List D):(Enc.cells m ++ r).drop 33 = (.int .u64 m.mono :: (.int .u64 m.real :: (.int .u64 m.xor :: ([]:List D)))) ++ r:=by simp [List.drop_append,drop_bytes,Cur.cells]
@[simp] theorem Cur.g33 (m:Cur) (h):(Enc.cells m)[33]'h = .int .u64 m.mono:=by simp [Cur.cells]
@[simp] theorem Cur.q33 (m:Cur):(Enc.cells m)[33]? = some (.int .u64 m.mono):=by simp [Cur.cells]
@[simp] theorem Cur.s33 (m:Cur) (x:Int):setRange (Enc.cells m) 33 [.int .u64 x] = Enc.cells { m with mono:=x }:=by simp [List.take_append,List.drop_append,drop_bytes,List.take_of_length_le,Cur.cells]
@[simp] theorem Cur.d34 (m:Cur):(Enc.cells m).drop 34 = (.int .u64 m.real :: (.int .u64 m.xor :: ([]:List D))):=by simp [List.drop_append,drop_bytes,Cur.cells]
@[simp] theorem Cur.d34' (m:Cur) (r:List D):(Enc.cells m ++ r).drop 34 = (.int .u64 m.real :: (.int .u64 m.xor :: ([]:List D))) ++ r:=by simp [List.drop_append,drop_bytes,Cur.cells]
@[simp] theorem Cur.g34 (m:Cur) (h):(Enc.cells m)[34]'h = .int .u64 m.real:=by simp [Cur.cells]
@[simp] theorem Cur.q34 (m:Cur):(Enc.cells m)[34]? = some (.int .u64 m.real):=by simp [Cur.cells]
@[simp] theorem Cur.s34 (m:Cur) (x:Int):setRange (Enc.cells m) 34 [.int .u64 x] = Enc.cells { m with real:=x }:=by simp [List.take_append,List.drop_append,drop_bytes,List.take_of_length_le,Cur.cells]
@[simp] theorem Cur.d35 (m:Cur):(Enc.cells m).drop 35 = (.int .u64 m.xor :: ([]:List D)):=by simp [List.drop_append,drop_bytes,Cur.cells]
@[simp] theorem Cur.d35' (m:Cur) (r:List D):(Enc.cells m ++ r).drop 35 = (.int .u64 m.xor :: ([]:List D)) ++ r:=by simp [List.drop_append,drop_bytes,Cur.cells]
@[simp] theorem Cur.g35 (m:Cur) (h):(Enc.cells m)[35]'h = .int .u64 m.xor:=by simp [Cur.cells]
@[simp] theorem Cur.q35 (m:Cur):(Enc.cells m)[35]? = some (.int .u64 m.xor):=by simp [Cur.cells]
@[simp] theorem Cur.s35 (m:Cur) (x:Int):setRange (Enc.cells m) 35 [.int .u64 x] = Enc.cells { m with xor:=x }:=by simp [List.take_append,List.drop_append,drop_bytes,List.take_of_length_le,Cur.cells]
end Go.Ev
namespace Go.Ev
open Go Go.Proofs
end Go.Ev
namespace Go.Ev
open Go Go.Proofs
def hexc (k:Nat):UInt8:=if k < 10 then UInt8.ofNat (48+k) else UInt8.ofNat (87+k)
def hexF:Nat→Nat→List UInt8
 | 0,_=>[]
 | f+1,v=>if v < 16 then [hexc v] else hexF f (v / 16) ++ [hexc (v % 16)]
def hx (v:Nat):List UInt8:=hexF 16 v
def digL:List UInt8:=[48,49,50,51,52,53,54,55,56,57,97,98,99,100,101,102]
def dig36:List UInt8:=[48,49,50,51,52,53,54,55,56,57,97,98,99,100,101,102,103,104,105,106,107,108,109,110,111,112,113,114,115,116,117,118,119,120,121,122]
theorem dig36_at:∀ k,k < 16→dig36[k]? = some (hexc k):=by decide
theorem digL_at:∀ k,k < 16→digL[k]? = some (hexc k):=by decide
theorem digL_idx:∀ k,k < 16→idxB (hexc k) digL 0 = (k:Int):=by decide
theorem hexF_len:∀ (f v:Nat),(hexF f v).length≤f
 | 0,_=>Nat.le_refl _
 | f+1,v=>by
  rw [hexF]
  split
  ·simp
  ·have:=hexF_len f (v / 16)
   simp
   omega
theorem hx_len (v:Nat):(hx v).length≤16:=hexF_len 16 v
theorem hx_pos (v:Nat):0 < (hx v).length:=by
 unfold hx hexF
 split <;> simp
def hexs:List UInt8→List UInt8
 | []=>[]
 | b :: l=>hexc (b.toNat / 16) :: hexc (b.toNat % 16) :: hexs l
theorem hexs_len:∀ (l:List UInt8),(hexs l).length = 2 * l.length
 | []=>rfl
 | b :: l=>by simp [hexs,hexs_len l];omega
theorem hexs_append:∀ (a b:List UInt8),hexs (a ++ b) = hexs a ++ hexs b
 | [],_=>rfl
 | x :: a,b=>by simp [hexs,hexs_append a b]
def fixed (v:Nat):List UInt8:=List.replicate (16 - (hx v).length) 48 ++ hx v
def idGo:List UInt8→Nat→List UInt8→Option (List UInt8)
 | [],_,st=>some st
 | c :: l,i,st=>if idxB c digL 0 < 0 then none else idGo l (i+1) (st.set (i / 2) ((st.getD (i / 2) 0 <<< 4) ||| UInt8.ofNat (idxB c digL 0).toNat))
def zero16:List UInt8:=List.replicate 16 0
def idP (s:List UInt8):Option (List UInt8):=if s.length = 32 then idGo s 0 zero16 else none
theorem idGo_len:∀ (s:List UInt8) (i:Nat) (st r:List UInt8),idGo s i st = some r→r.length = st.length
 | [],_,st,r,h=>by simp only [idGo,Option.some.injEq] at h;rw [h]
 | c :: l,i,st,r,h=>by
  simp only [idGo] at h
  split at h
  ·cases h
  ·have:=idGo_len l _ _ r h
   simpa using this
theorem idP_len {s r:List UInt8} (h:idP s = some r):r.length = 16:=by
 unfold idP at h
 split at h
 ·have:=idGo_len _ _ _ _ h
  simpa [zero16] using this
 ·cases h
theorem idx_range (c:UInt8):∀ (l:List UInt8) (n:Nat),idxB c l n = -1∨∃ k,k < l.length∧idxB c l n = ((n+k:Nat):Int)
 | [],_=>.inl rfl
 | b :: l,n=>by
  unfold idxB
  split
  ·exact .inr ⟨0,by simp,by simp⟩
  ·rcases idx_range c l (n+1) with h | ⟨k,h1,h2⟩
   ·exact .inl h
   ·exact .inr ⟨k+1,by simp;omega,by rw [h2];omega⟩
theorem nib_orN:∀ n,n < 256→(((0:UInt8) <<< 4 ||| UInt8.ofNat (n / 16)) <<< 4) ||| UInt8.ofNat (n % 16) = UInt8.ofNat n:=by decide +kernel
theorem nib_or (b:UInt8):(((0:UInt8) <<< 4 ||| UInt8.ofNat (b.toNat / 16)) <<< 4) ||| UInt8.ofNat (b.toNat % 16) = b:=by
 rw [nib_orN b.toNat b.toNat_lt,UInt8.ofNat_toNat]
theorem idGo_hexs:∀ (l done:List UInt8),idGo (hexs l) (2 * done.length) (done ++ List.replicate l.length 0) = some (done ++ l)
 | [],done=>by simp [hexs,idGo]
 | b :: l,done=>by
  have hb:=b.toNat_lt
  have h1:=digL_idx (b.toNat / 16) (by omega)
  have h2:=digL_idx (b.toNat % 16) (by omega)
  simp only [hexs,idGo,h1,h2]
  rw [if_neg (by omega),if_neg (by omega)]
  have e1:2 * done.length / 2 = done.length:=by omega
  have e2:(2 * done.length+1) / 2 = done.length:=by omega
  have e3:2 * done.length+1+1 = 2 * (done ++ [b]).length:=by simp;omega
  have g1:(done ++ List.replicate (b :: l).length 0).getD done.length 0 = (0:UInt8):=by
   simp [List.getD,List.replicate_succ]
  rw [e1,e2,e3,g1]
  have s1:∀ x:UInt8,(done ++ List.replicate (b :: l).length (0:UInt8)).set done.length x = done ++ x :: List.replicate l.length 0:=by
   intro x
   simp [List.replicate_succ]
  rw [s1]
  have g2:∀ x:UInt8,(done ++ x :: List.replicate l.length (0:UInt8)).getD done.length 0 = x:=by
   intro x
   simp [List.getD]
  rw [g2]
  have s2:∀ x y:UInt8,(done ++ x :: List.replicate l.length (0:UInt8)).set done.length y = (done ++ [y]) ++ List.replicate l.length 0:=by
   intro x y
   simp
  have e4:((((b.toNat / 16:Nat):Int)).toNat) = b.toNat / 16:=by omega
  have e5:((((b.toNat % 16:Nat):Int)).toNat) = b.toNat % 16:=by omega
  rw [s2,e4,e5,nib_or b,idGo_hexs l (done ++ [b])]
  simp
theorem idP_hexs {l:List UInt8} (h:l.length = 16):idP (hexs l) = some l:=by
 unfold idP
 rw [if_pos (by rw [hexs_len,h])]
 have:=idGo_hexs l []
 simpa [zero16,h] using this
theorem shl4_N:∀ n:Nat,n < 256→∀ k:Nat,k < 16→orI .u8 (IntKind.u8.wrap ((n:Int) * 16)) (k:Int) = ((UInt8.ofNat n <<< 4 ||| UInt8.ofNat k).toNat:Int):=by decide +kernel
theorem shl4_u8 (a:UInt8) (k:Nat) (hk:k < 16):orI .u8 (IntKind.u8.wrap ((a.toNat:Int) * 16)) (k:Int) = ((a <<< 4 ||| UInt8.ofNat k).toNat:Int):=by
 rw [shl4_N a.toNat a.toNat_lt k hk,UInt8.ofNat_toNat]
theorem and15_u64 {n:Nat} (h:n < 18446744073709551616):andI .u64 (n:Int) 15 = ((n % 16:Nat):Int):=by
 unfold andI
 have e:(BitVec.ofInt IntKind.u64.bits (n:Int) &&& BitVec.ofInt IntKind.u64.bits 15).toNat = n % 16:=by
  show (BitVec.ofInt 64 (n:Int) &&& BitVec.ofInt 64 ((15:Nat):Int)).toNat = n % 16
  rw [BitVec.ofInt_natCast,BitVec.ofInt_natCast,BitVec.toNat_and,BitVec.toNat_ofNat,BitVec.toNat_ofNat,Nat.mod_eq_of_lt (show n < 2 ^ 64 by omega)]
  exact Nat.and_two_pow_sub_one_eq_mod n 4
 rw [e,wrap_u64]
 omega
theorem and15_u8N:∀ n:Nat,n < 256→andI .u8 (n:Int) 15 = ((n % 16:Nat):Int):=by decide +kernel
theorem and15_u8 (b:UInt8):andI .u8 (b.toNat:Int) 15 = ((b.toNat % 16:Nat):Int):=and15_u8N b.toNat b.toNat_lt
theorem fdiv16 (n:Nat):Int.fdiv (n:Int) 16 = ((n / 16:Nat):Int):=by
 rw [Int.fdiv_eq_ediv_of_nonneg _ (by omega)]
 omega
theorem fill_behind (i:Nat) (s:List UInt8) (c:UInt8):setRange (List.replicate (i+1) (D.int .u8 0) ++ ofBytes s) i [.int .u8 c.toNat] = List.replicate i (.int .u8 0) ++ ofBytes (c :: s):=by
 unfold setRange
 have h:(List.replicate (i+1) (D.int .u8 0) ++ ofBytes s).drop (i+1) = ofBytes s:=List.drop_left' (by simp)
 have h2:(List.replicate (i+1) (D.int .u8 0) ++ ofBytes s).take i = List.replicate i (D.int .u8 0):=by
  rw [List.take_append_of_le_length (by simp),List.take_replicate]
  congr 1
  omega
 rw [h2,List.length_singleton,h]
 simp [ofBytes]
end Go.Ev
namespace Go.Ev
open Go Go.Proofs
def rolI (x:Int) (k:Nat):Int:=orI .u32 (IntKind.u32.wrap (x * 2 ^ k)) (x.fdiv (2 ^ (32 - k)))
def add32 (a b:Int):Int:=IntKind.u32.wrap (a+b)
def sub32 (a b:Int):Int:=IntKind.u32.wrap (a - b)
def stpM (k:Nat):Int × Int × Int→Int × Int × Int
 | (a,b,c)=>(b,add32 c b,xorI .u32 (sub32 a c) (rolI c k))
def mixI (t:Int × Int × Int):Int × Int × Int:=stpM 4 (stpM 19 (stpM 16 (stpM 8 (stpM 6 (stpM 4 t)))))
def stpF (k:Nat):Int × Int × Int→Int × Int × Int
 | (p,q,r)=>(r,sub32 (xorI .u32 p q) (rolI q k),q)
def finI:Int × Int × Int→Int × Int × Int
 | (x,y,z)=>stpF 24 (stpF 14 (stpF 4 (stpF 16 (stpF 25 (stpF 11 (stpF 14 (z,y,x)))))))
theorem mix_at {x y z x1 z1 y1 x2 z2 y2 x3 z3 y3 x4 z4 y4 a1 a2 a3 a4 a5 a6:Int}
  (h1:sub32 x z = a1) (h2:xorI .u32 a1 (rolI z 4) = x1) (h3:add32 z y = z1)
  (h4:sub32 y x1 = a2) (h5:xorI .u32 a2 (rolI x1 6) = y1) (h6:add32 x1 z1 = x2)
  (h7:sub32 z1 y1 = a3) (h8:xorI .u32 a3 (rolI y1 8) = z2) (h9:add32 y1 x2 = y2)
  (g1:sub32 x2 z2 = a4) (g2:xorI .u32 a4 (rolI z2 16) = x3) (g3:add32 z2 y2 = z3)
  (g4:sub32 y2 x3 = a5) (g5:xorI .u32 a5 (rolI x3 19) = y3) (g6:add32 x3 z3 = x4)
  (g7:sub32 z3 y3 = a6) (g8:xorI .u32 a6 (rolI y3 4) = z4) (g9:add32 y3 x4 = y4):mixI (x,y,z) = (x4,y4,z4):=by
 unfold mixI
 have e1:stpM 4 (x,y,z) = (y,z1,x1):=by simp only [stpM,h1,h2,h3]
 have e2:stpM 6 (y,z1,x1) = (z1,x2,y1):=by simp only [stpM,h4,h5,h6]
 have e3:stpM 8 (z1,x2,y1) = (x2,y2,z2):=by simp only [stpM,h7,h8,h9]
 have e4:stpM 16 (x2,y2,z2) = (y2,z3,x3):=by simp only [stpM,g1,g2,g3]
 have e5:stpM 19 (y2,z3,x3) = (z3,x4,y3):=by simp only [stpM,g4,g5,g6]
 have e6:stpM 4 (z3,x4,y3) = (x4,y4,z4):=by simp only [stpM,g7,g8,g9]
 rw [e1,e2,e3,e4,e5,e6]
theorem fin_at {x y z a1 z1 a2 x1 a3 y1 a4 z2 a5 x2 a6 y2 a7 z3:Int}
  (h1:xorI .u32 z y = a1) (h2:sub32 a1 (rolI y 14) = z1)
  (h3:xorI .u32 x z1 = a2) (h4:sub32 a2 (rolI z1 11) = x1)
  (h5:xorI .u32 y x1 = a3) (h6:sub32 a3 (rolI x1 25) = y1)
  (h7:xorI .u32 z1 y1 = a4) (h8:sub32 a4 (rolI y1 16) = z2)
  (g1:xorI .u32 x1 z2 = a5) (g2:sub32 a5 (rolI z2 4) = x2)
  (g3:xorI .u32 y1 x2 = a6) (g4:sub32 a6 (rolI x2 14) = y2)
  (g5:xorI .u32 z2 y2 = a7) (g6:sub32 a7 (rolI y2 24) = z3):finI (x,y,z) = (x2,z3,y2):=by
 unfold finI
 have e1:stpF 14 (z,y,x) = (x,z1,y):=by simp only [stpF,h1,h2]
 have e2:stpF 11 (x,z1,y) = (y,x1,z1):=by simp only [stpF,h3,h4]
 have e3:stpF 25 (y,x1,z1) = (z1,y1,x1):=by simp only [stpF,h5,h6]
 have e4:stpF 16 (z1,y1,x1) = (x1,z2,y1):=by simp only [stpF,h7,h8]
 have e5:stpF 4 (x1,z2,y1) = (y1,x2,z2):=by simp only [stpF,g1,g2]
 have e6:stpF 14 (y1,x2,z2) = (z2,y2,x2):=by simp only [stpF,g3,g4]
 have e7:stpF 24 (z2,y2,x2) = (x2,z3,y2):=by simp only [stpF,g5,g6]
 simp only [e1,e2,e3,e4,e5,e6,e7]
def wordL (l:List UInt8) (a:Nat):Nat:=leN ((l.drop a).take 4)
theorem wordL_lt (l:List UInt8) (a:Nat):wordL l a < 4294967296:=by
 refine Nat.lt_of_lt_of_le (leN_lt _) ?_
 have:((l.drop a).take 4).length≤4:=by rw [List.length_take];omega
 exact Nat.le_trans (Nat.pow_le_pow_right (by decide) this) (by decide)
def addT (l:List UInt8):Int × Int × Int→Int × Int × Int
 | (x,y,z)=>(add32 x (wordL l 0:Nat),add32 y (wordL l 4:Nat),add32 z (wordL l 8:Nat))
def outT:Int × Int × Int→Int
 | (_,y,z)=>orI .u64 (IntKind.u64.wrap (IntKind.u64.wrap z * 4294967296)) (IntKind.u64.wrap y)
def lookR (l:List UInt8) (t:Int × Int × Int):Int :=
 if 12 < l.length then lookR (l.drop 12) (mixI (addT l t)) else if l.length = 0 then outT t else match finI (addT l t) with | (_,z,y)=>outT (0,y,z)
termination_by l.length
decreasing_by simp;omega
def lookN (l:List UInt8):Int:=lookR l (add32 3735928559 (IntKind.u32.wrap (l.length:Nat)),add32 3735928559 (IntKind.u32.wrap (l.length:Nat)),add32 3735928559 (IntKind.u32.wrap (l.length:Nat)))
theorem lookR_more {l:List UInt8} (h:12 < l.length) (t:Int × Int × Int):lookR l t = lookR (l.drop 12) (mixI (addT l t)):=by
 rw [lookR,if_pos h]
theorem lookR_end {l:List UInt8} (h:¬ 12 < l.length) (h0:l.length≠0) {t:Int × Int × Int} {x y z:Int} (hf:finI (addT l t) = (x,z,y)):lookR l t = outT (0,y,z):=by
 rw [lookR,if_neg h,if_neg h0,hf]
theorem lookR_nil {l:List UInt8} (h0:l.length = 0) (t:Int × Int × Int):lookR l t = outT t:=by
 rw [lookR,if_neg (by omega),if_pos h0]
theorem and31:∀ k:Nat,k < 32→andI .u64 (k:Int) 31 = (k:Int):=by decide
end Go.Ev
namespace Go.Ev.S
open Go Go.Proofs Go.Ev
theorem rotl_ev [MaxL] [TxtC] (x:Int) (k:Nat) (hk:k < 32):call cx 160 [.int .u32 x,.int .i64 k] [] = some (.int .u32 (rolI x k),[]):=by
 have h:=and31 k hk
 have hw:IntKind.u64.wrap (k:Int) = (k:Int):=by rw [wrap_u64] <;> omega
 have hw2:IntKind.u64.wrap (32 - (k:Int)) = ((32 - k:Nat):Int):=by rw [wrap_u64] <;> omega
 have m1:min k 32 = k:=by omega
 have hn:¬ (k:Int) < 0:=by omega
 refine call_run Tryz.func160 rfl ⟨rfl,rfl⟩ ?_
 unfold rolI
 obtain ⟨j,hj⟩:∃ j,j = 32 - k:=⟨_,rfl⟩
 rw [← hj] at hw2 ⊢
 have m2:min j 32 = j:=by omega
 have hn2:¬ (j:Int) < 0:=by omega
 simp [Tryz.f160,h,hw,hw2,IntKind.bits,m1,m2,hn,hn2]
theorem rol_at [MaxL] [TxtC] {x r:Int} {k:Nat} (hk:k < 32) (e:rolI x k = r) {kk:Int} (hkk:kk = k):call cx 160 [.int .u32 x,.int .i64 kk] [] = some (.int .u32 r,[]):=by
 rw [hkk,← e]
 exact rotl_ev x k hk
set_option maxHeartbeats 4000000 in
set_option maxRecDepth 4000 in
theorem mix_ev [MaxL] [TxtC] (x y z:Int) (R:Heap) (hR:R = []∨R = [none]):call cx 134 [.optr 0 3 0] (some [.int .u32 x,.int .u32 y,.int .u32 z] :: R) = some (.tup [],some [.int .u32 (mixI (x,y,z)).1,.int .u32 (mixI (x,y,z)).2.1,.int .u32 (mixI (x,y,z)).2.2] :: R):=by
 obtain ⟨a1,h1⟩:∃ v,sub32 x z = v:=⟨_,rfl⟩
 have e0:IntKind.u32.wrap (x - z) = a1:=h1
 obtain ⟨r0,q0⟩:∃ v,rolI z 4 = v:=⟨_,rfl⟩
 have e1:=rol_at (by omega) q0 (kk:=4) rfl
 obtain ⟨x1,f0⟩:∃ v,xorI .u32 a1 r0 = v:=⟨_,rfl⟩
 have h2:xorI .u32 a1 (rolI z 4) = x1:=by rw [q0];exact f0
 obtain ⟨z1,h3⟩:∃ v,add32 z y = v:=⟨_,rfl⟩
 have e2:IntKind.u32.wrap (z+y) = z1:=h3
 obtain ⟨a2,h4⟩:∃ v,sub32 y x1 = v:=⟨_,rfl⟩
 have e3:IntKind.u32.wrap (y - x1) = a2:=h4
 obtain ⟨r1,q1⟩:∃ v,rolI x1 6 = v:=⟨_,rfl⟩
 have e4:=rol_at (by omega) q1 (kk:=6) rfl
 obtain ⟨y1,f1⟩:∃ v,xorI .u32 a2 r1 = v:=⟨_,rfl⟩
 have h5:xorI .u32 a2 (rolI x1 6) = y1:=by rw [q1];exact f1
 obtain ⟨x2,h6⟩:∃ v,add32 x1 z1 = v:=⟨_,rfl⟩
 have e5:IntKind.u32.wrap (x1+z1) = x2:=h6
 obtain ⟨a3,h7⟩:∃ v,sub32 z1 y1 = v:=⟨_,rfl⟩
 have e6:IntKind.u32.wrap (z1 - y1) = a3:=h7
 obtain ⟨r2,q2⟩:∃ v,rolI y1 8 = v:=⟨_,rfl⟩
 have e7:=rol_at (by omega) q2 (kk:=8) rfl
 obtain ⟨z2,f2⟩:∃ v,xorI .u32 a3 r2 = v:=⟨_,rfl⟩
 have h8:xorI .u32 a3 (rolI y1 8) = z2:=by rw [q2];exact f2
 obtain ⟨y2,h9⟩:∃ v,add32 y1 x2 = v:=⟨_,rfl⟩
 have e8:IntKind.u32.wrap (y1+x2) = y2:=h9
 obtain ⟨a4,g1⟩:∃ v,sub32 x2 z2 = v:=⟨_,rfl⟩
 have e9:IntKind.u32.wrap (x2 - z2) = a4:=g1
 obtain ⟨r3,q3⟩:∃ v,rolI z2 16 = v:=⟨_,rfl⟩
 have e10:=rol_at (by omega) q3 (kk:=16) rfl
 obtain ⟨x3,f3⟩:∃ v,xorI .u32 a4 r3 = v:=⟨_,rfl⟩
 have g2:xorI .u32 a4 (rolI z2 16) = x3:=by rw [q3];exact f3
 obtain ⟨z3,g3⟩:∃ v,add32 z2 y2 = v:=⟨_,rfl⟩
 have e11:IntKind.u32.wrap (z2+y2) = z3:=g3
 obtain ⟨a5,g4⟩:∃ v,sub32 y2 x3 = v:=⟨_,rfl⟩
 have e12:IntKind.u32.wrap (y2 - x3) = a5:=g4
 obtain ⟨r4,q4⟩:∃ v,rolI x3 19 = v:=⟨_,rfl⟩
 have e13:=rol_at (by omega) q4 (kk:=19) rfl
 obtain ⟨y3,f4⟩:∃ v,xorI .u32 a5 r4 = v:=⟨_,rfl⟩
 have g5:xorI .u32 a5 (rolI x3 19) = y3:=by rw [q4];exact f4
 obtain ⟨x4,g6⟩:∃ v,add32 x3 z3 = v:=⟨_,rfl⟩
 have e14:IntKind.u32.wrap (x3+z3) = x4:=g6
 obtain ⟨a6,g7⟩:∃ v,sub32 z3 y3 = v:=⟨_,rfl⟩
 have e15:IntKind.u32.wrap (z3 - y3) = a6:=g7
 obtain ⟨r5,q5⟩:∃ v,rolI y3 4 = v:=⟨_,rfl⟩
 have e16:=rol_at (by omega) q5 (kk:=4) rfl
 obtain ⟨z4,f5⟩:∃ v,xorI .u32 a6 r5 = v:=⟨_,rfl⟩
 have g8:xorI .u32 a6 (rolI y3 4) = z4:=by rw [q5];exact f5
 obtain ⟨y4,g9⟩:∃ v,add32 y3 x4 = v:=⟨_,rfl⟩
 have e17:IntKind.u32.wrap (y3+x4) = y4:=g9
 have hm:=mix_at h1 h2 h3 h4 h5 h6 h7 h8 h9 g1 g2 g3 g4 g5 g6 g7 g8 g9
 rw [hm]
 clear g9 g8 g7 g6 g5 g4 g3 g2 g1 h9 h8 h7 h6 h5 h4 h3 h2 h1 hm q0 q1 q2 q3 q4 q5
 rcases hR with rfl | rfl
 ·refine call_run Tryz.func134 rfl ⟨rfl,rfl⟩ ?_
  simp [Tryz.f134,e0,e1,f0,e2,e3,e4,f1,e5,e6,e7,f2,e8,e9,e10,f3,e11,e12,e13,f4,e14,e15,e16,f5,e17]
 ·refine call_run Tryz.func134 rfl ⟨rfl,rfl⟩ ?_
  simp [Tryz.f134,e0,e1,f0,e2,e3,e4,f1,e5,e6,e7,f2,e8,e9,e10,f3,e11,e12,e13,f4,e14,e15,e16,f5,e17]
set_option maxHeartbeats 4000000 in
set_option maxRecDepth 4000 in
theorem last_ev [MaxL] [TxtC] (x y z:Int) {x' y' z':Int} (hm:finI (x,y,z) = (x',z',y')) (R:Heap) (hR:R = []∨R = [none]):call cx 135 [.optr 0 3 0] (some [.int .u32 x,.int .u32 y,.int .u32 z] :: R) = some (.tup [],some [.int .u32 x',.int .u32 y',.int .u32 z'] :: R):=by
 obtain ⟨a1,h1⟩:∃ v,xorI .u32 z y = v:=⟨_,rfl⟩
 obtain ⟨r0,q0⟩:∃ v,rolI y 14 = v:=⟨_,rfl⟩
 have e1:=rol_at (by omega) q0 (kk:=14) rfl
 obtain ⟨z1,f0⟩:∃ v,sub32 a1 r0 = v:=⟨_,rfl⟩
 have d0:IntKind.u32.wrap (a1 - r0) = z1:=f0
 have h2:sub32 a1 (rolI y 14) = z1:=by rw [q0];exact f0
 obtain ⟨a2,h3⟩:∃ v,xorI .u32 x z1 = v:=⟨_,rfl⟩
 obtain ⟨r1,q1⟩:∃ v,rolI z1 11 = v:=⟨_,rfl⟩
 have e3:=rol_at (by omega) q1 (kk:=11) rfl
 obtain ⟨x1,f1⟩:∃ v,sub32 a2 r1 = v:=⟨_,rfl⟩
 have d1:IntKind.u32.wrap (a2 - r1) = x1:=f1
 have h4:sub32 a2 (rolI z1 11) = x1:=by rw [q1];exact f1
 obtain ⟨a3,h5⟩:∃ v,xorI .u32 y x1 = v:=⟨_,rfl⟩
 obtain ⟨r2,q2⟩:∃ v,rolI x1 25 = v:=⟨_,rfl⟩
 have e5:=rol_at (by omega) q2 (kk:=25) rfl
 obtain ⟨y1,f2⟩:∃ v,sub32 a3 r2 = v:=⟨_,rfl⟩
 have d2:IntKind.u32.wrap (a3 - r2) = y1:=f2
 have h6:sub32 a3 (rolI x1 25) = y1:=by rw [q2];exact f2
 obtain ⟨a4,h7⟩:∃ v,xorI .u32 z1 y1 = v:=⟨_,rfl⟩
 obtain ⟨r3,q3⟩:∃ v,rolI y1 16 = v:=⟨_,rfl⟩
 have e7:=rol_at (by omega) q3 (kk:=16) rfl
 obtain ⟨z2,f3⟩:∃ v,sub32 a4 r3 = v:=⟨_,rfl⟩
 have d3:IntKind.u32.wrap (a4 - r3) = z2:=f3
 have h8:sub32 a4 (rolI y1 16) = z2:=by rw [q3];exact f3
 obtain ⟨a5,g1⟩:∃ v,xorI .u32 x1 z2 = v:=⟨_,rfl⟩
 obtain ⟨r4,q4⟩:∃ v,rolI z2 4 = v:=⟨_,rfl⟩
 have e9:=rol_at (by omega) q4 (kk:=4) rfl
 obtain ⟨x2,f4⟩:∃ v,sub32 a5 r4 = v:=⟨_,rfl⟩
 have d4:IntKind.u32.wrap (a5 - r4) = x2:=f4
 have g2:sub32 a5 (rolI z2 4) = x2:=by rw [q4];exact f4
 obtain ⟨a6,g3⟩:∃ v,xorI .u32 y1 x2 = v:=⟨_,rfl⟩
 obtain ⟨r5,q5⟩:∃ v,rolI x2 14 = v:=⟨_,rfl⟩
 have e11:=rol_at (by omega) q5 (kk:=14) rfl
 obtain ⟨y2,f5⟩:∃ v,sub32 a6 r5 = v:=⟨_,rfl⟩
 have d5:IntKind.u32.wrap (a6 - r5) = y2:=f5
 have g4:sub32 a6 (rolI x2 14) = y2:=by rw [q5];exact f5
 obtain ⟨a7,g5⟩:∃ v,xorI .u32 z2 y2 = v:=⟨_,rfl⟩
 obtain ⟨r6,q6⟩:∃ v,rolI y2 24 = v:=⟨_,rfl⟩
 have e13:=rol_at (by omega) q6 (kk:=24) rfl
 obtain ⟨z3,f6⟩:∃ v,sub32 a7 r6 = v:=⟨_,rfl⟩
 have d6:IntKind.u32.wrap (a7 - r6) = z3:=f6
 have g6:sub32 a7 (rolI y2 24) = z3:=by rw [q6];exact f6
 have hn:=fin_at h1 h2 h3 h4 h5 h6 h7 h8 g1 g2 g3 g4 g5 g6
 rw [hm] at hn
 clear hm
 obtain ⟨hn1,hn⟩:=Prod.mk.inj hn
 obtain ⟨hn2,hn3⟩:=Prod.mk.inj hn
 clear g6 g4 g2 h8 h6 h4 h2 f0 q0 f1 q1 f2 q2 f3 q3 f4 q4 f5 q5 f6 q6
 rw [hn1,hn2,hn3]
 clear hn1 hn2 hn3
 rcases hR with rfl | rfl
 ·refine call_run Tryz.func135 rfl ⟨rfl,rfl⟩ ?_
  simp [Tryz.f135,h1,e1,d0,h3,e3,d1,h5,e5,d2,h7,e7,d3,g1,e9,d4,g3,e11,d5,g5,e13,d6]
 ·refine call_run Tryz.func135 rfl ⟨rfl,rfl⟩ ?_
  simp [Tryz.f135,h1,e1,d0,h3,e3,d1,h5,e5,d2,h7,e7,d3,g1,e9,d4,g3,e11,d5,g5,e13,d6]
end Go.Ev.S
namespace Go.Ev.S
open Go Go.Proofs Go.Ev
theorem get12 [MaxL] [TxtC] (l:List UInt8) (hl:l.length = 12) (a:Nat) (ha:a≤8) {at_:Int} (hat:at_ = a):call cx 72 [.vsl false (ofBytes l) 12,.int .i64 at_,.int .i64 4] [] = some (.tup [.int .u64 (wordL l a:Nat),.bool true],[]):=by
 have h:=leget_ev (Sl.of l) at_ 4 (by omega) (by show l.length < _;omega)
 have e:leGet l at_ 4 = some (wordL l a):=by
  unfold leGet
  rw [if_pos ⟨by decide,by omega,by omega⟩]
  have e1:at_.toNat = a:=by omega
  rw [e1]
  rfl
 have e2:(Sl.of l).l = l:=rfl
 rw [e2,e] at h
 have e4:(Sl.of l).nil = false:=rfl
 rw [e4,hl] at h
 exact h
set_option maxHeartbeats 2000000 in
theorem add_ev [MaxL] [TxtC] (l:List UInt8) (hl:l.length = 12) (x y z:Int) {x' y' z':Int} (hm:addT l (x,y,z) = (x',y',z')) (R:Heap) (hR:R = []∨R = [none]) :
  call cx 133 [.optr 0 3 0,.vsl false (ofBytes l) 12] (some [.int .u32 x,.int .u32 y,.int .u32 z] :: R) = some (.tup [],some [.int .u32 x',.int .u32 y',.int .u32 z'] :: R):=by
 have h0:=get12 l hl 0 (by omega) (at_:=0) rfl
 have h4:=get12 l hl 4 (by omega) (at_:=4) rfl
 have h8:=get12 l hl 8 (by omega) (at_:=8) rfl
 have w0:=wordL_lt l 0
 have w4:=wordL_lt l 4
 have w8:=wordL_lt l 8
 unfold addT add32 at hm
 obtain ⟨e1,hm⟩:=Prod.mk.inj hm
 obtain ⟨e2,e3⟩:=Prod.mk.inj hm
 generalize wordL l 0 = a at *
 generalize wordL l 4 = b at *
 generalize wordL l 8 = c at *
 have v0:IntKind.u32.wrap (a:Int) = a:=by rw [wrap_u32] <;> omega
 have v4:IntKind.u32.wrap (b:Int) = b:=by rw [wrap_u32] <;> omega
 have v8:IntKind.u32.wrap (c:Int) = c:=by rw [wrap_u32] <;> omega
 rcases hR with rfl | rfl
 ·refine call_run Tryz.func133 rfl ⟨rfl,rfl⟩ ?_
  simp [Tryz.f133,h0,h4,h8,v0,v4,v8,e1,e2,e3]
 ·refine call_run Tryz.func133 rfl ⟨rfl,rfl⟩ ?_
  simp [Tryz.f133,h0,h4,h8,v0,v4,v8,e1,e2,e3]
theorem leN_zeros:∀ (l:List UInt8) (k:Nat),leN (l ++ List.replicate k 0) = leN l
 | [],0=>rfl
 | [],k+1=>by
  have h:=leN_zeros [] k
  simp only [List.nil_append] at h ⊢
  rw [List.replicate_succ,leN.eq_2]
  rw [h]
  rfl
 | c :: l,k=>by rw [List.cons_append,leN,leN,leN_zeros l k]
theorem wordL_zeros (l:List UInt8) (k a:Nat):wordL (l ++ List.replicate k 0) a = wordL l a:=by
 unfold wordL
 rw [List.drop_append,List.take_append,List.drop_replicate,List.take_replicate,leN_zeros]
theorem addT_zeros (l:List UInt8) (k:Nat) (t:Int × Int × Int):addT (l ++ List.replicate k 0) t = addT l t:=by
 obtain ⟨x,y,z⟩:=t
 simp only [addT,wordL_zeros]
set_option maxHeartbeats 4000000 in
theorem lookup_ev [MaxL] [TxtC] (s:Sl UInt8) (_:s.l.length < 4611686018427387904):call cx 112 [(.vsl s.nil (ofBytes s.l) s.l.length)] [] = some (.int .u64 (lookN s.l),[]):=by
 refine call_run Tryz.func112 rfl ⟨rfl,rfl⟩ ?_
 have hN:lookN s.l = lookR s.l (add32 3735928559 (IntKind.u32.wrap (s.l.length:Nat)),add32 3735928559 (IntKind.u32.wrap (s.l.length:Nat)),add32 3735928559 (IntKind.u32.wrap (s.l.length:Nat))):=rfl
 obtain ⟨n,hn⟩:∃ n,IntKind.u32.wrap (3735928559+IntKind.u32.wrap (s.l.length:Nat)) = n:=⟨_,rfl⟩
 have hn2:add32 3735928559 (IntKind.u32.wrap (s.l.length:Nat)) = n:=hn
 rw [hn2] at hN
 clear hn2
 generalize lookN s.l = res at *
 simp [Tryz.f112,hn]
 refine Run.loopThen (fun (q:List UInt8 × Int × Int × Int) e H'=>q.1.length≤s.l.length∧(s.nil = true→q.1 = [])∧lookR q.1 q.2 = res∧look e 0 = some (.vsl s.nil (ofBytes q.1) q.1.length)∧look e 4 = some (.optr 0 3 0)∧H' = [some [.int .u32 q.2.1,.int .u32 q.2.2.1,.int .u32 q.2.2.2]]) (fun q=>q.1.length) (s.l,n,n,n) ?_ ?_
 ·simp [hN]
  exact s.h
 rintro ⟨l,x,y,z⟩ e H' ⟨hl,hnl,hR,k0,k4,rfl⟩
 simp only at hl hnl hR k0 k4
 by_cases h12:12 < l.length
 ·have h12':(12:Int) < (l.length:Int):=by omega
  have hnn:s.nil = false:=by
   cases hq:s.nil with
   | false=>rfl
   | true=>rw [hnl hq] at h12;simp at h12
  rw [hnn] at k0
  rw [lookR_more h12] at hR
  obtain ⟨⟨x1,y1,z1⟩,ha⟩:∃ t,addT (l.take 12) (x,y,z) = t:=⟨_,rfl⟩
  have hA:=add_ev (l.take 12) (by rw [List.length_take];omega) x y z ha [] (.inl rfl)
  have ha2:addT l (x,y,z) = (x1,y1,z1):=by
   rw [← ha]
   simp only [addT,wordL,List.drop_take,List.take_take]
   rfl
  rw [ha2] at hR
  have hM:=mix_ev x1 y1 z1 [] (.inl rfl)
  have t12:List.take 12 (ofBytes l) = ofBytes (l.take 12):=by simp [ofBytes,List.map_take]
  have d12:List.drop 12 (ofBytes l) = ofBytes (l.drop 12):=by simp [ofBytes,List.map_drop]
  have h12a:(12:Int)≤(l.length:Int):=by omega
  have hdl:(l.drop 12).length = l.length - 12:=List.length_drop
  have htk:List.take (l.length - 12) (ofBytes (l.drop 12)) = ofBytes (l.drop 12):=List.take_of_length_le (by simp)
  generalize l.take 12 = p at *
  generalize l.drop 12 = l' at *
  simp [k0,k4,h12',hA,hM,h12a,t12,d12,htk]
  exact ⟨l',by omega,by omega,by simp [hnn],_,_,_,hR,⟨hnn,rfl,by omega⟩,rfl,rfl,rfl⟩
 ·have h12':¬ (12:Int) < (l.length:Int):=by omega
  by_cases h0:l.length = 0
  ·have h0':¬ (0:Int) < (l.length:Int):=by omega
   rw [lookR_nil h0] at hR
   subst hR
   have hp64:(2:Int) ^ min 32 IntKind.u64.bits = 4294967296:=by decide
   simp [k0,k4,h0,outT,hp64]
  ·have h0':(0:Int) < (l.length:Int):=by omega
   have hnn:s.nil = false:=by
    cases hq:s.nil with
    | false=>rfl
    | true=>rw [hnl hq] at h0;simp at h0
   rw [hnn] at k0
   have hp:(l ++ List.replicate (12 - l.length) 0).length = 12:=by rw [List.length_append,List.length_replicate];omega
   have ha0:=addT_zeros l (12 - l.length) (x,y,z)
   obtain ⟨⟨x1,y1,z1⟩,ha⟩:∃ t,addT l (x,y,z) = t:=⟨_,rfl⟩
   rw [ha] at ha0
   obtain ⟨⟨x2,z2,y2⟩,hf⟩:∃ t,finI (x1,y1,z1) = t:=⟨_,rfl⟩
   rw [lookR_end h12 h0 (x:=x2) (y:=y2) (z:=z2) (by rw [ha];exact hf)] at hR
   subst hR
   have hA:=add_ev _ hp x y z ha0 [none] (.inr rfl)
   have hF:=last_ev x1 y1 z1 hf [none] (.inr rfl)
   have hp64:(2:Int) ^ min 32 IntKind.u64.bits = 4294967296:=by decide
   have h0n:0 < l.length:=by omega
   have hmin:min l.length 12 = l.length:=by omega
   have hset:setRange [D.int .u8 0,D.int .u8 0,D.int .u8 0,D.int .u8 0,D.int .u8 0,D.int .u8 0,D.int .u8 0,D.int .u8 0,D.int .u8 0,D.int .u8 0,D.int .u8 0,D.int .u8 0] 0 (ofBytes l) = ofBytes (l ++ List.replicate (12 - l.length) 0):=by
    show setRange (List.replicate 12 (D.int .u8 0)) 0 (ofBytes l) = _
    unfold setRange
    rw [List.take_zero,Nat.zero_add,ofBytes_len,List.drop_replicate]
    simp [ofBytes]
   have htk:List.take l.length (ofBytes l) = ofBytes l:=List.take_of_length_le (by simp)
   generalize l ++ List.replicate (12 - l.length) 0 = p at *
   simp [-setRange_eq,k0,k4,h12',h0n,hA,hF,outT,hp64,hmin,hset,htk,hp]
end Go.Ev.S
namespace Go.Ev.S
open Go Go.Proofs Go.Ev
theorem turn_at [MaxL] [TxtC] {x r:Int} {k:Nat} (hk:k < 32) (e:rolI x k = r) {kk:Int} (hkk:kk = k):call cx 154 [.int .u32 x,.int .u64 kk] [] = some (.int .u32 r,[]):=by
 rw [hkk,← e]
 have hw2:IntKind.u64.wrap (32 - (k:Int)) = ((32 - k:Nat):Int):=by rw [wrap_u64] <;> omega
 have m1:min k 32 = k:=by omega
 have hn:¬ (k:Int) < 0:=by omega
 refine call_run Tryz.func154 rfl ⟨rfl,rfl⟩ ?_
 unfold rolI
 obtain ⟨j,hj⟩:∃ j,j = 32 - k:=⟨_,rfl⟩
 rw [← hj] at hw2 ⊢
 have m2:min j 32 = j:=by omega
 have hn2:¬ (j:Int) < 0:=by omega
 simp [Tryz.f154,hw2,IntKind.bits,m1,m2,hn,hn2]
theorem bits32:2 ^ IntKind.u32.bits = 4294967296:=by simp only [IntKind.bits]
theorem word_step (x y:Nat) (hy:y < 256) (hx:x * 256+y < 4294967296):orI .u32 ((x:Int) * 256) (y:Int) = ((x * 256+y:Nat):Int):=by
 have e3:x * 256 < 2 ^ IntKind.u32.bits:=Nat.lt_of_lt_of_eq (Nat.lt_of_le_of_lt (Nat.le_add_right _ _) hx) bits32.symm
 have e4:y < 2 ^ IntKind.u32.bits:=Nat.lt_of_lt_of_eq (Nat.lt_of_lt_of_le hy (by decide)) bits32.symm
 have e1:(x:Int) * 256 = ((x * 256:Nat):Int):=by omega
 rw [e1,orI_nat rfl e3 e4,or_shl x y hy]
set_option maxHeartbeats 1000000 in
theorem word_ev [MaxL] [TxtC] (nl:Bool) (l:List UInt8) (hnl:nl = true→l = []) (a:Nat) (ha:a < 5611686018427387904) (_:l.length < 4611686018427387904) {at_:Int} (hat:at_ = a):call cx 153 [.vsl nl (ofBytes l) l.length,.int .i64 at_] [] = some (.int .u32 (wordL l a:Nat),[]):=by
 subst hat
 refine call_run Tryz.func153 rfl ⟨rfl,rfl⟩ ?_
 simp [Tryz.f153]
 refine Run.loopThen (fun (k:Nat) e H=>k≤4∧H = []∧look e 0 = some (.vsl nl (ofBytes l) l.length)∧look e 1 = some (.int .i64 a)∧look e 5 = some (.int .u32 (leN ((l.drop (a+k)).take (4 - k)):Nat))∧look e 6 = some (.int .i64 ((k:Int) - 1))) (fun k=>k) 4 (by simp [leN]) ?_
 rintro k e H ⟨hk,rfl,h0,h1,h5,h6⟩
 cases k with
 | zero =>
  simp [h0,h1,h5,h6]
  rfl
 | succ j =>
  have hj:(0:Int)≤(j:Int):=by omega
  have e1:((j+1:Nat):Int) - 1 = (j:Int):=by omega
  rw [e1] at h6
  have hwk:IntKind.i64.wrap ((j:Int) - 1) = (j:Int) - 1:=by rw [wrap_i64];omega
  have hwj:IntKind.i64.wrap ((a:Int)+(j:Int)) = ((a+j:Nat):Int):=by rw [wrap_i64] <;> omega
  have hp8:(2:Int) ^ min 8 IntKind.u32.bits = 256:=by decide
  have hn8:leN ((l.drop (a+(j+1))).take (4 - (j+1))) < 256 ^ 3:=by
   refine Nat.lt_of_lt_of_le (leN_lt _) (Nat.pow_le_pow_right (by decide) ?_)
   rw [List.length_take]
   omega
  obtain ⟨v,hv⟩:∃ v,leN ((l.drop (a+(j+1))).take (4 - (j+1))) = v:=⟨_,rfl⟩
  rw [hv] at h5 hn8
  have hwv:IntKind.u32.wrap ((v:Int) * 256) = (v:Int) * 256:=by rw [wrap_u32] <;> omega
  by_cases hlt:a+j < l.length
  ·have hlt':((a+j:Nat):Int) < (l.length:Int):=by omega
   have hnn:nl = false:=by
    cases hq:nl with
    | false=>rfl
    | true=>rw [hnl hq] at hlt;simp at hlt
   have hd:(l.drop (a+j)).take (4 - j) = l[a+j] :: (l.drop (a+(j+1))).take (4 - (j+1)):=by
    rw [List.drop_eq_getElem_cons hlt,show 4 - j = (4 - (j+1))+1 by omega,List.take_succ_cons,Nat.add_assoc]
   have hb:=l[a+j].toNat_lt
   have hst:=word_step v l[a+j].toNat hb (by omega)
   have hwu:IntKind.u32.wrap (l[a+j].toNat:Int) = (l[a+j].toNat:Int):=by rw [wrap_u32];omega
   have g1:(0:Int)≤(a:Int)+(j:Int):=by omega
   have g2:(a:Int)+(j:Int) < (l.length:Int):=by omega
   have g3:((a:Int)+(j:Int)).toNat = a+j:=by omega
   have hat:=ofBytes_at hlt
   simp [h0,h1,h5,h6,hj,hwj,hwk,hwu,hnn,g1,g2,g3,hat,hp8,hwv,hst]
   exact ⟨j,by omega,by omega,by rw [hd,leN,hv];omega,rfl⟩
  ·have hlt':¬ ((a+j:Nat):Int) < (l.length:Int):=by omega
   have g2:¬ (a:Int)+(j:Int) < (l.length:Int):=by omega
   have hv0:v = 0:=by
    rw [← hv,List.drop_eq_nil_of_le (by omega)]
    simp [leN]
   subst hv0
   simp [h0,h1,h5,h6,hj,hwj,hwk,g2,hp8]
   exact ⟨j,by omega,by omega,by rw [List.drop_eq_nil_of_le (by omega)];simp [leN],rfl⟩
theorem wordL_drop (l:List UInt8) (a k:Nat):wordL (l.drop a) k = wordL l (a+k):=by
 unfold wordL
 rw [List.drop_drop]
set_option maxHeartbeats 4000000 in
set_option maxRecDepth 4000 in
theorem rlookup_ev [MaxL] [TxtC] (s:Sl UInt8) (hs:s.l.length < 4611686018427387904):call cx 124 [(.vsl s.nil (ofBytes s.l) s.l.length)] [] = some (.int .u64 (lookN s.l),[]):=by
 refine call_run Tryz.func124 rfl ⟨rfl,rfl⟩ ?_
 have hN:lookN s.l = lookR s.l (add32 3735928559 (IntKind.u32.wrap (s.l.length:Nat)),add32 3735928559 (IntKind.u32.wrap (s.l.length:Nat)),add32 3735928559 (IntKind.u32.wrap (s.l.length:Nat))):=rfl
 obtain ⟨n,hn⟩:∃ n,IntKind.u32.wrap (3735928559+IntKind.u32.wrap (s.l.length:Nat)) = n:=⟨_,rfl⟩
 have hn2:add32 3735928559 (IntKind.u32.wrap (s.l.length:Nat)) = n:=hn
 rw [hn2] at hN
 clear hn2
 have hp64:(2:Int) ^ min 32 IntKind.u64.bits = 4294967296:=by decide
 generalize lookN s.l = res at *
 by_cases h0:s.l.length = 0
 ·have h0':(s.l.length:Int) = 0:=by omega
  rw [lookR_nil h0] at hN
  subst hN
  rw [h0] at hn
  replace hn:IntKind.u32.wrap (3735928559+IntKind.u32.wrap (0:Int)) = n:=hn
  have hn0:n = 3735928559:=by rw [← hn];decide
  subst hn0
  simp [Tryz.f124,h0,outT,hp64]
 have h0':¬ (s.l.length:Int) = 0:=by omega
 simp [Tryz.f124,hn,h0]
 refine Run.loopThen (fun (q:Nat × Int × Int × Int) e H'=>q.1 < s.l.length∧lookR (s.l.drop q.1) q.2 = res∧look e 0 = some (.vsl s.nil (ofBytes s.l) s.l.length)∧look e 3 = some (.int .u32 q.2.1)∧look e 4 = some (.int .u32 q.2.2.1)∧look e 5 = some (.int .u32 q.2.2.2)∧look e 6 = some (.int .i64 q.1)∧H' = []) (fun q=>s.l.length - q.1) (0,n,n,n) ?_ ?_
 ·simp [hN]
  omega
 rintro ⟨at_,x,y,z⟩ e H' ⟨hat,hR,k0,k3,k4,k5,k6,rfl⟩
 simp only at hat hR k3 k4 k5 k6
 have hsub:IntKind.i64.wrap ((s.l.length:Int) - (at_:Int)) = ((s.l.length - at_:Nat):Int):=by rw [wrap_i64] <;> omega
 have hdl:(s.l.drop at_).length = s.l.length - at_:=List.length_drop
 by_cases h12:12 < s.l.length - at_
 ·have h12':(12:Int) < ((s.l.length - at_:Nat):Int):=by omega
  rw [lookR_more (by omega),List.drop_drop] at hR
  have w0:=word_ev s.nil s.l s.h (at_+0) (by omega) hs (at_:=(at_:Int)) (by omega)
  obtain ⟨x0,p0⟩:∃ v,add32 x (wordL s.l (at_+0):Nat) = v:=⟨_,rfl⟩
  have w4:=word_ev s.nil s.l s.h (at_+4) (by omega) hs (at_:=(at_:Int)+4) (by omega)
  obtain ⟨y0,p4⟩:∃ v,add32 y (wordL s.l (at_+4):Nat) = v:=⟨_,rfl⟩
  have w8:=word_ev s.nil s.l s.h (at_+8) (by omega) hs (at_:=(at_:Int)+8) (by omega)
  obtain ⟨z0,p8⟩:∃ v,add32 z (wordL s.l (at_+8):Nat) = v:=⟨_,rfl⟩
  have ha:addT (s.l.drop at_) (x,y,z) = (x0,y0,z0):=by simp only [addT,wordL_drop,p0,p4,p8]
  have c0:IntKind.u32.wrap (x+(wordL s.l (at_+0):Nat)) = x0:=p0
  generalize wordL s.l (at_+0) = u0 at *
  have c4:IntKind.u32.wrap (y+(wordL s.l (at_+4):Nat)) = y0:=p4
  generalize wordL s.l (at_+4) = u4 at *
  have c8:IntKind.u32.wrap (z+(wordL s.l (at_+8):Nat)) = z0:=p8
  generalize wordL s.l (at_+8) = u8 at *
  clear p0 p4 p8
  have i4:IntKind.i64.wrap ((at_:Int)+4) = (at_:Int)+4:=by rw [wrap_i64] <;> omega
  have i8:IntKind.i64.wrap ((at_:Int)+8) = (at_:Int)+8:=by rw [wrap_i64] <;> omega
  rw [ha] at hR
  obtain ⟨a1,h1⟩:∃ v,sub32 x0 z0 = v:=⟨_,rfl⟩
  have e0:IntKind.u32.wrap (x0 - z0) = a1:=h1
  obtain ⟨r0,q0⟩:∃ v,rolI z0 4 = v:=⟨_,rfl⟩
  have e1:=turn_at (by omega) q0 (kk:=4) rfl
  obtain ⟨x1,f0⟩:∃ v,xorI .u32 a1 r0 = v:=⟨_,rfl⟩
  have h2:xorI .u32 a1 (rolI z0 4) = x1:=by rw [q0];exact f0
  obtain ⟨z1,h3⟩:∃ v,add32 z0 y0 = v:=⟨_,rfl⟩
  have e2:IntKind.u32.wrap (z0+y0) = z1:=h3
  obtain ⟨a2,h4⟩:∃ v,sub32 y0 x1 = v:=⟨_,rfl⟩
  have e3:IntKind.u32.wrap (y0 - x1) = a2:=h4
  obtain ⟨r1,q1⟩:∃ v,rolI x1 6 = v:=⟨_,rfl⟩
  have e4:=turn_at (by omega) q1 (kk:=6) rfl
  obtain ⟨y1,f1⟩:∃ v,xorI .u32 a2 r1 = v:=⟨_,rfl⟩
  have h5:xorI .u32 a2 (rolI x1 6) = y1:=by rw [q1];exact f1
  obtain ⟨x2,h6⟩:∃ v,add32 x1 z1 = v:=⟨_,rfl⟩
  have e5:IntKind.u32.wrap (x1+z1) = x2:=h6
  obtain ⟨a3,h7⟩:∃ v,sub32 z1 y1 = v:=⟨_,rfl⟩
  have e6:IntKind.u32.wrap (z1 - y1) = a3:=h7
  obtain ⟨r2,q2⟩:∃ v,rolI y1 8 = v:=⟨_,rfl⟩
  have e7:=turn_at (by omega) q2 (kk:=8) rfl
  obtain ⟨z2,f2⟩:∃ v,xorI .u32 a3 r2 = v:=⟨_,rfl⟩
  have h8:xorI .u32 a3 (rolI y1 8) = z2:=by rw [q2];exact f2
  obtain ⟨y2,h9⟩:∃ v,add32 y1 x2 = v:=⟨_,rfl⟩
  have e8:IntKind.u32.wrap (y1+x2) = y2:=h9
  obtain ⟨a4,g1⟩:∃ v,sub32 x2 z2 = v:=⟨_,rfl⟩
  have e9:IntKind.u32.wrap (x2 - z2) = a4:=g1
  obtain ⟨r3,q3⟩:∃ v,rolI z2 16 = v:=⟨_,rfl⟩
  have e10:=turn_at (by omega) q3 (kk:=16) rfl
  obtain ⟨x3,f3⟩:∃ v,xorI .u32 a4 r3 = v:=⟨_,rfl⟩
  have g2:xorI .u32 a4 (rolI z2 16) = x3:=by rw [q3];exact f3
  obtain ⟨z3,g3⟩:∃ v,add32 z2 y2 = v:=⟨_,rfl⟩
  have e11:IntKind.u32.wrap (z2+y2) = z3:=g3
  obtain ⟨a5,g4⟩:∃ v,sub32 y2 x3 = v:=⟨_,rfl⟩
  have e12:IntKind.u32.wrap (y2 - x3) = a5:=g4
  obtain ⟨r4,q4⟩:∃ v,rolI x3 19 = v:=⟨_,rfl⟩
  have e13:=turn_at (by omega) q4 (kk:=19) rfl
  obtain ⟨y3,f4⟩:∃ v,xorI .u32 a5 r4 = v:=⟨_,rfl⟩
  have g5:xorI .u32 a5 (rolI x3 19) = y3:=by rw [q4];exact f4
  obtain ⟨x4,g6⟩:∃ v,add32 x3 z3 = v:=⟨_,rfl⟩
  have e14:IntKind.u32.wrap (x3+z3) = x4:=g6
  obtain ⟨a6,g7⟩:∃ v,sub32 z3 y3 = v:=⟨_,rfl⟩
  have e15:IntKind.u32.wrap (z3 - y3) = a6:=g7
  obtain ⟨r5,q5⟩:∃ v,rolI y3 4 = v:=⟨_,rfl⟩
  have e16:=turn_at (by omega) q5 (kk:=4) rfl
  obtain ⟨z4,f5⟩:∃ v,xorI .u32 a6 r5 = v:=⟨_,rfl⟩
  have g8:xorI .u32 a6 (rolI y3 4) = z4:=by rw [q5];exact f5
  obtain ⟨y4,g9⟩:∃ v,add32 y3 x4 = v:=⟨_,rfl⟩
  have e17:IntKind.u32.wrap (y3+x4) = y4:=g9
  have hm:=mix_at h1 h2 h3 h4 h5 h6 h7 h8 h9 g1 g2 g3 g4 g5 g6 g7 g8 g9
  rw [hm] at hR
  clear g9 g8 g7 g6 g5 g4 g3 g2 g1 h9 h8 h7 h6 h5 h4 h3 h2 h1 hm q0 q1 q2 q3 q4 q5
  have i12:IntKind.i64.wrap ((at_:Int)+12) = ((at_+12:Nat):Int):=by rw [wrap_i64] <;> omega
  clear ha hN
  generalize hjj:s.l.length - at_ = j at *
  simp [k0,k3,k4,k5,k6,hsub,h12',i12,w0,w4,w8,c0,c4,c8,i4,i8,e0,e1,f0,e2,e3,e4,f1,e5,e6,e7,f2,e8,e9,e10,f3,e11,e12,e13,f4,e14,e15,e16,f5,e17]
  exact ⟨at_+12,by omega,by omega,_,_,_,hR,by omega,rfl,rfl,by omega⟩
 ·have h12':¬ (12:Int) < ((s.l.length - at_:Nat):Int):=by omega
  have w0:=word_ev s.nil s.l s.h (at_+0) (by omega) hs (at_:=(at_:Int)) (by omega)
  obtain ⟨x0,p0⟩:∃ v,add32 x (wordL s.l (at_+0):Nat) = v:=⟨_,rfl⟩
  have w4:=word_ev s.nil s.l s.h (at_+4) (by omega) hs (at_:=(at_:Int)+4) (by omega)
  obtain ⟨y0,p4⟩:∃ v,add32 y (wordL s.l (at_+4):Nat) = v:=⟨_,rfl⟩
  have w8:=word_ev s.nil s.l s.h (at_+8) (by omega) hs (at_:=(at_:Int)+8) (by omega)
  obtain ⟨z0,p8⟩:∃ v,add32 z (wordL s.l (at_+8):Nat) = v:=⟨_,rfl⟩
  have ha:addT (s.l.drop at_) (x,y,z) = (x0,y0,z0):=by simp only [addT,wordL_drop,p0,p4,p8]
  have c0:IntKind.u32.wrap (x+(wordL s.l (at_+0):Nat)) = x0:=p0
  generalize wordL s.l (at_+0) = u0 at *
  have c4:IntKind.u32.wrap (y+(wordL s.l (at_+4):Nat)) = y0:=p4
  generalize wordL s.l (at_+4) = u4 at *
  have c8:IntKind.u32.wrap (z+(wordL s.l (at_+8):Nat)) = z0:=p8
  generalize wordL s.l (at_+8) = u8 at *
  clear p0 p4 p8
  have i4:IntKind.i64.wrap ((at_:Int)+4) = (at_:Int)+4:=by rw [wrap_i64] <;> omega
  have i8:IntKind.i64.wrap ((at_:Int)+8) = (at_:Int)+8:=by rw [wrap_i64] <;> omega
  obtain ⟨a1,h1⟩:∃ v,xorI .u32 z0 y0 = v:=⟨_,rfl⟩
  obtain ⟨r0,q0⟩:∃ v,rolI y0 14 = v:=⟨_,rfl⟩
  have e1:=turn_at (by omega) q0 (kk:=14) rfl
  obtain ⟨z1,f0⟩:∃ v,sub32 a1 r0 = v:=⟨_,rfl⟩
  have d0:IntKind.u32.wrap (a1 - r0) = z1:=f0
  have h2:sub32 a1 (rolI y0 14) = z1:=by rw [q0];exact f0
  obtain ⟨a2,h3⟩:∃ v,xorI .u32 x0 z1 = v:=⟨_,rfl⟩
  obtain ⟨r1,q1⟩:∃ v,rolI z1 11 = v:=⟨_,rfl⟩
  have e3:=turn_at (by omega) q1 (kk:=11) rfl
  obtain ⟨x1,f1⟩:∃ v,sub32 a2 r1 = v:=⟨_,rfl⟩
  have d1:IntKind.u32.wrap (a2 - r1) = x1:=f1
  have h4:sub32 a2 (rolI z1 11) = x1:=by rw [q1];exact f1
  obtain ⟨a3,h5⟩:∃ v,xorI .u32 y0 x1 = v:=⟨_,rfl⟩
  obtain ⟨r2,q2⟩:∃ v,rolI x1 25 = v:=⟨_,rfl⟩
  have e5:=turn_at (by omega) q2 (kk:=25) rfl
  obtain ⟨y1,f2⟩:∃ v,sub32 a3 r2 = v:=⟨_,rfl⟩
  have d2:IntKind.u32.wrap (a3 - r2) = y1:=f2
  have h6:sub32 a3 (rolI x1 25) = y1:=by rw [q2];exact f2
  obtain ⟨a4,h7⟩:∃ v,xorI .u32 z1 y1 = v:=⟨_,rfl⟩
  obtain ⟨r3,q3⟩:∃ v,rolI y1 16 = v:=⟨_,rfl⟩
  have e7:=turn_at (by omega) q3 (kk:=16) rfl
  obtain ⟨z2,f3⟩:∃ v,sub32 a4 r3 = v:=⟨_,rfl⟩
  have d3:IntKind.u32.wrap (a4 - r3) = z2:=f3
  have h8:sub32 a4 (rolI y1 16) = z2:=by rw [q3];exact f3
  obtain ⟨a5,g1⟩:∃ v,xorI .u32 x1 z2 = v:=⟨_,rfl⟩
  obtain ⟨r4,q4⟩:∃ v,rolI z2 4 = v:=⟨_,rfl⟩
  have e9:=turn_at (by omega) q4 (kk:=4) rfl
  obtain ⟨x2,f4⟩:∃ v,sub32 a5 r4 = v:=⟨_,rfl⟩
  have d4:IntKind.u32.wrap (a5 - r4) = x2:=f4
  have g2:sub32 a5 (rolI z2 4) = x2:=by rw [q4];exact f4
  obtain ⟨a6,g3⟩:∃ v,xorI .u32 y1 x2 = v:=⟨_,rfl⟩
  obtain ⟨r5,q5⟩:∃ v,rolI x2 14 = v:=⟨_,rfl⟩
  have e11:=turn_at (by omega) q5 (kk:=14) rfl
  obtain ⟨y2,f5⟩:∃ v,sub32 a6 r5 = v:=⟨_,rfl⟩
  have d5:IntKind.u32.wrap (a6 - r5) = y2:=f5
  have g4:sub32 a6 (rolI x2 14) = y2:=by rw [q5];exact f5
  obtain ⟨a7,g5⟩:∃ v,xorI .u32 z2 y2 = v:=⟨_,rfl⟩
  obtain ⟨r6,q6⟩:∃ v,rolI y2 24 = v:=⟨_,rfl⟩
  have e13:=turn_at (by omega) q6 (kk:=24) rfl
  obtain ⟨z3,f6⟩:∃ v,sub32 a7 r6 = v:=⟨_,rfl⟩
  have d6:IntKind.u32.wrap (a7 - r6) = z3:=f6
  have g6:sub32 a7 (rolI y2 24) = z3:=by rw [q6];exact f6
  have hn:=fin_at h1 h2 h3 h4 h5 h6 h7 h8 g1 g2 g3 g4 g5 g6
  clear g6 g4 g2 h8 h6 h4 h2 f0 q0 f1 q1 f2 q2 f3 q3 f4 q4 f5 q5 f6 q6
  rw [lookR_end (by omega) (by omega) (x:=x2) (y:=y2) (z:=z3) (by rw [ha];exact hn)] at hR
  subst hR
  clear ha hn
  generalize hjj:s.l.length - at_ = j at *
  simp [k0,k3,k4,k5,k6,hsub,h12',outT,hp64,w0,w4,w8,c0,c4,c8,i4,i8,h1,e1,d0,h3,e3,d1,h5,e5,d2,h7,e7,d3,g1,e9,d4,g3,e11,d5,g5,e13,d6]
end Go.Ev.S
namespace Go.Proofs
open Go.Shelf
def Tryz.lays169_ren:Go.Shelf.Ren:=⟨fun | 169=>47 | n=>n,fun | 70=>76 | 9=>9 | 0=>0 | 72=>78 | 37=>31 | 127=>121 | 3=>3 | 5=>5 | n=>n,fun | n=>n⟩
theorem Tryz.lays169:Go.Proofs.Lays.n169 Tryz.prog Tryz.lays169_ren:={
 mixed:=by kernel_rfl
 f169:=Tryz.func47.trans (congrArg some (by kernel_rfl))
 t0:=Tryz.underlying0
 a0:=Tryz.isAgg0
 z0:=Tryz.sizeOf0
 v0:=Tryz.zeroValue0
 t3:=Tryz.underlying3
 a3:=Tryz.isAgg3
 z3:=Tryz.sizeOf3
 v3:=Tryz.zeroValue3
 t9:=Tryz.underlying9
 a9:=Tryz.isAgg9
 z9:=Tryz.sizeOf9
 v9:=Tryz.zeroValue9
 t37:=Tryz.underlying31
 a37:=Tryz.isAgg31
 z37:=Tryz.sizeOf31
 v37:=Tryz.zeroValue31
 t70:=Tryz.underlying76
 a70:=Tryz.isAgg76
 z70:=Tryz.sizeOf76
 v70:=Tryz.zeroValue76
 t72:=Tryz.underlying78
 a72:=Tryz.isAgg78
 z72:=Tryz.sizeOf78
 v72:=Tryz.zeroValue78
 t127:=Tryz.underlying121
 a127:=Tryz.isAgg121
 z127:=Tryz.sizeOf121
 v127:=Tryz.zeroValue121 }
theorem Tryz.Builder_Extra_169:Builder.Extra Tryz.prog Tryz.lays169_ren:={
 sizeBuilder:=by kernel_rfl
 liesBuilder:=by kernel_rfl
 t5:=Tryz.underlying5
 a5:=Tryz.isAgg5
 z5:=Tryz.sizeOf5
 v5:=Tryz.zeroValue5
 infoByte:=by kernel_rfl
 cellsByte:=by kernel_rfl
 sizeByte:=by kernel_rfl
 neB5:=by decide }
def Tryz.lays129_ren:Go.Shelf.Ren:=⟨fun | 129=>156 | n=>n,fun | 53=>24 | 3=>3 | 4=>4 | 46=>114 | 5=>5 | 9=>9 | n=>n,fun | n=>n⟩
theorem Tryz.lays129:Go.Proofs.Lays.n129 Tryz.prog Tryz.lays129_ren:={
 mixed:=by kernel_rfl
 f129:=Tryz.func156.trans (congrArg some (by kernel_rfl))
 t3:=Tryz.underlying3
 a3:=Tryz.isAgg3
 z3:=Tryz.sizeOf3
 v3:=Tryz.zeroValue3
 t4:=Tryz.underlying4
 a4:=Tryz.isAgg4
 z4:=Tryz.sizeOf4
 v4:=Tryz.zeroValue4
 t5:=Tryz.underlying5
 a5:=Tryz.isAgg5
 z5:=Tryz.sizeOf5
 v5:=Tryz.zeroValue5
 t9:=Tryz.underlying9
 a9:=Tryz.isAgg9
 z9:=Tryz.sizeOf9
 v9:=Tryz.zeroValue9
 t46:=Tryz.underlying114
 a46:=Tryz.isAgg114
 z46:=Tryz.sizeOf114
 v46:=Tryz.zeroValue114
 t53:=Tryz.underlying24
 a53:=Tryz.isAgg24
 z53:=Tryz.sizeOf24
 v53:=Tryz.zeroValue24 }
def Tryz.lays283_ren:Go.Shelf.Ren:=⟨fun | 283=>129 | n=>n,fun | 3=>3 | 9=>9 | 4=>4 | n=>n,fun | n=>n⟩
theorem Tryz.lays283:Go.Proofs.Lays.n283 Tryz.prog Tryz.lays283_ren:={
 mixed:=by kernel_rfl
 f283:=Tryz.func129.trans (congrArg some (by kernel_rfl))
 t3:=Tryz.underlying3
 a3:=Tryz.isAgg3
 z3:=Tryz.sizeOf3
 v3:=Tryz.zeroValue3
 t4:=Tryz.underlying4
 a4:=Tryz.isAgg4
 z4:=Tryz.sizeOf4
 v4:=Tryz.zeroValue4
 t9:=Tryz.underlying9
 a9:=Tryz.isAgg9
 z9:=Tryz.sizeOf9
 v9:=Tryz.zeroValue9 }
def Tryz.laysM316_ren:Go.Shelf.Ren:=⟨fun | 316=>168 | n=>n,fun | 9=>9 | 3=>3 | 4=>4 | 37=>31 | 0=>0 | 127=>121 | 5=>5 | n=>n,fun | n=>n⟩
theorem Tryz.laysM316:Go.Proofs.LaysM.n316 Tryz.prog Tryz.laysM316_ren:={
 mixed:=by kernel_rfl
 f316:=Tryz.func168.trans (congrArg some (by kernel_rfl))
 t0:=Tryz.underlying0
 a0:=Tryz.isAgg0
 z0:=Tryz.sizeOf0
 v0:=Tryz.zeroValue0
 t3:=Tryz.underlying3
 a3:=Tryz.isAgg3
 z3:=Tryz.sizeOf3
 v3:=Tryz.zeroValue3
 t4:=Tryz.underlying4
 a4:=Tryz.isAgg4
 z4:=Tryz.sizeOf4
 v4:=Tryz.zeroValue4
 t9:=Tryz.underlying9
 a9:=Tryz.isAgg9
 z9:=Tryz.sizeOf9
 v9:=Tryz.zeroValue9
 t37:=Tryz.underlying31
 a37:=Tryz.isAgg31
 z37:=Tryz.sizeOf31
 v37:=Tryz.zeroValue31
 t127:=Tryz.underlying121
 a127:=Tryz.isAgg121
 z127:=Tryz.sizeOf121
 v127:=Tryz.zeroValue121
 t5:=Tryz.underlying5
 a5:=Tryz.isAgg5
 z5:=Tryz.sizeOf5
 v5:=Tryz.zeroValue5
 i0:=by kernel_rfl
 i3:=by kernel_rfl
 i4:=by kernel_rfl
 i5:=by kernel_rfl
 i9:=by kernel_rfl
 i37:=by kernel_rfl
 i127:=by kernel_rfl }
def Tryz.lays219_ren:Go.Shelf.Ren:=⟨fun | 219=>136 | 217=>161 | 225=>152 | 224=>162 | 267=>163 | 266=>146 | 314=>176 | n=>n,fun | 9=>9 | 3=>3 | 4=>4 | 5=>5 | 46=>114 | 146=>208 | 51=>65 | n=>n,fun | 1=>0 | n=>n⟩
theorem Tryz.lays219:Go.Proofs.Lays.n219 Tryz.prog Tryz.lays219_ren:={
 mixed:=by kernel_rfl
 f217:=Tryz.func161.trans (congrArg some (by kernel_rfl))
 f219:=Tryz.func136.trans (congrArg some (by kernel_rfl))
 f224:=Tryz.func162.trans (congrArg some (by kernel_rfl))
 f225:=Tryz.func152.trans (congrArg some (by kernel_rfl))
 f266:=Tryz.func146.trans (congrArg some (by kernel_rfl))
 f267:=Tryz.func163.trans (congrArg some (by kernel_rfl))
 f314:=Tryz.func176.trans (congrArg some (by kernel_rfl))
 t3:=Tryz.underlying3
 a3:=Tryz.isAgg3
 z3:=Tryz.sizeOf3
 v3:=Tryz.zeroValue3
 t4:=Tryz.underlying4
 a4:=Tryz.isAgg4
 z4:=Tryz.sizeOf4
 v4:=Tryz.zeroValue4
 t5:=Tryz.underlying5
 a5:=Tryz.isAgg5
 z5:=Tryz.sizeOf5
 v5:=Tryz.zeroValue5
 t9:=Tryz.underlying9
 a9:=Tryz.isAgg9
 z9:=Tryz.sizeOf9
 v9:=Tryz.zeroValue9
 t46:=Tryz.underlying114
 a46:=Tryz.isAgg114
 z46:=Tryz.sizeOf114
 v46:=Tryz.zeroValue114
 t51:=Tryz.underlying65
 a51:=Tryz.isAgg65
 z51:=Tryz.sizeOf65
 v51:=Tryz.zeroValue65
 t146:=Tryz.underlying208
 a146:=Tryz.isAgg208
 z146:=Tryz.sizeOf208
 v146:=Tryz.zeroValue208
 g1:=by kernel_rfl }
def Tryz.lays185_ren:Go.Shelf.Ren:=⟨fun | 185=>137 | 187=>164 | 115=>86 | 253=>165 | 224=>162 | 254=>166 | 255=>177 | 291=>178 | n=>n,fun | 37=>31 | 3=>3 | 4=>4 | 0=>0 | 5=>5 | 46=>114 | 9=>9 | 146=>208 | 51=>65 | n=>n,fun | 1=>0 | n=>n⟩
theorem Tryz.lays185:Go.Proofs.Lays.n185 Tryz.prog Tryz.lays185_ren:={
 mixed:=by kernel_rfl
 f115:=Tryz.func86.trans (congrArg some (by kernel_rfl))
 f185:=Tryz.func137.trans (congrArg some (by kernel_rfl))
 f187:=Tryz.func164.trans (congrArg some (by kernel_rfl))
 f224:=Tryz.func162.trans (congrArg some (by kernel_rfl))
 f253:=Tryz.func165.trans (congrArg some (by kernel_rfl))
 f254:=Tryz.func166.trans (congrArg some (by kernel_rfl))
 f255:=Tryz.func177.trans (congrArg some (by kernel_rfl))
 f291:=Tryz.func178.trans (congrArg some (by kernel_rfl))
 t0:=Tryz.underlying0
 a0:=Tryz.isAgg0
 z0:=Tryz.sizeOf0
 v0:=Tryz.zeroValue0
 t3:=Tryz.underlying3
 a3:=Tryz.isAgg3
 z3:=Tryz.sizeOf3
 v3:=Tryz.zeroValue3
 t4:=Tryz.underlying4
 a4:=Tryz.isAgg4
 z4:=Tryz.sizeOf4
 v4:=Tryz.zeroValue4
 t5:=Tryz.underlying5
 a5:=Tryz.isAgg5
 z5:=Tryz.sizeOf5
 v5:=Tryz.zeroValue5
 t9:=Tryz.underlying9
 a9:=Tryz.isAgg9
 z9:=Tryz.sizeOf9
 v9:=Tryz.zeroValue9
 t37:=Tryz.underlying31
 a37:=Tryz.isAgg31
 z37:=Tryz.sizeOf31
 v37:=Tryz.zeroValue31
 t46:=Tryz.underlying114
 a46:=Tryz.isAgg114
 z46:=Tryz.sizeOf114
 v46:=Tryz.zeroValue114
 t51:=Tryz.underlying65
 a51:=Tryz.isAgg65
 z51:=Tryz.sizeOf65
 v51:=Tryz.zeroValue65
 t146:=Tryz.underlying208
 a146:=Tryz.isAgg208
 z146:=Tryz.sizeOf208
 v146:=Tryz.zeroValue208
 g1:=by kernel_rfl }
def Tryz.laysM185_ren:Go.Shelf.Ren:=⟨fun | 185=>137 | 187=>164 | 115=>86 | 253=>165 | 224=>162 | 254=>166 | 255=>177 | 291=>178 | n=>n,fun | 37=>31 | 3=>3 | 4=>4 | 0=>0 | 5=>5 | 46=>114 | 9=>9 | 146=>208 | 51=>65 | n=>n,fun | 1=>0 | n=>n⟩
theorem Tryz.laysM185:Go.Proofs.LaysM.n185 Tryz.prog Tryz.laysM185_ren:={
 mixed:=by kernel_rfl
 f115:=Tryz.func86.trans (congrArg some (by kernel_rfl))
 f185:=Tryz.func137.trans (congrArg some (by kernel_rfl))
 f187:=Tryz.func164.trans (congrArg some (by kernel_rfl))
 f224:=Tryz.func162.trans (congrArg some (by kernel_rfl))
 f253:=Tryz.func165.trans (congrArg some (by kernel_rfl))
 f254:=Tryz.func166.trans (congrArg some (by kernel_rfl))
 f255:=Tryz.func177.trans (congrArg some (by kernel_rfl))
 f291:=Tryz.func178.trans (congrArg some (by kernel_rfl))
 t0:=Tryz.underlying0
 a0:=Tryz.isAgg0
 z0:=Tryz.sizeOf0
 v0:=Tryz.zeroValue0
 t3:=Tryz.underlying3
 a3:=Tryz.isAgg3
 z3:=Tryz.sizeOf3
 v3:=Tryz.zeroValue3
 t4:=Tryz.underlying4
 a4:=Tryz.isAgg4
 z4:=Tryz.sizeOf4
 v4:=Tryz.zeroValue4
 t5:=Tryz.underlying5
 a5:=Tryz.isAgg5
 z5:=Tryz.sizeOf5
 v5:=Tryz.zeroValue5
 t9:=Tryz.underlying9
 a9:=Tryz.isAgg9
 z9:=Tryz.sizeOf9
 v9:=Tryz.zeroValue9
 t37:=Tryz.underlying31
 a37:=Tryz.isAgg31
 z37:=Tryz.sizeOf31
 v37:=Tryz.zeroValue31
 t46:=Tryz.underlying114
 a46:=Tryz.isAgg114
 z46:=Tryz.sizeOf114
 v46:=Tryz.zeroValue114
 t51:=Tryz.underlying65
 a51:=Tryz.isAgg65
 z51:=Tryz.sizeOf65
 v51:=Tryz.zeroValue65
 t146:=Tryz.underlying208
 a146:=Tryz.isAgg208
 z146:=Tryz.sizeOf208
 v146:=Tryz.zeroValue208
 g1:=by kernel_rfl
 i0:=by kernel_rfl
 i3:=by kernel_rfl
 i4:=by kernel_rfl
 i5:=by kernel_rfl
 i9:=by kernel_rfl
 i37:=by kernel_rfl
 i46:=by kernel_rfl
 i51:=by kernel_rfl
 i146:=by kernel_rfl
 m1:=by kernel_rfl
 s1_3:=fun w h=>Go.Proofs.cell_of_shapedOpen_int (zero:= #[.int .i64 0]) (t:=3) h (of_decide_eq_true (by kernel_rfl)) (by kernel_rfl) rfl (by kernel_rfl) (by kernel_rfl) Tryz.underlying3 }
end Go.Proofs
namespace Go.Proofs
open Go.Shelf
def Tryz.layD_ren:Go.Shelf.Ren:=⟨fun | 32=>151 | 49=>173 | n=>n,fun | 0=>0 | 3=>3 | 4=>4 | 5=>5 | 21=>21 | 25=>114 | 30=>31 | 33=>189 | 66=>214 | 68=>216 | 69=>217 | n=>n,fun | 2=>4 | 3=>5 | n=>n⟩
set_option maxRecDepth 100000 in
theorem Tryz.layD:Lays7.n32 Tryz.prog Tryz.layD_ren:={
 mixed:=by kernel_rfl
 f32:=Tryz.func151.trans (congrArg some (by kernel_rfl))
 f49:=Tryz.func173.trans (congrArg some (by kernel_rfl))
 t0:=Tryz.underlying0
 a0:=Tryz.isAgg0
 z0:=Tryz.sizeOf0
 v0:=Tryz.zeroValue0
 i0:=by kernel_rfl
 t3:=Tryz.underlying3
 a3:=Tryz.isAgg3
 z3:=Tryz.sizeOf3
 v3:=Tryz.zeroValue3
 i3:=by kernel_rfl
 t4:=Tryz.underlying4
 a4:=Tryz.isAgg4
 z4:=Tryz.sizeOf4
 v4:=Tryz.zeroValue4
 i4:=by kernel_rfl
 t5:=Tryz.underlying5
 a5:=Tryz.isAgg5
 z5:=Tryz.sizeOf5
 v5:=Tryz.zeroValue5
 i5:=by kernel_rfl
 t21:=Tryz.underlying21
 a21:=Tryz.isAgg21
 z21:=Tryz.sizeOf21
 v21:=Tryz.zeroValue21
 i21:=by kernel_rfl
 t25:=Tryz.underlying114
 a25:=Tryz.isAgg114
 z25:=Tryz.sizeOf114
 v25:=Tryz.zeroValue114
 i25:=by kernel_rfl
 t30:=Tryz.underlying31
 a30:=Tryz.isAgg31
 z30:=Tryz.sizeOf31
 v30:=Tryz.zeroValue31
 i30:=by kernel_rfl
 t33:=Tryz.underlying189
 a33:=Tryz.isAgg189
 z33:=Tryz.sizeOf189
 v33:=Tryz.zeroValue189
 i33:=by kernel_rfl
 t66:=Tryz.underlying214
 a66:=Tryz.isAgg214
 z66:=Tryz.sizeOf214
 t68:=Tryz.underlying216
 a68:=Tryz.isAgg216
 z68:=Tryz.sizeOf216
 v68:=Tryz.zeroValue216
 i68:=by kernel_rfl
 t69:=Tryz.underlying217
 a69:=Tryz.isAgg217
 z69:=Tryz.sizeOf217
 v69:=Tryz.zeroValue217
 i69:=by kernel_rfl
 g2:=by kernel_rfl
 g3:=by kernel_rfl }
end Go.Proofs
namespace Go.Ev.S
open Go Go.Proofs Go.Ev
theorem ok_0 [MaxL] [TxtC]:okRange cx 0 40 = true:=by kernel_rfl
theorem ok_40 [MaxL] [TxtC]:okRange cx 40 40 = true:=by kernel_rfl
theorem ok_80 [MaxL] [TxtC]:okRange cx 80 40 = true:=by kernel_rfl
theorem ok_120 [MaxL] [TxtC]:okRange cx 120 40 = true:=by kernel_rfl
theorem ok_160 [MaxL] [TxtC]:okRange cx 160 40 = true:=by kernel_rfl
theorem ok_200 [MaxL] [TxtC]:okRange cx 200 12 = true:=by kernel_rfl
theorem fsize:Tryz.prog.funcs.size = 212:=by kernel_rfl
theorem all_ok [MaxL] [TxtC] (f:Nat) (h:f < 212):okOne cx f = true:=by
 rcases Nat.lt_or_ge f 40 with h0 | h0
 ·exact okRange_get ok_0 (by omega) (by omega)
 rcases Nat.lt_or_ge f 80 with h1 | h1
 ·exact okRange_get ok_40 (by omega) (by omega)
 rcases Nat.lt_or_ge f 120 with h2 | h2
 ·exact okRange_get ok_80 (by omega) (by omega)
 rcases Nat.lt_or_ge f 160 with h3 | h3
 ·exact okRange_get ok_120 (by omega) (by omega)
 rcases Nat.lt_or_ge f 200 with h4 | h4
 ·exact okRange_get ok_160 (by omega) (by omega)
 exact okRange_get ok_200 (by omega) (by omega)
set_option maxRecDepth 100000 in
theorem good [MaxL] [TxtC] (hT:TxtRun):Good cx where
 mixed:=by kernel_rfl
 okc f fn c hf hc hb:=(okOne_get (all_ok f (by rw [← fsize];exact (Array.getElem?_eq_some_iff.1 hf).1)) hf).2 c hc hb
 ng f fn hf:=(okOne_get (all_ok f (by rw [← fsize];exact (Array.getElem?_eq_some_iff.1 hf).1)) hf).1
 ext f fn args d hf hn h ok w ι H vs hs hv:=by
  by_cases h125:f = 125
  ·subst h125
   rw [ex125] at h
   have hff:=Tryz.func125
   rw [show cx.P.funcs[125]? = Tryz.prog.funcs[125]? from rfl,hff] at hf
   injection hf with hf
   subst hf
   exact cmpExt_run (P:=cx.P) hff rfl (by kernel_rfl) (by kernel_rfl) (by kernel_rfl) h hv
  by_cases h146:f = 146
  ·subst h146
   rw [ex146] at h
   have hff:=Tryz.func146
   rw [show cx.P.funcs[146]? = Tryz.prog.funcs[146]? from rfl,hff] at hf
   injection hf with hf
   subst hf
   exact idxBExt_run (P:=cx.P) hff rfl (by kernel_rfl) (by kernel_rfl) (by kernel_rfl) h hv
  ·have:cx.ext f args = none:=by
    show extT f args = none
    unfold extT
    split
    ·exact absurd rfl h125
    ·exact absurd rfl h146
    ·rfl
   rw [this] at h
   cases h
 con f args H r H' h ok w ι vs hs hv:=by
  by_cases h136:f = 136
  ·subst h136
   rw [co136] at h
   exact conIdx_run (X:=cx) (m:=MaxL.m) Tryz.lays219 rfl h hs hv
  by_cases h137:f = 137
  ·subst h137
   rw [co137] at h
   exact conBIdx_run (X:=cx) (m:=MaxL.m) Tryz.lays185 rfl h hs hv
  by_cases h168:f = 168
  ·subst h168
   rw [co168] at h
   exact conClone_run (X:=cx) Tryz.laysM316 h hs hv
  by_cases h156:f = 156
  ·subst h156
   rw [co156] at h
   exact conLen64_run (X:=cx) Tryz.lays129 h hs hv
  by_cases h129:f = 129
  ·subst h129
   rw [co129] at h
   exact conSmall_run (X:=cx) Tryz.lays283 h hs hv
  by_cases h14:f = 14
  ·subst h14
   rw [co14] at h
   exact hT (f:=14) h hs hv
  by_cases h120:f = 120
  ·subst h120
   rw [co120] at h
   exact hT (f:=120) h hs hv
  by_cases h151:f = 151
  ·subst h151
   rw [co151] at h
   exact conDec_run (X:=cx) Tryz.layD rfl rfl h hs hv
  by_cases h152:f = 152
  ·subst h152
   rw [co152] at h
   exact conIS_run (m:=MaxL.m) (g:=0) Tryz.func152 rfl (by kernel_rfl) (by kernel_rfl) (by kernel_rfl) (by kernel_rfl) rfl h hs hv
  ·have:cx.con f args H = none:=by
    show conT f args H = none
    unfold conT
    split
    ·exact absurd rfl h136
    ·exact absurd rfl h137
    ·exact absurd rfl h168
    ·exact absurd rfl h156
    ·exact absurd rfl h129
    ·exact absurd rfl h14
    ·exact absurd rfl h120
    ·exact absurd rfl h151
    ·exact absurd rfl h152
    ·rfl
   rw [this] at h
   cases h
end Go.Ev.S
namespace Go.Ev.S
open Go Go.Proofs Go.Ev
theorem globs [MaxL] [TxtC] {W:World} (h:laidMet Tryz.prog YthhekddmmakfdaaGreatDoor.Rows.wireSaysRow.laid W) (hm0:W.cell? ⟨0,0,none⟩ = some (.int .i64 MaxL.m)):∀ g cs,cx.glob g = some cs→Rep (· < W.heap.size) W iota0 [] (.vptr cs) (.pointer (some ⟨g,0,none⟩)):=by
 unfold YthhekddmmakfdaaGreatDoor.Rows.wireSaysRow at h
 have hu8:Lib.Utf8Tabs 4 5 W:=by
  obtain ⟨ps0,hl0,_⟩:=h
  have x3:=Lib.LaidVars_reads hl0 _ _ (List.mem_of_getElem? (i:=6) rfl)
  have x4:=Lib.LaidVars_reads hl0 _ _ (List.mem_of_getElem? (i:=3) rfl)
  have e3:YthhekddmmakfdaaGreatDoor.Rows.laid_unicode_utf8_first = Lib.firstData:=by kernel_rfl
  have e4:YthhekddmmakfdaaGreatDoor.Rows.laid_unicode_utf8_acceptRanges = Lib.acceptData:=by kernel_rfl
  rw [e3] at x3
  rw [e4] at x4
  exact utf8Tabs_of_readsT (ρ:=(⟨fun n=>n,fun | 5=>5 | 119=>214 | 138=>216 | 139=>217 | n=>n,fun | 3=>4 | 4=>5 | n=>n⟩:Go.Shelf.Ren)) ⟨Tryz.underlying5,Tryz.underlying214,Tryz.underlying216,Tryz.underlying217⟩ ⟨by kernel_rfl,by kernel_rfl,by kernel_rfl,by kernel_rfl,by kernel_rfl,by kernel_rfl,by kernel_rfl⟩ x3 x4
 have tu8:=rep_u8 hu8
 have t6:=rep_tab (g:=6) (zs:=gz6) (Lib.tabIs_of_head (g:=6) (t:=218) (e:=5) (n:=32) (k:=.u8) (by kernel_rfl) (by kernel_rfl) (by kernel_rfl) (by kernel_rfl) (by kernel_rfl) (by kernel_rfl) h) (by kernel_rfl)
 replace h:=h.tail
 have t7:=rep_tab (g:=7) (zs:=gz7) (Lib.tabIs_of_head (g:=7) (t:=219) (e:=5) (n:=64) (k:=.u8) (by kernel_rfl) (by kernel_rfl) (by kernel_rfl) (by kernel_rfl) (by kernel_rfl) (by kernel_rfl) h) (by kernel_rfl)
 replace h:=h.tail
 have t1:=rep_tab (g:=1) (zs:=gz1) (Lib.tabIs_of_head (g:=1) (t:=194) (e:=24) (n:=20) (k:=.u64) (by kernel_rfl) (by kernel_rfl) (by kernel_rfl) (by kernel_rfl) (by kernel_rfl) (by kernel_rfl) h) (by kernel_rfl)
 replace h:=h.tail
 replace h:=h.tail
 have t3 := rep_err (g := 3) (text := gs3) (by kernel_rfl) (laid_sentinel (g := 3) (ti := 85) (tp := 211) (te := 213) (ts := 9) h (by kernel_rfl) (by kernel_rfl) Tryz.underlying85 (err_row (base := "errors.errorString") (by decide) (by kernel_rfl) (by kernel_rfl) (by decide)) Tryz.underlying211 Tryz.underlying213 rfl rfl (by kernel_rfl) (by kernel_rfl) (by kernel_rfl))
 replace h:=h.tail
 have t2 := rep_err (g := 2) (text := gs2) (by kernel_rfl) (laid_sentinel (g := 2) (ti := 85) (tp := 211) (te := 213) (ts := 9) h (by kernel_rfl) (by kernel_rfl) Tryz.underlying85 (err_row (base := "errors.errorString") (by decide) (by kernel_rfl) (by kernel_rfl) (by decide)) Tryz.underlying211 Tryz.underlying213 rfl rfl (by kernel_rfl) (by kernel_rfl) (by kernel_rfl))
 replace h:=h.tail
 intro g cs hg
 have hgl:globT g = some cs:=hg
 unfold globT at hgl
 split at hgl
 ·cases hgl;exact t1
 ·cases hgl;exact t2
 ·cases hgl;exact t3
 ·cases hgl;exact t6
 ·cases hgl;exact t7
 ·cases hgl;exact rep_one hm0
 ·cases hgl;exact tu8.1
 ·cases hgl;exact tu8.2
 ·cases hgl
end Go.Ev.S
namespace Go.Ev.S
open Go Go.Proofs Go.Ev
theorem hexs_take {l:List UInt8} {k:Nat} (h:k < l.length):hexs (l.take (k+1)) = hexs (l.take k) ++ [hexc (l[k].toNat / 16),hexc (l[k].toNat % 16)]:=by
 rw [List.take_succ_eq_append_getElem h,hexs_append]
 rfl
set_option maxHeartbeats 2000000 in
theorem hex_ev [MaxL] [TxtC] (l:List UInt8) (hl:l.length = 16):call cx 42 [.agg (ofBytes l)] [] = some (.str (hexs l),[]):=by
 refine call_run Tryz.func42 rfl ⟨rfl,rfl⟩ ?_
 have ht:List.take 16 (ofBytes l) = ofBytes l:=List.take_of_length_le (by simp;omega)
 have hl2:16≤l.length:=by omega
 simp [Tryz.f42,ht,hl2]
 refine Run.loopThen (fun (k:Nat) e H'=>k≤16∧look e 6 = some (.agg (ofBytes l))∧look e 7 = some (.int .i64 k) ∧
   ((k = 0∧look e 3 = some (.vsl true [] 0)∧H' = [some (ofBytes l)]) ∨
   (∃ w,look e 3 = some (.osl 1 (hexs (l.take k)).length 0 (hexs (l.take k)).length 1)∧H' = [w,some (ofBytes (hexs (l.take k)))]) ∨
   (∃ w,look e 3 = some (.osl 0 (hexs (l.take k)).length 0 (hexs (l.take k)).length 1)∧H' = [some (ofBytes (hexs (l.take k))),w]))) (fun k=>16 - k) 0 ?_ ?_
 ·simp
 rintro k e H' ⟨hk,k6,k7,hH⟩
 by_cases hlt:k < 16
 ·have hlt':(k:Int) < 16:=by omega
  have hkl:k < l.length:=by omega
  have hw:IntKind.i64.wrap ((k:Int)+1) = ((k+1:Nat):Int):=by rw [wrap_i64] <;> omega
  have hat:=ofBytes_at hkl
  have hsn:=hexs_take hkl
  have hb:=l[k].toNat_lt
  have ha:=and15_u8 l[k]
  have hp4:(2:Int) ^ min 4 IntKind.u8.bits = 16:=by decide
  have hf:=fdiv16 l[k].toNat
  have d1:=digL_at (l[k].toNat / 16) (by omega)
  have d2:=digL_at (l[k].toNat % 16) (by omega)
  simp only [digL] at d1 d2
  have hget:(ofBytes l)[k]? = some (.int .u8 l[k].toNat):=by
   rw [List.getElem?_eq_getElem (by simpa using hkl),ofBytes_get]
  have hlen:(hexs (l.take k)).length = 2 * k:=by rw [hexs_len,List.length_take];omega
  generalize l[k] = b at *
  generalize hexc (b.toNat / 16) = c1 at *
  generalize hexc (b.toNat % 16) = c2 at *
  obtain ⟨m1,hm1⟩:∃ m,m = b.toNat / 16:=⟨_,rfl⟩
  obtain ⟨m2,hm2⟩:∃ m,m = b.toNat % 16:=⟨_,rfl⟩
  rw [← hm1] at hf d1
  rw [← hm2] at ha d2
  have hXl:(hexs (l.take (k+1))).length = (hexs (l.take k)).length+2:=by rw [hsn];simp
  have hap:ofBytes (hexs (l.take k)) ++ [.int .u8 c1.toNat,.int .u8 c2.toNat] = ofBytes (hexs (l.take (k+1))):=by rw [hsn];simp [ofBytes]
  have hmx:(hexs (l.take k)).length+2≤maxBytes:=Nat.le_trans (show _≤100 by omega) (by decide)
  rcases hH with ⟨rfl,k3,rfl⟩ | ⟨w,k3,rfl⟩ | ⟨w,k3,rfl⟩
  ·simp at hap hXl
   have hm2:2≤maxBytes:=by decide
   simp [k3,k6,k7,hget,ha,hp4,hf,d1,d2,hm2]
   exact ⟨1,by omega,by omega,by simp,by rw [hXl];simp [hexs],by rw [← hap];simp [hexs,ofBytes]⟩
  ·generalize hexs (l.take k) = X at *
   simp [k3,k6,k7,hlt',hw,hget,ha,hp4,hf,d1,d2,hap,hmx]
   exact ⟨k+1,by omega,by omega,by simp,by rw [hXl],rfl⟩
  ·generalize hexs (l.take k) = X at *
   simp [k3,k6,k7,hlt',hw,hget,ha,hp4,hf,d1,d2,hap,hmx]
   exact ⟨k+1,by omega,by omega,by simp,by rw [hXl],rfl⟩
 ·have hlt':¬ (k:Int) < 16:=by omega
  have hke:k = 16:=by omega
  subst hke
  have htk:l.take 16 = l:=List.take_of_length_le (by omega)
  rw [htk] at hH
  rcases hH with ⟨h,_⟩ | ⟨w,k3,rfl⟩ | ⟨w,k3,rfl⟩
  ·omega
  ·simp [k3,k6,k7]
  ·simp [k3,k6,k7]
end Go.Ev.S
namespace Go.Ev.S
open Go Go.Proofs Go.Ev
theorem idx_cases (sep:List UInt8):∀ (s:List UInt8) (n:Nat),(∃ i:Nat,idxN sep s n = ((n+i:Nat):Int)∧i+sep.length≤s.length∧sep.isPrefixOf (s.drop i) = true)∨idxN sep s n = -1
 | [],n=>by
  unfold idxN
  cases sep with
  | nil=>exact .inl ⟨0,by simp⟩
  | cons a l=>exact .inr (by simp)
 | b :: l,n=>by
  unfold idxN
  by_cases h:sep.isPrefixOf (b :: l) = true
  ·rw [if_pos h]
   refine .inl ⟨0,by simp,?_,by simpa using h⟩
   have:=List.IsPrefix.length_le (List.isPrefixOf_iff_prefix.1 h)
   simpa using this
  ·rw [if_neg h]
   rcases idx_cases sep l (n+1) with ⟨i,h1,h2,h3⟩ | h1
   ·exact .inl ⟨i+1,by rw [h1];omega,by simp;omega,by simpa using h3⟩
   ·exact .inr h1
theorem index_ev [MaxL] [TxtC] (s sep:List UInt8) (hs:s.length < 4294967281):call cx 136 [.str s,.str sep] [] = some (.int .i64 (idxN sep s 0),[]):=by
 refine call_con ?_
 rw [co136,conIdx,if_pos hs]
end Go.Ev.S
namespace Go.Ev.S
open Go Go.Proofs Go.Ev
theorem idxb_ev [MaxL] [TxtC] (s:List UInt8) (c:UInt8):call cx 145 [.str s,.int .u8 c.toNat] [] = some (.int .i64 (idxB c s 0),[]):=by
 have h0:call cx 146 [.str s,.int .u8 c.toNat] [] = some (.int .i64 (idxB c s 0),[]):=by
  rw [call_ext (X:=cx) (f:=146) rfl Tryz.func146 rfl,ex146]
  simp [idxBExt]
 have h1:call cx 161 [.str s,.int .u8 c.toNat] [] = some (.int .i64 (idxB c s 0),[]):=by
  refine call_run Tryz.func161 rfl ⟨rfl,rfl⟩ ?_
  simp [Tryz.f161,h0]
 refine call_run Tryz.func145 rfl ⟨rfl,rfl⟩ ?_
 simp [Tryz.f145,h1]
theorem zero16_of:ofBytes zero16 = [.int .u8 0,.int .u8 0,.int .u8 0,.int .u8 0,.int .u8 0,.int .u8 0,.int .u8 0,.int .u8 0,.int .u8 0,.int .u8 0,.int .u8 0,.int .u8 0,.int .u8 0,.int .u8 0,.int .u8 0,.int .u8 0]:=rfl
theorem set_bytesC (st:List UInt8) (j:Nat) (c:UInt8) (h:j < st.length):setRange (ofBytes st) j [.int .u8 c.toNat] = ofBytes (st.set j c):=by
 unfold setRange ofBytes
 rw [List.set_eq_take_append_cons_drop,if_pos h]
 simp
set_option maxHeartbeats 2000000 in
theorem id_ev [MaxL] [TxtC] (s:List UInt8) (_:s.length < 1000000):call cx 119 [.str s] [] = some (.tup [.agg (ofBytes ((idP s).getD zero16)),.bool (idP s).isSome],[]):=by
 refine call_run Tryz.func119 rfl ⟨rfl,rfl⟩ ?_
 have z16:=zero16_of
 have z16l:zero16.length = 16:=rfl
 have z16d:List.drop 16 (ofBytes zero16) = []:=rfl
 by_cases h32:s.length = 32
 ·have h32':(s.length:Int) = 32:=by omega
  have hP:idP s = idGo s 0 zero16:=by unfold idP;rw [if_pos h32]
  rw [hP]
  simp [Tryz.f119,h32']
  rw [← z16]
  refine Run.loopThen (fun (q:Nat × List UInt8) e H'=>q.1≤32∧q.2.length = 16∧idGo (s.drop q.1) q.1 q.2 = idGo s 0 zero16∧H' = [some (ofBytes zero16),some (ofBytes q.2)]∧look e 0 = some (.str s)∧look e 2 = some (.optr 0 16 0)∧look e 4 = some (.optr 1 16 0) ∧
    look e 12 = some (.int .i64 32)∧look e 13 = some (.int .i64 (q.1:Nat))) (fun q=>32 - q.1) (0,zero16) ?_ ?_
  ·simp [zero16]
  rintro ⟨k,st⟩ e H' ⟨hk,hst,hgo,rfl,k0,k2,k4,k12,k13⟩
  simp only at hk hst hgo k13
  by_cases hlt:k < 32
  ·have hlt':(k:Int) < 32:=by omega
   have hks:k < s.length:=by omega
   rw [List.drop_eq_getElem_cons hks,idGo] at hgo
   have hsk:s[k]? = some s[k]:=List.getElem?_eq_getElem hks
   have hix:=idxb_ev digL s[k]
   have hir:=idx_range s[k] digL 0
   generalize s[k] = c at *
   simp only [digL] at hix
   have hw:IntKind.i64.wrap ((k:Int)+1) = ((k+1:Nat):Int):=by rw [wrap_i64] <;> omega
   rcases hir with hn | ⟨m,hm1,hm2⟩
   ·rw [hn,if_pos (by omega)] at hgo
    simp only [digL] at hn
    rw [hn] at hix
    rw [← hgo]
    simp [k0,k2,k4,k12,k13,hlt',hsk,hix,← z16,z16l,z16d]
   ·rw [Nat.zero_add] at hm2
    have hm16:m < 16:=hm1
    rw [hm2,if_neg (by omega)] at hgo
    simp only [digL] at hm2
    rw [hm2] at hix
    have hmn:¬ (m:Int) < 0:=by omega
    have hmt:((m:Nat):Int).toNat = m:=by omega
    rw [hmt] at hgo
    have hq:(k:Int).tdiv 2 = ((k / 2:Nat):Int):=(Int.ofNat_tdiv k 2).symm
    have hq2:IntKind.i64.wrap ((k:Int) / 2) = ((k / 2:Nat):Int):=by rw [wrap_i64] <;> omega
    obtain ⟨j,hj⟩:∃ j,j = k / 2:=⟨_,rfl⟩
    rw [← hj] at hgo hq hq2
    have hj16:j < st.length:=by omega
    have hj16':(j:Int) < 16:=by omega
    have hat:=ofBytes_at hj16
    have hgd:st.getD j 0 = st[j]:=by rw [List.getD,List.getElem?_eq_getElem hj16];rfl
    rw [hgd] at hgo
    have hwm:IntKind.u8.wrap (m:Int) = (m:Int):=by rw [wrap_u8] <;> omega
    have hor:=shl4_u8 st[j] m hm16
    have hset:=set_bytesC st j (st[j] <<< 4 ||| UInt8.ofNat m) hj16
    generalize st[j] = b at *
    generalize hx:b <<< 4 ||| UInt8.ofNat m = x at *
    have hj1:j+1≤st.length:=by omega
    have hj15:j≤15:=by omega
    have hp8:(2:Int) ^ min 4 IntKind.u8.bits = 16:=by decide
    have hsl:(st.set j x).length = 16:=by simpa using hst
    generalize st.set j x = st' at *
    simp [-setRange_eq,k0,k2,k4,k12,k13,hlt',hsk,hix,hmn,hq2,hj16',hat,hwm,hor,hp8,hset,hst,hj15,hw]
    exact ⟨k+1,by omega,by omega,st',hsl,hgo,rfl,by simp⟩
  ·have hlt':¬ (k:Int) < 32:=by omega
   rw [List.drop_eq_nil_of_le (by omega),idGo] at hgo
   rw [← hgo]
   have hl16:16≤st.length:=by omega
   have ht:List.take 16 (ofBytes st) = ofBytes st:=List.take_of_length_le (by simp;omega)
   simp [k0,k2,k4,k12,k13,hlt',ht,hst,z16l,z16d]
 ·have h32':¬ (s.length:Int) = 32:=by omega
  have hP:idP s = none:=by unfold idP;rw [if_neg h32]
  rw [hP]
  simp [Tryz.f119,h32',← z16,z16l,z16d]
end Go.Ev.S
namespace Go.Ev
open Go Go.Proofs
structure Rq where
 path:List UInt8
 epoch:Int
 number:Int
 body:Sl UInt8
instance:Enc Rq:=⟨4,fun m=>(.str m.path :: (.int .u64 m.epoch :: (.int .u64 m.number :: ((.vsl m.body.nil (ofBytes m.body.l) m.body.l.length) :: ([]:List D))))),fun m=>by simp,fun m=>by simp [idFree]⟩
theorem Rq.cells (m:Rq):Enc.cells m = (.str m.path :: (.int .u64 m.epoch :: (.int .u64 m.number :: ((.vsl m.body.nil (ofBytes m.body.l) m.body.l.length) :: ([]:List D))))):=rfl
@[simp] theorem Rq.size:Enc.size Rq = 4:=rfl
@[simp] theorem Rq.cl (a:Rq):(Enc.cells a).length = 4:=Enc.len a
@[simp] theorem Rq.ct (a:Rq) (r:List D):(Enc.cells a ++ r).take 4 = Enc.cells a:=cells_take rfl a r
@[simp] theorem Rq.ct' (a:Rq):(Enc.cells a).take 4 = Enc.cells a:=cells_take' rfl a
@[simp] theorem Rq.cd (a:Rq) (r:List D):(Enc.cells a ++ r).drop 4 = r:=cells_drop rfl a r
@[simp] theorem Rq.el (l:List Rq):(encs l).length = l.length * 4:=encs_len' rfl l
@[simp] theorem Rq.ed (l:List Rq) (i:Nat):(encs l).drop (i * 4) = encs (l.drop i):=encs_drop rfl l i
@[simp] theorem Rq.et (l:List Rq) (i:Nat):(encs l).take (i * 4) = encs (l.take i):=encs_take rfl l i
@[simp high] theorem Rq.ea {l:List Rq} {i:Nat} (h:i < l.length):(encs l).drop (i * 4) = Enc.cells l[i] ++ encs (l.drop (i+1)):=encs_at rfl h
@[simp high] theorem Rq.es (m:Rq) {l:List Rq} {j:Nat} (h:j < l.length):setRange (encs l) (j * 4) (Enc.cells m) = encs (l.set j m):=encs_set rfl m l h
@[simp] theorem Rq.g0 (m:Rq) (h):(Enc.cells m)[0]'h = .str m.path:=by simp [Rq.cells]
@[simp] theorem Rq.q0 (m:Rq):(Enc.cells m)[0]? = some (.str m.path):=by simp [Rq.cells]
@[simp] theorem Rq.s0 (m:Rq) (x:List UInt8):setRange (Enc.cells m) 0 [.str x] = Enc.cells { m with path:=x }:=by simp [Rq.cells]
@[simp] theorem Rq.d1 (m:Rq):(Enc.cells m).drop 1 = (.int .u64 m.epoch :: (.int .u64 m.number :: ((.vsl m.body.nil (ofBytes m.body.l) m.body.l.length) :: ([]:List D)))):=by simp [Rq.cells]
@[simp] theorem Rq.d1' (m:Rq) (r:List D):(Enc.cells m ++ r).drop 1 = (.int .u64 m.epoch :: (.int .u64 m.number :: ((.vsl m.body.nil (ofBytes m.body.l) m.body.l.length) :: ([]:List D)))) ++ r:=by simp [Rq.cells]
@[simp] theorem Rq.g1 (m:Rq) (h):(Enc.cells m)[1]'h = .int .u64 m.epoch:=by simp [Rq.cells]
@[simp] theorem Rq.q1 (m:Rq):(Enc.cells m)[1]? = some (.int .u64 m.epoch):=by simp [Rq.cells]
@[simp] theorem Rq.s1 (m:Rq) (x:Int):setRange (Enc.cells m) 1 [.int .u64 x] = Enc.cells { m with epoch:=x }:=by simp [Rq.cells]
@[simp] theorem Rq.d2 (m:Rq):(Enc.cells m).drop 2 = (.int .u64 m.number :: ((.vsl m.body.nil (ofBytes m.body.l) m.body.l.length) :: ([]:List D))):=by simp [Rq.cells]
@[simp] theorem Rq.d2' (m:Rq) (r:List D):(Enc.cells m ++ r).drop 2 = (.int .u64 m.number :: ((.vsl m.body.nil (ofBytes m.body.l) m.body.l.length) :: ([]:List D))) ++ r:=by simp [Rq.cells]
@[simp] theorem Rq.g2 (m:Rq) (h):(Enc.cells m)[2]'h = .int .u64 m.number:=by simp [Rq.cells]
@[simp] theorem Rq.q2 (m:Rq):(Enc.cells m)[2]? = some (.int .u64 m.number):=by simp [Rq.cells]
@[simp] theorem Rq.s2 (m:Rq) (x:Int):setRange (Enc.cells m) 2 [.int .u64 x] = Enc.cells { m with number:=x }:=by simp [Rq.cells]
@[simp] theorem Rq.d3 (m:Rq):(Enc.cells m).drop 3 = ((.vsl m.body.nil (ofBytes m.body.l) m.body.l.length) :: ([]:List D)):=by simp [Rq.cells]
@[simp] theorem Rq.d3' (m:Rq) (r:List D):(Enc.cells m ++ r).drop 3 = ((.vsl m.body.nil (ofBytes m.body.l) m.body.l.length) :: ([]:List D)) ++ r:=by simp [Rq.cells]
@[simp] theorem Rq.g3 (m:Rq) (h):(Enc.cells m)[3]'h = (.vsl m.body.nil (ofBytes m.body.l) m.body.l.length):=by simp [Rq.cells]
@[simp] theorem Rq.q3 (m:Rq):(Enc.cells m)[3]? = some ((.vsl m.body.nil (ofBytes m.body.l) m.body.l.length)):=by simp [Rq.cells]
@[simp] theorem Rq.s3 (m:Rq) (x:Sl UInt8):setRange (Enc.cells m) 3 [(.vsl x.nil (ofBytes x.l) x.l.length)] = Enc.cells { m with body:=x }:=by simp [Rq.cells]
structure Msg where
 kind:Int
 epoch:Int
 number:Int
 body:Sl UInt8
instance:Enc Msg:=⟨4,fun m=>(.int .i64 m.kind :: (.int .u64 m.epoch :: (.int .u64 m.number :: ((.vsl m.body.nil (ofBytes m.body.l) m.body.l.length) :: ([]:List D))))),fun m=>by simp,fun m=>by simp [idFree]⟩
theorem Msg.cells (m:Msg):Enc.cells m = (.int .i64 m.kind :: (.int .u64 m.epoch :: (.int .u64 m.number :: ((.vsl m.body.nil (ofBytes m.body.l) m.body.l.length) :: ([]:List D))))):=rfl
@[simp] theorem Msg.size:Enc.size Msg = 4:=rfl
@[simp] theorem Msg.cl (a:Msg):(Enc.cells a).length = 4:=Enc.len a
@[simp] theorem Msg.ct (a:Msg) (r:List D):(Enc.cells a ++ r).take 4 = Enc.cells a:=cells_take rfl a r
@[simp] theorem Msg.ct' (a:Msg):(Enc.cells a).take 4 = Enc.cells a:=cells_take' rfl a
@[simp] theorem Msg.cd (a:Msg) (r:List D):(Enc.cells a ++ r).drop 4 = r:=cells_drop rfl a r
@[simp] theorem Msg.el (l:List Msg):(encs l).length = l.length * 4:=encs_len' rfl l
@[simp] theorem Msg.ed (l:List Msg) (i:Nat):(encs l).drop (i * 4) = encs (l.drop i):=encs_drop rfl l i
@[simp] theorem Msg.et (l:List Msg) (i:Nat):(encs l).take (i * 4) = encs (l.take i):=encs_take rfl l i
@[simp high] theorem Msg.ea {l:List Msg} {i:Nat} (h:i < l.length):(encs l).drop (i * 4) = Enc.cells l[i] ++ encs (l.drop (i+1)):=encs_at rfl h
@[simp high] theorem Msg.es (m:Msg) {l:List Msg} {j:Nat} (h:j < l.length):setRange (encs l) (j * 4) (Enc.cells m) = encs (l.set j m):=encs_set rfl m l h
@[simp] theorem Msg.g0 (m:Msg) (h):(Enc.cells m)[0]'h = .int .i64 m.kind:=by simp [Msg.cells]
@[simp] theorem Msg.q0 (m:Msg):(Enc.cells m)[0]? = some (.int .i64 m.kind):=by simp [Msg.cells]
@[simp] theorem Msg.s0 (m:Msg) (x:Int):setRange (Enc.cells m) 0 [.int .i64 x] = Enc.cells { m with kind:=x }:=by simp [Msg.cells]
@[simp] theorem Msg.d1 (m:Msg):(Enc.cells m).drop 1 = (.int .u64 m.epoch :: (.int .u64 m.number :: ((.vsl m.body.nil (ofBytes m.body.l) m.body.l.length) :: ([]:List D)))):=by simp [Msg.cells]
@[simp] theorem Msg.d1' (m:Msg) (r:List D):(Enc.cells m ++ r).drop 1 = (.int .u64 m.epoch :: (.int .u64 m.number :: ((.vsl m.body.nil (ofBytes m.body.l) m.body.l.length) :: ([]:List D)))) ++ r:=by simp [Msg.cells]
@[simp] theorem Msg.g1 (m:Msg) (h):(Enc.cells m)[1]'h = .int .u64 m.epoch:=by simp [Msg.cells]
@[simp] theorem Msg.q1 (m:Msg):(Enc.cells m)[1]? = some (.int .u64 m.epoch):=by simp [Msg.cells]
@[simp] theorem Msg.s1 (m:Msg) (x:Int):setRange (Enc.cells m) 1 [.int .u64 x] = Enc.cells { m with epoch:=x }:=by simp [Msg.cells]
@[simp] theorem Msg.d2 (m:Msg):(Enc.cells m).drop 2 = (.int .u64 m.number :: ((.vsl m.body.nil (ofBytes m.body.l) m.body.l.length) :: ([]:List D))):=by simp [Msg.cells]
@[simp] theorem Msg.d2' (m:Msg) (r:List D):(Enc.cells m ++ r).drop 2 = (.int .u64 m.number :: ((.vsl m.body.nil (ofBytes m.body.l) m.body.l.length) :: ([]:List D))) ++ r:=by simp [Msg.cells]
@[simp] theorem Msg.g2 (m:Msg) (h):(Enc.cells m)[2]'h = .int .u64 m.number:=by simp [Msg.cells]
@[simp] theorem Msg.q2 (m:Msg):(Enc.cells m)[2]? = some (.int .u64 m.number):=by simp [Msg.cells]
@[simp] theorem Msg.s2 (m:Msg) (x:Int):setRange (Enc.cells m) 2 [.int .u64 x] = Enc.cells { m with number:=x }:=by simp [Msg.cells]
@[simp] theorem Msg.d3 (m:Msg):(Enc.cells m).drop 3 = ((.vsl m.body.nil (ofBytes m.body.l) m.body.l.length) :: ([]:List D)):=by simp [Msg.cells]
@[simp] theorem Msg.d3' (m:Msg) (r:List D):(Enc.cells m ++ r).drop 3 = ((.vsl m.body.nil (ofBytes m.body.l) m.body.l.length) :: ([]:List D)) ++ r:=by simp [Msg.cells]
@[simp] theorem Msg.g3 (m:Msg) (h):(Enc.cells m)[3]'h = (.vsl m.body.nil (ofBytes m.body.l) m.body.l.length):=by simp [Msg.cells]
@[simp] theorem Msg.q3 (m:Msg):(Enc.cells m)[3]? = some ((.vsl m.body.nil (ofBytes m.body.l) m.body.l.length)):=by simp [Msg.cells]
@[simp] theorem Msg.s3 (m:Msg) (x:Sl UInt8):setRange (Enc.cells m) 3 [(.vsl x.nil (ofBytes x.l) x.l.length)] = Enc.cells { m with body:=x }:=by simp [Msg.cells]
structure Rs where
 status:Int
 epoch:Int
 number:Int
 body:Sl UInt8
instance:Enc Rs:=⟨4,fun m=>(.int .i64 m.status :: (.int .u64 m.epoch :: (.int .u64 m.number :: ((.vsl m.body.nil (ofBytes m.body.l) m.body.l.length) :: ([]:List D))))),fun m=>by simp,fun m=>by simp [idFree]⟩
theorem Rs.cells (m:Rs):Enc.cells m = (.int .i64 m.status :: (.int .u64 m.epoch :: (.int .u64 m.number :: ((.vsl m.body.nil (ofBytes m.body.l) m.body.l.length) :: ([]:List D))))):=rfl
@[simp] theorem Rs.size:Enc.size Rs = 4:=rfl
@[simp] theorem Rs.cl (a:Rs):(Enc.cells a).length = 4:=Enc.len a
@[simp] theorem Rs.ct (a:Rs) (r:List D):(Enc.cells a ++ r).take 4 = Enc.cells a:=cells_take rfl a r
@[simp] theorem Rs.ct' (a:Rs):(Enc.cells a).take 4 = Enc.cells a:=cells_take' rfl a
@[simp] theorem Rs.cd (a:Rs) (r:List D):(Enc.cells a ++ r).drop 4 = r:=cells_drop rfl a r
@[simp] theorem Rs.el (l:List Rs):(encs l).length = l.length * 4:=encs_len' rfl l
@[simp] theorem Rs.ed (l:List Rs) (i:Nat):(encs l).drop (i * 4) = encs (l.drop i):=encs_drop rfl l i
@[simp] theorem Rs.et (l:List Rs) (i:Nat):(encs l).take (i * 4) = encs (l.take i):=encs_take rfl l i
@[simp high] theorem Rs.ea {l:List Rs} {i:Nat} (h:i < l.length):(encs l).drop (i * 4) = Enc.cells l[i] ++ encs (l.drop (i+1)):=encs_at rfl h
@[simp high] theorem Rs.es (m:Rs) {l:List Rs} {j:Nat} (h:j < l.length):setRange (encs l) (j * 4) (Enc.cells m) = encs (l.set j m):=encs_set rfl m l h
@[simp] theorem Rs.g0 (m:Rs) (h):(Enc.cells m)[0]'h = .int .i64 m.status:=by simp [Rs.cells]
@[simp] theorem Rs.q0 (m:Rs):(Enc.cells m)[0]? = some (.int .i64 m.status):=by simp [Rs.cells]
@[simp] theorem Rs.s0 (m:Rs) (x:Int):setRange (Enc.cells m) 0 [.int .i64 x] = Enc.cells { m with status:=x }:=by simp [Rs.cells]
@[simp] theorem Rs.d1 (m:Rs):(Enc.cells m).drop 1 = (.int .u64 m.epoch :: (.int .u64 m.number :: ((.vsl m.body.nil (ofBytes m.body.l) m.body.l.length) :: ([]:List D)))):=by simp [Rs.cells]
@[simp] theorem Rs.d1' (m:Rs) (r:List D):(Enc.cells m ++ r).drop 1 = (.int .u64 m.epoch :: (.int .u64 m.number :: ((.vsl m.body.nil (ofBytes m.body.l) m.body.l.length) :: ([]:List D)))) ++ r:=by simp [Rs.cells]
@[simp] theorem Rs.g1 (m:Rs) (h):(Enc.cells m)[1]'h = .int .u64 m.epoch:=by simp [Rs.cells]
@[simp] theorem Rs.q1 (m:Rs):(Enc.cells m)[1]? = some (.int .u64 m.epoch):=by simp [Rs.cells]
@[simp] theorem Rs.s1 (m:Rs) (x:Int):setRange (Enc.cells m) 1 [.int .u64 x] = Enc.cells { m with epoch:=x }:=by simp [Rs.cells]
@[simp] theorem Rs.d2 (m:Rs):(Enc.cells m).drop 2 = (.int .u64 m.number :: ((.vsl m.body.nil (ofBytes m.body.l) m.body.l.length) :: ([]:List D))):=by simp [Rs.cells]
@[simp] theorem Rs.d2' (m:Rs) (r:List D):(Enc.cells m ++ r).drop 2 = (.int .u64 m.number :: ((.vsl m.body.nil (ofBytes m.body.l) m.body.l.length) :: ([]:List D))) ++ r:=by simp [Rs.cells]
@[simp] theorem Rs.g2 (m:Rs) (h):(Enc.cells m)[2]'h = .int .u64 m.number:=by simp [Rs.cells]
@[simp] theorem Rs.q2 (m:Rs):(Enc.cells m)[2]? = some (.int .u64 m.number):=by simp [Rs.cells]
@[simp] theorem Rs.s2 (m:Rs) (x:Int):setRange (Enc.cells m) 2 [.int .u64 x] = Enc.cells { m with number:=x }:=by simp [Rs.cells]
@[simp] theorem Rs.d3 (m:Rs):(Enc.cells m).drop 3 = ((.vsl m.body.nil (ofBytes m.body.l) m.body.l.length) :: ([]:List D)):=by simp [Rs.cells]
@[simp] theorem Rs.d3' (m:Rs) (r:List D):(Enc.cells m ++ r).drop 3 = ((.vsl m.body.nil (ofBytes m.body.l) m.body.l.length) :: ([]:List D)) ++ r:=by simp [Rs.cells]
@[simp] theorem Rs.g3 (m:Rs) (h):(Enc.cells m)[3]'h = (.vsl m.body.nil (ofBytes m.body.l) m.body.l.length):=by simp [Rs.cells]
@[simp] theorem Rs.q3 (m:Rs):(Enc.cells m)[3]? = some ((.vsl m.body.nil (ofBytes m.body.l) m.body.l.length)):=by simp [Rs.cells]
@[simp] theorem Rs.s3 (m:Rs) (x:Sl UInt8):setRange (Enc.cells m) 3 [(.vsl x.nil (ofBytes x.l) x.l.length)] = Enc.cells { m with body:=x }:=by simp [Rs.cells]
@[simp] theorem ofBytes_nil:ofBytes [] = []:=rfl
def Msg.zero:Msg:=⟨0,0,0,.none⟩
theorem decF_len:∀ (f v:Nat),(decF f v).length≤f
 | 0,_=>Nat.le_refl _
 | f+1,v=>by
  rw [decF]
  split
  ·simp
  ·have:=decF_len f (v / 10)
   simp
   omega
theorem dec_len (v:Nat):(dec v).length≤20:=decF_len 20 v
theorem dec_pos (v:Nat):0 < (dec v).length:=by
 unfold dec decF
 split <;> simp
theorem cat_of {x y s:List UInt8} (e:s = x ++ y) (h:x.length+y.length≤100000):strD .add x y = some (.str s):=by
 simp only [strD,e]
 rw [if_pos (by omega)]
section
variable {H:Type} {enc:TypeId × Value→H} {P:Program} {W:World} {base n:Nat} {t e:TypeId} {v:Value} {d:DataW H} {ps:List MemPlace}
theorem arg_u8 (hu:P.underlying t = some (.int .u8)) (hp:PlainT P (n+1) t = true) (hv:Value.okWide P W .any base t v) (h:DataW.Trod enc P W 0 (fun _=>true) true t v d ps):∃ b:UInt8,Rep (· < W.heap.size) W iota0 [] (.int .u8 b.toNat) v∧True:=by
 obtain ⟨ds,h1,h2⟩:=read_plain hp h
 obtain ⟨b,rfl⟩:=has_u8 hu h1
 exact ⟨b,cor_val h2 (one_int hu hv),trivial⟩
end
end Go.Ev
namespace Go.Ev
open Go Go.Proofs
def kS:List UInt8:=[115,61]
def kI:List UInt8:=[59,105,61]
def kB:List UInt8:=[59,98,61]
def kM:List UInt8:=[59,109,61]
def kT:List UInt8:=[59,116,61]
def kX:List UInt8:=[59,120,61]
def showL (c:Cur):List UInt8:=kS ++ (hexs c.seq.l ++ (kI ++ (hx c.n.toNat ++ (kB ++ (hexs c.boot.l ++ (kM ++ (hx c.mono.toNat ++ (kT ++ (hx c.real.toNat ++ (kX ++ hx c.xor.toNat))))))))))
theorem showL_len (c:Cur):80≤(showL c).length∧(showL c).length≤200:=by
 have h1:=hx_len c.n.toNat
 have h2:=hx_len c.mono.toNat
 have h3:=hx_len c.real.toNat
 have h4:=hx_len c.xor.toNat
 have g1:=hx_pos c.n.toNat
 have g2:=hx_pos c.mono.toNat
 have g3:=hx_pos c.real.toNat
 have g4:=hx_pos c.xor.toNat
 have i1:=hexs_len c.seq.l
 have i2:=hexs_len c.boot.l
 rw [c.seq.h] at i1
 rw [c.boot.h] at i2
 simp only [showL,List.length_append,kS,kI,kB,kM,kT,kX,List.length_cons,List.length_nil]
 omega
def Cur.zero:Cur:=⟨ID.zero,0,ID.zero,0,0,0⟩
def idOf (s:List UInt8):ID:=⟨(idP s).getD zero16,by
 cases h:idP s with
 | none=>rfl
 | some r=>exact idP_len h⟩
def curEq (a b:Cur):Bool:=a.seq == b.seq && (a.n == b.n && (a.boot == b.boot && (a.mono == b.mono && (a.real == b.real && a.xor == b.xor))))
@[simp] theorem Cur.eq36 (a b:Cur):cellsEq [.i,.i,.i,.i,.i,.i,.i,.i,.i,.i,.i,.i,.i,.i,.i,.i,.i,.i,.i,.i,.i,.i,.i,.i,.i,.i,.i,.i,.i,.i,.i,.i,.i,.i,.i,.i] (Enc.cells a) (Enc.cells b) = some (curEq a b):=by
 have h1:=cellsEq16 a.seq b.seq
 have h2:=cellsEq16 a.boot b.boot
 rw [Cur.cells,Cur.cells]
 have e:([.i,.i,.i,.i,.i,.i,.i,.i,.i,.i,.i,.i,.i,.i,.i,.i,.i,.i,.i,.i,.i,.i,.i,.i,.i,.i,.i,.i,.i,.i,.i,.i,.i,.i,.i,.i]:List CK) = [.i,.i,.i,.i,.i,.i,.i,.i,.i,.i,.i,.i,.i,.i,.i,.i] ++ (.i :: ([.i,.i,.i,.i,.i,.i,.i,.i,.i,.i,.i,.i,.i,.i,.i,.i] ++ [.i,.i,.i])):=rfl
 rw [e,cellsEq_app _ _ _ _ _ _ (by simp) (by simp),h1]
 simp only [cellsEq,cellEq,if_true]
 rw [cellsEq_app _ _ _ _ _ _ (by simp) (by simp),h2]
 simp only [cellsEq,cellEq,if_true,Bool.and_true]
 rfl
theorem idx_at (c:UInt8):∀ (A B:List UInt8) (n:Nat),(∀ x∈A,x≠c)→idxN [c] (A ++ c :: B) n = ((n+A.length:Nat):Int)
 | [],B,n,_=>by simp [idxN,List.isPrefixOf]
 | x :: A,B,n,h=>by
  have hx:=h x (by simp)
  have hx2:(c == x) = false:=by simpa using Ne.symm hx
  rw [List.cons_append,idxN,if_neg (by simp [List.isPrefixOf,hx2]),idx_at c A B (n+1) fun y hy=>h y (by simp [hy])]
  simp
  omega
theorem idOf_hexs (i:ID):idOf (hexs i.l) = i:=ID.ext' (by show (idP (hexs i.l)).getD zero16 = i.l;rw [idP_hexs i.h];rfl)
end Go.Ev
namespace Go.Ev
open Go Go.Proofs
def fxN:Nat→Nat→List UInt8
 | 0,_=>[]
 | n+1,v=>fxN n (v / 16) ++ [hexc (v % 16)]
theorem fxN_len:∀ (n v:Nat),(fxN n v).length = n
 | 0,_=>rfl
 | n+1,v=>by rw [fxN,List.length_append,fxN_len n];rfl
theorem fxN_zero:∀ (n:Nat),fxN n 0 = List.replicate n 48
 | 0=>rfl
 | n+1=>by
  rw [fxN,Nat.zero_div,fxN_zero n,Nat.zero_mod]
  have:hexc 0 = 48:=by decide
  rw [this,List.replicate_succ']
theorem fxN_hexF:∀ (f n v:Nat),v < 16 ^ f→1≤f→f≤n→List.replicate (n - (hexF f v).length) 48 ++ hexF f v = fxN n v
 | 0,_,_,_,h,_=>by omega
 | f+1,0,_,_,_,h=>by omega
 | f+1,n+1,v,h,_,hn=>by
  rw [hexF,fxN]
  by_cases hv:v < 16
  ·rw [if_pos hv,show v / 16 = 0 by omega,fxN_zero,Nat.mod_eq_of_lt hv]
   rfl
  ·rw [if_neg hv]
   have hf:1≤f:=by
    rcases f with _ | f
    ·simp at h;omega
    ·omega
   have ih:=fxN_hexF f n (v / 16) (by rw [Nat.pow_succ] at h;omega) hf (by omega)
   have hl:n+1 - (hexF f (v / 16) ++ [hexc (v % 16)]).length = n - (hexF f (v / 16)).length:=by
    rw [List.length_append]
    simp
   rw [hl,← List.append_assoc,ih]
theorem fixed_fxN {v:Nat} (h:v < 18446744073709551616):fixed v = fxN 16 v:=fxN_hexF 16 16 v (by omega) (by omega) (by omega)
def strip0:List UInt8→List UInt8
 | []=>[]
 | [c]=>[c]
 | c :: d :: l=>if c = 48 then strip0 (d :: l) else c :: d :: l
theorem hexF_head:∀ (f v:Nat),v < 16 ^ f→1≤f→∃ k l,hexF f v = hexc k :: l∧k < 16∧(k = 0→l = [])
 | 0,_,_,h=>by omega
 | f+1,v,h,_=>by
  rw [hexF]
  by_cases hv:v < 16
  ·rw [if_pos hv]
   exact ⟨v,[],rfl,hv,fun _=>rfl⟩
  ·rw [if_neg hv]
   have hf:1≤f:=by
    rcases f with _ | f
    ·simp at h;omega
    ·omega
   obtain ⟨k,l,e,hk,h0⟩:=hexF_head f (v / 16) (by rw [Nat.pow_succ] at h;omega) hf
   refine ⟨k,l ++ [hexc (v % 16)],by rw [e];rfl,hk,fun hk0=>?_⟩
   exfalso
   have hl:=h0 hk0
   rw [hl,hk0] at e
   have:∀ (f w:Nat),1≤f→hexF f w = [hexc 0]→w = 0∨16≤w∨0 < w:=by intro _ w _ _;omega
   have h16:1≤v / 16:=by omega
   have hz:∀ (f w:Nat),1≤w→w < 16 ^ f→hexF f w≠[hexc 0]:=by
    intro f w hw hlt
    rcases f with _ | f
    ·simp at hlt;omega
    ·rw [hexF]
     by_cases hw16:w < 16
     ·rw [if_pos hw16]
      intro e
      have e1:=List.head_eq_of_cons_eq e
      have hinj:∀ a,a < 16→hexc a = hexc 0→a = 0:=by decide
      exact absurd (hinj w hw16 e1) (by omega)
     ·rw [if_neg hw16]
      intro e
      have e1:=congrArg List.length e
      simp at e1
      have hp:0 < (hexF f (w / 16)).length:=by
       rcases f with _ | f
       ·simp at hlt;omega
       ·rw [hexF];split <;> simp
      rw [e1] at hp
      simp at hp
   exact hz f (v / 16) h16 (by rw [Nat.pow_succ] at h;omega) e
theorem strip0_rep {l:List UInt8} (h:l≠[]):∀ n,strip0 (List.replicate n 48 ++ l) = strip0 l
 | 0=>rfl
 | n+1=>by
  have ih:=strip0_rep h n
  rw [List.replicate_succ,List.cons_append]
  cases hq:List.replicate n (48:UInt8) ++ l with
  | nil=>simp at hq;exact absurd hq.2 h
  | cons d r =>
   rw [hq] at ih
   rw [strip0,if_pos rfl,ih]
theorem strip0_fixed {v:Nat} (h:v < 18446744073709551616):strip0 (fxN 16 v) = hx v:=by
 rw [← fixed_fxN h]
 unfold fixed
 have hp:=hx_pos v
 rw [strip0_rep (by intro e;rw [e] at hp;simp at hp)]
 obtain ⟨k,l,e,hk,h0⟩:=hexF_head 16 v (by omega) (by omega)
 have e':hx v = hexc k :: l:=e
 rw [e']
 cases l with
 | nil=>rfl
 | cons d r =>
  rw [strip0,if_neg]
  intro hc
  have hinj:∀ a,a < 16→hexc a = 48→a = 0:=by decide
  have:=h0 (hinj k hk hc)
  cases this
theorem dig_is (c:UInt8):idxB c digL 0 = -1∨∃ k:Nat,k < 16∧idxB c digL 0 = (k:Int)∧c = hexc k:=by
 have h:∀ n:Nat,n < 256→idxB (UInt8.ofNat n) digL 0 = -1∨∃ k:Nat,k < 16∧idxB (UInt8.ofNat n) digL 0 = (k:Int)∧UInt8.ofNat n = hexc k:=by decide +kernel
 have:=h c.toNat c.toNat_lt
 rwa [UInt8.ofNat_toNat] at this
end Go.Ev
namespace Go.Ev.S
open Go Go.Proofs Go.Ev
theorem nib2_N:∀ a,a < 16→∀ b,b < 16→(((0:UInt8) <<< 4 ||| UInt8.ofNat a) <<< 4) ||| UInt8.ofNat b = UInt8.ofNat (16 * a+b):=by decide +kernel
theorem idGo_pair {c1 c2:UInt8} {a b:Nat} (ha:a < 16) (hb:b < 16) (h1:idxB c1 digL 0 = (a:Int)) (h2:idxB c2 digL 0 = (b:Int)) (l done:List UInt8) (m:Nat) :
  idGo (c1 :: c2 :: l) (2 * done.length) (done ++ List.replicate (m+1) 0) = idGo l (2 * (done.length+1)) ((done ++ [UInt8.ofNat (16 * a+b)]) ++ List.replicate m 0):=by
 simp only [idGo,h1,h2]
 rw [if_neg (by omega),if_neg (by omega)]
 have e1:2 * done.length / 2 = done.length:=by omega
 have e2:(2 * done.length+1) / 2 = done.length:=by omega
 have e3:2 * done.length+1+1 = 2 * (done.length+1):=by omega
 have g1:(done ++ List.replicate (m+1) 0).getD done.length 0 = (0:UInt8):=by
  simp [List.getD,List.replicate_succ]
 rw [e1,e2,e3,g1]
 have s1:∀ x:UInt8,(done ++ List.replicate (m+1) (0:UInt8)).set done.length x = done ++ x :: List.replicate m 0:=by
  intro x
  simp [List.replicate_succ]
 rw [s1]
 have g2:∀ x:UInt8,(done ++ x :: List.replicate m (0:UInt8)).getD done.length 0 = x:=by
  intro x
  simp [List.getD]
 rw [g2]
 have s2:∀ x y:UInt8,(done ++ x :: List.replicate m (0:UInt8)).set done.length y = (done ++ [y]) ++ List.replicate m 0:=by
  intro x y
  simp
 have e4:((((a:Nat):Int)).toNat) = a:=by omega
 have e5:((((b:Nat):Int)).toNat) = b:=by omega
 rw [s2,e4,e5,nib2_N a ha b hb]
theorem idGo_no1 {c1:UInt8} (h1:idxB c1 digL 0 = -1) (l:List UInt8) (i:Nat) (st:List UInt8):idGo (c1 :: l) i st = none:=by
 simp only [idGo,h1]
 rw [if_pos (by omega)]
theorem idGo_no2 {c1 c2:UInt8} (h2:idxB c2 digL 0 = -1) (l:List UInt8) (i:Nat) (st:List UInt8):idGo (c1 :: c2 :: l) i st = none:=by
 simp only [idGo,h2]
 split
 ·rfl
 ·rw [if_pos (by omega)]
theorem rdigit_ev [MaxL] [TxtC] (c:UInt8):call cx 122 [.int .u8 c.toNat] [] = some (.int .i64 (idxB c digL 0),[]):=by
 refine call_run Tryz.func122 rfl ⟨rfl,rfl⟩ ?_
 have hl:digL.length = 16:=rfl
 obtain ⟨r,hr⟩:∃ r,idxB c digL 0 = r:=⟨_,rfl⟩
 rw [hr]
 simp [Tryz.f122]
 refine Run.loopThen (fun (k:Nat) e H'=>k≤16∧idxB c (digL.drop k) k = r∧look e 0 = some (.int .u8 c.toNat)∧look e 3 = some (.int .i64 k)∧H' = []) (fun k=>16 - k) 0 (by simp [hr]) ?_
 rintro k e H' ⟨hk,hi,k0,k3,rfl⟩
 by_cases hlt:k < 16
 ·have hlt':(k:Int) < 16:=by omega
  have hkl:k < digL.length:=hlt
  have hw:IntKind.i64.wrap ((k:Int)+1) = ((k+1:Nat):Int):=by rw [wrap_i64] <;> omega
  have hat:digL[k]? = some digL[k]:=List.getElem?_eq_getElem hkl
  rw [List.drop_eq_getElem_cons hkl,idxB] at hi
  generalize digL[k] = x at *
  simp only [digL] at hat
  by_cases hx:x = c
  ·subst hx
   rw [if_pos rfl] at hi
   subst hi
   simp [k0,k3,hlt',hat]
  ·rw [if_neg hx] at hi
   have hx2:¬ (x.toNat:Int) = (c.toNat:Int):=by
    intro h
    exact hx (UInt8.toNat.inj (by omega))
   simp [k0,k3,hlt',hat,hx2,hw]
   exact ⟨k+1,by omega,by omega,hi,by simp⟩
 ·have hlt':¬ (k:Int) < 16:=by omega
  have hke:k = 16:=by omega
  subst hke
  have:r = -1:=hi.symm
  subst this
  simp [k0,k3]
theorem dig_cut (k:Nat) (h:k < 16):List.take 1 (List.drop k digL) = [hexc k]:=by
 have:∀ k,k < 16→List.take 1 (List.drop k digL) = [hexc k]:=by decide
 exact this k h
set_option maxHeartbeats 2000000 in
theorem rhex_ev [MaxL] [TxtC] (l:List UInt8) (hl:l.length = 16):call cx 56 [.agg (ofBytes l)] [] = some (.str (hexs l),[]):=by
 refine call_run Tryz.func56 rfl ⟨rfl,rfl⟩ ?_
 simp [Tryz.f56,hl]
 refine Run.loopThen (fun (k:Nat) e H'=>k≤16∧look e 1 = some (.optr 0 16 0)∧look e 3 = some (.str (hexs (l.take k)))∧look e 4 = some (.int .i64 k)∧H' = [some (ofBytes l)]) (fun k=>16 - k) 0 ?_ ?_
 ·simp [hexs]
 rintro k e H' ⟨hk,k1,k3,k4,rfl⟩
 by_cases hlt:k < 16
 ·have hlt':(k:Int) < 16:=by omega
  have hkl:k < l.length:=by omega
  have hw:IntKind.i64.wrap ((k:Int)+1) = ((k+1:Nat):Int):=by rw [wrap_i64] <;> omega
  have hat:=ofBytes_at hkl
  have hsn:=hexs_take hkl
  have hb:=l[k].toNat_lt
  have hlen:(hexs (l.take k)).length = 2 * k:=by rw [hexs_len,List.length_take];omega
  generalize l[k] = b at *
  have d1:=dig_cut (b.toNat / 16) (by omega)
  have d2:=dig_cut (b.toNat % 16) (by omega)
  generalize hexc (b.toNat / 16) = c1 at *
  generalize hexc (b.toNat % 16) = c2 at *
  obtain ⟨m1,hm1⟩:∃ m,m = b.toNat / 16:=⟨_,rfl⟩
  obtain ⟨m2,hm2⟩:∃ m,m = b.toNat % 16:=⟨_,rfl⟩
  rw [← hm1] at d1
  rw [← hm2] at d2
  have q1:IntKind.u8.wrap ((b.toNat:Int) / 16) = (m1:Int):=by rw [wrap_u8] <;> omega
  have q2:(b.toNat:Int).tmod 16 = (m2:Int):=by rw [hm2];exact (Int.ofNat_tmod b.toNat 16).symm
  have w1:IntKind.u8.wrap ((m1:Int)+1) = ((m1+1:Nat):Int):=by rw [wrap_u8] <;> omega
  have w2:IntKind.u8.wrap ((m2:Int)+1) = ((m2+1:Nat):Int):=by rw [wrap_u8] <;> omega
  have t1:m1≤15:=by omega
  have t2:m2≤15:=by omega
  have n1:((m1:Int)+1).toNat = m1+1:=by omega
  have n2:((m2:Int)+1).toNat = m2+1:=by omega
  have u1:(m1:Int)+1≤16:=by omega
  have u2:(m2:Int)+1≤16:=by omega
  have v1:(0:Int)≤(m1:Int)+1:=by omega
  have v2:(0:Int)≤(m2:Int)+1:=by omega
  have y1:(m1:Int)≤(m1:Int)+1:=by omega
  have y2:(m2:Int)≤(m2:Int)+1:=by omega
  simp only [digL] at d1 d2
  generalize hexs (l.take k) = X at *
  have x1:X.length+1≤4611686018427387904:=by omega
  have x2:X.length+1+1≤4611686018427387904:=by omega
  simp [k1,k3,k4,hlt',hw,hat,hl,q1,q2,w1,w2,d1,d2,n1,n2,u1,u2,v1,v2,x1,x2,y1,y2]
  exact ⟨k+1,by omega,by omega,by rw [hsn],by omega⟩
 ·have hlt':¬ (k:Int) < 16:=by omega
  have hke:k = 16:=by omega
  subst hke
  have htk:l.take 16 = l:=List.take_of_length_le (by omega)
  rw [htk] at k3
  simp [k1,k3,k4]
set_option maxHeartbeats 2000000 in
theorem rid_ev [MaxL] [TxtC] (s:List UInt8) (_:s.length < 1000000):call cx 95 [.str s] [] = some (.tup [.agg (ofBytes ((idP s).getD zero16)),.bool (idP s).isSome],[]):=by
 refine call_run Tryz.func95 rfl ⟨rfl,rfl⟩ ?_
 have z16:=zero16_of
 have z16l:zero16.length = 16:=rfl
 have z16d:List.drop 16 (ofBytes zero16) = []:=rfl
 by_cases h32:s.length = 32
 ·have h32':(s.length:Int) = 32:=by omega
  have hP:idP s = idGo s 0 zero16:=by unfold idP;rw [if_pos h32]
  rw [hP]
  simp [Tryz.f95,h32']
  rw [← z16]
  refine Run.loopThen (fun (q:Nat × List UInt8) e H'=>q.1≤16∧q.2.length = q.1∧idGo (s.drop (2 * q.1)) (2 * q.1) (q.2 ++ List.replicate (16 - q.1) 0) = idGo s 0 zero16∧H' = [some (ofBytes zero16),some (ofBytes (q.2 ++ List.replicate (16 - q.1) 0))]∧look e 0 = some (.str s)∧look e 2 = some (.optr 0 16 0)∧look e 4 = some (.optr 1 16 0) ∧
    look e 5 = some (.int .i64 (q.1:Nat))) (fun q=>16 - q.1) (0,[]) ?_ ?_
  ·simp [zero16]
  rintro ⟨k,st⟩ e H' ⟨hk,hst,hgo,rfl,k0,k2,k4,k5⟩
  simp only at hk hst hgo k5
  by_cases hlt:k < 16
  ·have hlt':(k:Int) < 16:=by omega
   have h1:2 * k < s.length:=by omega
   have h2:2 * k+1 < s.length:=by omega
   have hc1:=rdigit_ev s[2 * k]
   have hc2:=rdigit_ev s[2 * k+1]
   rw [List.drop_eq_getElem_cons h1,List.drop_eq_getElem_cons h2] at hgo
   have e1:s[2 * k]? = some s[2 * k]:=List.getElem?_eq_getElem h1
   have e2:s[2 * k+1]? = some s[2 * k+1]:=List.getElem?_eq_getElem h2
   have hd1:=dig_is s[2 * k]
   have hd2:=dig_is s[2 * k+1]
   generalize s[2 * k] = c1 at *
   generalize s[2 * k+1] = c2 at *
   have hw:IntKind.i64.wrap ((k:Int)+1) = ((k+1:Nat):Int):=by rw [wrap_i64] <;> omega
   have hw2:IntKind.i64.wrap (2 * (k:Int)) = 2 * (k:Int):=by rw [wrap_i64];omega
   have hw3:IntKind.i64.wrap (2 * (k:Int)+1) = 2 * (k:Int)+1:=by rw [wrap_i64];omega
   have g1:(0:Int)≤2 * (k:Int):=by omega
   have g2:(0:Int)≤2 * (k:Int)+1:=by omega
   have g3:2 * (k:Int) < 32:=by omega
   have g4:2 * (k:Int)+1 < 32:=by omega
   have g5:(2 * (k:Int)).toNat = 2 * k:=by omega
   have g6:(2 * (k:Int)+1).toNat = 2 * k+1:=by omega
   rcases hd1 with hn1 | ⟨a,ha,hn1,-⟩
   ·rw [idGo_no1 hn1] at hgo
    rw [hn1] at hc1
    rw [← hgo]
    generalize idxB c2 digL 0 = y at *
    simp [k0,k2,k4,k5,hlt',e1,e2,hc1,hc2,hw2,hw3,g1,g2,g5,g6,← z16,z16l,z16d]
   ·rcases hd2 with hn2 | ⟨b,hb,hn2,-⟩
    ·rw [idGo_no2 hn2] at hgo
     rw [hn1] at hc1
     rw [hn2] at hc2
     have ha0:¬ (a:Int) < 0:=by omega
     rw [← hgo]
     simp [k0,k2,k4,k5,hlt',e1,e2,hc1,hc2,hw2,hw3,g1,g2,g5,g6,← z16,z16l,z16d,ha0]
    ·subst hst
     obtain ⟨m,hm⟩:∃ m,16 - st.length = m+1:=⟨15 - st.length,by omega⟩
     rw [hm,idGo_pair ha hb hn1 hn2] at hgo
     rw [hm]
     rw [hn1] at hc1
     rw [hn2] at hc2
     have ha0:¬ (a:Int) < 0:=by omega
     have hb0:¬ (b:Int) < 0:=by omega
     obtain ⟨x,hx⟩:∃ x,x = UInt8.ofNat (16 * a+b):=⟨_,rfl⟩
     have hxn:(x.toNat:Int) = 16 * (a:Int)+(b:Int):=by
      rw [hx,UInt8.toNat_ofNat']
      omega
     rw [← hx] at hgo
     have v1:IntKind.i64.wrap (16 * (a:Int)) = 16 * (a:Int):=by rw [wrap_i64];omega
     have v2:IntKind.i64.wrap (16 * (a:Int)+(b:Int)) = 16 * (a:Int)+(b:Int):=by rw [wrap_i64];omega
     have v3:IntKind.u8.wrap (16 * (a:Int)+(b:Int)) = (x.toNat:Int):=by rw [hxn,wrap_u8];omega
     have hset:=set_bytesC (st ++ List.replicate (m+1) 0) st.length x (by simp)
     have hs2:(st ++ List.replicate (m+1) (0:UInt8)).set st.length x = (st ++ [x]) ++ List.replicate m 0:=by simp [List.replicate_succ]
     rw [hs2] at hset
     have hl16:(st ++ List.replicate (m+1) (0:UInt8)).length = 16:=by simp;omega
     have hj16:(st.length:Int) < 16:=by omega
     have hj15:st.length≤15:=by omega
     have hj1:st.length+1≤16:=by omega
     have hm2:16 - (st.length+1) = m:=by omega
     generalize hT:st ++ List.replicate (m+1) (0:UInt8) = T at *
     simp [-setRange_eq,k0,k2,k4,k5,hlt',e1,e2,hc1,hc2,hw,hw2,hw3,g1,g2,g5,g6,ha0,hb0,v1,v2,v3,hset,hl16,hj1]
     rw [show 2 * (st.length+1) = 2 * st.length+1+1 by omega] at hgo
     exact ⟨st.length+1,by omega,by omega,st ++ [x],by simp,by rw [hm2,show 2 * (st.length+1) = 2 * st.length+1+1 by omega];exact hgo,by rw [hm2];simp,by omega⟩
  ·have hlt':¬ (k:Int) < 16:=by omega
   have hke:k = 16:=by omega
   subst hke
   rw [List.drop_eq_nil_of_le (by omega),idGo] at hgo
   rw [← hgo]
   have hre:st ++ List.replicate (16 - 16) (0:UInt8) = st:=by simp
   rw [hre]
   have hl16:16≤st.length:=by omega
   have ht:List.take 16 (ofBytes st) = ofBytes st:=List.take_of_length_le (by simp;omega)
   simp [k0,k2,k4,k5,ht,hst,z16l,z16d]
 ·have h32':¬ (s.length:Int) = 32:=by omega
  have hP:idP s = none:=by unfold idP;rw [if_neg h32]
  rw [hP]
  simp [Tryz.f95,h32',← z16,z16l,z16d]
end Go.Ev.S
namespace Go.Ev.S
open Go Go.Proofs Go.Ev
theorem pow2_ev [MaxL] [TxtC]:call cx 158 [.int .i64 16] [] = some (.bool true,[]):=call_some.2 ⟨60,by kernel_rfl⟩
theorem tz_ev [MaxL] [TxtC]:call cx 159 [.int .u64 16] [] = some (.int .i64 4,[]):=call_some.2 ⟨100,by kernel_rfl⟩
def HexI (v i u:Nat) (s:List UInt8):Prop:= ∃ g,1≤g∧g≤16∧i = 49+g∧s.length+g = 16∧u < 16 ^ g∧hexF g u ++ s = hx v
theorem hexI_step {v i u:Nat} {s:List UInt8} (h:HexI v i u s) (hu:16≤u):51≤i∧HexI v (i - 1) (u / 16) (hexc (u % 16) :: s):=by
 obtain ⟨g,h1,h2,rfl,h4,h5,h6⟩:=h
 obtain ⟨f,rfl⟩:∃ f,g = f+1:=⟨g - 1,by omega⟩
 have hf:1≤f:=by
  rcases f with _ | f
  ·simp at h5;omega
  ·omega
 refine ⟨by omega,f,hf,by omega,by omega,by simp;omega,by rw [Nat.pow_succ] at h5;omega,?_⟩
 rw [hexF,if_neg (by omega)] at h6
 simpa using h6
theorem hexI_end {v i u:Nat} {s:List UInt8} (h:HexI v i u s) (hu:u < 16):hexc u :: s = hx v∧50≤i∧i≤65∧i+s.length = 65:=by
 obtain ⟨g,h1,h2,rfl,h4,h5,h6⟩:=h
 obtain ⟨f,rfl⟩:∃ f,g = f+1:=⟨g - 1,by omega⟩
 rw [hexF,if_pos hu] at h6
 exact ⟨by simpa using h6,by omega,by omega,by omega⟩
theorem hexI_len {v i u:Nat} {s:List UInt8} (h:HexI v i u s):i+s.length = 65∧50≤i:=by
 obtain ⟨g,h1,h2,rfl,h4,h5,h6⟩:=h
 omega
theorem fill_of {i j:Nat} (hi:i = j+1) (s:List UInt8) (c:UInt8):setRange (List.replicate i (D.int .u8 0) ++ ofBytes s) j [.int .u8 c.toNat] = List.replicate j (.int .u8 0) ++ ofBytes (c :: s):=by
 rw [hi];exact fill_behind j s c
set_option maxHeartbeats 2000000 in
theorem fb16_ev [MaxL] [TxtC] (v:Nat) (hv:v < 18446744073709551616):call cx 132 [.vsl true [] 0,.int .u64 v,.int .i64 16,.bool false,.bool false] [] = some (.tup [.vsl true [] 0,.str (hx v)],[]):=by
 have h1:=pow2_ev
 have h2:=tz_ev
 have w16:IntKind.u64.wrap 16 = 16:=by decide
 have w15:IntKind.u64.wrap 15 = 15:=by decide
 have w4:IntKind.u64.wrap 4 = 4:=by decide
 refine call_run Tryz.func132 rfl ⟨rfl,rfl⟩ ?_
 simp [-List.reduceReplicate,Tryz.f132,h1,h2,w16,w15,w4]
 refine Run.loopThen (fun (q:Nat × Nat × List UInt8) e H'=>HexI v q.1 q.2.1 q.2.2∧q.2.1 < 18446744073709551616∧H' = [some (List.replicate q.1 (.int .u8 0) ++ ofBytes q.2.2)] ∧
   look e 0 = some (.vsl true [] 0)∧look e 1 = some (.int .u64 (q.2.1:Nat))∧look e 3 = some (.bool false)∧look e 4 = some (.bool false)∧look e 10 = some (.vsl true [] 0)∧look e 11 = some (.str [])∧look e 12 = some (.optr 0 65 0) ∧
   look e 13 = some (.int .i64 (q.1:Nat))∧look e 14 = some (.int .u64 4)∧look e 15 = some (.int .u64 16)∧look e 16 = some (.int .u64 15)) (fun q=>q.2.1) (65,v,[]) ?_ ?_
 ·refine ⟨⟨16,by omega,by omega,by omega,by simp,by omega,by simp [hx]⟩,hv,?_,?_⟩
  ·show [some (List.replicate 65 (D.int .u8 0))] = [some (List.replicate 65 (D.int .u8 0) ++ [])]
   rw [List.append_nil]
  ·simp
 rintro ⟨i,u,s⟩ e H' ⟨hI,hu,rfl,k0,k1,k3,k4,k10,k11,k12,k13,k14,k15,k16⟩
 simp only at hI hu k1 k13
 obtain ⟨hl,h50⟩:=hexI_len hI
 obtain ⟨j,hj⟩:∃ j,i = j+1:=⟨i - 1,by omega⟩
 have hw:IntKind.i64.wrap ((i:Int) - 1) = (j:Int):=by rw [wrap_i64] <;> omega
 have hj65:(j:Int) < 65:=by omega
 have hj1:j+1≤i+s.length:=by omega
 have hj64:j≤64:=by omega
 by_cases h16:16≤u
 ·have h16':(16:Int)≤(u:Int):=by omega
  obtain ⟨h51,hS⟩:=hexI_step hI h16
  have ha:=and15_u64 hu
  have hd:=dig36_at (u % 16) (Nat.mod_lt _ (by decide))
  simp only [dig36] at hd
  have hf:=fdiv16 u
  have hst:=fill_of hj s (hexc (u % 16))
  have e1:i - 1 = j:=by omega
  rw [e1] at hS
  have hu2:u / 16 < u:=by omega
  have hu3:u / 16 < 18446744073709551616:=by omega
  generalize u / 16 = u2 at *
  generalize hexc (u % 16) = c at *
  obtain ⟨m,hm⟩:∃ m,m = u % 16:=⟨_,rfl⟩
  rw [← hm] at ha hd
  simp [-setRange_eq,k0,k1,k3,k4,k10,k11,k12,k13,k14,k15,k16,h16',hw,hj65,hj64,hl,ha,hd,hst]
  have hp4:(2:Int) ^ min 4 IntKind.u64.bits = 16:=by decide
  exact ⟨j,u2,hu2,c :: s,hS,hu3,by simp [hp4,hf]⟩
 ·have h16':¬ (16:Int)≤(u:Int):=by omega
  obtain ⟨hE,_,_,_⟩:=hexI_end hI (by omega)
  have hd:=dig36_at u (by omega)
  simp only [dig36] at hd
  have hst:=fill_of hj s (hexc u)
  have hdr:List.take (65 - j) (List.drop j (List.replicate j (D.int .u8 0) ++ ofBytes (hexc u :: s))) = ofBytes (hx v):=by
   rw [List.drop_left' (by simp),hE]
   refine List.take_of_length_le ?_
   rw [← hE]
   simp
   omega
  have hj2:(j:Int)≤65:=by omega
  have hj3:j≤65:=by omega
  have hj4:j < 65:=by omega
  have hl3:j+(65 - j) = 65:=by omega
  have hl4:j+(hx v).length = 65:=by rw [← hE];simp;omega
  have hlh:(hx v).length = 65 - j:=by rw [← hE];simp;omega
  have hl2:j+(ofBytes (hexc u :: s)).length = 65:=by simp;omega
  simp only [hE] at hst hdr hl2
  generalize hexc u = c at *
  simp [-setRange_eq,k0,k1,k3,k4,k10,k11,k12,k13,k14,k15,k16,h16',hw,hj65,hj64,hl,hd,hst,hj2,hj4,hl3,hlh]
theorem fui16_ev [MaxL] [TxtC] (v:Nat) (hv:v < 18446744073709551616):call cx 111 [.int .u64 v,.int .i64 16] [] = some (.str (hx v),[]):=by
 have h:=fb16_ev v hv
 refine call_run Tryz.func111 rfl ⟨rfl,rfl⟩ ?_
 simp [Tryz.f111,h]
theorem fu16_ev [MaxL] [TxtC] (v:Nat) (hv:v < 18446744073709551616):call cx 80 [.int .u64 v,.int .i64 16] [] = some (.str (hx v),[]):=by
 have h:=fui16_ev v hv
 refine call_run Tryz.func80 rfl ⟨rfl,rfl⟩ ?_
 simp [Tryz.f80,h]
end Go.Ev.S
namespace Go.Ev.S
open Go Go.Proofs Go.Ev
structure CurOk (c:Cur):Prop where
 n:isU64 c.n
 mono:isU64 c.mono
 real:isU64 c.real
 xor:isU64 c.xor
end Go.Ev.S
namespace Go.Ev.S
open Go Go.Proofs Go.Ev
theorem show1_ev [MaxL] [TxtC] (v:Nat) (hv:v < 18446744073709551616):call cx 81 [.int .u64 v] [] = some (.str (hx v),[]):=by
 have h:=fu16_ev v hv
 refine call_run Tryz.func81 rfl ⟨rfl,rfl⟩ ?_
 simp [Tryz.f81,h]
set_option maxHeartbeats 2000000 in
theorem show_ev [MaxL] [TxtC] (c:Cur) (h:CurOk c):call cx 43 [.agg (Enc.cells c)] [] = some (.str (showL c),[]):=by
 obtain ⟨w1,w2,w3,w4⟩:=h
 unfold isU64 at w1 w2 w3 w4
 have e1:((c.n.toNat:Nat):Int) = c.n:=by omega
 have e2:((c.mono.toNat:Nat):Int) = c.mono:=by omega
 have e3:((c.real.toNat:Nat):Int) = c.real:=by omega
 have e4:((c.xor.toNat:Nat):Int) = c.xor:=by omega
 have h1:=hex_ev c.seq.l c.seq.h
 have h2:=show1_ev c.n.toNat (by omega)
 have h3:=hex_ev c.boot.l c.boot.h
 have h4:=show1_ev c.mono.toNat (by omega)
 have h5:=show1_ev c.real.toNat (by omega)
 have h6:=show1_ev c.xor.toNat (by omega)
 rw [e1] at h2
 rw [e2] at h4
 rw [e3] at h5
 rw [e4] at h6
 have l1:=hexs_len c.seq.l
 have l2:=hx_len c.n.toNat
 have l3:=hexs_len c.boot.l
 have l4:=hx_len c.mono.toNat
 have l5:=hx_len c.real.toNat
 have l6:=hx_len c.xor.toNat
 rw [c.seq.h] at l1
 rw [c.boot.h] at l3
 unfold showL
 generalize hexs c.seq.l = a1 at *
 generalize hx c.n.toNat = a2 at *
 generalize hexs c.boot.l = a3 at *
 generalize hx c.mono.toNat = a4 at *
 generalize hx c.real.toNat = a5 at *
 generalize hx c.xor.toNat = a6 at *
 clear e1 e2 e3 e4 w1 w2 w3 w4
 obtain ⟨s1,es1⟩:∃ s,s = kS ++ a1:=⟨_,rfl⟩
 have ls1:s1.length = kS.length+a1.length:=by rw [es1,List.length_append]
 obtain ⟨s2,es2⟩:∃ s,s = s1 ++ kI:=⟨_,rfl⟩
 have ls2:s2.length = s1.length+kI.length:=by rw [es2,List.length_append]
 obtain ⟨s3,es3⟩:∃ s,s = s2 ++ a2:=⟨_,rfl⟩
 have ls3:s3.length = s2.length+a2.length:=by rw [es3,List.length_append]
 obtain ⟨s4,es4⟩:∃ s,s = s3 ++ kB:=⟨_,rfl⟩
 have ls4:s4.length = s3.length+kB.length:=by rw [es4,List.length_append]
 obtain ⟨s5,es5⟩:∃ s,s = s4 ++ a3:=⟨_,rfl⟩
 have ls5:s5.length = s4.length+a3.length:=by rw [es5,List.length_append]
 obtain ⟨s6,es6⟩:∃ s,s = s5 ++ kM:=⟨_,rfl⟩
 have ls6:s6.length = s5.length+kM.length:=by rw [es6,List.length_append]
 obtain ⟨s7,es7⟩:∃ s,s = s6 ++ a4:=⟨_,rfl⟩
 have ls7:s7.length = s6.length+a4.length:=by rw [es7,List.length_append]
 obtain ⟨s8,es8⟩:∃ s,s = s7 ++ kT:=⟨_,rfl⟩
 have ls8:s8.length = s7.length+kT.length:=by rw [es8,List.length_append]
 obtain ⟨s9,es9⟩:∃ s,s = s8 ++ a5:=⟨_,rfl⟩
 have ls9:s9.length = s8.length+a5.length:=by rw [es9,List.length_append]
 obtain ⟨s10,es10⟩:∃ s,s = s9 ++ kX:=⟨_,rfl⟩
 have ls10:s10.length = s9.length+kX.length:=by rw [es10,List.length_append]
 obtain ⟨s11,es11⟩:∃ s,s = s10 ++ a6:=⟨_,rfl⟩
 have ls11:s11.length = s10.length+a6.length:=by rw [es11,List.length_append]
 simp only [kS,kI,kB,kM,kT,kX,List.length_cons,List.length_nil] at ls1 ls2 ls3 ls4 ls5 ls6 ls7 ls8 ls9 ls10 ls11
 have cs1:=cat_of es1 (by (try simp only [kS,List.length_cons,List.length_nil]);omega)
 have cs2:=cat_of es2 (by (try simp only [kI,List.length_cons,List.length_nil]);omega)
 have cs3:=cat_of es3 (by (try simp only [kS,kI,kB,kM,kT,kX,List.length_cons,List.length_nil]);omega)
 have cs4:=cat_of es4 (by (try simp only [kB,List.length_cons,List.length_nil]);omega)
 have cs5:=cat_of es5 (by (try simp only [kS,kI,kB,kM,kT,kX,List.length_cons,List.length_nil]);omega)
 have cs6:=cat_of es6 (by (try simp only [kM,List.length_cons,List.length_nil]);omega)
 have cs7:=cat_of es7 (by (try simp only [kS,kI,kB,kM,kT,kX,List.length_cons,List.length_nil]);omega)
 have cs8:=cat_of es8 (by (try simp only [kT,List.length_cons,List.length_nil]);omega)
 have cs9:=cat_of es9 (by (try simp only [kS,kI,kB,kM,kT,kX,List.length_cons,List.length_nil]);omega)
 have cs10:=cat_of es10 (by (try simp only [kX,List.length_cons,List.length_nil]);omega)
 have cs11:=cat_of es11 (by (try simp only [kS,kI,kB,kM,kT,kX,List.length_cons,List.length_nil]);omega)
 simp only [kS,kI,kB,kM,kT,kX] at cs1 cs2 cs3 cs4 cs5 cs6 cs7 cs8 cs9 cs10 cs11
 have hfin:kS ++ (a1 ++ (kI ++ (a2 ++ (kB ++ (a3 ++ (kM ++ (a4 ++ (kT ++ (a5 ++ (kX ++ a6)))))))))) = s11:=by
  simp [es11,es10,es9,es8,es7,es6,es5,es4,es3,es2,es1]
 rw [hfin]
 clear hfin es1 es2 es3 es4 es5 es6 es7 es8 es9 es10 es11 ls1 ls2 ls3 ls4 ls5 ls6 ls7 ls8 ls9 ls10 ls11 l1 l2 l3 l4 l5 l6
 refine call_run Tryz.func43 rfl ⟨rfl,rfl⟩ ?_
 simp [Tryz.f43,h1,h2,h3,h4,h5,h6,-strD,cs1,cs2,cs3,cs4,cs5,cs6,cs7,cs8,cs9,cs10,cs11]
end Go.Ev.S
namespace Go.Ev.S
open Go Go.Proofs Go.Ev
set_option maxHeartbeats 2000000 in
theorem rfixed_ev [MaxL] [TxtC] (v:Nat) (hv:v < 18446744073709551616):call cx 123 [.int .u64 v] [] = some (.str (fxN 16 v),[]):=by
 refine call_run Tryz.func123 rfl ⟨rfl,rfl⟩ ?_
 obtain ⟨r,hr⟩:∃ r,fxN 16 v = r:=⟨_,rfl⟩
 rw [hr]
 simp [Tryz.f123]
 refine Run.loopThen (fun (q:Nat × Nat × List UInt8) e H'=>q.1≤16∧q.2.1 < 18446744073709551616∧q.2.2.length = q.1∧fxN (16 - q.1) q.2.1 ++ q.2.2 = r∧look e 0 = some (.int .u64 (q.2.1:Nat))∧look e 3 = some (.str q.2.2)∧look e 4 = some (.int .i64 (q.1:Nat))∧H' = []) (fun q=>16 - q.1) (0,v,[]) ?_ ?_
 ·simp [hr,hv]
 rintro ⟨k,u,w⟩ e H' ⟨hk,hu,hwl,hR,k0,k3,k4,rfl⟩
 simp only at hk hu hwl hR k0 k3 k4
 by_cases hlt:k < 16
 ·have hlt':(k:Int) < 16:=by omega
  have hw:IntKind.i64.wrap ((k:Int)+1) = ((k+1:Nat):Int):=by rw [wrap_i64] <;> omega
  obtain ⟨m,hm⟩:∃ m,16 - k = m+1:=⟨15 - k,by omega⟩
  rw [hm,fxN] at hR
  have d1:=dig_cut (u % 16) (by omega)
  generalize hexc (u % 16) = c1 at *
  obtain ⟨m1,hm1⟩:∃ m1,m1 = u % 16:=⟨_,rfl⟩
  rw [← hm1] at d1
  have q2:(u:Int).tmod 16 = (m1:Int):=by rw [hm1];exact (Int.ofNat_tmod u 16).symm
  obtain ⟨u',hu'⟩:∃ u',u' = u / 16:=⟨_,rfl⟩
  rw [← hu'] at hR
  have q1:IntKind.u64.wrap ((u:Int) / 16) = (u':Int):=by rw [wrap_u64] <;> omega
  have w1:IntKind.u64.wrap ((m1:Int)+1) = (m1:Int)+1:=by rw [wrap_u64];omega
  have t1:m1≤15:=by omega
  have n1:((m1:Int)+1).toNat = m1+1:=by omega
  have u1:(m1:Int)+1≤16:=by omega
  have v1:(0:Int)≤(m1:Int)+1:=by omega
  have y1:(m1:Int)≤(m1:Int)+1:=by omega
  have x1:1+w.length≤4611686018427387904:=by omega
  have x2:w.length+1≤4611686018427387904:=by omega
  simp only [digL] at d1
  simp [k0,k3,k4,hlt',hw,q1,q2,w1,d1,n1,u1,v1,y1,x1]
  exact ⟨k+1,by omega,by omega,u',by omega,c1 :: w,by simp [hwl],by rw [show 16 - (k+1) = m by omega,← hR];simp,rfl,rfl,by omega⟩
 ·have hlt':¬ (k:Int) < 16:=by omega
  have hke:k = 16:=by omega
  subst hke
  simp only [Nat.sub_self,fxN,List.nil_append] at hR
  subst hR
  simp [k0,k3,k4]
theorem rsmall_ev [MaxL] [TxtC] (v:Nat) (hv:v < 18446744073709551616):call cx 99 [.int .u64 v] [] = some (.str (hx v),[]):=by
 have h:=rfixed_ev v hv
 have hr:=strip0_fixed hv
 have hl:=fxN_len 16 v
 generalize hx v = r at *
 generalize fxN 16 v = s at *
 refine call_run Tryz.func99 rfl ⟨rfl,rfl⟩ ?_
 simp [Tryz.f99,h]
 refine Run.loopThen (fun (w:List UInt8) e H'=>strip0 w = r∧look e 3 = some (.str w)∧H' = []) (fun w=>w.length) s ?_ ?_
 ·simp [hr]
 rintro w e H' ⟨hR,k3,rfl⟩
 match w,hR,k3 with
 | [],hR,k3 =>
  rw [strip0] at hR
  subst hR
  simp [k3]
 | [c],hR,k3 =>
  rw [strip0] at hR
  subst hR
  simp [k3]
 | c :: d :: l,hR,k3 =>
  rw [strip0] at hR
  have hl1:(1:Int) < (l.length:Int)+1+1:=by omega
  by_cases hc:c = 48
  ·rw [if_pos hc] at hR
   subst hc
   have hl2:(1:Int)≤(l.length:Int)+1+1:=by omega
   simp [k3,hl1,hl2]
   exact hR
  ·rw [if_neg hc] at hR
   subst hR
   have hc2:¬ (c.toNat:Int) = 48:=by
    intro h
    exact hc (UInt8.toNat.inj (by show c.toNat = 48;omega))
   simp [k3,hl1,hc2]
set_option maxHeartbeats 2000000 in
theorem rshow_ev [MaxL] [TxtC] (c:Cur) (h:CurOk c):call cx 57 [.agg (Enc.cells c)] [] = some (.str (showL c),[]):=by
 obtain ⟨w1,w2,w3,w4⟩:=h
 unfold isU64 at w1 w2 w3 w4
 have e1:((c.n.toNat:Nat):Int) = c.n:=by omega
 have e2:((c.mono.toNat:Nat):Int) = c.mono:=by omega
 have e3:((c.real.toNat:Nat):Int) = c.real:=by omega
 have e4:((c.xor.toNat:Nat):Int) = c.xor:=by omega
 have h1:=rhex_ev c.seq.l c.seq.h
 have h2:=rsmall_ev c.n.toNat (by omega)
 have h3:=rhex_ev c.boot.l c.boot.h
 have h4:=rsmall_ev c.mono.toNat (by omega)
 have h5:=rsmall_ev c.real.toNat (by omega)
 have h6:=rsmall_ev c.xor.toNat (by omega)
 rw [e1] at h2
 rw [e2] at h4
 rw [e3] at h5
 rw [e4] at h6
 have l1:=hexs_len c.seq.l
 have l2:=hx_len c.n.toNat
 have l3:=hexs_len c.boot.l
 have l4:=hx_len c.mono.toNat
 have l5:=hx_len c.real.toNat
 have l6:=hx_len c.xor.toNat
 rw [c.seq.h] at l1
 rw [c.boot.h] at l3
 unfold showL
 generalize hexs c.seq.l = a1 at *
 generalize hx c.n.toNat = a2 at *
 generalize hexs c.boot.l = a3 at *
 generalize hx c.mono.toNat = a4 at *
 generalize hx c.real.toNat = a5 at *
 generalize hx c.xor.toNat = a6 at *
 clear e1 e2 e3 e4 w1 w2 w3 w4
 obtain ⟨s1,es1⟩:∃ s,s = kS ++ a1:=⟨_,rfl⟩
 have ls1:s1.length = kS.length+a1.length:=by rw [es1,List.length_append]
 obtain ⟨s2,es2⟩:∃ s,s = s1 ++ kI:=⟨_,rfl⟩
 have ls2:s2.length = s1.length+kI.length:=by rw [es2,List.length_append]
 obtain ⟨s3,es3⟩:∃ s,s = s2 ++ a2:=⟨_,rfl⟩
 have ls3:s3.length = s2.length+a2.length:=by rw [es3,List.length_append]
 obtain ⟨s4,es4⟩:∃ s,s = s3 ++ kB:=⟨_,rfl⟩
 have ls4:s4.length = s3.length+kB.length:=by rw [es4,List.length_append]
 obtain ⟨s5,es5⟩:∃ s,s = s4 ++ a3:=⟨_,rfl⟩
 have ls5:s5.length = s4.length+a3.length:=by rw [es5,List.length_append]
 obtain ⟨s6,es6⟩:∃ s,s = s5 ++ kM:=⟨_,rfl⟩
 have ls6:s6.length = s5.length+kM.length:=by rw [es6,List.length_append]
 obtain ⟨s7,es7⟩:∃ s,s = s6 ++ a4:=⟨_,rfl⟩
 have ls7:s7.length = s6.length+a4.length:=by rw [es7,List.length_append]
 obtain ⟨s8,es8⟩:∃ s,s = s7 ++ kT:=⟨_,rfl⟩
 have ls8:s8.length = s7.length+kT.length:=by rw [es8,List.length_append]
 obtain ⟨s9,es9⟩:∃ s,s = s8 ++ a5:=⟨_,rfl⟩
 have ls9:s9.length = s8.length+a5.length:=by rw [es9,List.length_append]
 obtain ⟨s10,es10⟩:∃ s,s = s9 ++ kX:=⟨_,rfl⟩
 have ls10:s10.length = s9.length+kX.length:=by rw [es10,List.length_append]
 obtain ⟨s11,es11⟩:∃ s,s = s10 ++ a6:=⟨_,rfl⟩
 have ls11:s11.length = s10.length+a6.length:=by rw [es11,List.length_append]
 simp only [kS,kI,kB,kM,kT,kX,List.length_cons,List.length_nil] at ls1 ls2 ls3 ls4 ls5 ls6 ls7 ls8 ls9 ls10 ls11
 have cs1:=cat_of es1 (by (try simp only [kS,List.length_cons,List.length_nil]);omega)
 have cs2:=cat_of es2 (by (try simp only [kI,List.length_cons,List.length_nil]);omega)
 have cs3:=cat_of es3 (by (try simp only [kS,kI,kB,kM,kT,kX,List.length_cons,List.length_nil]);omega)
 have cs4:=cat_of es4 (by (try simp only [kB,List.length_cons,List.length_nil]);omega)
 have cs5:=cat_of es5 (by (try simp only [kS,kI,kB,kM,kT,kX,List.length_cons,List.length_nil]);omega)
 have cs6:=cat_of es6 (by (try simp only [kM,List.length_cons,List.length_nil]);omega)
 have cs7:=cat_of es7 (by (try simp only [kS,kI,kB,kM,kT,kX,List.length_cons,List.length_nil]);omega)
 have cs8:=cat_of es8 (by (try simp only [kT,List.length_cons,List.length_nil]);omega)
 have cs9:=cat_of es9 (by (try simp only [kS,kI,kB,kM,kT,kX,List.length_cons,List.length_nil]);omega)
 have cs10:=cat_of es10 (by (try simp only [kX,List.length_cons,List.length_nil]);omega)
 have cs11:=cat_of es11 (by (try simp only [kS,kI,kB,kM,kT,kX,List.length_cons,List.length_nil]);omega)
 simp only [kS,kI,kB,kM,kT,kX] at cs1 cs2 cs3 cs4 cs5 cs6 cs7 cs8 cs9 cs10 cs11
 have hfin:kS ++ (a1 ++ (kI ++ (a2 ++ (kB ++ (a3 ++ (kM ++ (a4 ++ (kT ++ (a5 ++ (kX ++ a6)))))))))) = s11:=by
  simp [es11,es10,es9,es8,es7,es6,es5,es4,es3,es2,es1]
 rw [hfin]
 clear hfin es1 es2 es3 es4 es5 es6 es7 es8 es9 es10 es11 ls1 ls2 ls3 ls4 ls5 ls6 ls7 ls8 ls9 ls10 ls11 l1 l2 l3 l4 l5 l6
 refine call_run Tryz.func57 rfl ⟨rfl,rfl⟩ ?_
 simp [Tryz.f57,h1,h2,h3,h4,h5,h6,-strD,cs1,cs2,cs3,cs4,cs5,cs6,cs7,cs8,cs9,cs10,cs11]
end Go.Ev.S
namespace Go.Ev.S
open Go Go.Proofs Go.Ev
theorem z36:[.int .u8 0,.int .u8 0,.int .u8 0,.int .u8 0,.int .u8 0,.int .u8 0,.int .u8 0,.int .u8 0,.int .u8 0,.int .u8 0,.int .u8 0,.int .u8 0,.int .u8 0,.int .u8 0,.int .u8 0,.int .u8 0,.int .u64 0,.int .u8 0,.int .u8 0,.int .u8 0,.int .u8 0,.int .u8 0,.int .u8 0,.int .u8 0,.int .u8 0,.int .u8 0,.int .u8 0,.int .u8 0,.int .u8 0,.int .u8 0,.int .u8 0,.int .u8 0,.int .u8 0,.int .u64 0,.int .u64 0,.int .u64 0] = Enc.cells Cur.zero:=rfl
def payL (p:Pr):List UInt8:=(p.name ++ [61]) ++ p.value
theorem pay_ev [MaxL] [TxtC] (p:Pr) (h1:p.name.length < 1000000) (h2:p.value.length < 1000000):call cx 109 [.agg (Enc.cells p)] [] = some (.str (payL p),[]):=by
 refine call_run Tryz.func109 rfl ⟨rfl,rfl⟩ ?_
 have x1:p.name.length+1≤4611686018427387904:=by omega
 have x2:p.name.length+1+p.value.length≤4611686018427387904:=by omega
 have x3:p.name.length+(p.value.length+1)≤4611686018427387904:=by omega
 unfold payL
 simp [Tryz.f109,Pr.cells,x1,x2]
def xorP:List (List UInt8)→Int→Int
 | [],v=>v
 | b :: l,v=>xorP l (xorI .u64 v (lookN b))
def bD (b:List UInt8):D:=.vsl false (ofBytes b) b.length
theorem bDs_at {L:List (List UInt8)} {k:Nat} (h:k < L.length):List.drop k (L.map bD) = bD L[k] :: List.drop (k+1) (L.map bD):=by
 rw [List.drop_eq_getElem_cons (by simpa using h)]
 simp
set_option maxHeartbeats 1000000 in
theorem xor_ev [MaxL] [TxtC] (nl:Bool) (L:List (List UInt8)) (hnl:nl = true→L = []) (hL:L.length < 1000000) (hb:∀ b∈L,b.length < 3000000):call cx 82 [.vsl nl (L.map bD) L.length] [] = some (.int .u64 (xorP L 0),[]):=by
 refine call_run Tryz.func82 rfl ⟨rfl,rfl⟩ ?_
 obtain ⟨r,hr⟩:∃ r,xorP L 0 = r:=⟨_,rfl⟩
 rw [hr]
 simp [Tryz.f82]
 refine Run.loopThen (fun (q:Nat × Int) e H'=>q.1≤L.length∧xorP (L.drop q.1) q.2 = r∧look e 3 = some (.int .u64 q.2)∧look e 6 = some (.vsl nl (L.map bD) L.length)∧look e 7 = some (.int .i64 L.length)∧look e 8 = some (.int .i64 (q.1:Nat))∧H' = []) (fun q=>L.length - q.1) (0,0) ?_ ?_
 ·simp [hr]
 rintro ⟨k,v⟩ e H' ⟨hk,hR,k3,k6,k7,k8,rfl⟩
 simp only at hk hR k3 k8
 by_cases hlt:k < L.length
 ·have hlt':(k:Int) < (L.length:Int):=by omega
  have hw:IntKind.i64.wrap ((k:Int)+1) = ((k+1:Nat):Int):=by rw [wrap_i64] <;> omega
  have hnn:nl = false:=by
   cases hq:nl with
   | false=>rfl
   | true=>rw [hnl hq] at hlt;simp at hlt
  have hat:=bDs_at hlt
  rw [List.drop_eq_getElem_cons hlt,xorP] at hR
  have hl:=lookup_ev (.of L[k]) (by have:=hb _ (List.getElem_mem hlt);show L[k].length < _;omega)
  replace hl:call cx 112 [.vsl false (ofBytes L[k]) L[k].length] [] = some (.int .u64 (lookN L[k]),[]):=hl
  generalize L[k] = b at *
  generalize lookN b = z at *
  simp [k3,k6,k7,k8,hlt',hw,hnn,hat,bD,hl]
  exact ⟨k+1,by omega,by omega,_,hR,rfl,by omega⟩
 ·have hlt':¬ (k:Int) < (L.length:Int):=by omega
  rw [List.drop_eq_nil_of_le (by omega),xorP] at hR
  subst hR
  simp [k3,k6,k7,k8,hlt']
def PrB (p:Pr):Prop:=p.name.length < 1000000∧p.value.length < 1000000
theorem payL_len {p:Pr} (h:PrB p):(payL p).length < 3000000:=by
 obtain ⟨h1,h2⟩:=h
 unfold payL
 simp
 omega
def cOfP (q:ID) (r:Rec):Cur:=⟨q,r.seq,r.boot,r.mono,r.real,xorP (r.fields.l.map payL) 0⟩
def paysB (l:List Pr):List D:=(l.map payL).map bD
theorem paysB_len (l:List Pr):(paysB l).length = l.length:=by simp [paysB]
theorem paysB_idFree (l:List Pr):(paysB l).all idFree = true:=by
 rw [List.all_eq_true]
 intro x hx
 obtain ⟨b,_,rfl⟩:=List.mem_map.1 hx
 rfl
@[simp] theorem paysB_idFree' (l:List Pr):(paysB l).all idFree = true:=paysB_idFree l
@[simp] theorem paysB_idFreeL (l:List Pr):idFree.idFreeL (paysB l) = true:=by rw [idFreeL_all];exact paysB_idFree l
@[simp] theorem paysB_closedL (n:Nat) (l:List Pr):closed.closedL n (paysB l) = true:=closedL_free n _ (paysB_idFreeL l)
@[simp] theorem paysB_closed (n:Nat) (l:List Pr):(paysB l).all (closed n) = true:=by rw [← closedL_all];exact paysB_closedL n l
@[simp] theorem paysB_aI (l:List Pr):(∀ x,x∈paysB l→idFree x = true) = True:=eq_true (List.all_eq_true.1 (paysB_idFree l))
@[simp] theorem paysB_aC (n:Nat) (l:List Pr):(∀ x,x∈paysB l→closed n x = true) = True:=eq_true (List.all_eq_true.1 (paysB_closed n l))
theorem paysB_snoc {l:List Pr} {k:Nat} (h:k < l.length):paysB (l.take k) ++ [bD (payL l[k])] = paysB (l.take (k+1)):=by
 unfold paysB
 rw [List.take_succ_eq_append_getElem h,List.map_append,List.map_append]
 rfl
set_option maxHeartbeats 4000000 in
theorem cof_ev [MaxL] [TxtC] (q:ID) (r:Rec) (hn:r.fields.l.length < 1000000) (hb:∀ p∈r.fields.l,PrB p):call cx 44 [.agg (ofBytes q.l),.agg (Enc.cells r)] [] = some (.agg (Enc.cells (cOfP q r)),[]):=by
 have hL:Enc.cells r = .int .u64 r.seq :: .int .u64 r.real :: .int .u64 r.mono :: (ofBytes r.boot.l ++ [(.vsl r.fields.nil (encs r.fields.l) r.fields.l.length)]):=Rec.cells r
 have hC:Enc.cells (cOfP q r) = ofBytes q.l ++ ([.int .u64 r.seq] ++ (ofBytes r.boot.l ++ [.int .u64 r.mono,.int .u64 r.real,.int .u64 (xorP (r.fields.l.map payL) 0)])):=rfl
 have hbl:∀ b∈r.fields.l.map payL,b.length < 3000000:=by
  intro b hm
  obtain ⟨p,hp,rfl⟩:=List.mem_map.1 hm
  exact payL_len (hb p hp)
 have hxe:=fun nl h=>xor_ev nl (r.fields.l.map payL) h (by simpa using hn) hbl
 rw [hL,hC]
 have hz:=z36
 clear hL hC
 generalize r.fields = F at *
 refine call_run Tryz.func44 rfl ⟨rfl,rfl⟩ ?_
 simp [Tryz.f44,hz]
 refine Run.loopThen (fun (k:Nat) e H'=>k≤F.l.length∧look e 2 = some (.optr 0 16 0)∧look e 3 = some (.optr 1 20 0)∧look e 4 = some (.optr 2 36 0)∧look e 9 = some (.vsl F.nil (encs F.l) F.l.length)∧look e 10 = some (.int .i64 F.l.length)∧look e 11 = some (.int .i64 k) ∧
   ((k = 0∧look e 5 = some (.vsl true [] 0)∧H' = [some (ofBytes q.l),some (.int .u64 r.seq :: .int .u64 r.real :: .int .u64 r.mono :: (ofBytes r.boot.l ++ [(.vsl F.nil (encs F.l) F.l.length)])),some (Enc.cells Cur.zero)]) ∨
   (∃ n1 v1,0 < k∧look e 5 = some (.osl 4 k 0 k 1)∧H' = [some (ofBytes q.l),some (.int .u64 r.seq :: .int .u64 r.real :: .int .u64 r.mono :: (ofBytes r.boot.l ++ [(.vsl F.nil (encs F.l) F.l.length)])),some (Enc.cells Cur.zero),some [.str n1,.str v1],some (paysB (F.l.take k))]) ∨
   (∃ n1 v1 n2 v2,0 < k∧look e 5 = some (.osl 4 k 0 k 1)∧H' = [some (ofBytes q.l),some (.int .u64 r.seq :: .int .u64 r.real :: .int .u64 r.mono :: (ofBytes r.boot.l ++ [(.vsl F.nil (encs F.l) F.l.length)])),some (Enc.cells Cur.zero),some [.str n1,.str v1],some (paysB (F.l.take k)),some [.str n2,.str v2]]))) (fun k=>F.l.length - k) 0 (by simp) ?_
 rintro k e H' ⟨hk,k2,k3,k4,k9,k10,k11,hH⟩
 by_cases hlt:k < F.l.length
 ·have hlt':(k:Int) < (F.l.length:Int):=by omega
  have hw:IntKind.i64.wrap ((k:Int)+1) = ((k+1:Nat):Int):=by rw [wrap_i64] <;> omega
  have hpb:=hb F.l[k] (List.getElem_mem hlt)
  have hsn:=paysB_snoc hlt
  have hpl:=paysB_len (F.l.take k)
  rw [List.length_take,Nat.min_eq_left (by omega)] at hpl
  have hpy:payL F.l[k] = F.l[k].name ++ 61 :: F.l[k].value:=by simp [payL]
  have hnn:=Sl.nn hlt
  obtain ⟨x1,x2⟩:=hpb
  have x3:F.l[k].name.length+1≤4611686018427387904:=by omega
  have x4:F.l[k].name.length+1+F.l[k].value.length≤4611686018427387904:=by omega
  have x5:F.l[k].name.length+(F.l[k].value.length+1)≤4611686018427387904:=by omega
  have hbD:bD (payL F.l[k]) = .vsl false (ofBytes (F.l[k].name ++ 61 :: F.l[k].value)) (F.l[k].name.length+(F.l[k].value.length+1)):=by
   unfold bD
   rw [hpy]
   simp
  rw [hbD] at hsn
  have hm1:24≤maxBytes:=by decide
  have hm2:1≤maxBytes:=by decide
  have hmx:(k+1) * 24≤maxBytes:=Nat.le_trans (show _≤30000000 by omega) (by decide)
  have hmx2:k+1≤maxBytes:=Nat.le_trans (show _≤30000000 by omega) (by decide)
  rcases hH with ⟨rfl,k5,rfl⟩ | ⟨n1,v1,hk0,k5,rfl⟩ | ⟨n1,v1,n2,v2,hk0,k5,rfl⟩
  ·have hc0:List.take 2 (encs F.l) = [.str F.l[0].name,.str F.l[0].value]:=by
    rw [encs_at0 hlt,Pr.cells]
    rfl
   have hc1:2≤F.l.length * 2:=by omega
   simp [k2,k3,k4,k5,k9,k10,k11,hlt,hnn,x3,x4,hc0,hc1,hm1,hm2]
   exact ⟨1,by omega,by omega,by simp,by omega,rfl,hsn⟩
  ·simp [k2,k3,k4,k5,k9,k10,k11,hlt',hlt,hw,hnn,x3,x4,Pr.cells,hmx,hmx2,hpl,hsn]
   exact ⟨k+1,by omega,by omega,by omega,by omega,rfl,rfl⟩
  ·simp [k2,k3,k4,k5,k9,k10,k11,hlt',hlt,hw,hnn,x3,x4,Pr.cells,hmx,hmx2,hpl,hsn]
   exact ⟨k+1,by omega,by omega,by omega,by omega,rfl,rfl⟩
 ·have hlt':¬ (k:Int) < (F.l.length:Int):=by omega
  have hke:k = F.l.length:=by omega
  have htk:F.l.take k = F.l:=List.take_of_length_le (by omega)
  rw [htk] at hH
  have hpl:=paysB_len F.l
  have htp:List.take F.l.length (paysB F.l) = paysB F.l:=List.take_of_length_le (by omega)
  rcases hH with ⟨rfl,k5,rfl⟩ | ⟨n1,v1,hk0,k5,rfl⟩ | ⟨n1,v1,n2,v2,hk0,k5,rfl⟩
  ·have hl0:F.l = []:=List.length_eq_zero_iff.1 hke.symm
   have hx:=hxe true (fun _=>by rw [hl0];rfl)
   rw [hl0] at hx
   simp at hx
   simp [k2,k3,k4,k5,k9,k10,k11,hl0,hx,List.drop_append,List.take_append,drop_bytes]
  ·have hx:=hxe false (fun h=>by cases h)
   replace hx:call cx 82 [.vsl false (paysB F.l) F.l.length] [] = some (.int .u64 (xorP (F.l.map payL) 0),[]):=by
    simpa [paysB] using hx
   subst hke
   generalize xorP (F.l.map payL) 0 = z at *
   simp [k2,k3,k4,k5,k9,k10,k11,hlt',hx,hpl,htp,List.drop_append,List.take_append,drop_bytes]
  ·have hx:=hxe false (fun h=>by cases h)
   replace hx:call cx 82 [.vsl false (paysB F.l) F.l.length] [] = some (.int .u64 (xorP (F.l.map payL) 0),[]):=by
    simpa [paysB] using hx
   subst hke
   generalize xorP (F.l.map payL) 0 = z at *
   simp [k2,k3,k4,k5,k9,k10,k11,hlt',hx,hpl,htp,List.drop_append,List.take_append,drop_bytes]
end Go.Ev.S
namespace Go.Ev.S
open Go Go.Proofs Go.Ev
theorem bytesclone_ev [MaxL] [TxtC] (s:Sl UInt8) (hn:s.l.length≤140737488355328) :
  call cx 104 [(.vsl s.nil (ofBytes s.l) s.l.length)] [] = if s.nil then some (.vsl true [] 0,[]) else some (.osl 0 s.l.length 0 s.l.length 1,[some (ofBytes s.l)]):=by
 obtain ⟨nil,l,hnil⟩:=s
 simp only at hn ⊢
 cases nil with
 | true =>
  have hl0:=hnil rfl
  subst hl0
  rw [if_pos rfl]
  refine call_run Tryz.func104 rfl ⟨rfl,rfl⟩ ?_
  simp [Tryz.f104]
 | false =>
  rw [if_neg (by decide)]
  refine call_run Tryz.func104 rfl ⟨rfl,rfl⟩ ?_
  simp [Tryz.f104,maxBytes,hn]
theorem leB_val (v:Nat) {i:Nat} (hi:i≤7):IntKind.u8.wrap ((v:Int).fdiv (2 ^ min (8 * i) 64)) = ((UInt8.ofNat (v / 256 ^ i % 256)).toNat:Int):=by
 have e1:min (8 * i) 64 = 8 * i:=by omega
 have e2:((2:Int) ^ (8 * i)) = ((256 ^ i:Nat):Int):=by rw [Int.pow_mul];simp
 have e3:(v:Int).fdiv ((256 ^ i:Nat):Int) = ((v / 256 ^ i:Nat):Int):=by
  rw [Int.fdiv_eq_ediv_of_nonneg _ (Int.natCast_nonneg _)]
  exact (Int.natCast_ediv v (256 ^ i)).symm
 rw [e1,e2,e3,UInt8.toNat_ofNat_of_lt' (Nat.mod_lt _ (by decide))]
 simp only [IntKind.wrap,IntKind.signed,IntKind.bits]
 simp
def Buf (d:D) (H:Heap) (l:List UInt8):Prop:=(d = .vsl true [] 0∧l = []∧H = [])∨(d = .osl 0 l.length 0 l.length 1∧H = [some (ofBytes l)])
def leAdd (l:List UInt8) (n:Int) (v:Nat):List UInt8:=if szOk n then l ++ leB n.toNat v else l
theorem buf_pack {d:D} {H:Heap} {l:List UInt8} (h:Buf d H l):pack 0 H d = some (d,H):=by
 rcases h with ⟨rfl,rfl,rfl⟩ | ⟨rfl,rfl⟩ <;> simp
set_option maxHeartbeats 1000000 in
theorem leadd_ev [MaxL] [TxtC] (s:Sl UInt8) (n:Int) (v:Nat) (hn:s.l.length≤140737488355000) :
  ∃ d H,Buf d H (leAdd s.l n v)∧call cx 64 [(.vsl s.nil (ofBytes s.l) s.l.length),.int .i64 n,.int .u64 v] [] = some (d,H):=by
 have hc:=bytesclone_ev s (by omega)
 have hs:=lesize_ev n
 have hcl:∃ d H,Buf d H s.l∧call cx 104 [(.vsl s.nil (ofBytes s.l) s.l.length)] [] = some (d,H)∧shift 0 d = d:=by
  cases hnil:s.nil with
  | true =>
   rw [hnil,if_pos rfl] at hc
   exact ⟨_,_,.inl ⟨rfl,s.h hnil,rfl⟩,hc,rfl⟩
  | false =>
   rw [hnil,if_neg (by decide)] at hc
   exact ⟨_,_,.inr ⟨rfl,rfl⟩,hc,rfl⟩
 obtain ⟨d0,H0,hb0,hc0,hsh⟩:=hcl
 cases hz:szOk n with
 | false =>
  rw [hz] at hs
  have hla:leAdd s.l n v = s.l:=by simp [leAdd,hz]
  rw [hla]
  refine ⟨d0,H0,hb0,?_⟩
  refine call_run Tryz.func64 rfl ⟨rfl,rfl⟩ ?_
  simp [Tryz.f64,hc0,hs,hsh,buf_pack hb0,-pack]
 | true =>
  have hb:=szOk_le hz
  rw [hz] at hs
  obtain ⟨k,rfl⟩:∃ k:Nat,n = k:=⟨n.toNat,by omega⟩
  have hla:leAdd s.l k v = s.l ++ leB k v:=by simp [leAdd,hz]
  have hR:∃ d H,Buf d H (leAdd s.l k v):=⟨_,_,.inr ⟨rfl,rfl⟩⟩
  refine ⟨.osl 0 (leAdd s.l k v).length 0 (leAdd s.l k v).length 1,[some (ofBytes (leAdd s.l k v))],.inr ⟨rfl,rfl⟩,?_⟩
  refine call_run Tryz.func64 rfl ⟨rfl,rfl⟩ ?_
  simp [Tryz.f64,hc0,hs,hsh,-pack]
  refine Run.loopThen (fun (i:Nat) e H=>i≤k∧(∃ d,look e 7 = some d∧Buf d H (s.l ++ leB i v))∧look e 2 = some (.int .u64 v)∧look e 15 = some (.int .i64 k)∧look e 16 = some (.int .i64 i)) (fun i=>k - i) 0 (by simp [leB,hb0]) ?_
  rintro i e H ⟨hi,⟨d,h7,hbuf⟩,h2,h15,h16⟩
  by_cases hlt:i < k
  ·have hlt':(i:Int) < (k:Int):=by omega
   have hw:IntKind.i64.wrap ((i:Int)+1) = ((i+1:Nat):Int):=by rw [wrap_i64] <;> omega
   have hw8:IntKind.i64.wrap (8 * (i:Int)) = 8 * (i:Int):=by rw [wrap_i64];omega
   have hng:¬ (8 * (i:Int) < 0):=by omega
   have htn:(8 * (i:Int)).toNat = 8 * i:=by omega
   have hv:=leB_val v (i:=i) (by omega)
   have hl:(s.l ++ leB i v).length≤140737488355100:=by simp;omega
   have hsn:s.l ++ leB (i+1) v = (s.l ++ leB i v) ++ [UInt8.ofNat (v / 256 ^ i % 256)]:=by rw [leB_snoc,List.append_assoc]
   generalize s.l ++ leB i v = l at *
   generalize UInt8.ofNat (v / 256 ^ i % 256) = c at *
   have hmx:l.length+1≤140737488355328:=by omega
   rcases hbuf with ⟨rfl,rfl,rfl⟩ | ⟨rfl,rfl⟩
   ·simp [h7,h2,h15,h16,hlt',hw,hw8,hng,htn,IntKind.bits,hv,maxBytes]
    exact ⟨i+1,by omega,by omega,.inr (by simp [hsn,ofBytes]),rfl⟩
   ·simp [h7,h2,h15,h16,hlt',hw,hw8,hng,htn,IntKind.bits,hv,maxBytes,hmx]
    exact ⟨i+1,by omega,by omega,.inr (by simp [hsn,ofBytes]),rfl⟩
  ·have hlt':¬ (i:Int) < (k:Int):=by omega
   have hik:i = k:=by omega
   subst hik
   rw [← hla] at hbuf
   have hlen:1≤(leAdd s.l i v).length:=by rw [hla];simp;omega
   rcases hbuf with ⟨rfl,hnil,rfl⟩ | ⟨rfl,rfl⟩
   ·rw [hnil] at hlen;simp at hlen
   ·simp [h7,h2,h15,h16,hlt']
end Go.Ev.S
namespace Go.Ev.S
open Go Go.Proofs Go.Ev
set_option maxHeartbeats 1000000 in
theorem rxor_ev [MaxL] [TxtC] (s:Sl Pr) (hn:s.l.length < 1000000) (hb:∀ p∈s.l,PrB p):call cx 100 [(.vsl s.nil (encs s.l) s.l.length)] [] = some (.int .u64 (xorP (s.l.map payL) 0),[]):=by
 refine call_run Tryz.func100 rfl ⟨rfl,rfl⟩ ?_
 obtain ⟨r,hr⟩:∃ r,xorP (s.l.map payL) 0 = r:=⟨_,rfl⟩
 rw [hr]
 simp [Tryz.f100]
 refine Run.loopThen (fun (q:Nat × Int) e H'=>q.1≤s.l.length∧xorP ((s.l.map payL).drop q.1) q.2 = r∧look e 0 = some (.vsl s.nil (encs s.l) s.l.length)∧look e 3 = some (.int .u64 q.2)∧look e 4 = some (.int .i64 (q.1:Nat))∧H' = []) (fun q=>s.l.length - q.1) (0,0) ?_ ?_
 ·simp [hr]
 rintro ⟨k,v⟩ e H' ⟨hk,hR,k0,k3,k4,rfl⟩
 simp only at hk hR k3 k4
 by_cases hlt:k < s.l.length
 ·have hlt':(k:Int) < (s.l.length:Int):=by omega
  have hw:IntKind.i64.wrap ((k:Int)+1) = ((k+1:Nat):Int):=by rw [wrap_i64] <;> omega
  rw [← List.map_drop,List.drop_eq_getElem_cons hlt,List.map_cons,xorP,List.map_drop] at hR
  have hpb:=hb s.l[k] (List.getElem_mem hlt)
  have hp:=pay_ev s.l[k] hpb.1 hpb.2
  have hpl:=payL_len hpb
  have hl:=rlookup_ev (.of (payL s.l[k])) (by show (payL s.l[k]).length < _;omega)
  replace hl:call cx 124 [.vsl false (ofBytes (payL s.l[k])) (payL s.l[k]).length] [] = some (.int .u64 (lookN (payL s.l[k])),[]):=hl
  generalize payL s.l[k] = b at *
  generalize lookN b = z at *
  simp [k0,k3,k4,hlt',hlt,hw,Sl.nn hlt,hp,hl]
  exact ⟨k+1,by omega,by omega,_,hR,rfl,by omega⟩
 ·have hlt':¬ (k:Int) < (s.l.length:Int):=by omega
  rw [List.drop_eq_nil_of_le (by simp;omega),xorP] at hR
  subst hR
  simp [k0,k3,k4,hlt']
theorem rcof_ev [MaxL] [TxtC] (q:ID) (r:Rec) (hn:r.fields.l.length < 1000000) (hb:∀ p∈r.fields.l,PrB p):call cx 58 [.agg (ofBytes q.l),.agg (Enc.cells r)] [] = some (.agg (Enc.cells (cOfP q r)),[]):=by
 have hx:=rxor_ev r.fields hn hb
 have hL:Enc.cells r = [.int .u64 r.seq,.int .u64 r.real,.int .u64 r.mono] ++ (ofBytes r.boot.l ++ [(.vsl r.fields.nil (encs r.fields.l) r.fields.l.length)]):=Rec.cells r
 have hC:Enc.cells (cOfP q r) = ofBytes q.l ++ ([.int .u64 r.seq] ++ (ofBytes r.boot.l ++ [.int .u64 r.mono,.int .u64 r.real,.int .u64 (xorP (r.fields.l.map payL) 0)])):=rfl
 rw [hL,hC]
 generalize xorP (r.fields.l.map payL) 0 = z at *
 refine call_run Tryz.func58 rfl ⟨rfl,rfl⟩ ?_
 simp [Tryz.f58,hx,List.drop_append,List.take_append,drop_bytes]
theorem low_ev [MaxL] [TxtC] (v:Nat) (hv:v < 18446744073709551616):call cx 67 [.int .u64 v,.int .i64 8] [] = some (.vsl false (ofBytes (leB 8 v)) 8,[]):=by
 refine call_run Tryz.func67 rfl ⟨rfl,rfl⟩ ?_
 simp [Tryz.f67]
 refine Run.loopThen (fun (i:Nat) e H=>i≤8∧(∃ d,look e 5 = some d∧Buf d H (leB i v))∧look e 0 = some (.int .u64 (v / 256 ^ i:Nat))∧look e 1 = some (.int .i64 8)∧look e 6 = some (.int .i64 i)) (fun i=>8 - i) 0 ?_ ?_
 ·simp [leB,Buf]
 rintro i e H ⟨hi,⟨d,h5,hbuf⟩,h0,h1,h6⟩
 by_cases hlt:i < 8
 ·have hlt':(i:Int) < 8:=by omega
  have hw:IntKind.i64.wrap ((i:Int)+1) = ((i+1:Nat):Int):=by rw [wrap_i64] <;> omega
  have hsn:=leB_snoc i v
  have hl:(leB i v).length≤8:=by simp;omega
  have hq:v / 256 ^ i < 18446744073709551616:=Nat.lt_of_le_of_lt (Nat.div_le_self _ _) hv
  have hnx:v / 256 ^ (i+1) = v / 256 ^ i / 256:=by rw [Nat.pow_succ,Nat.div_div_eq_div_mul]
  generalize v / 256 ^ i = x at *
  have ht1:(x:Int).tmod 256 = ((x % 256:Nat):Int):=by
   rw [Int.tmod_eq_emod_of_nonneg (Int.natCast_nonneg _)];rfl
  have ht2:(x:Int).tdiv 256 = ((x / 256:Nat):Int):=by
   rw [Int.tdiv_eq_ediv_of_nonneg (Int.natCast_nonneg _)];rfl
  have hx256:x % 256 < 256:=Nat.mod_lt _ (by decide)
  have hw1:IntKind.u8.wrap ((x % 256:Nat):Int) = ((UInt8.ofNat (x % 256)).toNat:Int):=by
   rw [UInt8.toNat_ofNat_of_lt' hx256]
   clear hv hq
   generalize x % 256 = y at *
   rw [wrap_u8]
   omega
  have hw2:IntKind.u64.wrap ((x / 256:Nat):Int) = ((x / 256:Nat):Int):=by
   have:x / 256 < 18446744073709551616:=Nat.lt_of_le_of_lt (Nat.div_le_self _ _) hq
   clear hv hq
   generalize x / 256 = y at *
   rw [wrap_u64]
   omega
  generalize UInt8.ofNat (x % 256) = c at *
  clear hv hq
  generalize leB i v = l at *
  have hmx:l.length+1≤140737488355328:=Nat.le_trans (Nat.add_le_add_right hl 1) (by decide)
  rcases hbuf with ⟨rfl,rfl,rfl⟩ | ⟨rfl,rfl⟩
  ·simp [h5,h0,h1,h6,hlt',hw,ht1,ht2,hw1,hw2,maxBytes,-Int.natCast_emod,-Int.natCast_ediv]
   clear hmx
   exact ⟨i+1,by omega,by omega,.inr (by simp [hsn,ofBytes]),by rw [hnx],rfl⟩
  ·simp [h5,h0,h1,h6,hlt',hw,ht1,ht2,hw1,hw2,maxBytes,hmx,-Int.natCast_emod,-Int.natCast_ediv]
   clear hmx
   exact ⟨i+1,by omega,by omega,.inr (by simp [hsn,ofBytes]),by rw [hnx],rfl⟩
 ·have hlt':¬ (i:Int) < 8:=by omega
  have h8:i = 8:=by omega
  subst h8
  have hl:(leB 8 v).length = 8:=leB_len 8 v
  generalize leB 8 v = l at *
  rcases hbuf with ⟨rfl,rfl,rfl⟩ | ⟨rfl,rfl⟩
  ·simp at hl
  ·simp [h5,h0,h1,h6,hl,List.take_of_length_le]
end Go.Ev.S
namespace Go.Ev.S
open Go Go.Proofs Go.Ev
theorem len64_ev [MaxL] [TxtC] (v:Nat) (h:v < 18446744073709551616):call cx 156 [.int .u64 v] [] = some (.int .i64 (Lib.bitLen v),[]):=by
 refine call_con ?_
 rw [co156,conLen64,if_pos (by omega)]
 rfl
theorem small_ev [MaxL] [TxtC] (v:Nat) (h:v < 100):call cx 129 [.int .i64 v] [] = some (.str (dec v),[]):=by
 refine call_con ?_
 rw [co129,conSmall,if_pos (by omega)]
 rfl
theorem bool2_ev [MaxL] [TxtC] (b:Bool):call cx 157 [.bool b] [] = some (.int .i64 (if b then 1 else 0),[]):=by
 refine call_run Tryz.func157 rfl ⟨rfl,rfl⟩ ?_
 cases b <;> simp [Tryz.f157]
theorem l10_ev [MaxL] [TxtC] (v:Nat) (h:v≤64):call cx 155 [.int .i64 v] [] = some (.int .i64 (Lib.l10 v),[]):=by
 refine call_run Tryz.func155 rfl ⟨rfl,rfl⟩ ?_
 have h1:IntKind.i64.wrap ((v:Int) * 78913) = ((v * 78913:Nat):Int):=by rw [wrap_i64] <;> omega
 simp [Tryz.f155,h1]
 unfold Lib.l10
 have:(2:Int) ^ min 18 IntKind.i64.bits = 262144:=by decide
 rw [this,Int.fdiv_eq_ediv_of_nonneg _ (by omega)]
 omega
theorem pow10_at {t:Nat} (h:t≤19):∃ r,gd1.drop t = .int .u64 ((10 ^ t:Nat):Int) :: r:=by
 have ht:t = 0∨t = 1∨t = 2∨t = 3∨t = 4∨t = 5∨t = 6∨t = 7∨t = 8∨t = 9∨t = 10∨t = 11∨t = 12∨t = 13∨t = 14∨t = 15∨t = 16∨t = 17∨t = 18∨t = 19:=by omega
 rcases ht with rfl | rfl | rfl | rfl | rfl | rfl | rfl | rfl | rfl | rfl | rfl | rfl | rfl | rfl | rfl | rfl | rfl | rfl | rfl | rfl <;> exact ⟨_,rfl⟩
theorem ndig_ev [MaxL] [TxtC] (v:Nat) (h1:1≤v) (h:v < 18446744073709551616):call cx 130 [.int .u64 v] [] = some (.int .i64 (Lib.nDigits v),[]):=by
 obtain ⟨e1,e2⟩:=Lib.numDigits_eq v h1 h
 have hb:Lib.bitLen v≤64:=Lib.bitLen_le v 64 (Nat.le_refl _) h
 have g1:=len64_ev v h
 have g2:=l10_ev (Lib.bitLen v) hb
 generalize Lib.l10 (Lib.bitLen v) = t at *
 obtain ⟨r,hr⟩:=pow10_at e2
 generalize 10 ^ t = p at *
 have g3:=bool2_ev (decide ((p:Int)≤(v:Int)))
 have ht:(t:Int) < 20:=by omega
 have hw:∀ k:Int,0≤k→k≤1→IntKind.i64.wrap ((t:Int)+k) = (t:Int)+k:=fun k _ _=>by rw [wrap_i64];omega
 have hw0:IntKind.i64.wrap (t:Int) = t:=by rw [wrap_i64];omega
 refine call_run Tryz.func130 rfl ⟨rfl,rfl⟩ ?_
 by_cases hc:p≤v
 ·rw [if_pos hc] at e1
  rw [decide_eq_true (by omega)] at g3
  simp [Tryz.f130,g1,g2,g3,hr,ht,hc,hw]
  omega
 ·rw [if_neg hc] at e1
  rw [decide_eq_false (by omega)] at g3
  simp [Tryz.f130,g1,g2,g3,hr,ht,hc,hw0]
  omega
end Go.Ev.S
namespace Go.Ev.S
open Go Go.Proofs Go.Ev Go.Lib
theorem ofVal_int (k:IntKind) (n:Int):ofVal (.int k n) = some (.int k n):=rfl
theorem set_bytes {l:List UInt8} {i:Nat} (x:UInt8) (h:i < l.length):setRange (ofBytes l) i [.int .u8 (x.toNat:Int)] = ofBytes (l.set i x):=by
 rw [setRange,List.set_eq_take_append_cons_drop,if_pos h]
 simp [ofBytes,List.map_take,List.map_drop]
theorem set_arr {d:Array UInt8} {tl:List UInt8} {i:Nat} (x:UInt8) (h:i < d.size):(d.toList ++ tl).set i x = (d.setIfInBounds i x).toList ++ tl:=by
 rw [List.set_append_left _ _ (by simpa using h)]
 simp
def smL:List UInt8:=smalls.data.toList
theorem sm_at {k:Nat} (h:k < 200):smL[k]? = some (sm k):=by
 have hl:smL.length = 200:=by decide +kernel
 unfold sm
 rw [List.getD_eq_getElem?_getD]
 have:smL[k]? = some (smL[k]'(by omega)):=List.getElem?_eq_getElem (by omega)
 rw [this]
 show _ = some ((smL[k]?).getD 0)
 rw [this]
 rfl
theorem wk {nd j:Nat} (a:Int) (h:(nd:Int) - a = (j:Int)) (hj:j≤24):IntKind.i64.wrap ((nd:Int) - a) = (j:Int):=by
 rw [h,wrap_i64]
 omega
structure Fb8 (v p q x6 x7 y8 y9 y10 y11 t8 t9 t10 t11 z8 z9 z10 z11:Nat):Prop where
 a1:(v:Int).tmod 100000000 = (p:Int)
 a2:(v:Int).tdiv 100000000 = (q:Int)
 a3:(p:Int).tdiv 10000 = (x6:Int)
 a4:(p:Int).tmod 10000 = (x7:Int)
 a5:(x7:Int).tdiv 100 = (y8:Int)
 a6:(x7:Int).tmod 100 = (y9:Int)
 a7:(x6:Int).tdiv 100 = (y10:Int)
 a8:(x6:Int).tmod 100 = (y11:Int)
 w1:IntKind.u32.wrap (p:Int) = (p:Int)
 w2:IntKind.u64.wrap (q:Int) = (q:Int)
 w3:IntKind.u32.wrap (x6:Int) = (x6:Int)
 v8:IntKind.u32.wrap (y8:Int) = (y8:Int)
 v10:IntKind.u32.wrap (y10:Int) = (y10:Int)
 u8:IntKind.u32.wrap ((y8:Int) * 2) = (t8:Int)
 u9:IntKind.u32.wrap ((y9:Int) * 2) = (t9:Int)
 u10:IntKind.u32.wrap ((y10:Int) * 2) = (t10:Int)
 u11:IntKind.u32.wrap ((y11:Int) * 2) = (t11:Int)
 w8:IntKind.u32.wrap ((t8:Int)+1) = (z8:Int)
 w9:IntKind.u32.wrap ((t9:Int)+1) = (z9:Int)
 w10:IntKind.u32.wrap ((t10:Int)+1) = (z10:Int)
 w11:IntKind.u32.wrap ((t11:Int)+1) = (z11:Int)
 s1:smL[z9]? = some (sm (v % 100 * 2+1))
 s2:smL[t9]? = some (sm (v % 100 * 2))
 s3:smL[z8]? = some (sm (v / 100 % 100 * 2+1))
 s4:smL[t8]? = some (sm (v / 100 % 100 * 2))
 s5:smL[z11]? = some (sm (v / 100 / 100 % 100 * 2+1))
 s6:smL[t11]? = some (sm (v / 100 / 100 % 100 * 2))
 s7:smL[z10]? = some (sm (v / 100 / 100 / 100 % 100 * 2+1))
 s8:smL[t10]? = some (sm (v / 100 / 100 / 100 % 100 * 2))
 fq:v / 100 / 100 / 100 / 100 = q
theorem dv (a b c:Nat) (h:c = a / b):(a:Int).tdiv (b:Int) = (c:Int):=by rw [h];exact (Int.ofNat_tdiv a b).symm
theorem md (a b c:Nat) (h:c = a % b):(a:Int).tmod (b:Int) = (c:Int):=by rw [h];exact (Int.ofNat_tmod a b).symm
theorem wu32 {a:Int} {c:Nat} (h:a = (c:Int)) (hc:c < 4294967296):IntKind.u32.wrap a = (c:Int):=by rw [h,wrap_u32];omega
theorem fb8 (v:Nat) (hv:v < 18446744073709551616):∃ p q x6 x7 y8 y9 y10 y11 t8 t9 t10 t11 z8 z9 z10 z11,Fb8 v p q x6 x7 y8 y9 y10 y11 t8 t9 t10 t11 z8 z9 z10 z11:=by
 have w2:IntKind.u64.wrap ((v / 100000000:Nat):Int) = ((v / 100000000:Nat):Int):=by rw [wrap_u64];omega
 clear hv
 obtain ⟨p,hp⟩:∃ p,p = v % 100000000:=⟨_,rfl⟩
 have f9:v % 100 = p % 10000 % 100:=by omega
 have f8:v / 100 % 100 = p % 10000 / 100:=by omega
 have f11:v / 100 / 100 % 100 = p / 10000 % 100:=by omega
 have f10:v / 100 / 100 / 100 % 100 = p / 10000 / 100:=by omega
 have fq:v / 100 / 100 / 100 / 100 = v / 100000000:=by omega
 have bp:p < 100000000:=by omega
 refine ⟨p,v / 100000000,p / 10000,p % 10000,p % 10000 / 100,p % 10000 % 100,p / 10000 / 100,p / 10000 % 100,p % 10000 / 100 * 2,p % 10000 % 100 * 2,p / 10000 / 100 * 2,p / 10000 % 100 * 2,p % 10000 / 100 * 2+1,p % 10000 % 100 * 2+1,p / 10000 / 100 * 2+1,p / 10000 % 100 * 2+1,?_⟩
 have b6:p / 10000 < 10000:=by omega
 have b7:p % 10000 < 10000:=by omega
 have b8:p % 10000 / 100 < 100:=by omega
 have b9:p % 10000 % 100 < 100:=by omega
 have b10:p / 10000 / 100 < 100:=by omega
 have b11:p / 10000 % 100 < 100:=by omega
 constructor
 case a1=>exact md v 100000000 p hp
 case a2=>exact dv v 100000000 _ rfl
 case a3=>exact dv p 10000 _ rfl
 case a4=>exact md p 10000 _ rfl
 case a5=>exact dv _ 100 _ rfl
 case a6=>exact md _ 100 _ rfl
 case a7=>exact dv _ 100 _ rfl
 case a8=>exact md _ 100 _ rfl
 case w1=>exact wu32 rfl (by omega)
 case w2=>exact w2
 case w3=>exact wu32 rfl (by omega)
 case v8=>exact wu32 rfl (by omega)
 case v10=>exact wu32 rfl (by omega)
 case u8=>exact wu32 (by omega) (by omega)
 case u9=>exact wu32 (by omega) (by omega)
 case u10=>exact wu32 (by omega) (by omega)
 case u11=>exact wu32 (by omega) (by omega)
 case w8=>exact wu32 (by omega) (by omega)
 case w9=>exact wu32 (by omega) (by omega)
 case w10=>exact wu32 (by omega) (by omega)
 case w11=>exact wu32 (by omega) (by omega)
 case s1=>rw [f9];exact sm_at (by omega)
 case s2=>rw [f9];exact sm_at (by omega)
 case s3=>rw [f8];exact sm_at (by omega)
 case s4=>rw [f8];exact sm_at (by omega)
 case s5=>rw [f11];exact sm_at (by omega)
 case s6=>rw [f11];exact sm_at (by omega)
 case s7=>rw [f10];exact sm_at (by omega)
 case s8=>rw [f10];exact sm_at (by omega)
 case fq=>exact fq
structure Fb4 (v q x7 y8 y9 t8 t9 z8 z9:Nat):Prop where
 a1:(v:Int).tmod 10000 = (x7:Int)
 a2:(v:Int).tdiv 10000 = (q:Int)
 a5:(x7:Int).tdiv 100 = (y8:Int)
 a6:(x7:Int).tmod 100 = (y9:Int)
 w2:IntKind.u32.wrap (q:Int) = (q:Int)
 v8:IntKind.u32.wrap (y8:Int) = (y8:Int)
 u8:IntKind.u32.wrap ((y8:Int) * 2) = (t8:Int)
 u9:IntKind.u32.wrap ((y9:Int) * 2) = (t9:Int)
 w8:IntKind.u32.wrap ((t8:Int)+1) = (z8:Int)
 w9:IntKind.u32.wrap ((t9:Int)+1) = (z9:Int)
 s1:smL[z9]? = some (sm (v % 100 * 2+1))
 s2:smL[t9]? = some (sm (v % 100 * 2))
 s3:smL[z8]? = some (sm (v / 100 % 100 * 2+1))
 s4:smL[t8]? = some (sm (v / 100 % 100 * 2))
 fq:v / 100 / 100 = q
theorem fb4 (v:Nat) (hv:v < 100000000):∃ q x7 y8 y9 t8 t9 z8 z9,Fb4 v q x7 y8 y9 t8 t9 z8 z9:=by
 have f9:v % 100 = v % 10000 % 100:=by omega
 have f8:v / 100 % 100 = v % 10000 / 100:=by omega
 have fq:v / 100 / 100 = v / 10000:=by omega
 refine ⟨v / 10000,v % 10000,v % 10000 / 100,v % 10000 % 100,v % 10000 / 100 * 2,v % 10000 % 100 * 2,v % 10000 / 100 * 2+1,v % 10000 % 100 * 2+1,?_⟩
 have b8:v % 10000 / 100 < 100:=by omega
 have b9:v % 10000 % 100 < 100:=by omega
 constructor
 case a1=>exact md v 10000 _ rfl
 case a2=>exact dv v 10000 _ rfl
 case a5=>exact dv _ 100 _ rfl
 case a6=>exact md _ 100 _ rfl
 case w2=>exact wu32 rfl (by omega)
 case v8=>exact wu32 rfl (by omega)
 case u8=>exact wu32 (by omega) (by omega)
 case u9=>exact wu32 (by omega) (by omega)
 case w8=>exact wu32 (by omega) (by omega)
 case w9=>exact wu32 (by omega) (by omega)
 case s1=>rw [f9];exact sm_at (by omega)
 case s2=>rw [f9];exact sm_at (by omega)
 case s3=>rw [f8];exact sm_at (by omega)
 case s4=>rw [f8];exact sm_at (by omega)
 case fq=>exact fq
structure Fb2 (v q y9 t9 z9:Nat):Prop where
 a1:(v:Int).tmod 100 = (y9:Int)
 a2:(v:Int).tdiv 100 = (q:Int)
 w2:IntKind.u32.wrap (q:Int) = (q:Int)
 u9:IntKind.u32.wrap ((y9:Int) * 2) = (t9:Int)
 w9:IntKind.u32.wrap ((t9:Int)+1) = (z9:Int)
 s1:smL[z9]? = some (sm (v % 100 * 2+1))
 s2:smL[t9]? = some (sm (v % 100 * 2))
 fq:v / 100 = q
theorem fb2 (v:Nat) (hv:v < 100000000):∃ q y9 t9 z9,Fb2 v q y9 t9 z9:=by
 refine ⟨v / 100,v % 100,v % 100 * 2,v % 100 * 2+1,?_⟩
 constructor
 case a1=>exact md v 100 _ rfl
 case a2=>exact dv v 100 _ rfl
 case w2=>exact wu32 rfl (by omega)
 case u9=>exact wu32 (by omega) (by omega)
 case w9=>exact wu32 (by omega) (by omega)
 case s1=>exact sm_at (by omega)
 case s2=>exact sm_at (by omega)
 case fq=>rfl
theorem fb1 (v:Nat) (hv:v < 10):IntKind.u32.wrap (48+(v:Int)) = ((UInt8.ofNat (48+v)).toNat:Int)∧IntKind.u8.wrap ((UInt8.ofNat (48+v)).toNat:Int) = ((UInt8.ofNat (48+v)).toNat:Int):=by
 have h:(UInt8.ofNat (48+v)).toNat = 48+v:=UInt8.toNat_ofNat_of_lt' (show 48+v < 256 by omega)
 rw [h,wrap_u32 (by omega),wrap_u8 (by omega)]
 omega
theorem lt8 {n u nd v:Nat} {d:Array UInt8} (h:FmtInv n u nd v d) (h8:nd < 8):v < 100000000 :=
 Nat.lt_of_lt_of_le h.small (Nat.le_trans (Nat.pow_le_pow_right (by decide) (show nd≤7 by omega)) (by decide))
set_option maxHeartbeats 4000000 in
theorem fb10_ev [MaxL] [TxtC] (n u:Nat) (hn:n≤24) (hu:u < 10 ^ n) (hu64:u < 18446744073709551616) (tl:List UInt8) (htl:tl.length = 24 - n) (d:Array UInt8) (hd:d.size = n) (H:Heap) (b:Nat) (hb:b < H.length)
  (hcl:H.all (blkClosed H.length) = true) (hg:H[b] = some (ofBytes (d.toList ++ tl))) :
  ∃ v' dk,FmtInv n u 0 v' dk∧call cx 131 [.osl b 24 0 n 1,.int .u64 u] H = some (.tup [],H.set b (some (ofBytes (dk.toList ++ tl)))):=by
 suffices hs:∃ r,call cx 131 [.osl b 24 0 n 1,.int .u64 u] H = some r∧∃ v' dk,FmtInv n u 0 v' dk∧r = (.tup [],H.set b (some (ofBytes (dk.toList ++ tl)))) by
  obtain ⟨r,h1,v',dk,h2,rfl⟩:=hs
  exact ⟨v',dk,h2,h1⟩
 have hset:H.set b (some (ofBytes (d.toList ++ tl))) = H:=by rw [← hg,List.set_getElem_self]
 refine call_runE (fun r=>∃ v' dk,FmtInv n u 0 v' dk∧r = (D.tup [],H.set b (some (ofBytes (dk.toList ++ tl))))) Tryz.func131 rfl ⟨rfl,rfl⟩ ?_
 unfold Tryz.f131
 generalize hS:Value.string _ = S
 have hv:ofVal S = some (.str smL):=by rw [← hS];kernel_rfl
 clear hS
 simp
 refine Run.loopThen (fun (nd:Nat) e H'=>∃ v dk,FmtInv n u nd v dk∧H' = H.set b (some (ofBytes (dk.toList ++ tl)))∧look e 0 = some (.osl b 24 0 n 1)∧look e 1 = some (.int .u64 (v:Nat))∧look e 4 = some (.int .i64 nd)) (fun nd=>nd) n ?_ ?_
 ·exact ⟨u,d,by rw [← hd];exact FmtInv.start d u (by rw [hd];exact hu),hset.symm,by simp,by simp,by simp⟩
 rintro nd e H' ⟨v,dk,hi,rfl,h0,h1,h4⟩
 have hv64:v < 18446744073709551616:=by
  have:=hi.rest
  have:=Nat.div_le_self u (10 ^ (n - nd))
  omega
 have hle:=hi.le
 have hsz:=hi.size
 have hlen:∀ (a:Array UInt8),a.size = n→(a.toList ++ tl).length = 24:=fun a ha=>by simp [ha,htl];omega
 have fin:∀ (a:Array UInt8) (v':Nat),FmtInv n u 0 v' a→∃ x y,((∀ z,z∈(H.set b (some (ofBytes (a.toList ++ tl)))).take H.length→blkClosed H.length z = true)∧D.tup [] = x∧(H.set b (some (ofBytes (a.toList ++ tl)))).take H.length = y) ∧
   ∃ v' dk,FmtInv n u 0 v' dk∧x = D.tup []∧y = H.set b (some (ofBytes (dk.toList ++ tl))):=fun a v' ha=>by
  refine ⟨_,_,⟨fun z hz=>?_,rfl,rfl⟩,v',a,ha,rfl,List.take_of_length_le (by simp)⟩
  have hz':=List.mem_of_mem_take hz
  rcases List.mem_or_eq_of_mem_set hz' with h | rfl
  ·exact List.all_eq_true.1 hcl z h
  ·simp [blkClosed]
 have hnn:n+(24 - n) = 24:=by omega
 have sb:∀ (a:Array UInt8) (j:Nat) (x:UInt8),a.size = n→j < n→setRange (ofBytes (a.toList ++ tl)) j [.int .u8 (x.toNat:Int)] = ofBytes ((a.setIfInBounds j x).toList ++ tl):=fun a j x ha hj=>by
  rw [set_bytes x (by simp [ha,htl];omega),set_arr x (by omega)]
 by_cases h8:8≤nd
 ·obtain ⟨m,hm⟩:∃ m,nd = m+8:=⟨nd - 8,by omega⟩
  have i1:=FmtInv.step2' (k:=m+6) (by rw [hm] at hi;exact hi)
  have i2:=FmtInv.step2' (k:=m+4) i1
  have i3:=FmtInv.step2' (k:=m+2) i2
  have i4:=FmtInv.step2' (k:=m) i3
  obtain ⟨j1,hj1⟩:∃ y,y = m+7:=⟨_,rfl⟩
  obtain ⟨j2,hj2⟩:∃ y,y = m+6:=⟨_,rfl⟩
  obtain ⟨j3,hj3⟩:∃ y,y = m+5:=⟨_,rfl⟩
  obtain ⟨j4,hj4⟩:∃ y,y = m+4:=⟨_,rfl⟩
  obtain ⟨j5,hj5⟩:∃ y,y = m+3:=⟨_,rfl⟩
  obtain ⟨j6,hj6⟩:∃ y,y = m+2:=⟨_,rfl⟩
  obtain ⟨j7,hj7⟩:∃ y,y = m+1:=⟨_,rfl⟩
  rw [show m+6+1 = j1 by omega,show m+4+1 = j3 by omega,show m+2+1 = j5 by omega,← hj2,← hj4,← hj6,← hj7] at i4
  have e1:(nd:Int) - 1 = ((j1:Nat):Int):=by omega
  have e2:(nd:Int) - 2 = ((j2:Nat):Int):=by omega
  have e3:(nd:Int) - 3 = ((j3:Nat):Int):=by omega
  have e4:(nd:Int) - 4 = ((j4:Nat):Int):=by omega
  have e5:(nd:Int) - 5 = ((j5:Nat):Int):=by omega
  have e6:(nd:Int) - 6 = ((j6:Nat):Int):=by omega
  have e7:(nd:Int) - 7 = ((j7:Nat):Int):=by omega
  have e8:(nd:Int) - 8 = ((m:Nat):Int):=by omega
  have h8':(8:Int)≤(nd:Int):=by omega
  have hbd:∀ j:Nat,j < nd→((j:Int) < (n:Int))∧j < n∧j < 24:=fun j hj=>by omega
  have l1:=hbd j1 (by omega)
  have l2:=hbd j2 (by omega)
  have l3:=hbd j3 (by omega)
  have l4:=hbd j4 (by omega)
  have l5:=hbd j5 (by omega)
  have l6:=hbd j6 (by omega)
  have l7:=hbd j7 (by omega)
  have l8:=hbd m (by omega)
  have hmn:m < nd:=by omega
  clear hbd
  have k1:=wk 1 e1 (Nat.le_of_lt l1.2.2)
  have k2:=wk 2 e2 (Nat.le_of_lt l2.2.2)
  have k3:=wk 3 e3 (Nat.le_of_lt l3.2.2)
  have k4:=wk 4 e4 (Nat.le_of_lt l4.2.2)
  have k5:=wk 5 e5 (Nat.le_of_lt l5.2.2)
  have k6:=wk 6 e6 (Nat.le_of_lt l6.2.2)
  have k7:=wk 7 e7 (Nat.le_of_lt l7.2.2)
  have k8:=wk 8 e8 (Nat.le_of_lt l8.2.2)
  clear e1 e2 e3 e4 e5 e6 e7 e8
  obtain ⟨p,q,x6,x7,y8,y9,y10,y11,t8,t9,t10,t11,z8,z9,z10,z11,⟨a1,a2,a3,a4,a5,a6,a7,a8,w1,w2,w3,v8,v10,u8,u9,u10,u11,w8,w9,w10,w11,s1,s2,s3,s4,s5,s6,s7,s8,fq⟩⟩:=fb8 v hv64
  rw [fq] at i4
  clear i1 i2 i3 hi hv64 fq hu64 hu
  generalize sm (v % 100 * 2+1) = c1 at *
  generalize sm (v % 100 * 2) = c2 at *
  generalize sm (v / 100 % 100 * 2+1) = c3 at *
  generalize sm (v / 100 % 100 * 2) = c4 at *
  generalize sm (v / 100 / 100 % 100 * 2+1) = c5 at *
  generalize sm (v / 100 / 100 % 100 * 2) = c6 at *
  generalize sm (v / 100 / 100 / 100 % 100 * 2+1) = c7 at *
  generalize sm (v / 100 / 100 / 100 % 100 * 2) = c8 at *
  simp [-ofVal,ofVal_int,h0,h1,h4,hv,a1,a2,a3,a4,a5,a6,a7,a8,w1,w2,w3,w8,w9,w10,w11,u8,u9,u10,u11,v8,v10,k1,k2,k3,k4,k5,k6,k7,k8,s1,s2,s3,s4,s5,s6,s7,s8,h8',hb,l1,l2,l3,l4,l5,l6,l7,l8,hsz,htl,hnn,sb,Nat.succ_le_of_lt]
  exact ⟨m,hmn,q,_,i4,by simp,rfl,rfl⟩
 ·have h8':¬ (8:Int)≤(nd:Int):=by omega
  have q0:v < 100000000:=lt8 hi (by omega)
  have wv:IntKind.u32.wrap (v:Int) = (v:Int):=wu32 rfl (by omega)
  clear hv64 hu64 hu
  by_cases h4':4≤nd
  ·obtain ⟨m,hm⟩:∃ m,nd = m+4:=⟨nd - 4,by omega⟩
   have i1:=FmtInv.step2' (k:=m+2) (by rw [hm] at hi;exact hi)
   have i2:=FmtInv.step2' (k:=m) i1
   obtain ⟨j1,hj1⟩:∃ y,y = m+3:=⟨_,rfl⟩
   obtain ⟨j2,hj2⟩:∃ y,y = m+2:=⟨_,rfl⟩
   obtain ⟨j3,hj3⟩:∃ y,y = m+1:=⟨_,rfl⟩
   rw [show m+2+1 = j1 by omega,← hj2,← hj3] at i2
   have g4:(4:Int)≤(nd:Int):=by omega
   have e1:(nd:Int) - 1 = (j1:Int):=by omega
   have e2:(nd:Int) - 2 = (j2:Int):=by omega
   have e3:(nd:Int) - 3 = (j3:Int):=by omega
   have e4:(nd:Int) - 4 = (m:Int):=by omega
   have hbd:∀ j:Nat,j < nd→((j:Int) < (n:Int))∧j < n∧j < 24:=fun j hj=>by omega
   have l1:=hbd j1 (by omega)
   have l2:=hbd j2 (by omega)
   have l3:=hbd j3 (by omega)
   have l4:=hbd m (by omega)
   have hm4:m < 4:=by omega
   have k1:=wk 1 e1 (Nat.le_of_lt l1.2.2)
   have k2:=wk 2 e2 (Nat.le_of_lt l2.2.2)
   have k3:=wk 3 e3 (Nat.le_of_lt l3.2.2)
   have k4:=wk 4 e4 (Nat.le_of_lt l4.2.2)
   clear hbd e1 e2 e3 e4
   obtain ⟨q,x7,y8,y9,t8,t9,z8,z9,⟨a1,a2,a5,a6,w2,v8,u8,u9,w8,w9,s1,s2,s3,s4,fq⟩⟩:=fb4 v q0
   rw [fq] at i2
   clear i1 hi fq
   generalize sm (v % 100 * 2+1) = c1 at *
   generalize sm (v % 100 * 2) = c2 at *
   generalize sm (v / 100 % 100 * 2+1) = c3 at *
   generalize sm (v / 100 % 100 * 2) = c4 at *
   simp [-Array.toList_setIfInBounds,-ofVal,ofVal_int,h0,h1,h4,hv,h8',g4,wv,a1,a2,a5,a6,w2,v8,u8,u9,w8,w9,k1,k2,k3,k4,s1,s2,s3,s4,hb,l1,l2,l3,l4,hsz,htl,hnn,sb,Nat.succ_le_of_lt]
   clear a1 a2 a5 a6 w2 v8 u8 u9 w8 w9 s1 s2 s3 s4 k1 k2 k3 k4 wv
   obtain ⟨dk1,hdk1⟩:∃ a,a = (((dk.setIfInBounds j1 c1).setIfInBounds j2 c2).setIfInBounds j3 c3).setIfInBounds m c4:=⟨_,rfl⟩
   rw [← hdk1] at i2 ⊢
   clear hdk1
   by_cases x2:2≤m
   ·obtain ⟨m2,hm2⟩:∃ mm,m = mm+2:=⟨m - 2,by omega⟩
    have i6:=FmtInv.step2' (k:=m2) (by rw [hm2] at i2;exact i2)
    obtain ⟨p1,hp1⟩:∃ y,y = m2+1:=⟨_,rfl⟩
    have g2:(2:Int)≤(m:Int):=by omega
    have e1:(m:Int) - 1 = (p1:Int):=by omega
    have e2:(m:Int) - 2 = (m2:Int):=by omega
    have hle2:=i2.le
    have r1:(p1:Int) < (n:Int)∧p1 < n∧p1 < 24:=by omega
    have r2:(m2:Int) < (n:Int)∧m2 < n∧m2 < 24:=by omega
    have m2lt:m2 < 2:=by omega
    have q1:q < 100000000:=lt8 i2 (by omega)
    rw [← hp1] at i6
    have j1':=wk 1 e1 (Nat.le_of_lt r1.2.2)
    have j2':=wk 2 e2 (Nat.le_of_lt r2.2.2)
    clear e1 e2
    obtain ⟨v2,y9,t9,z9,⟨a1,a2,w2,u9,w9,s1,s2,fq⟩⟩:=fb2 q q1
    rw [fq] at i6
    generalize sm (q % 100 * 2+1) = c5 at *
    generalize sm (q % 100 * 2) = c6 at *
    simp [-Array.toList_setIfInBounds,-ofVal,ofVal_int,hv,g2,r1,r2,j1',j2',a1,a2,w2,u9,w9,s1,s2,hb,i2.size,htl,hnn,sb,Nat.succ_le_of_lt]
    clear a1 a2 w2 u9 w9 s1 s2 j1' j2' fq
    obtain ⟨dk2,hdk2⟩:∃ a,a = (dk1.setIfInBounds p1 c5).setIfInBounds m2 c6:=⟨_,rfl⟩
    rw [← hdk2] at i6 ⊢
    clear hdk2
    by_cases y1:m2 = 1
    ·have z1:v2 < 10:=by have:=i6.small;rw [y1] at this;simpa using this
     have i5:=FmtInv.step1 (by rw [y1] at i6;exact i6)
     obtain ⟨d1,d2⟩:=fb1 v2 z1
     have g0:(0:Int) < (m2:Int):=by omega
     have gn:0 < m2:=by omega
     have g1:0 < n:=by have:=i6.le;omega
     generalize UInt8.ofNat (48+v2) = c9 at *
     simp [-Array.toList_setIfInBounds,-ofVal,-blkClosed,ofVal_int,gn,g1,d1,d2,hb,i6.size,htl,hnn,sb]
     exact fin _ _ i5
    ·have z0:m2 = 0:=by omega
     rw [z0] at i6
     simp [-Array.toList_setIfInBounds,-ofVal,-blkClosed,z0]
     exact fin _ _ i6
   ·have g2:¬ (2:Int)≤(m:Int):=by omega
    simp [-Array.toList_setIfInBounds,-ofVal,ofVal_int,g2]
    by_cases y1:m = 1
    ·have z1:q < 10:=by have:=i2.small;rw [y1] at this;simpa using this
     have i5:=FmtInv.step1 (by rw [y1] at i2;exact i2)
     obtain ⟨d1,d2⟩:=fb1 q z1
     have g0:(0:Int) < (m:Int):=by omega
     have gn:0 < m:=by omega
     have g1:0 < n:=by have:=i2.le;omega
     generalize UInt8.ofNat (48+q) = c9 at *
     simp [-Array.toList_setIfInBounds,-ofVal,-blkClosed,ofVal_int,gn,g1,d1,d2,hb,i2.size,htl,hnn,sb]
     exact fin _ _ i5
    ·have z0:m = 0:=by omega
     rw [z0] at i2
     simp [-Array.toList_setIfInBounds,-ofVal,-blkClosed,z0]
     exact fin _ _ i2
  ·have g4:¬ (4:Int)≤(nd:Int):=by omega
   simp [-ofVal,ofVal_int,h0,h1,h4,h8',g4,wv]
   clear wv
   by_cases x2:2≤nd
   ·obtain ⟨m2,hm2⟩:∃ mm,nd = mm+2:=⟨nd - 2,by omega⟩
    have i6:=FmtInv.step2' (k:=m2) (by rw [hm2] at hi;exact hi)
    obtain ⟨p1,hp1⟩:∃ y,y = m2+1:=⟨_,rfl⟩
    have g2:(2:Int)≤(nd:Int):=by omega
    have e1:(nd:Int) - 1 = (p1:Int):=by omega
    have e2:(nd:Int) - 2 = (m2:Int):=by omega
    have hle2:=hi.le
    have r1:(p1:Int) < (n:Int)∧p1 < n∧p1 < 24:=by omega
    have r2:(m2:Int) < (n:Int)∧m2 < n∧m2 < 24:=by omega
    have m2lt:m2 < 2:=by omega
    have q1:v < 100000000:=lt8 hi (by omega)
    rw [← hp1] at i6
    have j1':=wk 1 e1 (Nat.le_of_lt r1.2.2)
    have j2':=wk 2 e2 (Nat.le_of_lt r2.2.2)
    clear e1 e2
    obtain ⟨v2,y9,t9,z9,⟨a1,a2,w2,u9,w9,s1,s2,fq⟩⟩:=fb2 v q1
    rw [fq] at i6
    generalize sm (v % 100 * 2+1) = c5 at *
    generalize sm (v % 100 * 2) = c6 at *
    simp [-Array.toList_setIfInBounds,-ofVal,ofVal_int,hv,g2,r1,r2,j1',j2',a1,a2,w2,u9,w9,s1,s2,hb,hi.size,htl,hnn,sb,Nat.succ_le_of_lt]
    clear a1 a2 w2 u9 w9 s1 s2 j1' j2' fq
    obtain ⟨dk2,hdk2⟩:∃ a,a = (dk.setIfInBounds p1 c5).setIfInBounds m2 c6:=⟨_,rfl⟩
    rw [← hdk2] at i6 ⊢
    clear hdk2
    by_cases y1:m2 = 1
    ·have z1:v2 < 10:=by have:=i6.small;rw [y1] at this;simpa using this
     have i5:=FmtInv.step1 (by rw [y1] at i6;exact i6)
     obtain ⟨d1,d2⟩:=fb1 v2 z1
     have g0:(0:Int) < (m2:Int):=by omega
     have gn:0 < m2:=by omega
     have g1:0 < n:=by have:=i6.le;omega
     generalize UInt8.ofNat (48+v2) = c9 at *
     simp [-Array.toList_setIfInBounds,-ofVal,-blkClosed,ofVal_int,gn,g1,d1,d2,hb,i6.size,htl,hnn,sb]
     exact fin _ _ i5
    ·have z0:m2 = 0:=by omega
     rw [z0] at i6
     simp [-Array.toList_setIfInBounds,-ofVal,-blkClosed,z0]
     exact fin _ _ i6
   ·have g2:¬ (2:Int)≤(nd:Int):=by omega
    simp [-Array.toList_setIfInBounds,-ofVal,ofVal_int,g2]
    by_cases y1:nd = 1
    ·have z1:v < 10:=by have:=hi.small;rw [y1] at this;simpa using this
     have i5:=FmtInv.step1 (by rw [y1] at hi;exact hi)
     obtain ⟨d1,d2⟩:=fb1 v z1
     have g0:(0:Int) < (nd:Int):=by omega
     have gn:0 < nd:=by omega
     have g1:0 < n:=by have:=hi.le;omega
     generalize UInt8.ofNat (48+v) = c9 at *
     simp [-Array.toList_setIfInBounds,-ofVal,-blkClosed,ofVal_int,gn,g1,d1,d2,hb,hi.size,htl,hnn,sb]
     exact fin _ _ i5
    ·have z0:nd = 0:=by omega
     rw [z0] at hi
     simp [-Array.toList_setIfInBounds,-ofVal,-blkClosed,z0]
     exact fin _ _ hi
end Go.Ev.S
namespace Go.Ev.S
open Go Go.Proofs Go.Ev Go.Lib
theorem row_dec {u v':Nat} {dk:Array UInt8} (h:FmtInv (nDigits u) u 0 v' dk):dk.toList = decDigits u:=by
 apply List.ext_getElem
 ·rw [decDigits_length,Array.length_toList,h.size]
 ·intro j h1 h2
  rw [row_is_numeral h j h2,getElem!_pos dk j (by simpa using h1)]
  simp
set_option maxHeartbeats 1000000 in
theorem fui_ev [MaxL] [TxtC] (v:Nat) (hv:v < 18446744073709551616):call cx 111 [.int .u64 v,.int .i64 10] [] = some (.str (dec v),[]):=by
 refine call_run Tryz.func111 rfl ⟨rfl,rfl⟩ ?_
 by_cases hs:v < 100
 ·have hs':(v:Int) < 100:=by omega
  have h1:=small_ev v hs
  have hw:IntKind.i64.wrap (v:Int) = (v:Int):=by rw [wrap_i64];omega
  simp [Tryz.f111,hs',h1,hw]
 ·have hs':¬ (v:Int) < 100:=by omega
  have h1:=ndig_ev v (by omega) hv
  have hn:nDigits v≤20:=by
   have:=numDigits_eq v (by omega) hv
   split at this <;> omega
  obtain ⟨v',dk,i1,i2⟩:=fb10_ev (nDigits v) v (by omega) (lt_pow_nDigits v) hv (List.replicate (24 - nDigits v) 0) (by simp) (Array.replicate (nDigits v) 0) (by simp) [some (ofBytes (List.replicate 24 0))] 0 (by simp) (by simp) (by
   simp only [List.getElem_cons_zero,Array.toList_replicate,List.replicate_append_replicate]
   congr 3
   omega)
  have hr:=row_dec i1
  have hsz:=i1.size
  have hl:(decDigits v).length = nDigits v:=decDigits_length v
  rw [hr] at i2
  rw [dec_lib hv]
  generalize nDigits v = n at *
  generalize decDigits v = w at *
  have hn':(n:Int)≤24:=by omega
  have hn2:n≤24:=by omega
  clear hv
  have e24:ofBytes (List.replicate 24 0) = [D.int .u8 0,D.int .u8 0,D.int .u8 0,D.int .u8 0,D.int .u8 0,D.int .u8 0,D.int .u8 0,D.int .u8 0,D.int .u8 0,D.int .u8 0,D.int .u8 0,D.int .u8 0,D.int .u8 0,D.int .u8 0,D.int .u8 0,D.int .u8 0,D.int .u8 0,D.int .u8 0,D.int .u8 0,D.int .u8 0,D.int .u8 0,D.int .u8 0,D.int .u8 0,D.int .u8 0]:=rfl
  rw [e24] at i2
  have hd:dk.toList = w:=hr
  have k1:w.length+(24 - n) = 24:=by omega
  have k2:n≤w.length+(24 - n):=by omega
  have k3:List.take n (ofBytes (w ++ List.replicate (24 - n) 0)) = ofBytes w:=by
   rw [ofBytes_take,← hl,List.take_left]
  have k4:n≤24:=hn2
  simp [Tryz.f111,hs',h1,hn',hn2,i2,k1,k3]
theorem fu_ev [MaxL] [TxtC] (v:Nat) (hv:v < 18446744073709551616):call cx 80 [.int .u64 v,.int .i64 10] [] = some (.str (dec v),[]):=by
 have h:=fui_ev v hv
 refine call_run Tryz.func80 rfl ⟨rfl,rfl⟩ ?_
 simp [Tryz.f80,h]
end Go.Ev.S
namespace Go.Ev
open Go Go.Proofs
def nameC (c:UInt8):Bool:=(decide (65≤c.toNat) && decide (c.toNat≤90)) || (decide (48≤c.toNat) && decide (c.toNat≤57)) || decide (c.toNat = 95)
def digC (c:UInt8):Bool:=decide (48≤c.toNat) && decide (c.toNat≤57)
def nameOk:List UInt8→Bool
 | []=>false
 | c :: l=>decide ((c :: l).length≤64) && !digC c && (c :: l).all nameC
def prOk (p:Pr):Bool:=nameOk p.name && decide (p.value.length≤256)
def plainC (c:UInt8):Bool:= !(decide (c.toNat < 32) && decide (c.toNat≠9))
def plainV (s:List UInt8):Bool:=s.all plainC
def pairL (p:Pr):List UInt8:=if plainV p.value then ((p.name ++ [61]) ++ p.value) ++ [10] else (((p.name ++ [10]) ++ leB 8 p.value.length) ++ p.value) ++ [10]
def recOk (it:It):Bool:=decide (it.fr = 0) && decide (it.til = 0) && decide (it.rc.seq≠0) && decide (1≤it.rc.fields.l.length) && decide (it.rc.fields.l.length≤16) && it.rc.fields.l.all prOk
def gapOk (it:It):Bool:=decide (1≤it.fr) && decide (it.fr≤it.til) && decide (it.rc.seq = 0) && decide (it.rc.real = 0) && decide (it.rc.mono = 0) && decide (it.rc.boot = ID.zero) && decide (it.rc.fields.l.length = 0)
def itOk (it:It):Bool:=if it.gap then gapOk it else recOk it
end Go.Ev
namespace Go.Ev.S
open Go Go.Proofs Go.Ev
theorem plain_ev [MaxL] [TxtC] (s:List UInt8) (_:s.length < 1000000):call cx 84 [.str s] [] = some (.bool (plainV s),[]):=by
 refine call_run Tryz.func84 rfl ⟨rfl,rfl⟩ ?_
 unfold plainV
 obtain ⟨r,hr⟩:∃ r,s.all plainC = r:=⟨_,rfl⟩
 rw [hr]
 simp [Tryz.f84]
 refine Run.loopThen (fun (k:Nat) e H'=>k≤s.length∧(s.drop k).all plainC = r∧look e 0 = some (.str s)∧look e 5 = some (.int .i64 s.length)∧look e 6 = some (.int .i64 k)∧H' = []) (fun k=>s.length - k) 0 ?_ ?_
 ·simpa using hr
 rintro k e H' ⟨hk,hR,k0,k5,k6,rfl⟩
 by_cases hlt:k < s.length
 ·have hlt':(k:Int) < (s.length:Int):=by omega
  have hw:IntKind.i64.wrap ((k:Int)+1) = ((k+1:Nat):Int):=by rw [wrap_i64] <;> omega
  have hat:s[k]? = some s[k]:=List.getElem?_eq_getElem hlt
  rw [List.drop_eq_getElem_cons hlt,List.all_cons] at hR
  generalize s[k] = c at *
  by_cases h1:c.toNat < 32
  ·have h1':(c.toNat:Int) < 32:=by omega
   by_cases h2:c.toNat = 9
   ·have h2':(c.toNat:Int) = 9:=by omega
    have hc:plainC c = true:=by simp [plainC,h2]
    rw [hc,Bool.true_and] at hR
    simp [k0,k5,k6,hlt',hat,hw,h2]
    exact ⟨k+1,by omega,by omega,by simpa using hR,by omega⟩
   ·have h2':¬ (c.toNat:Int) = 9:=by omega
    have hc:plainC c = false:=by simp [plainC,h1,h2]
    rw [hc,Bool.false_and] at hR
    subst hR
    simp [k0,k5,k6,hlt',hat,h1',h2']
  ·have h1':¬ (c.toNat:Int) < 32:=by omega
   have hc:plainC c = true:=by simp [plainC,h1]
   rw [hc,Bool.true_and] at hR
   simp [k0,k5,k6,hlt',hat,hw,h1']
   exact ⟨k+1,by omega,by omega,by simpa using hR,by omega⟩
 ·have hlt':¬ (k:Int) < (s.length:Int):=by omega
  rw [List.drop_eq_nil_of_le (by omega)] at hR
  have:r = true:=hR.symm
  subst this
  simp [k0,k5,k6,hlt']
theorem nameC_cases (c:UInt8):(nameC c = true∧((65≤c.toNat∧c.toNat≤90)∨(¬ (65≤c.toNat∧c.toNat≤90)∧48≤c.toNat∧c.toNat≤57)∨c.toNat = 95))∨(nameC c = false∧¬ (65≤c.toNat∧c.toNat≤90)∧¬ (48≤c.toNat∧c.toNat≤57)∧c.toNat≠95):=by
 cases h:nameC c with
 | true =>
  simp [nameC] at h
  exact .inl ⟨rfl,by omega⟩
 | false =>
  simp [nameC] at h
  exact .inr ⟨rfl,by omega,by omega,by omega⟩
set_option maxHeartbeats 2000000 in
theorem fname_ev [MaxL] [TxtC] (s:List UInt8) (hs:s.length < 1000000):call cx 85 [.str s] [] = some (.bool (nameOk s),[]):=by
 refine call_run Tryz.func85 rfl ⟨rfl,rfl⟩ ?_
 cases s with
 | nil=>simp [Tryz.f85,nameOk]
 | cons c l =>
  have hl1:¬ (l.length:Int)+1 < 1:=by omega
  by_cases h64:64 < l.length+1
  ·have h64':(64:Int) < (l.length:Int)+1:=by omega
   have hN:nameOk (c :: l) = false:=by simp [nameOk];omega
   rw [hN]
   simp [Tryz.f85,hl1,h64']
  ·have h64':¬ (64:Int) < (l.length:Int)+1:=by omega
   have hN:nameOk (c :: l) = (!digC c && (c :: l).all nameC):=by
    simp only [nameOk]
    rw [decide_eq_true (by simp;omega),Bool.true_and]
   rw [hN]
   by_cases hd:48≤c.toNat∧c.toNat≤57
   ·have hd1:(48:Int)≤(c.toNat:Int):=by omega
    have hd2:(c.toNat:Int)≤57:=by omega
    have hdc:digC c = true:=by simp [digC,hd.1,hd.2]
    rw [hdc]
    simp [Tryz.f85,hl1,h64',hd1,hd2]
   ·have hdc:digC c = false:=by simp [digC];omega
    rw [hdc]
    have hcond:(¬ (48:Int)≤(c.toNat:Int))∨((48:Int)≤(c.toNat:Int)∧¬ (c.toNat:Int)≤57):=by omega
    obtain ⟨r,hr⟩:∃ r,(c :: l).all nameC = r:=⟨_,rfl⟩
    rw [hr]
    obtain ⟨S,hS⟩:∃ S,S = c :: l:=⟨_,rfl⟩
    have hn:(l.length:Int)+1 = (S.length:Int):=by rw [hS];simp
    rw [← hS] at hr hs
    rcases hcond with h48 | ⟨h48,h57⟩
    ·have h48n:¬ 48≤c.toNat:=by omega
     simp [Tryz.f85,hl1,h64',h48]
     rw [hn,← hS]
     clear hS hn hN
     refine Run.loopThen (fun (k:Nat) e H'=>k≤S.length∧(S.drop k).all nameC = r∧look e 0 = some (.str S)∧look e 24 = some (.int .i64 S.length)∧look e 25 = some (.int .i64 k)∧H' = []) (fun k=>S.length - k) 0 ?_ ?_
     ·simpa using hr
     rintro k e H' ⟨hk,hR,k0,k24,k25,rfl⟩
     by_cases hlt:k < S.length
     ·have hlt':(k:Int) < (S.length:Int):=by omega
      have hw:IntKind.i64.wrap ((k:Int)+1) = ((k+1:Nat):Int):=by rw [wrap_i64] <;> omega
      have hat:S[k]? = some S[k]:=List.getElem?_eq_getElem hlt
      rw [List.drop_eq_getElem_cons hlt,List.all_cons] at hR
      generalize S[k] = x at *
      rcases nameC_cases x with ⟨hx,h1 | ⟨h1,h2⟩ | h1⟩ | ⟨hx,h1,h2,h3⟩
      ·rw [hx,Bool.true_and] at hR
       have g1:(65:Int)≤(x.toNat:Int):=by omega
       have g2:(x.toNat:Int)≤90:=by omega
       simp [k0,k24,k25,hlt',hat,hw,g1,g2]
       exact ⟨k+1,by omega,by omega,by simpa using hR,by omega⟩
      ·rw [hx,Bool.true_and] at hR
       have g1:(48:Int)≤(x.toNat:Int):=by omega
       have g2:(x.toNat:Int)≤57:=by omega
       have g3:¬ (65:Int)≤(x.toNat:Int):=by omega
       have g4:¬ 65≤x.toNat:=by omega
       simp [k0,k24,k25,hlt',hat,hw,g1,g2,g3]
       exact ⟨k+1,by omega,by omega,by simpa using hR,by omega⟩
      ·rw [hx,Bool.true_and] at hR
       have g1:(x.toNat:Int) = 95:=by omega
       simp [k0,k24,k25,hlt',hat,hw,h1]
       exact ⟨k+1,by omega,by omega,by simpa using hR,by omega⟩
      ·rw [hx,Bool.false_and] at hR
       subst hR
       have g0:¬ (x.toNat:Int) = 95:=by omega
       by_cases q1:65≤x.toNat
       ·have g1:(65:Int)≤(x.toNat:Int):=by omega
        have g2:¬ (x.toNat:Int)≤90:=by omega
        have g2':¬ x.toNat≤90:=by omega
        have g3:(48:Int)≤(x.toNat:Int):=by omega
        have g3':48≤x.toNat:=by omega
        have g4:¬ (x.toNat:Int)≤57:=by omega
        have g4':¬ x.toNat≤57:=by omega
        simp [k0,k24,k25,hlt',hat,g0,g1,g2,g3,g4]
       ·have g1:¬ (65:Int)≤(x.toNat:Int):=by omega
        by_cases q2:48≤x.toNat
        ·have g3:(48:Int)≤(x.toNat:Int):=by omega
         have g4:¬ (x.toNat:Int)≤57:=by omega
         have g4':¬ x.toNat≤57:=by omega
         simp [k0,k24,k25,hlt',hat,g0,g1,g3,g4]
        ·have g3:¬ (48:Int)≤(x.toNat:Int):=by omega
         simp [k0,k24,k25,hlt',hat,g0,g1,g3]
     ·have hlt':¬ (k:Int) < (S.length:Int):=by omega
      rw [List.drop_eq_nil_of_le (by omega)] at hR
      have:r = true:=hR.symm
      subst this
      simp [k0,k24,k25,hlt']
    ·have h48n:48≤c.toNat:=by omega
     have h57n:¬ c.toNat≤57:=by omega
     simp [Tryz.f85,hl1,h64',h48,h57]
     rw [hn,← hS]
     clear hS hn hN
     refine Run.loopThen (fun (k:Nat) e H'=>k≤S.length∧(S.drop k).all nameC = r∧look e 0 = some (.str S)∧look e 24 = some (.int .i64 S.length)∧look e 25 = some (.int .i64 k)∧H' = []) (fun k=>S.length - k) 0 ?_ ?_
     ·simpa using hr
     rintro k e H' ⟨hk,hR,k0,k24,k25,rfl⟩
     by_cases hlt:k < S.length
     ·have hlt':(k:Int) < (S.length:Int):=by omega
      have hw:IntKind.i64.wrap ((k:Int)+1) = ((k+1:Nat):Int):=by rw [wrap_i64] <;> omega
      have hat:S[k]? = some S[k]:=List.getElem?_eq_getElem hlt
      rw [List.drop_eq_getElem_cons hlt,List.all_cons] at hR
      generalize S[k] = x at *
      rcases nameC_cases x with ⟨hx,h1 | ⟨h1,h2⟩ | h1⟩ | ⟨hx,h1,h2,h3⟩
      ·rw [hx,Bool.true_and] at hR
       have g1:(65:Int)≤(x.toNat:Int):=by omega
       have g2:(x.toNat:Int)≤90:=by omega
       simp [k0,k24,k25,hlt',hat,hw,g1,g2]
       exact ⟨k+1,by omega,by omega,by simpa using hR,by omega⟩
      ·rw [hx,Bool.true_and] at hR
       have g1:(48:Int)≤(x.toNat:Int):=by omega
       have g2:(x.toNat:Int)≤57:=by omega
       have g3:¬ (65:Int)≤(x.toNat:Int):=by omega
       have g4:¬ 65≤x.toNat:=by omega
       simp [k0,k24,k25,hlt',hat,hw,g1,g2,g3]
       exact ⟨k+1,by omega,by omega,by simpa using hR,by omega⟩
      ·rw [hx,Bool.true_and] at hR
       have g1:(x.toNat:Int) = 95:=by omega
       simp [k0,k24,k25,hlt',hat,hw,h1]
       exact ⟨k+1,by omega,by omega,by simpa using hR,by omega⟩
      ·rw [hx,Bool.false_and] at hR
       subst hR
       have g0:¬ (x.toNat:Int) = 95:=by omega
       by_cases q1:65≤x.toNat
       ·have g1:(65:Int)≤(x.toNat:Int):=by omega
        have g2:¬ (x.toNat:Int)≤90:=by omega
        have g2':¬ x.toNat≤90:=by omega
        have g3:(48:Int)≤(x.toNat:Int):=by omega
        have g3':48≤x.toNat:=by omega
        have g4:¬ (x.toNat:Int)≤57:=by omega
        have g4':¬ x.toNat≤57:=by omega
        simp [k0,k24,k25,hlt',hat,g0,g1,g2,g3,g4]
       ·have g1:¬ (65:Int)≤(x.toNat:Int):=by omega
        by_cases q2:48≤x.toNat
        ·have g3:(48:Int)≤(x.toNat:Int):=by omega
         have g4:¬ (x.toNat:Int)≤57:=by omega
         have g4':¬ x.toNat≤57:=by omega
         simp [k0,k24,k25,hlt',hat,g0,g1,g3,g4]
        ·have g3:¬ (48:Int)≤(x.toNat:Int):=by omega
         simp [k0,k24,k25,hlt',hat,g0,g1,g3]
     ·have hlt':¬ (k:Int) < (S.length:Int):=by omega
      rw [List.drop_eq_nil_of_le (by omega)] at hR
      have:r = true:=hR.symm
      subst this
      simp [k0,k24,k25,hlt']
end Go.Ev.S
namespace Go.Ev.S
open Go Go.Proofs Go.Ev
theorem fright_ev [MaxL] [TxtC] (p:Pr) (h1:p.name.length < 1000000):call cx 48 [.agg (Enc.cells p)] [] = some (.bool (prOk p),[]):=by
 have hn:=fname_ev p.name h1
 refine call_run Tryz.func48 rfl ⟨rfl,rfl⟩ ?_
 unfold prOk
 cases hq:nameOk p.name with
 | false =>
  rw [hq] at hn
  simp [Tryz.f48,hn,Pr.cells]
 | true =>
  rw [hq] at hn
  by_cases hv:p.value.length≤256
  ·have hv':(p.value.length:Int)≤256:=by omega
   simp [Tryz.f48,hn,Pr.cells,hv,hv']
  ·have hv':¬ (p.value.length:Int)≤256:=by omega
   simp [Tryz.f48,hn,Pr.cells,hv,hv']
theorem number_ev [MaxL] [TxtC] (v:Nat) (h:v < 18446744073709551616):call cx 41 [.int .u64 v] [] = some (.str (dec v),[]):=by
 have hf:=fu_ev v h
 refine call_run Tryz.func41 rfl ⟨rfl,rfl⟩ ?_
 simp [Tryz.f41,hf]

set_option maxHeartbeats 4000000 in
theorem wright_gap [MaxL] [TxtC] (it:It) (hg:it.gap = true):call cx 15 [.agg (Enc.cells it)] [] = some (.bool (gapOk it),[]):=by
 refine call_run Tryz.func15 rfl ⟨rfl,rfl⟩ ?_
 unfold gapOk
 have ht17:List.take 17 (ofBytes it.rc.boot.l ++ [(.vsl it.rc.fields.nil (encs it.rc.fields.l) it.rc.fields.l.length)]) = ofBytes it.rc.boot.l ++ [(.vsl it.rc.fields.nil (encs it.rc.fields.l) it.rc.fields.l.length)]:=List.take_of_length_le (by simp)

 rcases Classical.em (¬ (1≤it.fr)) with hfr | hfr
 ·simp [Tryz.f15,hg,hfr,ht17]
 replace hfr:=Classical.not_not.1 hfr
 rcases Classical.em (¬ (it.fr≤it.til)) with htil | htil
 ·simp [Tryz.f15,hg,hfr,htil,ht17]
 replace htil:=Classical.not_not.1 htil
 rcases Classical.em (¬ (it.rc.seq = 0)) with hseq | hseq
 ·simp [Tryz.f15,hg,hfr,htil,hseq,ht17]
 replace hseq:=Classical.not_not.1 hseq
 rcases Classical.em (¬ (it.rc.real = 0)) with hreal | hreal
 ·simp [Tryz.f15,hg,hfr,htil,hseq,hreal,ht17]
 replace hreal:=Classical.not_not.1 hreal
 rcases Classical.em (¬ (it.rc.mono = 0)) with hmono | hmono
 ·simp [Tryz.f15,hg,hfr,htil,hseq,hreal,hmono,ht17]
 replace hmono:=Classical.not_not.1 hmono
 have he:=cellsEq16 it.rc.boot ID.zero
 replace he:cellsEq [.i,.i,.i,.i,.i,.i,.i,.i,.i,.i,.i,.i,.i,.i,.i,.i] (ofBytes it.rc.boot.l) [.int .u8 0,.int .u8 0,.int .u8 0,.int .u8 0,.int .u8 0,.int .u8 0,.int .u8 0,.int .u8 0,.int .u8 0,.int .u8 0,.int .u8 0,.int .u8 0,.int .u8 0,.int .u8 0,.int .u8 0,.int .u8 0] = some (it.rc.boot == ID.zero):=he
 rcases Classical.em (¬ (it.rc.boot = ID.zero)) with hboot | hboot
 ·have hbe:(it.rc.boot == ID.zero) = false:=beq_eq_false_iff_ne.2 hboot
  rw [hbe] at he
  simp [Tryz.f15,hg,hfr,htil,hseq,hreal,hmono,hboot,he,ht17,List.drop_append]
 replace hboot:=Classical.not_not.1 hboot
 have hbe:(it.rc.boot == ID.zero) = true:=by rw [hboot];simp
 rw [hbe] at he
 have hbd:decide (it.rc.boot = ID.zero) = true:=decide_eq_true hboot
 clear hbe hboot
 by_cases hlen:it.rc.fields.l.length = 0
 ·have hlen':(it.rc.fields.l.length:Int) = 0:=by omega
  have hld:decide (it.rc.fields.l.length = 0) = true:=decide_eq_true hlen
  simp [-decide_eq_true_eq,Tryz.f15,hg,hfr,htil,hseq,hreal,hmono,hbd,he,hlen',ht17,List.drop_append]
  exact List.length_eq_zero_iff.1 hlen
 ·have hlen':¬ (it.rc.fields.l.length:Int) = 0:=by omega
  simp [Tryz.f15,hg,hfr,htil,hseq,hreal,hmono,hbd,hlen,he,ht17,List.drop_append]
set_option maxHeartbeats 4000000 in
theorem wright_rec [MaxL] [TxtC] (it:It) (hg:it.gap = false) (hb:∀ p∈it.rc.fields.l,PrB p) (hn:it.rc.fields.l.length < 1000000):call cx 15 [.agg (Enc.cells it)] [] = some (.bool (recOk it),[]):=by
 refine call_run Tryz.func15 rfl ⟨rfl,rfl⟩ ?_
 unfold recOk
 have ht17:List.take 17 (ofBytes it.rc.boot.l ++ [(.vsl it.rc.fields.nil (encs it.rc.fields.l) it.rc.fields.l.length)]) = ofBytes it.rc.boot.l ++ [(.vsl it.rc.fields.nil (encs it.rc.fields.l) it.rc.fields.l.length)]:=List.take_of_length_le (by simp)
 rcases Classical.em (¬ (it.fr = 0)) with hfr | hfr
 ·simp [Tryz.f15,hg,hfr,ht17]
 replace hfr:=Classical.not_not.1 hfr
 rcases Classical.em (¬ (it.til = 0)) with htil | htil
 ·simp [Tryz.f15,hg,hfr,htil,ht17]
 replace htil:=Classical.not_not.1 htil
 by_cases hseq:it.rc.seq = 0
 ·simp [Tryz.f15,hg,hfr,htil,hseq,ht17]
 by_cases hl1:it.rc.fields.l.length < 1
 ·have hl1':(it.rc.fields.l.length:Int) < 1:=by omega
  have hd:decide (1≤it.rc.fields.l.length) = false:=decide_eq_false (by omega)
  rw [hd]
  simp [Tryz.f15,hg,hfr,htil,hseq,hl1',ht17]
 have hl1':¬ (it.rc.fields.l.length:Int) < 1:=by omega
 have hd1:decide (1≤it.rc.fields.l.length) = true:=decide_eq_true (by omega)
 rw [hd1]
 by_cases hl2:16 < it.rc.fields.l.length
 ·have hl2':(16:Int) < (it.rc.fields.l.length:Int):=by omega
  have hd:decide (it.rc.fields.l.length≤16) = false:=decide_eq_false (by omega)
  rw [hd]
  simp [Tryz.f15,hg,hfr,htil,hseq,hl1',hl2',ht17]
 have hl2':¬ (16:Int) < (it.rc.fields.l.length:Int):=by omega
 have hd2:decide (it.rc.fields.l.length≤16) = true:=decide_eq_true (by omega)
 rw [hd2,decide_eq_true hfr,decide_eq_true htil,decide_eq_true hseq]
 simp only [Bool.true_and]
 obtain ⟨r,hr⟩:∃ r,it.rc.fields.l.all prOk = r:=⟨_,rfl⟩
 rw [hr]
 simp [Tryz.f15,hg,hfr,htil,hseq,hl1',hl2',ht17]
 generalize it.rc.fields = F at *
 refine Run.loopThen (fun (k:Nat) e H'=>k≤F.l.length∧(F.l.drop k).all prOk = r∧look e 73 = some (.vsl F.nil (encs F.l) F.l.length)∧look e 74 = some (.int .i64 F.l.length)∧look e 75 = some (.int .i64 k)∧(H' = [some (Enc.cells it),some (.int .u64 it.rc.seq :: .int .u64 it.rc.real :: .int .u64 it.rc.mono :: (ofBytes it.rc.boot.l ++ [(.vsl F.nil (encs F.l) F.l.length)]))]∨∃ p:Pr,H' = [some (Enc.cells p)])) (fun k=>F.l.length - k) 0 ?_ ?_
 ·simpa using hr
 rintro k e H' ⟨hk,hR,k73,k74,k75,hH⟩
 by_cases hlt:k < F.l.length
 ·have hlt':(k:Int) < (F.l.length:Int):=by omega
  have hw:IntKind.i64.wrap ((k:Int)+1) = ((k+1:Nat):Int):=by rw [wrap_i64] <;> omega
  rw [List.drop_eq_getElem_cons hlt,List.all_cons] at hR
  have hf:=fright_ev F.l[k] (hb _ (List.getElem_mem hlt)).1
  have hnn:=Sl.nn hlt
  cases hp:prOk F.l[k] with
  | true =>
   rw [hp] at hf
   rw [hp,Bool.true_and] at hR
   rcases hH with rfl | ⟨p,rfl⟩
   ·simp [k73,k74,k75,hlt,hlt',hw,hnn,hf]
    exact ⟨k+1,by omega,by omega,by simpa using hR,by omega,_,rfl⟩
   ·simp [k73,k74,k75,hlt,hlt',hw,hnn,hf]
    exact ⟨k+1,by omega,by omega,by simpa using hR,by omega,_,rfl⟩
  | false =>
   rw [hp] at hf
   rw [hp,Bool.false_and] at hR
   subst hR
   rcases hH with rfl | ⟨p,rfl⟩
   ·simp [k73,k74,k75,hlt,hlt',hnn,hf]
   ·simp [k73,k74,k75,hlt,hlt',hnn,hf]
 ·have hlt':¬ (k:Int) < (F.l.length:Int):=by omega
  rw [List.drop_eq_nil_of_le (by omega)] at hR
  have:r = true:=hR.symm
  subst this
  rcases hH with rfl | ⟨p,rfl⟩
  ·simp [k73,k74,k75,hlt']
  ·simp [k73,k74,k75,hlt']

theorem wright_ev [MaxL] [TxtC] (it:It) (hb:∀ p∈it.rc.fields.l,PrB p) (hn:it.rc.fields.l.length < 1000000):call cx 15 [.agg (Enc.cells it)] [] = some (.bool (itOk it),[]):=by
 unfold itOk
 cases hg:it.gap with
 | true=>rw [if_pos rfl];exact wright_gap it hg
 | false=>rw [if_neg (by decide)];exact wright_rec it hg hb hn
end Go.Ev.S
namespace Go.Ev.S
open Go Go.Proofs Go.Ev
set_option maxHeartbeats 2000000 in
theorem pair_ev [MaxL] [TxtC] (p:Pr) (hb:PrB p):call cx 46 [.agg (Enc.cells p)] [] = some (.str (pairL p),[]):=by
 obtain ⟨h1,h2⟩:=hb
 have hp:=plain_ev p.value h2
 refine call_run Tryz.func46 rfl ⟨rfl,rfl⟩ ?_
 unfold pairL
 cases hv:plainV p.value with
 | true =>
  rw [hv] at hp
  have x1:p.name.length+1≤4611686018427387904:=by omega
  have x2:p.name.length+1+p.value.length≤4611686018427387904:=by omega
  have x3:p.name.length+(p.value.length+1)≤4611686018427387904:=by omega
  have x4:p.name.length+(p.value.length+1)+1≤4611686018427387904:=by omega
  have x5:p.name.length+(p.value.length+1+1)≤4611686018427387904:=by omega
  simp [Tryz.f46,hp,Pr.cells,x1,x2,x4]
 | false =>
  rw [hv] at hp
  obtain ⟨d,H,hB,hc⟩:=leadd_ev (Sl.none (α:=UInt8)) 8 p.value.length (by show (0:Nat)≤_;omega)
  have hla:leAdd (Sl.none (α:=UInt8)).l 8 p.value.length = leB 8 p.value.length:=rfl
  rw [hla] at hB
  have hl8:(leB 8 p.value.length).length = 8:=by simp
  generalize leB 8 p.value.length = L at *
  replace hc:call cx 64 [.vsl true [] 0,.int .i64 8,.int .u64 (p.value.length:Nat)] [] = some (d,H):=hc
  rcases hB with ⟨_,rfl,_⟩ | ⟨rfl,rfl⟩
  ·simp at hl8
  have hw:IntKind.u64.wrap (p.value.length:Int) = (p.value.length:Int):=by rw [wrap_u64] <;> omega
  have x1:p.name.length+1≤4611686018427387904:=by omega
  have x2:p.name.length+1+8≤4611686018427387904:=by omega
  have x3:p.name.length+(8+1)≤4611686018427387904:=by omega
  have x4:p.name.length+(8+1)+p.value.length≤4611686018427387904:=by omega
  have x5:p.name.length+(8+1+p.value.length)≤4611686018427387904:=by omega
  have x6:p.name.length+(p.value.length+(8+1))≤4611686018427387904:=by omega
  have x7:p.name.length+(8+p.value.length+1)≤4611686018427387903:=by omega
  simp [Tryz.f46,hp,Pr.cells,hc,hw,hl8,x1,x2,x4,x7]
end Go.Ev.S
namespace Go.Ev.S
open Go Go.Proofs Go.Ev
theorem nums1_ev [MaxL] [TxtC] (a:Nat) (ha:a < 18446744073709551616):call cx 60 [.vsl false [.int .u64 a] 1] [] = some (.vsl false (ofBytes (leB 8 a)) 8,[]):=by
 have h1:=low_ev a ha
 clear ha
 refine call_run Tryz.func60 rfl ⟨rfl,rfl⟩ ?_
 simp [Tryz.f60]
 iterate 2
  refine run_unroll ?_
  simp [h1,List.take_of_length_le,maxBytes]
theorem rdec_ev [MaxL] [TxtC] (v:Nat) (hv:v < 18446744073709551616):call cx 55 [.int .u64 v] [] = some (.str (dec v),[]):=by
 have h:=fu_ev v hv
 refine call_run Tryz.func55 rfl ⟨rfl,rfl⟩ ?_
 simp [Tryz.f55,h]
theorem rplain_ev [MaxL] [TxtC] (s:List UInt8) (_:s.length < 1000000):call cx 59 [.str s] [] = some (.bool (plainV s),[]):=by
 refine call_run Tryz.func59 rfl ⟨rfl,rfl⟩ ?_
 unfold plainV
 obtain ⟨r,hr⟩:∃ r,s.all plainC = r:=⟨_,rfl⟩
 rw [hr]
 simp [Tryz.f59]
 refine Run.loopThen (fun (k:Nat) e H'=>k≤s.length∧(s.drop k).all plainC = r∧look e 0 = some (.str s)∧look e 3 = some (.int .i64 k)∧H' = []) (fun k=>s.length - k) 0 ?_ ?_
 ·simpa using hr
 rintro k e H' ⟨hk,hR,k0,k3,rfl⟩
 by_cases hlt:k < s.length
 ·have hlt':(k:Int) < (s.length:Int):=by omega
  have hw:IntKind.i64.wrap ((k:Int)+1) = ((k+1:Nat):Int):=by rw [wrap_i64] <;> omega
  have hat:s[k]? = some s[k]:=List.getElem?_eq_getElem hlt
  rw [List.drop_eq_getElem_cons hlt,List.all_cons] at hR
  generalize s[k] = c at *
  by_cases h2:c.toNat = 9
  ·have h2':(c.toNat:Int) = 9:=by omega
   have hc:plainC c = true:=by simp [plainC,h2]
   rw [hc,Bool.true_and] at hR
   simp [k0,k3,hlt',hat,hw,h2]
   exact ⟨k+1,by omega,by omega,by simpa using hR,by omega⟩
  ·have h2':¬ (c.toNat:Int) = 9:=by omega
   by_cases h1:c.toNat < 32
   ·have h1':(c.toNat:Int) < 32:=by omega
    have hc:plainC c = false:=by simp [plainC,h1,h2]
    rw [hc,Bool.false_and] at hR
    subst hR
    simp [k0,k3,hlt',hat,h1',h2']
   ·have h1':¬ (c.toNat:Int) < 32:=by omega
    have hc:plainC c = true:=by simp [plainC,h1]
    rw [hc,Bool.true_and] at hR
    simp [k0,k3,hlt',hat,hw,h1',h2']
    exact ⟨k+1,by omega,by omega,by simpa using hR,by omega⟩
 ·have hlt':¬ (k:Int) < (s.length:Int):=by omega
  rw [List.drop_eq_nil_of_le (by omega)] at hR
  have:r = true:=hR.symm
  subst this
  simp [k0,k3,hlt']
def nameG:List UInt8→Nat→Bool
 | [],_=>true
 | c :: l,k=>(nameC c && (decide (0 < k) || !digC c)) && nameG l (k+1)
theorem nameG_pos:∀ (l:List UInt8) (k:Nat),0 < k→nameG l k = l.all nameC
 | [],_,_=>rfl
 | c :: l,k,h=>by rw [nameG,nameG_pos l (k+1) (by omega)];simp [h]
theorem nameOk_G (s:List UInt8):nameOk s = (nameG s 0 && (decide (1≤s.length) && decide (s.length≤64))):=by
 cases s with
 | nil=>rfl
 | cons c l =>
  rw [nameOk,nameG,nameG_pos l 1 (by omega),List.all_cons]
  simp
  cases nameC c <;> cases digC c <;> cases l.all nameC <;> simp
set_option maxHeartbeats 4000000 in
theorem rname_ev [MaxL] [TxtC] (s:List UInt8) (_:s.length < 1000000):call cx 101 [.str s] [] = some (.bool (nameOk s),[]):=by
 refine call_run Tryz.func101 rfl ⟨rfl,rfl⟩ ?_
 rw [nameOk_G]
 obtain ⟨r,hr⟩:∃ r,(nameG s 0 && (decide (1≤s.length) && decide (s.length≤64))) = r:=⟨_,rfl⟩
 rw [hr]
 simp [Tryz.f101]
 refine Run.loopThen (fun (k:Nat) e H'=>k≤s.length∧(nameG (s.drop k) k && (decide (1≤s.length) && decide (s.length≤64))) = r∧look e 0 = some (.str s)∧look e 3 = some (.int .i64 k)∧H' = []) (fun k=>s.length - k) 0 ?_ ?_
 ·simpa using hr
 rintro k e H' ⟨hk,hR,k0,k3,rfl⟩
 by_cases hlt:k < s.length
 ·have hlt':(k:Int) < (s.length:Int):=by omega
  have hw:IntKind.i64.wrap ((k:Int)+1) = ((k+1:Nat):Int):=by rw [wrap_i64] <;> omega
  have hat:s[k]? = some s[k]:=List.getElem?_eq_getElem hlt
  rw [List.drop_eq_getElem_cons hlt,nameG] at hR
  generalize s[k] = c at *
  have hnx:(nameC c && (decide (0 < k) || !digC c)) = true→∃ j:Nat,s.length - j < s.length - k∧j≤s.length∧(nameG (s.drop j) j && (decide (1≤s.length) && decide (s.length≤64))) = r∧(j:Int) = (k:Int)+1:=fun h=>⟨k+1,by omega,by omega,by rw [h,Bool.true_and] at hR;exact hR,by omega⟩
  have hno:(nameC c && (decide (0 < k) || !digC c)) = false→r = false:=fun h=>by rw [h,Bool.false_and,Bool.false_and] at hR;exact hR.symm
  cases hb:(nameC c && (decide (0 < k) || !digC c)) with
  | true =>
   obtain ⟨j,j1,j2,j3,j4⟩:=hnx hb
   simp [nameC,digC] at hb
   by_cases h1:(48:Int)≤(c.toNat:Int) <;> by_cases h2:(c.toNat:Int)≤57 <;> rcases (show ((k = 0) = True∧(0 < k) = False)∨((k = 0) = False∧(0 < k) = True) by by_cases hk0:k = 0;exact .inl ⟨eq_true hk0,eq_false (by omega)⟩;exact .inr ⟨eq_false hk0,eq_true (by omega)⟩) with ⟨h3,h3'⟩ | ⟨h3,h3'⟩ <;> by_cases h4:(65:Int)≤(c.toNat:Int) <;> by_cases h5:(c.toNat:Int)≤90 <;> by_cases h6:(c.toNat:Int) = 95 <;> try (exfalso;simp at h3;omega)
   all_goals simp [k0,k3,hlt',hat,hw,h1,h2,h3',h4,h5,h6]
   all_goals exact ⟨j,j1,j2,j3,by omega⟩
  | false =>
   have:=hno hb
   subst this
   simp [nameC,digC] at hb
   by_cases h1:(48:Int)≤(c.toNat:Int) <;> by_cases h2:(c.toNat:Int)≤57 <;> rcases (show ((k = 0) = True∧(0 < k) = False)∨((k = 0) = False∧(0 < k) = True) by by_cases hk0:k = 0;exact .inl ⟨eq_true hk0,eq_false (by omega)⟩;exact .inr ⟨eq_false hk0,eq_true (by omega)⟩) with ⟨h3,h3'⟩ | ⟨h3,h3'⟩ <;> by_cases h4:(65:Int)≤(c.toNat:Int) <;> by_cases h5:(c.toNat:Int)≤90 <;> by_cases h6:(c.toNat:Int) = 95 <;> try (exfalso;simp at h3;omega)
   all_goals simp [k0,k3,hlt',hat,h1,h2,h3',h4,h5,h6]
 ·have hlt':¬ (k:Int) < (s.length:Int):=by omega
  rw [List.drop_eq_nil_of_le (by omega),nameG,Bool.true_and] at hR
  by_cases h1:1≤s.length
  ·have h1':(1:Int)≤(s.length:Int):=by omega
   by_cases h2:s.length≤64
   ·have h2':(s.length:Int)≤64:=by omega
    simp only [h1,h2,decide_true,Bool.and_self] at hR
    subst hR
    simp [k0,k3,hlt',h1',h2']
   ·have h2':¬ (s.length:Int)≤64:=by omega
    simp only [h1,h2,decide_true,decide_false,Bool.and_false] at hR
    subst hR
    simp [k0,k3,hlt',h1',h2']
  ·have h1':¬ (1:Int)≤(s.length:Int):=by omega
   simp only [h1,decide_false,Bool.false_and] at hR
   subst hR
   simp [k0,k3,hlt',h1']
theorem rright1_ev [MaxL] [TxtC] (p:Pr) (hb:PrB p):call cx 61 [.agg (Enc.cells p)] [] = some (.bool (prOk p),[]):=by
 have h:=rname_ev p.name hb.1
 refine call_run Tryz.func61 rfl ⟨rfl,rfl⟩ ?_
 unfold prOk
 cases hn:nameOk p.name with
 | false =>
  rw [hn] at h
  simp [Tryz.f61,h,Pr.cells]
 | true =>
  rw [hn] at h
  by_cases h2:p.value.length≤256
  ·have h2':(p.value.length:Int)≤256:=by omega
   simp [Tryz.f61,h,Pr.cells,h2,h2']
  ·have h2':¬ (p.value.length:Int)≤256:=by omega
   simp [Tryz.f61,h,Pr.cells,h2,h2']
end Go.Ev.S
namespace Go.Ev.S
open Go Go.Proofs Go.Ev
set_option maxHeartbeats 4000000 in
theorem rright_gap [MaxL] [TxtC] (it:It) (hg:it.gap = true):call cx 23 [.agg (Enc.cells it)] [] = some (.bool (gapOk it),[]):=by
 refine call_run Tryz.func23 rfl ⟨rfl,rfl⟩ ?_
 unfold gapOk
 have ht17:List.take 17 (ofBytes it.rc.boot.l ++ [(.vsl it.rc.fields.nil (encs it.rc.fields.l) it.rc.fields.l.length)]) = ofBytes it.rc.boot.l ++ [(.vsl it.rc.fields.nil (encs it.rc.fields.l) it.rc.fields.l.length)]:=List.take_of_length_le (by simp)

 rcases Classical.em (¬ (1≤it.fr)) with hfr | hfr
 ·simp [Tryz.f23,hg,hfr,ht17]
 replace hfr:=Classical.not_not.1 hfr
 rcases Classical.em (¬ (it.fr≤it.til)) with htil | htil
 ·simp [Tryz.f23,hg,hfr,htil,ht17]
 replace htil:=Classical.not_not.1 htil
 rcases Classical.em (¬ (it.rc.seq = 0)) with hseq | hseq
 ·simp [Tryz.f23,hg,hfr,htil,hseq,ht17]
 replace hseq:=Classical.not_not.1 hseq
 rcases Classical.em (¬ (it.rc.real = 0)) with hreal | hreal
 ·simp [Tryz.f23,hg,hfr,htil,hseq,hreal,ht17]
 replace hreal:=Classical.not_not.1 hreal
 rcases Classical.em (¬ (it.rc.mono = 0)) with hmono | hmono
 ·simp [Tryz.f23,hg,hfr,htil,hseq,hreal,hmono,ht17]
 replace hmono:=Classical.not_not.1 hmono
 have he:=cellsEq16 it.rc.boot ID.zero
 replace he:cellsEq [.i,.i,.i,.i,.i,.i,.i,.i,.i,.i,.i,.i,.i,.i,.i,.i] (ofBytes it.rc.boot.l) [.int .u8 0,.int .u8 0,.int .u8 0,.int .u8 0,.int .u8 0,.int .u8 0,.int .u8 0,.int .u8 0,.int .u8 0,.int .u8 0,.int .u8 0,.int .u8 0,.int .u8 0,.int .u8 0,.int .u8 0,.int .u8 0] = some (it.rc.boot == ID.zero):=he
 rcases Classical.em (¬ (it.rc.boot = ID.zero)) with hboot | hboot
 ·have hbe:(it.rc.boot == ID.zero) = false:=beq_eq_false_iff_ne.2 hboot
  rw [hbe] at he
  simp [Tryz.f23,hg,hfr,htil,hseq,hreal,hmono,hboot,he,ht17,List.drop_append]
 replace hboot:=Classical.not_not.1 hboot
 have hbe:(it.rc.boot == ID.zero) = true:=by rw [hboot];simp
 rw [hbe] at he
 have hbd:decide (it.rc.boot = ID.zero) = true:=decide_eq_true hboot
 clear hbe hboot
 by_cases hlen:it.rc.fields.l.length = 0
 ·have hlen':(it.rc.fields.l.length:Int) = 0:=by omega
  have hld:decide (it.rc.fields.l.length = 0) = true:=decide_eq_true hlen
  simp [-decide_eq_true_eq,Tryz.f23,hg,hfr,htil,hseq,hreal,hmono,hbd,he,hlen',ht17,List.drop_append]
  exact List.length_eq_zero_iff.1 hlen
 ·have hlen':¬ (it.rc.fields.l.length:Int) = 0:=by omega
  simp [Tryz.f23,hg,hfr,htil,hseq,hreal,hmono,hbd,hlen,he,ht17,List.drop_append]
set_option maxHeartbeats 4000000 in
theorem rright_rec [MaxL] [TxtC] (it:It) (hi:it.Ok) (hg:it.gap = false) (hb:∀ p∈it.rc.fields.l,PrB p) (hn:it.rc.fields.l.length < 1000000):call cx 23 [.agg (Enc.cells it)] [] = some (.bool (recOk it),[]):=by
 refine call_run Tryz.func23 rfl ⟨rfl,rfl⟩ ?_
 have hsq:=hi.rc.seq
 unfold isU64 at hsq
 obtain ⟨R,hR0⟩:∃ R,R = (decide (it.fr = 0) && decide (it.til = 0) && decide (it.rc.seq≠0) && decide (1≤it.rc.fields.l.length) && decide (it.rc.fields.l.length≤16)):=⟨_,rfl⟩
 have hrec:recOk it = (R && it.rc.fields.l.all prOk):=by unfold recOk;rw [hR0]
 rw [hrec]
 have ht17:List.take 17 (ofBytes it.rc.boot.l ++ [(.vsl it.rc.fields.nil (encs it.rc.fields.l) it.rc.fields.l.length)]) = ofBytes it.rc.boot.l ++ [(.vsl it.rc.fields.nil (encs it.rc.fields.l) it.rc.fields.l.length)]:=List.take_of_length_le (by simp)
 obtain ⟨r,hr⟩:∃ r,(R && it.rc.fields.l.all prOk) = r:=⟨_,rfl⟩
 rw [hr]
 obtain ⟨cit,hcit⟩:∃ l,l = Enc.cells it:=⟨_,rfl⟩
 simp [Tryz.f23,hg,ht17]
 refine Run.loopThen (fun (k:Nat) e H'=>k≤it.rc.fields.l.length∧(R && (it.rc.fields.l.drop k).all prOk) = r∧look e 1 = some (.optr 0 39 0)∧look e 3 = some (.optr 1 20 0)∧look e 4 = some (.int .i64 k)∧H' = [some (Enc.cells it),some (.int .u64 it.rc.seq :: .int .u64 it.rc.real :: .int .u64 it.rc.mono :: (ofBytes it.rc.boot.l ++ [(.vsl it.rc.fields.nil (encs it.rc.fields.l) it.rc.fields.l.length)]))]) (fun k=>it.rc.fields.l.length - k) 0 ?_ ?_
 ·simpa using hr
 rintro k e H' ⟨hk,hR,k1,k3,k4,rfl⟩
 by_cases hlt:k < it.rc.fields.l.length
 ·have hlt':(k:Int) < (it.rc.fields.l.length:Int):=by omega
  have hw:IntKind.i64.wrap ((k:Int)+1) = ((k+1:Nat):Int):=by rw [wrap_i64] <;> omega
  rw [List.drop_eq_getElem_cons hlt,List.all_cons] at hR
  have hf:=rright1_ev it.rc.fields.l[k] (hb _ (List.getElem_mem hlt))
  have hnn:=Sl.nn hlt
  cases hp:prOk it.rc.fields.l[k] with
  | true =>
   rw [hp] at hf
   rw [hp,Bool.true_and] at hR
   simp [k1,k3,k4,hlt,hlt',hw,hnn,hf]
   exact ⟨k+1,by omega,by omega,by simpa using hR,by omega⟩
  | false =>
   rw [hp] at hf
   rw [hp,Bool.false_and,Bool.and_false] at hR
   subst hR
   simp [k1,k3,k4,hlt,hlt',hnn,hf]
 ·have hlt':¬ (k:Int) < (it.rc.fields.l.length:Int):=by omega
  rw [List.drop_eq_nil_of_le (by omega)] at hR
  have hr2:r = R:=by rw [← hR];simp
  subst hr2
  rw [hR0]
  by_cases hfr:it.fr = 0
  ·by_cases htil:it.til = 0
   ·by_cases hseq:it.rc.seq = 0
    ·simp [k1,k3,k4,hlt',hfr,htil,hseq]
    ·have hs1:1≤it.rc.seq:=by omega
     by_cases h1:1≤it.rc.fields.l.length
     ·have h1':(1:Int)≤(it.rc.fields.l.length:Int):=by omega
      by_cases h2:it.rc.fields.l.length≤16
      ·have h2':(it.rc.fields.l.length:Int)≤16:=by omega
       simp [-decide_eq_true_eq,k1,k3,k4,hlt',hfr,htil,hseq,hs1,h1',h2',decide_eq_true h1,decide_eq_true h2]
      ·have h2':¬ (it.rc.fields.l.length:Int)≤16:=by omega
       simp [-decide_eq_true_eq,k1,k3,k4,hlt',hfr,htil,hseq,hs1,h1',h2',decide_eq_true h1,decide_eq_false h2]
     ·have h1':¬ (1:Int)≤(it.rc.fields.l.length:Int):=by omega
      simp [-decide_eq_true_eq,k1,k3,k4,hlt',hfr,htil,hseq,hs1,h1',decide_eq_false h1]
   ·simp [k1,k3,k4,hlt',hfr,htil]
  ·simp [k1,k3,k4,hlt',hfr]
theorem rright_ev [MaxL] [TxtC] (it:It) (hi:it.Ok) (hb:∀ p∈it.rc.fields.l,PrB p) (hn:it.rc.fields.l.length < 1000000):call cx 23 [.agg (Enc.cells it)] [] = some (.bool (itOk it),[]):=by
 unfold itOk
 cases hg:it.gap with
 | true=>rw [if_pos rfl];exact rright_gap it hg
 | false=>rw [if_neg (by decide)];exact rright_rec it hi hg hb hn
end Go.Ev.S
namespace Go.Ev
open Go Go.Proofs Go.RowKit
section
variable {X:Cx} {ok:Nat→Prop} {w w':World} {ι:Iota} {H H':Heap}
theorem cell_same {a:Addr} {j:Nat} {v:Value} (hk:w'.heap[a.block]? = w.heap[a.block]?) (h:w.cell? (a.add j) = some v):w'.cell? (a.add j) = some v:=by
 rw [World.cell?_of_block (w:=w)]
 ·exact h
 ·rw [add_block]
  exact hk
theorem Rep.same {d:D} {v:Value} (h:Rep ok w ι H d v) (hk:∀ b,ok b→w'.heap[b]? = w.heap[b]?):Rep ok w' ι H d v:=by
 induction h with
 | bool b=>exact .bool b
 | int k n=>exact .int k n
 | str s=>exact .str s
 | nilp=>exact .nilp
 | nilf=>exact .nilf
 | nili=>exact .nili
 | raw v=>exact .raw v
 | agg hl hc h ih=>exact .agg hl hc fun j d hj=>ih j d hj
 | tup hl h ih=>exact .tup hl fun j d hj=>ih j d hj
 | vptr a f ha hc hr h ih=>exact .vptr a f ha hc (fun j d hj=>cell_same (hk _ (ha d (mem_of_get? hj))) (hr j d hj)) fun j d hj=>ih j d hj
 | optr a hi h=>exact .optr a hi h
 | vnil=>exact .vnil
 | vsl a f ha hc hr h hlc ih=>exact .vsl a f ha hc (fun j d hj=>cell_same (hk _ (ha d (mem_of_get? hj))) (hr j d hj)) (fun j d hj=>ih j d hj) hlc
 | osl a hi h hlc=>exact .osl a hi h hlc
 | fn hl h ih=>exact .fn hl fun j d hj=>ih j d hj
 | iface h ih=>exact .iface ih
theorem sim_same (hs:Sim X ok w ι H) (hsz:w.heap.size≤w'.heap.size) (hk:∀ b,ok b→w'.heap[b]? = w.heap[b]?) (hn:∀ i ds b s,hget H i = some ds→ι i = some (b,s)→w'.heap[b]? = w.heap[b]?):Sim X ok w' ι H:=by
 refine ⟨fun b h=>Nat.lt_of_lt_of_le (hs.okS b h) hsz,fun g cs hg=>(hs.glob g cs hg).same hk,hs.inj,fun i ds hd=>?_⟩
 obtain ⟨b,arr,e,fr,q1,q2,q3,q4,q5,q6,q7,q8⟩:=hs.blk i ds hd
 exact ⟨b,arr,e,fr,q1,q2,by rw [hn i ds b _ hd q1];exact q3,q4,q5,q6,q7,fun j d hj=>(q8 j d hj).same hk⟩
theorem env_same {e:Env} {ts:Array Value} (he:EnvRep ok w ι H e ts) (hk:∀ b,ok b→w'.heap[b]? = w.heap[b]?):EnvRep ok w' ι H e ts:=fun t d ht=>⟨(he t d ht).1,(he t d ht).2.same hk⟩
theorem evOps_app {F:CallF} (hF:SoundF X F) {nt:Nat} {drw:Bool} {ops:Array Oper} {Q:Exit→Act→World→Prop} {r:List Oper}:∀ {l:List Oper} {e e':Env} {H H':Heap} {ok:Nat→Prop} {w:World} {ι:Iota} {a:Act},evOps X F nt drw ops l e H = some (e',H') →
  Sim X ok w ι H→EnvRep ok w ι H e a.tmps→nt≤a.tmps.size→(∀ a' w',Out X H.length ok w ι H a e' H' a' w'→wpList X.P ops Q r a' w')→wpList X.P ops Q (l ++ r) a w
 | [],e,e',H,H',ok,w,ι,a,h,hs,he,hn,hQ=>by
  simp only [evOps,Option.some.injEq,Prod.mk.injEq] at h
  obtain ⟨rfl,rfl⟩:=h
  exact hQ a w ⟨rfl,rfl,ι,ok,hs,he,.refl _ (Nat.le_refl _)⟩
 | o :: l,e,e',H,H',ok,w,ι,a,h,hs,he,hn,hQ=>by
  simp only [evOps] at h
  split at h
  ·rename_i hdst hg
   split at h
   ·rename_i d H1 ho
    have hw:=wanted_of_guard he hg
    simp only [List.cons_append,wpList,hw,if_true]
    refine .inl ?_
    unfold Oper.wp
    refine Goes.upon ((opW_goes hF hs he ho).mono fun v w1 hp=>?_)
    obtain ⟨ι1,ok1,k1,k2,k3⟩:=hp
    obtain ⟨s1,s2⟩:=put_size a o.dst v
    refine evOps_app hF h k1 (put_env (he.evol' hs k3) k2 hn hdst) (by omega) fun a2 w2 hout=>hQ a2 w2 ?_
    obtain ⟨t1,t2,ι2,ok2,u1,u2,u3⟩:=hout
    exact ⟨by omega,by rw [t2,s2],ι2,ok2,u1,u2,k3.trans (u3.mono k3.nle.2)⟩
   ·cases h
  ·rename_i hdst hg
   have hw:=wanted_of_guard he hg
   simp only [List.cons_append,wpList,hw,Bool.false_eq_true,if_false]
   obtain ⟨s1,s2⟩:=put_size a o.dst undef
   refine evOps_app hF h hs (put_env he undef_rep hn hdst) (by omega) fun a2 w2 hout=>hQ a2 w2 ?_
   obtain ⟨t1,t2,rest⟩:=hout
   exact ⟨by omega,by rw [t2,s2],rest⟩
  ·cases h
theorem wp_callOp {P:Program} {ops:Array Oper} {Q:Exit→Act→World→Prop} {r:List Oper} {o:Oper} {c:Call} {f:Nat} {a:Act} (hg:o.guard = none) (ho:o.op = .call c) (hc:c.callee = .value (.func f))
  (h:Goes P (callFunc f (c.args.toList.map a.eval).toArray) w fun v w1=>wpList P ops Q r (a.put o.dst v) w1):wpList P ops Q (o :: r) a w:=by
 have hw:Region.wanted o (yielded ops a.tmps) = true:=by unfold Region.wanted;rw [hg]
 simp only [wpList,hw,if_true]
 refine .inl ?_
 unfold Oper.wp
 have e:execOp a.eval o = callFunc f (c.args.toList.map a.eval).toArray:=by
  simp only [execOp,ho,resolve,hc,Act.eval,Deferred.ofValue]
  simp only [pure_bind,invoke]
  congr 1
  apply Array.ext'
  simp
 rw [e]
 exact Goes.upon h
theorem code_sound (hG:Good X) {f nt n0:Nat} {c:Code} {e e':Env} {ex:Ex} {a:Act} (h:code X f nt n0 c e H = some (ex,e',H')) (hok:okCode X f c = true) (hn:n0≤H.length) (hs:Sim X ok w ι H) (he:EnvRep ok w ι H e a.tmps) (ht:nt≤a.tmps.size) :
  c.wp X.P (CQ X n0 ok w ι H a ex e' H') a w:=by
 obtain ⟨n,hn'⟩:=code_some.1 h
 exact (sound hG n).2 f nt n0 c e e' H H' ex ok w ι a hn' hok hn hs he ht
end
end Go.Ev
namespace Go.Ev
open Go Go.Proofs Go.RowKit Go.Shelf
section
variable {P:Program} {ρ:Ren}
def FreshAt (w:World) (v v':Value):Prop:= ∀ k,v'.ownBlock = some k→v.ownBlock = some k∨w.heap.size≤k
theorem append_fresh (w:World) (base:Nat) (t u ty e:TypeId) (i:TypeInfo) (ht:P.underlying t = some (.slice e)) (hu:P.underlying u = some .string) (hi:P.info? e = some i) (hz:i.zero = some (.int .u8 0))
  (hsize:i.size = 1) (hby:i.bytes = 1) (v:Value) (n:Nat) (xs:List Value) (hown:w.ownsRowF base e 1 v n xs) (s:ByteArray)
  (h63:n+s.size≤maxLen) (hbytes:n+s.size≤140737488355328) (hbase:base≤w.heap.size) :
  ∃ v' w',(Builtin.append_ #[t,u] ty #[v,.string s]).run P w = .ok v' w'∧w'.ownsRowF base e 1 v' (n+s.size) (xs ++ Lib.strCells s)∧w.grownBy w' v.ownBlock∧FreshAt w v v':=by
 obtain ⟨v',w',h1,h2,h3,-⟩:=Lib.run_append_own_stringF (P:=P) w base t u ty e i ht hu hi hz hsize hby v n xs hown s h63 hbytes hbase
 refine ⟨v',w',h1,h2,h3,?_⟩
 rcases hown.2 with ⟨rfl,rfl⟩ | ⟨g,cap,cur,fz,rfl,hbg,hg,hfz,hnc,hcm,hcs,htake⟩
 ·obtain ⟨v1,w1,q1,q2,-,-⟩:=Lib.run_append_own_stringF (P:=P) w w.heap.size t u ty e i ht hu hi hz hsize hby (.slice none 0 0) 0 xs ⟨hown.1,.inl ⟨rfl,rfl⟩⟩ s h63 hbytes (Nat.le_refl _)
  rw [h1] at q1
  injection q1 with e1 e2
  subst e1;subst e2
  intro k hk
  rcases q2.2 with ⟨rfl,_⟩ | ⟨g,cap,cur,fz,rfl,hbg,_⟩
  ·simp [Value.ownBlock] at hk
  ·simp only [Value.ownBlock,Option.some.injEq] at hk
   exact .inr (by omega)
 ·have hxl:xs.length = n:=by simpa using hown.1
  by_cases hroom:n+s.size≤cap
  ·have hcs':cur.size = cap:=by simpa using hcs
   have hr:=Lib.run_append_room_stringF (P:=P) w t u ty e i ht hu hi hsize g n cap cur fz hg (by simpa using hfz) s hroom (by omega)
   rw [h1] at hr
   injection hr with e1 e2
   subst e1
   intro k hk
   exact .inl hk
  ·have holds:∀ j u,xs[j]? = some u→w.cell? ((⟨g,0,none⟩:Addr).add j) = some u:=hown.cells (g:=g) rfl
   have hr:=Lib.run_append_grow_string (P:=P) w t u ty e i (.int .u8 0) ht hu hi hz ⟨g,0,none⟩ n cap xs (by rw [hsize];simpa using hxl) holds s (by omega) (by simp only [maxLen] at h63;omega) (by rw [hby];exact growslice_fits (by omega) (by omega))
   rw [h1] at hr
   injection hr with e1 e2
   subst e1
   intro k hk
   simp only [Value.ownBlock,Option.some.injEq] at hk
   exact .inr (by omega)
theorem wpList_append_x {ops:Array Oper} {rest:List Oper} {o:Oper} {a:Act} {Q:Exit→Act→World→Prop} {w:World} (hgd:o.guard = none) (sl x:Operand) (t u:TypeId)
  (ho:o.op = .call { callee:=.builtin .append,args:= #[sl,x],argTypes:= #[t,u] })
  (base:Nat) (e:TypeId) (i:TypeInfo) (ht:P.underlying t = some (.slice e)) (hu:P.underlying u = some .string) (hi:P.info? e = some i) (hz:i.zero = some (.int .u8 0))
  (hsize:i.size = 1) (hby:i.bytes = 1)
  (v:Value) (n:Nat) (xs:List Value) (hs:a.eval sl = v) (hown:w.ownsRowF base e 1 v n xs) (s:ByteArray) (hx:a.eval x = .string s)
  (h63:n+s.size≤maxLen) (hbytes:n+s.size≤140737488355328) (hbase:base≤w.heap.size)
  (h:∀ v' w',w'.ownsRowF base e 1 v' (n+s.size) (xs ++ Lib.strCells s)→w.grownBy w' v.ownBlock→FreshAt w v v'→wpList P ops Q rest (a.put o.dst v') w'):wpList P ops Q (o :: rest) a w:=by
 refine wpList_plain hgd fun K hK=>?_
 obtain ⟨v',w',hr,h2,h3,h4⟩:=append_fresh (P:=P) w base t u o.type e i ht hu hi hz hsize hby v n xs hown s h63 hbytes hbase
 unfold Oper.wp execOp
 simp only [ho,resolve,invoke,builtin,Sem.run_bind,Sem.run_pure,Result.andThen_ok,List.map_toArray,List.map_cons,List.map_nil,hs,hx,hr]
 exact hK _ _ (h v' w' h2 h3 h4)
theorem copyCheck_x (L:Lays.n240 P ρ) (X:Builder.X72 P ρ) (B b:Nat) (bs:List Value) (w:World) (h:Lib.IsBuilderF (ρ.t 72) (ρ.t 5) B b bs w) :
  Calls P (ρ.f 240) #[.pointer (some ⟨b,0,none⟩)] w fun e w'=>e = .returned (.tuple #[])∧(Lib.BuilderAtF (ρ.t 72) (ρ.t 5) B b (.pointer (some ⟨b,0,none⟩)) bs w'∧Below B w w'∧w'.heap.size = w.heap.size∧(∀ k,k≠b→w'.heap[k]? = w.heap[k]?)∧w'.cell? ⟨b,1,none⟩ = w.cell? ⟨b,1,none⟩):=by
 rcases h with h | h
 ·refine (Any.Builder_copyCheck_fresh L X b w h.cell0 h.shape h.frozen0).mono ?_
  rintro e w' ⟨rfl,rfl⟩
  refine ⟨rfl,h.used _,(Below.refl B w).setCell (p:=⟨b,0,none⟩) h.1 _,by simp [World.setCell],fun k hk=>Below.heap_setCell _ _ _ _ (fun e=>hk e),?_⟩
  obtain ⟨_,v,hb,_⟩:=h
  simp [World.cell?,World.setCell,Array.getElem?_modify,hb]
 ·refine (Any.Builder_copyCheck_used L X b w h.cell0).mono ?_
  rintro e w' ⟨rfl,rfl⟩
  exact ⟨rfl,h,Below.refl B _,rfl,fun _ _=>rfl,rfl⟩
set_option maxHeartbeats 2000000 in
set_option maxRecDepth 100000 in
theorem writeString_x (L:Lays.n166 P ρ) (X:Builder.Extra P ρ) (B b:Nat) (bs:List Value) (s:ByteArray) (w:World) (h:Lib.IsBuilderF (ρ.t 72) (ρ.t 5) B b bs w) (hlen:bs.length+s.size≤140737488355328) (hBw:B≤w.heap.size) :
  Calls P (ρ.f 166) #[.pointer (some ⟨b,0,none⟩),.string s] w fun e w'=>e = .returned (.tuple #[.int .i64 s.size,.nilIface])∧(Lib.BuilderAtF (ρ.t 72) (ρ.t 5) B b (.pointer (some ⟨b,0,none⟩)) (bs ++ Lib.strCells s) w'∧Below B w w' ∧
   (∀ k,k < w.heap.size→k≠b→(∀ v,w.cell? ⟨b,1,none⟩ = some v→v.ownBlock≠some k)→w'.heap[k]? = w.heap[k]?) ∧
   ∀ v v',w.cell? ⟨b,1,none⟩ = some v→w'.cell? ⟨b,1,none⟩ = some v'→FreshAt w v v'):=by
 obtain ⟨i0,hi,hz0,hz1,hz2⟩:=info_parts X.infoByte
 have mixed:=L.mixed
 have t72:=L.t72;have a72:=L.a72;have z72:=L.z72;have v72:=L.v72;have u72:=run_underlying L.t72
 have t70:=L.t70;have a70:=L.a70;have z70:=L.z70;have v70:=L.v70;have u70:=run_underlying L.t70
 have t37:=L.t37;have a37:=L.a37;have z37:=L.z37;have v37:=L.v37;have u37:=run_underlying L.t37
 have t3:=L.t3;have a3:=L.a3;have z3:=L.z3;have v3:=L.v3;have u3:=run_underlying L.t3
 have t9:=L.t9;have a9:=L.a9;have z9:=L.z9;have v9:=L.v9;have u9:=run_underlying L.t9
 have t4:=L.t4;have a4:=L.a4;have z4:=L.z4;have v4:=L.v4;have u4:=run_underlying L.t4
 have t164:=L.t164;have a164:=L.a164;have z164:=L.z164;have v164:=L.v164;have u164:=run_underlying L.t164
 have t5:=X.t5;have a5:=X.a5;have z5:=X.z5;have v5:=X.v5;have u5:=run_underlying X.t5
 have e240:∀ args w,(callFunc (ρ.f 240) args).run P w = .ok (.enter (ρ.f 240) args) w:=enters_of L.f240 (by kernel_rfl) rfl
 go_enter L.f166,Body.n166_ntmps ρ
 go_wp2_with (go_at_fn (ρ.f 240);refine (copyCheck_x { L with } X.toX72 B b bs _ h).mono ?_)
 rintro e w1 ⟨rfl,h1,hb1,hz1',hk1,hc1⟩
 obtain ⟨hB,v,hbk,hown,hne⟩:=h1
 have c0:w1.cell? ⟨b,0,none⟩ = some (.pointer (some ⟨b,0,none⟩)):=by rw [Lib.cell_of_heap hbk];rfl
 have c1:w1.cell? ⟨b,1,none⟩ = some v:=by rw [Lib.cell_of_heap hbk];rfl
 have c1':=hc1.symm.trans c1
 clear hc1
 go_wp2_with (at_builtin;refine wpList_append_x rfl _ _ (ρ.t 37) (ρ.t 9) rfl B (ρ.t 5) i0 L.t37 L.t9 hi hz0 hz1 hz2 _ _ _ rfl hown s rfl ?c3 ?c4 ?c5 ?_)
 case c3=>unfold maxLen;omega
 case c4=>omega
 case c5=>have:=hb1.size;omega
 intro v' w2 hown' hgrow hfresh
 have hlt:b < w1.heap.size:=by
  rcases Nat.lt_or_ge b w1.heap.size with h' | h'
  ·exact h'
  ·simp [Array.getElem?_eq_none h'] at hbk
 have hb2:w2.heap[b]? = some (.cells #[.pointer (some ⟨b,0,none⟩),v] (ρ.t 72) (0,0)):=by
  rw [hgrow.block b hlt (fun e=>hne e.symm)]
  exact hbk
 have d0:w2.cell? ⟨b,0,none⟩ = some (.pointer (some ⟨b,0,none⟩)):=by rw [Lib.cell_of_heap hb2];rfl
 have d1:w2.cell? ⟨b,1,none⟩ = some v:=by rw [Lib.cell_of_heap hb2];rfl
 have f1:w2.frozen? ⟨b,1,none⟩ = false:=Lib.frozen_of_heap hb2 1
 obtain ⟨ao,n',cap,rfl⟩:∃ ao n' cap,v' = .slice ao n' cap:=by
  rcases hown'.2 with ⟨hv,_⟩ | ⟨g,cap,cur,fz,hv,_⟩
  ·exact ⟨_,_,_,hv⟩
  ·exact ⟨_,_,_,hv⟩
 go_wp2
 go_ret2
 refine ⟨rfl,?_,?_,?_,?_⟩
 ·exact Lib.BuilderAtF.put (T:=(ρ.t 72)) (e:=(ρ.t 5)) hB hb2 (bs':=bs ++ Lib.strCells s) (by simpa [Lib.strCells_length] using hown') X.neB5
 ·exact (hb1.grown hgrow (by have:=hb1.size;omega) (fun k hk=>(hown.lt k hk).1)).setCell (p:=⟨b,1,none⟩) hB _
 ·intro k hk hkb hkv
  rw [Below.heap_setCell _ _ _ _ (fun e=>hkb e),hgrow.block k (by omega) (fun e=>hkv v c1' e.symm),hk1 k hkb]
 ·intro v0 v1 h0 h1 k hk
  have e0:v0 = v:=Option.some.inj (h0.symm.trans c1')
  subst e0
  have e1:(w2.setCell ⟨b,1,none⟩ (.slice ao n' cap)).cell? ⟨b,1,none⟩ = some (.slice ao n' cap):=by
   simp [World.cell?,World.setCell,Array.getElem?_modify,hb2]
  have e2:v1 = .slice ao n' cap:=Option.some.inj (h1.symm.trans e1)
  subst e2
  have:=hfresh k hk
  rw [hz1'] at this
  exact this
end
end Go.Ev
namespace Go.Ev
open Go Go.Proofs Go.RowKit Go.Shelf
def Cov (w:World) (b k:Nat):Prop:=k = b∨∃ v,w.cell? ⟨b,1,none⟩ = some v∧v.ownBlock = some k
section
variable {T e:TypeId} {B b:Nat} {bs:List Value} {w w':World}
theorem bld_open (h:Lib.IsBuilderF T e B b bs w):∃ p v,w.heap[b]? = some (.cells #[p,v] T (0,0))∧w.ownsRowF B e 1 v bs.length bs∧v.ownBlock≠some b∧w.cell? ⟨b,1,none⟩ = some v∧B≤b:=by
 rcases h with ⟨hB,v,hb,hown,hne⟩ | ⟨hB,v,hb,hown,hne⟩
 ·exact ⟨_,v,hb,hown,hne,by rw [Lib.cell_of_heap hb];rfl,hB⟩
 ·exact ⟨_,v,hb,hown,hne,by rw [Lib.cell_of_heap hb];rfl,hB⟩
theorem lt_of_heap {k:Nat} {o:Obj} (h:w.heap[k]? = some o):k < w.heap.size:=by
 rcases Nat.lt_or_ge k w.heap.size with h' | h'
 ·exact h'
 ·rw [Array.getElem?_eq_none h'] at h;cases h
theorem cov_lt (h:Lib.IsBuilderF T e B b bs w) {k:Nat} (hk:Cov w b k):k < w.heap.size∧B≤k:=by
 obtain ⟨p,v,h1,h2,h3,h4,h5⟩:=bld_open h
 rcases hk with rfl | ⟨v',hv,hk⟩
 ·exact ⟨lt_of_heap h1,h5⟩
 ·obtain rfl:=Option.some.inj (hv.symm.trans h4)
  rcases h2.2 with ⟨rfl,_⟩ | ⟨g,cap,cur,fz,rfl,hbg,hg,_⟩
  ·simp [Value.ownBlock] at hk
  ·simp only [Value.ownBlock,Option.some.injEq] at hk
   subst hk
   exact ⟨lt_of_heap hg,hbg⟩
theorem owns_same {v:Value} {n:Nat} {xs:List Value} (h:w.ownsRowF B e 1 v n xs) (hk:∀ k,v.ownBlock = some k→w'.heap[k]? = w.heap[k]?):w'.ownsRowF B e 1 v n xs:=by
 refine ⟨h.1,?_⟩
 rcases h.2 with h | ⟨g,cap,cur,fz,rfl,hbg,hg,rest⟩
 ·exact .inl h
 ·exact .inr ⟨g,cap,cur,fz,rfl,hbg,by rw [hk g rfl];exact hg,rest⟩
theorem bld_same (h:Lib.IsBuilderF T e B b bs w) (hk:∀ k,Cov w b k→w'.heap[k]? = w.heap[k]?):Lib.IsBuilderF T e B b bs w'∧w'.cell? ⟨b,1,none⟩ = w.cell? ⟨b,1,none⟩:=by
 have hb:=hk b (.inl rfl)
 have hc:w'.cell? ⟨b,1,none⟩ = w.cell? ⟨b,1,none⟩:=World.cell?_of_block hb
 refine ⟨?_,hc⟩
 have hrow:∀ v,w.cell? ⟨b,1,none⟩ = some v→∀ k,v.ownBlock = some k→w'.heap[k]? = w.heap[k]?:=fun v hv k hvk=>hk k (.inr ⟨v,hv,hvk⟩)
 rcases h with ⟨hB,v,h1,hown,hne⟩ | ⟨hB,v,h1,hown,hne⟩
 ·exact .inl ⟨hB,v,by rw [hb];exact h1,owns_same hown (hrow v (by rw [Lib.cell_of_heap h1];rfl)),hne⟩
 ·exact .inr ⟨hB,v,by rw [hb];exact h1,owns_same hown (hrow v (by rw [Lib.cell_of_heap h1];rfl)),hne⟩
end
structure HSt (X:Cx) (ok0:Nat→Prop) (w0:World) (T e:TypeId) (b:Nat) (l:List UInt8) (ev:Env) (H:Heap) (a:Act) (w:World):Prop where
 st:∃ ok ι,Sim X ok w ι H∧EnvRep ok w ι H ev a.tmps∧Evol 0 ok0 w0 iota0 [] ok w ι H∧∀ k,Cov w b k→¬ ok k∧∀ i ds s,hget H i = some ds→ι i≠some (k,s)
 lo:w0.heap.size≤b
 bl:Lib.IsBuilderF T e b b (Lib.byteCells l) w
section
variable {X:Cx} {ok0:Nat→Prop} {w0:World} {T e:TypeId} {b:Nat} {l:List UInt8} {ev ev':Env} {H H':Heap} {a:Act} {w:World}
theorem hst_out {ok:Nat→Prop} {ι:Iota} (_:Sim X ok w ι H) (hev:Evol 0 ok0 w0 iota0 [] ok w ι H) (hap:∀ k,Cov w b k→¬ ok k∧∀ i ds s,hget H i = some ds→ι i≠some (k,s))
  (hlo:w0.heap.size≤b) (hbl:Lib.IsBuilderF T e b b (Lib.byteCells l) w) {n:Nat} {a':Act} {w':World} (ho:Out X n ok w ι H a ev' H' a' w'):HSt X ok0 w0 T e b l ev' H' a' w':=by
 obtain ⟨t1,t2,ι',ok',s1,s2,s3⟩:=ho
 have hk:∀ k,Cov w b k→w'.heap[k]? = w.heap[k]?:=fun k hc=>s3.frame k (cov_lt hbl hc).1 (hap k hc).2
 obtain ⟨hbl',hc'⟩:=bld_same hbl hk
 refine ⟨⟨ok',ι',s1,s2,hev.trans (s3.mono (Nat.zero_le _)),?_⟩,hlo,hbl'⟩
 intro k hc
 have hcw:Cov w b k:=by
  rcases hc with rfl | ⟨v,hv,hvk⟩
  ·exact .inl rfl
  ·exact .inr ⟨v,by rw [← hc'];exact hv,hvk⟩
 have hlt:=(cov_lt hbl hcw).1
 obtain ⟨h1,h2⟩:=hap k hcw
 refine ⟨fun hok=>?_,fun i ds s hd he=>?_⟩
 ·rcases s3.okN k hok hlt with h | ⟨i,ds,s,hd,he⟩
  ·exact h1 h
  ·exact h2 i ds s hd he
 ·obtain ⟨j,ds',s',hd',he'⟩:=s3.own i ds k s hd he hlt
  exact h2 j ds' s' hd' he'
theorem HSt.code (hG:Good X) (h:HSt X ok0 w0 T e b l ev H a w) {f nt:Nat} {c:Code} {ex:Ex} (hc:Ev.code X f nt 0 c ev H = some (ex,ev',H')) (hok:okCode X f c = true) (ht:nt≤a.tmps.size) {Q:Exit→Act→World→Prop}
  (hQ:∀ a' w',a'.tmps.size = a.tmps.size→a'.defers = a.defers→HSt X ok0 w0 T e b l ev' H' a' w'→Q (exOf ex) a' w'):c.wp X.P Q a w:=by
 obtain ⟨ok,ι,hs,he,hev,hap⟩:=h.st
 refine wp_mono (code_sound hG hc hok (Nat.zero_le _) hs he ht) ?_
 rintro x a' w' ⟨rfl,hout⟩
 exact hQ a' w' hout.1 hout.2.1 (hst_out hs hev hap h.lo h.bl hout)
theorem HSt.ops (hG:Good X) (h:HSt X ok0 w0 T e b l ev H a w) {nt:Nat} {ops:Array Oper} {l1 l2:List Oper} (hc:evOps X (call X) nt false ops l1 ev H = some (ev',H')) (ht:nt≤a.tmps.size) {Q:Exit→Act→World→Prop}
  (hQ:∀ a' w',a'.tmps.size = a.tmps.size→a'.defers = a.defers→HSt X ok0 w0 T e b l ev' H' a' w'→wpList X.P ops Q l2 a' w'):wpList X.P ops Q (l1 ++ l2) a w:=by
 obtain ⟨ok,ι,hs,he,hev,hap⟩:=h.st
 exact evOps_app (call_sound hG) hc hs he ht fun a' w' hout=>hQ a' w' hout.1 hout.2.1 (hst_out hs hev hap h.lo h.bl hout)
theorem HSt.slot (h:HSt X ok0 w0 T e b l ev H a w) {t:Nat} {v:Value} (ht:look ev t = some (.raw v)):a.tmps.getD t undef = v:=by
 obtain ⟨ok,ι,hs,he,hev,hap⟩:=h.st
 have:=(he t _ ht).2
 generalize a.tmps.getD t undef = x at this ⊢
 cases this
 rfl
theorem HSt.slotS (h:HSt X ok0 w0 T e b l ev H a w) {t:Nat} {s:List UInt8} (ht:look ev t = some (.str s)):a.tmps.getD t undef = .string ⟨s.toArray⟩:=by
 obtain ⟨ok,ι,hs,he,hev,hap⟩:=h.st
 have:=(he t _ ht).2
 generalize a.tmps.getD t undef = x at this ⊢
 cases this
 rfl
end
section
variable {X:Cx} {ρ:Ren} {ok0:Nat→Prop} {w0:World} {b:Nat} {l:List UInt8} {ev:Env} {H:Heap} {a:Act} {w:World}
theorem HSt.write (L:Lays.n166 X.P ρ) (E:Builder.Extra X.P ρ) (h:HSt X ok0 w0 (ρ.t 72) (ρ.t 5) b l ev H a w) (s:List UInt8) (hl:l.length+s.length≤140737488355328) :
  Goes X.P (callFunc (ρ.f 166) #[.pointer (some ⟨b,0,none⟩),.string ⟨s.toArray⟩]) w fun v w'=>HSt X ok0 w0 (ρ.t 72) (ρ.t 5) b (l ++ s) ev H a w'∧Rep (fun _=>False) w' iota0 [] (.tup [.int .i64 s.length,.nili]) v:=by
 obtain ⟨ok,ι,hs,he,hev,hap⟩:=h.st
 have hen:∀ args w,(callFunc (ρ.f 166) args).run X.P w = .ok (.enter (ρ.f 166) args) w:=Go.Proofs.enters_of L.f166 (by kernel_rfl) rfl
 have hsz:(⟨s.toArray⟩:ByteArray).size = s.length:=ba_size s
 have hbs:=cov_lt h.bl (.inl rfl)
 unfold Goes
 rw [hen]
 refine (writeString_x L E b b _ ⟨s.toArray⟩ w h.bl (by rw [Lib.byteCells_length,hsz];exact hl) (by omega)).mono ?_
 rintro e w' ⟨rfl,hbl',hbel,hx,hfr⟩
 have hun:∀ k,k < w.heap.size→¬ Cov w b k→w'.heap[k]? = w.heap[k]?:=fun k hk hc=>hx k hk (fun e=>hc (.inl e)) (fun v hv e=>hc (.inr ⟨v,hv,e⟩))
 have hok:∀ k,ok k→w'.heap[k]? = w.heap[k]?:=fun k hk=>hun k (hs.okS k hk) fun hc=>(hap k hc).1 hk
 have hnm:∀ i ds c s,hget H i = some ds→ι i = some (c,s)→w'.heap[c]? = w.heap[c]?:=fun i ds c s hd hi=>hun c (hs.lt hd hi) fun hc=>(hap c hc).2 i ds s hd hi
 have hcat:Lib.byteCells l ++ Lib.strCells ⟨s.toArray⟩ = Lib.byteCells (l ++ s):=by
  rw [Lib.strCells_eq,← Lib.byteCells_append]
 rw [hcat] at hbl'
 refine ⟨_,rfl,⟨⟨ok,ι,sim_same hs hbel.size hok hnm,env_same he hok,?_,?_⟩,h.lo,.inr hbl'⟩,?_⟩
 ·refine ⟨hbel.os.trans hev.os,hbel.tape.trans hev.tape,hbel.output.trans hev.output,Nat.le_trans hev.size hbel.size,fun k hk hno=>?_,hev.okU,hev.okN,hev.nle,hev.heap,hev.own⟩
  rw [hbel.block k (Nat.lt_of_lt_of_le hk h.lo)]
  exact hev.frame k hk hno
 ·intro k hc
  rcases hc with rfl | ⟨v',hv',hk⟩
  ·exact hap _ (.inl rfl)
  ·obtain ⟨p,v,q1,q2,q3,q4,q5⟩:=bld_open h.bl
   rcases hfr v v' q4 hv' k hk with h1 | h1
   ·exact hap k (.inr ⟨v,q4,h1⟩)
   ·refine ⟨fun hok=>?_,fun i ds s hd hi=>?_⟩
    ·have:=hs.okS k hok
     omega
    ·have:=hs.lt hd hi
     omega
 ·refine .tup rfl fun j d hj=>?_
  match j,hj with
  | 0,hj =>
   simp at hj
   subst hj
   rw [hsz]
   exact .int .i64 _
  | 1,hj =>
   simp at hj
   subst hj
   exact .nili
  | j+2,hj=>simp at hj
end
end Go.Ev
namespace Go.Ev
open Go Go.Proofs Go.RowKit Go.Shelf
section
variable {X:Cx} {ok0:Nat→Prop} {w0:World} {T e:TypeId} {b:Nat} {l:List UInt8} {ev ev':Env} {H H':Heap} {a:Act} {w:World}
theorem run_code {f nt n0:Nat} {Q:Ex→Env→Heap→Prop} {o:Option (Ex × Env × Heap)} (h:Run X f nt n0 Q [] o):∃ ex e1 H1,o = some (ex,e1,H1)∧Q ex e1 H1:=by
 cases o with
 | none=>rw [run_none] at h;exact h.elim
 | some q =>
  obtain ⟨ex,e1,H1⟩:=q
  rw [run_nil] at h
  exact ⟨ex,e1,H1,rfl,h⟩
theorem HSt.run (hG:Good X) (h:HSt X ok0 w0 T e b l ev H a w) {f nt:Nat} {c:Code} (hok:okCode X f c = true) (ht:nt≤a.tmps.size) {K:Exit→Act→World→Prop}
  (hR:Run X f nt 0 (fun ex e1 H1=>∀ a' w',a'.tmps.size = a.tmps.size→a'.defers = a.defers→HSt X ok0 w0 T e b l e1 H1 a' w'→K (exOf ex) a' w') [] (Ev.code X f nt 0 (stripC c) ev H)):c.wp X.P K a w:=by
 obtain ⟨ex,e1,H1,h1,h2⟩:=run_code hR
 rw [code_strip] at h1
 exact h.code hG h1 hok ht h2
structure PSt (X:Cx) (ok0:Nat→Prop) (w0:World) (ev:Env) (H:Heap) (a:Act) (w:World):Prop where
 st:∃ ok ι,Sim X ok w ι H∧EnvRep ok w ι H ev a.tmps∧Evol 0 ok0 w0 iota0 [] ok w ι H
theorem PSt.run (hG:Good X) (h:PSt X ok0 w0 ev H a w) {f nt:Nat} {c:Code} (hok:okCode X f c = true) (ht:nt≤a.tmps.size) {K:Exit→Act→World→Prop}
  (hR:Run X f nt 0 (fun ex e1 H1=>∀ a' w',a'.tmps.size = a.tmps.size→a'.defers = a.defers→PSt X ok0 w0 e1 H1 a' w'→K (exOf ex) a' w') [] (Ev.code X f nt 0 (stripC c) ev H)):c.wp X.P K a w:=by
 obtain ⟨ex,e1,H1,h1,h2⟩:=run_code hR
 rw [code_strip] at h1
 obtain ⟨ok,ι,hs,he,hev⟩:=h.st
 refine wp_mono (code_sound hG h1 hok (Nat.zero_le _) hs he ht) ?_
 rintro x a' w' ⟨rfl,t1,t2,ι',ok',s1,s2,s3⟩
 exact h2 a' w' t1 t2 ⟨⟨ok',ι',s1,s2,hev.trans (s3.mono (Nat.zero_le _))⟩⟩
theorem PSt.make (h:PSt X ok0 w0 ev H a w) {t nt:Nat} {T e:TypeId} (_:T≠e) (ht:t < nt) (hn:nt≤a.tmps.size) :
  HSt X ok0 w0 T e w.heap.size [] ((t,.raw (.pointer (some ⟨w.heap.size,0,none⟩))) :: ev) H (a.put (some t) (.pointer (some ⟨w.heap.size,0,none⟩))) (w.alloc (.cells #[.pointer none,.slice none 0 0] T)):=by
 obtain ⟨ok,ι,hs,he,hev⟩:=h.st
 have hold:∀ k,k < w.heap.size→(w.alloc (.cells #[.pointer none,.slice none 0 0] T)).heap[k]? = w.heap[k]?:=fun k hk=>Lib.alloc_old w _ k hk
 have hsz:w.heap.size≤(w.alloc (.cells #[.pointer none,.slice none 0 0] T)).heap.size:=by simp
 have hok:∀ k,ok k→(w.alloc (.cells #[.pointer none,.slice none 0 0] T)).heap[k]? = w.heap[k]?:=fun k hk=>hold k (hs.okS k hk)
 have hfr:=Lib.IsBuilderF.of (Lib.fresh_isBuilder T e w)
 refine ⟨⟨ok,ι,sim_same hs hsz hok fun i ds c s hd hi=>hold c (hs.lt hd hi),?_,?_,?_⟩,hev.size,hfr⟩
 ·exact put_env (dst:=some t) (env_same he hok) (.raw _) hn (by simpa [dstOk] using ht)
 ·refine ⟨hev.os,hev.tape,hev.output,Nat.le_trans hev.size hsz,fun k hk hno=>?_,hev.okU,hev.okN,hev.nle,hev.heap,hev.own⟩
  rw [hold k (Nat.lt_of_lt_of_le hk hev.size)]
  exact hev.frame k hk hno
 ·intro k hc
  have hge:w.heap.size≤k:=by
   have:=cov_lt hfr hc
   exact this.2
  refine ⟨fun hk=>?_,fun i ds s hd hi=>?_⟩
  ·have:=hs.okS k hk
   omega
  ·have:=hs.lt hd hi
   omega
end
end Go.Ev
namespace Go.Proofs
open Go.Shelf
def Tryz.layW_ren:Go.Shelf.Ren:=⟨fun | 166=>45 | 240=>83 | 276=>113 | n=>n,fun | 0=>0 | 3=>3 | 4=>4 | 5=>5 | 9=>9 | 20=>20 | 37=>31 | 70=>76 | 72=>78 | 75=>85 | 80=>89 | 164=>154 | n=>n,fun n=>n⟩
theorem Tryz.layW:Lays.n166 Tryz.prog Tryz.layW_ren:={
 mixed:=by kernel_rfl
 f166:=Tryz.func45.trans (congrArg some (by kernel_rfl))
 f240:=Tryz.func83.trans (congrArg some (by kernel_rfl))
 f276:=Tryz.func113.trans (congrArg some (by kernel_rfl))
 t0:=Tryz.underlying0
 a0:=Tryz.isAgg0
 z0:=Tryz.sizeOf0
 v0:=Tryz.zeroValue0
 t3:=Tryz.underlying3
 a3:=Tryz.isAgg3
 z3:=Tryz.sizeOf3
 v3:=Tryz.zeroValue3
 t4:=Tryz.underlying4
 a4:=Tryz.isAgg4
 z4:=Tryz.sizeOf4
 v4:=Tryz.zeroValue4
 t9:=Tryz.underlying9
 a9:=Tryz.isAgg9
 z9:=Tryz.sizeOf9
 v9:=Tryz.zeroValue9
 t20:=Tryz.underlying20
 a20:=Tryz.isAgg20
 z20:=Tryz.sizeOf20
 v20:=Tryz.zeroValue20
 t37:=Tryz.underlying31
 a37:=Tryz.isAgg31
 z37:=Tryz.sizeOf31
 v37:=Tryz.zeroValue31
 t70:=Tryz.underlying76
 a70:=Tryz.isAgg76
 z70:=Tryz.sizeOf76
 v70:=Tryz.zeroValue76
 t72:=Tryz.underlying78
 a72:=Tryz.isAgg78
 z72:=Tryz.sizeOf78
 v72:=Tryz.zeroValue78
 t75:=Tryz.underlying85
 a75:=Tryz.isAgg85
 z75:=Tryz.sizeOf85
 v75:=Tryz.zeroValue85
 t164:=Tryz.underlying154
 a164:=Tryz.isAgg154
 z164:=Tryz.sizeOf154
 v164:=Tryz.zeroValue154 }
theorem Tryz.layW_X:Builder.Extra Tryz.prog Tryz.layW_ren:={
 sizeBuilder:=by kernel_rfl
 liesBuilder:=by kernel_rfl
 t5:=Tryz.underlying5
 a5:=Tryz.isAgg5
 z5:=Tryz.sizeOf5
 v5:=Tryz.zeroValue5
 infoByte:=by kernel_rfl
 cellsByte:=by kernel_rfl
 sizeByte:=by kernel_rfl
 neB5:=by decide }
end Go.Proofs
