import Derived.Test.YtdmkldmbjclifaaGreatDoorC2
import Derived.ProofKit
import Derived.OpenShut
import Derived.Below
import Derived.WideKeyArgs
import Derived.Carry
import Derived.ChangeSame
import Derived.ChangeSlices
import Derived.DataReads
import Derived.DataElems
import Derived.ChangeArms
import Derived.Lib.LaidTab
import Derived.Stop.LaidErr
import Derived.LaidMore
import Derived.Shelf.Strconv.Itoa1
namespace Go.Ev
open Go Go.Proofs Go.ChangeShapes Go.WideShapes Go.ChangeAt Go.RowKit

theorem post_below {H:Type} {enc:TypeId × Value→H} {P:Program} {f:Func} {s:ChangeSpec} {apart fresh handsOn again:Bool} {W W':World} {args:Array Value} {v:Value} {ds gs:List (DataW H)} {before pa pv:List MemPlace}
  (hW:DataW.Whole enc P f.params.toList s.vars apart W args.toList ds gs before)
  (hres:∀ (b:Nat) (sp:Nat→Bool) (hd:Bool),DataW.TrodAll enc P W' b sp hd f.resultTypes.toList (v.resultList f.resultTypes.size) (s.fn H (ds ++ gs)).results [])
  (hargs:∀ sp:Nat→Bool,(∀ p∈before,sp p.block = true)→DataW.TrodAll enc P W' 0 sp true f.params.toList args.toList (s.fn H (ds ++ gs)).args pa)
  (hvars:∀ sp:Nat→Bool,(∀ p∈before,sp p.block = true)→DataW.TrodVars enc P W' sp s.vars (s.fn H (ds ++ gs)).vars pv)
  (hps:before = pa ++ pv) (hb:Below W.heap.size W W')
  (hok:∀ (j:Nat) (t:TypeId) (r:Value),f.resultTypes[j]? = some t→(v.resultList f.resultTypes.size)[j]? = some r→Value.okWide P W' .any 0 t r) :
  s.post enc P f apart fresh handsOn again W args v W':=by
 have hlt:∀ p∈before,p.block < W.heap.size:=fun p hp=>hW.lt p hp
 have hold:∀ p∈before,(fun b=>decide (b < W.heap.size)) p.block = true:=fun p hp=>by simpa using hlt p hp
 refine ⟨ds,gs,before,[],pa,pv,hW,hres _ _ _,hargs _ hold,hvars _ hold,World.keptBut_mono (fun p hp=>⟨hp,?_⟩) (hb.frame (·∈before)),fun _=>?_⟩
 ·rw [hps,List.mem_append] at hp
  exact Or.inr hp
 ·obtain ⟨_,_,_,_,_,hz,hn⟩:=hW
  refine ⟨hok,_,_,([] ++ pa) ++ pv,⟨[] ++ pa,pv,trodAll_append (hargs _ (fun _ _=>rfl)) (hres _ _ _),hvars _ (fun _ _=>rfl),rfl,?_,?_⟩,?_⟩
  ·intro b off hp
   have hin:MemPlace.cell b off∈before:=by rw [hps];simpa using hp
   rw [hb.frozen (hlt _ hin)]
   exact hz b off hin
  ·intro ha
   have:=hn ha
   rw [hps] at this
   simpa using this
  ·intro p hp _
   rw [hps]
   simpa using hp

theorem trodAll_stays {H:Type} {enc:TypeId × Value→H} {P:Program} (hl:laidOutB P = true) {W W':World} {sp:Nat→Bool} (hb:Below W.heap.size W W') :
  ∀ {ts:List TypeId} {vs:List Value} {ds:List (DataW H)} {ps:List MemPlace},(ts.all fun t=>P.readableRec t && decide (t < P.types.size)) = true →
   DataW.TrodAll enc P W 0 (fun _=>true) true ts vs ds ps→(∀ p∈ps,p.block < W.heap.size)→(∀ p∈ps,sp p.block = true)→DataW.TrodAll enc P W' 0 sp true ts vs ds ps
 | [],[],[],_,_,h,_,_=>h
 | _ :: _,_ :: _,_ :: _,_,ht,⟨p,q,h1,h2,e⟩,hlt,hs=>by
  simp only [List.all_cons,Bool.and_eq_true,decide_eq_true_eq] at ht
  subst e
  exact ⟨p,q,WideElems.Trod_stays hl ht.1.1 ht.1.2 h1 (fun x hx=>hb.same (hlt x (List.mem_append_left _ hx))) (fun x hx=>hs x (List.mem_append_left _ hx)),
   trodAll_stays hl hb (by simpa using ht.2) h2 (fun x hx=>hlt x (List.mem_append_right _ hx)) (fun x hx=>hs x (List.mem_append_right _ hx)),rfl⟩

theorem law_step {H:Type} {enc:TypeId × Value→H} {X:Cx} (hG:Good X) (hl:laidOutB X.P = true) {f:Nat} {fn:Func} {tb:TypeId} (hf:X.P.funcs[f]? = some fn) (hbd:fn.body.isSome = true)
  (hres:fn.resultTypes = #[tb]) (htb:X.P.underlying tb = some .bool) (hpar:(fn.params.toList.all fun t=>X.P.readableRec t && decide (t < X.P.types.size)) = true)
  {s:ChangeSpec} (hvr:s.vars = []) {W:World} {args:Array Value} {ds gs:List (DataW H)} {before:List MemPlace}
  (hglob:∀ g cs,X.glob g = some cs→Rep (· < W.heap.size) W iota0 [] (.vptr cs) (.pointer (some ⟨g,0,none⟩)))
  (hW:DataW.Whole enc X.P fn.params.toList s.vars false W args.toList ds gs before) (hs:(s.fn H (ds ++ gs)).results = [.lit (.bool true)]∧(s.fn H (ds ++ gs)).args = ds∧(s.fn H (ds ++ gs)).vars = [])
  {dd:List D} {L:Heap} (hr:RepL (· < W.heap.size) W iota0 [] dd args.toList) (hc:call X f dd [] = some (.bool true,L)) :
  Calls X.P f args W fun e W'=>∃ v,e = .returned v∧s.post enc X.P fn false true false false W args v W':=by
 have hsim:Sim X (· < W.heap.size) W iota0 []:=⟨fun b hb=>hb,hglob,fun i j ds es b s s' hd=>by simp [hget] at hd,fun i ds hd=>by simp [hget] at hd⟩
 have hgo:=call_sound hG f dd [] _ _ _ W iota0 args.toList hc hsim hr
 obtain ⟨c,hb⟩:=Option.isSome_iff_exists.1 hbd
 have henter:(callFunc f args.toList.toArray).run X.P W = .ok (.enter f args.toList.toArray) W:=Go.Proofs.enters_of hf (hG.ng f fn hf) (by rw [hb]) _ _
 unfold Goes at hgo
 rw [henter] at hgo
 simp only [Array.toArray_toList] at hgo
 refine hgo.mono ?_
 rintro e W' ⟨v,rfl,ι',ok',_,hrep,hev,_⟩
 refine ⟨v,rfl,?_⟩
 cases hrep
 have hbel:Below W.heap.size W W':=⟨hev.os,hev.tape,hev.output,hev.size,fun b hb=>hev.frame b hb (fun i ds s hd=>by simp [hget] at hd)⟩
 have hW':=hW
 obtain ⟨p,q,hA,hV,rfl,hfz,hnd⟩:=hW
 rw [hvr] at hV
 obtain ⟨rfl,rfl⟩:=trodVars_none hV
 refine post_below (pa:=p) (pv:=[]) hW' (fun b sp hd=>?_) (fun sp hsp=>?_) (fun sp _=>?_) rfl hbel ?_
 ·rw [hs.1,hres]
  exact trodAll_cons_mk (shut_bool htb _) trodAll_mk0
 ·rw [hs.2.1]
  exact trodAll_stays hl hbel hpar hA (fun x hx=>hW'.lt x (List.mem_append_left _ hx)) (fun x hx=>hsp x (List.mem_append_left _ hx))
 ·rw [hs.2.2,hvr]
  rfl
 ·rw [hres]
  intro j t r hj hv
  cases j with
  | zero =>
   simp only [List.size_toArray,List.length_cons,List.length_nil] at hj hv
   injection hj with hj
   subst hj
   have:r = .bool true:=by
    simp only [Value.resultList] at hv
    simpa using hv.symm
   subst this
   exact okWide_bool_mk htb _
  | succ j=>simp at hj
end Go.Ev
namespace Go.Ev
open Go Go.Proofs Go.ChangeShapes Go.WideShapes Go.ChangeAt Go.RowKit
def intsK (k:IntKind) (l:List Int):List D:=l.map (.int k ·)
theorem read_ints {H:Type} {enc:TypeId × Value→H} {P:Program} {W:World} {t e:TypeId} {k:IntKind} {v:Value} {d:DataW H} {ps:List MemPlace} {base:Nat} (ht:P.underlying t = some (.slice e)) (he:P.underlying e = some (.int k)) (hc:P.cellsOf e = 1)
  (hv:Value.okWide P W .any base t v) (h:DataW.Trod enc P W 0 (fun _=>true) true t v d ps) :
  ∃ (nil:Bool) (zs:List Int),Rep (· < W.heap.size) W iota0 [] (.vsl nil (intsK k zs) zs.length) v∧(nil = true→zs = [])∧(∀ n∈zs,(Lit.int k n).wf = true)∧zs.length < 9223372036854775808:=by
 obtain ⟨n,hn⟩:=h
 obtain ⟨a0,len0,cap0,rfl⟩:=okWide_slice ht hv
 rcases open_ints ht he hc hn with ⟨hcs,hx⟩ | ⟨a,len,cap,zs,hcs,hb,hl,hm,hz,hx,hcell,hwf⟩
 ·simp only [Value.cells,List.cons.injEq,and_true] at hcs
  rw [hcs]
  exact ⟨true,[],.vnil,fun _=>rfl,by simp,by decide⟩
 ·simp only [Value.cells,List.cons.injEq,and_true] at hcs
  rw [hcs] at hv ⊢
  simp only [if_true] at hz
  have hlen:(zs.take len).length = len:=by rw [List.length_take];omega
  have hblk:a.block < W.heap.size:=by
   simp only [Value.okWide,ht,Cell.okWide,Cell.ok] at hv
   obtain ⟨_,_,_,_,row,cells,hs,_⟩:=hv
   unfold World.shape? at hs
   rcases Nat.lt_or_ge a.block W.heap.size with h | h
   ·exact h
   ·rw [Array.getElem?_eq_none h] at hs
    simp at hs
  refine ⟨false,zs.take len,?_,by simp,fun n hn=>hwf n (List.mem_of_mem_take hn),by rw [hlen];unfold maxLen at hm;omega⟩
  rw [hlen]
  refine .vsl a (fun j=>.int k (zs.getD j 0)) (fun _ _=>hblk) (fun d hd=>?_) (fun j d hj=>?_) (fun j d hj=>?_) hl
  ·simp only [intsK,List.mem_map] at hd
   obtain ⟨n,_,rfl⟩:=hd
   rfl
  ·have hjl:j < len:=by
    have:=(List.getElem?_eq_some_iff.1 hj).1
    simp [intsK] at this
    omega
   exact hcell j (by omega)
  ·have hjl:j < len:=by
    have:=(List.getElem?_eq_some_iff.1 hj).1
    simp [intsK] at this
    omega
   have:d = .int k (zs.getD j 0):=by
    simp only [intsK,List.getElem?_map,List.getElem?_take_of_lt hjl] at hj
    have hzl:j < zs.length:=by omega
    rw [List.getElem?_eq_getElem hzl] at hj
    simp only [Option.map_some,Option.some.injEq] at hj
    rw [← hj,List.getD_eq_getElem?_getD,List.getElem?_eq_getElem hzl]
    rfl
   rw [this]
   exact .int _ _
end Go.Ev
namespace Go.Ev
open Go Go.Proofs
def okOne (X:Cx) (n:Nat):Bool:=match X.P.funcs[n]? with
 | some fn => (fn.name != "runtime.NumGoroutine") && match fn.body with
  | some c=>X.bad n || okCode X n c
  | none=>true
 | none=>true
def okRange (X:Cx) (a:Nat):Nat→Bool
 | 0=>true
 | k+1=>okRange X a k && okOne X (a+k)
theorem okRange_get {X:Cx} {a:Nat}:∀ {k:Nat},okRange X a k = true→∀ {f:Nat},a≤f→f < a+k→okOne X f = true
 | 0,_,f,h1,h2=>by omega
 | k+1,h,f,h1,h2=>by
  simp only [okRange,Bool.and_eq_true] at h
  by_cases hf:f = a+k
  ·rw [hf];exact h.2
  ·exact okRange_get h.1 h1 (by omega)
theorem okOne_get {X : Cx} {f : Nat} {fn : Func} (h : okOne X f = true) (hfn : X.P.funcs[f]? = some fn) : (fn.name == "runtime.NumGoroutine") = false ∧ ∀ c, fn.body = some c → X.bad f = false → okCode X f c = true := by
 simp only [okOne,hfn,Bool.and_eq_true,bne_iff_ne,ne_eq] at h
 refine ⟨by simpa using h.1,fun c hc hb=>?_⟩
 have h3:=h.2
 simpa [hc,hb] using h3
end Go.Ev
namespace Go.Ev
open Go Go.Proofs
class Enc (α:Type) where
 size:Nat
 cells:α→List D
 len:∀ a,(cells a).length = size
 free:∀ a,(cells a).all idFree = true
section
variable {α:Type} [Enc α]
def encs (l:List α):List D:=(l.map Enc.cells).flatten
@[simp] theorem cells_idFree (a:α):(Enc.cells a).all idFree = true:=Enc.free a
@[simp] theorem cells_idFreeL (a:α):idFree.idFreeL (Enc.cells a) = true:=by rw [idFreeL_all];exact Enc.free a
@[simp] theorem cells_closed (n:Nat) (a:α):(Enc.cells a).all (closed n) = true:=by
 rw [← closedL_all];exact closedL_free n _ (cells_idFreeL a)
@[simp] theorem cells_closedL (n:Nat) (a:α):closed.closedL n (Enc.cells a) = true:=closedL_free n _ (cells_idFreeL a)
@[simp] theorem cells_aI (a:α):(∀ x,x∈Enc.cells a→idFree x = true) = True:=eq_true (List.all_eq_true.1 (cells_idFree a))
@[simp] theorem cells_aC (n:Nat) (a:α):(∀ x,x∈Enc.cells a→closed n x = true) = True:=eq_true (List.all_eq_true.1 (cells_closed n a))
@[simp] theorem encs_nil:encs ([]:List α) = []:=rfl
theorem encs_cons (a:α) (l:List α):encs (a :: l) = Enc.cells a ++ encs l:=rfl
theorem encs_one (a:α):encs [a] = Enc.cells a:=by simp [encs]
theorem encs_append (a b:List α):encs (a ++ b) = encs a ++ encs b:=by simp [encs]
theorem encs_snoc (l:List α) (a:α):encs (l ++ [a]) = encs l ++ Enc.cells a:=by rw [encs_append,encs_one]
theorem encs_len (l:List α):(encs l).length = l.length * Enc.size α:=by
 induction l with
 | nil=>simp
 | cons a l ih=>rw [encs_cons,List.length_append,Enc.len,ih,List.length_cons,Nat.add_mul,Nat.one_mul];omega
theorem encs_len' {n:Nat} (hn:n = Enc.size α) (l:List α):(encs l).length = l.length * n:=by rw [hn,encs_len]
theorem encs_drop {n:Nat} (hn:n = Enc.size α):∀ (l:List α) (i:Nat),(encs l).drop (i * n) = encs (l.drop i)
 | [],i=>by simp
 | a :: l,0=>by simp
 | a :: l,i+1=>by
  have hd:(i+1) * n = n+i * n:=by rw [Nat.add_mul,Nat.one_mul,Nat.add_comm]
  rw [encs_cons,hd,← List.drop_drop,List.drop_left' (by rw [Enc.len,hn]),List.drop_succ_cons,encs_drop hn l i]
theorem encs_take {n:Nat} (hn:n = Enc.size α):∀ (l:List α) (i:Nat),(encs l).take (i * n) = encs (l.take i)
 | [],i=>by simp
 | a :: l,0=>by simp
 | a :: l,i+1=>by
  have hd:(i+1) * n = n+i * n:=by rw [Nat.add_mul,Nat.one_mul,Nat.add_comm]
  have hl:(Enc.cells a).length = n:=by rw [Enc.len,hn]
  rw [encs_cons,hd,← hl,List.take_append,List.take_of_length_le (Nat.le_add_right _ _),Nat.add_sub_cancel_left,hl,encs_take hn l i,List.take_succ_cons,encs_cons]
theorem encs_at {n:Nat} (hn:n = Enc.size α) {l:List α} {i:Nat} (hi:i < l.length):(encs l).drop (i * n) = Enc.cells l[i] ++ encs (l.drop (i+1)):=by
 rw [encs_drop hn,List.drop_eq_getElem_cons hi,encs_cons]
theorem encs_at0 {l:List α} (hi:0 < l.length):encs l = Enc.cells l[0] ++ encs (l.drop 1):=by
 have:=encs_at (n:=Enc.size α) rfl hi
 rwa [Nat.zero_mul,List.drop_zero] at this
theorem cells_take {n:Nat} (hn:n = Enc.size α) (a:α) (r:List D):(Enc.cells a ++ r).take n = Enc.cells a:=List.take_left' (by rw [Enc.len,hn])
theorem cells_take' {n:Nat} (hn:n = Enc.size α) (a:α):(Enc.cells a).take n = Enc.cells a:=List.take_of_length_le (by rw [Enc.len,hn];exact Nat.le_refl _)
theorem cells_drop {n:Nat} (hn:n = Enc.size α) (a:α) (r:List D):(Enc.cells a ++ r).drop n = r:=List.drop_left' (by rw [Enc.len,hn])
theorem encs_set {n:Nat} (hn:n = Enc.size α) (m:α):∀ (l:List α) {j:Nat},j < l.length→setRange (encs l) (j * n) (Enc.cells m) = encs (l.set j m)
 | [],j,hj=>by simp at hj
 | a :: l,j,hj=>by
  have ha:(Enc.cells a).length = n:=by rw [Enc.len,hn]
  have hm:(Enc.cells m).length = n:=by rw [Enc.len,hn]
  cases j with
  | zero =>
   simp only [setRange,Nat.zero_mul,List.take_zero,List.nil_append,Nat.zero_add,hm,List.set_cons_zero,encs_cons]
   rw [List.drop_left' ha]
  | succ j =>
   have ih:=encs_set hn m l (j:=j) (by simpa using hj)
   have e1:(j+1) * n = n+j * n:=by rw [Nat.add_mul,Nat.one_mul,Nat.add_comm]
   simp only [setRange,hm] at ih ⊢
   rw [List.set_cons_succ,encs_cons,encs_cons,← ih,e1,Nat.add_assoc,← List.drop_drop,List.drop_left' ha,← ha,List.take_append,List.take_of_length_le (Nat.le_add_right _ _),Nat.add_sub_cancel_left]
   simp
@[simp] theorem encs_idFree (l:List α):(encs l).all idFree = true:=by
 induction l with
 | nil=>rfl
 | cons a l ih=>rw [encs_cons,List.all_append,ih,cells_idFree];rfl
@[simp] theorem encs_idFreeL (l:List α):idFree.idFreeL (encs l) = true:=by rw [idFreeL_all];exact encs_idFree l
@[simp] theorem encs_closed (n:Nat) (l:List α):(encs l).all (closed n) = true:=by
 rw [← closedL_all];exact closedL_free n _ (encs_idFreeL l)
@[simp] theorem encs_closedL (n:Nat) (l:List α):closed.closedL n (encs l) = true:=closedL_free n _ (encs_idFreeL l)
@[simp] theorem encs_aI (l:List α):(∀ x,x∈encs l→idFree x = true) = True:=eq_true (List.all_eq_true.1 (encs_idFree l))
@[simp] theorem encs_aC (n:Nat) (l:List α):(∀ x,x∈encs l→closed n x = true) = True:=eq_true (List.all_eq_true.1 (encs_closed n l))
structure Sl (α:Type) where
 nil:Bool
 l:List α
 h:nil = true→l = []
omit [Enc α] in
theorem Sl.nn {s:Sl α} {i:Nat} (h:i < s.l.length):s.nil = false:=by
 cases hn:s.nil with
 | false=>rfl
 | true=>rw [s.h hn] at h;simp at h
end
def Sl.of {α:Type} (l:List α):Sl α:=⟨false,l,by simp⟩
def Sl.none {α:Type}:Sl α:=⟨true,[],by simp⟩
@[simp] theorem Sl.of_l {α:Type} (l:List α):(Sl.of l).l = l:=rfl
@[simp] theorem Sl.of_nil {α:Type} (l:List α):(Sl.of l).nil = false:=rfl
@[simp] theorem Sl.none_l {α:Type}:(Sl.none:Sl α).l = []:=rfl
@[simp] theorem Sl.none_nil {α:Type}:(Sl.none:Sl α).nil = true:=rfl
theorem stay_free {H:Heap} {n:Nat} {d:D} (h:idFree d = true):stay H (n+1) d = some (d,[]):=by
 unfold stay
 rw [if_pos h]
theorem stayL_free {H:Heap} {n:Nat}:∀ {l:List D},idFree.idFreeL l = true→stayL (stay H (n+1)) l = some (l,[])
 | [],_=>rfl
 | d :: l,h=>by
  simp only [idFree.idFreeL,Bool.and_eq_true] at h
  simp only [stayL,stay_free h.1,stayL_free h.2,List.append_nil]
theorem stayL_append {g:D→Option (D × List Nat)}:∀ (a b:List D),stayL g (a ++ b) = match stayL g a,stayL g b with
  | some (x,p),some (y,q)=>some (x ++ y,p ++ q)
  | _,_=>none
 | [],b=>by
  simp only [List.nil_append,stayL]
  cases stayL g b with
  | none=>rfl
  | some q=>obtain ⟨y,q⟩:=q;rfl
 | d :: a,b=>by
  simp only [List.cons_append,stayL,stayL_append a b]
  cases g d with
  | none=>rfl
  | some r =>
   obtain ⟨r,i⟩:=r
   cases stayL g a with
   | none=>rfl
   | some p =>
    obtain ⟨x,p⟩:=p
    cases stayL g b with
    | none=>rfl
    | some q=>obtain ⟨y,q⟩:=q;simp
theorem stayL_free8 {H:Heap} {l:List D} (h:idFree.idFreeL l = true):stayL (stay H 8) l = some (l,[]):=stayL_free h
theorem stayL_free7 {H:Heap} {l:List D} (h:idFree.idFreeL l = true):stayL (stay H 7) l = some (l,[]):=stayL_free h
attribute [simp] stayL_append stayL_free8 stayL_free7
theorem run_loop1 {X:Cx} {f nt n0:Nat} {Q:Ex→Env→Heap→Prop} {fs:List Fr} {e:Env} {H:Heap} {c:Code} (h:Run X f nt n0 (fun ex e H=>ex≠.normal∧Run X f nt n0 Q fs (some (ex,e,H))) [] (code X f nt n0 c e H)) :
  Run X f nt n0 Q fs (code X f nt n0 (.loop c) e H):=by
 rw [code_loop]
 cases ho:code X f nt n0 c e H with
 | none=>rw [ho,run_none] at h;exact h.elim
 | some q =>
  obtain ⟨ex,e1,H1⟩:=q
  rw [ho,run_nil] at h
  cases ex with
  | normal=>exact absurd rfl h.1
  | exit i=>exact h.2
  | ret=>exact h.2
theorem Run.loopThen {X:Cx} {f nt n0:Nat} {Q:Ex→Env→Heap→Prop} {fs:List Fr} {c:Code} {σ:Type} (I:σ→Env→Heap→Prop) (m:σ→Nat) (s:σ) {e:Env} {H:Heap} (h0:I s e H)
  (step:∀ s e H,I s e H→Run X f nt n0 (fun ex e' H'=>match ex with | .normal=>∃ s',m s' < m s∧I s' e' H' | ex=>Run X f nt n0 Q fs (some (ex,e',H'))) [] (code X f nt n0 c e H)) :
  Run X f nt n0 Q fs (code X f nt n0 (.loop c) e H):=by
 have h:=Run.loop (Q:=fun ex e H=>ex≠.normal∧Run X f nt n0 Q fs (some (ex,e,H))) I m (fun s e H hi=>by
  refine Run.mono (step s e H hi) ?_
  intro ex e' H' hq
  rw [run_nil]
  cases ex with
  | normal=>exact hq
  | exit i=>exact ⟨by simp,hq⟩
  | ret=>exact ⟨by simp,hq⟩) s e H h0
 exact Run.mono h fun ex e H hq=>hq.2
theorem run_unroll {X:Cx} {f nt n0:Nat} {Q:Ex→Env→Heap→Prop} {fs:List Fr} {c:Code} {e:Env} {H:Heap}
  (h:Run X f nt n0 (fun ex e' H'=>match ex with | .normal=>Run X f nt n0 Q fs (code X f nt n0 (.loop c) e' H') | ex=>Run X f nt n0 Q fs (some (ex,e',H'))) [] (code X f nt n0 c e H)) :
  Run X f nt n0 Q fs (code X f nt n0 (.loop c) e H):=by
 rw [code_loop]
 cases ho:code X f nt n0 c e H with
 | none=>rw [ho,run_none] at h;exact h.elim
 | some q =>
  obtain ⟨ex,e1,H1⟩:=q
  rw [ho,run_nil] at h
  cases ex with
  | normal=>exact h
  | exit i=>exact h
  | ret=>exact h
def FinE (X:Cx) (z:Bool) (rs:List ResultVar) (n0:Nat) (P:D × Heap→Prop):Ex→Env→Heap→Prop
 | .exit _,_,_=>False
 | _,e,H=>∃ r,(resD X e H rs).bind (fun ds=>packR z n0 H (oneOrTup ds)) = some r∧P r
theorem finE_ret {X:Cx} {z:Bool} {rs:List ResultVar} {n0:Nat} {P:D × Heap→Prop} {e:Env} {H:Heap}:FinE X z rs n0 P .ret e H = ∃ r,(resD X e H rs).bind (fun ds=>packR z n0 H (oneOrTup ds)) = some r∧P r:=rfl
theorem finE_normal {X:Cx} {z:Bool} {rs:List ResultVar} {n0:Nat} {P:D × Heap→Prop} {e:Env} {H:Heap}:FinE X z rs n0 P .normal e H = ∃ r,(resD X e H rs).bind (fun ds=>packR z n0 H (oneOrTup ds)) = some r∧P r:=rfl
theorem call_runE {X:Cx} {f:Nat} {H:Heap} {fn:Func} {args:List D} (P:D × Heap→Prop) (hf:X.P.funcs[f]? = some fn) (hb:fn.body.isSome = true) (hbad:X.bad f = false∧X.con f args H = none)
  (h:Run X f fn.ntmps H.length (FinE X (X.fzr f) fn.results.toList H.length P) [] (code X f fn.ntmps H.length (stripC (bodyOf fn)) (argEnv 0 args) H)):∃ r,call X f args H = some r∧P r:=by
 cases ho:code X f fn.ntmps H.length (stripC (bodyOf fn)) (argEnv 0 args) H with
 | none=>rw [ho,run_none] at h;exact h.elim
 | some q =>
  obtain ⟨ex,e1,H1⟩:=q
  rw [ho,run_nil] at h
  cases ex with
  | exit i=>exact h.elim
  | normal =>
   obtain ⟨r,h1,h2⟩:=h
   exact ⟨r,call_run hf hb hbad (by rw [ho,run_nil,fin_normal];exact h1),h2⟩
  | ret =>
   obtain ⟨r,h1,h2⟩:=h
   exact ⟨r,call_run hf hb hbad (by rw [ho,run_nil,fin_ret];exact h1),h2⟩
attribute [simp] finE_ret finE_normal
end Go.Ev
namespace Go.Ev
open Go Go.Proofs
structure ID where
 l:List UInt8
 h:l.length = 16
 deriving DecidableEq
@[simp] theorem ID.len (i:ID):i.l.length = 16:=i.h
theorem ID.ext' {a b:ID} (h:a.l = b.l):a = b:=by cases a;cases b;simp at h;subst h;rfl
instance:Enc ID:=⟨16,fun i=>ofBytes i.l,fun i=>by simp,fun i=>by simp⟩
theorem ID.cells (i:ID):Enc.cells i = ofBytes i.l:=rfl
def ID.zero:ID:=⟨List.replicate 16 0,by simp⟩
theorem cellsEq_bytes:∀ (x y:List UInt8),x.length = y.length→cellsEq (List.replicate x.length .i) (ofBytes x) (ofBytes y) = some (x == y)
 | [],[],_=>rfl
 | a :: x,b :: y,h=>by
  have ih:=cellsEq_bytes x y (by simpa using h)
  simp only [List.length_cons,List.replicate_succ,ofBytes,List.map_cons,cellsEq,cellEq]
  simp only [ofBytes] at ih
  rw [ih]
  have:((a.toNat:Int) == (b.toNat:Int)) = (a == b):=by
   rw [Bool.eq_iff_iff]
   simp only [beq_iff_eq,Int.natCast_inj]
   exact ⟨fun h=>UInt8.toNat_inj.1 h,fun h=>by rw [h]⟩
  simp [this]
 | [],_ :: _,h=>by simp at h
 | _ :: _,[],h=>by simp at h
theorem cellsEq_app:∀ (k1 k2:List CK) (a1 a2 b1 b2:List D),k1.length = a1.length→k1.length = b1.length→cellsEq (k1 ++ k2) (a1 ++ a2) (b1 ++ b2) = match cellsEq k1 a1 b1,cellsEq k2 a2 b2 with
  | some x,some y=>some (x && y)
  | _,_=>none
 | [],k2,[],a2,[],b2,_,_=>by
  simp only [List.nil_append,cellsEq]
  cases cellsEq k2 a2 b2 <;> simp
 | k :: k1,k2,a :: a1,a2,b :: b1,b2,h1,h2=>by
  simp only [List.cons_append,cellsEq,cellsEq_app k1 k2 a1 a2 b1 b2 (by simpa using h1) (by simpa using h2)]
  cases cellEq k a b <;> cases cellsEq k1 a1 b1 <;> cases cellsEq k2 a2 b2 <;> simp [Bool.and_assoc]
 | [],_,_ :: _,_,_,_,h,_=>by simp at h
 | [],_,[],_,_ :: _,_,_,h=>by simp at h
 | _ :: _,_,[],_,_,_,h,_=>by simp at h
 | _ :: _,_,_ :: _,_,[],_,_,h=>by simp at h
@[simp] theorem cellsEq16 (x y:ID):cellsEq [.i,.i,.i,.i,.i,.i,.i,.i,.i,.i,.i,.i,.i,.i,.i,.i] (ofBytes x.l) (ofBytes y.l) = some (x == y):=by
 have:=cellsEq_bytes x.l y.l (by simp)
 rw [x.h] at this
 have e:(x.l == y.l) = (x == y):=by
  rw [Bool.eq_iff_iff]
  simp only [beq_iff_eq]
  exact ⟨ID.ext',fun h=>by rw [h]⟩
 rw [e] at this
 exact this
structure Mk where
 id:ID
 seq:Int
 lost:Int
 over:Int
 deriving DecidableEq
def isU64 (n:Int):Prop:=0≤n∧n < 18446744073709551616
structure Mk.Ok (m:Mk):Prop where
 seq:isU64 m.seq
 lost:isU64 m.lost
 over:isU64 m.over
def Mk.tl (m:Mk):List D:=[.int .u64 m.seq,.int .u64 m.lost,.int .u64 m.over]
instance:Enc Mk:=⟨19,fun m=>ofBytes m.id.l ++ m.tl,fun m=>by simp [Mk.tl],fun m=>by simp [Mk.tl,idFree]⟩
theorem Mk.cells (m:Mk):Enc.cells m = ofBytes m.id.l ++ [.int .u64 m.seq,.int .u64 m.lost,.int .u64 m.over]:=rfl
@[simp] theorem Mk.size:Enc.size Mk = 19:=rfl
@[simp] theorem ID.size:Enc.size ID = 16:=rfl
@[simp] theorem Mk.cl (a:Mk):(Enc.cells a).length = 19:=Enc.len a
@[simp] theorem Mk.ct (a:Mk) (r:List D):(Enc.cells a ++ r).take 19 = Enc.cells a:=cells_take rfl a r
@[simp] theorem Mk.ct' (a:Mk):(Enc.cells a).take 19 = Enc.cells a:=cells_take' rfl a
@[simp] theorem Mk.cd (a:Mk) (r:List D):(Enc.cells a ++ r).drop 19 = r:=cells_drop rfl a r
@[simp] theorem Mk.el (l:List Mk):(encs l).length = l.length * 19:=encs_len' rfl l
@[simp] theorem Mk.ed (l:List Mk) (i:Nat):(encs l).drop (i * 19) = encs (l.drop i):=encs_drop rfl l i
@[simp] theorem Mk.et (l:List Mk) (i:Nat):(encs l).take (i * 19) = encs (l.take i):=encs_take rfl l i
@[simp high] theorem Mk.ea {l:List Mk} {i:Nat} (h:i < l.length):(encs l).drop (i * 19) = Enc.cells l[i] ++ encs (l.drop (i+1)):=encs_at rfl h
@[simp high] theorem Mk.es (m:Mk) {l:List Mk} {j:Nat} (h:j < l.length):setRange (encs l) (j * 19) (Enc.cells m) = encs (l.set j m):=encs_set rfl m l h
theorem drop_bytes {s:List UInt8} {n:Nat} (h:s.length≤n):(ofBytes s).drop n = []:=List.drop_eq_nil_of_le (by simpa using h)
@[simp] theorem Mk.t16 (m:Mk):(Enc.cells m).take 16 = ofBytes m.id.l:=by simp [Mk.cells]
@[simp] theorem Mk.t16' (m:Mk) (r:List D):(Enc.cells m ++ r).take 16 = ofBytes m.id.l:=by simp [Mk.cells]
@[simp] theorem Mk.d16 (m:Mk):(Enc.cells m).drop 16 = [.int .u64 m.seq,.int .u64 m.lost,.int .u64 m.over]:=by simp [Mk.cells]
@[simp] theorem Mk.d17 (m:Mk):(Enc.cells m).drop 17 = [.int .u64 m.lost,.int .u64 m.over]:=by simp [Mk.cells,List.drop_append,drop_bytes]
@[simp] theorem Mk.d18 (m:Mk):(Enc.cells m).drop 18 = [.int .u64 m.over]:=by simp [Mk.cells,List.drop_append,drop_bytes]
@[simp] theorem Mk.d16' (m:Mk) (r:List D):(Enc.cells m ++ r).drop 16 = [.int .u64 m.seq,.int .u64 m.lost,.int .u64 m.over] ++ r:=by simp [Mk.cells]
@[simp] theorem Mk.d17' (m:Mk) (r:List D):(Enc.cells m ++ r).drop 17 = [.int .u64 m.lost,.int .u64 m.over] ++ r:=by simp [Mk.cells,List.drop_append,drop_bytes]
@[simp] theorem Mk.d18' (m:Mk) (r:List D):(Enc.cells m ++ r).drop 18 = [.int .u64 m.over] ++ r:=by simp [Mk.cells,List.drop_append,drop_bytes]
@[simp] theorem Mk.g16 (m:Mk) (h):(Enc.cells m)[16]'h = .int .u64 m.seq:=by simp [Mk.cells]
@[simp] theorem Mk.g17 (m:Mk) (h):(Enc.cells m)[17]'h = .int .u64 m.lost:=by simp [Mk.cells]
@[simp] theorem Mk.g18 (m:Mk) (h):(Enc.cells m)[18]'h = .int .u64 m.over:=by simp [Mk.cells]
@[simp] theorem Mk.s16 (m:Mk) (x:Int):setRange (Enc.cells m) 16 [.int .u64 x] = Enc.cells { m with seq:=x }:=by simp [Mk.cells,List.drop_append,drop_bytes]
@[simp] theorem Mk.s17 (m:Mk) (x:Int):setRange (Enc.cells m) 17 [.int .u64 x] = Enc.cells { m with lost:=x }:=by simp [Mk.cells,List.take_append,List.drop_append,drop_bytes,List.take_of_length_le]
@[simp] theorem Mk.s18 (m:Mk) (x:Int):setRange (Enc.cells m) 18 [.int .u64 x] = Enc.cells { m with over:=x }:=by simp [Mk.cells,List.take_append,List.drop_append,drop_bytes,List.take_of_length_le]
theorem cellsEqMk (x y:Mk):cellsEq [.i,.i,.i,.i,.i,.i,.i,.i,.i,.i,.i,.i,.i,.i,.i,.i,.i,.i,.i] (Enc.cells x) (Enc.cells y) = some (x == y):=by
 have h:=cellsEq_app [.i,.i,.i,.i,.i,.i,.i,.i,.i,.i,.i,.i,.i,.i,.i,.i] [.i,.i,.i] (ofBytes x.id.l) x.tl (ofBytes y.id.l) y.tl (by simp) (by simp)
 rw [cellsEq16] at h
 have e:cellsEq [.i,.i,.i] x.tl y.tl = some (x.seq == y.seq && (x.lost == y.lost && x.over == y.over)):=by simp [Mk.tl,cellsEq]
 rw [e] at h
 have e2:(x == y) = (x.id == y.id && (x.seq == y.seq && (x.lost == y.lost && x.over == y.over))):=by
  rw [Bool.eq_iff_iff]
  cases x;cases y
  simp [Mk.mk.injEq,beq_iff_eq]
 rw [e2]
 exact h
end Go.Ev
namespace Go.Ev
open Go Go.Proofs
def plainF (P:Program) (g:TypeId→Bool):List Field→Nat→Nat→Bool
 | [],off,size=>off == size
 | f :: fs,off,size=>f.offset == off && g f.type && plainF P g fs (off+P.cellsOf f.type) size
def PlainT (P:Program):Nat→TypeId→Bool
 | 0,_=>false
 | n+1,t=>match P.underlying t with
  | some .bool=>true
  | some (.int _)=>true
  | some .string=>true
  | some (.slice e)=>PlainT P n e
  | some (.array m e)=>PlainT P n e && P.cellsOf t == m * P.cellsOf e
  | some (.struct fs)=>plainF P (PlainT P n) fs.toList 0 (P.cellsOf t)
  | _=>false
def HasFs (P:Program) (g:TypeId→List D→Prop):List Field→List D→Prop
 | [],cs=>cs = []
 | f :: fs,cs=>∃ a b,cs = a ++ b∧a.length = P.cellsOf f.type∧g f.type a∧HasFs P g fs b
def HasT (P:Program):Nat→TypeId→List D→Prop
 | 0,_,_=>False
 | n+1,t,cs=>match P.underlying t with
  | some .bool=>∃ b,cs = [.bool b]
  | some (.int k)=>∃ x,cs = [.int k x]∧(Lit.int k x).wf = true
  | some .string=>∃ s,cs = [.str s]∧s.length≤maxLen
  | some (.slice e)=>cs = [.vsl true [] 0]∨∃ ls:List (List D),cs = [.vsl false ls.flatten ls.length]∧ls.length≤maxLen∧∀ l,l∈ls→l.length = P.cellsOf e∧HasT P n e l
  | some (.array m e)=>∃ ls:List (List D),cs = ls.flatten∧ls.length = m∧∀ l,l∈ls→l.length = P.cellsOf e∧HasT P n e l
  | some (.struct fs)=>HasFs P (HasT P n) fs.toList cs
  | _=>False
attribute [irreducible] HasT

theorem cell_lt {W:World} {a:Addr} {v:Value} (h:W.cell? a = some v):a.block < W.heap.size:=by
 unfold World.cell? at h
 rcases Nat.lt_or_ge a.block W.heap.size with hlt | hge
 ·exact hlt
 ·have:W.heap[a.block]? = none:=Array.getElem?_eq_none hge
  simp [this] at h
def Cor (W:World) (ds:List D) (vs:List Value):Prop:=ds.length = vs.length∧(∀ d,d∈ds→isCell d = true)∧∀ (j:Nat) d,ds[j]? = some d→Rep (· < W.heap.size) W iota0 [] d (vs.getD j undef)

theorem cor_one {W:World} {d:D} {v:Value} (hc:isCell d = true) (h:Rep (· < W.heap.size) W iota0 [] d v):Cor W [d] [v]:=by
 refine ⟨rfl,fun x hx=>by rw [List.mem_singleton.1 hx];exact hc,fun j x hj=>?_⟩
 cases j with
 | zero=>simp at hj;subst hj;exact h
 | succ j=>simp at hj

theorem cor_append {W:World} {a b:List D} {us vs:List Value} (h1:Cor W a us) (h2:Cor W b vs):Cor W (a ++ b) (us ++ vs):=by
 refine ⟨by simp [h1.1,h2.1],fun d hd=>?_,fun j d hj=>?_⟩
 ·rcases List.mem_append.1 hd with h | h
  ·exact h1.2.1 d h
  ·exact h2.2.1 d h
 ·by_cases hlt:j < a.length
  ·rw [List.getElem?_append_left hlt] at hj
   have:=h1.2.2 j d hj
   rw [List.getD_eq_getElem?_getD] at this ⊢
   rwa [List.getElem?_append_left (by rw [← h1.1];exact hlt)]
  ·rw [List.getElem?_append_right (by omega)] at hj
   have:=h2.2.2 _ d hj
   rw [List.getD_eq_getElem?_getD] at this ⊢
   rw [List.getElem?_append_right (by rw [← h1.1];omega),← h1.1]
   exact this

section
variable {H:Type} {enc:TypeId × Value→H} {P:Program} {W:World}

theorem cut_rows {sz:Nat} {Q:List D→Prop}:∀ (m off:Nat) (cs:List Value),cs.length = off+m * sz →
  (∀ i,i < m→∃ ds,Q ds∧Cor W ds ((cs.drop (off+i * sz)).take sz))→∃ ls:List (List D),ls.length = m∧(∀ l,l∈ls→l.length = sz∧Q l)∧Cor W ls.flatten (cs.drop off)
 | 0,off,cs,hl,_=>⟨[],rfl,by simp,by
   rw [List.drop_eq_nil_of_le (by omega)]
   exact ⟨rfl,by simp,by simp⟩⟩
 | m+1,off,cs,hl,h=>by
  have e1:(m+1) * sz = sz+m * sz:=by rw [Nat.add_mul,Nat.one_mul,Nat.add_comm]
  rw [e1] at hl
  obtain ⟨ds,q1,q2⟩:=h 0 (by omega)
  rw [Nat.zero_mul,Nat.add_zero] at q2
  obtain ⟨ls,l1,l2,l3⟩:=cut_rows (sz:=sz) (Q:=Q) m (off+sz) cs (by omega) (fun i hi=>by
   have:=h (i+1) (by omega)
   rw [Nat.add_mul,Nat.one_mul] at this
   rw [show off+sz+i * sz = off+(i * sz+sz) by omega]
   exact this)
  have hds:ds.length = sz:=by
   rw [q2.1,List.length_take,List.length_drop]
   omega
  refine ⟨ds :: ls,by simp [l1],fun l hl=>?_,?_⟩
  ·rcases List.mem_cons.1 hl with rfl | hl
   ·exact ⟨hds,q1⟩
   ·exact l2 l hl
  ·rw [List.flatten_cons]
   have:=cor_append q2 l3
   rw [← List.drop_drop,List.take_append_drop] at this
   exact this

theorem fs_has {g:TypeId→Bool} {Q:TypeId→List D→Prop}:∀ (fs:List Field) (off:Nat) (cs:List Value),plainF P g fs off cs.length = true →
  (∀ f,f∈fs→g f.type = true→∃ ds,Q f.type ds∧Cor W ds ((cs.drop f.offset).take (P.cellsOf f.type)))→∃ ds,HasFs P Q fs ds∧Cor W ds (cs.drop off)
 | [],off,cs,hp,_=>by
  simp only [plainF,beq_iff_eq] at hp
  exact ⟨[],rfl,by rw [List.drop_eq_nil_of_le (by omega)];exact ⟨rfl,by simp,by simp⟩⟩
 | f :: fs,off,cs,hp,h=>by
  simp only [plainF,Bool.and_eq_true,beq_iff_eq] at hp
  obtain ⟨⟨h1,h2⟩,h3⟩:=hp
  obtain ⟨a,a1,a2⟩:=h f (List.mem_cons_self ..) h2
  obtain ⟨b,b1,b2⟩:=fs_has fs (off+P.cellsOf f.type) cs h3 fun f' hf=>h f' (List.mem_cons_of_mem _ hf)
  rw [h1] at a2
  have hle:off+P.cellsOf f.type≤cs.length:=plainF_le h3
  refine ⟨a ++ b,⟨a,b,rfl,?_,a1,b1⟩,?_⟩
  ·rw [a2.1,List.length_take,List.length_drop]
   omega
  ·have:=cor_append a2 b2
   rwa [← List.drop_drop,List.take_append_drop] at this
where plainF_le {g:TypeId→Bool}:∀ {fs:List Field} {off n:Nat},plainF P g fs off n = true→off≤n
 | [],off,n,h=>by simp only [plainF,beq_iff_eq] at h;omega
 | f :: fs,off,n,h=>by
  simp only [plainF,Bool.and_eq_true] at h
  have:=plainF_le h.2
  omega

theorem trod_has:∀ (n fuel:Nat) (t:TypeId) (cs:List Value) (x:DataW H × List MemPlace),PlainT P n t = true→DataW.trod enc P W 0 (fun _=>true) true fuel t cs = some x →
  ∃ ds,HasT P n t ds∧Cor W ds cs
 | 0,_,_,_,_,h,_=>by simp [PlainT] at h
 | n+1,fuel,t,cs,x,hp,h=>by
  have ih:=trod_has n
  unfold PlainT at hp
  unfold HasT
  cases hu:P.underlying t with
  | none=>rw [hu] at hp;simp at hp
  | some u =>
  rw [hu] at hp
  cases u with
  | bool =>
   obtain ⟨b,rfl,_⟩:=DataW.trod_bool hu h
   exact ⟨_,⟨b,rfl⟩,cor_one rfl (.bool _)⟩
  | int k =>
   obtain ⟨b,rfl,_,hw⟩:=DataW.trod_int hu h
   exact ⟨_,⟨b,rfl,hw⟩,cor_one rfl (.int _ _)⟩
  | string =>
   obtain ⟨s,rfl,_,hw⟩:=DataW.trod_string hu h
   refine ⟨_,⟨s.data.toList,rfl,by simpa using hw⟩,cor_one rfl ?_⟩
   have:=Rep.str (ok:=(· < W.heap.size)) (w:=W) (ι:=iota0) (H:=[]) s.data.toList
   simpa using this
  | slice e =>
   simp only at hp ⊢
   rcases DataW.trod_slice hu h with ⟨rfl,_⟩ | ⟨a,len,cap,elems,rest,m,rfl,rfl,_,_,hlc,hcm,hel,hget,_⟩
   ·exact ⟨_,.inl rfl,cor_one rfl .vnil⟩
   ·have hrow:∀ i,i < len→∃ ds,HasT P n e ds∧ds.length = P.cellsOf e∧(∀ d,d∈ds→isCell d = true)∧∀ (j:Nat) d,ds[j]? = some d→∃ v,W.cell? (a.add (i * P.cellsOf e+j)) = some v∧Rep (· < W.heap.size) W iota0 [] d v:=by
     intro i hi
     have hg:=hget i hi
     rw [List.getElem?_eq_getElem (by omega)] at hg
     cases hcs:W.cells? 0 (a.add (i * P.cellsOf e)) (P.cellsOf e) with
     | none=>rw [hcs] at hg;simp at hg
     | some cs =>
      rw [hcs,Option.bind_some] at hg
      obtain ⟨ds,d1,d2,d3,d4⟩:=ih m e cs _ hp hg
      obtain ⟨_,c2,c3⟩:=World.cells?_some hcs
      refine ⟨ds,d1,by rw [d2,c2],d3,fun j d hj=>?_⟩
      have hjl:j < cs.length:=by rw [← d2];exact (List.getElem?_eq_some_iff.1 hj).1
      refine ⟨cs[j],?_,?_⟩
      ·rw [← Addr.add_add,c3 j (by omega),List.getElem?_eq_getElem hjl]
      ·have:=d4 j d hj
       rwa [List.getD_eq_getElem?_getD,List.getElem?_eq_getElem hjl,Option.getD_some] at this
    have hall:∀ k,k≤len→∃ ls:List (List D),ls.length = k∧(∀ l,l∈ls→l.length = P.cellsOf e∧HasT P n e l)∧(∀ d,d∈ls.flatten→isCell d = true)∧ls.flatten.length = k * P.cellsOf e ∧
      ∀ (j:Nat) d,ls.flatten[j]? = some d→∃ v,W.cell? (a.add j) = some v∧Rep (· < W.heap.size) W iota0 [] d v:=by
     intro k
     induction k with
     | zero=>intro _;exact ⟨[],rfl,by simp,by simp,by simp,by simp⟩
     | succ k ihk =>
      intro hk
      obtain ⟨ls,l1,l2,l3,l4,l5⟩:=ihk (by omega)
      obtain ⟨ds,d1,d2,d3,d4⟩:=hrow k (by omega)
      refine ⟨ls ++ [ds],by simp [l1],fun l hl=>?_,?_,?_,?_⟩
      ·rcases List.mem_append.1 hl with h | h
       ·exact l2 l h
       ·rw [List.mem_singleton.1 h];exact ⟨d2,d1⟩
      ·intro d hd
       rw [List.flatten_append] at hd
       rcases List.mem_append.1 hd with h | h
       ·exact l3 d h
       ·exact d3 d (by simpa using h)
      ·rw [List.flatten_append,List.length_append,l4,Nat.add_mul,Nat.one_mul]
       simp [d2]
      ·intro j d hj
       rw [List.flatten_append] at hj
       by_cases hlt:j < ls.flatten.length
       ·rw [List.getElem?_append_left hlt] at hj
        exact l5 j d hj
       ·rw [List.getElem?_append_right (by omega)] at hj
        rw [l4] at hj hlt
        have hj':ds[j - k * P.cellsOf e]? = some d:=by simpa using hj
        obtain ⟨v,v1,v2⟩:=d4 _ d hj'
        refine ⟨v,?_,v2⟩
        rw [← v1]
        congr 2
        omega
    obtain ⟨ls,l1,l2,l3,l4,l5⟩:=hall len (Nat.le_refl _)
    refine ⟨_,.inr ⟨ls,rfl,by rw [l1];omega,l2⟩,cor_one rfl ?_⟩
    rw [l1]
    refine .vsl a (fun j=>(W.cell? (a.add j)).getD undef) (fun d hd=>?_) l3 (fun j d hj=>?_) (fun j d hj=>?_) hlc
    ·obtain ⟨j,hj⟩:=List.mem_iff_getElem?.1 hd
     obtain ⟨v,v1,_⟩:=l5 j d hj
     have:=cell_lt v1
     rwa [add_block] at this
    ·obtain ⟨v,v1,_⟩:=l5 j d hj
     rw [v1];rfl
    ·obtain ⟨v,v1,v2⟩:=l5 j d hj
     rw [v1];exact v2
  | array m e =>
   simp only [Bool.and_eq_true,beq_iff_eq] at hp ⊢
   obtain ⟨xs,k,rfl,_,hl,hxl,hg⟩:=DataW.trod_array hu h
   have:=cut_rows (W:=W) (sz:=P.cellsOf e) (Q:=HasT P n e) m 0 cs (by rw [hl,hp.2];omega) (fun i hi=>by
    rw [Nat.zero_add]
    have hgi:=hg i hi
    rw [List.getElem?_eq_getElem (by omega)] at hgi
    exact ih k e _ _ hp.1 hgi)
   obtain ⟨ls,l1,l2,l3⟩:=this
   exact ⟨ls.flatten,⟨ls,rfl,l1,l2⟩,by simpa using l3⟩
  | struct fs =>
   simp only at hp ⊢
   obtain ⟨xs,k,rfl,_,hl,hxl,hg⟩:=DataW.trod_struct hu h
   rw [← hl] at hp
   obtain ⟨ds,d1,d2⟩:=fs_has (W:=W) (Q:=HasT P n) fs.toList 0 cs hp (fun f hf hgf=>by
    obtain ⟨i,hi⟩:=List.mem_iff_getElem?.1 hf
    have hi':fs[i]? = some f:=by simpa using hi
    have hgi:=hg i f hi'
    have hlt:i < xs.length:=by rw [hxl];exact (Array.getElem?_eq_some_iff.1 hi').1
    rw [List.getElem?_eq_getElem hlt] at hgi
    exact ih k f.type _ _ hgf hgi)
   exact ⟨ds,d1,by simpa using d2⟩
  | _=>simp at hp

theorem read_plain {n:Nat} {t:TypeId} {v:Value} {d:DataW H} {ps:List MemPlace} (hp:PlainT P n t = true) (h:DataW.Trod enc P W 0 (fun _=>true) true t v d ps) :
  ∃ ds,HasT P n t ds∧Cor W ds v.cells.toList:=by
 obtain ⟨fuel,hf⟩:=h
 exact trod_has n fuel t _ _ hp hf
end
end Go.Ev
namespace Go.Ev
open Go Go.Proofs Go.RowKit Go.ChangeShapes
theorem rep_tab {P:Program} {W:World} {name:String} {k:IntKind} {zs:List Int} {g:Nat} (h:Lib.TabIs P W name k zs) (hg:P.globalNamed name = some g) :
  Rep (· < W.heap.size) W iota0 [] (.vptr (zs.map (.int k))) (.pointer (some ⟨g,0,none⟩)):=by
 have hc:∀ i,i < zs.length→W.cell? ⟨g,i,none⟩ = some (.int k (zs.getD i 0)):=fun i hi=>h.cell hg i hi
 refine .vptr _ (fun j=>.int k (zs.getD j 0)) (fun d hd=>?_) (fun d hd=>?_) (fun j d hj=>?_) (fun j d hj=>?_)
 ·obtain ⟨j,hj⟩:=List.mem_iff_getElem?.1 hd
  have hlt:j < zs.length:=by
   have:=(List.getElem?_eq_some_iff.1 hj).1
   simpa using this
  have:=cell_lt (hc j hlt)
  exact this
 ·obtain ⟨z,_,rfl⟩:=List.mem_map.1 hd
  rfl
 ·have hlt:j < zs.length:=by
   have:=(List.getElem?_eq_some_iff.1 hj).1
   simpa using this
  rw [addr_add,Nat.zero_add]
  exact hc j hlt
 ·have hlt:j < zs.length:=by
   have:=(List.getElem?_eq_some_iff.1 hj).1
   simpa using this
  rw [List.getElem?_map,List.getElem?_eq_getElem hlt,Option.map_some,Option.some.injEq] at hj
  subst hj
  rw [List.getD_eq_getElem?_getD,List.getElem?_eq_getElem hlt,Option.getD_some]
  exact .int k _
end Go.Ev
namespace Go.Ev
open Go Go.Proofs Go.RowKit
section
variable {X:Cx} {ok:Nat→Prop} {w w':World} {ι:Iota} {H:Heap}
theorem below_evol {n:Nat} (hn:n≤H.length) (hb:Below w.heap.size w w'):Evol n ok w ι H ok w' ι H where
 os:=hb.os
 tape:=hb.tape
 output:=hb.output
 size:=hb.size
 frame b hlt _:=hb.block b hlt
 okU _ h:=h
 okN _ h _:=.inl h
 nle:=⟨hn,hn⟩
 heap _ _ ds h:=⟨ds,h,Nat.le_refl _,fun _=>rfl⟩
 own i ds _ s h1 h2 _:=⟨i,ds,s,h1,h2⟩
theorem below_sim (hs:Sim X ok w ι H) (hb:Below w.heap.size w w'):Sim X ok w' ι H:=by
 have hev:Evol H.length ok w ι H ok w' ι H:=below_evol (Nat.le_refl _) hb
 refine ⟨fun b h=>Nat.lt_of_lt_of_le (hs.okS b h) hb.size,fun g cs hg=>(((hs.glob g cs hg).lift (ι:=ι) (H:=H)).evol hs hev rfl).free rfl _ _,hs.inj,fun i ds hd=>?_⟩
 obtain ⟨b,arr,e,fr,q1,q2,q3,q4,q5,q6,q7,q8⟩:=hs.blk i ds hd
 have hlt:b < w.heap.size:=by
  rcases Nat.lt_or_ge b w.heap.size with h | h
  ·exact h
  ·rw [Array.getElem?_eq_none h] at q3;cases q3
 exact ⟨b,arr,e,fr,q1,q2,by rw [hb.block b hlt];exact q3,q4,q5,q6,q7,fun j d hj=>(q8 j d hj).evol hs hev (q8 j d hj).closed⟩
theorem con_below {f:Nat} {vs:List Value} {r:D} (hs:Sim X ok w ι H) (henter:(callFunc f vs.toArray).run X.P w = .ok (.enter f vs.toArray) w)
  (hc:Calls X.P f vs.toArray w fun e w'=>∃ v,e = .returned v∧Rep ok w' ι H r v∧Below w.heap.size w w'):Goes X.P (callFunc f vs.toArray) w (CallPost X ok w ι H r H):=by
 unfold Goes
 rw [henter]
 refine hc.mono ?_
 rintro e w' ⟨v,rfl,hr,hb⟩
 exact ⟨v,rfl,ι,ok,below_sim hs hb,hr,below_evol (Nat.le_refl _) hb,fun i ds hi hd=>by rw [hget,List.getElem?_eq_none hi] at hd;cases hd⟩
end
class MaxL where
 m:Int
end Go.Ev
namespace Go.Ev
open Go Go.Proofs Go.RowKit Go.Shelf
def decF:Nat→Nat→List UInt8
 | 0,_=>[]
 | f+1,v=>if v < 10 then [UInt8.ofNat (48+v)] else decF f (v / 10) ++ [UInt8.ofNat (48+v % 10)]
def dec (v:Nat):List UInt8:=decF 20 v
theorem decF_lib:∀ {f v:Nat},v < 10 ^ f→1≤f→decF f v = Lib.decDigits v
 | f+1,v,h,_=>by
  rw [decF,Lib.decDigits]
  by_cases hv:v < 10
  ·rw [if_pos hv,dif_pos hv]
  ·have hf:1≤f:=by
    rcases f with _ | f
    ·simp at h;omega
    ·omega
   rw [if_neg hv,dif_neg hv,decF_lib (f:=f) (by rw [Nat.pow_succ] at h;omega) hf]
theorem dec_lib {v:Nat} (h:v < 18446744073709551616):dec v = Lib.decDigits v:=decF_lib (Nat.lt_trans h (by decide)) (by decide)
def conLen64:List D→Heap→Option (D × Heap)
 | [.int .u64 x],H=>if 0≤x∧x≤18446744073709551615 then some (.int .i64 (Lib.bitLen x.toNat),H) else none
 | _,_=>none
def conSmall:List D→Heap→Option (D × Heap)
 | [.int .i64 x],H=>if 0≤x∧x < 100 then some (.str (dec x.toNat),H) else none
 | _,_=>none
section
variable {X:Cx} {ρ:Ren} {ok:Nat→Prop} {w:World} {ι:Iota} {H H':Heap} {r:D} {args:List D} {vs:List Value}
theorem repL_int1 {k:IntKind} {x:Int} (hv:RepL ok w ι H [.int k x] vs):vs = [.int k x]:=by
 obtain ⟨v,us,rfl,h1,h2⟩:=repL_cons hv
 cases repL_nil h2
 cases h1
 rfl
theorem conLen64_run (L:Lays.n129 X.P ρ) (h:conLen64 args H = some (r,H')) (hs:Sim X ok w ι H) (hv:RepL ok w ι H args vs) :
  Goes X.P (callFunc (ρ.f 129) vs.toArray) w (CallPost X ok w ι H r H'):=by
 have he:∀ args w,(callFunc (ρ.f 129) args).run X.P w = .ok (.enter (ρ.f 129) args) w:=Go.Proofs.enters_of L.f129 (by kernel_rfl) rfl
 unfold conLen64 at h
 split at h
 ·rename_i x
  split at h
  ·rename_i hc
   injection h with h
   injection h with h1 h2
   subst h1;subst h2
   cases repL_int1 hv
   refine con_below hs (he _ _) ((Any.bits_Len64 L x w hc.1 hc.2).mono ?_)
   rintro e w' ⟨rfl,rfl⟩
   exact ⟨_,rfl,.int .i64 _,Below.refl _ _⟩
  ·cases h
 ·cases h
theorem conSmall_run (L:Lays.n283 X.P ρ) (h:conSmall args H = some (r,H')) (hs:Sim X ok w ι H) (hv:RepL ok w ι H args vs) :
  Goes X.P (callFunc (ρ.f 283) vs.toArray) w (CallPost X ok w ι H r H'):=by
 have he:∀ args w,(callFunc (ρ.f 283) args).run X.P w = .ok (.enter (ρ.f 283) args) w:=Go.Proofs.enters_of L.f283 (by kernel_rfl) rfl
 unfold conSmall at h
 split at h
 ·rename_i x
  split at h
  ·rename_i hc
   injection h with h
   injection h with h1 h2
   subst h1;subst h2
   cases repL_int1 hv
   have hx:x = ((x.toNat:Nat):Int):=by omega
   have:=Any.internal_strconv_small L x.toNat (by omega) w
   rw [← hx] at this
   refine con_below hs (he _ _) (this.mono ?_)
   rintro e w' ⟨rfl,rfl⟩
   rw [dec_lib (by omega)]
   exact ⟨_,rfl,.str _,Below.refl _ _⟩
  ·cases h
 ·cases h
end
end Go.Ev
namespace Go.Ev
open Go Go.Proofs Go.RowKit
class TxtC where
 t:Nat→List D→Heap→Option (D × Heap)
def Cx.add (X:Cx) (T:Nat) (t:List D→Heap→Option (D × Heap)):Cx :=
 { X with con:=fun f=>if f = T then t else X.con f,bad:=fun f=>if f = T then true else X.bad f }
section
variable {X:Cx} {T:Nat} {t:List D→Heap→Option (D × Heap)}
end
end Go.Ev
