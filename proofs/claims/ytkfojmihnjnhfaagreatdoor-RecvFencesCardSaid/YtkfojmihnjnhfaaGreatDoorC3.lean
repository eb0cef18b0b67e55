import Derived.Test.YtkfojmihnjnhfaaGreatDoorC2
import Derived.ProofKit
import Derived.OpenShut
import Derived.Below
import Derived.WideKeyArgs
import Derived.Carry
import Derived.ChangeSame
import Derived.ChangeSlices
import Derived.DataReads
import Derived.DataElems
import Derived.ChangeArms
import Derived.Lib.LaidTab
import Derived.Stop.LaidErr
import Derived.LaidMore
import Derived.Shelf.Strconv.Itoa1
import Derived.Shelf.Strings.Search2
import Derived.Shelf.Strconv.Clone
import Derived.WalkSmall
import Derived.Shelf.Strings.Repeat
import Derived.Lib.Bytealg
import Derived.Shelf.Bytes.SlIndexWhole
import Derived.Lib.LaidU8T
import Derived.Shelf.Spec.DecodeRune
import Derived.Lib.IndexEntry
namespace Go.Ev
open Go Go.Proofs Go.ChangeShapes Go.WideShapes Go.ChangeAt Go.RowKit

theorem post_below {H:Type} {enc:TypeId × Value→H} {P:Program} {f:Func} {s:ChangeSpec} {apart fresh handsOn again:Bool} {W W':World} {args:Array Value} {v:Value} {ds gs:List (DataW H)} {before pa pv:List MemPlace}
  (hW:DataW.Whole enc P f.params.toList s.vars apart W args.toList ds gs before)
  (hres:∀ (b:Nat) (sp:Nat→Bool) (hd:Bool),DataW.TrodAll enc P W' b sp hd f.resultTypes.toList (v.resultList f.resultTypes.size) (s.fn H (ds ++ gs)).results [])
  (hargs:∀ sp:Nat→Bool,(∀ p∈before,sp p.block = true)→DataW.TrodAll enc P W' 0 sp true f.params.toList args.toList (s.fn H (ds ++ gs)).args pa)
  (hvars:∀ sp:Nat→Bool,(∀ p∈before,sp p.block = true)→DataW.TrodVars enc P W' sp s.vars (s.fn H (ds ++ gs)).vars pv)
  (hps:before = pa ++ pv) (hb:Below W.heap.size W W')
  (hok:∀ (j:Nat) (t:TypeId) (r:Value),f.resultTypes[j]? = some t→(v.resultList f.resultTypes.size)[j]? = some r→Value.okWide P W' .any 0 t r) :
  s.post enc P f apart fresh handsOn again W args v W':=by
 have hlt:∀ p∈before,p.block < W.heap.size:=fun p hp=>hW.lt p hp
 have hold:∀ p∈before,(fun b=>decide (b < W.heap.size)) p.block = true:=fun p hp=>by simpa using hlt p hp
 refine ⟨ds,gs,before,[],pa,pv,hW,hres _ _ _,hargs _ hold,hvars _ hold,World.keptBut_mono (fun p hp=>⟨hp,?_⟩) (hb.frame (·∈before)),fun _=>?_⟩
 ·rw [hps,List.mem_append] at hp
  exact Or.inr hp
 ·obtain ⟨_,_,_,_,_,hz,hn⟩:=hW
  refine ⟨hok,_,_,([] ++ pa) ++ pv,⟨[] ++ pa,pv,trodAll_append (hargs _ (fun _ _=>rfl)) (hres _ _ _),hvars _ (fun _ _=>rfl),rfl,?_,?_⟩,?_⟩
  ·intro b off hp
   have hin:MemPlace.cell b off∈before:=by rw [hps];simpa using hp
   rw [hb.frozen (hlt _ hin)]
   exact hz b off hin
  ·intro ha
   have:=hn ha
   rw [hps] at this
   simpa using this
  ·intro p hp _
   rw [hps]
   simpa using hp

theorem trodAll_stays {H:Type} {enc:TypeId × Value→H} {P:Program} (hl:laidOutB P = true) {W W':World} {sp:Nat→Bool} (hb:Below W.heap.size W W') :
  ∀ {ts:List TypeId} {vs:List Value} {ds:List (DataW H)} {ps:List MemPlace},(ts.all fun t=>P.readableRec t && decide (t < P.types.size)) = true →
   DataW.TrodAll enc P W 0 (fun _=>true) true ts vs ds ps→(∀ p∈ps,p.block < W.heap.size)→(∀ p∈ps,sp p.block = true)→DataW.TrodAll enc P W' 0 sp true ts vs ds ps
 | [],[],[],_,_,h,_,_=>h
 | _ :: _,_ :: _,_ :: _,_,ht,⟨p,q,h1,h2,e⟩,hlt,hs=>by
  simp only [List.all_cons,Bool.and_eq_true,decide_eq_true_eq] at ht
  subst e
  exact ⟨p,q,WideElems.Trod_stays hl ht.1.1 ht.1.2 h1 (fun x hx=>hb.same (hlt x (List.mem_append_left _ hx))) (fun x hx=>hs x (List.mem_append_left _ hx)),
   trodAll_stays hl hb (by simpa using ht.2) h2 (fun x hx=>hlt x (List.mem_append_right _ hx)) (fun x hx=>hs x (List.mem_append_right _ hx)),rfl⟩

theorem law_step {H:Type} {enc:TypeId × Value→H} {X:Cx} (hG:Good X) (hl:laidOutB X.P = true) {f:Nat} {fn:Func} {tb:TypeId} (hf:X.P.funcs[f]? = some fn) (hbd:fn.body.isSome = true)
  (hres:fn.resultTypes = #[tb]) (htb:X.P.underlying tb = some .bool) (hpar:(fn.params.toList.all fun t=>X.P.readableRec t && decide (t < X.P.types.size)) = true)
  {s:ChangeSpec} (hvr:s.vars = []) {W:World} {args:Array Value} {ds gs:List (DataW H)} {before:List MemPlace}
  (hglob:∀ g cs,X.glob g = some cs→Rep (· < W.heap.size) W iota0 [] (.vptr cs) (.pointer (some ⟨g,0,none⟩)))
  (hW:DataW.Whole enc X.P fn.params.toList s.vars false W args.toList ds gs before) (hs:(s.fn H (ds ++ gs)).results = [.lit (.bool true)]∧(s.fn H (ds ++ gs)).args = ds∧(s.fn H (ds ++ gs)).vars = [])
  {dd:List D} {L:Heap} (hr:RepL (· < W.heap.size) W iota0 [] dd args.toList) (hc:call X f dd [] = some (.bool true,L)) :
  Calls X.P f args W fun e W'=>∃ v,e = .returned v∧s.post enc X.P fn false true false false W args v W':=by
 have hsim:Sim X (· < W.heap.size) W iota0 []:=⟨fun b hb=>hb,hglob,fun i j ds es b s s' hd=>by simp [hget] at hd,fun i ds hd=>by simp [hget] at hd⟩
 have hgo:=call_sound hG f dd [] _ _ _ W iota0 args.toList hc hsim hr
 obtain ⟨c,hb⟩:=Option.isSome_iff_exists.1 hbd
 have henter:(callFunc f args.toList.toArray).run X.P W = .ok (.enter f args.toList.toArray) W:=Go.Proofs.enters_of hf (hG.ng f fn hf) (by rw [hb]) _ _
 unfold Goes at hgo
 rw [henter] at hgo
 simp only [Array.toArray_toList] at hgo
 refine hgo.mono ?_
 rintro e W' ⟨v,rfl,ι',ok',_,hrep,hev,_⟩
 refine ⟨v,rfl,?_⟩
 cases hrep
 have hbel:Below W.heap.size W W':=⟨hev.os,hev.tape,hev.output,hev.size,fun b hb=>hev.frame b hb (fun i ds s hd=>by simp [hget] at hd)⟩
 have hW':=hW
 obtain ⟨p,q,hA,hV,rfl,hfz,hnd⟩:=hW
 rw [hvr] at hV
 obtain ⟨rfl,rfl⟩:=trodVars_none hV
 refine post_below (pa:=p) (pv:=[]) hW' (fun b sp hd=>?_) (fun sp hsp=>?_) (fun sp _=>?_) rfl hbel ?_
 ·rw [hs.1,hres]
  exact trodAll_cons_mk (shut_bool htb _) trodAll_mk0
 ·rw [hs.2.1]
  exact trodAll_stays hl hbel hpar hA (fun x hx=>hW'.lt x (List.mem_append_left _ hx)) (fun x hx=>hsp x (List.mem_append_left _ hx))
 ·rw [hs.2.2,hvr]
  rfl
 ·rw [hres]
  intro j t r hj hv
  cases j with
  | zero =>
   simp only [List.size_toArray,List.length_cons,List.length_nil] at hj hv
   injection hj with hj
   subst hj
   have:r = .bool true:=by
    simp only [Value.resultList] at hv
    simpa using hv.symm
   subst this
   exact okWide_bool_mk htb _
  | succ j=>simp at hj
end Go.Ev
namespace Go.Ev
open Go Go.Proofs Go.ChangeShapes Go.WideShapes Go.ChangeAt Go.RowKit
def intsK (k:IntKind) (l:List Int):List D:=l.map (.int k ·)
end Go.Ev
namespace Go.Ev
open Go Go.Proofs
def okOne (X:Cx) (n:Nat):Bool:=match X.P.funcs[n]? with
 | some fn => (fn.name != "runtime.NumGoroutine") && match fn.body with
  | some c=>X.bad n || okCode X n c
  | none=>true
 | none=>true
def okRange (X:Cx) (a:Nat):Nat→Bool
 | 0=>true
 | k+1=>okRange X a k && okOne X (a+k)
theorem okRange_get {X:Cx} {a:Nat}:∀ {k:Nat},okRange X a k = true→∀ {f:Nat},a≤f→f < a+k→okOne X f = true
 | 0,_,f,h1,h2=>by omega
 | k+1,h,f,h1,h2=>by
  simp only [okRange,Bool.and_eq_true] at h
  by_cases hf:f = a+k
  ·rw [hf];exact h.2
  ·exact okRange_get h.1 h1 (by omega)
theorem okOne_get {X : Cx} {f : Nat} {fn : Func} (h : okOne X f = true) (hfn : X.P.funcs[f]? = some fn) : (fn.name == "runtime.NumGoroutine") = false ∧ ∀ c, fn.body = some c → X.bad f = false → okCode X f c = true := by
 simp only [okOne,hfn,Bool.and_eq_true,bne_iff_ne,ne_eq] at h
 refine ⟨by simpa using h.1,fun c hc hb=>?_⟩
 have h3:=h.2
 simpa [hc,hb] using h3
end Go.Ev
namespace Go.Ev
open Go Go.Proofs
class Enc (α:Type) where
 size:Nat
 cells:α→List D
 len:∀ a,(cells a).length = size
 free:∀ a,(cells a).all idFree = true
section
variable {α:Type} [Enc α]
def encs (l:List α):List D:=(l.map Enc.cells).flatten
@[simp] theorem cells_idFree (a:α):(Enc.cells a).all idFree = true:=Enc.free a
@[simp] theorem cells_idFreeL (a:α):idFree.idFreeL (Enc.cells a) = true:=by rw [idFreeL_all];exact Enc.free a
@[simp] theorem cells_closed (n:Nat) (a:α):(Enc.cells a).all (closed n) = true:=by
 rw [← closedL_all];exact closedL_free n _ (cells_idFreeL a)
@[simp] theorem cells_closedL (n:Nat) (a:α):closed.closedL n (Enc.cells a) = true:=closedL_free n _ (cells_idFreeL a)
@[simp] theorem cells_aI (a:α):(∀ x,x∈Enc.cells a→idFree x = true) = True:=eq_true (List.all_eq_true.1 (cells_idFree a))
@[simp] theorem cells_aC (n:Nat) (a:α):(∀ x,x∈Enc.cells a→closed n x = true) = True:=eq_true (List.all_eq_true.1 (cells_closed n a))
@[simp] theorem encs_nil:encs ([]:List α) = []:=rfl
theorem encs_cons (a:α) (l:List α):encs (a :: l) = Enc.cells a ++ encs l:=rfl
theorem encs_one (a:α):encs [a] = Enc.cells a:=by simp [encs]
theorem encs_append (a b:List α):encs (a ++ b) = encs a ++ encs b:=by simp [encs]
theorem encs_snoc (l:List α) (a:α):encs (l ++ [a]) = encs l ++ Enc.cells a:=by rw [encs_append,encs_one]
theorem encs_len (l:List α):(encs l).length = l.length * Enc.size α:=by
 induction l with
 | nil=>simp
 | cons a l ih=>rw [encs_cons,List.length_append,Enc.len,ih,List.length_cons,Nat.add_mul,Nat.one_mul];omega
theorem encs_len' {n:Nat} (hn:n = Enc.size α) (l:List α):(encs l).length = l.length * n:=by rw [hn,encs_len]
theorem encs_drop {n:Nat} (hn:n = Enc.size α):∀ (l:List α) (i:Nat),(encs l).drop (i * n) = encs (l.drop i)
 | [],i=>by simp
 | a :: l,0=>by simp
 | a :: l,i+1=>by
  have hd:(i+1) * n = n+i * n:=by rw [Nat.add_mul,Nat.one_mul,Nat.add_comm]
  rw [encs_cons,hd,← List.drop_drop,List.drop_left' (by rw [Enc.len,hn]),List.drop_succ_cons,encs_drop hn l i]
theorem encs_take {n:Nat} (hn:n = Enc.size α):∀ (l:List α) (i:Nat),(encs l).take (i * n) = encs (l.take i)
 | [],i=>by simp
 | a :: l,0=>by simp
 | a :: l,i+1=>by
  have hd:(i+1) * n = n+i * n:=by rw [Nat.add_mul,Nat.one_mul,Nat.add_comm]
  have hl:(Enc.cells a).length = n:=by rw [Enc.len,hn]
  rw [encs_cons,hd,← hl,List.take_append,List.take_of_length_le (Nat.le_add_right _ _),Nat.add_sub_cancel_left,hl,encs_take hn l i,List.take_succ_cons,encs_cons]
theorem encs_at {n:Nat} (hn:n = Enc.size α) {l:List α} {i:Nat} (hi:i < l.length):(encs l).drop (i * n) = Enc.cells l[i] ++ encs (l.drop (i+1)):=by
 rw [encs_drop hn,List.drop_eq_getElem_cons hi,encs_cons]
theorem encs_at0 {l:List α} (hi:0 < l.length):encs l = Enc.cells l[0] ++ encs (l.drop 1):=by
 have:=encs_at (n:=Enc.size α) rfl hi
 rwa [Nat.zero_mul,List.drop_zero] at this
theorem cells_take {n:Nat} (hn:n = Enc.size α) (a:α) (r:List D):(Enc.cells a ++ r).take n = Enc.cells a:=List.take_left' (by rw [Enc.len,hn])
theorem cells_take' {n:Nat} (hn:n = Enc.size α) (a:α):(Enc.cells a).take n = Enc.cells a:=List.take_of_length_le (by rw [Enc.len,hn];exact Nat.le_refl _)
theorem cells_drop {n:Nat} (hn:n = Enc.size α) (a:α) (r:List D):(Enc.cells a ++ r).drop n = r:=List.drop_left' (by rw [Enc.len,hn])
theorem encs_set {n:Nat} (hn:n = Enc.size α) (m:α):∀ (l:List α) {j:Nat},j < l.length→setRange (encs l) (j * n) (Enc.cells m) = encs (l.set j m)
 | [],j,hj=>by simp at hj
 | a :: l,j,hj=>by
  have ha:(Enc.cells a).length = n:=by rw [Enc.len,hn]
  have hm:(Enc.cells m).length = n:=by rw [Enc.len,hn]
  cases j with
  | zero =>
   simp only [setRange,Nat.zero_mul,List.take_zero,List.nil_append,Nat.zero_add,hm,List.set_cons_zero,encs_cons]
   rw [List.drop_left' ha]
  | succ j =>
   have ih:=encs_set hn m l (j:=j) (by simpa using hj)
   have e1:(j+1) * n = n+j * n:=by rw [Nat.add_mul,Nat.one_mul,Nat.add_comm]
   simp only [setRange,hm] at ih ⊢
   rw [List.set_cons_succ,encs_cons,encs_cons,← ih,e1,Nat.add_assoc,← List.drop_drop,List.drop_left' ha,← ha,List.take_append,List.take_of_length_le (Nat.le_add_right _ _),Nat.add_sub_cancel_left]
   simp
@[simp] theorem encs_idFree (l:List α):(encs l).all idFree = true:=by
 induction l with
 | nil=>rfl
 | cons a l ih=>rw [encs_cons,List.all_append,ih,cells_idFree];rfl
@[simp] theorem encs_idFreeL (l:List α):idFree.idFreeL (encs l) = true:=by rw [idFreeL_all];exact encs_idFree l
@[simp] theorem encs_closed (n:Nat) (l:List α):(encs l).all (closed n) = true:=by
 rw [← closedL_all];exact closedL_free n _ (encs_idFreeL l)
@[simp] theorem encs_closedL (n:Nat) (l:List α):closed.closedL n (encs l) = true:=closedL_free n _ (encs_idFreeL l)
@[simp] theorem encs_aI (l:List α):(∀ x,x∈encs l→idFree x = true) = True:=eq_true (List.all_eq_true.1 (encs_idFree l))
@[simp] theorem encs_aC (n:Nat) (l:List α):(∀ x,x∈encs l→closed n x = true) = True:=eq_true (List.all_eq_true.1 (encs_closed n l))
structure Sl (α:Type) where
 nil:Bool
 l:List α
 h:nil = true→l = []
omit [Enc α] in
theorem Sl.nn {s:Sl α} {i:Nat} (h:i < s.l.length):s.nil = false:=by
 cases hn:s.nil with
 | false=>rfl
 | true=>rw [s.h hn] at h;simp at h
end
def Sl.of {α:Type} (l:List α):Sl α:=⟨false,l,by simp⟩
def Sl.none {α:Type}:Sl α:=⟨true,[],by simp⟩
@[simp] theorem Sl.of_l {α:Type} (l:List α):(Sl.of l).l = l:=rfl
@[simp] theorem Sl.of_nil {α:Type} (l:List α):(Sl.of l).nil = false:=rfl
@[simp] theorem Sl.none_l {α:Type}:(Sl.none:Sl α).l = []:=rfl
@[simp] theorem Sl.none_nil {α:Type}:(Sl.none:Sl α).nil = true:=rfl
theorem stay_free {H:Heap} {n:Nat} {d:D} (h:idFree d = true):stay H (n+1) d = some (d,[]):=by
 unfold stay
 rw [if_pos h]
theorem stayL_free {H:Heap} {n:Nat}:∀ {l:List D},idFree.idFreeL l = true→stayL (stay H (n+1)) l = some (l,[])
 | [],_=>rfl
 | d :: l,h=>by
  simp only [idFree.idFreeL,Bool.and_eq_true] at h
  simp only [stayL,stay_free h.1,stayL_free h.2,List.append_nil]
theorem stayL_append {g:D→Option (D × List Nat)}:∀ (a b:List D),stayL g (a ++ b) = match stayL g a,stayL g b with
  | some (x,p),some (y,q)=>some (x ++ y,p ++ q)
  | _,_=>none
 | [],b=>by
  simp only [List.nil_append,stayL]
  cases stayL g b with
  | none=>rfl
  | some q=>obtain ⟨y,q⟩:=q;rfl
 | d :: a,b=>by
  simp only [List.cons_append,stayL,stayL_append a b]
  cases g d with
  | none=>rfl
  | some r =>
   obtain ⟨r,i⟩:=r
   cases stayL g a with
   | none=>rfl
   | some p =>
    obtain ⟨x,p⟩:=p
    cases stayL g b with
    | none=>rfl
    | some q=>obtain ⟨y,q⟩:=q;simp
theorem stayL_free8 {H:Heap} {l:List D} (h:idFree.idFreeL l = true):stayL (stay H 8) l = some (l,[]):=stayL_free h
theorem stayL_free7 {H:Heap} {l:List D} (h:idFree.idFreeL l = true):stayL (stay H 7) l = some (l,[]):=stayL_free h
attribute [simp] stayL_append stayL_free8 stayL_free7
theorem run_loop1 {X:Cx} {f nt n0:Nat} {Q:Ex→Env→Heap→Prop} {fs:List Fr} {e:Env} {H:Heap} {c:Code} (h:Run X f nt n0 (fun ex e H=>ex≠.normal∧Run X f nt n0 Q fs (some (ex,e,H))) [] (code X f nt n0 c e H)) :
  Run X f nt n0 Q fs (code X f nt n0 (.loop c) e H):=by
 rw [code_loop]
 cases ho:code X f nt n0 c e H with
 | none=>rw [ho,run_none] at h;exact h.elim
 | some q =>
  obtain ⟨ex,e1,H1⟩:=q
  rw [ho,run_nil] at h
  cases ex with
  | normal=>exact absurd rfl h.1
  | exit i=>exact h.2
  | ret=>exact h.2
theorem Run.loopThen {X:Cx} {f nt n0:Nat} {Q:Ex→Env→Heap→Prop} {fs:List Fr} {c:Code} {σ:Type} (I:σ→Env→Heap→Prop) (m:σ→Nat) (s:σ) {e:Env} {H:Heap} (h0:I s e H)
  (step:∀ s e H,I s e H→Run X f nt n0 (fun ex e' H'=>match ex with | .normal=>∃ s',m s' < m s∧I s' e' H' | ex=>Run X f nt n0 Q fs (some (ex,e',H'))) [] (code X f nt n0 c e H)) :
  Run X f nt n0 Q fs (code X f nt n0 (.loop c) e H):=by
 have h:=Run.loop (Q:=fun ex e H=>ex≠.normal∧Run X f nt n0 Q fs (some (ex,e,H))) I m (fun s e H hi=>by
  refine Run.mono (step s e H hi) ?_
  intro ex e' H' hq
  rw [run_nil]
  cases ex with
  | normal=>exact hq
  | exit i=>exact ⟨by simp,hq⟩
  | ret=>exact ⟨by simp,hq⟩) s e H h0
 exact Run.mono h fun ex e H hq=>hq.2
theorem run_unroll {X:Cx} {f nt n0:Nat} {Q:Ex→Env→Heap→Prop} {fs:List Fr} {c:Code} {e:Env} {H:Heap}
  (h:Run X f nt n0 (fun ex e' H'=>match ex with | .normal=>Run X f nt n0 Q fs (code X f nt n0 (.loop c) e' H') | ex=>Run X f nt n0 Q fs (some (ex,e',H'))) [] (code X f nt n0 c e H)) :
  Run X f nt n0 Q fs (code X f nt n0 (.loop c) e H):=by
 rw [code_loop]
 cases ho:code X f nt n0 c e H with
 | none=>rw [ho,run_none] at h;exact h.elim
 | some q =>
  obtain ⟨ex,e1,H1⟩:=q
  rw [ho,run_nil] at h
  cases ex with
  | normal=>exact h
  | exit i=>exact h
  | ret=>exact h
def FinE (X:Cx) (z:Bool) (rs:List ResultVar) (n0:Nat) (P:D × Heap→Prop):Ex→Env→Heap→Prop
 | .exit _,_,_=>False
 | _,e,H=>∃ r,(resD X e H rs).bind (fun ds=>packR z n0 H (oneOrTup ds)) = some r∧P r
theorem finE_ret {X:Cx} {z:Bool} {rs:List ResultVar} {n0:Nat} {P:D × Heap→Prop} {e:Env} {H:Heap}:FinE X z rs n0 P .ret e H = ∃ r,(resD X e H rs).bind (fun ds=>packR z n0 H (oneOrTup ds)) = some r∧P r:=rfl
theorem finE_normal {X:Cx} {z:Bool} {rs:List ResultVar} {n0:Nat} {P:D × Heap→Prop} {e:Env} {H:Heap}:FinE X z rs n0 P .normal e H = ∃ r,(resD X e H rs).bind (fun ds=>packR z n0 H (oneOrTup ds)) = some r∧P r:=rfl
theorem call_runE {X:Cx} {f:Nat} {H:Heap} {fn:Func} {args:List D} (P:D × Heap→Prop) (hf:X.P.funcs[f]? = some fn) (hb:fn.body.isSome = true) (hbad:X.bad f = false∧X.con f args H = none)
  (h:Run X f fn.ntmps H.length (FinE X (X.fzr f) fn.results.toList H.length P) [] (code X f fn.ntmps H.length (stripC (bodyOf fn)) (argEnv 0 args) H)):∃ r,call X f args H = some r∧P r:=by
 cases ho:code X f fn.ntmps H.length (stripC (bodyOf fn)) (argEnv 0 args) H with
 | none=>rw [ho,run_none] at h;exact h.elim
 | some q =>
  obtain ⟨ex,e1,H1⟩:=q
  rw [ho,run_nil] at h
  cases ex with
  | exit i=>exact h.elim
  | normal =>
   obtain ⟨r,h1,h2⟩:=h
   exact ⟨r,call_run hf hb hbad (by rw [ho,run_nil,fin_normal];exact h1),h2⟩
  | ret =>
   obtain ⟨r,h1,h2⟩:=h
   exact ⟨r,call_run hf hb hbad (by rw [ho,run_nil,fin_ret];exact h1),h2⟩
attribute [simp] finE_ret finE_normal
end Go.Ev
namespace Go.Ev
open Go Go.Proofs
def plainF (P:Program) (g:TypeId→Bool):List Field→Nat→Nat→Bool
 | [],off,size=>off == size
 | f :: fs,off,size=>f.offset == off && g f.type && plainF P g fs (off+P.cellsOf f.type) size
def PlainT (P:Program):Nat→TypeId→Bool
 | 0,_=>false
 | n+1,t=>match P.underlying t with
  | some .bool=>true
  | some (.int _)=>true
  | some .string=>true
  | some (.slice e)=>PlainT P n e
  | some (.array m e)=>PlainT P n e && P.cellsOf t == m * P.cellsOf e
  | some (.struct fs)=>plainF P (PlainT P n) fs.toList 0 (P.cellsOf t)
  | _=>false
def HasFs (P:Program) (g:TypeId→List D→Prop):List Field→List D→Prop
 | [],cs=>cs = []
 | f :: fs,cs=>∃ a b,cs = a ++ b∧a.length = P.cellsOf f.type∧g f.type a∧HasFs P g fs b
def HasT (P:Program):Nat→TypeId→List D→Prop
 | 0,_,_=>False
 | n+1,t,cs=>match P.underlying t with
  | some .bool=>∃ b,cs = [.bool b]
  | some (.int k)=>∃ x,cs = [.int k x]∧(Lit.int k x).wf = true
  | some .string=>∃ s,cs = [.str s]∧s.length≤maxLen
  | some (.slice e)=>cs = [.vsl true [] 0]∨∃ ls:List (List D),cs = [.vsl false ls.flatten ls.length]∧ls.length≤maxLen∧∀ l,l∈ls→l.length = P.cellsOf e∧HasT P n e l
  | some (.array m e)=>∃ ls:List (List D),cs = ls.flatten∧ls.length = m∧∀ l,l∈ls→l.length = P.cellsOf e∧HasT P n e l
  | some (.struct fs)=>HasFs P (HasT P n) fs.toList cs
  | _=>False
attribute [irreducible] HasT

theorem cell_lt {W:World} {a:Addr} {v:Value} (h:W.cell? a = some v):a.block < W.heap.size:=by
 unfold World.cell? at h
 rcases Nat.lt_or_ge a.block W.heap.size with hlt | hge
 ·exact hlt
 ·have:W.heap[a.block]? = none:=Array.getElem?_eq_none hge
  simp [this] at h
def Cor (W:World) (ds:List D) (vs:List Value):Prop:=ds.length = vs.length∧(∀ d,d∈ds→isCell d = true)∧∀ (j:Nat) d,ds[j]? = some d→Rep (· < W.heap.size) W iota0 [] d (vs.getD j undef)

theorem cor_one {W:World} {d:D} {v:Value} (hc:isCell d = true) (h:Rep (· < W.heap.size) W iota0 [] d v):Cor W [d] [v]:=by
 refine ⟨rfl,fun x hx=>by rw [List.mem_singleton.1 hx];exact hc,fun j x hj=>?_⟩
 cases j with
 | zero=>simp at hj;subst hj;exact h
 | succ j=>simp at hj

theorem cor_append {W:World} {a b:List D} {us vs:List Value} (h1:Cor W a us) (h2:Cor W b vs):Cor W (a ++ b) (us ++ vs):=by
 refine ⟨by simp [h1.1,h2.1],fun d hd=>?_,fun j d hj=>?_⟩
 ·rcases List.mem_append.1 hd with h | h
  ·exact h1.2.1 d h
  ·exact h2.2.1 d h
 ·by_cases hlt:j < a.length
  ·rw [List.getElem?_append_left hlt] at hj
   have:=h1.2.2 j d hj
   rw [List.getD_eq_getElem?_getD] at this ⊢
   rwa [List.getElem?_append_left (by rw [← h1.1];exact hlt)]
  ·rw [List.getElem?_append_right (by omega)] at hj
   have:=h2.2.2 _ d hj
   rw [List.getD_eq_getElem?_getD] at this ⊢
   rw [List.getElem?_append_right (by rw [← h1.1];omega),← h1.1]
   exact this

section
variable {H:Type} {enc:TypeId × Value→H} {P:Program} {W:World}

theorem cut_rows {sz:Nat} {Q:List D→Prop}:∀ (m off:Nat) (cs:List Value),cs.length = off+m * sz →
  (∀ i,i < m→∃ ds,Q ds∧Cor W ds ((cs.drop (off+i * sz)).take sz))→∃ ls:List (List D),ls.length = m∧(∀ l,l∈ls→l.length = sz∧Q l)∧Cor W ls.flatten (cs.drop off)
 | 0,off,cs,hl,_=>⟨[],rfl,by simp,by
   rw [List.drop_eq_nil_of_le (by omega)]
   exact ⟨rfl,by simp,by simp⟩⟩
 | m+1,off,cs,hl,h=>by
  have e1:(m+1) * sz = sz+m * sz:=by rw [Nat.add_mul,Nat.one_mul,Nat.add_comm]
  rw [e1] at hl
  obtain ⟨ds,q1,q2⟩:=h 0 (by omega)
  rw [Nat.zero_mul,Nat.add_zero] at q2
  obtain ⟨ls,l1,l2,l3⟩:=cut_rows (sz:=sz) (Q:=Q) m (off+sz) cs (by omega) (fun i hi=>by
   have:=h (i+1) (by omega)
   rw [Nat.add_mul,Nat.one_mul] at this
   rw [show off+sz+i * sz = off+(i * sz+sz) by omega]
   exact this)
  have hds:ds.length = sz:=by
   rw [q2.1,List.length_take,List.length_drop]
   omega
  refine ⟨ds :: ls,by simp [l1],fun l hl=>?_,?_⟩
  ·rcases List.mem_cons.1 hl with rfl | hl
   ·exact ⟨hds,q1⟩
   ·exact l2 l hl
  ·rw [List.flatten_cons]
   have:=cor_append q2 l3
   rw [← List.drop_drop,List.take_append_drop] at this
   exact this

theorem fs_has {g:TypeId→Bool} {Q:TypeId→List D→Prop}:∀ (fs:List Field) (off:Nat) (cs:List Value),plainF P g fs off cs.length = true →
  (∀ f,f∈fs→g f.type = true→∃ ds,Q f.type ds∧Cor W ds ((cs.drop f.offset).take (P.cellsOf f.type)))→∃ ds,HasFs P Q fs ds∧Cor W ds (cs.drop off)
 | [],off,cs,hp,_=>by
  simp only [plainF,beq_iff_eq] at hp
  exact ⟨[],rfl,by rw [List.drop_eq_nil_of_le (by omega)];exact ⟨rfl,by simp,by simp⟩⟩
 | f :: fs,off,cs,hp,h=>by
  simp only [plainF,Bool.and_eq_true,beq_iff_eq] at hp
  obtain ⟨⟨h1,h2⟩,h3⟩:=hp
  obtain ⟨a,a1,a2⟩:=h f (List.mem_cons_self ..) h2
  obtain ⟨b,b1,b2⟩:=fs_has fs (off+P.cellsOf f.type) cs h3 fun f' hf=>h f' (List.mem_cons_of_mem _ hf)
  rw [h1] at a2
  have hle:off+P.cellsOf f.type≤cs.length:=plainF_le h3
  refine ⟨a ++ b,⟨a,b,rfl,?_,a1,b1⟩,?_⟩
  ·rw [a2.1,List.length_take,List.length_drop]
   omega
  ·have:=cor_append a2 b2
   rwa [← List.drop_drop,List.take_append_drop] at this
where plainF_le {g:TypeId→Bool}:∀ {fs:List Field} {off n:Nat},plainF P g fs off n = true→off≤n
 | [],off,n,h=>by simp only [plainF,beq_iff_eq] at h;omega
 | f :: fs,off,n,h=>by
  simp only [plainF,Bool.and_eq_true] at h
  have:=plainF_le h.2
  omega

theorem trod_has:∀ (n fuel:Nat) (t:TypeId) (cs:List Value) (x:DataW H × List MemPlace),PlainT P n t = true→DataW.trod enc P W 0 (fun _=>true) true fuel t cs = some x →
  ∃ ds,HasT P n t ds∧Cor W ds cs
 | 0,_,_,_,_,h,_=>by simp [PlainT] at h
 | n+1,fuel,t,cs,x,hp,h=>by
  have ih:=trod_has n
  unfold PlainT at hp
  unfold HasT
  cases hu:P.underlying t with
  | none=>rw [hu] at hp;simp at hp
  | some u =>
  rw [hu] at hp
  cases u with
  | bool =>
   obtain ⟨b,rfl,_⟩:=DataW.trod_bool hu h
   exact ⟨_,⟨b,rfl⟩,cor_one rfl (.bool _)⟩
  | int k =>
   obtain ⟨b,rfl,_,hw⟩:=DataW.trod_int hu h
   exact ⟨_,⟨b,rfl,hw⟩,cor_one rfl (.int _ _)⟩
  | string =>
   obtain ⟨s,rfl,_,hw⟩:=DataW.trod_string hu h
   refine ⟨_,⟨s.data.toList,rfl,by simpa using hw⟩,cor_one rfl ?_⟩
   have:=Rep.str (ok:=(· < W.heap.size)) (w:=W) (ι:=iota0) (H:=[]) s.data.toList
   simpa using this
  | slice e =>
   simp only at hp ⊢
   rcases DataW.trod_slice hu h with ⟨rfl,_⟩ | ⟨a,len,cap,elems,rest,m,rfl,rfl,_,_,hlc,hcm,hel,hget,_⟩
   ·exact ⟨_,.inl rfl,cor_one rfl .vnil⟩
   ·have hrow:∀ i,i < len→∃ ds,HasT P n e ds∧ds.length = P.cellsOf e∧(∀ d,d∈ds→isCell d = true)∧∀ (j:Nat) d,ds[j]? = some d→∃ v,W.cell? (a.add (i * P.cellsOf e+j)) = some v∧Rep (· < W.heap.size) W iota0 [] d v:=by
     intro i hi
     have hg:=hget i hi
     rw [List.getElem?_eq_getElem (by omega)] at hg
     cases hcs:W.cells? 0 (a.add (i * P.cellsOf e)) (P.cellsOf e) with
     | none=>rw [hcs] at hg;simp at hg
     | some cs =>
      rw [hcs,Option.bind_some] at hg
      obtain ⟨ds,d1,d2,d3,d4⟩:=ih m e cs _ hp hg
      obtain ⟨_,c2,c3⟩:=World.cells?_some hcs
      refine ⟨ds,d1,by rw [d2,c2],d3,fun j d hj=>?_⟩
      have hjl:j < cs.length:=by rw [← d2];exact (List.getElem?_eq_some_iff.1 hj).1
      refine ⟨cs[j],?_,?_⟩
      ·rw [← Addr.add_add,c3 j (by omega),List.getElem?_eq_getElem hjl]
      ·have:=d4 j d hj
       rwa [List.getD_eq_getElem?_getD,List.getElem?_eq_getElem hjl,Option.getD_some] at this
    have hall:∀ k,k≤len→∃ ls:List (List D),ls.length = k∧(∀ l,l∈ls→l.length = P.cellsOf e∧HasT P n e l)∧(∀ d,d∈ls.flatten→isCell d = true)∧ls.flatten.length = k * P.cellsOf e ∧
      ∀ (j:Nat) d,ls.flatten[j]? = some d→∃ v,W.cell? (a.add j) = some v∧Rep (· < W.heap.size) W iota0 [] d v:=by
     intro k
     induction k with
     | zero=>intro _;exact ⟨[],rfl,by simp,by simp,by simp,by simp⟩
     | succ k ihk =>
      intro hk
      obtain ⟨ls,l1,l2,l3,l4,l5⟩:=ihk (by omega)
      obtain ⟨ds,d1,d2,d3,d4⟩:=hrow k (by omega)
      refine ⟨ls ++ [ds],by simp [l1],fun l hl=>?_,?_,?_,?_⟩
      ·rcases List.mem_append.1 hl with h | h
       ·exact l2 l h
       ·rw [List.mem_singleton.1 h];exact ⟨d2,d1⟩
      ·intro d hd
       rw [List.flatten_append] at hd
       rcases List.mem_append.1 hd with h | h
       ·exact l3 d h
       ·exact d3 d (by simpa using h)
      ·rw [List.flatten_append,List.length_append,l4,Nat.add_mul,Nat.one_mul]
       simp [d2]
      ·intro j d hj
       rw [List.flatten_append] at hj
       by_cases hlt:j < ls.flatten.length
       ·rw [List.getElem?_append_left hlt] at hj
        exact l5 j d hj
       ·rw [List.getElem?_append_right (by omega)] at hj
        rw [l4] at hj hlt
        have hj':ds[j - k * P.cellsOf e]? = some d:=by simpa using hj
        obtain ⟨v,v1,v2⟩:=d4 _ d hj'
        refine ⟨v,?_,v2⟩
        rw [← v1]
        congr 2
        omega
    obtain ⟨ls,l1,l2,l3,l4,l5⟩:=hall len (Nat.le_refl _)
    refine ⟨_,.inr ⟨ls,rfl,by rw [l1];omega,l2⟩,cor_one rfl ?_⟩
    rw [l1]
    refine .vsl a (fun j=>(W.cell? (a.add j)).getD undef) (fun d hd=>?_) l3 (fun j d hj=>?_) (fun j d hj=>?_) hlc
    ·obtain ⟨j,hj⟩:=List.mem_iff_getElem?.1 hd
     obtain ⟨v,v1,_⟩:=l5 j d hj
     have:=cell_lt v1
     rwa [add_block] at this
    ·obtain ⟨v,v1,_⟩:=l5 j d hj
     rw [v1];rfl
    ·obtain ⟨v,v1,v2⟩:=l5 j d hj
     rw [v1];exact v2
  | array m e =>
   simp only [Bool.and_eq_true,beq_iff_eq] at hp ⊢
   obtain ⟨xs,k,rfl,_,hl,hxl,hg⟩:=DataW.trod_array hu h
   have:=cut_rows (W:=W) (sz:=P.cellsOf e) (Q:=HasT P n e) m 0 cs (by rw [hl,hp.2];omega) (fun i hi=>by
    rw [Nat.zero_add]
    have hgi:=hg i hi
    rw [List.getElem?_eq_getElem (by omega)] at hgi
    exact ih k e _ _ hp.1 hgi)
   obtain ⟨ls,l1,l2,l3⟩:=this
   exact ⟨ls.flatten,⟨ls,rfl,l1,l2⟩,by simpa using l3⟩
  | struct fs =>
   simp only at hp ⊢
   obtain ⟨xs,k,rfl,_,hl,hxl,hg⟩:=DataW.trod_struct hu h
   rw [← hl] at hp
   obtain ⟨ds,d1,d2⟩:=fs_has (W:=W) (Q:=HasT P n) fs.toList 0 cs hp (fun f hf hgf=>by
    obtain ⟨i,hi⟩:=List.mem_iff_getElem?.1 hf
    have hi':fs[i]? = some f:=by simpa using hi
    have hgi:=hg i f hi'
    have hlt:i < xs.length:=by rw [hxl];exact (Array.getElem?_eq_some_iff.1 hi').1
    rw [List.getElem?_eq_getElem hlt] at hgi
    exact ih k f.type _ _ hgf hgi)
   exact ⟨ds,d1,by simpa using d2⟩
  | _=>simp at hp

theorem read_plain {n:Nat} {t:TypeId} {v:Value} {d:DataW H} {ps:List MemPlace} (hp:PlainT P n t = true) (h:DataW.Trod enc P W 0 (fun _=>true) true t v d ps) :
  ∃ ds,HasT P n t ds∧Cor W ds v.cells.toList:=by
 obtain ⟨fuel,hf⟩:=h
 exact trod_has n fuel t _ _ hp hf
end
end Go.Ev
namespace Go.Ev
open Go Go.Proofs Go.RowKit Go.ChangeShapes
theorem addr_add_zero (a:Addr):a.add 0 = a:=by
 obtain ⟨b,o,p⟩:=a
 cases p <;> simp [Addr.add]
theorem rep_tab {P:Program} {W:World} {name:String} {k:IntKind} {zs:List Int} {g:Nat} (h:Lib.TabIs P W name k zs) (hg:P.globalNamed name = some g) :
  Rep (· < W.heap.size) W iota0 [] (.vptr (zs.map (.int k))) (.pointer (some ⟨g,0,none⟩)):=by
 have hc:∀ i,i < zs.length→W.cell? ⟨g,i,none⟩ = some (.int k (zs.getD i 0)):=fun i hi=>h.cell hg i hi
 refine .vptr _ (fun j=>.int k (zs.getD j 0)) (fun d hd=>?_) (fun d hd=>?_) (fun j d hj=>?_) (fun j d hj=>?_)
 ·obtain ⟨j,hj⟩:=List.mem_iff_getElem?.1 hd
  have hlt:j < zs.length:=by
   have:=(List.getElem?_eq_some_iff.1 hj).1
   simpa using this
  have:=cell_lt (hc j hlt)
  exact this
 ·obtain ⟨z,_,rfl⟩:=List.mem_map.1 hd
  rfl
 ·have hlt:j < zs.length:=by
   have:=(List.getElem?_eq_some_iff.1 hj).1
   simpa using this
  rw [addr_add,Nat.zero_add]
  exact hc j hlt
 ·have hlt:j < zs.length:=by
   have:=(List.getElem?_eq_some_iff.1 hj).1
   simpa using this
  rw [List.getElem?_map,List.getElem?_eq_getElem hlt,Option.map_some,Option.some.injEq] at hj
  subst hj
  rw [List.getD_eq_getElem?_getD,List.getElem?_eq_getElem hlt,Option.getD_some]
  exact .int k _
theorem rep_err {P:Program} {W:World} {name:String} {g:Nat} {tp:TypeId} {text:List UInt8} (hg:P.globalNamed name = some g)
  (h:∃ (a:Addr) (s:ByteArray),W.var? P name = some #[.iface tp (.pointer (some a))]∧W.cell? a = some (.string s)∧s.data.toList = text∧s.size≤maxLen) :
  Rep (· < W.heap.size) W iota0 [] (.vptr [.iface tp (.vptr [.str text])]) (.pointer (some ⟨g,0,none⟩)):=by
 obtain ⟨a,s,hv,hc,rfl,_⟩:=h
 have hcell:W.cell? ⟨g,0,none⟩ = some (.iface tp (.pointer (some a))):=by
  have:=World.var?_cell hg hv 0
  simpa using this
 have one:∀ {d e:D} {j:Nat},[e][j]? = some d→j = 0∧d = e:=fun {d e j} hj=>by
  cases j with
  | zero=>simp at hj;exact ⟨rfl,hj.symm⟩
  | succ j=>simp at hj
 have hin:Rep (· < W.heap.size) W iota0 [] (.vptr [.str s.data.toList]) (.pointer (some a)):=by
  refine .vptr a (fun _=>.string s) (fun d hd=>cell_lt hc) (fun d hd=>by rw [List.mem_singleton.1 hd];rfl) (fun j d hj=>?_) (fun j d hj=>?_)
  ·obtain ⟨rfl,rfl⟩:=one hj
   rw [addr_add_zero]
   exact hc
  ·obtain ⟨rfl,rfl⟩:=one hj
   have:=Rep.str (ok:=(· < W.heap.size)) (w:=W) (ι:=iota0) (H:=[]) s.data.toList
   simpa using this
 refine .vptr _ (fun _=>.iface tp (.pointer (some a))) (fun d hd=>cell_lt hcell) (fun d hd=>by rw [List.mem_singleton.1 hd];rfl) (fun j d hj=>?_) (fun j d hj=>?_)
 ·obtain ⟨rfl,rfl⟩:=one hj
  rw [addr_add_zero]
  exact hcell
 ·obtain ⟨rfl,rfl⟩:=one hj
  exact .iface hin
def star:String:=String.ofList [Char.ofNat 42]
theorem err_row {P:Program} {nm base:String} {tp:TypeId} (hs:star ++ base = nm)
  (hrows:((List.range P.types.size).all fun u=>P.typeName? 3 u != some nm || u == tp) = true)
  (hnamed:((List.range P.types.size).all fun e=>P.typeName? 2 e != some base || (match (P.info? e).map (·.desc) with | some (TypeDesc.named _ _)=>true | _=>false)) = true)
  (hstar:base.toList.head?≠some (Char.ofNat 42)):∀ u,P.typeName? 3 u = some nm→u = tp:=by
 subst hs
 intro u hu
 exact typeName_ptr_named (nm:=base) hrows hnamed hstar u hu
end Go.Ev
namespace Go.Ev
open Go Go.Proofs Go.RowKit
section
variable {X:Cx} {ok:Nat→Prop} {w w':World} {ι:Iota} {H:Heap}
theorem below_evol {n:Nat} (hn:n≤H.length) (hb:Below w.heap.size w w'):Evol n ok w ι H ok w' ι H where
 os:=hb.os
 tape:=hb.tape
 output:=hb.output
 size:=hb.size
 frame b hlt _:=hb.block b hlt
 okU _ h:=h
 okN _ h _:=.inl h
 nle:=⟨hn,hn⟩
 heap _ _ ds h:=⟨ds,h,Nat.le_refl _,fun _=>rfl⟩
 own i ds _ s h1 h2 _:=⟨i,ds,s,h1,h2⟩
theorem below_sim (hs:Sim X ok w ι H) (hb:Below w.heap.size w w'):Sim X ok w' ι H:=by
 have hev:Evol H.length ok w ι H ok w' ι H:=below_evol (Nat.le_refl _) hb
 refine ⟨fun b h=>Nat.lt_of_lt_of_le (hs.okS b h) hb.size,fun g cs hg=>(((hs.glob g cs hg).lift (ι:=ι) (H:=H)).evol hs hev rfl).free rfl _ _,hs.inj,fun i ds hd=>?_⟩
 obtain ⟨b,arr,e,fr,q1,q2,q3,q4,q5,q6,q7,q8⟩:=hs.blk i ds hd
 have hlt:b < w.heap.size:=by
  rcases Nat.lt_or_ge b w.heap.size with h | h
  ·exact h
  ·rw [Array.getElem?_eq_none h] at q3;cases q3
 exact ⟨b,arr,e,fr,q1,q2,by rw [hb.block b hlt];exact q3,q4,q5,q6,q7,fun j d hj=>(q8 j d hj).evol hs hev (q8 j d hj).closed⟩
theorem con_below {f:Nat} {vs:List Value} {r:D} (hs:Sim X ok w ι H) (henter:(callFunc f vs.toArray).run X.P w = .ok (.enter f vs.toArray) w)
  (hc:Calls X.P f vs.toArray w fun e w'=>∃ v,e = .returned v∧Rep ok w' ι H r v∧Below w.heap.size w w'):Goes X.P (callFunc f vs.toArray) w (CallPost X ok w ι H r H):=by
 unfold Goes
 rw [henter]
 refine hc.mono ?_
 rintro e w' ⟨v,rfl,hr,hb⟩
 exact ⟨v,rfl,ι,ok,below_sim hs hb,hr,below_evol (Nat.le_refl _) hb,fun i ds hi hd=>by rw [hget,List.getElem?_eq_none hi] at hd;cases hd⟩
theorem glob_int {g:Nat} {k:IntKind} {m:Int} (hs:Sim X ok w ι H) (hg:X.glob g = some [.int k m]):w.cell? ⟨g,0,none⟩ = some (.int k m):=by
 have h:=hs.glob g _ hg
 cases h with
 | vptr a f ha hc hr h =>
  have h1:=hr 0 (.int k m) rfl
  have h2:=h 0 (.int k m) rfl
  rw [addr_add_zero] at h1
  generalize f 0 = v at h1 h2
  cases h2
  exact h1
theorem rep_one {W:World} {g:Nat} {k:IntKind} {m:Int} (h:W.cell? ⟨g,0,none⟩ = some (.int k m)):Rep (· < W.heap.size) W iota0 [] (.vptr [.int k m]) (.pointer (some ⟨g,0,none⟩)):=by
 refine .vptr _ (fun _=>.int k m) (fun d hd=>cell_lt h) (fun d hd=>by rw [List.mem_singleton.1 hd];rfl) (fun j d hj=>?_) (fun j d hj=>?_)
 ·cases j with
  | zero=>rw [addr_add_zero];exact h
  | succ j=>simp at hj
 ·cases j with
  | zero=>simp at hj;subst hj;exact .int k m
  | succ j=>simp at hj
end
class MaxL where
 m:Int
end Go.Ev
namespace Go.Ev
open Go Go.Proofs Go.RowKit Go.Shelf
def decF:Nat→Nat→List UInt8
 | 0,_=>[]
 | f+1,v=>if v < 10 then [UInt8.ofNat (48+v)] else decF f (v / 10) ++ [UInt8.ofNat (48+v % 10)]
def dec (v:Nat):List UInt8:=decF 20 v
theorem decF_lib:∀ {f v:Nat},v < 10 ^ f→1≤f→decF f v = Lib.decDigits v
 | f+1,v,h,_=>by
  rw [decF,Lib.decDigits]
  by_cases hv:v < 10
  ·rw [if_pos hv,dif_pos hv]
  ·have hf:1≤f:=by
    rcases f with _ | f
    ·simp at h;omega
    ·omega
   rw [if_neg hv,dif_neg hv,decF_lib (f:=f) (by rw [Nat.pow_succ] at h;omega) hf]
theorem dec_lib {v:Nat} (h:v < 18446744073709551616):dec v = Lib.decDigits v:=decF_lib (Nat.lt_trans h (by decide)) (by decide)
def conLen64:List D→Heap→Option (D × Heap)
 | [.int .u64 x],H=>if 0≤x∧x≤18446744073709551615 then some (.int .i64 (Lib.bitLen x.toNat),H) else none
 | _,_=>none
def conSmall:List D→Heap→Option (D × Heap)
 | [.int .i64 x],H=>if 0≤x∧x < 100 then some (.str (dec x.toNat),H) else none
 | _,_=>none
section
variable {X:Cx} {ρ:Ren} {ok:Nat→Prop} {w:World} {ι:Iota} {H H':Heap} {r:D} {args:List D} {vs:List Value}
theorem repL_int1 {k:IntKind} {x:Int} (hv:RepL ok w ι H [.int k x] vs):vs = [.int k x]:=by
 obtain ⟨v,us,rfl,h1,h2⟩:=repL_cons hv
 cases repL_nil h2
 cases h1
 rfl
theorem conLen64_run (L:Lays.n129 X.P ρ) (h:conLen64 args H = some (r,H')) (hs:Sim X ok w ι H) (hv:RepL ok w ι H args vs) :
  Goes X.P (callFunc (ρ.f 129) vs.toArray) w (CallPost X ok w ι H r H'):=by
 have he:∀ args w,(callFunc (ρ.f 129) args).run X.P w = .ok (.enter (ρ.f 129) args) w:=Go.Proofs.enters_of L.f129 (by kernel_rfl) rfl
 unfold conLen64 at h
 split at h
 ·rename_i x
  split at h
  ·rename_i hc
   injection h with h
   injection h with h1 h2
   subst h1;subst h2
   cases repL_int1 hv
   refine con_below hs (he _ _) ((Any.bits_Len64 L x w hc.1 hc.2).mono ?_)
   rintro e w' ⟨rfl,rfl⟩
   exact ⟨_,rfl,.int .i64 _,Below.refl _ _⟩
  ·cases h
 ·cases h
theorem conSmall_run (L:Lays.n283 X.P ρ) (h:conSmall args H = some (r,H')) (hs:Sim X ok w ι H) (hv:RepL ok w ι H args vs) :
  Goes X.P (callFunc (ρ.f 283) vs.toArray) w (CallPost X ok w ι H r H'):=by
 have he:∀ args w,(callFunc (ρ.f 283) args).run X.P w = .ok (.enter (ρ.f 283) args) w:=Go.Proofs.enters_of L.f283 (by kernel_rfl) rfl
 unfold conSmall at h
 split at h
 ·rename_i x
  split at h
  ·rename_i hc
   injection h with h
   injection h with h1 h2
   subst h1;subst h2
   cases repL_int1 hv
   have hx:x = ((x.toNat:Nat):Int):=by omega
   have:=Any.internal_strconv_small L x.toNat (by omega) w
   rw [← hx] at this
   refine con_below hs (he _ _) (this.mono ?_)
   rintro e w' ⟨rfl,rfl⟩
   rw [dec_lib (by omega)]
   exact ⟨_,rfl,.str _,Below.refl _ _⟩
  ·cases h
 ·cases h
end
end Go.Ev
namespace Go.Ev
open Go Go.Proofs Go.RowKit Go.Shelf
def idxN (sub:List UInt8):List UInt8→Nat→Int
 | [],n=>if sub.isEmpty then n else -1
 | b :: l,n=>if sub.isPrefixOf (b :: l) then n else idxN sub l (n+1)
theorem idxN_lib (sub:List UInt8):∀ (l:List UInt8) (n:Nat),idxN sub l n = if Lib.index l sub = -1 then -1 else Lib.index l sub+n
 | [],n=>by
  simp only [idxN,Lib.index]
  by_cases h:sub.isEmpty = true <;> simp [h]
 | b :: l,n=>by
  have hg:=Lib.index_ge l sub
  simp only [idxN,Lib.index,idxN_lib sub l (n+1)]
  by_cases hp:sub.isPrefixOf (b :: l) = true
  ·simp [hp]
  ·by_cases h:Lib.index l sub = -1
   ·simp [h,hp]
   ·have h2:¬ Lib.index l sub+1 = -1:=by omega
    simp only [beq_iff_eq,h,h2,hp,if_false,Bool.false_eq_true]
    omega
theorem idx_lib (sub l:List UInt8):Lib.index l sub = idxN sub l 0:=by
 rw [idxN_lib]
 split
 ·assumption
 ·simp
def conIdx:List D→Heap→Option (D × Heap)
 | [.str s,.str sub],H=>if s.length < 4294967281 then some (.int .i64 (idxN sub s 0),H) else none
 | _,_=>none
def conClone:List D→Heap→Option (D × Heap)
 | [.str s],H=>if s.length≤281474976710656 then some (.str s,H) else none
 | _,_=>none
section
variable {X:Cx} {ρ:Ren} {ok:Nat→Prop} {w:World} {ι:Iota} {H H':Heap} {r:D} {args:List D} {vs:List Value}
theorem repL_str1 {s:List UInt8} (hv:RepL ok w ι H [.str s] vs):vs = [.string ⟨s.toArray⟩]:=by
 obtain ⟨v,us,rfl,h1,h2⟩:=repL_cons hv
 cases repL_nil h2
 cases h1
 rfl
theorem repL_str2 {s t:List UInt8} (hv:RepL ok w ι H [.str s,.str t] vs):vs = [.string ⟨s.toArray⟩,.string ⟨t.toArray⟩]:=by
 obtain ⟨v,us,rfl,h1,h2⟩:=repL_cons hv
 cases repL_str1 h2
 cases h1
 rfl
theorem conIdx_run {m:Int} (L:Lays.n219 X.P ρ) (hg:X.glob (ρ.g 1) = some [.int .i64 m]) (h:conIdx args H = some (r,H')) (hs:Sim X ok w ι H) (hv:RepL ok w ι H args vs) :
  Goes X.P (callFunc (ρ.f 219) vs.toArray) w (CallPost X ok w ι H r H'):=by
 have he:∀ args w,(callFunc (ρ.f 219) args).run X.P w = .ok (.enter (ρ.f 219) args) w:=Go.Proofs.enters_of L.f219 (by kernel_rfl) rfl
 unfold conIdx at h
 split at h
 ·rename_i s sub
  split at h
  ·rename_i hlen
   injection h with h
   injection h with h1 h2
   subst h1;subst h2
   cases repL_str2 hv
   refine con_below hs (he _ _) ((Any.stringslite_Index L ⟨s.toArray⟩ ⟨sub.toArray⟩ m w (by simpa [ByteArray.size] using hlen) (glob_int hs hg)).mono ?_)
   rintro e w' ⟨rfl,rfl⟩
   refine ⟨_,rfl,?_,Below.refl _ _⟩
   rw [idx_lib]
   exact .int .i64 _
  ·cases h
 ·cases h
theorem conClone_run (L:LaysM.n316 X.P ρ) (h:conClone args H = some (r,H')) (hs:Sim X ok w ι H) (hv:RepL ok w ι H args vs) :
  Goes X.P (callFunc (ρ.f 316) vs.toArray) w (CallPost X ok w ι H r H'):=by
 have he:∀ args w,(callFunc (ρ.f 316) args).run X.P w = .ok (.enter (ρ.f 316) args) w:=Go.Proofs.enters_of L.f316 (by kernel_rfl) rfl
 unfold conClone at h
 split at h
 ·rename_i s
  split at h
  ·rename_i hlen
   injection h with h
   injection h with h1 h2
   subst h1;subst h2
   cases repL_str1 hv
   refine con_below hs (he _ _) ((Any.stringslite_Clone L ⟨s.toArray⟩ w (by simpa [ByteArray.size] using hlen)).mono ?_)
   rintro e w' ⟨rfl,hb⟩
   exact ⟨_,rfl,.str s,hb⟩
  ·cases h
 ·cases h
end
end Go.Ev
namespace Go.Ev
open Go Go.Proofs Go.RowKit Go.Shelf
def idxB (c:UInt8):List UInt8→Nat→Int
 | [],_=>-1
 | b :: l,n=>if b = c then n else idxB c l (n+1)
theorem idxB_lib (c:UInt8):∀ (l:List UInt8) (n:Nat),idxB c l n = if Lib.indexByte l c = -1 then -1 else Lib.indexByte l c+n
 | [],n=>by simp [idxB,Lib.indexByte]
 | b :: l,n=>by
  have hg:=Lib.indexByte_ge l c
  simp only [idxB,Lib.indexByte,idxB_lib c l (n+1)]
  by_cases hp:b = c
  ·simp [hp]
  ·by_cases h:Lib.indexByte l c = -1
   ·simp [h,hp]
   ·have h2:¬ Lib.indexByte l c+1 = -1:=by omega
    simp only [beq_iff_eq,h,h2,hp,if_false]
    omega
theorem idxB_lib0 (c:UInt8) (l:List UInt8):Lib.indexByte l c = idxB c l 0:=by
 rw [idxB_lib]
 split
 ·assumption
 ·simp
def idxBExt:List D→Option D
 | [.str s,.int .u8 c]=>some (.int .i64 (idxB (UInt8.ofNat c.toNat) s 0))
 | _=>none
section
variable {X:Cx} {ρ:Ren} {ok:Nat→Prop} {w:World} {ι:Iota} {H H':Heap} {r:D} {args:List D} {vs:List Value}
theorem repL_strInt {s:List UInt8} {k:IntKind} {c:Int} (hv:RepL ok w ι H [.str s,.int k c] vs):vs = [.string ⟨s.toArray⟩,.int k c]:=by
 obtain ⟨v,us,rfl,h1,h2⟩:=repL_cons hv
 obtain ⟨v2,us2,rfl,h3,h4⟩:=repL_cons h2
 cases repL_nil h4
 cases h1
 cases h3
 rfl
theorem idxBExt_run {P : Program} {f : Nat} {fn : Func} (hf : P.funcs[f]? = some fn) (hn : fn.body = none) (hng : (fn.name == "runtime.NumGoroutine") = false)
  (h1:Extern.findNext fn = none) (h2:Extern.find fn = some Extern.BytealgIndexByte.indexByte) {d:D}
  (h:idxBExt args = some d) (hv:RepL ok w ι H args vs):∃ v,(callFunc f vs.toArray).run P w = .ok (.value v) w∧Rep ok w ι H d v∧idFree d = true:=by
 unfold idxBExt at h
 split at h
 ·rename_i s c
  injection h with h
  subst h
  cases repL_strInt hv
  refine ⟨.int .i64 (idxB (UInt8.ofNat c.toNat) s 0),?_,.int _ _,rfl⟩
  rw [run_callFunc_extern hf hng (by rw [hn];rfl) h1 h2,Lib.run_indexByteString,idxB_lib0]
  rfl
 ·cases h
end
end Go.Ev
namespace Go.Ev
open Go Go.Proofs Go.RowKit
class TxtC where
 t:Nat→List D→Heap→Option (D × Heap)
def Cx.add (X:Cx) (T:Nat) (t:List D→Heap→Option (D × Heap)):Cx :=
 { X with con:=fun f=>if f = T then t else X.con f,bad:=fun f=>if f = T then true else X.bad f }
section
variable {X:Cx} {T:Nat} {t:List D→Heap→Option (D × Heap)}
end
end Go.Ev
namespace Go.Ev
open Go Go.Proofs Go.RowKit Go.Shelf
def bytesR:List D→Option (List UInt8)
 | []=>some []
 | .int .u8 n :: l=>if 0≤n∧n < 256 then (bytesR l).map fun r=>UInt8.ofNat n.toNat :: r else none
 | _=>none
@[simp] theorem bytesR_of:∀ (s:List UInt8),bytesR (ofBytes s) = some s
 | []=>rfl
 | b :: s=>by
  have h:=b.toNat_lt
  have:bytesR (ofBytes (b :: s)) = if (0:Int)≤(b.toNat:Int)∧(b.toNat:Int) < 256 then (bytesR (ofBytes s)).map fun r=>UInt8.ofNat (b.toNat:Int).toNat :: r else none:=rfl
  rw [this,bytesR_of s,if_pos (by omega)]
  simp
theorem bytesR_inv:∀ {ds:List D} {s:List UInt8},bytesR ds = some s→ds = ofBytes s
 | [],s,h=>by simp [bytesR] at h;subst h;rfl
 | d :: l,s,h=>by
  unfold bytesR at h
  split at h
  ·rename_i e;cases e
  ·rename_i n l' e
   cases e
   split at h
   ·rename_i hn
    cases hr:bytesR l with
    | none=>rw [hr] at h;simp at h
    | some r =>
     rw [hr] at h
     simp only [Option.map_some,Option.some.injEq] at h
     subst h
     rw [bytesR_inv hr]
     simp only [ofBytes,List.map_cons,List.cons.injEq,D.int.injEq,true_and,and_true]
     rw [UInt8.toNat_ofNat_of_lt' (by simp;omega)]
     omega
   ·cases h
  ·cases h
def conBIdx:List D→Heap→Option (D × Heap)
 | [.vsl _ ds l,.vsl false es k],H=>match bytesR ds,bytesR es with
  | some s,some t=>if s.length = l∧t.length = k∧1≤k∧l < 4294967281∧k < 4294967281 then some (.int .i64 (idxN t s 0),H) else none
  | _,_=>none
 | _,_=>none
section
variable {X:Cx} {ρ:Ren} {ok:Nat→Prop} {w:World} {ι:Iota} {H H':Heap} {r:D} {args:List D} {vs:List Value}
theorem bytes_ints (s:List UInt8):Lib.bytesOf (s.map fun b=>(b.toNat:Int)) = s:=by
 simp [Lib.bytesOf,List.map_map,Function.comp_def]
theorem vsl_cells {a:Addr} {s:List UInt8} {l c:Nat} (h:Rep ok w ι H (.vsl false (ofBytes s) l) (.slice (some a) l c)) :
  (∀ i,i < s.length→w.cell? (a.add i) = some (.int .u8 ((s.map fun b=>(b.toNat:Int)).getD i 0)))∧l≤c:=by
 cases h with
 | vsl a f ha hc hr h hlc =>
  refine ⟨fun i hi=>?_,hlc⟩
  have hj:(ofBytes s)[i]? = some (.int .u8 (s[i].toNat:Int)):=by simp [ofBytes,hi]
  have h1:=hr i _ hj
  have h2:=h i _ hj
  rw [h1]
  generalize f i = v at h2
  cases h2
  simp [List.getD_eq_getElem?_getD,hi]
theorem ints_rng (s:List UInt8):∀ x∈s.map (fun b=>(b.toNat:Int)),0≤x∧x < 256:=by
 intro x hx
 obtain ⟨b,_,rfl⟩:=List.mem_map.1 hx
 have:=b.toNat_lt
 omega
theorem conBIdx_run {m:Int} (L:Lays.n185 X.P ρ) (hg:X.glob (ρ.g 1) = some [.int .i64 m]) (h:conBIdx args H = some (r,H')) (hs:Sim X ok w ι H) (hv:RepL ok w ι H args vs) :
  Goes X.P (callFunc (ρ.f 185) vs.toArray) w (CallPost X ok w ι H r H'):=by
 have he:∀ args w,(callFunc (ρ.f 185) args).run X.P w = .ok (.enter (ρ.f 185) args) w:=Go.Proofs.enters_of L.f185 (by kernel_rfl) rfl
 unfold conBIdx at h
 split at h
 ·rename_i nil ds l es k
  split at h
  ·rename_i s t hs1 ht1
   split at h
   ·rename_i hc
    obtain ⟨rfl,rfl,h2,h3,h4⟩:=hc
    injection h with h
    injection h with e1 e2
    subst e1;subst e2
    obtain rfl:=bytesR_inv hs1
    obtain rfl:=bytesR_inv ht1
    obtain ⟨v1,us,rfl,r1,hv⟩:=repL_cons hv
    obtain ⟨v2,us,rfl,r2,hv⟩:=repL_cons hv
    cases repL_nil hv
    obtain ⟨a2,c2,rfl⟩:∃ a c,v2 = .slice (some a) t.length c:=by cases r2;exact ⟨_,_,rfl⟩
    obtain ⟨q2,_⟩:=vsl_cells r2
    have hrep:∀ w':World,Rep ok w' ι H (.int .i64 (idxN t s 0)) (.int .i64 (idxN t s 0)):=fun w'=>.int .i64 _
    cases nil with
    | true =>
     obtain ⟨rfl,rfl⟩:s = []∧v1 = .slice none 0 0:=by
      generalize hds:ofBytes s = ds at r1
      generalize s.length = n at r1
      cases r1
      exact ⟨by cases s <;> simp [ofBytes] at hds ⊢,rfl⟩
     refine con_below hs (he _ _) ((Any.bytes_Index_nil L (some a2) t.length c2 w (by omega) (fun h=>?_)).mono ?_)
     ·have h0:=q2 0 (by omega)
      have e2:a2 = ⟨a2.block,a2.off,none⟩:=Lib.plain_of_cell (by simpa [Addr.add] using h0)
      refine ⟨a2.block,a2.off,(t.map fun b=>(b.toNat:Int)).getD 0 0,congrArg some e2,?_⟩
      rw [addr_add_zero,e2] at h0
      exact h0
     rintro e w' ⟨rfl,rfl⟩
     refine ⟨_,rfl,?_,Below.refl _ _⟩
     have h0:¬ t.length = 0:=by omega
     have ht:t.isEmpty = false:=by cases t <;> simp at h0 ⊢
     rw [if_neg h0]
     have:=hrep w'
     simpa [idxN,ht] using this
    | false =>
     obtain ⟨a1,c1,rfl⟩:∃ a c,v1 = .slice (some a) s.length c:=by cases r1;exact ⟨_,_,rfl⟩
     obtain ⟨q1,hcap⟩:=vsl_cells r1
     refine con_below hs (he _ _) ((Any.bytes_Index_at L a1 a2 s.length c1 t.length c2 (s.map fun b=>(b.toNat:Int)) (t.map fun b=>(b.toNat:Int)) m w (by simp) (by simp) (ints_rng s) (ints_rng t) q1 q2 hcap h3 (by omega) (glob_int hs hg)).mono ?_)
     rintro e w' ⟨rfl,q,rfl⟩
     refine ⟨_,rfl,?_,below_drewN (Below.refl _ _) q⟩
     rw [bytes_ints,bytes_ints,idx_lib]
     exact hrep _
   ·cases h
  ·cases h
 ·cases h
end
end Go.Ev
namespace Go.Ev
open Go Go.Proofs Go.RowKit Go.Shelf
def u8first:List D:=(List.range 256).map fun c=>.int .u8 (Lib.firstT c)
def u8acc:List D:=(List.range 16).flatMap fun i=>[.int .u8 (Lib.accLo i),.int .u8 (Lib.accHi i)]
theorem rep_ints {W:World} {g:Nat} {ds:List D} {z:Nat→Int} (hd:∀ (j:Nat) (d:D),ds[j]? = some d→d = .int .u8 (z j)) (hc:∀ j,j < ds.length→W.cell? ⟨g,j,none⟩ = some (.int .u8 (z j))):Rep (· < W.heap.size) W iota0 [] (.vptr ds) (.pointer (some ⟨g,0,none⟩)):=by
 refine .vptr _ (fun j=>.int .u8 (z j)) (fun d hm=>?_) (fun d hm=>?_) (fun j d hj=>?_) (fun j d hj=>?_)
 ·obtain ⟨j,hj⟩:=List.mem_iff_getElem?.1 hm
  have:=cell_lt (hc j (List.getElem?_eq_some_iff.1 hj).1)
  exact this
 ·obtain ⟨j,hj⟩:=List.mem_iff_getElem?.1 hm
  rw [hd j d hj]
  rfl
 ·rw [addr_add,Nat.zero_add]
  exact hc j (List.getElem?_eq_some_iff.1 hj).1
 ·rw [hd j d hj]
  exact .int .u8 _
theorem flat2 {α:Type} (f g:Nat→α):∀ (n k:Nat) (j:Nat) (d:α),((List.range' k n).flatMap fun i=>[f i,g i])[j]? = some d→d = if j % 2 = 0 then f (k+j / 2) else g (k+j / 2)
 | 0,k,j,d,h=>by simp at h
 | n+1,k,0,d,h=>by simp [List.range'_succ] at h;simp [h]
 | n+1,k,1,d,h=>by simp [List.range'_succ] at h;simp [h]
 | n+1,k,j+2,d,h=>by
  simp only [List.range'_succ,List.flatMap_cons,List.cons_append,List.nil_append,List.getElem?_cons_succ] at h
  have:=flat2 f g n (k+1) j d h
  rw [this]
  have e1:(j+2) % 2 = j % 2:=by omega
  have e2:k+(j+2) / 2 = k+1+j / 2:=by omega
  rw [e1,e2]
theorem rep_u8 {W:World} {g3 g4:Nat} (h:Lib.Utf8Tabs g3 g4 W):Rep (· < W.heap.size) W iota0 [] (.vptr u8first) (.pointer (some ⟨g3,0,none⟩))∧Rep (· < W.heap.size) W iota0 [] (.vptr u8acc) (.pointer (some ⟨g4,0,none⟩)):=by
 obtain ⟨h1,h2⟩:=h
 constructor
 ·refine rep_ints (z:=fun j=>(Lib.firstT j:Int)) (fun j d hj=>?_) fun j hj=>h1 j (by simpa [u8first] using hj)
  simp only [u8first,List.getElem?_map,Option.map_eq_some_iff] at hj
  obtain ⟨a,ha,rfl⟩:=hj
  rw [List.getElem?_range (by have:=(List.getElem?_eq_some_iff.1 ha).1;simpa using this)] at ha
  cases ha
  rfl
 ·refine rep_ints (z:=fun j=>if j % 2 = 0 then (Lib.accLo (j / 2):Int) else Lib.accHi (j / 2)) (fun j d hj=>?_) fun j hj=>?_
  ·have:=flat2 (fun i=>D.int .u8 (Lib.accLo i)) (fun i=>D.int .u8 (Lib.accHi i)) 16 0 j d (by rw [← List.range_eq_range'];exact hj)
   rw [this,Nat.zero_add]
   split <;> rfl
  ·have hl:u8acc.length = 32:=rfl
   have hj':j < 32:=by rw [← hl];exact hj
   obtain ⟨a,b⟩:=h2 (j / 2) (by omega)
   by_cases he:j % 2 = 0
   ·have e:j = 2 * (j / 2):=by omega
    rw [if_pos he]
    rw [← e] at a
    exact a
   ·have e:j = 2 * (j / 2)+1:=by omega
    rw [if_neg he]
    rw [← e] at b
    exact b
theorem u8_tabs {X:Cx} {ok:Nat→Prop} {w:World} {ι:Iota} {H:Heap} {g3 g4:Nat} (hs:Sim X ok w ι H) (h3:X.glob g3 = some u8first) (h4:X.glob g4 = some u8acc):Lib.Utf8Tabs g3 g4 w:=by
 have get:∀ {g:Nat} {ds:List D},X.glob g = some ds→∀ (j:Nat) (z:Int),ds[j]? = some (.int .u8 z)→w.cell? ⟨g,j,none⟩ = some (.int .u8 z):=by
  intro g ds hg j z hj
  have h:=hs.glob g ds hg
  cases h with
  | vptr a f ha hc hr h =>
   have h1:=hr j _ hj
   have h2:=h j _ hj
   rw [addr_add,Nat.zero_add] at h1
   generalize f j = v at h1 h2
   cases h2
   exact h1
 refine ⟨fun c hc=>get h3 c _ (by simp [u8first,List.getElem?_map,List.getElem?_range hc]),fun i hi=>?_⟩
 have hall:∀ i:Nat,i < 16→u8acc[2 * i]? = some (.int .u8 (Lib.accLo i))∧u8acc[2 * i+1]? = some (.int .u8 (Lib.accHi i)):=by
  intro i hi
  match i,hi with
  | 0,_ | 1,_ | 2,_ | 3,_ | 4,_ | 5,_ | 6,_ | 7,_ | 8,_ | 9,_ | 10,_ | 11,_ | 12,_ | 13,_ | 14,_ | 15,_=>exact ⟨rfl,rfl⟩
  | i+16,h=>omega
 obtain ⟨a,b⟩:=hall i hi
 exact ⟨get h4 _ _ a,get h4 _ _ b⟩
def sliceB:List D→Nat→Option (List UInt8)
 | ds,n=>match bytesR ds with
  | some s=>if n≤s.length∧1≤n then some (s.take n) else none
  | none=>none
def conDec:List D→Heap→Option (D × Heap)
 | [.vsl false ds n],H=>match sliceB ds n with
  | some s=>some (.tup [.int .i32 (Lib.decodeGo ⟨s.toArray⟩).1,.int .i64 (Lib.decodeGo ⟨s.toArray⟩).2],H)
  | none=>none
 | _,_=>none
end Go.Ev
namespace Go.Ev
open Go Go.Proofs Go.RowKit Go.Shelf
section
variable {X:Cx} {ρ:Ren} {ok:Nat→Prop} {w:World} {ι:Iota} {H H':Heap} {r:D} {args:List D} {vs:List Value}
theorem sliceB_inv {ds:List D} {n:Nat} {s:List UInt8} (h:sliceB ds n = some s):∃ t:List UInt8,ds = ofBytes t∧n≤t.length∧1≤n∧s = t.take n:=by
 unfold sliceB at h
 simp only at h
 cases hr:bytesR ds with
 | none=>rw [hr] at h;cases h
 | some t =>
  rw [hr] at h
  simp only at h
  by_cases hc:n≤t.length∧1≤n
  ·rw [if_pos hc] at h
   injection h with h
   exact ⟨t,bytesR_inv hr,hc.1,hc.2,h.symm⟩
  ·rw [if_neg hc] at h
   cases h
theorem slice_cells {a:Addr} {t:List UInt8} {n c:Nat} (h:Rep ok w ι H (.vsl false (ofBytes t) n) (.slice (some a) n c)) (hn:n≤t.length) (h1:1≤n):a = ⟨a.block,a.off,none⟩∧(∀ j,j < n→w.cell? ⟨a.block,a.off+j,none⟩ = some (.int .u8 ((⟨(t.take n).toArray⟩:ByteArray).get! j).toNat))∧ok a.block:=by
 cases h with
 | vsl a f ha hc hr h hlc =>
  have hc':∀ (j:Nat) (hj:j < t.length),w.cell? (a.add j) = some (.int .u8 (t[j].toNat:Int)):=by
   intro j hj
   have hj':(ofBytes t)[j]? = some (.int .u8 (t[j].toNat:Int)):=by simp [ofBytes,hj]
   have h1:=hr j _ hj'
   have h2:=h j _ hj'
   rw [h1]
   generalize f j = v at h2
   cases h2
   rfl
  have h0:=hc' 0 (by omega)
  have e2:a = ⟨a.block,a.off,none⟩:=Lib.plain_of_cell (by simpa [Addr.add] using h0)
  refine ⟨e2,fun j hj=>?_,?_⟩
  ·have:=hc' j (by omega)
   rw [e2,addr_add] at this
   rw [this]
   have hsz:j < (⟨(t.take n).toArray⟩:ByteArray).size:=by rw [ba_size];simp;omega
   have:(⟨(t.take n).toArray⟩:ByteArray).get! j = t[j]:=by
    rw [Utf8W.get!_of_lt _ j hsz]
    show (t.take n).toArray[j] = _
    simp
   rw [this]
  ·exact ha (.int .u8 (t[0].toNat:Int)) (by
    refine List.mem_iff_getElem?.2 ⟨0,?_⟩
    have h0:0 < t.length:=by omega
    simp [ofBytes,h0])
theorem conDec_run (L:Lays7.n32 X.P ρ) (h3:X.glob (ρ.g 2) = some u8first) (h4:X.glob (ρ.g 3) = some u8acc) (h:conDec args H = some (r,H')) (hs:Sim X ok w ι H) (hv:RepL ok w ι H args vs) :
  Goes X.P (callFunc (ρ.f 32) vs.toArray) w (CallPost X ok w ι H r H'):=by
 have he:∀ args w,(callFunc (ρ.f 32) args).run X.P w = .ok (.enter (ρ.f 32) args) w:=Go.Proofs.enters_of L.f32 (by kernel_rfl) rfl
 unfold conDec at h
 split at h
 ·rename_i ds n
  split at h
  ·rename_i s hsb
   obtain ⟨t,rfl,hn,h1,rfl⟩:=sliceB_inv hsb
   injection h with h
   injection h with e1 e2
   subst e1;subst e2
   obtain ⟨v1,us,rfl,r1,hv⟩:=repL_cons hv
   cases repL_nil hv
   obtain ⟨a1,c1,rfl⟩:∃ a c,v1 = .slice (some a) n c:=by cases r1;exact ⟨_,_,rfl⟩
   obtain ⟨q1,q2,_⟩:=slice_cells r1 hn h1
   have hsz:(⟨(t.take n).toArray⟩:ByteArray).size = n:=by rw [ba_size];simp;omega
   have hc:=Any7.utf8_DecodeRune L ⟨(t.take n).toArray⟩ a1.block a1.off c1 w (u8_tabs hs h3 h4) (fun j hj=>q2 j (by rw [hsz] at hj;exact hj))
   rw [hsz,← q1] at hc
   refine con_below hs (he _ _) (hc.mono ?_)
   rintro e w' ⟨rfl,hb⟩
   refine ⟨_,rfl,?_,hb⟩
   refine .tup rfl fun j d hj=>?_
   match j,hj with
   | 0,hj=>simp at hj;subst hj;exact .int .i32 _
   | 1,hj=>simp at hj;subst hj;exact .int .i64 _
   | j+2,hj=>simp at hj
  ·cases h
 ·cases h
end
end Go.Ev
namespace Go.Ev
open Go Go.Proofs Go.RowKit Go.Shelf
def conIS (m:Int):List D→Heap→Option (D × Heap)
 | [.str s,.str sub],H=>if s.length < sub.length∧2≤sub.length∧(sub.length:Int)≤m∧s.length < 1000000 then some (.int .i64 (-1),H) else none
 | _,_=>none
section
variable {X:Cx} {ρ:Ren} {ok:Nat→Prop} {w:World} {ι:Iota} {H H':Heap} {r:D} {args:List D} {vs:List Value}
theorem idxN_long {sub:List UInt8}:∀ {s:List UInt8} {n:Nat},s.length < sub.length→idxN sub s n = -1
 | [],n,h=>by
  unfold idxN
  cases sub with
  | nil=>simp at h
  | cons=>rfl
 | b :: l,n,h=>by
  unfold idxN
  have hp:sub.isPrefixOf (b :: l) = false:=by
   cases hp:sub.isPrefixOf (b :: l) with
   | false=>rfl
   | true =>
    have:=(List.isPrefixOf_iff_prefix.1 hp).length_le
    omega
  rw [hp]
  simp only [Bool.false_eq_true,if_false]
  exact idxN_long (by simp at h;omega)
theorem conIS_run {m : Int} {f g : Nat} {fn : Func} (hf : X.P.funcs[f]? = some fn) (hn : fn.body = none) (hng : (fn.name == "runtime.NumGoroutine") = false)
  (h1 : Extern.findNext fn = none) (h2 : Extern.find fn = some Extern.BytealgIndex.index) (hgi : X.P.globals.findIdx? (·.name == "internal/bytealg.MaxLen") = some g) (hg : X.glob g = some [.int .i64 m])
  (h:conIS m args H = some (r,H')) (hs:Sim X ok w ι H) (hv:RepL ok w ι H args vs):Goes X.P (callFunc f vs.toArray) w (CallPost X ok w ι H r H'):=by
 unfold conIS at h
 split at h
 ·rename_i s sub
  split at h
  ·rename_i hc
   injection h with h
   injection h with e1 e2
   subst e1;subst e2
   cases repL_str2 hv
   have hr:=Lib.run_indexString (P:=X.P) ⟨s.toArray⟩ ⟨sub.toArray⟩ w g m hgi (glob_int hs hg) (by simpa [ByteArray.size] using hc.2.1) (by simpa [ByteArray.size] using hc.2.2.1) (by simp [ByteArray.size];omega)
   refine Goes.value (v:=.int .i64 (-1)) (w':=w) ?_ ⟨ι,ok,hs,.int _ _,.refl _ (Nat.le_refl _),fun i ds hi hd=>by rw [hget,List.getElem?_eq_none hi] at hd;cases hd⟩
   rw [run_callFunc_extern hf hng (by rw [hn];rfl) h1 h2]
   show ((Extern.BytealgIndex.index #[.string ⟨s.toArray⟩,.string ⟨sub.toArray⟩]).run X.P w).andThen _ = _
   rw [hr,idx_lib,idxN_long hc.1]
   rfl
  ·cases h
 ·cases h
end
end Go.Ev
