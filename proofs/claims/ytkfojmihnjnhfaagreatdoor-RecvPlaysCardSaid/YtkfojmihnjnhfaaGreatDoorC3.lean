import Derived.Test.YtkfojmihnjnhfaaGreatDoorC2
import Derived.ProofKit
import Derived.OpenShut
import Derived.Below
import Derived.WideKeyArgs
import Derived.Carry
import Derived.ChangeSame
import Derived.ChangeSlices
import Derived.DataReads
import Derived.DataElems
import Derived.ChangeArms
import Derived.Lib.LaidTab
import Derived.Stop.LaidErr
import Derived.LaidMore
import Derived.Shelf.Strconv.Itoa1
import Derived.Shelf.Strings.Search2
import Derived.Shelf.Strconv.Clone
import Derived.WalkSmall
import Derived.Shelf.Strings.Repeat
import Derived.Lib.Bytealg
import Derived.Shelf.Bytes.SlIndexWhole
import Derived.Lib.LaidU8T
import Derived.Shelf.Spec.DecodeRune
import Derived.Lib.IndexEntry
namespace Go.Ev
open Go Go.Proofs Go.ChangeShapes Go.WideShapes Go.ChangeAt Go.RowKit
theorem qnR {H:Type} {enc:TypeId × Value→H} {P:Program} {f:Func} {s:ChangeSpec} {apart fresh handsOn again:Bool} {W W':World} {args:Array Value} {v:Value} {ds gs:List (DataW H)} {before pa pv:List MemPlace}
  (hW:DataW.Whole enc P f.params.toList s.vars apart W args.toList ds gs before)
  (hres:∀ (b:Nat) (sp:Nat→Bool) (hd:Bool),DataW.TrodAll enc P W' b sp hd f.resultTypes.toList (v.resultList f.resultTypes.size) (s.fn H (ds ++ gs)).results [])
  (hargs:∀ sp:Nat→Bool,(∀ p∈before,sp p.block = true)→DataW.TrodAll enc P W' 0 sp true f.params.toList args.toList (s.fn H (ds ++ gs)).args pa)
  (hvars:∀ sp:Nat→Bool,(∀ p∈before,sp p.block = true)→DataW.TrodVars enc P W' sp s.vars (s.fn H (ds ++ gs)).vars pv)
  (Q1:before = pa ++ pv) (hb:Below W.heap.size W W')
  (hok:∀ (j:Nat) (t:TypeId) (r:Value),f.resultTypes[j]? = some t→(v.resultList f.resultTypes.size)[j]? = some r→Value.okWide P W' .any 0 t r) :
  s.post enc P f apart fresh handsOn again W args v W':=by
 have qg:∀ p∈before,p.block < W.heap.size:=fun p hp=>hW.lt p hp;have hold:∀ p∈before,(fun b=>decide (b < W.heap.size)) p.block = true:=fun p hp=>by simpa using qg p hp
 refine ⟨ds,gs,before,[],pa,pv,hW,hres _ _ _,hargs _ hold,hvars _ hold,World.keptBut_mono (fun p hp=>⟨hp,?_⟩) (hb.frame (·∈before)),fun _=>?_⟩
 ·rw [Q1,List.mem_append] at hp;exact Or.inr hp
 ·obtain ⟨_,_,_,_,_,hz,hn⟩:=hW;refine ⟨hok,_,_,([] ++ pa) ++ pv,⟨[] ++ pa,pv,trodAll_append (hargs _ (fun _ _=>rfl)) (hres _ _ _),hvars _ (fun _ _=>rfl),rfl,?_,?_⟩,?_⟩
  ·intro b off hp;have hin:MemPlace.cell b off∈before:=(by rw [Q1];simpa using hp);rw [hb.frozen (qg _ hin)];exact hz b off hin
  ·intro ha;have:=hn ha;rw [Q1] at this;simpa using this
  ·intro p hp _;rw [Q1];simpa using hp
theorem qfb {H:Type} {enc:TypeId × Value→H} {P:Program} (hl:laidOutB P = true) {W W':World} {sp:Nat→Bool} (hb:Below W.heap.size W W') :
  ∀ {ts:List TypeId} {vs:List Value} {ds:List (DataW H)} {ps:List MemPlace},(ts.all fun t=>P.readableRec t && decide (t < P.types.size)) = true →
   DataW.TrodAll enc P W 0 (fun _=>true) true ts vs ds ps→(∀ p∈ps,p.block < W.heap.size)→(∀ p∈ps,sp p.block = true)→DataW.TrodAll enc P W' 0 sp true ts vs ds ps
 | [],[],[],_,_,h,_,_=>h
 | _ :: _,_ :: _,_ :: _,_,ht,⟨p,q,h1,h2,e⟩,qg,hs=>by
  simp only [List.all_cons,Bool.and_eq_true,decide_eq_true_eq] at ht;subst e
  exact ⟨p,q,WideElems.Trod_stays hl ht.1.1 ht.1.2 h1 (fun x hx=>hb.same (qg x (List.mem_append_left _ hx))) (fun x hx=>hs x (List.mem_append_left _ hx)),
   qfb hl hb (by simpa using ht.2) h2 (fun x hx=>qg x (List.mem_append_right _ hx)) (fun x hx=>hs x (List.mem_append_right _ hx)),rfl⟩
theorem qp0 {H:Type} {enc:TypeId × Value→H} {X:Cx} (hG:Good X) (hl:laidOutB X.P = true) {f:Nat} {fn:Func} {tb:TypeId} (hf:X.P.funcs[f]? = some fn) (zy:fn.body.isSome = true)
  (hres:fn.resultTypes = #[tb]) (htb:X.P.underlying tb = some .bool) (hpar:(fn.params.toList.all fun t=>X.P.readableRec t && decide (t < X.P.types.size)) = true)
  {s:ChangeSpec} (hvr:s.vars = []) {W:World} {args:Array Value} {ds gs:List (DataW H)} {before:List MemPlace}
  (hglob:∀ g cs,X.glob g = some cs→Rep (· < W.heap.size) W qT [] (.vptr cs) (.pointer (some ⟨g,0,none⟩)))
  (hW:DataW.Whole enc X.P fn.params.toList s.vars false W args.toList ds gs before) (hs:(s.fn H (ds ++ gs)).results = [.lit (.bool true)]∧(s.fn H (ds ++ gs)).args = ds∧(s.fn H (ds ++ gs)).vars = [])
  {dd:List D} {L:qi} (hr:RepL (· < W.heap.size) W qT [] dd args.toList) (hc:call X f dd [] = some (.bool true,L)) :
  Calls X.P f args W fun e W'=>∃ v,e = .returned v∧s.post enc X.P fn false true false false W args v W':=by
 have hsim:Sim X (· < W.heap.size) W qT []:=⟨fun b hb=>hb,hglob,fun i j ds es b s s' hd=>by simp [qo] at hd,fun i ds hd=>by simp [qo] at hd⟩;have hgo:=qbZ hG f dd [] _ _ _ W qT args.toList hc hsim hr;obtain ⟨c,hb⟩:=Option.isSome_iff_exists.1 zy;have henter:(callFunc f args.toList.toArray).run X.P W = .ok (.enter f args.toList.toArray) W:=Go.Proofs.enters_of hf (hG.ng f fn hf) (by rw [hb]) _ _;unfold Goes at hgo;rw [henter] at hgo;simp only [Array.toArray_toList] at hgo;refine hgo.mono ?_;rintro e W' ⟨v,rfl,ι',ok',_,hrep,hev,_⟩;refine ⟨v,rfl,?_⟩;cases hrep;have hbel:Below W.heap.size W W':=⟨hev.os,hev.tape,hev.output,hev.size,fun b hb=>hev.frame b hb (fun i ds s hd=>by simp [qo] at hd)⟩;have hW':=hW;obtain ⟨p,q,hA,hV,rfl,vO,hnd⟩:=hW;rw [hvr] at hV;obtain ⟨rfl,rfl⟩:=trodVars_none hV;refine qnR (pa:=p) (pv:=[]) hW' (fun b sp hd=>?_) (fun sp v7=>?_) (fun sp _=>?_) rfl hbel ?_
 ·rw [hs.1,hres];exact trodAll_cons_mk (shut_bool htb _) trodAll_mk0
 ·rw [hs.2.1];exact qfb hl hbel hpar hA (fun x hx=>hW'.lt x (List.mem_append_left _ hx)) (fun x hx=>v7 x (List.mem_append_left _ hx))
 ·rw [hs.2.2,hvr];rfl
 ·rw [hres];intro j t r hj hv;cases j with
  | zero =>
   simp only [List.size_toArray,List.length_cons,List.length_nil] at hj hv;injection hj with hj;subst hj
   have:r = .bool true:=by
    simp only [Value.resultList] at hv;simpa using hv.symm
   subst this;exact okWide_bool_mk htb _
  | succ j=>simp at hj
def zL (k:IntKind) (l:List Int):List D:=l.map (.int k ·)
end Go.Ev
namespace Go.Ev
open Go Go.Proofs
def YA (X:Cx) (n:Nat):Bool:=match X.P.funcs[n]? with
 | some fn => (fn.name != "runtime.NumGoroutine") && match fn.body with
  | some c=>X.bad n || Qi X n c
  | none=>true
 | none=>true
def Vn (X:Cx) (a:Nat):Nat→Bool
 | 0=>true
 | k+1=>Vn X a k && YA X (a+k)
theorem Kr {X:Cx} {a:Nat}:∀ {k:Nat},Vn X a k = true→∀ {f:Nat},a≤f→f < a+k→YA X f = true
 | 0,_,f,h1,h2=>by omega
 | k+1,h,f,h1,h2=>by
  simp only [Vn,Bool.and_eq_true] at h;by_cases hf:f = a+k
  ·rw [hf];exact h.2
  ·exact Kr h.1 h1 (by omega)
theorem qhb {X : Cx} {f : Nat} {fn : Func} (h : YA X f = true) (hfn : X.P.funcs[f]? = some fn) : (fn.name == "runtime.NumGoroutine") = false ∧ ∀ c, fn.body = some c → X.bad f = false → Qi X f c = true := by
 simp only [YA,hfn,Bool.and_eq_true,bne_iff_ne,ne_eq] at h;refine ⟨by simpa using h.1,fun c hc hb=>?_⟩;have h3:=h.2;simpa [hc,hb] using h3
class Enc (α:Type) where
 size:Nat
 cells:α→List D
 len:∀ a,(cells a).length = size
 free:∀ a,(cells a).all idFree = true
section
variable {α:Type} [Enc α]
def qh (l:List α):List D:=(l.map Enc.cells).flatten
@[simp] theorem qjP (a:α):(Enc.cells a).all idFree = true:=Enc.free a
@[simp] theorem qe0 (a:α):idFree.idFreeL (Enc.cells a) = true:=by rw [XK];exact Enc.free a
@[simp] theorem qv1 (n:Nat) (a:α):(Enc.cells a).all (closed n) = true:=by
 rw [← KC];exact ZJ n _ (qe0 a)
@[simp] theorem q4p (n:Nat) (a:α):closed.closedL n (Enc.cells a) = true:=ZJ n _ (qe0 a)
@[simp] theorem q4q (a:α):(∀ x,x∈Enc.cells a→idFree x = true) = True:=eq_true (List.all_eq_true.1 (qjP a))
@[simp] theorem q4r (n:Nat) (a:α):(∀ x,x∈Enc.cells a→closed n x = true) = True:=eq_true (List.all_eq_true.1 (qv1 n a))
@[simp] theorem qjk:qh ([]:List α) = []:=rfl
theorem QP (a:α) (l:List α):qh (a :: l) = Enc.cells a ++ qh l:=rfl
theorem J9 (a:α):qh [a] = Enc.cells a:=by simp [qh]
theorem Kz (a b:List α):qh (a ++ b) = qh a ++ qh b:=by simp [qh]
theorem QI (l:List α) (a:α):qh (l ++ [a]) = qh l ++ Enc.cells a:=by rw [Kz,J9]
theorem qu5 (l:List α):(qh l).length = l.length * Enc.size α:=by
 induction l with
 | nil=>simp
 | cons a l ih=>rw [QP,List.length_append,Enc.len,ih,List.length_cons,Nat.add_mul,Nat.one_mul];omega
theorem JA {n:Nat} (hn:n = Enc.size α) (l:List α):(qh l).length = l.length * n:=by rw [hn,qu5]
theorem ZU {n:Nat} (hn:n = Enc.size α):∀ (l:List α) (i:Nat),(qh l).drop (i * n) = qh (l.drop i)
 | [],i=>by simp
 | a :: l,0=>by simp
 | a :: l,i+1=>by
  have hd:(i+1) * n = n+i * n:=by rw [Nat.add_mul,Nat.one_mul,Nat.add_comm]
  rw [QP,hd,← List.drop_drop,List.drop_left' (by rw [Enc.len,hn]),List.drop_succ_cons,ZU hn l i]
theorem Jq {n:Nat} (hn:n = Enc.size α):∀ (l:List α) (i:Nat),(qh l).take (i * n) = qh (l.take i)
 | [],i=>by simp
 | a :: l,0=>by simp
 | a :: l,i+1=>by
  have hd:(i+1) * n = n+i * n:=by rw [Nat.add_mul,Nat.one_mul,Nat.add_comm]
  have hl:(Enc.cells a).length = n:=by rw [Enc.len,hn]
  rw [QP,hd,← hl,List.take_append,List.take_of_length_le (Nat.le_add_right _ _),Nat.add_sub_cancel_left,hl,Jq hn l i,List.take_succ_cons,QP]
theorem ZV {n:Nat} (hn:n = Enc.size α) {l:List α} {i:Nat} (hi:i < l.length):(qh l).drop (i * n) = Enc.cells l[i] ++ qh (l.drop (i+1)):=by
 rw [ZU hn,List.drop_eq_getElem_cons hi,QP]
theorem qu6 {l:List α} (hi:0 < l.length):qh l = Enc.cells l[0] ++ qh (l.drop 1):=by
 have:=ZV (n:=Enc.size α) rfl hi
 rwa [Nat.zero_mul,List.drop_zero] at this
theorem JE {n:Nat} (hn:n = Enc.size α) (a:α) (r:List D):(Enc.cells a ++ r).take n = Enc.cells a:=List.take_left' (by rw [Enc.len,hn])
theorem JD {n:Nat} (hn:n = Enc.size α) (a:α):(Enc.cells a).take n = Enc.cells a:=List.take_of_length_le (by rw [Enc.len,hn];exact Nat.le_refl _)
theorem JF {n:Nat} (hn:n = Enc.size α) (a:α) (r:List D):(Enc.cells a ++ r).drop n = r:=List.drop_left' (by rw [Enc.len,hn])
theorem Jr {n:Nat} (hn:n = Enc.size α) (m:α):∀ (l:List α) {j:Nat},j < l.length→qA (qh l) (j * n) (Enc.cells m) = qh (l.set j m)
 | [],j,hj=>by simp at hj
 | a :: l,j,hj=>by
  have ha:(Enc.cells a).length = n:=by rw [Enc.len,hn]
  have hm:(Enc.cells m).length = n:=by rw [Enc.len,hn]
  cases j with
  | zero =>
   simp only [qA,Nat.zero_mul,List.take_zero,List.nil_append,Nat.zero_add,hm,List.set_cons_zero,QP];rw [List.drop_left' ha]
  | succ j =>
   have ih:=Jr hn m l (j:=j) (by simpa using hj);have e1:(j+1) * n = n+j * n:=(by rw [Nat.add_mul,Nat.one_mul,Nat.add_comm]);simp only [qA,hm] at ih ⊢;rw [List.set_cons_succ,QP,QP,← ih,e1,Nat.add_assoc,← List.drop_drop,List.drop_left' ha,← ha,List.take_append,List.take_of_length_le (Nat.le_add_right _ _),Nat.add_sub_cancel_left];simp
@[simp] theorem qjm (l:List α):(qh l).all idFree = true:=by
 induction l with
 | nil=>rfl
 | cons a l ih=>rw [QP,List.all_append,ih,qjP];rfl
@[simp] theorem qen (l:List α):idFree.idFreeL (qh l) = true:=by rw [XK];exact qjm l
@[simp] theorem qbP (n:Nat) (l:List α):(qh l).all (closed n) = true:=by
 rw [← KC];exact ZJ n _ (qen l)
@[simp] theorem q3r (n:Nat) (l:List α):closed.closedL n (qh l) = true:=ZJ n _ (qen l)
@[simp] theorem q3s (l:List α):(∀ x,x∈qh l→idFree x = true) = True:=eq_true (List.all_eq_true.1 (qjm l))
@[simp] theorem q3t (n:Nat) (l:List α):(∀ x,x∈qh l→closed n x = true) = True:=eq_true (List.all_eq_true.1 (qbP n l))
structure Sl (α:Type) where
 nil:Bool
 l:List α
 h:nil = true→l = []
omit [Enc α] in
theorem Sl.nn {s:Sl α} {i:Nat} (h:i < s.l.length):s.nil = false:=by
 cases hn:s.nil with
 | false=>rfl
 | true=>rw [s.h hn] at h;simp at h
end
def Sl.of {α:Type} (l:List α):Sl α:=⟨false,l,by simp⟩
def Sl.none {α:Type}:Sl α:=⟨true,[],by simp⟩
@[simp] theorem Sl.of_l {α:Type} (l:List α):(Sl.of l).l = l:=rfl
@[simp] theorem Sl.of_nil {α:Type} (l:List α):(Sl.of l).nil = false:=rfl
@[simp] theorem Sl.none_l {α:Type}:(Sl.none:Sl α).l = []:=rfl
@[simp] theorem Sl.none_nil {α:Type}:(Sl.none:Sl α).nil = true:=rfl
theorem qcz {H:qi} {n:Nat} {d:D} (h:idFree d = true):jg H (n+1) d = some (d,[]):=by
 unfold jg;rw [if_pos h]
theorem qaD {H:qi} {n:Nat}:∀ {l:List D},idFree.idFreeL l = true→jU (jg H (n+1)) l = some (l,[])
 | [],_=>rfl
 | d :: l,h=>by
  simp only [idFree.idFreeL,Bool.and_eq_true] at h;simp only [jU,qcz h.1,qaD h.2,List.append_nil]
theorem qaE {g:D→Option (D × List Nat)}:∀ (a b:List D),jU g (a ++ b) = match jU g a,jU g b with
  | some (x,p),some (y,q)=>some (x ++ y,p ++ q)
  | _,_=>none
 | [],b=>by
  simp only [List.nil_append,jU];cases jU g b with
  | none=>rfl
  | some q=>obtain ⟨y,q⟩:=q;rfl
 | d :: a,b=>by
  simp only [List.cons_append,jU,qaE a b];cases g d with
  | none=>rfl
  | some r =>
   obtain ⟨r,i⟩:=r;cases jU g a with
   | none=>rfl
   | some p =>
    obtain ⟨x,p⟩:=p;cases jU g b with
    | none=>rfl
    | some q=>obtain ⟨y,q⟩:=q;simp
theorem qfr {H:qi} {l:List D} (h:idFree.idFreeL l = true):jU (jg H 8) l = some (l,[]):=qaD h
theorem qlA {H:qi} {l:List D} (h:idFree.idFreeL l = true):jU (jg H 7) l = some (l,[]):=qaD h
attribute [simp] qaE qfr qlA
theorem qcD {X:Cx} {f nt n0:Nat} {Q:Ex→qp→qi→Prop} {fs:List Fr} {e:qp} {H:qi} {c:Code} (h:Run X f nt n0 (fun ex e H=>ex≠.normal∧Run X f nt n0 Q fs (some (ex,e,H))) [] (code X f nt n0 c e H)) :
  Run X f nt n0 Q fs (code X f nt n0 (.loop c) e H):=by
 rw [qex];cases ho:code X f nt n0 c e H with
 | none=>rw [ho,vJ] at h;exact h.elim
 | some q =>
  obtain ⟨ex,e1,H1⟩:=q;rw [ho,Jd] at h;cases ex with
  | normal=>exact absurd rfl h.1
  | exit i=>exact h.2
  | ret=>exact h.2
theorem Run.loopThen {X:Cx} {f nt n0:Nat} {Q:Ex→qp→qi→Prop} {fs:List Fr} {c:Code} {σ:Type} (I:σ→qp→qi→Prop) (m:σ→Nat) (s:σ) {e:qp} {H:qi} (h0:I s e H)
  (step:∀ s e H,I s e H→Run X f nt n0 (fun ex e' H'=>match ex with | .normal=>∃ s',m s' < m s∧I s' e' H' | ex=>Run X f nt n0 Q fs (some (ex,e',H'))) [] (code X f nt n0 c e H)) :
  Run X f nt n0 Q fs (code X f nt n0 (.loop c) e H):=by
 have h:=Run.loop (Q:=fun ex e H=>ex≠.normal∧Run X f nt n0 Q fs (some (ex,e,H))) I m (fun s e H hi=>by
  refine Run.mono (step s e H hi) ?_;intro ex e' H' hq;rw [Jd];cases ex with
  | normal=>exact hq
  | exit i=>exact ⟨by simp,hq⟩
  | ret=>exact ⟨by simp,hq⟩) s e H h0
 exact Run.mono h fun ex e H hq=>hq.2
theorem JL {X:Cx} {f nt n0:Nat} {Q:Ex→qp→qi→Prop} {fs:List Fr} {c:Code} {e:qp} {H:qi}
  (h:Run X f nt n0 (fun ex e' H'=>match ex with | .normal=>Run X f nt n0 Q fs (code X f nt n0 (.loop c) e' H') | ex=>Run X f nt n0 Q fs (some (ex,e',H'))) [] (code X f nt n0 c e H)) :
  Run X f nt n0 Q fs (code X f nt n0 (.loop c) e H):=by
 rw [qex];cases ho:code X f nt n0 c e H with
 | none=>rw [ho,vJ] at h;exact h.elim
 | some q =>
  obtain ⟨ex,e1,H1⟩:=q;rw [ho,Jd] at h;cases ex with
  | normal=>exact h
  | exit i=>exact h
  | ret=>exact h
def qck (X:Cx) (z:Bool) (rs:List ResultVar) (n0:Nat) (P:D × qi→Prop):Ex→qp→qi→Prop
 | .exit _,_,_=>False
 | _,e,H=>∃ r,(kL X e H rs).bind (fun ds=>Zt z n0 H (Zu ds)) = some r∧P r
theorem qtZ {X:Cx} {z:Bool} {rs:List ResultVar} {n0:Nat} {P:D × qi→Prop} {e:qp} {H:qi}:qck X z rs n0 P .ret e H = ∃ r,(kL X e H rs).bind (fun ds=>Zt z n0 H (Zu ds)) = some r∧P r:=rfl
theorem qua {X:Cx} {z:Bool} {rs:List ResultVar} {n0:Nat} {P:D × qi→Prop} {e:qp} {H:qi}:qck X z rs n0 P .normal e H = ∃ r,(kL X e H rs).bind (fun ds=>Zt z n0 H (Zu ds)) = some r∧P r:=rfl
theorem vf {X:Cx} {f:Nat} {H:qi} {fn:Func} {args:List D} (P:D × qi→Prop) (hf:X.P.funcs[f]? = some fn) (hb:fn.body.isSome = true) (hbad:X.bad f = false∧X.con f args H = none)
  (h:Run X f fn.ntmps H.length (qck X (X.fzr f) fn.results.toList H.length P) [] (code X f fn.ntmps H.length (vx (qN fn)) (kG 0 args) H)):∃ r,call X f args H = some r∧P r:=by
 cases ho:code X f fn.ntmps H.length (vx (qN fn)) (kG 0 args) H with
 | none=>rw [ho,vJ] at h;exact h.elim
 | some q =>
  obtain ⟨ex,e1,H1⟩:=q;rw [ho,Jd] at h;cases ex with
  | exit i=>exact h.elim
  | normal =>
   obtain ⟨r,h1,h2⟩:=h;exact ⟨r,qq hf hb hbad (by rw [ho,Jd,qec];exact h1),h2⟩
  | ret =>
   obtain ⟨r,h1,h2⟩:=h;exact ⟨r,qq hf hb hbad (by rw [ho,Jd,qeb];exact h1),h2⟩
attribute [simp] qtZ qua
end Go.Ev
namespace Go.Ev
open Go Go.Proofs
structure ID where
 l:List UInt8
 h:l.length = 16
 deriving DecidableEq
@[simp] theorem ID.len (i:ID):i.l.length = 16:=i.h
theorem ID.ext' {a b:ID} (h:a.l = b.l):a = b:=by cases a;cases b;simp at h;subst h;rfl
instance:Enc ID:=⟨16,fun i=>qd i.l,fun i=>by simp,fun i=>by simp⟩
theorem ID.cells (i:ID):Enc.cells i = qd i.l:=rfl
def ID.zero:ID:=⟨List.replicate 16 0,by simp⟩
theorem qjQ:∀ (x y:List UInt8),x.length = y.length→jx (List.replicate x.length .i) (qd x) (qd y) = some (x == y)
 | [],[],_=>rfl
 | a :: x,b :: y,h=>by
  have ih:=qjQ x y (by simpa using h);simp only [List.length_cons,List.replicate_succ,qd,List.map_cons,jx,KD];simp only [qd] at ih;rw [ih]
  have:((a.toNat:Int) == (b.toNat:Int)) = (a == b):=by
   rw [Bool.eq_iff_iff];simp only [beq_iff_eq,Int.natCast_inj];exact ⟨fun h=>UInt8.toNat_inj.1 h,fun h=>by rw [h]⟩
  simp [this]
 | [],_ :: _,h=>by simp at h
 | _ :: _,[],h=>by simp at h
theorem qbY:∀ (k1 k2:List CK) (a1 a2 b1 b2:List D),k1.length = a1.length→k1.length = b1.length→jx (k1 ++ k2) (a1 ++ a2) (b1 ++ b2) = match jx k1 a1 b1,jx k2 a2 b2 with
  | some x,some y=>some (x && y)
  | _,_=>none
 | [],k2,[],a2,[],b2,_,_=>by
  simp only [List.nil_append,jx];cases jx k2 a2 b2 <;> simp
 | k :: k1,k2,a :: a1,a2,b :: b1,b2,h1,h2=>by
  simp only [List.cons_append,jx,qbY k1 k2 a1 a2 b1 b2 (by simpa using h1) (by simpa using h2)];cases KD k a b <;> cases jx k1 a1 b1 <;> cases jx k2 a2 b2 <;> simp [Bool.and_assoc]
 | [],_,_ :: _,_,_,_,h,_=>by simp at h
 | [],_,[],_,_ :: _,_,_,h=>by simp at h
 | _ :: _,_,[],_,_,_,h,_=>by simp at h
 | _ :: _,_,_ :: _,_,[],_,_,h=>by simp at h
@[simp] theorem qaq (x y:ID):jx [.i,.i,.i,.i,.i,.i,.i,.i,.i,.i,.i,.i,.i,.i,.i,.i] (qd x.l) (qd y.l) = some (x == y):=by
 have:=qjQ x.l y.l (by simp);rw [x.h] at this
 have e:(x.l == y.l) = (x == y):=by
  rw [Bool.eq_iff_iff];simp only [beq_iff_eq];exact ⟨ID.ext',fun h=>by rw [h]⟩
 rw [e] at this;exact this
structure Mk where
 id:ID
 seq:Int
 lost:Int
 over:Int
 deriving DecidableEq
def qw (n:Int):Prop:=0≤n∧n < 18446744073709551616
structure Mk.Ok (m:Mk):Prop where
 seq:qw m.seq
 lost:qw m.lost
 over:qw m.over
def Mk.tl (m:Mk):List D:=[.int .u64 m.seq,.int .u64 m.lost,.int .u64 m.over]
instance:Enc Mk:=⟨19,fun m=>qd m.id.l ++ m.tl,fun m=>by simp [Mk.tl],fun m=>by simp [Mk.tl,idFree]⟩
theorem Mk.cells (m:Mk):Enc.cells m = qd m.id.l ++ [.int .u64 m.seq,.int .u64 m.lost,.int .u64 m.over]:=rfl
@[simp] theorem Mk.size:Enc.size Mk = 19:=rfl
@[simp] theorem ID.size:Enc.size ID = 16:=rfl
@[simp] theorem Mk.cl (a:Mk):(Enc.cells a).length = 19:=Enc.len a
@[simp] theorem Mk.ct (a:Mk) (r:List D):(Enc.cells a ++ r).take 19 = Enc.cells a:=JE rfl a r
@[simp] theorem Mk.ct' (a:Mk):(Enc.cells a).take 19 = Enc.cells a:=JD rfl a
@[simp] theorem Mk.cd (a:Mk) (r:List D):(Enc.cells a ++ r).drop 19 = r:=JF rfl a r
@[simp] theorem Mk.el (l:List Mk):(qh l).length = l.length * 19:=JA rfl l
@[simp] theorem Mk.ed (l:List Mk) (i:Nat):(qh l).drop (i * 19) = qh (l.drop i):=ZU rfl l i
@[simp] theorem Mk.et (l:List Mk) (i:Nat):(qh l).take (i * 19) = qh (l.take i):=Jq rfl l i
@[simp high] theorem Mk.ea {l:List Mk} {i:Nat} (h:i < l.length):(qh l).drop (i * 19) = Enc.cells l[i] ++ qh (l.drop (i+1)):=ZV rfl h
@[simp high] theorem Mk.es (m:Mk) {l:List Mk} {j:Nat} (h:j < l.length):qA (qh l) (j * 19) (Enc.cells m) = qh (l.set j m):=Jr rfl m l h
theorem zk {s:List UInt8} {n:Nat} (h:s.length≤n):(qd s).drop n = []:=List.drop_eq_nil_of_le (by simpa using h)
@[simp] theorem Mk.t16 (m:Mk):(Enc.cells m).take 16 = qd m.id.l:=by simp [Mk.cells]
@[simp] theorem Mk.t16' (m:Mk) (r:List D):(Enc.cells m ++ r).take 16 = qd m.id.l:=by simp [Mk.cells]
@[simp] theorem Mk.d16 (m:Mk):(Enc.cells m).drop 16 = [.int .u64 m.seq,.int .u64 m.lost,.int .u64 m.over]:=by simp [Mk.cells]
@[simp] theorem Mk.d17 (m:Mk):(Enc.cells m).drop 17 = [.int .u64 m.lost,.int .u64 m.over]:=by simp [Mk.cells,List.drop_append,zk]
@[simp] theorem Mk.d18 (m:Mk):(Enc.cells m).drop 18 = [.int .u64 m.over]:=by simp [Mk.cells,List.drop_append,zk]
@[simp] theorem Mk.d16' (m:Mk) (r:List D):(Enc.cells m ++ r).drop 16 = [.int .u64 m.seq,.int .u64 m.lost,.int .u64 m.over] ++ r:=by simp [Mk.cells]
@[simp] theorem Mk.d17' (m:Mk) (r:List D):(Enc.cells m ++ r).drop 17 = [.int .u64 m.lost,.int .u64 m.over] ++ r:=by simp [Mk.cells,List.drop_append,zk]
@[simp] theorem Mk.d18' (m:Mk) (r:List D):(Enc.cells m ++ r).drop 18 = [.int .u64 m.over] ++ r:=by simp [Mk.cells,List.drop_append,zk]
@[simp] theorem Mk.g16 (m:Mk) (h):(Enc.cells m)[16]'h = .int .u64 m.seq:=by simp [Mk.cells]
@[simp] theorem Mk.g17 (m:Mk) (h):(Enc.cells m)[17]'h = .int .u64 m.lost:=by simp [Mk.cells]
@[simp] theorem Mk.g18 (m:Mk) (h):(Enc.cells m)[18]'h = .int .u64 m.over:=by simp [Mk.cells]
@[simp] theorem Mk.s16 (m:Mk) (x:Int):qA (Enc.cells m) 16 [.int .u64 x] = Enc.cells { m with seq:=x }:=by simp [Mk.cells,List.drop_append,zk]
@[simp] theorem Mk.s17 (m:Mk) (x:Int):qA (Enc.cells m) 17 [.int .u64 x] = Enc.cells { m with lost:=x }:=by simp [Mk.cells,List.take_append,List.drop_append,zk,List.take_of_length_le]
@[simp] theorem Mk.s18 (m:Mk) (x:Int):qA (Enc.cells m) 18 [.int .u64 x] = Enc.cells { m with over:=x }:=by simp [Mk.cells,List.take_append,List.drop_append,zk,List.take_of_length_le]
theorem qv2 (x y:Mk):jx [.i,.i,.i,.i,.i,.i,.i,.i,.i,.i,.i,.i,.i,.i,.i,.i,.i,.i,.i] (Enc.cells x) (Enc.cells y) = some (x == y):=by
 have h:=qbY [.i,.i,.i,.i,.i,.i,.i,.i,.i,.i,.i,.i,.i,.i,.i,.i] [.i,.i,.i] (qd x.id.l) x.tl (qd y.id.l) y.tl (by simp) (by simp);rw [qaq] at h;have e:jx [.i,.i,.i] x.tl y.tl = some (x.seq == y.seq && (x.lost == y.lost && x.over == y.over)):=by simp [Mk.tl,jx]
 rw [e] at h
 have e2:(x == y) = (x.id == y.id && (x.seq == y.seq && (x.lost == y.lost && x.over == y.over))):=by
  rw [Bool.eq_iff_iff];cases x;cases y;simp [Mk.mk.injEq,beq_iff_eq]
 rw [e2];exact h
structure Pr where
 name:List UInt8
 value:List UInt8
 deriving DecidableEq
instance:Enc Pr:=⟨2,fun p=>[.str p.name,.str p.value],fun _=>rfl,fun _=>rfl⟩
theorem Pr.cells (p:Pr):Enc.cells p = [.str p.name,.str p.value]:=rfl
@[simp] theorem Pr.size:Enc.size Pr = 2:=rfl
@[simp] theorem Pr.cl (a:Pr):(Enc.cells a).length = 2:=Enc.len a
@[simp] theorem Pr.ct (a:Pr) (r:List D):(Enc.cells a ++ r).take 2 = Enc.cells a:=JE rfl a r
@[simp] theorem Pr.ct' (a:Pr):(Enc.cells a).take 2 = Enc.cells a:=JD rfl a
@[simp] theorem Pr.cd (a:Pr) (r:List D):(Enc.cells a ++ r).drop 2 = r:=JF rfl a r
@[simp] theorem Pr.el (l:List Pr):(qh l).length = l.length * 2:=JA rfl l
@[simp] theorem Pr.ed (l:List Pr) (i:Nat):(qh l).drop (i * 2) = qh (l.drop i):=ZU rfl l i
@[simp] theorem Pr.et (l:List Pr) (i:Nat):(qh l).take (i * 2) = qh (l.take i):=Jq rfl l i
@[simp high] theorem Pr.ea {l:List Pr} {i:Nat} (h:i < l.length):(qh l).drop (i * 2) = Enc.cells l[i] ++ qh (l.drop (i+1)):=ZV rfl h
@[simp high] theorem Pr.es (m:Pr) {l:List Pr} {j:Nat} (h:j < l.length):qA (qh l) (j * 2) (Enc.cells m) = qh (l.set j m):=Jr rfl m l h
structure Rec where
 seq:Int
 real:Int
 mono:Int
 boot:ID
 fields:Sl Pr
instance:Enc Rec:=⟨20,fun r=>[.int .u64 r.seq,.int .u64 r.real,.int .u64 r.mono] ++ (qd r.boot.l ++ [(.vsl r.fields.nil (qh r.fields.l) r.fields.l.length)]),fun r=>by simp,fun r=>by simp [idFree]⟩
theorem Rec.cells (r:Rec):Enc.cells r = [.int .u64 r.seq,.int .u64 r.real,.int .u64 r.mono] ++ (qd r.boot.l ++ [(.vsl r.fields.nil (qh r.fields.l) r.fields.l.length)]):=rfl
@[simp] theorem Rec.size:Enc.size Rec = 20:=rfl
structure Rec.Ok (r:Rec):Prop where
 seq:qw r.seq
 real:qw r.real
 mono:qw r.mono
@[simp] theorem Rec.cl (a:Rec):(Enc.cells a).length = 20:=Enc.len a
@[simp] theorem Rec.ct (a:Rec) (r:List D):(Enc.cells a ++ r).take 20 = Enc.cells a:=JE rfl a r
@[simp] theorem Rec.ct' (a:Rec):(Enc.cells a).take 20 = Enc.cells a:=JD rfl a
@[simp] theorem Rec.cd (a:Rec) (r:List D):(Enc.cells a ++ r).drop 20 = r:=JF rfl a r
@[simp] theorem Rec.el (l:List Rec):(qh l).length = l.length * 20:=JA rfl l
@[simp] theorem Rec.ed (l:List Rec) (i:Nat):(qh l).drop (i * 20) = qh (l.drop i):=ZU rfl l i
@[simp] theorem Rec.et (l:List Rec) (i:Nat):(qh l).take (i * 20) = qh (l.take i):=Jq rfl l i
@[simp high] theorem Rec.ea {l:List Rec} {i:Nat} (h:i < l.length):(qh l).drop (i * 20) = Enc.cells l[i] ++ qh (l.drop (i+1)):=ZV rfl h
@[simp high] theorem Rec.es (m:Rec) {l:List Rec} {j:Nat} (h:j < l.length):qA (qh l) (j * 20) (Enc.cells m) = qh (l.set j m):=Jr rfl m l h
structure It where
 id:ID
 gap:Bool
 fr:Int
 til:Int
 rc:Rec
instance:Enc It:=⟨39,fun i=>qd i.id.l ++ ([.bool i.gap,.int .u64 i.fr,.int .u64 i.til] ++ Enc.cells i.rc),fun i=>by simp,fun i=>by simp [idFree]⟩
theorem It.cells (i:It):Enc.cells i = qd i.id.l ++ ([.bool i.gap,.int .u64 i.fr,.int .u64 i.til] ++ ([.int .u64 i.rc.seq,.int .u64 i.rc.real,.int .u64 i.rc.mono] ++ (qd i.rc.boot.l ++ [(.vsl i.rc.fields.nil (qh i.rc.fields.l) i.rc.fields.l.length)]))):=rfl
@[simp] theorem It.size:Enc.size It = 39:=rfl
structure It.Ok (i:It):Prop where
 fr:qw i.fr
 til:qw i.til
 rc:i.rc.Ok
@[simp] theorem It.cl (a:It):(Enc.cells a).length = 39:=Enc.len a
@[simp] theorem It.ct (a:It) (r:List D):(Enc.cells a ++ r).take 39 = Enc.cells a:=JE rfl a r
@[simp] theorem It.ct' (a:It):(Enc.cells a).take 39 = Enc.cells a:=JD rfl a
@[simp] theorem It.cd (a:It) (r:List D):(Enc.cells a ++ r).drop 39 = r:=JF rfl a r
@[simp] theorem It.el (l:List It):(qh l).length = l.length * 39:=JA rfl l
@[simp] theorem It.ed (l:List It) (i:Nat):(qh l).drop (i * 39) = qh (l.drop i):=ZU rfl l i
@[simp] theorem It.et (l:List It) (i:Nat):(qh l).take (i * 39) = qh (l.take i):=Jq rfl l i
@[simp high] theorem It.ea {l:List It} {i:Nat} (h:i < l.length):(qh l).drop (i * 39) = Enc.cells l[i] ++ qh (l.drop (i+1)):=ZV rfl h
@[simp high] theorem It.es (m:It) {l:List It} {j:Nat} (h:j < l.length):qA (qh l) (j * 39) (Enc.cells m) = qh (l.set j m):=Jr rfl m l h
@[simp] theorem It.t16 (i:It):(Enc.cells i).take 16 = qd i.id.l:=by simp [It.cells]
@[simp] theorem It.t16' (i:It) (r:List D):(Enc.cells i ++ r).take 16 = qd i.id.l:=by simp [It.cells]
@[simp] theorem It.d16 (i:It):(Enc.cells i).drop 16 = .bool i.gap :: .int .u64 i.fr :: .int .u64 i.til :: .int .u64 i.rc.seq :: .int .u64 i.rc.real :: .int .u64 i.rc.mono :: (qd i.rc.boot.l ++ [(.vsl i.rc.fields.nil (qh i.rc.fields.l) i.rc.fields.l.length)]):=by simp [It.cells]
@[simp] theorem It.d17 (i:It):(Enc.cells i).drop 17 = .int .u64 i.fr :: .int .u64 i.til :: .int .u64 i.rc.seq :: .int .u64 i.rc.real :: .int .u64 i.rc.mono :: (qd i.rc.boot.l ++ [(.vsl i.rc.fields.nil (qh i.rc.fields.l) i.rc.fields.l.length)]):=by simp [It.cells,List.drop_append,zk]
@[simp] theorem It.d18 (i:It):(Enc.cells i).drop 18 = .int .u64 i.til :: .int .u64 i.rc.seq :: .int .u64 i.rc.real :: .int .u64 i.rc.mono :: (qd i.rc.boot.l ++ [(.vsl i.rc.fields.nil (qh i.rc.fields.l) i.rc.fields.l.length)]):=by simp [It.cells,List.drop_append,zk]
@[simp] theorem It.d19 (i:It):(Enc.cells i).drop 19 = .int .u64 i.rc.seq :: .int .u64 i.rc.real :: .int .u64 i.rc.mono :: (qd i.rc.boot.l ++ [(.vsl i.rc.fields.nil (qh i.rc.fields.l) i.rc.fields.l.length)]):=by simp [It.cells,List.drop_append,zk]
@[simp] theorem It.d20 (i:It):(Enc.cells i).drop 20 = .int .u64 i.rc.real :: .int .u64 i.rc.mono :: (qd i.rc.boot.l ++ [(.vsl i.rc.fields.nil (qh i.rc.fields.l) i.rc.fields.l.length)]):=by simp [It.cells,List.drop_append,zk]
@[simp] theorem It.d21 (i:It):(Enc.cells i).drop 21 = .int .u64 i.rc.mono :: (qd i.rc.boot.l ++ [(.vsl i.rc.fields.nil (qh i.rc.fields.l) i.rc.fields.l.length)]):=by simp [It.cells,List.drop_append,zk]
@[simp] theorem It.d22 (i:It):(Enc.cells i).drop 22 = qd i.rc.boot.l ++ [(.vsl i.rc.fields.nil (qh i.rc.fields.l) i.rc.fields.l.length)]:=by simp [It.cells,List.drop_append,zk]
@[simp] theorem It.d38 (i:It):(Enc.cells i).drop 38 = [(.vsl i.rc.fields.nil (qh i.rc.fields.l) i.rc.fields.l.length)]:=by simp [It.cells,List.drop_append,zk]
def leN:List UInt8→Nat
 | []=>0
 | b :: l=>b.toNat+256 * leN l
def qC:Nat→Nat→List UInt8
 | 0,_=>[]
 | n+1,v=>UInt8.ofNat (v % 256) :: qC n (v / 256)
@[simp] theorem JY:∀ (n v:Nat),(qC n v).length = n
 | 0,_=>rfl
 | n+1,v=>by simp [qC,JY n]
theorem JX:∀ (l:List UInt8),leN l < 256 ^ l.length
 | []=>by simp [leN]
 | b :: l=>by
  have h1:=JX l;have h2:=b.toNat_lt;simp only [leN,List.length_cons,Nat.pow_succ];omega
theorem qd7:∀ (n v:Nat),leN (qC n v) = v % 256 ^ n
 | 0,v=>by simp [qC,leN,Nat.mod_one]
 | n+1,v=>by
  simp only [qC,leN,qd7 n];rw [UInt8.toNat_ofNat_of_lt' (Nat.mod_lt _ (by decide)),Nat.pow_succ,Nat.mul_comm (256 ^ n) 256,Nat.mod_mul]
theorem qd9:∀ (l:List UInt8),qC l.length (leN l) = l
 | []=>rfl
 | b :: l=>by
  have h2:=b.toNat_lt;have e1:(b.toNat+256 * leN l) % 256 = b.toNat:=by omega
  have e2:(b.toNat+256 * leN l) / 256 = leN l:=by omega
  simp only [List.length_cons,leN,qC,e1,e2,qd9 l];simp
theorem qby:∀ (n v:Nat),qC (n+1) v = qC n v ++ [UInt8.ofNat (v / 256 ^ n % 256)]
 | 0,v=>by simp [qC]
 | n+1,v=>by
  rw [qC,qby n (v / 256),qC,List.cons_append,Nat.div_div_eq_div_mul,Nat.pow_succ,Nat.mul_comm 256]
theorem ZP (a b:List UInt8):qd (a ++ b) = qd a ++ qd b:=by simp [qd]
theorem VC (a:UInt8) (b:List UInt8):qd (a :: b) = .int .u8 (a.toNat:Int) :: qd b:=rfl
theorem Qy (l:List UInt8) (i:Nat):(qd l).drop i = qd (l.drop i):=by simp [qd]
theorem vK (l:List UInt8) (i:Nat):(qd l).take i = qd (l.take i):=by simp [qd]
theorem zW {l:List UInt8} {i:Nat} (h:i < l.length):(qd l).drop i = .int .u8 (l[i].toNat:Int) :: qd (l.drop (i+1)):=by
 rw [Qy,List.drop_eq_getElem_cons h,VC]
theorem qhf {l:List UInt8} {i:Nat} (h:i < (qd l).length):(qd l)[i] = .int .u8 ((l[i]'(by simpa using h)).toNat:Int):=by simp [qd]
@[simp] theorem Vz (s:List UInt8):vQ (qd s) = some s:=by
 induction s with
 | nil=>rfl
 | cons a s ih =>
  have:vQ (qd (a :: s)) = (vQ (qd s)).map fun r=>UInt8.ofNat ((a.toNat:Int)).toNat :: r:=rfl;rw [this,ih];simp
theorem qgX (x y:Nat) (h:y < 256):(x * 256) ||| y = x * 256+y:=by
 have:=Nat.shiftLeft_add_eq_or_of_lt (b:=y) (i:=8) (by simpa using h) x;rw [Nat.shiftLeft_eq] at this;simpa using this.symm
def BufE {α:Type} [Enc α] (n:Nat) (d:D) (H:qi) (l:List α):Prop:=(d = .vsl true [] 0∧l = []∧H = [])∨(d = .osl 0 (l.length * n) 0 l.length n∧H = [some (qh l)]∧l≠[])
theorem BufE.snoc {α:Type} [Enc α] {n:Nat} (l:List α) (a:α):BufE n (.osl 0 (l.length * n+n) 0 (l.length+1) n) [some (qh l ++ Enc.cells a)] (l ++ [a]) :=
 .inr ⟨by simp [Nat.add_mul],by simp [QI],by simp⟩
theorem BufE.one {α:Type} [Enc α] {n:Nat} (a:α):BufE n (.osl 0 n 0 1 n) [some (Enc.cells a)] ([] ++ [a]) :=
 .inr ⟨by simp,by simp [J9],by simp⟩
def Sl.grown {α:Type} (l:List α):Sl α:=⟨l.isEmpty,l,by simp⟩
@[simp] theorem Sl.grown_l {α:Type} (l:List α):(Sl.grown l).l = l:=rfl
def ID.mk' (l:List UInt8):ID:=if h:l.length = 16 then ⟨l,h⟩ else ID.zero
theorem ID.mk'_l {l:List UInt8} (h:l.length = 16):(ID.mk' l).l = l:=by unfold ID.mk';rw [dif_pos h]
def Za (r:List UInt8):Mk:=⟨ID.mk' (r.take 16),leN ((r.drop 16).take 8),leN ((r.drop 24).take 8),leN ((r.drop 32).take 8)⟩
def Jl (out:List Mk) (id:List UInt8):Bool:=match out.getLast? with
 | some m=>decide (0≤qt m.id.l id)
 | none=>false
def Zp:Nat→List UInt8→List Mk→List Mk × Int
 | 0,_,out=>(out,0)
 | k+1,r,out=>if r.length < 16 then ([],22) else if Jl out (r.take 16) then ([],13) else if r.length < 40 then ([],22) else Zp k (r.drop 40) (out ++ [Za r])
def jG:List UInt8→List Mk × Int
 | []=>([],22)
 | c :: r=>if 4 < c.toNat then ([],21) else Zp c.toNat r []
def readN (x:List Mk × Int):Int:=if x.2 = 0 then 1+40 * (x.1.length:Int) else 0
def Kk (P:Program) (g:TypeId→Bool):List Field→Nat→Nat→Bool
 | [],off,size=>off == size
 | f :: fs,off,size=>f.offset == off && g f.type && Kk P g fs (off+P.cellsOf f.type) size
def KK (P:Program):Nat→TypeId→Bool
 | 0,_=>false
 | n+1,t=>match P.underlying t with
  | some .bool=>true
  | some (.int _)=>true
  | some .string=>true
  | some (.slice e)=>KK P n e
  | some (.array m e)=>KK P n e && P.cellsOf t == m * P.cellsOf e
  | some (.struct fs)=>Kk P (KK P n) fs.toList 0 (P.cellsOf t)
  | _=>false
def qa0 (P:Program) (g:TypeId→List D→Prop):List Field→List D→Prop
 | [],cs=>cs = []
 | f :: fs,cs=>∃ a b,cs = a ++ b∧a.length = P.cellsOf f.type∧g f.type a∧qa0 P g fs b
def vI (P:Program):Nat→TypeId→List D→Prop
 | 0,_,_=>False
 | n+1,t,cs=>match P.underlying t with
  | some .bool=>∃ b,cs = [.bool b]
  | some (.int k)=>∃ x,cs = [.int k x]∧(Lit.int k x).wf = true
  | some .string=>∃ s,cs = [.str s]∧s.length≤maxLen
  | some (.slice e)=>cs = [.vsl true [] 0]∨∃ ls:List (List D),cs = [.vsl false ls.flatten ls.length]∧ls.length≤maxLen∧∀ l,l∈ls→l.length = P.cellsOf e∧vI P n e l
  | some (.array m e)=>∃ ls:List (List D),cs = ls.flatten∧ls.length = m∧∀ l,l∈ls→l.length = P.cellsOf e∧vI P n e l
  | some (.struct fs)=>qa0 P (vI P n) fs.toList cs
  | _=>False
attribute [irreducible] vI
theorem XW {W:World} {a:Addr} {v:Value} (h:W.cell? a = some v):a.block < W.heap.size:=by
 unfold World.cell? at h;rcases Nat.lt_or_ge a.block W.heap.size with qg | hge
 ·exact qg
 ·have:W.heap[a.block]? = none:=Array.getElem?_eq_none hge;simp [this] at h
def Ve (W:World) (ds:List D) (vs:List Value):Prop:=ds.length = vs.length∧(∀ d,d∈ds→zC d = true)∧∀ (j:Nat) d,ds[j]? = some d→Rep (· < W.heap.size) W qT [] d (vs.getD j undef)
theorem qaf {W:World} {d:D} {v:Value} (hc:zC d = true) (h:Rep (· < W.heap.size) W qT [] d v):Ve W [d] [v]:=by
 refine ⟨rfl,fun x hx=>by rw [List.mem_singleton.1 hx];exact hc,fun j x hj=>?_⟩;cases j with
 | zero=>simp at hj;subst hj;exact h
 | succ j=>simp at hj
theorem qj8 {W:World} {a b:List D} {us vs:List Value} (h1:Ve W a us) (h2:Ve W b vs):Ve W (a ++ b) (us ++ vs):=by
 refine ⟨by simp [h1.1,h2.1],fun d hd=>?_,fun j d hj=>?_⟩
 ·rcases List.mem_append.1 hd with h | h
  ·exact h1.2.1 d h
  ·exact h2.2.1 d h
 ·by_cases qg:j < a.length
  ·rw [List.getElem?_append_left qg] at hj;have:=h1.2.2 j d hj;rw [List.getD_eq_getElem?_getD] at this ⊢
   rwa [List.getElem?_append_left (by rw [← h1.1];exact qg)]
  ·rw [List.getElem?_append_right (by omega)] at hj;have:=h2.2.2 _ d hj;rw [List.getD_eq_getElem?_getD] at this ⊢;rw [List.getElem?_append_right (by rw [← h1.1];omega),← h1.1];exact this
section
variable {H:Type} {enc:TypeId × Value→H} {P:Program} {W:World}
theorem qj6 {sz:Nat} {Q:List D→Prop}:∀ (m off:Nat) (cs:List Value),cs.length = off+m * sz →
  (∀ i,i < m→∃ ds,Q ds∧Ve W ds ((cs.drop (off+i * sz)).take sz))→∃ ls:List (List D),ls.length = m∧(∀ l,l∈ls→l.length = sz∧Q l)∧Ve W ls.flatten (cs.drop off)
 | 0,off,cs,hl,_=>⟨[],rfl,by simp,by
   rw [List.drop_eq_nil_of_le (by omega)];exact ⟨rfl,by simp,by simp⟩⟩
 | m+1,off,cs,hl,h=>by
  have e1:(m+1) * sz = sz+m * sz:=by rw [Nat.add_mul,Nat.one_mul,Nat.add_comm]
  rw [e1] at hl;obtain ⟨ds,q1,q2⟩:=h 0 (by omega);rw [Nat.zero_mul,Nat.add_zero] at q2
  obtain ⟨ls,l1,l2,l3⟩:=qj6 (sz:=sz) (Q:=Q) m (off+sz) cs (by omega) (fun i hi=>by
   have:=h (i+1) (by omega);rw [Nat.add_mul,Nat.one_mul] at this;rw [show off+sz+i * sz = off+(i * sz+sz) by omega];exact this)
  have hds:ds.length = sz:=by
   rw [q2.1,List.length_take,List.length_drop];omega
  refine ⟨ds :: ls,by simp [l1],fun l hl=>?_,?_⟩
  ·rcases List.mem_cons.1 hl with rfl | hl
   ·exact ⟨hds,q1⟩
   ·exact l2 l hl
  ·rw [List.flatten_cons];have:=qj8 q2 l3;rw [← List.drop_drop,List.take_append_drop] at this;exact this
theorem qiD {g:TypeId→Bool} {Q:TypeId→List D→Prop}:∀ (fs:List Field) (off:Nat) (cs:List Value),Kk P g fs off cs.length = true →
  (∀ f,f∈fs→g f.type = true→∃ ds,Q f.type ds∧Ve W ds ((cs.drop f.offset).take (P.cellsOf f.type)))→∃ ds,qa0 P Q fs ds∧Ve W ds (cs.drop off)
 | [],off,cs,hp,_=>by
  simp only [Kk,beq_iff_eq] at hp;exact ⟨[],rfl,by rw [List.drop_eq_nil_of_le (by omega)];exact ⟨rfl,by simp,by simp⟩⟩
 | f :: fs,off,cs,hp,h=>by
  simp only [Kk,Bool.and_eq_true,beq_iff_eq] at hp;obtain ⟨⟨h1,h2⟩,h3⟩:=hp;obtain ⟨a,a1,a2⟩:=h f (List.mem_cons_self ..) h2;obtain ⟨b,b1,b2⟩:=qiD fs (off+P.cellsOf f.type) cs h3 fun f' hf=>h f' (List.mem_cons_of_mem _ hf);rw [h1] at a2;have hle:off+P.cellsOf f.type≤cs.length:=plainF_le h3;refine ⟨a ++ b,⟨a,b,rfl,?_,a1,b1⟩,?_⟩
  ·rw [a2.1,List.length_take,List.length_drop];omega
  ·have:=qj8 a2 b2
   rwa [← List.drop_drop,List.take_append_drop] at this
where plainF_le {g:TypeId→Bool}:∀ {fs:List Field} {off n:Nat},Kk P g fs off n = true→off≤n
 | [],off,n,h=>by simp only [Kk,beq_iff_eq] at h;omega
 | f :: fs,off,n,h=>by
  simp only [Kk,Bool.and_eq_true] at h;have:=plainF_le h.2;omega
theorem qfa:∀ (n fuel:Nat) (t:TypeId) (cs:List Value) (x:DataW H × List MemPlace),KK P n t = true→DataW.trod enc P W 0 (fun _=>true) true fuel t cs = some x →
  ∃ ds,vI P n t ds∧Ve W ds cs
 | 0,_,_,_,_,h,_=>by simp [KK] at h
 | n+1,fuel,t,cs,x,hp,h=>by
  have ih:=qfa n;unfold KK at hp;unfold vI;cases hu:P.underlying t with
  | none=>rw [hu] at hp;simp at hp
  | some u =>
  rw [hu] at hp;cases u with
  | bool =>
   obtain ⟨b,rfl,_⟩:=DataW.trod_bool hu h;exact ⟨_,⟨b,rfl⟩,qaf rfl (.bool _)⟩
  | int k =>
   obtain ⟨b,rfl,_,hw⟩:=DataW.trod_int hu h;exact ⟨_,⟨b,rfl,hw⟩,qaf rfl (.int _ _)⟩
  | string =>
   obtain ⟨s,rfl,_,hw⟩:=DataW.trod_string hu h;refine ⟨_,⟨s.data.toList,rfl,by simpa using hw⟩,qaf rfl ?_⟩;have:=Rep.str (ok:=(· < W.heap.size)) (w:=W) (ι:=qT) (H:=[]) s.data.toList;simpa using this
  | slice e =>
   simp only at hp ⊢;rcases DataW.trod_slice hu h with ⟨rfl,_⟩ | ⟨a,len,cap,elems,rest,m,rfl,rfl,_,_,qI,hcm,hel,qo,_⟩
   ·exact ⟨_,.inl rfl,qaf rfl .vnil⟩
   ·have hrow:∀ i,i < len→∃ ds,vI P n e ds∧ds.length = P.cellsOf e∧(∀ d,d∈ds→zC d = true)∧∀ (j:Nat) d,ds[j]? = some d→∃ v,W.cell? (a.add (i * P.cellsOf e+j)) = some v∧Rep (· < W.heap.size) W qT [] d v:=by
     intro i hi;have hg:=qo i hi;rw [List.getElem?_eq_getElem (by omega)] at hg;cases hcs:W.cells? 0 (a.add (i * P.cellsOf e)) (P.cellsOf e) with
     | none=>rw [hcs] at hg;simp at hg
     | some cs =>
      rw [hcs,Option.bind_some] at hg;obtain ⟨ds,d1,d2,d3,d4⟩:=ih m e cs _ hp hg;obtain ⟨_,c2,c3⟩:=World.cells?_some hcs;refine ⟨ds,d1,by rw [d2,c2],d3,fun j d hj=>?_⟩;have jP:j < cs.length:=(by rw [← d2];exact (List.getElem?_eq_some_iff.1 hj).1);refine ⟨cs[j],?_,?_⟩
      ·rw [← Addr.add_add,c3 j (by omega),List.getElem?_eq_getElem jP]
      ·have:=d4 j d hj
       rwa [List.getD_eq_getElem?_getD,List.getElem?_eq_getElem jP,Option.getD_some] at this
    have jE:∀ k,k≤len→∃ ls:List (List D),ls.length = k∧(∀ l,l∈ls→l.length = P.cellsOf e∧vI P n e l)∧(∀ d,d∈ls.flatten→zC d = true)∧ls.flatten.length = k * P.cellsOf e ∧
      ∀ (j:Nat) d,ls.flatten[j]? = some d→∃ v,W.cell? (a.add j) = some v∧Rep (· < W.heap.size) W qT [] d v:=by
     intro k
     induction k with
     | zero=>intro _;exact ⟨[],rfl,by simp,by simp,by simp,by simp⟩
     | succ k ihk =>
      intro hk;obtain ⟨ls,l1,l2,l3,l4,l5⟩:=ihk (by omega);obtain ⟨ds,d1,d2,d3,d4⟩:=hrow k (by omega);refine ⟨ls ++ [ds],by simp [l1],fun l hl=>?_,?_,?_,?_⟩
      ·rcases List.mem_append.1 hl with h | h
       ·exact l2 l h
       ·rw [List.mem_singleton.1 h];exact ⟨d2,d1⟩
      ·intro d hd;rw [List.flatten_append] at hd;rcases List.mem_append.1 hd with h | h
       ·exact l3 d h
       ·exact d3 d (by simpa using h)
      ·rw [List.flatten_append,List.length_append,l4,Nat.add_mul,Nat.one_mul];simp [d2]
      ·intro j d hj;rw [List.flatten_append] at hj;by_cases qg:j < ls.flatten.length
       ·rw [List.getElem?_append_left qg] at hj;exact l5 j d hj
       ·rw [List.getElem?_append_right (by omega)] at hj;rw [l4] at hj qg;have vV:ds[j - k * P.cellsOf e]? = some d:=(by simpa using hj);obtain ⟨v,v1,v2⟩:=d4 _ d vV;refine ⟨v,?_,v2⟩;rw [← v1];congr 2;omega
    obtain ⟨ls,l1,l2,l3,l4,l5⟩:=jE len (Nat.le_refl _);refine ⟨_,.inr ⟨ls,rfl,by rw [l1];omega,l2⟩,qaf rfl ?_⟩;rw [l1];refine .vsl a (fun j=>(W.cell? (a.add j)).getD undef) (fun d hd=>?_) l3 (fun j d hj=>?_) (fun j d hj=>?_) qI
    ·obtain ⟨j,hj⟩:=List.mem_iff_getElem?.1 hd;obtain ⟨v,v1,_⟩:=l5 j d hj;have:=XW v1
     rwa [Xw] at this
    ·obtain ⟨v,v1,_⟩:=l5 j d hj;rw [v1];rfl
    ·obtain ⟨v,v1,v2⟩:=l5 j d hj;rw [v1];exact v2
  | array m e =>
   simp only [Bool.and_eq_true,beq_iff_eq] at hp ⊢;obtain ⟨xs,k,rfl,_,hl,hxl,hg⟩:=DataW.trod_array hu h
   have:=qj6 (W:=W) (sz:=P.cellsOf e) (Q:=vI P n e) m 0 cs (by rw [hl,hp.2];omega) (fun i hi=>by
    rw [Nat.zero_add];have hgi:=hg i hi;rw [List.getElem?_eq_getElem (by omega)] at hgi;exact ih k e _ _ hp.1 hgi)
   obtain ⟨ls,l1,l2,l3⟩:=this;exact ⟨ls.flatten,⟨ls,rfl,l1,l2⟩,by simpa using l3⟩
  | struct fs =>
   simp only at hp ⊢;obtain ⟨xs,k,rfl,_,hl,hxl,hg⟩:=DataW.trod_struct hu h;rw [← hl] at hp
   obtain ⟨ds,d1,d2⟩:=qiD (W:=W) (Q:=vI P n) fs.toList 0 cs hp (fun f hf hgf=>by
    obtain ⟨i,hi⟩:=List.mem_iff_getElem?.1 hf;have hi':fs[i]? = some f:=(by simpa using hi);have hgi:=hg i f hi';have qg:i < xs.length:=(by rw [hxl];exact (Array.getElem?_eq_some_iff.1 hi').1);rw [List.getElem?_eq_getElem qg] at hgi;exact ih k f.type _ _ hgf hgi)
   exact ⟨ds,d1,by simpa using d2⟩
  | _=>simp at hp
theorem qnw {n:Nat} {t:TypeId} {v:Value} {d:DataW H} {ps:List MemPlace} (hp:KK P n t = true) (h:DataW.Trod enc P W 0 (fun _=>true) true t v d ps) :
  ∃ ds,vI P n t ds∧Ve W ds v.cells.toList:=by
 obtain ⟨fuel,hf⟩:=h;exact qfa n fuel t _ _ hp hf
end
end Go.Ev
namespace Go.Ev
open Go Go.Proofs Go.RowKit Go.ChangeShapes
theorem qau (a:Addr):a.add 0 = a:=by
 obtain ⟨b,o,p⟩:=a;cases p <;> simp [Addr.add]
theorem qcQ {P:Program} {W:World} {name:String} {k:IntKind} {zs:List Int} {g:Nat} (h:Lib.TabIs P W name k zs) (hg:P.globalNamed name = some g) :
  Rep (· < W.heap.size) W qT [] (.vptr (zs.map (.int k))) (.pointer (some ⟨g,0,none⟩)):=by
 have hc:∀ i,i < zs.length→W.cell? ⟨g,i,none⟩ = some (.int k (zs.getD i 0)):=fun i hi=>h.cell hg i hi;refine .vptr _ (fun j=>.int k (zs.getD j 0)) (fun d hd=>?_) (fun d hd=>?_) (fun j d hj=>?_) (fun j d hj=>?_)
 ·obtain ⟨j,hj⟩:=List.mem_iff_getElem?.1 hd
  have qg:j < zs.length:=by
   have:=(List.getElem?_eq_some_iff.1 hj).1;simpa using this
  have:=XW (hc j qg);exact this
 ·obtain ⟨z,_,rfl⟩:=List.mem_map.1 hd;rfl
 ·have qg:j < zs.length:=by
   have:=(List.getElem?_eq_some_iff.1 hj).1;simpa using this
  rw [QR,Nat.zero_add];exact hc j qg
 ·have qg:j < zs.length:=by
   have:=(List.getElem?_eq_some_iff.1 hj).1;simpa using this
  rw [List.getElem?_map,List.getElem?_eq_getElem qg,Option.map_some,Option.some.injEq] at hj;subst hj;rw [List.getD_eq_getElem?_getD,List.getElem?_eq_getElem qg,Option.getD_some];exact .int k _
theorem qgv {P:Program} {W:World} {name:String} {g:Nat} {tp:TypeId} {text:List UInt8} (hg:P.globalNamed name = some g)
  (h:∃ (a:Addr) (s:ByteArray),W.var? P name = some #[.iface tp (.pointer (some a))]∧W.cell? a = some (.string s)∧s.data.toList = text∧s.size≤maxLen) :
  Rep (· < W.heap.size) W qT [] (.vptr [.iface tp (.vptr [.str text])]) (.pointer (some ⟨g,0,none⟩)):=by
 obtain ⟨a,s,hv,hc,rfl,_⟩:=h
 have hcell:W.cell? ⟨g,0,none⟩ = some (.iface tp (.pointer (some a))):=by
  have:=World.var?_cell hg hv 0;simpa using this
 have one:∀ {d e:D} {j:Nat},[e][j]? = some d→j = 0∧d = e:=fun {d e j} hj=>by
  cases j with
  | zero=>simp at hj;exact ⟨rfl,hj.symm⟩
  | succ j=>simp at hj
 have hin:Rep (· < W.heap.size) W qT [] (.vptr [.str s.data.toList]) (.pointer (some a)):=by
  refine .vptr a (fun _=>.string s) (fun d hd=>XW hc) (fun d hd=>by rw [List.mem_singleton.1 hd];rfl) (fun j d hj=>?_) (fun j d hj=>?_)
  ·obtain ⟨rfl,rfl⟩:=one hj;rw [qau];exact hc
  ·obtain ⟨rfl,rfl⟩:=one hj;have:=Rep.str (ok:=(· < W.heap.size)) (w:=W) (ι:=qT) (H:=[]) s.data.toList;simpa using this
 refine .vptr _ (fun _=>.iface tp (.pointer (some a))) (fun d hd=>XW hcell) (fun d hd=>by rw [List.mem_singleton.1 hd];rfl) (fun j d hj=>?_) (fun j d hj=>?_)
 ·obtain ⟨rfl,rfl⟩:=one hj;rw [qau];exact hcell
 ·obtain ⟨rfl,rfl⟩:=one hj;exact .iface hin
def qlD:String:=String.ofList [Char.ofNat 42]
theorem qja {P:Program} {nm base:String} {tp:TypeId} (hs:qlD ++ base = nm)
  (hrows:((List.range P.types.size).all fun u=>P.typeName? 3 u != some nm || u == tp) = true)
  (hnamed:((List.range P.types.size).all fun e=>P.typeName? 2 e != some base || (match (P.info? e).map (·.desc) with | some (TypeDesc.named _ _)=>true | _=>false)) = true)
  (hstar:base.toList.head?≠some (Char.ofNat 42)):∀ u,P.typeName? 3 u = some nm→u = tp:=by
 subst hs;intro u hu;exact typeName_ptr_named (nm:=base) hrows hnamed hstar u hu
end Go.Ev
namespace Go.Ev
open Go Go.Proofs Go.RowKit
section
variable {X:Cx} {ok:Nat→Prop} {w w':World} {ι:qx} {H:qi}
theorem qe8 {n:Nat} (hn:n≤H.length) (hb:Below w.heap.size w w'):Evol n ok w ι H ok w' ι H where
 os:=hb.os
 tape:=hb.tape
 output:=hb.output
 size:=hb.size
 frame b qg _:=hb.block b qg
 okU _ h:=h
 okN _ h _:=.inl h
 nle:=⟨hn,hn⟩
 heap _ _ ds h:=⟨ds,h,Nat.le_refl _,fun _=>rfl⟩
 own i ds _ s h1 h2 _:=⟨i,ds,s,h1,h2⟩
theorem qkh (hs:Sim X ok w ι H) (hb:Below w.heap.size w w'):Sim X ok w' ι H:=by
 have hev:Evol H.length ok w ι H ok w' ι H:=qe8 (Nat.le_refl _) hb;refine ⟨fun b h=>Nat.lt_of_lt_of_le (hs.okS b h) hb.size,fun g cs hg=>(((hs.glob g cs hg).lift (ι:=ι) (H:=H)).evol hs hev rfl).free rfl _ _,hs.inj,fun i ds hd=>?_⟩;obtain ⟨b,arr,e,fr,q1,q2,q3,q4,q5,q6,q7,q8⟩:=hs.blk i ds hd
 have qg:b < w.heap.size:=by
  rcases Nat.lt_or_ge b w.heap.size with h | h
  ·exact h
  ·rw [Array.getElem?_eq_none h] at q3;cases q3
 exact ⟨b,arr,e,fr,q1,q2,by rw [hb.block b qg];exact q3,q4,q5,q6,q7,fun j d hj=>(q8 j d hj).evol hs hev (q8 j d hj).closed⟩
theorem Xv {f:Nat} {vs:List Value} {r:D} (hs:Sim X ok w ι H) (henter:(callFunc f vs.toArray).run X.P w = .ok (.enter f vs.toArray) w)
  (hc:Calls X.P f vs.toArray w fun e w'=>∃ v,e = .returned v∧Rep ok w' ι H r v∧Below w.heap.size w w'):Goes X.P (callFunc f vs.toArray) w (Zh X ok w ι H r H):=by
 unfold Goes;rw [henter];refine hc.mono ?_;rintro e w' ⟨v,rfl,hr,hb⟩;exact ⟨v,rfl,ι,ok,qkh hs hb,hr,qe8 (Nat.le_refl _) hb,fun i ds hi hd=>by rw [qo,List.getElem?_eq_none hi] at hd;cases hd⟩
theorem qdR {g:Nat} {k:IntKind} {m:Int} (hs:Sim X ok w ι H) (hg:X.glob g = some [.int k m]):w.cell? ⟨g,0,none⟩ = some (.int k m):=by
 have h:=hs.glob g _ hg;cases h with
 | vptr a f ha hc hr h =>
  have h1:=hr 0 (.int k m) rfl;have h2:=h 0 (.int k m) rfl;rw [qau] at h1;generalize f 0 = v at h1 h2;cases h2;exact h1
theorem qnm {W:World} {g:Nat} {k:IntKind} {m:Int} (h:W.cell? ⟨g,0,none⟩ = some (.int k m)):Rep (· < W.heap.size) W qT [] (.vptr [.int k m]) (.pointer (some ⟨g,0,none⟩)):=by
 refine .vptr _ (fun _=>.int k m) (fun d hd=>XW h) (fun d hd=>by rw [List.mem_singleton.1 hd];rfl) (fun j d hj=>?_) (fun j d hj=>?_)
 ·cases j with
  | zero=>rw [qau];exact h
  | succ j=>simp at hj
 ·cases j with
  | zero=>simp at hj;subst hj;exact .int k m
  | succ j=>simp at hj
end
class MaxL where
 m:Int
end Go.Ev
namespace Go.Ev
open Go Go.Proofs Go.RowKit Go.Shelf
def vH:Nat→Nat→List UInt8
 | 0,_=>[]
 | f+1,v=>if v < 10 then [UInt8.ofNat (48+v)] else vH f (v / 10) ++ [UInt8.ofNat (48+v % 10)]
def qz (v:Nat):List UInt8:=vH 20 v
theorem qj1:∀ {f v:Nat},v < 10 ^ f→1≤f→vH f v = Lib.decDigits v
 | f+1,v,h,_=>by
  rw [vH,Lib.decDigits];by_cases hv:v < 10
  ·rw [if_pos hv,dif_pos hv]
  ·have hf:1≤f:=by
    rcases f with _ | f
    ·simp at h;omega
    ·omega
   rw [if_neg hv,dif_neg hv,qj1 (f:=f) (by rw [Nat.pow_succ] at h;omega) hf]
theorem qjy {v:Nat} (h:v < 18446744073709551616):qz v = Lib.decDigits v:=qj1 (Nat.lt_trans h (by decide)) (by decide)
def qah:List D→qi→Option (D × qi)
 | [.int .u64 x],H=>if 0≤x∧x≤18446744073709551615 then some (.int .i64 (Lib.bitLen x.toNat),H) else none
 | _,_=>none
def qag:List D→qi→Option (D × qi)
 | [.int .i64 x],H=>if 0≤x∧x < 100 then some (.str (qz x.toNat),H) else none
 | _,_=>none
section
variable {X:Cx} {ρ:Ren} {ok:Nat→Prop} {w:World} {ι:qx} {H H':qi} {r:D} {args:List D} {vs:List Value}
theorem qgy {k:IntKind} {x:Int} (hv:RepL ok w ι H [.int k x] vs):vs = [.int k x]:=by
 obtain ⟨v,us,rfl,h1,h2⟩:=Zo hv;cases KW h2;cases h1;rfl
theorem quY (L:Lays.n129 X.P ρ) (h:qah args H = some (r,H')) (hs:Sim X ok w ι H) (hv:RepL ok w ι H args vs) :
  Goes X.P (callFunc (ρ.f 129) vs.toArray) w (Zh X ok w ι H r H'):=by
 have he:∀ args w,(callFunc (ρ.f 129) args).run X.P w = .ok (.enter (ρ.f 129) args) w:=Go.Proofs.enters_of L.f129 (by kernel_rfl) rfl;unfold qah at h;split at h
 ·rename_i x;split at h
  ·rename_i hc;injection h with h;injection h with h1 h2;subst h1;subst h2;cases qgy hv;refine Xv hs (he _ _) ((Any.bits_Len64 L x w hc.1 hc.2).mono ?_);rintro e w' ⟨rfl,rfl⟩;exact ⟨_,rfl,.int .i64 _,Below.refl _ _⟩
  ·cases h
 ·cases h
theorem quX (L:Lays.n283 X.P ρ) (h:qag args H = some (r,H')) (hs:Sim X ok w ι H) (hv:RepL ok w ι H args vs) :
  Goes X.P (callFunc (ρ.f 283) vs.toArray) w (Zh X ok w ι H r H'):=by
 have he:∀ args w,(callFunc (ρ.f 283) args).run X.P w = .ok (.enter (ρ.f 283) args) w:=Go.Proofs.enters_of L.f283 (by kernel_rfl) rfl;unfold qag at h;split at h
 ·rename_i x;split at h
  ·rename_i hc;injection h with h;injection h with h1 h2;subst h1;subst h2;cases qgy hv;have hx:x = ((x.toNat:Nat):Int):=(by omega);have:=Any.internal_strconv_small L x.toNat (by omega) w;rw [← hx] at this;refine Xv hs (he _ _) (this.mono ?_);rintro e w' ⟨rfl,rfl⟩;rw [qjy (by omega)];exact ⟨_,rfl,.str _,Below.refl _ _⟩
  ·cases h
 ·cases h
end
end Go.Ev
namespace Go.Ev
open Go Go.Proofs Go.RowKit Go.Shelf
def zT (sub:List UInt8):List UInt8→Nat→Int
 | [],n=>if sub.isEmpty then n else -1
 | b :: l,n=>if sub.isPrefixOf (b :: l) then n else zT sub l (n+1)
theorem qhY (sub:List UInt8):∀ (l:List UInt8) (n:Nat),zT sub l n = if Lib.index l sub = -1 then -1 else Lib.index l sub+n
 | [],n=>by
  simp only [zT,Lib.index];by_cases h:sub.isEmpty = true <;> simp [h]
 | b :: l,n=>by
  have hg:=Lib.index_ge l sub;simp only [zT,Lib.index,qhY sub l (n+1)];by_cases hp:sub.isPrefixOf (b :: l) = true
  ·simp [hp]
  ·by_cases h:Lib.index l sub = -1
   ·simp [h,hp]
   ·have h2:¬ Lib.index l sub+1 = -1:=(by omega);simp only [beq_iff_eq,h,h2,hp,if_false,Bool.false_eq_true];omega
theorem qdG (sub l:List UInt8):Lib.index l sub = zT sub l 0:=by
 rw [qhY];split
 ·assumption
 ·simp
def qai:List D→qi→Option (D × qi)
 | [.str s,.str sub],H=>if s.length < 4294967281 then some (.int .i64 (zT sub s 0),H) else none
 | _,_=>none
def qal:List D→qi→Option (D × qi)
 | [.str s],H=>if s.length≤281474976710656 then some (.str s,H) else none
 | _,_=>none
section
variable {X:Cx} {ρ:Ren} {ok:Nat→Prop} {w:World} {ι:qx} {H H':qi} {r:D} {args:List D} {vs:List Value}
theorem qgx {s:List UInt8} (hv:RepL ok w ι H [.str s] vs):vs = [.string ⟨s.toArray⟩]:=by
 obtain ⟨v,us,rfl,h1,h2⟩:=Zo hv;cases KW h2;cases h1;rfl
theorem qgw {s t:List UInt8} (hv:RepL ok w ι H [.str s,.str t] vs):vs = [.string ⟨s.toArray⟩,.string ⟨t.toArray⟩]:=by
 obtain ⟨v,us,rfl,h1,h2⟩:=Zo hv;cases qgx h2;cases h1;rfl
theorem quZ {m:Int} (L:Lays.n219 X.P ρ) (hg:X.glob (ρ.g 1) = some [.int .i64 m]) (h:qai args H = some (r,H')) (hs:Sim X ok w ι H) (hv:RepL ok w ι H args vs) :
  Goes X.P (callFunc (ρ.f 219) vs.toArray) w (Zh X ok w ι H r H'):=by
 have he:∀ args w,(callFunc (ρ.f 219) args).run X.P w = .ok (.enter (ρ.f 219) args) w:=Go.Proofs.enters_of L.f219 (by kernel_rfl) rfl;unfold qai at h;split at h
 ·rename_i s sub;split at h
  ·rename_i qZ;injection h with h;injection h with h1 h2;subst h1;subst h2;cases qgw hv;refine Xv hs (he _ _) ((Any.stringslite_Index L ⟨s.toArray⟩ ⟨sub.toArray⟩ m w (by simpa [ByteArray.size] using qZ) (qdR hs hg)).mono ?_);rintro e w' ⟨rfl,rfl⟩;refine ⟨_,rfl,?_,Below.refl _ _⟩;rw [qdG];exact .int .i64 _
  ·cases h
 ·cases h
theorem qvc (L:LaysM.n316 X.P ρ) (h:qal args H = some (r,H')) (hs:Sim X ok w ι H) (hv:RepL ok w ι H args vs) :
  Goes X.P (callFunc (ρ.f 316) vs.toArray) w (Zh X ok w ι H r H'):=by
 have he:∀ args w,(callFunc (ρ.f 316) args).run X.P w = .ok (.enter (ρ.f 316) args) w:=Go.Proofs.enters_of L.f316 (by kernel_rfl) rfl;unfold qal at h;split at h
 ·rename_i s;split at h
  ·rename_i qZ;injection h with h;injection h with h1 h2;subst h1;subst h2;cases qgx hv;refine Xv hs (he _ _) ((Any.stringslite_Clone L ⟨s.toArray⟩ w (by simpa [ByteArray.size] using qZ)).mono ?_);rintro e w' ⟨rfl,hb⟩;exact ⟨_,rfl,.str s,hb⟩
  ·cases h
 ·cases h
end
end Go.Ev
namespace Go.Ev
open Go Go.Proofs Go.RowKit Go.Shelf
def qP (c:UInt8):List UInt8→Nat→Int
 | [],_=>-1
 | b :: l,n=>if b = c then n else qP c l (n+1)
theorem qia (c:UInt8):∀ (l:List UInt8) (n:Nat),qP c l n = if Lib.indexByte l c = -1 then -1 else Lib.indexByte l c+n
 | [],n=>by simp [qP,Lib.indexByte]
 | b :: l,n=>by
  have hg:=Lib.indexByte_ge l c;simp only [qP,Lib.indexByte,qia c l (n+1)];by_cases hp:b = c
  ·simp [hp]
  ·by_cases h:Lib.indexByte l c = -1
   ·simp [h,hp]
   ·have h2:¬ Lib.indexByte l c+1 = -1:=(by omega);simp only [beq_iff_eq,h,h2,hp,if_false];omega
theorem qsT (c:UInt8) (l:List UInt8):Lib.indexByte l c = qP c l 0:=by
 rw [qia];split
 ·assumption
 ·simp
def XJ:List D→Option D
 | [.str s,.int .u8 c]=>some (.int .i64 (qP (UInt8.ofNat c.toNat) s 0))
 | _=>none
section
variable {X:Cx} {ρ:Ren} {ok:Nat→Prop} {w:World} {ι:qx} {H H':qi} {r:D} {args:List D} {vs:List Value}
theorem qnn {s:List UInt8} {k:IntKind} {c:Int} (hv:RepL ok w ι H [.str s,.int k c] vs):vs = [.string ⟨s.toArray⟩,.int k c]:=by
 obtain ⟨v,us,rfl,h1,h2⟩:=Zo hv;obtain ⟨v2,us2,rfl,h3,h4⟩:=Zo h2;cases KW h4;cases h1;cases h3;rfl
theorem qsU {P : Program} {f : Nat} {fn : Func} (hf : P.funcs[f]? = some fn) (hn : fn.body = none) (hng : (fn.name == "runtime.NumGoroutine") = false)
  (h1:Extern.findNext fn = none) (h2:Extern.find fn = some Extern.BytealgIndexByte.indexByte) {d:D}
  (h:XJ args = some d) (hv:RepL ok w ι H args vs):∃ v,(callFunc f vs.toArray).run P w = .ok (.value v) w∧Rep ok w ι H d v∧idFree d = true:=by
 unfold XJ at h;split at h
 ·rename_i s c;injection h with h;subst h;cases qnn hv;refine ⟨.int .i64 (qP (UInt8.ofNat c.toNat) s 0),?_,.int _ _,rfl⟩;rw [run_callFunc_extern hf hng (by rw [hn];rfl) h1 h2,Lib.run_indexByteString,qsT];rfl
 ·cases h
end
end Go.Ev
namespace Go.Ev
open Go Go.Proofs Go.RowKit
class TxtC where
 t:Nat→List D→qi→Option (D × qi)
def Cx.add (X:Cx) (T:Nat) (t:List D→qi→Option (D × qi)):Cx :=
 { X with con:=fun f=>if f = T then t else X.con f,bad:=fun f=>if f = T then true else X.bad f }
section
variable {X:Cx} {T:Nat} {t:List D→qi→Option (D × qi)}
end
end Go.Ev
namespace Go.Ev
open Go Go.Proofs Go.RowKit Go.Shelf
def ZK:List D→Option (List UInt8)
 | []=>some []
 | .int .u8 n :: l=>if 0≤n∧n < 256 then (ZK l).map fun r=>UInt8.ofNat n.toNat :: r else none
 | _=>none
@[simp] theorem qcc:∀ (s:List UInt8),ZK (qd s) = some s
 | []=>rfl
 | b :: s=>by
  have h:=b.toNat_lt;have:ZK (qd (b :: s)) = if (0:Int)≤(b.toNat:Int)∧(b.toNat:Int) < 256 then (ZK (qd s)).map fun r=>UInt8.ofNat (b.toNat:Int).toNat :: r else none:=rfl;rw [this,qcc s,if_pos (by omega)];simp
theorem qas:∀ {ds:List D} {s:List UInt8},ZK ds = some s→ds = qd s
 | [],s,h=>by simp [ZK] at h;subst h;rfl
 | d :: l,s,h=>by
  unfold ZK at h;split at h
  ·rename_i e;cases e
  ·rename_i n l' e;cases e;split at h
   ·rename_i hn;cases hr:ZK l with
    | none=>rw [hr] at h;simp at h
    | some r =>
     rw [hr] at h;simp only [Option.map_some,Option.some.injEq] at h;subst h;rw [qas hr];simp only [qd,List.map_cons,List.cons.injEq,D.int.injEq,true_and,and_true];rw [UInt8.toNat_ofNat_of_lt' (by simp;omega)];omega
   ·cases h
  ·cases h
def XR:List D→qi→Option (D × qi)
 | [.vsl _ ds l,.vsl false es k],H=>match ZK ds,ZK es with
  | some s,some t=>if s.length = l∧t.length = k∧1≤k∧l < 4294967281∧k < 4294967281 then some (.int .i64 (zT t s 0),H) else none
  | _,_=>none
 | _,_=>none
section
variable {X:Cx} {ρ:Ren} {ok:Nat→Prop} {w:World} {ι:qx} {H H':qi} {r:D} {args:List D} {vs:List Value}
theorem qjW (s:List UInt8):Lib.bytesOf (s.map fun b=>(b.toNat:Int)) = s:=by
 simp [Lib.bytesOf,List.map_map,Function.comp_def]
theorem qeS {a:Addr} {s:List UInt8} {l c:Nat} (h:Rep ok w ι H (.vsl false (qd s) l) (.slice (some a) l c)) :
  (∀ i,i < s.length→w.cell? (a.add i) = some (.int .u8 ((s.map fun b=>(b.toNat:Int)).getD i 0)))∧l≤c:=by
 cases h with
 | vsl a f ha hc hr h qI =>
  refine ⟨fun i hi=>?_,qI⟩;have hj:(qd s)[i]? = some (.int .u8 (s[i].toNat:Int)):=by simp [qd,hi]
  have h1:=hr i _ hj;have h2:=h i _ hj;rw [h1];generalize f i = v at h2;cases h2;simp [List.getD_eq_getElem?_getD,hi]
theorem qhP (s:List UInt8):∀ x∈s.map (fun b=>(b.toNat:Int)),0≤x∧x < 256:=by
 intro x hx;obtain ⟨b,_,rfl⟩:=List.mem_map.1 hx;have:=b.toNat_lt;omega
theorem qvd {m:Int} (L:Lays.n185 X.P ρ) (hg:X.glob (ρ.g 1) = some [.int .i64 m]) (h:XR args H = some (r,H')) (hs:Sim X ok w ι H) (hv:RepL ok w ι H args vs) :
  Goes X.P (callFunc (ρ.f 185) vs.toArray) w (Zh X ok w ι H r H'):=by
 have he:∀ args w,(callFunc (ρ.f 185) args).run X.P w = .ok (.enter (ρ.f 185) args) w:=Go.Proofs.enters_of L.f185 (by kernel_rfl) rfl;unfold XR at h;split at h
 ·rename_i nil ds l es k;split at h
  ·rename_i s t hs1 ht1;split at h
   ·rename_i hc;obtain ⟨rfl,rfl,h2,h3,h4⟩:=hc;injection h with h;injection h with e1 e2;subst e1;subst e2;obtain rfl:=qas hs1;obtain rfl:=qas ht1;obtain ⟨v1,us,rfl,r1,hv⟩:=Zo hv;obtain ⟨v2,us,rfl,r2,hv⟩:=Zo hv;cases KW hv;obtain ⟨a2,c2,rfl⟩:∃ a c,v2 = .slice (some a) t.length c:=by cases r2;exact ⟨_,_,rfl⟩
    obtain ⟨q2,_⟩:=qeS r2;have hrep:∀ w':World,Rep ok w' ι H (.int .i64 (zT t s 0)) (.int .i64 (zT t s 0)):=fun w'=>.int .i64 _;cases nil with
    | true =>
     obtain ⟨rfl,rfl⟩:s = []∧v1 = .slice none 0 0:=by
      generalize hds:qd s = ds at r1;generalize s.length = n at r1;cases r1;exact ⟨by cases s <;> simp [qd] at hds ⊢,rfl⟩
     refine Xv hs (he _ _) ((Any.bytes_Index_nil L (some a2) t.length c2 w (by omega) (fun h=>?_)).mono ?_)
     ·have h0:=q2 0 (by omega);have e2:a2 = ⟨a2.block,a2.off,none⟩:=Lib.plain_of_cell (by simpa [Addr.add] using h0);refine ⟨a2.block,a2.off,(t.map fun b=>(b.toNat:Int)).getD 0 0,congrArg some e2,?_⟩;rw [qau,e2] at h0;exact h0
     rintro e w' ⟨rfl,rfl⟩;refine ⟨_,rfl,?_,Below.refl _ _⟩;have h0:¬ t.length = 0:=(by omega);have ht:t.isEmpty = false:=(by cases t <;> simp at h0 ⊢);rw [if_neg h0];have:=hrep w';simpa [zT,ht] using this
    | false =>
     obtain ⟨a1,c1,rfl⟩:∃ a c,v1 = .slice (some a) s.length c:=by cases r1;exact ⟨_,_,rfl⟩
     obtain ⟨q1,hcap⟩:=qeS r1;refine Xv hs (he _ _) ((Any.bytes_Index_at L a1 a2 s.length c1 t.length c2 (s.map fun b=>(b.toNat:Int)) (t.map fun b=>(b.toNat:Int)) m w (by simp) (by simp) (qhP s) (qhP t) q1 q2 hcap h3 (by omega) (qdR hs hg)).mono ?_);rintro e w' ⟨rfl,q,rfl⟩;refine ⟨_,rfl,?_,below_drewN (Below.refl _ _) q⟩;rw [qjW,qjW,qdG];exact hrep _
   ·cases h
  ·cases h
 ·cases h
end
end Go.Ev
namespace Go.Ev
open Go Go.Proofs Go.RowKit Go.Shelf
def KN:List D:=(List.range 256).map fun c=>.int .u8 (Lib.firstT c)
def u8acc:List D:=(List.range 16).flatMap fun i=>[.int .u8 (Lib.accLo i),.int .u8 (Lib.accHi i)]
theorem qgu {W:World} {g:Nat} {ds:List D} {z:Nat→Int} (hd:∀ (j:Nat) (d:D),ds[j]? = some d→d = .int .u8 (z j)) (hc:∀ j,j < ds.length→W.cell? ⟨g,j,none⟩ = some (.int .u8 (z j))):Rep (· < W.heap.size) W qT [] (.vptr ds) (.pointer (some ⟨g,0,none⟩)):=by
 refine .vptr _ (fun j=>.int .u8 (z j)) (fun d hm=>?_) (fun d hm=>?_) (fun j d hj=>?_) (fun j d hj=>?_)
 ·obtain ⟨j,hj⟩:=List.mem_iff_getElem?.1 hm;have:=XW (hc j (List.getElem?_eq_some_iff.1 hj).1);exact this
 ·obtain ⟨j,hj⟩:=List.mem_iff_getElem?.1 hm;rw [hd j d hj];rfl
 ·rw [QR,Nat.zero_add];exact hc j (List.getElem?_eq_some_iff.1 hj).1
 ·rw [hd j d hj];exact .int .u8 _
theorem qiJ {α:Type} (f g:Nat→α):∀ (n k:Nat) (j:Nat) (d:α),((List.range' k n).flatMap fun i=>[f i,g i])[j]? = some d→d = if j % 2 = 0 then f (k+j / 2) else g (k+j / 2)
 | 0,k,j,d,h=>by simp at h
 | n+1,k,0,d,h=>by simp [List.range'_succ] at h;simp [h]
 | n+1,k,1,d,h=>by simp [List.range'_succ] at h;simp [h]
 | n+1,k,j+2,d,h=>by
  simp only [List.range'_succ,List.flatMap_cons,List.cons_append,List.nil_append,List.getElem?_cons_succ] at h;have:=qiJ f g n (k+1) j d h;rw [this];have e1:(j+2) % 2 = j % 2:=by omega
  have e2:k+(j+2) / 2 = k+1+j / 2:=by omega
  rw [e1,e2]
theorem qnl {W:World} {g3 g4:Nat} (h:Lib.Utf8Tabs g3 g4 W):Rep (· < W.heap.size) W qT [] (.vptr KN) (.pointer (some ⟨g3,0,none⟩))∧Rep (· < W.heap.size) W qT [] (.vptr u8acc) (.pointer (some ⟨g4,0,none⟩)):=by
 obtain ⟨h1,h2⟩:=h;constructor
 ·refine qgu (z:=fun j=>(Lib.firstT j:Int)) (fun j d hj=>?_) fun j hj=>h1 j (by simpa [KN] using hj);simp only [KN,List.getElem?_map,Option.map_eq_some_iff] at hj;obtain ⟨a,ha,rfl⟩:=hj;rw [List.getElem?_range (by have:=(List.getElem?_eq_some_iff.1 ha).1;simpa using this)] at ha;cases ha;rfl
 ·refine qgu (z:=fun j=>if j % 2 = 0 then (Lib.accLo (j / 2):Int) else Lib.accHi (j / 2)) (fun j d hj=>?_) fun j hj=>?_
  ·have:=qiJ (fun i=>D.int .u8 (Lib.accLo i)) (fun i=>D.int .u8 (Lib.accHi i)) 16 0 j d (by rw [← List.range_eq_range'];exact hj);rw [this,Nat.zero_add];split <;> rfl
  ·have hl:u8acc.length = 32:=rfl;have vV:j < 32:=(by rw [← hl];exact hj);obtain ⟨a,b⟩:=h2 (j / 2) (by omega);by_cases he:j % 2 = 0
   ·have e:j = 2 * (j / 2):=(by omega);rw [if_pos he];rw [← e] at a;exact a
   ·have e:j = 2 * (j / 2)+1:=(by omega);rw [if_neg he];rw [← e] at b;exact b
theorem qkU {X:Cx} {ok:Nat→Prop} {w:World} {ι:qx} {H:qi} {g3 g4:Nat} (hs:Sim X ok w ι H) (h3:X.glob g3 = some KN) (h4:X.glob g4 = some u8acc):Lib.Utf8Tabs g3 g4 w:=by
 have get:∀ {g:Nat} {ds:List D},X.glob g = some ds→∀ (j:Nat) (z:Int),ds[j]? = some (.int .u8 z)→w.cell? ⟨g,j,none⟩ = some (.int .u8 z):=by
  intro g ds hg j z hj;have h:=hs.glob g ds hg;cases h with
  | vptr a f ha hc hr h =>
   have h1:=hr j _ hj;have h2:=h j _ hj;rw [QR,Nat.zero_add] at h1;generalize f j = v at h1 h2;cases h2;exact h1
 refine ⟨fun c hc=>get h3 c _ (by simp [KN,List.getElem?_map,List.getElem?_range hc]),fun i hi=>?_⟩
 have jE:∀ i:Nat,i < 16→u8acc[2 * i]? = some (.int .u8 (Lib.accLo i))∧u8acc[2 * i+1]? = some (.int .u8 (Lib.accHi i)):=by
  intro i hi
  match i,hi with
  | 0,_ | 1,_ | 2,_ | 3,_ | 4,_ | 5,_ | 6,_ | 7,_ | 8,_ | 9,_ | 10,_ | 11,_ | 12,_ | 13,_ | 14,_ | 15,_=>exact ⟨rfl,rfl⟩
  | i+16,h=>omega
 obtain ⟨a,b⟩:=jE i hi;exact ⟨get h4 _ _ a,get h4 _ _ b⟩
def qaG:List D→Nat→Option (List UInt8)
 | ds,n=>match ZK ds with
  | some s=>if n≤s.length∧1≤n then some (s.take n) else none
  | none=>none
def qak:List D→qi→Option (D × qi)
 | [.vsl false ds n],H=>match qaG ds n with
  | some s=>some (.tup [.int .i32 (Lib.decodeGo ⟨s.toArray⟩).1,.int .i64 (Lib.decodeGo ⟨s.toArray⟩).2],H)
  | none=>none
 | _,_=>none
section
variable {X:Cx} {ρ:Ren} {ok:Nat→Prop} {w:World} {ι:qx} {H H':qi} {r:D} {args:List D} {vs:List Value}
theorem qlJ {ds:List D} {n:Nat} {s:List UInt8} (h:qaG ds n = some s):∃ t:List UInt8,ds = qd t∧n≤t.length∧1≤n∧s = t.take n:=by
 unfold qaG at h;simp only at h;cases hr:ZK ds with
 | none=>rw [hr] at h;cases h
 | some t =>
  rw [hr] at h;simp only at h;by_cases hc:n≤t.length∧1≤n
  ·rw [if_pos hc] at h;injection h with h;exact ⟨t,qas hr,hc.1,hc.2,h.symm⟩
  ·rw [if_neg hc] at h;cases h
theorem qlI {a:Addr} {t:List UInt8} {n c:Nat} (h:Rep ok w ι H (.vsl false (qd t) n) (.slice (some a) n c)) (hn:n≤t.length) (h1:1≤n):a = ⟨a.block,a.off,none⟩∧(∀ j,j < n→w.cell? ⟨a.block,a.off+j,none⟩ = some (.int .u8 ((⟨(t.take n).toArray⟩:ByteArray).get! j).toNat))∧ok a.block:=by
 cases h with
 | vsl a f ha hc hr h qI =>
  have hc':∀ (j:Nat) (hj:j < t.length),w.cell? (a.add j) = some (.int .u8 (t[j].toNat:Int)):=by
   intro j hj;have vV:(qd t)[j]? = some (.int .u8 (t[j].toNat:Int)):=(by simp [qd,hj]);have h1:=hr j _ vV;have h2:=h j _ vV;rw [h1];generalize f j = v at h2;cases h2;rfl
  have h0:=hc' 0 (by omega);have e2:a = ⟨a.block,a.off,none⟩:=Lib.plain_of_cell (by simpa [Addr.add] using h0);refine ⟨e2,fun j hj=>?_,?_⟩
  ·have:=hc' j (by omega);rw [e2,QR] at this;rw [this];have qU:j < (⟨(t.take n).toArray⟩:ByteArray).size:=by rw [JG];simp;omega
   have:(⟨(t.take n).toArray⟩:ByteArray).get! j = t[j]:=by
    rw [Utf8W.get!_of_lt _ j qU];show (t.take n).toArray[j] = _;simp
   rw [this]
  ·exact ha (.int .u8 (t[0].toNat:Int)) (by
    refine List.mem_iff_getElem?.2 ⟨0,?_⟩;have h0:0 < t.length:=(by omega);simp [qd,h0])
theorem qvb (L:Lays7.n32 X.P ρ) (h3:X.glob (ρ.g 2) = some KN) (h4:X.glob (ρ.g 3) = some u8acc) (h:qak args H = some (r,H')) (hs:Sim X ok w ι H) (hv:RepL ok w ι H args vs) :
  Goes X.P (callFunc (ρ.f 32) vs.toArray) w (Zh X ok w ι H r H'):=by
 have he:∀ args w,(callFunc (ρ.f 32) args).run X.P w = .ok (.enter (ρ.f 32) args) w:=Go.Proofs.enters_of L.f32 (by kernel_rfl) rfl;unfold qak at h;split at h
 ·rename_i ds n;split at h
  ·rename_i s hsb;obtain ⟨t,rfl,hn,h1,rfl⟩:=qlJ hsb;injection h with h;injection h with e1 e2;subst e1;subst e2;obtain ⟨v1,us,rfl,r1,hv⟩:=Zo hv;cases KW hv;obtain ⟨a1,c1,rfl⟩:∃ a c,v1 = .slice (some a) n c:=by cases r1;exact ⟨_,_,rfl⟩
   obtain ⟨q1,q2,_⟩:=qlI r1 hn h1;have qU:(⟨(t.take n).toArray⟩:ByteArray).size = n:=(by rw [JG];simp;omega);have hc:=Any7.utf8_DecodeRune L ⟨(t.take n).toArray⟩ a1.block a1.off c1 w (qkU hs h3 h4) (fun j hj=>q2 j (by rw [qU] at hj;exact hj));rw [qU,← q1] at hc;refine Xv hs (he _ _) (hc.mono ?_);rintro e w' ⟨rfl,hb⟩;refine ⟨_,rfl,?_,hb⟩;refine .tup rfl fun j d hj=>?_
   match j,hj with
   | 0,hj=>simp at hj;subst hj;exact .int .i32 _
   | 1,hj=>simp at hj;subst hj;exact .int .i64 _
   | j+2,hj=>simp at hj
  ·cases h
 ·cases h
end
end Go.Ev
namespace Go.Ev
open Go Go.Proofs Go.RowKit Go.Shelf
def qaj (m:Int):List D→qi→Option (D × qi)
 | [.str s,.str sub],H=>if s.length < sub.length∧2≤sub.length∧(sub.length:Int)≤m∧s.length < 1000000 then some (.int .i64 (-1),H) else none
 | _,_=>none
section
variable {X:Cx} {ρ:Ren} {ok:Nat→Prop} {w:World} {ι:qx} {H H':qi} {r:D} {args:List D} {vs:List Value}
theorem qhX {sub:List UInt8}:∀ {s:List UInt8} {n:Nat},s.length < sub.length→zT sub s n = -1
 | [],n,h=>by
  unfold zT;cases sub with
  | nil=>simp at h
  | cons=>rfl
 | b :: l,n,h=>by
  unfold zT
  have hp:sub.isPrefixOf (b :: l) = false:=by
   cases hp:sub.isPrefixOf (b :: l) with
   | false=>rfl
   | true =>
    have:=(List.isPrefixOf_iff_prefix.1 hp).length_le;omega
  rw [hp];simp only [Bool.false_eq_true,if_false];exact qhX (by simp at h;omega)
theorem qva {m : Int} {f g : Nat} {fn : Func} (hf : X.P.funcs[f]? = some fn) (hn : fn.body = none) (hng : (fn.name == "runtime.NumGoroutine") = false)
  (h1 : Extern.findNext fn = none) (h2 : Extern.find fn = some Extern.BytealgIndex.index) (hgi : X.P.globals.findIdx? (·.name == "internal/bytealg.MaxLen") = some g) (hg : X.glob g = some [.int .i64 m])
  (h:qaj m args H = some (r,H')) (hs:Sim X ok w ι H) (hv:RepL ok w ι H args vs):Goes X.P (callFunc f vs.toArray) w (Zh X ok w ι H r H'):=by
 unfold qaj at h;split at h
 ·rename_i s sub;split at h
  ·rename_i hc;injection h with h;injection h with e1 e2;subst e1;subst e2;cases qgw hv;have hr:=Lib.run_indexString (P:=X.P) ⟨s.toArray⟩ ⟨sub.toArray⟩ w g m hgi (qdR hs hg) (by simpa [ByteArray.size] using hc.2.1) (by simpa [ByteArray.size] using hc.2.2.1) (by simp [ByteArray.size];omega);refine Goes.value (v:=.int .i64 (-1)) (w':=w) ?_ ⟨ι,ok,hs,.int _ _,.refl _ (Nat.le_refl _),fun i ds hi hd=>by rw [qo,List.getElem?_eq_none hi] at hd;cases hd⟩;rw [run_callFunc_extern hf hng (by rw [hn];rfl) h1 h2];show ((Extern.BytealgIndex.index #[.string ⟨s.toArray⟩,.string ⟨sub.toArray⟩]).run X.P w).andThen _ = _;rw [hr,qdG,qhX hc.1];rfl
  ·cases h
 ·cases h
end
end Go.Ev
