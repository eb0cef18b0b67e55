import Derived.Test.YtjjofhpbbndccaaGreatDoorC2
import Derived.ProofKit
import Derived.OpenShut
import Derived.Below
import Derived.WideKeyArgs
import Derived.Carry
import Derived.ChangeSame
import Derived.ChangeSlices
import Derived.DataReads
import Derived.DataElems
import Derived.ChangeArms
import Derived.Lib.LaidTab
import Derived.Stop.LaidErr
import Derived.LaidMore
import Derived.Shelf.Strconv.Itoa1
import Derived.Shelf.Strings.Search2
import Derived.Shelf.Strconv.Clone
import Derived.WalkSmall
import Derived.Shelf.Strings.Repeat
import Derived.Lib.Bytealg
import Derived.Shelf.SortG.Plain
import Derived.Shelf.SortG.SortNone
import Derived.Sort.OwnSorted
namespace Go.Ev
open Go Go.Proofs Go.ChangeShapes Go.WideShapes Go.ChangeAt Go.RowKit
theorem qnw {H:Type} {enc:TypeId × Value→H} {P:Program} {f:Func} {s:ChangeSpec} {apart fresh handsOn again:Bool} {W W':World} {args:Array Value} {v:Value} {ds gs:List (DataW H)} {before pa pv:List MemPlace}
  (hW:DataW.Whole enc P f.params.toList s.vars apart W args.toList ds gs before)
  (hres:∀ (b:Nat) (sp:Nat→Bool) (hd:Bool),DataW.TrodAll enc P W' b sp hd f.resultTypes.toList (v.resultList f.resultTypes.size) (s.fn H (ds ++ gs)).results [])
  (XN:∀ sp:Nat→Bool,(∀ p∈before,sp p.block = true)→DataW.TrodAll enc P W' 0 sp true f.params.toList args.toList (s.fn H (ds ++ gs)).args pa)
  (hvars:∀ sp:Nat→Bool,(∀ p∈before,sp p.block = true)→DataW.TrodVars enc P W' sp s.vars (s.fn H (ds ++ gs)).vars pv)
  (KL:before = pa ++ pv) (hb:Below W.heap.size W W')
  (hok:∀ (j:Nat) (t:TypeId) (r:Value),f.resultTypes[j]? = some t→(v.resultList f.resultTypes.size)[j]? = some r→Value.okWide P W' .any 0 t r) :
  s.post enc P f apart fresh handsOn again W args v W':=by
 have qi:∀ p∈before,p.block < W.heap.size:=fun p hp=>hW.lt p hp;have hold:∀ p∈before,(fun b=>decide (b < W.heap.size)) p.block = true:=fun p hp=>by simpa using qi p hp
 refine ⟨ds,gs,before,[],pa,pv,hW,hres _ _ _,XN _ hold,hvars _ hold,World.keptBut_mono (fun p hp=>⟨hp,?_⟩) (hb.frame (·∈before)),fun _=>?_⟩
 ·rw [KL,ji] at hp;exact Or.inr hp
 ·obtain ⟨_,_,_,_,_,hz,hn⟩:=hW;refine ⟨hok,_,_,([] ++ pa) ++ pv,⟨[] ++ pa,pv,trodAll_append (XN _ (fun _ _=>rfl)) (hres _ _ _),hvars _ (fun _ _=>rfl),rfl,?_,?_⟩,?_⟩
  ·intro b off hp;have Vl:MemPlace.cell b off∈before:=(by rw [KL];simpa using hp);rw [hb.frozen (qi _ Vl)];exact hz b off Vl
  ·intro ha;have:=hn ha;rw [KL] at this;simpa using this
  ·intro p hp _;rw [KL];simpa using hp
theorem qgE {H:Type} {enc:TypeId × Value→H} {P:Program} (hl:laidOutB P = true) {W W':World} {sp:Nat→Bool} (hb:Below W.heap.size W W') :
  ∀ {ts:List TypeId} {vs:List Value} {ds:List (DataW H)} {ps:List MemPlace},(ts.all fun t=>P.readableRec t && decide (t < P.types.size)) = true →
   DataW.TrodAll enc P W 0 (fun _=>true) true ts vs ds ps→(∀ p∈ps,p.block < W.heap.size)→(∀ p∈ps,sp p.block = true)→DataW.TrodAll enc P W' 0 sp true ts vs ds ps
 | [],[],[],_,_,h,_,_=>h
 | _ :: _,_ :: _,_ :: _,_,ht,⟨p,q,h1,h2,e⟩,qi,hs=>by
  simp only [qal,zL,decide_eq_true_eq] at ht;subst e
  exact ⟨p,q,WideElems.Trod_stays hl ht.1.1 ht.1.2 h1 (fun x hx=>hb.same (qi x (qaj _ hx))) (fun x hx=>hs x (qaj _ hx)),
   qgE hl hb (by simpa using ht.2) h2 (fun x hx=>qi x (List.mem_append_right _ hx)) (fun x hx=>hs x (List.mem_append_right _ hx)),rfl⟩
theorem qoX {H:Type} {enc:TypeId × Value→H} {X:Cx} (hG:Good X) (hl:laidOutB X.P = true) {f:Nat} {fn:Func} {tb:TypeId} (hf:X.P.funcs[f]? = some fn) (zY:fn.body.isSome = true)
  (hres:fn.resultTypes = #[tb]) (htb:X.P.underlying tb = some .bool) (hpar:(fn.params.toList.all fun t=>X.P.readableRec t && decide (t < X.P.types.size)) = true)
  {s:ChangeSpec} (hvr:s.vars = []) {W:World} {args:Array Value} {ds gs:List (DataW H)} {before:List MemPlace}
  (hglob:∀ g cs,X.glob g = some cs→Rep (· < W.heap.size) W zo [] (.vptr cs) (.pointer (some ⟨g,0,none⟩)))
  (hW:DataW.Whole enc X.P fn.params.toList s.vars false W args.toList ds gs before) (hs:(s.fn H (ds ++ gs)).results = [.lit (.bool true)]∧(s.fn H (ds ++ gs)).args = ds∧(s.fn H (ds ++ gs)).vars = [])
  {dd:List D} {L:qd} (hr:RepL (· < W.heap.size) W zo [] dd args.toList) (hc:call X f dd [] = some (.bool true,L)) :
  Calls X.P f args W fun e W'=>∃ v,e = .returned v∧s.post enc X.P fn false true false false W args v W':=by
 have hsim:Sim X (· < W.heap.size) W zo []:=⟨fun b hb=>hb,hglob,fun i j ds es b s s' hd=>by simp [qe] at hd,fun i ds hd=>by simp [qe] at hd⟩;have hgo:=qgo hG f dd [] _ _ _ W zo args.toList hc hsim hr;obtain ⟨c,hb⟩:=Option.isSome_iff_exists.1 zY;have JC:(callFunc f args.toList.toArray).run X.P W = .ok (.enter f args.toList.toArray) W:=Go.Proofs.enters_of hf (hG.ng f fn hf) (by rw [hb]) _ _;unfold Goes at hgo;rw [JC] at hgo;simp only [Array.toArray_toList] at hgo;refine hgo.mono ?_;rintro e W' ⟨v,rfl,ι',ok',_,hrep,hev,_⟩;refine ⟨v,rfl,?_⟩;cases hrep;have hbel:Below W.heap.size W W':=⟨hev.os,hev.tape,hev.output,hev.size,fun b hb=>hev.frame b hb (fun i ds s hd=>by simp [qe] at hd)⟩;have hW':=hW;obtain ⟨p,q,hA,hV,rfl,kF,hnd⟩:=hW;rw [hvr] at hV;obtain ⟨rfl,rfl⟩:=trodVars_none hV;refine qnw (pa:=p) (pv:=[]) hW' (fun b sp hd=>?_) (fun sp Z5=>?_) (fun sp _=>?_) rfl hbel ?_
 ·rw [hs.1,hres];exact trodAll_cons_mk (shut_bool htb _) trodAll_mk0
 ·rw [hs.2.1];exact qgE hl hbel hpar hA (fun x hx=>hW'.lt x (qaj _ hx)) (fun x hx=>Z5 x (qaj _ hx))
 ·rw [hs.2.2,hvr];rfl
 ·rw [hres];intro j t r hj hv;cases j with
  | zero =>
   simp only [List.size_toArray,ju,jR] at hj hv;injection hj with hj;subst hj
   have:r = .bool true:=by
    simp only [Value.resultList] at hv;simpa using hv.symm
   subst this;exact okWide_bool_mk htb _
  | succ j=>simp at hj
def Vc (k:IntKind) (l:List Int):List D:=l.map (.int k ·)
end Go.Ev
namespace Go.Ev
open Go Go.Proofs
def qbW (X:Cx) (n:Nat):Bool:=match X.P.funcs[n]? with
 | some fn => (fn.name != "runtime.NumGoroutine") && match fn.body with
  | some c=>X.bad n || kY X n c
  | none=>true
 | none=>true
def Xu (X:Cx) (a:Nat):Nat→Bool
 | 0=>true
 | k+1=>Xu X a k && qbW X (a+k)
theorem qa3 {X:Cx} {a:Nat}:∀ {k:Nat},Xu X a k = true→∀ {f:Nat},a≤f→f < a+k→qbW X f = true
 | 0,_,f,h1,h2=>by omega
 | k+1,h,f,h1,h2=>by
  simp only [Xu,zL] at h;by_cases hf:f = a+k
  ·rw [hf];exact h.2
  ·exact qa3 h.1 h1 (by omega)
theorem qid {X : Cx} {f : Nat} {fn : Func} (h : qbW X f = true) (hfn : X.P.funcs[f]? = some fn) : (fn.name == "runtime.NumGoroutine") = false ∧ ∀ c, fn.body = some c → X.bad f = false → kY X f c = true := by
 simp only [qbW,hfn,zL,bne_iff_ne,ne_eq] at h;refine ⟨by simpa using h.1,fun c hc hb=>?_⟩;have h3:=h.2;simpa [hc,hb] using h3
class Enc (α:Type) where
 size:Nat
 cells:α→List D
 len:∀ a,(cells a).length = size
 free:∀ a,(cells a).all idFree = true
section
variable {α:Type} [Enc α]
def qk (l:List α):List D:=(l.map Enc.cells).flatten
@[simp] theorem qk6 (a:α):(Enc.cells a).all idFree = true:=Enc.free a
@[simp] theorem qgl (a:α):idFree.idFreeL (Enc.cells a) = true:=by rw [kO];exact Enc.free a
@[simp] theorem qvs (n:Nat) (a:α):(Enc.cells a).all (closed n) = true:=by
 rw [← qgh];exact Kl n _ (qgl a)
@[simp] theorem q5x (n:Nat) (a:α):closed.closedL n (Enc.cells a) = true:=Kl n _ (qgl a)
@[simp] theorem q5y (a:α):(∀ x,x∈Enc.cells a→idFree x = true) = True:=eq_true (List.all_eq_true.1 (qk6 a))
@[simp] theorem q5z (n:Nat) (a:α):(∀ x,x∈Enc.cells a→closed n x = true) = True:=eq_true (List.all_eq_true.1 (qvs n a))
@[simp] theorem q4J:qk ([]:List α) = []:=rfl
theorem Kk (a:α) (l:List α):qk (a :: l) = Enc.cells a ++ qk l:=rfl
theorem qke (a:α):qk [a] = Enc.cells a:=by simp [qk]
theorem qu4 (a b:List α):qk (a ++ b) = qk a ++ qk b:=by simp [qk]
theorem qdO (l:List α) (a:α):qk (l ++ [a]) = qk l ++ Enc.cells a:=by rw [qu4,qke]
theorem Qv (l:List α):(qk l).length = l.length * Enc.size α:=by
 induction l with
 | nil=>simp
 | cons a l ih=>rw [Kk,qX,Enc.len,ih,ju,QZ,Nat.one_mul];omega
theorem ZJ {n:Nat} (hn:n = Enc.size α) (l:List α):(qk l).length = l.length * n:=by rw [hn,Qv]
theorem QV {n:Nat} (hn:n = Enc.size α):∀ (l:List α) (i:Nat),(qk l).drop (i * n) = qk (l.drop i)
 | [],i=>by simp
 | a :: l,0=>by simp
 | a :: l,i+1=>by
  have hd:(i+1) * n = n+i * n:=by rw [QZ,Nat.one_mul,Nat.add_comm]
  rw [Kk,hd,← kA,VH (by rw [Enc.len,hn]),List.drop_succ_cons,QV hn l i]
theorem QU {n:Nat} (hn:n = Enc.size α):∀ (l:List α) (i:Nat),(qk l).take (i * n) = qk (l.take i)
 | [],i=>by simp
 | a :: l,0=>by simp
 | a :: l,i+1=>by
  have hd:(i+1) * n = n+i * n:=by rw [QZ,Nat.one_mul,Nat.add_comm]
  have hl:(Enc.cells a).length = n:=by rw [Enc.len,hn]
  rw [Kk,hd,← hl,kR,qP (Nat.le_add_right _ _),Nat.add_sub_cancel_left,hl,QU hn l i,List.take_succ_cons,Kk]
theorem QD {n:Nat} (hn:n = Enc.size α) {l:List α} {i:Nat} (hi:i < l.length):(qk l).drop (i * n) = Enc.cells l[i] ++ qk (l.drop (i+1)):=by
 rw [QV hn,vR hi,Kk]
theorem ZN {n:Nat} (hn:n = Enc.size α) (a:α) (r:List D):(Enc.cells a ++ r).take n = Enc.cells a:=List.take_left' (by rw [Enc.len,hn])
theorem ZM {n:Nat} (hn:n = Enc.size α) (a:α):(Enc.cells a).take n = Enc.cells a:=qP (by rw [Enc.len,hn];exact qv _)
theorem ZO {n:Nat} (hn:n = Enc.size α) (a:α) (r:List D):(Enc.cells a ++ r).drop n = r:=VH (by rw [Enc.len,hn])
theorem Qu {n:Nat} (hn:n = Enc.size α) (m:α):∀ (l:List α) {j:Nat},j < l.length→qC (qk l) (j * n) (Enc.cells m) = qk (l.set j m)
 | [],j,hj=>by simp at hj
 | a :: l,j,hj=>by
  have ha:(Enc.cells a).length = n:=by rw [Enc.len,hn]
  have hm:(Enc.cells m).length = n:=by rw [Enc.len,hn]
  cases j with
  | zero =>
   simp only [qC,Nat.zero_mul,List.take_zero,JP,Zx,hm,List.set_cons_zero,Kk];rw [VH ha]
  | succ j =>
   have ih:=Qu hn m l (j:=j) (by simpa using hj);have e1:(j+1) * n = n+j * n:=(by rw [QZ,Nat.one_mul,Nat.add_comm]);simp only [qC,hm] at ih ⊢;rw [List.set_cons_succ,Kk,Kk,← ih,e1,qel,← kA,VH ha,← ha,kR,qP (Nat.le_add_right _ _),Nat.add_sub_cancel_left];simp
@[simp] theorem qkf (l:List α):(qk l).all idFree = true:=by
 induction l with
 | nil=>rfl
 | cons a l ih=>rw [Kk,List.all_append,ih,qk6];rfl
@[simp] theorem qfW (l:List α):idFree.idFreeL (qk l) = true:=by rw [kO];exact qkf l
@[simp] theorem qu3 (n:Nat) (l:List α):(qk l).all (closed n) = true:=by
 rw [← qgh];exact Kl n _ (qfW l)
@[simp] theorem q4K (n:Nat) (l:List α):closed.closedL n (qk l) = true:=Kl n _ (qfW l)
@[simp] theorem q4L (l:List α):(∀ x,x∈qk l→idFree x = true) = True:=eq_true (List.all_eq_true.1 (qkf l))
@[simp] theorem q4M (n:Nat) (l:List α):(∀ x,x∈qk l→closed n x = true) = True:=eq_true (List.all_eq_true.1 (qu3 n l))
structure Sl (α:Type) where
 nil:Bool
 l:List α
 h:nil = true→l = []
omit [Enc α] in
theorem Sl.nn {s:Sl α} {i:Nat} (h:i < s.l.length):s.nil = false:=by
 cases hn:s.nil with
 | false=>rfl
 | true=>rw [s.h hn] at h;simp at h
end
def Sl.of {α:Type} (l:List α):Sl α:=⟨false,l,by simp⟩
def Sl.none {α:Type}:Sl α:=⟨true,[],by simp⟩
@[simp] theorem Sl.of_l {α:Type} (l:List α):(Sl.of l).l = l:=rfl
@[simp] theorem Sl.of_nil {α:Type} (l:List α):(Sl.of l).nil = false:=rfl
@[simp] theorem Sl.none_l {α:Type}:(Sl.none:Sl α).l = []:=rfl
@[simp] theorem Sl.none_nil {α:Type}:(Sl.none:Sl α).nil = true:=rfl
theorem qlZ {H:qd} {n:Nat} {d:D} (h:idFree d = true):zF H (n+1) d = some (d,[]):=by
 unfold zF;rw [if_pos h]
theorem qeC {H:qd} {n:Nat}:∀ {l:List D},idFree.idFreeL l = true→jJ (zF H (n+1)) l = some (l,[])
 | [],_=>rfl
 | d :: l,h=>by
  simp only [idFree.idFreeL,zL] at h;simp only [jJ,qlZ h.1,qeC h.2,Xm]
theorem qgT {g:D→Option (D × List Nat)}:∀ (a b:List D),jJ g (a ++ b) = match jJ g a,jJ g b with
  | some (x,p),some (y,q)=>some (x ++ y,p ++ q)
  | _,_=>none
 | [],b=>by
  simp only [JP,jJ];cases jJ g b with
  | none=>rfl
  | some q=>obtain ⟨y,q⟩:=q;rfl
 | d :: a,b=>by
  simp only [Jx,jJ,qgT a b];cases g d with
  | none=>rfl
  | some r =>
   obtain ⟨r,i⟩:=r;cases jJ g a with
   | none=>rfl
   | some p =>
    obtain ⟨x,p⟩:=p;cases jJ g b with
    | none=>rfl
    | some q=>obtain ⟨y,q⟩:=q;simp
theorem qma {H:qd} {l:List D} (h:idFree.idFreeL l = true):jJ (zF H 8) l = some (l,[]):=qeC h
theorem qmb {H:qd} {l:List D} (h:idFree.idFreeL l = true):jJ (zF H 7) l = some (l,[]):=qeC h
attribute [simp] qgT qma qmb
theorem qbN {X:Cx} {f nt n0:Nat} {Q:Ex→qn→qd→Prop} {fs:List Fr} {e:qn} {H:qd} {c:Code} (h:Run X f nt n0 (fun ex e H=>ex≠.normal∧Run X f nt n0 Q fs (some (ex,e,H))) [] (qE X f nt n0 c e H)) :
  Run X f nt n0 Q fs (qE X f nt n0 (.loop c) e H):=by
 rw [qcy];cases ho:qE X f nt n0 c e H with
 | none=>rw [ho,vu] at h;exact h.elim
 | some q =>
  obtain ⟨ex,e1,H1⟩:=q;rw [ho,Zy] at h;cases ex with
  | normal=>exact absurd rfl h.1
  | exit i=>exact h.2
  | ret=>exact h.2
theorem Run.loopThen {X:Cx} {f nt n0:Nat} {Q:Ex→qn→qd→Prop} {fs:List Fr} {c:Code} {σ:Type} (I:σ→qn→qd→Prop) (m:σ→Nat) (s:σ) {e:qn} {H:qd} (h0:I s e H)
  (step:∀ s e H,I s e H→Run X f nt n0 (fun ex e' H'=>match ex with | .normal=>∃ s',m s' < m s∧I s' e' H' | ex=>Run X f nt n0 Q fs (some (ex,e',H'))) [] (qE X f nt n0 c e H)) :
  Run X f nt n0 Q fs (qE X f nt n0 (.loop c) e H):=by
 have h:=Run.loop (Q:=fun ex e H=>ex≠.normal∧Run X f nt n0 Q fs (some (ex,e,H))) I m (fun s e H hi=>by
  refine Run.mono (step s e H hi) ?_;intro ex e' H' hq;rw [Zy];cases ex with
  | normal=>exact hq
  | exit i=>exact ⟨by simp,hq⟩
  | ret=>exact ⟨by simp,hq⟩) s e H h0
 exact Run.mono h fun ex e H hq=>hq.2
theorem qcU {X:Cx} {f nt n0:Nat} {Q:Ex→qn→qd→Prop} {fs:List Fr} {c:Code} {e:qn} {H:qd}
  (h:Run X f nt n0 (fun ex e' H'=>match ex with | .normal=>Run X f nt n0 Q fs (qE X f nt n0 (.loop c) e' H') | ex=>Run X f nt n0 Q fs (some (ex,e',H'))) [] (qE X f nt n0 c e H)) :
  Run X f nt n0 Q fs (qE X f nt n0 (.loop c) e H):=by
 rw [qcy];cases ho:qE X f nt n0 c e H with
 | none=>rw [ho,vu] at h;exact h.elim
 | some q =>
  obtain ⟨ex,e1,H1⟩:=q;rw [ho,Zy] at h;cases ex with
  | normal=>exact h
  | exit i=>exact h
  | ret=>exact h
def qgy (X:Cx) (z:Bool) (rs:List ResultVar) (n0:Nat) (P:D × qd→Prop):Ex→qn→qd→Prop
 | .exit _,_,_=>False
 | _,e,H=>∃ r,(kv X e H rs).bind (fun ds=>vB z n0 H (Z2 ds)) = some r∧P r
theorem qtX {X:Cx} {z:Bool} {rs:List ResultVar} {n0:Nat} {P:D × qd→Prop} {e:qn} {H:qd}:qgy X z rs n0 P .ret e H = ∃ r,(kv X e H rs).bind (fun ds=>vB z n0 H (Z2 ds)) = some r∧P r:=rfl
theorem qtY {X:Cx} {z:Bool} {rs:List ResultVar} {n0:Nat} {P:D × qd→Prop} {e:qn} {H:qd}:qgy X z rs n0 P .normal e H = ∃ r,(kv X e H rs).bind (fun ds=>vB z n0 H (Z2 ds)) = some r∧P r:=rfl
theorem Jt {X:Cx} {f:Nat} {H:qd} {fn:Func} {args:List D} (P:D × qd→Prop) (hf:X.P.funcs[f]? = some fn) (hb:fn.body.isSome = true) (hbad:X.bad f = false∧X.con f args H = none)
  (h:Run X f fn.ntmps H.length (qgy X (X.fzr f) fn.results.toList H.length P) [] (qE X f fn.ntmps H.length (jj (kQ fn)) (jI 0 args) H)) (hg:(X.gr f && X.byRef f) = false:=by rfl):∃ r,call X f args H = some r∧P r:=by
 cases ho:qE X f fn.ntmps H.length (jj (kQ fn)) (jI 0 args) H with
 | none=>rw [ho,vu] at h;exact h.elim
 | some q =>
  obtain ⟨ex,e1,H1⟩:=q;rw [ho,Zy] at h;cases ex with
  | exit i=>exact h.elim
  | normal =>
   obtain ⟨r,h1,h2⟩:=h;exact ⟨r,qA hf hb hbad (by rw [ho,Zy,qfL];exact h1) hg,h2⟩
  | ret =>
   obtain ⟨r,h1,h2⟩:=h;exact ⟨r,qA hf hb hbad (by rw [ho,Zy,qfK];exact h1) hg,h2⟩
attribute [simp] qtX qtY
def qeo (X:Cx) (z:Bool) (rs:List ResultVar) (P:D × qd→Prop):Ex→qn→qd→Prop
 | .exit _,_,_=>False
 | _,e,H=>∃ r,(kv X e H rs).bind (fun ds=>qay z H (Z2 ds)) = some r∧P r
theorem qtV {X:Cx} {z:Bool} {rs:List ResultVar} {P:D × qd→Prop} {e:qn} {H:qd}:qeo X z rs P .ret e H = ∃ r,(kv X e H rs).bind (fun ds=>qay z H (Z2 ds)) = some r∧P r:=rfl
theorem qtW {X:Cx} {z:Bool} {rs:List ResultVar} {P:D × qd→Prop} {e:qn} {H:qd}:qeo X z rs P .normal e H = ∃ r,(kv X e H rs).bind (fun ds=>qay z H (Z2 ds)) = some r∧P r:=rfl
theorem Zt {X:Cx} {f:Nat} {H:qd} {fn:Func} {args:List D} (P:D × qd→Prop) (hf:X.P.funcs[f]? = some fn) (hb:fn.body.isSome = true) (hbad:X.bad f = false∧X.con f args H = none)
  (h:Run X f fn.ntmps H.length (qeo X (X.fzr f) fn.results.toList P) [] (qE X f fn.ntmps H.length (jj (kQ fn)) (jI 0 args) H)) (hg:(X.gr f && X.byRef f) = true:=by rfl):∃ r,call X f args H = some r∧P r:=by
 rw [qdT] at h;cases zY:fn.body with
 | none=>rw [zY] at hb;cases hb
 | some c =>
  have hc:kQ fn = c:=by simp only [kQ,zY,Zw]
  rw [hc] at h;rw [qdZ hbad.2 hf zY hbad.1,hg];cases ho:qE X f fn.ntmps H.length c (jI 0 args) H with
  | none=>rw [ho,vu] at h;exact h.elim
  | some q =>
   obtain ⟨ex,e1,H1⟩:=q;rw [ho,Zy] at h;cases ex with
   | exit i=>exact h.elim
   | normal =>
    obtain ⟨r,h1,h2⟩:=h;cases hr:kv X e1 H1 fn.results.toList with
    | none=>rw [hr] at h1;cases h1
    | some ds=>rw [hr] at h1;exact ⟨r,by simpa [hr,Xs] using h1,h2⟩
   | ret =>
    obtain ⟨r,h1,h2⟩:=h;cases hr:kv X e1 H1 fn.results.toList with
    | none=>rw [hr] at h1;cases h1
    | some ds=>rw [hr] at h1;exact ⟨r,by simpa [hr,Xs] using h1,h2⟩
attribute [simp] qtV qtW qay
end Go.Ev
namespace Go.Ev
open Go Go.Proofs
structure ID where
 l:List UInt8
 h:l.length = 16
 deriving DecidableEq
@[simp] theorem ID.len (i:ID):i.l.length = 16:=i.h
theorem ID.ext' {a b:ID} (h:a.l = b.l):a = b:=by cases a;cases b;simp at h;subst h;rfl
instance:Enc ID:=⟨16,fun i=>qf i.l,fun i=>by simp,fun i=>by simp⟩
theorem ID.cells (i:ID):Enc.cells i = qf i.l:=rfl
def ID.zero:ID:=⟨List.replicate 16 0,by simp⟩
theorem qk8:∀ (x y:List UInt8),x.length = y.length→jt (List.replicate x.length .i) (qf x) (qf y) = some (x == y)
 | [],[],_=>rfl
 | a :: x,b :: y,h=>by
  have ih:=qk8 x y (by simpa using h);simp only [ju,qai,qf,List.map_cons,jt,Ko];simp only [qf] at ih;rw [ih]
  have:((a.toNat:Int) == (b.toNat:Int)) = (a == b):=by
   rw [Bool.eq_iff_iff];simp only [beq_iff_eq,Int.natCast_inj];exact ⟨fun h=>UInt8.toNat_inj.1 h,fun h=>by rw [h]⟩
  simp [this]
 | [],_ :: _,h=>by simp at h
 | _ :: _,[],h=>by simp at h
theorem qdY:∀ (k1 k2:List CK) (a1 a2 b1 b2:List D),k1.length = a1.length→k1.length = b1.length→jt (k1 ++ k2) (a1 ++ a2) (b1 ++ b2) = match jt k1 a1 b1,jt k2 a2 b2 with
  | some x,some y=>some (x && y)
  | _,_=>none
 | [],k2,[],a2,[],b2,_,_=>by
  simp only [JP,jt];cases jt k2 a2 b2 <;> simp
 | k :: k1,k2,a :: a1,a2,b :: b1,b2,h1,h2=>by
  simp only [Jx,jt,qdY k1 k2 a1 a2 b1 b2 (by simpa using h1) (by simpa using h2)];cases Ko k a b <;> cases jt k1 a1 b1 <;> cases jt k2 a2 b2 <;> simp [Bool.and_assoc]
 | [],_,_ :: _,_,_,_,h,_=>by simp at h
 | [],_,[],_,_ :: _,_,_,h=>by simp at h
 | _ :: _,_,[],_,_,_,h,_=>by simp at h
 | _ :: _,_,_ :: _,_,[],_,_,h=>by simp at h
@[simp] theorem qgn (x y:ID):jt [.i,.i,.i,.i,.i,.i,.i,.i,.i,.i,.i,.i,.i,.i,.i,.i] (qf x.l) (qf y.l) = some (x == y):=by
 have:=qk8 x.l y.l (by simp);rw [x.h] at this
 have e:(x.l == y.l) = (x == y):=by
  rw [Bool.eq_iff_iff];simp only [beq_iff_eq];exact ⟨ID.ext',fun h=>by rw [h]⟩
 rw [e] at this;exact this
structure Mk where
 id:ID
 seq:Int
 lost:Int
 over:Int
 deriving DecidableEq
def zH (n:Int):Prop:=0≤n∧n < 18446744073709551616
structure Mk.Ok (m:Mk):Prop where
 seq:zH m.seq
 lost:zH m.lost
 over:zH m.over
def Mk.tl (m:Mk):List D:=[.int .u64 m.seq,.int .u64 m.lost,.int .u64 m.over]
instance:Enc Mk:=⟨19,fun m=>qf m.id.l ++ m.tl,fun m=>by simp [Mk.tl],fun m=>by simp [Mk.tl,idFree]⟩
theorem Mk.cells (m:Mk):Enc.cells m = qf m.id.l ++ [.int .u64 m.seq,.int .u64 m.lost,.int .u64 m.over]:=rfl
@[simp] theorem Mk.size:Enc.size Mk = 19:=rfl
@[simp] theorem ID.size:Enc.size ID = 16:=rfl
@[simp] theorem Mk.cl (a:Mk):(Enc.cells a).length = 19:=Enc.len a
@[simp] theorem Mk.ct (a:Mk) (r:List D):(Enc.cells a ++ r).take 19 = Enc.cells a:=ZN rfl a r
@[simp] theorem Mk.ct' (a:Mk):(Enc.cells a).take 19 = Enc.cells a:=ZM rfl a
@[simp] theorem Mk.cd (a:Mk) (r:List D):(Enc.cells a ++ r).drop 19 = r:=ZO rfl a r
@[simp] theorem Mk.el (l:List Mk):(qk l).length = l.length * 19:=ZJ rfl l
@[simp] theorem Mk.ed (l:List Mk) (i:Nat):(qk l).drop (i * 19) = qk (l.drop i):=QV rfl l i
@[simp] theorem Mk.et (l:List Mk) (i:Nat):(qk l).take (i * 19) = qk (l.take i):=QU rfl l i
@[simp high] theorem Mk.ea {l:List Mk} {i:Nat} (h:i < l.length):(qk l).drop (i * 19) = Enc.cells l[i] ++ qk (l.drop (i+1)):=QD rfl h
@[simp high] theorem Mk.es (m:Mk) {l:List Mk} {j:Nat} (h:j < l.length):qC (qk l) (j * 19) (Enc.cells m) = qk (l.set j m):=Qu rfl m l h
theorem jE {s:List UInt8} {n:Nat} (h:s.length≤n):(qf s).drop n = []:=JS (by simpa using h)
@[simp] theorem Mk.t16 (m:Mk):(Enc.cells m).take 16 = qf m.id.l:=by simp [Mk.cells]
@[simp] theorem Mk.t16' (m:Mk) (r:List D):(Enc.cells m ++ r).take 16 = qf m.id.l:=by simp [Mk.cells]
@[simp] theorem Mk.d16 (m:Mk):(Enc.cells m).drop 16 = [.int .u64 m.seq,.int .u64 m.lost,.int .u64 m.over]:=by simp [Mk.cells]
@[simp] theorem Mk.d17 (m:Mk):(Enc.cells m).drop 17 = [.int .u64 m.lost,.int .u64 m.over]:=by simp [Mk.cells,zk,jE]
@[simp] theorem Mk.d18 (m:Mk):(Enc.cells m).drop 18 = [.int .u64 m.over]:=by simp [Mk.cells,zk,jE]
@[simp] theorem Mk.d16' (m:Mk) (r:List D):(Enc.cells m ++ r).drop 16 = [.int .u64 m.seq,.int .u64 m.lost,.int .u64 m.over] ++ r:=by simp [Mk.cells]
@[simp] theorem Mk.d17' (m:Mk) (r:List D):(Enc.cells m ++ r).drop 17 = [.int .u64 m.lost,.int .u64 m.over] ++ r:=by simp [Mk.cells,zk,jE]
@[simp] theorem Mk.d18' (m:Mk) (r:List D):(Enc.cells m ++ r).drop 18 = [.int .u64 m.over] ++ r:=by simp [Mk.cells,zk,jE]
@[simp] theorem Mk.g16 (m:Mk) (h):(Enc.cells m)[16]'h = .int .u64 m.seq:=by simp [Mk.cells]
@[simp] theorem Mk.g17 (m:Mk) (h):(Enc.cells m)[17]'h = .int .u64 m.lost:=by simp [Mk.cells]
@[simp] theorem Mk.g18 (m:Mk) (h):(Enc.cells m)[18]'h = .int .u64 m.over:=by simp [Mk.cells]
@[simp] theorem Mk.s16 (m:Mk) (x:Int):qC (Enc.cells m) 16 [.int .u64 x] = Enc.cells { m with seq:=x }:=by simp [Mk.cells,zk,jE]
@[simp] theorem Mk.s17 (m:Mk) (x:Int):qC (Enc.cells m) 17 [.int .u64 x] = Enc.cells { m with lost:=x }:=by simp [Mk.cells,kR,zk,jE,qP]
@[simp] theorem Mk.s18 (m:Mk) (x:Int):qC (Enc.cells m) 18 [.int .u64 x] = Enc.cells { m with over:=x }:=by simp [Mk.cells,kR,zk,jE,qP]
structure Pr where
 name:List UInt8
 value:List UInt8
 deriving DecidableEq
instance:Enc Pr:=⟨2,fun p=>[.str p.name,.str p.value],fun _=>rfl,fun _=>rfl⟩
theorem Pr.cells (p:Pr):Enc.cells p = [.str p.name,.str p.value]:=rfl
@[simp] theorem Pr.size:Enc.size Pr = 2:=rfl
@[simp] theorem Pr.cl (a:Pr):(Enc.cells a).length = 2:=Enc.len a
@[simp] theorem Pr.ct (a:Pr) (r:List D):(Enc.cells a ++ r).take 2 = Enc.cells a:=ZN rfl a r
@[simp] theorem Pr.ct' (a:Pr):(Enc.cells a).take 2 = Enc.cells a:=ZM rfl a
@[simp] theorem Pr.cd (a:Pr) (r:List D):(Enc.cells a ++ r).drop 2 = r:=ZO rfl a r
@[simp] theorem Pr.el (l:List Pr):(qk l).length = l.length * 2:=ZJ rfl l
@[simp] theorem Pr.ed (l:List Pr) (i:Nat):(qk l).drop (i * 2) = qk (l.drop i):=QV rfl l i
@[simp] theorem Pr.et (l:List Pr) (i:Nat):(qk l).take (i * 2) = qk (l.take i):=QU rfl l i
@[simp high] theorem Pr.ea {l:List Pr} {i:Nat} (h:i < l.length):(qk l).drop (i * 2) = Enc.cells l[i] ++ qk (l.drop (i+1)):=QD rfl h
@[simp high] theorem Pr.es (m:Pr) {l:List Pr} {j:Nat} (h:j < l.length):qC (qk l) (j * 2) (Enc.cells m) = qk (l.set j m):=Qu rfl m l h
structure Rec where
 seq:Int
 real:Int
 mono:Int
 boot:ID
 fields:Sl Pr
instance:Enc Rec:=⟨20,fun r=>[.int .u64 r.seq,.int .u64 r.real,.int .u64 r.mono] ++ (qf r.boot.l ++ [(.vsl r.fields.nil (qk r.fields.l) r.fields.l.length)]),fun r=>by simp,fun r=>by simp [idFree]⟩
theorem Rec.cells (r:Rec):Enc.cells r = [.int .u64 r.seq,.int .u64 r.real,.int .u64 r.mono] ++ (qf r.boot.l ++ [(.vsl r.fields.nil (qk r.fields.l) r.fields.l.length)]):=rfl
@[simp] theorem Rec.size:Enc.size Rec = 20:=rfl
structure Rec.Ok (r:Rec):Prop where
 seq:zH r.seq
 real:zH r.real
 mono:zH r.mono
@[simp] theorem Rec.cl (a:Rec):(Enc.cells a).length = 20:=Enc.len a
@[simp] theorem Rec.ct (a:Rec) (r:List D):(Enc.cells a ++ r).take 20 = Enc.cells a:=ZN rfl a r
@[simp] theorem Rec.ct' (a:Rec):(Enc.cells a).take 20 = Enc.cells a:=ZM rfl a
@[simp] theorem Rec.cd (a:Rec) (r:List D):(Enc.cells a ++ r).drop 20 = r:=ZO rfl a r
@[simp] theorem Rec.el (l:List Rec):(qk l).length = l.length * 20:=ZJ rfl l
@[simp] theorem Rec.ed (l:List Rec) (i:Nat):(qk l).drop (i * 20) = qk (l.drop i):=QV rfl l i
@[simp] theorem Rec.et (l:List Rec) (i:Nat):(qk l).take (i * 20) = qk (l.take i):=QU rfl l i
@[simp high] theorem Rec.ea {l:List Rec} {i:Nat} (h:i < l.length):(qk l).drop (i * 20) = Enc.cells l[i] ++ qk (l.drop (i+1)):=QD rfl h
@[simp high] theorem Rec.es (m:Rec) {l:List Rec} {j:Nat} (h:j < l.length):qC (qk l) (j * 20) (Enc.cells m) = qk (l.set j m):=Qu rfl m l h
structure It where
 id:ID
 gap:Bool
 fr:Int
 til:Int
 rc:Rec
instance:Enc It:=⟨39,fun i=>qf i.id.l ++ ([.bool i.gap,.int .u64 i.fr,.int .u64 i.til] ++ Enc.cells i.rc),fun i=>by simp,fun i=>by simp [idFree]⟩
theorem It.cells (i:It):Enc.cells i = qf i.id.l ++ ([.bool i.gap,.int .u64 i.fr,.int .u64 i.til] ++ ([.int .u64 i.rc.seq,.int .u64 i.rc.real,.int .u64 i.rc.mono] ++ (qf i.rc.boot.l ++ [(.vsl i.rc.fields.nil (qk i.rc.fields.l) i.rc.fields.l.length)]))):=rfl
@[simp] theorem It.size:Enc.size It = 39:=rfl
structure It.Ok (i:It):Prop where
 fr:zH i.fr
 til:zH i.til
 rc:i.rc.Ok
@[simp] theorem It.cl (a:It):(Enc.cells a).length = 39:=Enc.len a
@[simp] theorem It.ct (a:It) (r:List D):(Enc.cells a ++ r).take 39 = Enc.cells a:=ZN rfl a r
@[simp] theorem It.ct' (a:It):(Enc.cells a).take 39 = Enc.cells a:=ZM rfl a
@[simp] theorem It.cd (a:It) (r:List D):(Enc.cells a ++ r).drop 39 = r:=ZO rfl a r
@[simp] theorem It.el (l:List It):(qk l).length = l.length * 39:=ZJ rfl l
@[simp] theorem It.ed (l:List It) (i:Nat):(qk l).drop (i * 39) = qk (l.drop i):=QV rfl l i
@[simp] theorem It.et (l:List It) (i:Nat):(qk l).take (i * 39) = qk (l.take i):=QU rfl l i
@[simp high] theorem It.ea {l:List It} {i:Nat} (h:i < l.length):(qk l).drop (i * 39) = Enc.cells l[i] ++ qk (l.drop (i+1)):=QD rfl h
@[simp high] theorem It.es (m:It) {l:List It} {j:Nat} (h:j < l.length):qC (qk l) (j * 39) (Enc.cells m) = qk (l.set j m):=Qu rfl m l h
@[simp] theorem It.t16 (i:It):(Enc.cells i).take 16 = qf i.id.l:=by simp [It.cells]
@[simp] theorem It.t16' (i:It) (r:List D):(Enc.cells i ++ r).take 16 = qf i.id.l:=by simp [It.cells]
@[simp] theorem It.d16 (i:It):(Enc.cells i).drop 16 = .bool i.gap :: .int .u64 i.fr :: .int .u64 i.til :: .int .u64 i.rc.seq :: .int .u64 i.rc.real :: .int .u64 i.rc.mono :: (qf i.rc.boot.l ++ [(.vsl i.rc.fields.nil (qk i.rc.fields.l) i.rc.fields.l.length)]):=by simp [It.cells]
@[simp] theorem It.d17 (i:It):(Enc.cells i).drop 17 = .int .u64 i.fr :: .int .u64 i.til :: .int .u64 i.rc.seq :: .int .u64 i.rc.real :: .int .u64 i.rc.mono :: (qf i.rc.boot.l ++ [(.vsl i.rc.fields.nil (qk i.rc.fields.l) i.rc.fields.l.length)]):=by simp [It.cells,zk,jE]
@[simp] theorem It.d18 (i:It):(Enc.cells i).drop 18 = .int .u64 i.til :: .int .u64 i.rc.seq :: .int .u64 i.rc.real :: .int .u64 i.rc.mono :: (qf i.rc.boot.l ++ [(.vsl i.rc.fields.nil (qk i.rc.fields.l) i.rc.fields.l.length)]):=by simp [It.cells,zk,jE]
@[simp] theorem It.d19 (i:It):(Enc.cells i).drop 19 = .int .u64 i.rc.seq :: .int .u64 i.rc.real :: .int .u64 i.rc.mono :: (qf i.rc.boot.l ++ [(.vsl i.rc.fields.nil (qk i.rc.fields.l) i.rc.fields.l.length)]):=by simp [It.cells,zk,jE]
@[simp] theorem It.d20 (i:It):(Enc.cells i).drop 20 = .int .u64 i.rc.real :: .int .u64 i.rc.mono :: (qf i.rc.boot.l ++ [(.vsl i.rc.fields.nil (qk i.rc.fields.l) i.rc.fields.l.length)]):=by simp [It.cells,zk,jE]
@[simp] theorem It.d21 (i:It):(Enc.cells i).drop 21 = .int .u64 i.rc.mono :: (qf i.rc.boot.l ++ [(.vsl i.rc.fields.nil (qk i.rc.fields.l) i.rc.fields.l.length)]):=by simp [It.cells,zk,jE]
@[simp] theorem It.d22 (i:It):(Enc.cells i).drop 22 = qf i.rc.boot.l ++ [(.vsl i.rc.fields.nil (qk i.rc.fields.l) i.rc.fields.l.length)]:=by simp [It.cells,zk,jE]
@[simp] theorem It.d38 (i:It):(Enc.cells i).drop 38 = [(.vsl i.rc.fields.nil (qk i.rc.fields.l) i.rc.fields.l.length)]:=by simp [It.cells,zk,jE]
def vi:List UInt8→Nat
 | []=>0
 | b :: l=>b.toNat+256 * vi l
def Q1:Nat→Nat→List UInt8
 | 0,_=>[]
 | n+1,v=>UInt8.ofNat (v % 256) :: Q1 n (v / 256)
@[simp] theorem qiI:∀ (n v:Nat),(Q1 n v).length = n
 | 0,_=>rfl
 | n+1,v=>by simp [Q1,qiI n]
theorem qbd:∀ (l:List UInt8),vi l < 256 ^ l.length
 | []=>by simp [vi]
 | b :: l=>by
  have h1:=qbd l;have h2:=b.toNat_lt;simp only [vi,ju,qb5];omega
theorem qiH:∀ (n v:Nat),Q1 (n+1) v = Q1 n v ++ [UInt8.ofNat (v / 256 ^ n % 256)]
 | 0,v=>by simp [Q1]
 | n+1,v=>by
  rw [Q1,qiH n (v / 256),Q1,Jx,Nat.div_div_eq_div_mul,qb5,Nat.mul_comm 256]
theorem qiG:∀ (a b:List UInt8),vi (a ++ b) = vi a+256 ^ a.length * vi b
 | [],b=>by simp [vi]
 | x :: a,b=>by
  simp only [Jx,vi,qiG a b,ju,qb5];rw [Nat.mul_add,← Nat.mul_assoc,Nat.mul_comm 256 (256 ^ a.length),qel]
theorem qaW (a b:List UInt8):qf (a ++ b) = qf a ++ qf b:=by simp [qf]
theorem qii (a:UInt8) (b:List UInt8):qf (a :: b) = .int .u8 (a.toNat:Int) :: qf b:=rfl
theorem qih (l:List UInt8) (i:Nat):(qf l).drop i = qf (l.drop i):=by simp [qf]
theorem qfj (l:List UInt8) (i:Nat):(qf l).take i = qf (l.take i):=by simp [qf]
theorem jK {l:List UInt8} {i:Nat} (h:i < l.length):(qf l).drop i = .int .u8 (l[i].toNat:Int) :: qf (l.drop (i+1)):=by
 rw [qih,vR h,qii]
theorem qod {l:List UInt8} {i:Nat} (h:i < (qf l).length):(qf l)[i] = .int .u8 ((l[i]'(by simpa using h)).toNat:Int):=by simp [qf]
@[simp] theorem q53 (s:List UInt8):ZQ (qf s) = some s:=by
 induction s with
 | nil=>rfl
 | cons a s ih =>
  have:ZQ (qf (a :: s)) = (ZQ (qf s)).map fun r=>UInt8.ofNat ((a.toNat:Int)).toNat :: r:=rfl;rw [this,ih];simp
theorem qhX (x y:Nat) (h:y < 256):(x * 256) ||| y = x * 256+y:=by
 have:=Nat.shiftLeft_add_eq_or_of_lt (b:=y) (i:=8) (by simpa using h) x;rw [Nat.shiftLeft_eq] at this;simpa using this.symm
def BufE {α:Type} [Enc α] (n:Nat) (d:D) (H:qd) (l:List α):Prop:=(d = .vsl true [] 0∧l = []∧H = [])∨(d = .osl 0 (l.length * n) 0 l.length n∧H = [some (qk l)]∧l≠[])
theorem BufE.one {α:Type} [Enc α] {n:Nat} (a:α):BufE n (.osl 0 n 0 1 n) [some (Enc.cells a)] ([] ++ [a]) :=
 .inr ⟨by simp,by simp [qke],by simp⟩
def Sl.grown {α:Type} (l:List α):Sl α:=⟨l.isEmpty,l,by simp⟩
@[simp] theorem Sl.grown_l {α:Type} (l:List α):(Sl.grown l).l = l:=rfl
def Yr (P:Program) (g:TypeId→Bool):List Field→Nat→Nat→Bool
 | [],off,size=>off == size
 | f :: fs,off,size=>f.offset == off && g f.type && Yr P g fs (off+P.cellsOf f.type) size
def Ks (P:Program):Nat→TypeId→Bool
 | 0,_=>false
 | n+1,t=>match P.underlying t with
  | some .bool=>true
  | some (.int _)=>true
  | some .string=>true
  | some (.slice e)=>Ks P n e
  | some (.array m e)=>Ks P n e && P.cellsOf t == m * P.cellsOf e
  | some (.struct fs)=>Yr P (Ks P n) fs.toList 0 (P.cellsOf t)
  | _=>false
def qgx (P:Program) (g:TypeId→List D→Prop):List Field→List D→Prop
 | [],cs=>cs = []
 | f :: fs,cs=>∃ a b,cs = a ++ b∧a.length = P.cellsOf f.type∧g f.type a∧qgx P g fs b
def vS (P:Program):Nat→TypeId→List D→Prop
 | 0,_,_=>False
 | n+1,t,cs=>match P.underlying t with
  | some .bool=>∃ b,cs = [.bool b]
  | some (.int k)=>∃ x,cs = [.int k x]∧(Lit.int k x).wf = true
  | some .string=>∃ s,cs = [.str s]∧s.length≤maxLen
  | some (.slice e)=>cs = [.vsl true [] 0]∨∃ ls:List (List D),cs = [.vsl false ls.flatten ls.length]∧(ls.length≤maxLen∧ls.length * P.bytesOf e≤reachBytes)∧∀ l,l∈ls→l.length = P.cellsOf e∧vS P n e l
  | some (.array m e)=>∃ ls:List (List D),cs = ls.flatten∧ls.length = m∧∀ l,l∈ls→l.length = P.cellsOf e∧vS P n e l
  | some (.struct fs)=>qgx P (vS P n) fs.toList cs
  | _=>False
attribute [irreducible] vS
theorem qbv {W:World} {a:Addr} {v:Value} (h:W.cell? a = some v):a.block < W.heap.size:=by
 unfold World.cell? at h;rcases Yg a.block W.heap.size with qi | vd
 ·exact qi
 ·have:W.heap[a.block]? = none:=qcD vd;simp [this] at h
def VI (W:World) (ds:List D) (vs:List Value):Prop:=ds.length = vs.length∧(∀ d,d∈ds→zn d = true)∧∀ (j:Nat) d,ds[j]? = some d→Rep (· < W.heap.size) W zo [] d (vs.getD j undef)
theorem qct {W:World} {d:D} {v:Value} (hc:zn d = true) (h:Rep (· < W.heap.size) W zo [] d v):VI W [d] [v]:=by
 refine ⟨rfl,fun x hx=>by rw [List.mem_singleton.1 hx];exact hc,fun j x hj=>?_⟩;cases j with
 | zero=>simp at hj;subst hj;exact h
 | succ j=>simp at hj
theorem qkr {W:World} {a b:List D} {us vs:List Value} (h1:VI W a us) (h2:VI W b vs):VI W (a ++ b) (us ++ vs):=by
 refine ⟨by simp [h1.1,h2.1],fun d hd=>?_,fun j d hj=>?_⟩
 ·rcases List.mem_append.1 hd with h | h
  ·exact h1.2.1 d h
  ·exact h2.2.1 d h
 ·by_cases qi:j < a.length
  ·rw [jX qi] at hj;have:=h1.2.2 j d hj;rw [jd] at this ⊢
   rwa [jX (by rw [← h1.1];exact qi)]
  ·rw [ku (by omega)] at hj;have:=h2.2.2 _ d hj;rw [jd] at this ⊢;rw [ku (by rw [← h1.1];omega),← h1.1];exact this
section
variable {H:Type} {enc:TypeId × Value→H} {P:Program} {W:World}
theorem qkq {sz:Nat} {Q:List D→Prop}:∀ (m off:Nat) (cs:List Value),cs.length = off+m * sz →
  (∀ i,i < m→∃ ds,Q ds∧VI W ds ((cs.drop (off+i * sz)).take sz))→∃ ls:List (List D),ls.length = m∧(∀ l,l∈ls→l.length = sz∧Q l)∧VI W ls.flatten (cs.drop off)
 | 0,off,cs,hl,_=>⟨[],rfl,by simp,by
   rw [JS (by omega)];exact ⟨rfl,by simp,by simp⟩⟩
 | m+1,off,cs,hl,h=>by
  have e1:(m+1) * sz = sz+m * sz:=by rw [QZ,Nat.one_mul,Nat.add_comm]
  rw [e1] at hl;obtain ⟨ds,q1,q2⟩:=h 0 (by omega);rw [Nat.zero_mul,Nat.add_zero] at q2
  obtain ⟨ls,l1,l2,l3⟩:=qkq (sz:=sz) (Q:=Q) m (off+sz) cs (by omega) (fun i hi=>by
   have:=h (i+1) (by omega);rw [QZ,Nat.one_mul] at this;rw [show off+sz+i * sz = off+(i * sz+sz) by omega];exact this)
  have JD:ds.length = sz:=by
   rw [q2.1,kt,Zb];omega
  refine ⟨ds :: ls,by simp [l1],fun l hl=>?_,?_⟩
  ·rcases List.mem_cons.1 hl with rfl | hl
   ·exact ⟨JD,q1⟩
   ·exact l2 l hl
  ·rw [qen];have:=qkr q2 l3;rw [← kA,qem] at this;exact this
theorem qj7 {g:TypeId→Bool} {Q:TypeId→List D→Prop}:∀ (fs:List Field) (off:Nat) (cs:List Value),Yr P g fs off cs.length = true →
  (∀ f,f∈fs→g f.type = true→∃ ds,Q f.type ds∧VI W ds ((cs.drop f.offset).take (P.cellsOf f.type)))→∃ ds,qgx P Q fs ds∧VI W ds (cs.drop off)
 | [],off,cs,hp,_=>by
  simp only [Yr,beq_iff_eq] at hp;exact ⟨[],rfl,by rw [JS (by omega)];exact ⟨rfl,by simp,by simp⟩⟩
 | f :: fs,off,cs,hp,h=>by
  simp only [Yr,zL,beq_iff_eq] at hp;obtain ⟨⟨h1,h2⟩,h3⟩:=hp;obtain ⟨a,a1,a2⟩:=h f (Za ..) h2;obtain ⟨b,b1,b2⟩:=qj7 fs (off+P.cellsOf f.type) cs h3 fun f' hf=>h f' (kS _ hf);rw [h1] at a2;have j7:off+P.cellsOf f.type≤cs.length:=plainF_le h3;refine ⟨a ++ b,⟨a,b,rfl,?_,a1,b1⟩,?_⟩
  ·rw [a2.1,kt,Zb];omega
  ·have:=qkr a2 b2
   rwa [← kA,qem] at this
where plainF_le {g:TypeId→Bool}:∀ {fs:List Field} {off n:Nat},Yr P g fs off n = true→off≤n
 | [],off,n,h=>by simp only [Yr,beq_iff_eq] at h;omega
 | f :: fs,off,n,h=>by
  simp only [Yr,zL] at h;have:=plainF_le h.2;omega
def Wok (P:Program) (t:TypeId) (d:DataW H):Prop:= ∀ k,k∈d.weights P t→k≤reachBytes
theorem qez {e:TypeId}:∀ {l:List (DataW H)} {d:DataW H},d∈l→∀ k,k∈d.weights P e→k∈DataW.weightsAll P e l
 | [],_,h,_,_=>by cases h
 | a :: l,d,h,k,hk=>by
  unfold DataW.weightsAll;rcases List.mem_cons.1 h with rfl | h
  ·exact qaj _ hk
  ·exact List.mem_append_right _ (qez h k hk)
theorem qg5:∀ {ts:List TypeId} {l:List (DataW H)} {i:Nat} {t:TypeId} {d:DataW H},ts[i]? = some t→l[i]? = some d→∀ k,k∈d.weights P t→k∈DataW.weightsEach P ts l
 | [],_,i,_,_,h,_,_,_=>by simp at h
 | t :: ts,[],i,_,_,_,h,_,_=>by simp at h
 | t :: ts,a :: l,0,u,d,h,g,k,hk=>by
  simp at h g;subst h g;unfold DataW.weightsEach;exact qaj _ hk
 | t :: ts,a :: l,i+1,u,d,h,g,k,hk=>by
  unfold DataW.weightsEach;exact List.mem_append_right _ (qg5 (i:=i) (by simpa using h) (by simpa using g) k hk)
theorem qgD:∀ (n fuel:Nat) (t:TypeId) (cs:List Value) (x:DataW H × List MemPlace),Ks P n t = true→Wok P t x.1→DataW.trod enc P W 0 (fun _=>true) true fuel t cs = some x →
  ∃ ds,vS P n t ds∧VI W ds cs
 | 0,_,_,_,_,h,_,_=>by simp [Ks] at h
 | n+1,fuel,t,cs,x,hp,hw,h=>by
  have ih:=qgD n;unfold Ks at hp;unfold vS;cases hu:P.underlying t with
  | none=>rw [hu] at hp;simp at hp
  | some u =>
  rw [hu] at hp;cases u with
  | bool =>
   obtain ⟨b,rfl,_⟩:=DataW.trod_bool hu h;exact ⟨_,⟨b,rfl⟩,qct rfl (.bool _)⟩
  | int k =>
   obtain ⟨b,rfl,_,hw⟩:=DataW.trod_int hu h;exact ⟨_,⟨b,rfl,hw⟩,qct rfl (.int _ _)⟩
  | string =>
   obtain ⟨s,rfl,_,hw⟩:=DataW.trod_string hu h;refine ⟨_,⟨s.data.toList,rfl,by simpa using hw⟩,qct rfl ?_⟩;have:=Rep.str (ok:=(· < W.heap.size)) (w:=W) (ι:=zo) (H:=[]) s.data.toList;simpa using this
  | slice e =>
   simp only at hp ⊢;rcases DataW.trod_slice hu h with ⟨rfl,_⟩ | ⟨a,len,cap,elems,rest,m,rfl,rfl,hx,_,qJ,hcm,zJ,qe,_⟩
   ·exact ⟨_,.inl rfl,qct rfl .vnil⟩
   ·have hwe:∀ k,k∈(elems.length+rest.length) * P.bytesOf e :: (DataW.weightsAll P e (elems.map (·.1)) ++ DataW.weightsAll P e (rest.map (·.1)))→k≤reachBytes:=by
     intro k hk;refine hw k ?_;rw [hx];unfold DataW.weights;rw [hu];simp only [List.length_map];exact hk
    have zB:=hwe _ (Za ..)
    have hrow:∀ i,i < len→∃ ds,vS P n e ds∧ds.length = P.cellsOf e∧(∀ d,d∈ds→zn d = true)∧∀ (j:Nat) d,ds[j]? = some d→∃ v,W.cell? (a.add (i * P.cellsOf e+j)) = some v∧Rep (· < W.heap.size) W zo [] d v:=by
     intro i hi;have hg:=qe i hi;rw [qU (by omega)] at hg;cases hcs:W.cells? 0 (a.add (i * P.cellsOf e)) (P.cellsOf e) with
     | none=>rw [hcs] at hg;simp at hg
     | some cs =>
      rw [hcs,VG] at hg;have X3:Wok P e elems[i].1:=fun k hk=>hwe k (kS _ (qaj _ (qez (List.mem_map_of_mem (vQ _)) k hk)));obtain ⟨ds,d1,d2,d3,d4⟩:=ih m e cs _ hp X3 hg;obtain ⟨_,c2,c3⟩:=World.cells?_some hcs;refine ⟨ds,d1,by rw [d2,c2],d3,fun j d hj=>?_⟩;have zm:j < cs.length:=(by rw [← d2];exact (List.getElem?_eq_some_iff.1 hj).1);refine ⟨cs[j],?_,?_⟩
      ·rw [← Addr.add_add,c3 j (by omega),qU zm]
      ·have:=d4 j d hj
       rwa [jd,qU zm,Zw] at this
    have jH:∀ k,k≤len→∃ ls:List (List D),ls.length = k∧(∀ l,l∈ls→l.length = P.cellsOf e∧vS P n e l)∧(∀ d,d∈ls.flatten→zn d = true)∧ls.flatten.length = k * P.cellsOf e ∧
      ∀ (j:Nat) d,ls.flatten[j]? = some d→∃ v,W.cell? (a.add j) = some v∧Rep (· < W.heap.size) W zo [] d v:=by
     intro k
     induction k with
     | zero=>intro _;exact ⟨[],rfl,by simp,by simp,by simp,by simp⟩
     | succ k ihk =>
      intro hk;obtain ⟨ls,l1,l2,l3,l4,l5⟩:=ihk (by omega);obtain ⟨ds,d1,d2,d3,d4⟩:=hrow k (by omega);refine ⟨ls ++ [ds],by simp [l1],fun l hl=>?_,?_,?_,?_⟩
      ·rcases List.mem_append.1 hl with h | h
       ·exact l2 l h
       ·rw [List.mem_singleton.1 h];exact ⟨d2,d1⟩
      ·intro d hd;rw [List.flatten_append] at hd;rcases List.mem_append.1 hd with h | h
       ·exact l3 d h
       ·exact d3 d (by simpa using h)
      ·rw [List.flatten_append,qX,l4,QZ,Nat.one_mul];simp [d2]
      ·intro j d hj;rw [List.flatten_append] at hj;by_cases qi:j < ls.flatten.length
       ·rw [jX qi] at hj;exact l5 j d hj
       ·rw [ku (by omega)] at hj;rw [l4] at hj qi;have vG:ds[j - k * P.cellsOf e]? = some d:=(by simpa using hj);obtain ⟨v,v1,v2⟩:=d4 _ d vG;refine ⟨v,?_,v2⟩;rw [← v1];congr 2;omega
    obtain ⟨ls,l1,l2,l3,l4,l5⟩:=jH len (qv _);refine ⟨_,.inr ⟨ls,rfl,⟨by rw [l1];omega,by rw [l1,← zJ];exact jA (qah _ (Nat.le_add_right _ _)) zB⟩,l2⟩,qct rfl ?_⟩;rw [l1];refine .vsl a (fun j=>(W.cell? (a.add j)).getD undef) (fun d hd=>?_) l3 (fun j d hj=>?_) (fun j d hj=>?_) qJ
    ·obtain ⟨j,hj⟩:=List.mem_iff_getElem?.1 hd;obtain ⟨v,v1,_⟩:=l5 j d hj;have:=qbv v1
     rwa [qaF] at this
    ·obtain ⟨v,v1,_⟩:=l5 j d hj;rw [v1];rfl
    ·obtain ⟨v,v1,v2⟩:=l5 j d hj;rw [v1];exact v2
  | array m e =>
   simp only [zL,beq_iff_eq] at hp ⊢;obtain ⟨xs,k,rfl,hx,hl,Xz,hg⟩:=DataW.trod_array hu h
   have:=qkq (W:=W) (sz:=P.cellsOf e) (Q:=vS P n e) m 0 cs (by rw [hl,hp.2];omega) (fun i hi=>by
    rw [Zx];have vj:=hg i hi;rw [qU (by omega)] at vj;exact ih k e _ _ hp.1 (fun j hj=>hw j (by rw [hx];unfold DataW.weights;rw [hu];exact qez (List.mem_map_of_mem (vQ _)) j hj)) vj)
   obtain ⟨ls,l1,l2,l3⟩:=this;exact ⟨ls.flatten,⟨ls,rfl,l1,l2⟩,by simpa using l3⟩
  | struct fs =>
   simp only at hp ⊢;obtain ⟨xs,k,rfl,hx,hl,Xz,hg⟩:=DataW.trod_struct hu h;rw [← hl] at hp
   obtain ⟨ds,d1,d2⟩:=qj7 (W:=W) (Q:=vS P n) fs.toList 0 cs hp (fun f hf hgf=>by
    obtain ⟨i,hi⟩:=List.mem_iff_getElem?.1 hf;have Qe:fs[i]? = some f:=(by simpa using hi);have vj:=hg i f Qe;have qi:i < xs.length:=(by rw [Xz];exact (Array.getElem?_eq_some_iff.1 Qe).1);rw [qU qi] at vj
    exact ih k f.type _ _ hgf (fun j hj=>hw j (by
     rw [hx];unfold DataW.weights;rw [hu];exact qg5 (i:=i) (by rw [Zc,hi];rfl) (by rw [Zc,qU qi];rfl) j hj)) vj)
   exact ⟨ds,d1,by simpa using d2⟩
  | _=>simp at hp
theorem qdc {n:Nat} {t:TypeId} {v:Value} {d:DataW H} {ps:List MemPlace} (hp:Ks P n t = true) (h:DataW.Trod enc P W 0 (fun _=>true) true t v d ps∧Wok P t d) :
  ∃ ds,vS P n t ds∧VI W ds v.cells.toList:=by
 obtain ⟨⟨fuel,hf⟩,hw⟩:=h;exact qgD n fuel t _ _ hp hw hf
end
end Go.Ev
namespace Go.Ev
open Go Go.Proofs Go.RowKit Go.ChangeShapes
theorem qeh (a:Addr):a.add 0 = a:=by
 obtain ⟨b,o,p⟩:=a;cases p <;> simp [Addr.add]
theorem qeQ {P:Program} {W:World} {name:String} {k:IntKind} {zs:List Int} {g:Nat} (h:Lib.TabIs P W name k zs) (hg:P.globalNamed name = some g) :
  Rep (· < W.heap.size) W zo [] (.vptr (zs.map (.int k))) (.pointer (some ⟨g,0,none⟩)):=by
 have hc:∀ i,i < zs.length→W.cell? ⟨g,i,none⟩ = some (.int k (zs.getD i 0)):=fun i hi=>h.cell hg i hi;refine .vptr _ (fun j=>.int k (zs.getD j 0)) (fun d hd=>?_) (fun d hd=>?_) (fun j d hj=>?_) (fun j d hj=>?_)
 ·obtain ⟨j,hj⟩:=List.mem_iff_getElem?.1 hd
  have qi:j < zs.length:=by
   have:=(List.getElem?_eq_some_iff.1 hj).1;simpa using this
  have:=qbv (hc j qi);exact this
 ·obtain ⟨z,_,rfl⟩:=List.mem_map.1 hd;rfl
 ·have qi:j < zs.length:=by
   have:=(List.getElem?_eq_some_iff.1 hj).1;simpa using this
  rw [Jv,Zx];exact hc j qi
 ·have qi:j < zs.length:=by
   have:=(List.getElem?_eq_some_iff.1 hj).1;simpa using this
  rw [Zc,qU qi,zT,qs] at hj;subst hj;rw [jd,qU qi,Zw];exact .int k _
theorem qh8 {P:Program} {W:World} {name:String} {g:Nat} {tp:TypeId} {text:List UInt8} (hg:P.globalNamed name = some g)
  (h:∃ (a:Addr) (s:ByteArray),W.var? P name = some #[.iface tp (.pointer (some a))]∧W.cell? a = some (.string s)∧s.data.toList = text∧s.size≤maxLen) :
  Rep (· < W.heap.size) W zo [] (.vptr [.iface tp (.vptr [.str text])]) (.pointer (some ⟨g,0,none⟩)):=by
 obtain ⟨a,s,hv,hc,rfl,_⟩:=h
 have Q8:W.cell? ⟨g,0,none⟩ = some (.iface tp (.pointer (some a))):=by
  have:=World.var?_cell hg hv 0;simpa using this
 have one:∀ {d e:D} {j:Nat},[e][j]? = some d→j = 0∧d = e:=fun {d e j} hj=>by
  cases j with
  | zero=>simp at hj;exact ⟨rfl,hj.symm⟩
  | succ j=>simp at hj
 have Vl:Rep (· < W.heap.size) W zo [] (.vptr [.str s.data.toList]) (.pointer (some a)):=by
  refine .vptr a (fun _=>.string s) (fun d hd=>qbv hc) (fun d hd=>by rw [List.mem_singleton.1 hd];rfl) (fun j d hj=>?_) (fun j d hj=>?_)
  ·obtain ⟨rfl,rfl⟩:=one hj;rw [qeh];exact hc
  ·obtain ⟨rfl,rfl⟩:=one hj;have:=Rep.str (ok:=(· < W.heap.size)) (w:=W) (ι:=zo) (H:=[]) s.data.toList;simpa using this
 refine .vptr _ (fun _=>.iface tp (.pointer (some a))) (fun d hd=>qbv Q8) (fun d hd=>by rw [List.mem_singleton.1 hd];rfl) (fun j d hj=>?_) (fun j d hj=>?_)
 ·obtain ⟨rfl,rfl⟩:=one hj;rw [qeh];exact Q8
 ·obtain ⟨rfl,rfl⟩:=one hj;exact .iface Vl
def qmc:String:=String.ofList [Char.ofNat 42]
theorem qjW {P:Program} {nm base:String} {tp:TypeId} (hs:qmc ++ base = nm)
  (hrows:((List.range P.types.size).all fun u=>P.typeName? 3 u != some nm || u == tp) = true)
  (hnamed:((List.range P.types.size).all fun e=>P.typeName? 2 e != some base || (match (P.info? e).map (·.desc) with | some (TypeDesc.named _ _)=>true | _=>false)) = true)
  (hstar:base.toList.head?≠some (Char.ofNat 42)):∀ u,P.typeName? 3 u = some nm→u = tp:=by
 subst hs;intro u hu;exact typeName_ptr_named (nm:=base) hrows hnamed hstar u hu
end Go.Ev
namespace Go.Ev
open Go Go.Proofs Go.RowKit
section
variable {X:Cx} {ok:Nat→Prop} {w w':World} {ι:qz} {H:qd}
theorem qgt {n:Nat} (hn:n≤H.length) (hb:Below w.heap.size w w'):Evol n ok w ι H ok w' ι H where
 os:=hb.os
 tape:=hb.tape
 output:=hb.output
 size:=hb.size
 frame b qi _:=hb.block b qi
 okU _ h:=h
 okN _ h _:=.inl h
 nle:=⟨hn,hn⟩
 heap _ _ ds h:=⟨ds,h,qv _,fun _=>rfl⟩
 own i ds _ s h1 h2 _:=⟨i,ds,s,h1,h2⟩
theorem qkL (hs:Sim X ok w ι H) (hb:Below w.heap.size w w'):Sim X ok w' ι H:=by
 have hev:Evol H.length ok w ι H ok w' ι H:=qgt (qv _) hb;refine ⟨fun b h=>jr (hs.okS b h) hb.size,fun g cs hg=>(((hs.glob g cs hg).lift (ι:=ι) (H:=H)).evol hs hev rfl).free rfl _ _,hs.inj,fun i ds hd=>?_⟩;obtain ⟨b,arr,e,fr,q1,q2,q3,q4,q5,q6,q7,q8⟩:=hs.blk i ds hd
 have qi:b < w.heap.size:=by
  rcases Yg b w.heap.size with h | h
  ·exact h
  ·rw [qcD h] at q3;cases q3
 exact ⟨b,arr,e,fr,q1,q2,by rw [hb.block b qi];exact q3,q4,q5,q6,q7,fun j d hj=>(q8 j d hj).evol hs hev (q8 j d hj).closed⟩
theorem qdS {f:Nat} {vs:List Value} {r:D} (hs:Sim X ok w ι H) (JC:(callFunc f vs.toArray).run X.P w = .ok (.enter f vs.toArray) w)
  (hc:Calls X.P f vs.toArray w fun e w'=>∃ v,e = .returned v∧Rep ok w' ι H r v∧Below w.heap.size w w'):Goes X.P (callFunc f vs.toArray) w (CallPost X ok w ι H r H):=by
 unfold Goes;rw [JC];refine hc.mono ?_;rintro e w' ⟨v,rfl,hr,hb⟩;exact ⟨v,rfl,ι,ok,qkL hs hb,hr,qgt (qv _) hb,fun i ds hi hd=>by rw [qe,List.getElem?_eq_none hi] at hd;cases hd⟩
theorem qtw {g:Nat} {k:IntKind} {m:Int} (hs:Sim X ok w ι H) (hg:X.glob g = some [.int k m]):w.cell? ⟨g,0,none⟩ = some (.int k m):=by
 have h:=hs.glob g _ hg;cases h with
 | vptr a f ha hc hr h =>
  have h1:=hr 0 (.int k m) rfl;have h2:=h 0 (.int k m) rfl;rw [qeh] at h1;generalize f 0 = v at h1 h2;cases h2;exact h1
theorem qnl {W:World} {g:Nat} {k:IntKind} {m:Int} (h:W.cell? ⟨g,0,none⟩ = some (.int k m)):Rep (· < W.heap.size) W zo [] (.vptr [.int k m]) (.pointer (some ⟨g,0,none⟩)):=by
 refine .vptr _ (fun _=>.int k m) (fun d hd=>qbv h) (fun d hd=>by rw [List.mem_singleton.1 hd];rfl) (fun j d hj=>?_) (fun j d hj=>?_)
 ·cases j with
  | zero=>rw [qeh];exact h
  | succ j=>simp at hj
 ·cases j with
  | zero=>simp at hj;subst hj;exact .int k m
  | succ j=>simp at hj
end
class MaxL where
 m:Int
end Go.Ev
namespace Go.Ev
open Go Go.Proofs Go.RowKit Go.Shelf
section
variable {X:Cx} {ρ:Ren} {ok:Nat→Prop} {w:World} {ι:qz} {H H':qd} {r:D} {args:List D} {vs:List Value}
end
end Go.Ev
namespace Go.Ev
open Go Go.Proofs Go.RowKit Go.Shelf
def QN (sub:List UInt8):List UInt8→Nat→Int
 | [],n=>if sub.isEmpty then n else -1
 | b :: l,n=>if sub.isPrefixOf (b :: l) then n else QN sub l (n+1)
theorem qiX (sub:List UInt8):∀ (l:List UInt8) (n:Nat),QN sub l n = if Lib.index l sub = -1 then -1 else Lib.index l sub+n
 | [],n=>by
  simp only [QN,Lib.index];by_cases h:sub.isEmpty = true <;> simp [h]
 | b :: l,n=>by
  have hg:=Lib.index_ge l sub;simp only [QN,Lib.index,qiX sub l (n+1)];by_cases hp:sub.isPrefixOf (b :: l) = true
  ·simp [hp]
  ·by_cases h:Lib.index l sub = -1
   ·simp [h,hp]
   ·have h2:¬ Lib.index l sub+1 = -1:=(by omega);simp only [beq_iff_eq,h,h2,hp,if_false,kB];omega
theorem qsC (sub l:List UInt8):Lib.index l sub = QN sub l 0:=by
 rw [qiX];split
 ·assumption
 ·simp
def qcw:List D→qd→Option (D × qd)
 | [.str s,.str sub],H=>if s.length < 4294967281 then some (.int .i64 (QN sub s 0),H) else none
 | _,_=>none
def qcx:List D→qd→Option (D × qd)
 | [.str s],H=>if s.length≤281474976710656 then some (.str s,H) else none
 | _,_=>none
section
variable {X:Cx} {ρ:Ren} {ok:Nat→Prop} {w:World} {ι:qz} {H H':qd} {r:D} {args:List D} {vs:List Value}
theorem qh9 {s:List UInt8} (hv:RepL ok w ι H [.str s] vs):vs = [.string ⟨s.toArray⟩]:=by
 obtain ⟨v,us,rfl,h1,h2⟩:=Zz hv;cases qau h2;cases h1;rfl
theorem qnm {s t:List UInt8} (hv:RepL ok w ι H [.str s,.str t] vs):vs = [.string ⟨s.toArray⟩,.string ⟨t.toArray⟩]:=by
 obtain ⟨v,us,rfl,h1,h2⟩:=Zz hv;cases qh9 h2;cases h1;rfl
theorem quO {m:Int} (L:Lays.n219 X.P ρ) (hg:X.glob (ρ.g 1) = some [.int .i64 m]) (h:qcw args H = some (r,H')) (hs:Sim X ok w ι H) (hv:RepL ok w ι H args vs) :
  Goes X.P (callFunc (ρ.f 219) vs.toArray) w (CallPost X ok w ι H r H'):=by
 have he:∀ args w,(callFunc (ρ.f 219) args).run X.P w = .ok (.enter (ρ.f 219) args) w:=Go.Proofs.enters_of L.f219 (by kernel_rfl) rfl;unfold qcw at h;split at h
 ·rename_i s sub;split at h
  ·rename_i hlen;injection h with h;injection h with h1 h2;subst h1;subst h2;cases qnm hv;refine qdS hs (he _ _) ((Any.stringslite_Index L ⟨s.toArray⟩ ⟨sub.toArray⟩ m w (by simpa [ByteArray.size] using hlen) (qtw hs hg)).mono ?_);rintro e w' ⟨rfl,rfl⟩;refine ⟨_,rfl,?_,Below.refl _ _⟩;rw [qsC];exact .int .i64 _
  ·cases h
 ·cases h
theorem quP (L:LaysM.n316 X.P ρ) (h:qcx args H = some (r,H')) (hs:Sim X ok w ι H) (hv:RepL ok w ι H args vs) :
  Goes X.P (callFunc (ρ.f 316) vs.toArray) w (CallPost X ok w ι H r H'):=by
 have he:∀ args w,(callFunc (ρ.f 316) args).run X.P w = .ok (.enter (ρ.f 316) args) w:=Go.Proofs.enters_of L.f316 (by kernel_rfl) rfl;unfold qcx at h;split at h
 ·rename_i s;split at h
  ·rename_i hlen;injection h with h;injection h with h1 h2;subst h1;subst h2;cases qh9 hv;refine qdS hs (he _ _) ((Any.stringslite_Clone L ⟨s.toArray⟩ w (by simpa [ByteArray.size] using hlen)).mono ?_);rintro e w' ⟨rfl,hb⟩;exact ⟨_,rfl,.str s,hb⟩
  ·cases h
 ·cases h
end
end Go.Ev
namespace Go.Ev
open Go Go.Proofs Go.RowKit Go.Shelf
def Z4 (c:UInt8):List UInt8→Nat→Int
 | [],_=>-1
 | b :: l,n=>if b = c then n else Z4 c l (n+1)
theorem qiY (c:UInt8):∀ (l:List UInt8) (n:Nat),Z4 c l n = if Lib.indexByte l c = -1 then -1 else Lib.indexByte l c+n
 | [],n=>by simp [Z4,Lib.indexByte]
 | b :: l,n=>by
  have hg:=Lib.indexByte_ge l c;simp only [Z4,Lib.indexByte,qiY c l (n+1)];by_cases hp:b = c
  ·simp [hp]
  ·by_cases h:Lib.indexByte l c = -1
   ·simp [h,hp]
   ·have h2:¬ Lib.indexByte l c+1 = -1:=(by omega);simp only [beq_iff_eq,h,h2,hp,if_false];omega
theorem qsD (c:UInt8) (l:List UInt8):Lib.indexByte l c = Z4 c l 0:=by
 rw [qiY];split
 ·assumption
 ·simp
def qcd:List D→Option D
 | [.str s,.int .u8 c]=>some (.int .i64 (Z4 (UInt8.ofNat c.toNat) s 0))
 | _=>none
def qcz:List D→Option D
 | [.str s,.int .u8 c]=>some (.int .i64 (s.count (UInt8.ofNat c.toNat):Nat))
 | _=>none
def qcv:List D→qd→Option (D × qd)
 | [.str s,.int .i64 c],H=>if 0≤c∧c≤100000∧s.length * c.toNat≤140737488355328 then some (.str (Lib.repeatL s c.toNat),H) else none
 | _,_=>none
section
variable {X:Cx} {ρ:Ren} {ok:Nat→Prop} {w:World} {ι:qz} {H H':qd} {r:D} {args:List D} {vs:List Value}
theorem qeS {s:List UInt8} {k:IntKind} {c:Int} (hv:RepL ok w ι H [.str s,.int k c] vs):vs = [.string ⟨s.toArray⟩,.int k c]:=by
 obtain ⟨v,us,rfl,h1,h2⟩:=Zz hv;obtain ⟨v2,us2,rfl,h3,h4⟩:=Zz h2;cases qau h4;cases h1;cases h3;rfl
theorem qsE {P : Program} {f : Nat} {fn : Func} (hf : P.funcs[f]? = some fn) (hn : fn.body = none) (hng : (fn.name == "runtime.NumGoroutine") = false)
  (h1:Extern.findNext fn = none) (h2:Extern.find fn = some Extern.BytealgIndexByte.indexByte) {d:D}
  (h:qcd args = some d) (hv:RepL ok w ι H args vs):∃ v,(callFunc f vs.toArray).run P w = .ok (.value v) w∧Rep ok w ι H d v∧idFree d = true:=by
 unfold qcd at h;split at h
 ·rename_i s c;injection h with h;subst h;cases qeS hv;refine ⟨.int .i64 (Z4 (UInt8.ofNat c.toNat) s 0),?_,.int _ _,rfl⟩;rw [run_callFunc_extern hf hng (by rw [hn];rfl) h1 h2,Lib.run_indexByteString,qsD];rfl
 ·cases h
theorem qvp {P : Program} {f : Nat} {fn : Func} (hf : P.funcs[f]? = some fn) (hn : fn.body = none) (hng : (fn.name == "runtime.NumGoroutine") = false)
  (h1:Extern.findNext fn = none) (h2:Extern.find fn = some Extern.BytealgCount.count) {d:D}
  (h:qcz args = some d) (hv:RepL ok w ι H args vs):∃ v,(callFunc f vs.toArray).run P w = .ok (.value v) w∧Rep ok w ι H d v∧idFree d = true:=by
 unfold qcz at h;split at h
 ·rename_i s c;injection h with h;subst h;cases qeS hv;refine ⟨.int .i64 (s.count (UInt8.ofNat c.toNat):Nat),?_,.int _ _,rfl⟩;rw [run_callFunc_extern hf hng (by rw [hn];rfl) h1 h2,Lib.run_countString];rfl
 ·cases h
theorem quN (L:Lays.n105 X.P ρ) (E:Builder.Extra X.P ρ) (h:qcv args H = some (r,H')) (hs:Sim X ok w ι H) (hv:RepL ok w ι H args vs) :
  Goes X.P (callFunc (ρ.f 105) vs.toArray) w (CallPost X ok w ι H r H'):=by
 have he:∀ args w,(callFunc (ρ.f 105) args).run X.P w = .ok (.enter (ρ.f 105) args) w:=Go.Proofs.enters_of L.f105 (by kernel_rfl) rfl;unfold qcv at h;split at h
 ·rename_i s c;split at h
  ·rename_i hc;injection h with h;injection h with h1 h2;subst h1;subst h2;cases qeS hv;obtain ⟨n,rfl⟩:∃ n:Nat,c = (n:Int):=⟨c.toNat,by omega⟩;refine qdS hs (he _ _) ((Any.strings_Repeat L E ⟨s.toArray⟩ n w (by omega) (by simpa [ByteArray.size] using hc.2.2)).mono ?_);rintro e w' ⟨rfl,hb⟩;exact ⟨_,rfl,.str _,hb⟩
  ·cases h
 ·cases h
end
end Go.Ev
namespace Go.Ev
open Go Go.Proofs Go.RowKit
class TxtC where
 t:Nat→List D→qd→Option (D × qd)
def Cx.add (X:Cx) (T:Nat) (t:List D→qd→Option (D × qd)):Cx :=
 { X with con:=fun f=>if f = T then t else X.con f,bad:=fun f=>if f = T then true else X.bad f }
section
variable {X:Cx} {T:Nat} {t:List D→qd→Option (D × qd)}
end
end Go.Ev
namespace Go.Ev
open Go Go.Proofs Go.RowKit
section
variable {X:Cx} {ok:Nat→Prop} {w w':World} {ι:qz} {H H':qd}
theorem qk9 {a:Addr} {j:Nat} {v:Value} (hk:w'.heap[a.block]? = w.heap[a.block]?) (h:w.cell? (a.add j) = some v):w'.cell? (a.add j) = some v:=by
 rw [World.cell?_of_block (w:=w)]
 ·exact h
 ·rw [qaF];exact hk
theorem Rep.same {d:D} {v:Value} (h:Rep ok w ι H d v) (hk:∀ b,ok b→w'.heap[b]? = w.heap[b]?):Rep ok w' ι H d v:=by
 induction h with
 | bool b=>exact .bool b
 | int k n=>exact .int k n
 | str s=>exact .str s
 | nilp=>exact .nilp
 | nilf=>exact .nilf
 | nili=>exact .nili
 | raw v=>exact .raw v
 | agg hl hc h ih=>exact .agg hl hc fun j d hj=>ih j d hj
 | tup hl h ih=>exact .tup hl fun j d hj=>ih j d hj
 | vptr a f ha hc hr h ih=>exact .vptr a f ha hc (fun j d hj=>qk9 (hk _ (ha d (mem_of_get? hj))) (hr j d hj)) fun j d hj=>ih j d hj
 | optr a hi h=>exact .optr a hi h
 | vnil=>exact .vnil
 | vsl a f ha hc hr h qJ ih=>exact .vsl a f ha hc (fun j d hj=>qk9 (hk _ (ha d (mem_of_get? hj))) (hr j d hj)) (fun j d hj=>ih j d hj) qJ
 | osl a hi h qJ=>exact .osl a hi h qJ
 | fn hl h ih=>exact .fn hl fun j d hj=>ih j d hj
 | iface h ih=>exact .iface ih
theorem qhe (hs:Sim X ok w ι H) (zx:w.heap.size≤w'.heap.size) (hk:∀ b,ok b→w'.heap[b]? = w.heap[b]?) (hn:∀ i ds b s,qe H i = some ds→ι i = some (b,s)→w'.heap[b]? = w.heap[b]?):Sim X ok w' ι H:=by
 refine ⟨fun b h=>jr (hs.okS b h) zx,fun g cs hg=>(hs.glob g cs hg).same hk,hs.inj,fun i ds hd=>?_⟩;obtain ⟨b,arr,e,fr,q1,q2,q3,q4,q5,q6,q7,q8⟩:=hs.blk i ds hd;exact ⟨b,arr,e,fr,q1,q2,by rw [hn i ds b _ hd q1];exact q3,q4,q5,q6,q7,fun j d hj=>(q8 j d hj).same hk⟩
theorem qfR {F:qO} (hF:Zv X F) {nt:Nat} {drw:Bool} {ops:Array Oper} {Q:Exit→Act→World→Prop} {r:List Oper}:∀ {l:List Oper} {e e':qn} {H H':qd} {ok:Nat→Prop} {w:World} {ι:qz} {a:Act},jw X F nt drw ops l e H = some (e',H') →
  Sim X ok w ι H→EnvRep ok w ι H e a.tmps→nt≤a.tmps.size→(∀ a' w',Out X H.length ok w ι H a e' H' a' w'→wpList X.P ops Q r a' w')→wpList X.P ops Q (l ++ r) a w
 | [],e,e',H,H',ok,w,ι,a,h,hs,he,hn,hQ=>by
  simp only [jw,qs,qK] at h;obtain ⟨rfl,rfl⟩:=h;exact hQ a w ⟨rfl,rfl,ι,ok,hs,he,.refl _ (qv _)⟩
 | o :: l,e,e',H,H',ok,w,ι,a,h,hs,he,hn,hQ=>by
  simp only [jw] at h;split at h
  ·rename_i vk hg;split at h
   ·rename_i d H1 ho;have hw:=qbB he hg;simp only [Jx,wpList,hw,if_true];refine .inl ?_;unfold Oper.wp;refine Goes.upon ((qfg hF hs he ho).mono fun v w1 hp=>?_);obtain ⟨ι1,ok1,k1,k2,k3⟩:=hp;obtain ⟨s1,s2⟩:=qax a o.dst v;refine qfR hF h k1 (qdd (he.evol' hs k3) k2 hn vk) (by omega) fun a2 w2 jp=>hQ a2 w2 ?_;obtain ⟨t1,t2,ι2,ok2,u1,u2,u3⟩:=jp;exact ⟨by omega,by rw [t2,s2],ι2,ok2,u1,u2,k3.trans (u3.mono k3.nle.2)⟩
   ·cases h
  ·rename_i vk hg;have hw:=qbB he hg;simp only [Jx,wpList,hw,kB,if_false];obtain ⟨s1,s2⟩:=qax a o.dst undef;refine qfR hF h hs (qdd he qcJ hn vk) (by omega) fun a2 w2 jp=>hQ a2 w2 ?_;obtain ⟨t1,t2,rest⟩:=jp;exact ⟨by omega,by rw [t2,s2],rest⟩
  ·cases h
theorem qkt (hG:Good X) {f nt n0:Nat} {c:Code} {e e':qn} {ex:Ex} {a:Act} (h:qE X f nt n0 c e H = some (ex,e',H')) (hok:kY X f c = true) (hn:n0≤H.length) (hs:Sim X ok w ι H) (he:EnvRep ok w ι H e a.tmps) (ht:nt≤a.tmps.size) :
  c.wp X.P (CQ X n0 ok w ι H a ex e' H') a w:=by
 obtain ⟨n,hn'⟩:=code_some.1 h;exact (qha hG n).2 f nt n0 c e e' H H' ex ok w ι a hn' hok hn hs he ht
end
end Go.Ev
namespace Go.Ev
open Go Go.Proofs Go.RowKit
def qlb (X:Cx) (P:Nat→Nat→Nat→Code→qn→D→Prop) (o:Op) (e:qn) (d:D):Prop :=
 (∃ x t d0,o = .panic x∧qB X e x = some (.iface t d0)∧d = .iface t d0) ∨
 (∃ c g f caps args fn cd,o = .call c∧c.callee = .value g∧j5 X e c.args.toList = some args∧qB X e g = some (.fn f caps)∧X.P.funcs[f]? = some fn∧fn.body = some cd∧X.bad f = false∧(args ++ caps).all idFree = true ∧
  P f fn.ntmps 0 cd (jI 0 (args ++ caps)) d)
def PanC (X:Cx):Nat→Nat→Nat→Nat→Code→qn→qd→D→qd→Prop
 | 0,_,_,_,_,_,_,_,_=>False
 | n+1,f,nt,n0,c,e,H,d,H'=>match c with
  | .region id ops false=>∃ e1 H1 l1 o l2 e2,enter X f n0 id e H = some (e1,H1)∧ops.toList = l1 ++ o :: l2∧jw X (call X) nt (JX X f id false ops) ops l1 e1 H1 = some (e2,H')∧js ops e2 o.guard = some true∧idFree d = true∧vFree d = true ∧
    qlb X (fun f nt n0 c e d=>∃ L,PanC X n f nt n0 c e [] d L) o.op e2 d
  | .seq a b=>PanC X n f nt n0 a e H d H'∨∃ e1 H1,qE X f nt n0 a e H = some (.normal,e1,H1)∧PanC X n f nt n0 b e1 H1 d H'
  | .cond c a b=>∃ t,qB X e c = some (.bool t)∧PanC X n f nt n0 (if t then a else b) e H d H'
  | .block _ c | .scope c=>PanC X n f nt n0 c e H d H'
  | .loop c=>PanC X n f nt n0 c e H d H'∨∃ e1 H1,qE X f nt n0 c e H = some (.normal,e1,H1)∧PanC X n f nt n0 (.loop c) e1 H1 d H'
  | _=>False
def Pan (X:Cx) (f:Nat) (args:List D) (d:D):Prop :=
 ∃ n fn c L,X.P.funcs[f]? = some fn∧fn.body = some c∧X.bad f = false∧args.all idFree = true∧PanC X n f fn.ntmps 0 c (jI 0 args) [] d L
section
variable {X:Cx} {ok ok':Nat→Prop} {w w':World} {ι:qz} {H H':qd}
def GoesP (P:Program) (s:Sem Next) (w:World) (R:Value→World→Prop):Prop :=
 match s.run P w with
 | .ok (.enter f args) w'=>Calls P f args w' fun e w''=>∃ v,e = .panicked [{ v,recovered:=false }]∧R v w''
 | .halt (.panic v) w'=>R v w'
 | _=>False
theorem GoesP.upon {P:Program} {o:Oper} {a:Act} {s:Sem Next} {next:Act→World→Prop} {Q:Exit→Act→World→Prop} (h:GoesP P s w fun v w'=>Q (.panic [{ v,recovered:=false }]) a w'):o.upon P a next Q (s.run P w):=by
 unfold GoesP at h;split at h
 ·rename_i f args w' hr;rw [hr];simp only [Oper.upon];exact h.mono fun e w'' ⟨v,h1,h2⟩=>by subst h1;exact h2
 ·rename_i v w' hr;rw [hr];exact h
 ·exact h.elim
theorem GoesP.mono {P:Program} {s:Sem Next} {R R':Value→World→Prop} (h:GoesP P s w R) (hr:∀ v w',R v w'→R' v w'):GoesP P s w R':=by
 unfold GoesP at *;split at h
 ·exact h.mono fun e w'' ⟨v,h1,h2⟩=>⟨v,h1,hr _ _ h2⟩
 ·exact hr _ _ h
 ·exact h.elim
def PQ (X:Cx) (n:Nat) (ok:Nat→Prop) (w:World) (ι:qz) (H:qd) (a:Act) (d:D) (H':qd) (x:Exit) (a':Act) (w':World):Prop :=
 a'.defers = a.defers∧∃ v ι' ok',x = .panic [{ v,recovered:=false }]∧Sim X ok' w' ι' H'∧Rep ok' w' ι' H' d v∧Evol n ok w ι H ok' w' ι' H'
theorem qnH {f : Nat} {fn : Func} {c : Code} {args : List D} {d : D} {L : qd} {vs : List Value} (hf : X.P.funcs[f]? = some fn) (hb : fn.body = some c) (hng : (fn.name == "runtime.NumGoroutine") = false)
  (hfree:args.all idFree = true) (hd:idFree d = true) (hvd:vFree d = true) (hs:Sim X ok w ι H) (hv:RepL ok w ι H args vs)
  (hC:∀ a:Act,EnvRep ok w zo [] (jI 0 args) a.tmps→fn.ntmps≤a.tmps.size→c.wp X.P (PQ X 0 ok w zo [] a d L) a w) :
  GoesP X.P (callFunc f vs.toArray) w fun v w'=>Sim X ok w' ι H∧Rep ok w' ι H d v∧Evol H.length ok w ι H ok w' ι H:=by
 have JC:(callFunc f vs.toArray).run X.P w = .ok (.enter f vs.toArray) w:=Go.Proofs.enters_of hf hng hb _ _;have hv':RepL ok w zo [] args vs:=⟨hv.1,fun j d hj=>(hv.2 j d hj).free (JO hfree d (mem_of_get? hj)) _ _⟩;unfold GoesP;rw [JC];simp only;refine calls_of_wp hf hb (wp_mono (hC ⟨vs.toArray ++ Array.replicate (fn.ntmps - vs.toArray.size) undef,[]⟩ ?_ ?_) ?_)
 ·intro t d ht;obtain ⟨_,h2⟩:=qef args 0 t d ht;rw [Nat.sub_zero] at h2;have qi:t < vs.length:=by rw [hv.1];exact (List.getElem?_eq_some_iff.1 h2).1
  refine ⟨by simp;omega,?_⟩;have:=hv'.2 t d h2;rw [zw,qcE (by simpa using qi)];simpa [jd] using this
 ·simp;omega
 ·rintro x a' w' ⟨hdf,v,ι1,ok1,rfl,k1,k2,k3⟩;refine ⟨hdf,v,rfl,?_⟩;have hfr:∀ b,b < w.heap.size→w'.heap[b]? = w.heap[b]?:=fun b hb=>k3.frame b hb (fun i ds s hd=>by simp [qe] at hd);refine ⟨qhe hs k3.size (fun b h=>hfr b (hs.okS b h)) (fun i ds b s hd hi=>hfr b (hs.lt hd hi)),(k2.free hd ι H).vfree hvd ok,⟨k3.os,k3.tape,k3.output,k3.size,fun b hb _=>hfr b hb,fun _ h=>h,fun _ h _=>.inl h,⟨qv _,qv _⟩,fun i _ ds hd=>⟨ds,hd,qv _,fun _=>rfl⟩,fun i ds _ s hd hi _=>⟨i,ds,s,hd,hi⟩⟩⟩
theorem PQ.trans {n:Nat} {a a1:Act} {w1:World} {H1:qd} {ok1:Nat→Prop} {ι1:qz} {d:D} (h2:a1.defers = a.defers) (h3:Evol n ok w ι H ok1 w1 ι1 H1) {x:Exit} {a2:Act} {w2:World}
  (h:PQ X n ok1 w1 ι1 H1 a1 d H' x a2 w2):PQ X n ok w ι H a d H' x a2 w2:=by
 obtain ⟨t,v,ι2,ok2,rfl,u1,u2,u3⟩:=h;exact ⟨by rw [t,h2],v,ι2,ok2,rfl,u1,u2,h3.trans u3⟩
theorem qnL (hG:Good X):∀ (n f nt n0:Nat) (c:Code) (e:qn) (H:qd) (d:D) (H':qd) (ok:Nat→Prop) (w:World) (ι:qz) (a:Act),PanC X n f nt n0 c e H d H'→kY X f c = true→n0≤H.length→Sim X ok w ι H→EnvRep ok w ι H e a.tmps→nt≤a.tmps.size →
  c.wp X.P (PQ X n0 ok w ι H a d H') a w:=by
 intro n
 induction n using Nat.strongRecOn with
 | _ n ih0 =>
 cases n with
 | zero=>intro f nt n0 c e H d H' ok w ι a h;exact h.elim
 | succ n =>
  have ih:=ih0 n (by omega);intro f nt n0 c e H d H' ok w ι a h hoc hn hs he vZ;cases c with
  | region id ops draw =>
   cases draw with
   | true=>exact h.elim
   | false =>
    obtain ⟨e1,H1,l1,o,l2,e2,zX,hl,hev,hg,hd,hvd,kx⟩:=h;obtain ⟨ok1,ι1,s1,s2,s3⟩:=qkc zX hn hs he;refine wp_region_list ?_;rw [hl];refine qfR (qgo hG) hev s1 s2 vZ fun a' w' jp=>?_;obtain ⟨t1,t2,ι2,ok2,u1,u2,u3⟩:=jp;have hw:=qbB u2 hg;simp only [wpList,hw,if_true];refine .inl ?_;have hev2:=s3.trans (u3.mono s3.nle.2);rcases kx with ⟨x,t,d0,ho,hx,rfl⟩ | ⟨c,g,f',caps,args,fn,cd,ho,hc,XN,hgf,hf,hb,hbad,hfree,L,hP⟩
    ·obtain ⟨v,hv,hr⟩:∃ v,a'.eval x = .iface t v∧Rep ok2 w' ι2 H' d0 v:=by
      have:=jk u1 u2 hx;generalize a'.eval x = y at this;cases this;exact ⟨_,rfl,by assumption⟩
     have hrun:(execOp a'.eval o).run X.P w' = .halt (.panic (.iface t v)) w':=by
      simp only [execOp,ho,hv];rfl
     unfold Oper.wp;rw [hrun,Oper.upon_panic];exact ⟨t2,_,ι2,ok2,rfl,u1,.iface hr,hev2⟩
    ·have hv:=qbV u1 u2 XN;have Xa:=jk u1 u2 hgf;generalize Q5:a'.eval g = cv at Xa;cases Xa with
     | @fn _ _ _ _ vs hl hh =>
      have e0:execOp a'.eval o = callFunc f' ((c.args.toList.map a'.eval) ++ vs.toList).toArray:=by
       simp only [execOp,ho,resolve,hc,Q5,Deferred.ofValue];simp only [pure_bind,invoke];congr 1;apply Array.ext';simp
      unfold Oper.wp;rw [e0];refine GoesP.upon ((qnH hf hb (hG.ng f' fn hf) hfree hd hvd u1 (RepL.append hv (qhA hl hh)) fun a2 he2 ht2=>ih f' fn.ntmps 0 cd _ [] d L ok2 w' zo a2 hP (hG.okc f' fn cd hf hb hbad) (qv _) (qhf u1) he2 ht2).mono fun v w2 hq=>?_);obtain ⟨q1,q2,q3⟩:=hq;exact ⟨t2,v,ι2,ok2,rfl,q1,q2,hev2.trans (q3.mono (jA s3.nle.2 u3.nle.2))⟩
  | seq x y =>
   simp only [kY,zL] at hoc;refine wp_seq ?_;rcases h with h | ⟨e1,H1,hx,h⟩
   ·refine wp_mono (ih f nt n0 x e H d H' ok w ι a h hoc.1 hn hs he vZ) ?_;rintro z a' w' ⟨t,v,ι',ok',rfl,r⟩;exact ⟨t,v,ι',ok',rfl,r⟩
   ·refine wp_mono (qkt hG hx hoc.1 hn hs he vZ) ?_;rintro z a1 w1 ⟨rfl,t1,t2,ι1,ok1,u1,u2,u3⟩;refine wp_mono (ih f nt n0 y e1 H1 d H' ok1 w1 ι1 a1 h hoc.2 u3.nle.2 u1 u2 (by omega)) ?_;exact fun z a2 w2 hq=>PQ.trans t2 u3 hq
  | cond c x y =>
   simp only [kY,zL] at hoc;obtain ⟨t,hc,h⟩:=h;refine wp_cond (qij hs he hc) (ih f nt n0 _ e H d H' ok w ι a h ?_ hn hs he vZ);cases t
   ·exact hoc.2
   ·exact hoc.1
  | block id c =>
   refine wp_block (wp_mono (ih f nt n0 c e H d H' ok w ι a h hoc hn hs he vZ) ?_);rintro z a' w' ⟨t,v,ι',ok',rfl,r⟩;exact ⟨t,v,ι',ok',rfl,r⟩
  | scope c =>
   refine wp_scope_straight (wp_mono (ih f nt n0 c e H d H' ok w ι a h hoc hn hs he vZ) ?_);rintro z a' w' ⟨t,v,ι',ok',rfl,r⟩;exact ⟨t,v,ι',ok',rfl,r⟩
  | loop c =>
   simp only [kY] at hoc
   have key:∀ m,m≤n→∀ (e:qn) (H:qd) (ok:Nat→Prop) (w:World) (ι:qz) (a:Act),PanC X (m+1) f nt n0 (.loop c) e H d H'→n0≤H.length→Sim X ok w ι H→EnvRep ok w ι H e a.tmps→nt≤a.tmps.size→Code.rounds X.P c (PQ X n0 ok w ι H a d H') (m+1) a w:=by
    intro m
    induction m with
    | zero =>
     intro _ e H ok w ι a h;rcases h with h | ⟨_,_,_,h⟩
     ·exact h.elim
     ·exact h.elim
    | succ m ihm =>
     intro hm e H ok w ι a h hn hs he vZ;rw [rounds_succ];rcases h with h | ⟨e1,H1,hx,h⟩
     ·refine wp_mono (ih0 (m+1) (by omega) f nt n0 c e H d H' ok w ι a h hoc hn hs he vZ) ?_;rintro z a' w' ⟨t,v,ι',ok',rfl,r⟩;exact ⟨t,v,ι',ok',rfl,r⟩
     ·refine wp_mono (qkt hG hx hoc hn hs he vZ) ?_;rintro z a1 w1 ⟨rfl,t1,t2,ι1,ok1,u1,u2,u3⟩;exact qeK (fun z a2 w2 hq=>PQ.trans t2 u3 hq) _ _ _ (ihm (by omega) e1 H1 ok1 w1 ι1 a1 h u3.nle.2 u1 u2 (by omega))
   exact wp_loop_rounds _ (key n (qv _) e H ok w ι a h hn hs he vZ)
  | skip=>exact h.elim
  | label l=>exact h.elim
  | exit id=>exact h.elim
  | ret=>exact h.elim
  | _=>exact h.elim
def qla (X:Cx) (f:Nat) (args:List D) (H:qd) (d:D) (H':qd):Prop :=
 ∃ n fn c,X.P.funcs[f]? = some fn∧fn.body = some c∧X.bad f = false∧PanC X n f fn.ntmps H.length c (jI 0 args) H d H'
theorem qn8 (hG:Good X) {f:Nat} {args:List D} {d:D} {vs:List Value} (h:qla X f args H d H') (hs:Sim X ok w ι H) (hv:RepL ok w ι H args vs) :
  GoesP X.P (callFunc f vs.toArray) w fun v w'=>∃ ι' ok',Sim X ok' w' ι' H'∧Rep ok' w' ι' H' d v∧Evol H.length ok w ι H ok' w' ι' H':=by
 obtain ⟨n,fn,c,hf,hb,hbad,hP⟩:=h;have JC:(callFunc f vs.toArray).run X.P w = .ok (.enter f vs.toArray) w:=Go.Proofs.enters_of hf (hG.ng f fn hf) hb _ _;unfold GoesP;rw [JC];simp only;refine calls_of_wp hf hb (wp_mono (qnL hG n f fn.ntmps H.length c (jI 0 args) H d H' ok w ι ⟨vs.toArray ++ Array.replicate (fn.ntmps - vs.toArray.size) undef,[]⟩ hP (hG.okc f fn c hf hb hbad) (qv _) hs ?_ ?_) ?_)
 ·intro t d ht;obtain ⟨_,h2⟩:=qef args 0 t d ht;rw [Nat.sub_zero] at h2;have qi:t < vs.length:=by rw [hv.1];exact (List.getElem?_eq_some_iff.1 h2).1
  refine ⟨by simp;omega,?_⟩;have:=hv.2 t d h2;rw [zw,qcE (by simpa using qi)];simpa [jd] using this
 ·simp;omega
 ·rintro x a' w' ⟨hdf,v,ι1,ok1,rfl,k1,k2,k3⟩;exact ⟨hdf,v,rfl,ι1,ok1,k1,k2,k3⟩
end
end Go.Ev
namespace Go.Ev
open Go Go.Proofs
def PanE (X:Cx) (f nt n0:Nat) (c:Code) (e:qn) (H:qd) (d:D) (H':qd):Prop:= ∃ n,PanC X n f nt n0 c e H d H'
section
variable {X:Cx} {f nt n0:Nat} {e:qn} {H H':qd} {d:D}
theorem PanE.cond {c:Operand} {a b:Code} {t:Bool} (hc:qB X e c = some (.bool t)) (h:PanE X f nt n0 (if t then a else b) e H d H'):PanE X f nt n0 (.cond c a b) e H d H':=by
 obtain ⟨n,h⟩:=h;exact ⟨n+1,t,hc,h⟩
theorem PanE.block {id:Nat} {c:Code} (h:PanE X f nt n0 c e H d H'):PanE X f nt n0 (.block id c) e H d H':=by
 obtain ⟨n,h⟩:=h;exact ⟨n+1,h⟩
theorem PanE.scope {c:Code} (h:PanE X f nt n0 c e H d H'):PanE X f nt n0 (.scope c) e H d H':=by
 obtain ⟨n,h⟩:=h;exact ⟨n+1,h⟩
theorem PanE.loop {c:Code} {σ:Type} (I:σ→qn→qd→Prop) (m:σ→Nat)
  (step:∀ s e H,I s e H→PanE X f nt n0 c e H d H'∨Run X f nt n0 (fun ex e1 H1=>ex = .normal∧∃ s',m s' < m s∧I s' e1 H1) [] (qE X f nt n0 c e H)):∀ (s:σ) {e:qn} {H:qd},I s e H→PanE X f nt n0 (.loop c) e H d H':=by
 have key:∀ (k:Nat) (s:σ),m s≤k→∀ {e:qn} {H:qd},I s e H→PanE X f nt n0 (.loop c) e H d H':=by
  intro k
  induction k with
  | zero =>
   intro s hk e H hi;rcases step s e H hi with ⟨n,h⟩ | h
   ·exact ⟨n+1,.inl h⟩
   ·cases ho:qE X f nt n0 c e H with
    | none=>rw [ho,vu] at h;exact h.elim
    | some q =>
     obtain ⟨ex,e1,H1⟩:=q;rw [ho,Zy] at h;obtain ⟨rfl,s',hs,_⟩:=h;omega
  | succ k ih =>
   intro s hk e H hi;rcases step s e H hi with ⟨n,h⟩ | h
   ·exact ⟨n+1,.inl h⟩
   ·cases ho:qE X f nt n0 c e H with
    | none=>rw [ho,vu] at h;exact h.elim
    | some q =>
     obtain ⟨ex,e1,H1⟩:=q;rw [ho,Zy] at h;obtain ⟨rfl,s',hs,Qe⟩:=h;obtain ⟨n,h⟩:=ih s' (by omega) Qe;exact ⟨n+1,.inr ⟨e1,H1,ho,h⟩⟩
 exact fun s e H hi=>key (m s) s (qv _) hi
theorem PanE.panic {id:Nat} {ops:Array Oper} {l1 l2:List Oper} {o:Oper} {x:Operand} {t:Nat} {d0:D} {e1 e2:qn} {H1:qd} (zX:enter X f n0 id e H = some (e1,H1)) (hl:ops.toList = l1 ++ o :: l2)
  (hev:jw X (call X) nt (JX X f id false ops) ops l1 e1 H1 = some (e2,H')) (hg:js ops e2 o.guard = some true) (ho:o.op = .panic x) (hx:qB X e2 x = some (.iface t d0)) (hd:idFree d0 = true) (hv:vFree d0 = true):PanE X f nt n0 (.region id ops false) e H (.iface t d0) H' :=
 ⟨1,e1,H1,l1,o,l2,e2,zX,hl,hev,hg,hd,hv,.inl ⟨x,t,d0,ho,hx,rfl⟩⟩
theorem PanE.call {id:Nat} {ops:Array Oper} {l1 l2:List Oper} {o:Oper} {c:Call} {g:Operand} {f':Nat} {caps args:List D} {e1 e2:qn} {H1:qd} (zX:enter X f n0 id e H = some (e1,H1)) (hl:ops.toList = l1 ++ o :: l2)
  (hev:jw X (call X) nt (JX X f id false ops) ops l1 e1 H1 = some (e2,H')) (hg:js ops e2 o.guard = some true) (ho:o.op = .call c) (hc:c.callee = .value g) (ha:j5 X e2 c.args.toList = some args) (hf:qB X e2 g = some (.fn f' caps)) (hp:Pan X f' (args ++ caps) d) (hd:idFree d = true) (hv:vFree d = true):PanE X f nt n0 (.region id ops false) e H d H':=by
 obtain ⟨n,fn,cd,L,q1,q2,q3,q4,q5⟩:=hp;exact ⟨n+1,e1,H1,l1,o,l2,e2,zX,hl,hev,hg,hd,hv,.inr ⟨c,g,f',caps,args,fn,cd,ho,hc,ha,hf,q1,q2,q3,q4,L,q5⟩⟩
end
end Go.Ev
namespace Go.Ev
open Go Go.Proofs Go.RowKit
def kW (X:Cx) (P:Nat→List D→Option D) (o:Op) (e:qn):Option D :=
 match o with
 | .panic x=>match qB X e x with
  | some (.iface t d)=>if idFree d && vFree d then some (.iface t d) else none
  | _=>none
 | .call c=>match c.callee,j5 X e c.args.toList with
  | .value g,some args=>match qB X e g with
   | some (.fn f caps)=>P f (args ++ caps)
   | _=>none
  | _,_=>none
 | _=>none
noncomputable def kD (X:Cx) (P:Nat→List D→Option D) (nt:Nat) (bw:Bool) (ops:Array Oper):List Oper→qn→qd→Option (D × qd)
 | [],_,_=>none
 | o :: l,e,H=>match jN nt o.dst,js ops e o.guard with
  | true,some true=>match qD X (call X) bw o.op e H with
   | some (d,H')=>kD X P nt bw ops l (zV e o.dst d) H'
   | none=>(kW X P o.op e).map (·,H)
  | true,some false=>kD X P nt bw ops l (zV e o.dst (.tup [])) H
  | _,_=>none
def Z0 (X:Cx) (ev:Nat→Nat→Nat→Code→qn→qd→Option (D × qd)) (f:Nat) (args:List D):Option D :=
 match X.con f args [],X.P.funcs[f]? with
 | none,some fn=>match fn.body with
  | some c=>if X.bad f = false∧args.all idFree = true then match ev f fn.ntmps 0 c (jI 0 args) [] with
    | some (d,_)=>if idFree d && vFree d then some d else none
    | none=>none
   else none
  | none=>none
 | _,_=>none
noncomputable def evP (X:Cx):Nat→Nat→Nat→Nat→Code→qn→qd→Option (D × qd)
 | 0,_,_,_,_,_,_=>none
 | n+1,f,nt,n0,c,e,H=>match c with
  | .region id ops draw=>match draw,enter X f n0 id e H with
   | false,some (e1,H1)=>kD X (Z0 X (evP X n)) nt (JX X f id false ops) ops ops.toList e1 H1
   | _,_=>none
  | .seq a b=>match qE X f nt n0 a e H with
   | some (.normal,e1,H1)=>evP X n f nt n0 b e1 H1
   | some _=>none
   | none=>evP X n f nt n0 a e H
  | .cond c a b=>match qB X e c with
   | some (.bool t)=>evP X n f nt n0 (if t then a else b) e H
   | _=>none
  | .block _ c=>evP X n f nt n0 c e H
  | .scope c=>evP X n f nt n0 c e H
  | .loop c=>match qE X f nt n0 c e H with
   | some (.normal,e1,H1)=>evP X n f nt n0 (.loop c) e1 H1
   | some _=>none
   | none=>evP X n f nt n0 c e H
  | _=>none
section
variable {X:Cx} {f nt n0:Nat} {e:qn} {H H':qd} {d:D}
theorem qnB {P Q:Nat→List D→Option D} (h:∀ f args d,P f args = some d→Q f args = some d) {o:Op} {d:D} (hp:kW X P o e = some d):kW X Q o e = some d:=by
 unfold kW at hp ⊢;split at hp
 ·exact hp
 ·split at hp
  ·split at hp
   ·exact h _ _ _ hp
   ·cases hp
  ·cases hp
 ·cases hp
theorem qdj {P Q:Nat→List D→Option D} (h:∀ f args d,P f args = some d→Q f args = some d) {bw:Bool} {ops:Array Oper}:∀ {l:List Oper} {e:qn} {H:qd} {r:D × qd},kD X P nt bw ops l e H = some r→kD X Q nt bw ops l e H = some r
 | [],_,_,_,hp=>hp
 | o :: l,e,H,r,hp=>by
  rw [kD] at hp ⊢;split at hp
  ·split at hp
   ·exact qdj h hp
   ·cases hq:kW X P o.op e with
    | none=>rw [hq] at hp;cases hp
    | some q=>rw [hq] at hp;simp only [qnB h hq];exact hp
  ·exact qdj h hp
  ·cases hp
theorem qhO {E G:Nat→Nat→Nat→Code→qn→qd→Option (D × qd)} (h:∀ f nt n0 c e H r,E f nt n0 c e H = some r→G f nt n0 c e H = some r) {f:Nat} {args:List D} {d:D} (hp:Z0 X E f args = some d):Z0 X G f args = some d:=by
 unfold Z0 at hp ⊢;split at hp
 ·split at hp
  ·split at hp
   ·rename_i hcond;rw [if_pos hcond];split at hp
    ·rename_i hE;rw [h _ _ _ _ _ _ _ hE];exact hp
    ·cases hp
   ·cases hp
  ·cases hp
 ·cases hp
theorem quf:∀ {n f nt n0:Nat} {c:Code} {e:qn} {H:qd} {r:D × qd},evP X n f nt n0 c e H = some r→evP X (n+1) f nt n0 c e H = some r:=by
 intro n
 induction n with
 | zero=>intro f nt n0 c e H r h;simp [evP] at h
 | succ n ih =>
  intro f nt n0 c e H r h;rw [evP.eq_def] at h ⊢;cases c with
  | region id ops draw =>
   simp only at h ⊢;split at h
   ·exact qdj (fun f args d hp=>qhO (fun f nt n0 c e H r hh=>ih hh) hp) h
   ·cases h
  | seq a b =>
   simp only at h ⊢;split at h
   ·exact ih h
   ·cases h
   ·exact ih h
  | cond c a b =>
   simp only at h ⊢;split at h
   ·exact ih h
   ·cases h
  | block id c=>exact ih h
  | scope c=>exact ih h
  | loop c =>
   simp only at h ⊢;split at h
   ·exact ih h
   ·cases h
   ·exact ih h
  | skip=>cases h
  | label l=>cases h
  | exit id=>cases h
  | ret=>cases h
  | _=>cases h
theorem quj {n m:Nat} (vF:n≤m) {c:Code} {r:D × qd} (h:evP X n f nt n0 c e H = some r):evP X m f nt n0 c e H = some r:=by
 induction vF with
 | refl=>exact h
 | step _ ih=>exact quf ih
noncomputable def zO (X:Cx) (f nt n0:Nat) (c:Code) (e:qn) (H:qd):Option (D × qd):=lim fun n=>evP X n f nt n0 c e H
theorem codeP_some {c:Code} {r:D × qd}:zO X f nt n0 c e H = some r↔∃ n,evP X n f nt n0 c e H = some r:=qfw fun _ _ _ vF h=>quj vF h
noncomputable def kX (X:Cx) (f:Nat) (args:List D):Option D:=Z0 X (zO X) f args
theorem qnK {f:Nat} {args:List D} {d:D} (h:kX X f args = some d):∃ n,Z0 X (evP X n) f args = some d:=by
 unfold kX Z0 at h;split at h
 ·rename_i hc hf;split at h
  ·rename_i c hb;split at h
   ·rename_i hcond;split at h
    ·rename_i hE;obtain ⟨n,hn⟩:=codeP_some.1 hE;refine ⟨n,?_⟩;unfold Z0;simp only [hc,hf,hb,if_pos hcond,hn];exact h
    ·cases h
   ·cases h
  ·cases h
 ·cases h
theorem qnA {o:Op} {d:D} (h:kW X (kX X) o e = some d):∃ n,kW X (Z0 X (evP X n)) o e = some d:=by
 unfold kW at h;split at h
 ·refine ⟨0,?_⟩;unfold kW;exact h
 ·split at h
  ·rename_i hc ha;split at h
   ·rename_i hg;obtain ⟨n,hn⟩:=qnK h;refine ⟨n,?_⟩;unfold kW;simp only [hc,ha,hg];exact hn
   ·cases h
  ·cases h
 ·cases h
theorem qfe {bw:Bool} {ops:Array Oper}:∀ {l:List Oper} {e:qn} {H:qd} {r:D × qd},kD X (kX X) nt bw ops l e H = some r→∃ n,kD X (Z0 X (evP X n)) nt bw ops l e H = some r
 | [],_,_,_,hp=>⟨0,hp⟩
 | o :: l,e,H,r,hp=>by
  rw [kD] at hp;split at hp
  ·rename_i hd hg;split at hp
   ·rename_i ho;obtain ⟨n,hn⟩:=qfe hp;exact ⟨n,by rw [kD,hd,hg];simp only [ho];exact hn⟩
   ·rename_i ho;cases hq:kW X (kX X) o.op e with
    | none=>rw [hq] at hp;cases hp
    | some q =>
     rw [hq] at hp;obtain ⟨n,hn⟩:=qnA hq;exact ⟨n,by rw [kD,hd,hg];simp only [ho,hn];exact hp⟩
  ·rename_i hd hg;obtain ⟨n,hn⟩:=qfe hp;exact ⟨n,by rw [kD,hd,hg];exact hn⟩
  ·cases hp
theorem qva {id:Nat} {ops:Array Oper} {e1:qn} {H1:qd} {r:D × qd} (zX:enter X f n0 id e H = some (e1,H1)) (h:kD X (kX X) nt (JX X f id false ops) ops ops.toList e1 H1 = some r):zO X f nt n0 (.region id ops false) e H = some r:=by
 obtain ⟨n,hn⟩:=qfe h;exact codeP_some.2 ⟨n+1,by rw [evP.eq_def];simp only [zX];exact hn⟩
theorem qvd {c:Operand} {a b:Code} {t:Bool} {r:D × qd} (hc:qB X e c = some (.bool t)) (h:zO X f nt n0 (if t then a else b) e H = some r):zO X f nt n0 (.cond c a b) e H = some r:=by
 obtain ⟨n,hn⟩:=codeP_some.1 h;exact codeP_some.2 ⟨n+1,by rw [evP.eq_def];simp only [hc];exact hn⟩
theorem qve {id:Nat} {c:Code} {r:D × qd} (h:zO X f nt n0 c e H = some r):zO X f nt n0 (.block id c) e H = some r:=by
 obtain ⟨n,hn⟩:=codeP_some.1 h;exact codeP_some.2 ⟨n+1,hn⟩
theorem quZ {c:Code} {r:D × qd} (h:zO X f nt n0 c e H = some r):zO X f nt n0 (.scope c) e H = some r:=by
 obtain ⟨n,hn⟩:=codeP_some.1 h;exact codeP_some.2 ⟨n+1,hn⟩
theorem quX {a b:Code} {e1:qn} {H1:qd} {r:D × qd} (ha:qE X f nt n0 a e H = some (.normal,e1,H1)) (h:zO X f nt n0 b e1 H1 = some r):zO X f nt n0 (.seq a b) e H = some r:=by
 obtain ⟨n,hn⟩:=codeP_some.1 h;exact codeP_some.2 ⟨n+1,by rw [evP.eq_def];simp only [ha];exact hn⟩
theorem qvb {c:Code} {e1:qn} {H1:qd} {r:D × qd} (ha:qE X f nt n0 c e H = some (.normal,e1,H1)) (h:zO X f nt n0 (.loop c) e1 H1 = some r):zO X f nt n0 (.loop c) e H = some r:=by
 obtain ⟨n,hn⟩:=codeP_some.1 h;exact codeP_some.2 ⟨n+1,by rw [evP.eq_def];simp only [ha];exact hn⟩
theorem qfd {P:Nat→List D→Option D} {bw:Bool} {ops:Array Oper}:∀ {l:List Oper} {e:qn} {H:qd} {r:D × qd},kD X P nt bw ops l e H = some r→jw X (call X) nt bw ops l e H = none
 | [],_,_,_,hp=>by cases hp
 | o :: l,e,H,r,hp=>by
  rw [kD] at hp;rw [jw];split at hp
  ·rename_i hd hg;rw [hd,hg];simp only;split at hp
   ·rename_i ho;rw [ho];exact qfd hp
   ·rename_i ho;rw [ho]
  ·rename_i hd hg;rw [hd,hg];exact qfd hp
  ·cases hp
theorem qui:∀ {n f nt n0:Nat} {c:Code} {e:qn} {H:qd} {r:D × qd},evP X n f nt n0 c e H = some r→qE X f nt n0 c e H = none:=by
 intro n
 induction n with
 | zero=>intro f nt n0 c e H r h;simp [evP] at h
 | succ n ih =>
  intro f nt n0 c e H r h;rw [evP.eq_def] at h;cases c with
  | region id ops draw =>
   simp only at h;split at h
   ·rename_i zX;rw [qdU,zX];simp only [QC,qfd h];rfl
   ·cases h
  | seq a b =>
   simp only at h;rw [qgd];split at h
   ·rename_i hc;rw [hc];exact ih h
   ·cases h
   ·rename_i hc;rw [hc]
  | cond c a b =>
   simp only at h;rw [qgf];split at h
   ·rename_i hc;rw [hc];exact ih h
   ·cases h
  | block id c=>rw [qgg,ih h]
  | scope c=>rw [qge,ih h]
  | loop c =>
   simp only at h;rw [qcy];split at h
   ·rename_i hc;rw [hc];exact ih h
   ·cases h
   ·rename_i hc;rw [hc]
  | skip=>cases h
  | label l=>cases h
  | exit id=>cases h
  | ret=>cases h
  | _=>cases h
theorem qdV {c:Code} {r:D × qd} (h:zO X f nt n0 c e H = some r):qE X f nt n0 c e H = none:=by
 obtain ⟨n,hn⟩:=codeP_some.1 h;exact qui hn
theorem quY {a b:Code} {r:D × qd} (h:zO X f nt n0 a e H = some r):zO X f nt n0 (.seq a b) e H = some r:=by
 have hc:=qdV h;obtain ⟨n,hn⟩:=codeP_some.1 h;exact codeP_some.2 ⟨n+1,by rw [evP.eq_def];simp only [hc];exact hn⟩
theorem qvc {c:Code} {r:D × qd} (h:zO X f nt n0 c e H = some r):zO X f nt n0 (.loop c) e H = some r:=by
 have hc:=qdV h;obtain ⟨n,hn⟩:=codeP_some.1 h;exact codeP_some.2 ⟨n+1,by rw [evP.eq_def];simp only [hc];exact hn⟩
theorem qnJ {args:List D} (h:kX X f args = some d):call X f args [] = none:=by
 unfold kX Z0 at h;split at h
 ·rename_i hc hf;split at h
  ·rename_i c hb;split at h
   ·rename_i hcond;split at h
    ·rename_i hE;rw [qdZ hc hf hb hcond.1];have:=qdV hE;simp only [jR,this]
    ·cases h
   ·cases h
  ·cases h
 ·cases h
theorem qfc {n:Nat} (ih:∀ {f nt n0:Nat} {c:Code} {e:qn} {H:qd} {d:D} {H':qd},evP X n f nt n0 c e H = some (d,H')→PanC X n f nt n0 c e H d H') {bw:Bool} {ops:Array Oper} :
  ∀ {l:List Oper} {e:qn} {H:qd} {d:D} {H':qd},kD X (Z0 X (evP X n)) nt bw ops l e H = some (d,H') →
   ∃ l1 o l2 e2,l = l1 ++ o :: l2∧jw X (call X) nt bw ops l1 e H = some (e2,H')∧js ops e2 o.guard = some true∧idFree d = true∧vFree d = true∧qlb X (fun f nt n0 c e d=>∃ L,PanC X n f nt n0 c e [] d L) o.op e2 d
 | [],_,_,_,_,hp=>by cases hp
 | o :: l,e,H,d,H',hp=>by
  rw [kD] at hp;split at hp
  ·rename_i hd hg;split at hp
   ·rename_i d1 H1 ho;obtain ⟨l1,o',l2,e2,h1,h2,h3⟩:=qfc ih hp;exact ⟨o :: l1,o',l2,e2,by rw [h1];rfl,by rw [jw,hd,hg];simp only [ho];exact h2,h3⟩
   ·rename_i ho;cases hq:kW X (Z0 X (evP X n)) o.op e with
    | none=>rw [hq] at hp;cases hp
    | some q =>
     rw [hq] at hp;injection hp with hp;injection hp with vx J9;subst vx;subst J9;refine ⟨[],o,l,e,rfl,rfl,hg,?_⟩;unfold kW at hq;split at hq
     ·rename_i x kx;split at hq
      ·rename_i t d0 hx;split at hq
       ·rename_i hfv;injection hq with hq;subst hq;rw [zL] at hfv;exact ⟨hfv.1,hfv.2,.inl ⟨x,t,d0,kx,hx,rfl⟩⟩
       ·cases hq
      ·cases hq
     ·rename_i c kx;split at hq
      ·rename_i g args hc ha;split at hq
       ·rename_i f' caps hgf;unfold Z0 at hq;split at hq
        ·rename_i fn Q7 hf;split at hq
         ·rename_i cd hb;split at hq
          ·rename_i hcond;split at hq
           ·rename_i d2 L hE;split at hq
            ·rename_i hfv;injection hq with hq;subst hq;rw [zL] at hfv;exact ⟨hfv.1,hfv.2,.inr ⟨c,g,f',caps,args,fn,cd,kx,hc,ha,hgf,hf,hb,hcond.1,hcond.2,L,ih hE⟩⟩
            ·cases hq
           ·cases hq
          ·cases hq
         ·cases hq
        ·cases hq
       ·cases hq
      ·cases hq
     ·cases hq
  ·rename_i hd hg;obtain ⟨l1,o',l2,e2,h1,h2,h3⟩:=qfc ih hp;exact ⟨o :: l1,o',l2,e2,by rw [h1];rfl,by rw [jw,hd,hg];exact h2,h3⟩
  ·cases hp
theorem quh:∀ {n f nt n0:Nat} {c:Code} {e:qn} {H:qd} {d:D} {H':qd},evP X n f nt n0 c e H = some (d,H')→PanC X n f nt n0 c e H d H':=by
 intro n
 induction n with
 | zero=>intro f nt n0 c e H d H' h;simp [evP] at h
 | succ n ih =>
  intro f nt n0 c e H d H' h;rw [evP.eq_def] at h;rw [PanC.eq_def];cases c with
  | region id ops draw =>
   cases draw with
   | true=>cases h
   | false =>
    simp only at h ⊢;split at h
    ·rename_i e1 H1 _ zX;obtain ⟨l1,o,l2,e2,h1,h2,h3,h4,h5,h6⟩:=qfc ih h;exact ⟨e1,H1,l1,o,l2,e2,zX,h1,h2,h3,h4,h5,h6⟩
    ·cases h
  | seq a b =>
   simp only at h ⊢;split at h
   ·rename_i hc;exact .inr ⟨_,_,hc,ih h⟩
   ·cases h
   ·exact .inl (ih h)
  | cond c a b =>
   simp only at h ⊢;split at h
   ·rename_i t hc;exact ⟨t,hc,ih h⟩
   ·cases h
  | block id c=>exact ih h
  | scope c=>exact ih h
  | loop c =>
   simp only at h ⊢;split at h
   ·rename_i hc;exact .inr ⟨_,_,hc,ih h⟩
   ·cases h
   ·exact .inl (ih h)
  | skip=>cases h
  | label l=>cases h
  | exit id=>cases h
  | ret=>cases h
  | _=>cases h
noncomputable def Kx (X:Cx) (f:Nat) (args:List D) (H:qd):Option (D × qd) :=
 match X.P.funcs[f]? with
 | some fn=>match fn.body with
  | some c=>if X.bad f = false then zO X f fn.ntmps H.length c (jI 0 args) H else none
  | none=>none
 | none=>none
theorem qnD {args:List D} (h:Kx X f args H = some (d,H')):qla X f args H d H':=by
 unfold Kx at h;split at h
 ·rename_i fn hf;split at h
  ·rename_i c hb;split at h
   ·rename_i hbad;obtain ⟨n,hn⟩:=codeP_some.1 h;exact ⟨n,fn,c,hf,hb,hbad,quh hn⟩
   ·cases h
  ·cases h
 ·cases h
theorem qhZ {P:Nat→List D→Option D} {bw:Bool} (ops:Array Oper):∀ (l:List Oper) (e:qn) (H:qd),kD X P nt bw (vT ops.toList).toArray (vT l) e H = kD X P nt bw ops l e H
 | [],e,H=>rfl
 | o :: l,e,H=>by
  simp only [vT,kD,qaq,qf9,qhZ ops l]
theorem qug:∀ (n:Nat) (c:Code) (e:qn) (H:qd),evP X n f nt n0 (jj c) e H = evP X n f nt n0 c e H:=by
 intro n
 induction n with
 | zero=>intro c e H;simp [evP]
 | succ n ih =>
  intro c e H;cases c with
  | region id ops draw =>
   have h1:(vT ops.toList).toArray.toList = vT ops.toList:=(by simp);cases draw with
   | true=>simp only [jj,evP]
   | false =>
    simp only [jj,evP];cases enter X f n0 id e H with
    | none=>rfl
    | some q=>simp only [qhZ,JX]
  | seq a b=>simp only [jj,evP,ih,qdT]
  | cond x a b =>
   simp only [jj,evP];split
   ·rename_i t _;cases t <;> simp only [ih,if_true,if_false,kB]
   ·rfl
  | block id c=>simp only [jj,evP,ih]
  | loop c =>
   have:=ih (.loop c);simp only [jj] at this;simp only [jj,evP,ih,this,qdT]
  | scope c=>simp only [jj,evP,ih]
  | _=>rfl
theorem qky {c:Code}:zO X f nt n0 (jj c) e H = zO X f nt n0 c e H:=by
 unfold zO;congr 1;funext n;exact qug n c e H
theorem qnI {fn:Func} {args:List D} {H':qd} (hf:X.P.funcs[f]? = some fn) (hb:fn.body.isSome = true) (hbad:X.bad f = false∧X.con f args [] = none) (ha:args.all idFree = true) (hd:idFree d = true∧vFree d = true)
  (h:zO X f fn.ntmps 0 (jj (kQ fn)) (jI 0 args) [] = some (d,H')):kX X f args = some d:=by
 rw [qky] at h;unfold kX Z0;cases zY:fn.body with
 | none=>rw [zY] at hb;cases hb
 | some c =>
  have hc:kQ fn = c:=by simp only [kQ,zY,Zw]
  rw [hc] at h;simp only [hbad.2,hf,zY,if_pos (show X.bad f = false∧args.all idFree = true from ⟨hbad.1,ha⟩),h,hd.1,hd.2,Bool.and_self,if_true]
theorem qnE {fn:Func} {args:List D} {r:D × qd} (hf:X.P.funcs[f]? = some fn) (hb:fn.body.isSome = true) (hbad:X.bad f = false)
  (h:zO X f fn.ntmps H.length (jj (kQ fn)) (jI 0 args) H = some r):Kx X f args H = some r:=by
 rw [qky] at h;unfold Kx;cases zY:fn.body with
 | none=>rw [zY] at hb;cases hb
 | some c =>
  have hc:kQ fn = c:=by simp only [kQ,zY,Zw]
  rw [hc] at h;simp only [hf,zY,hbad,if_true];exact h
theorem qnF {args:List D} {r:D × qd} (Q7:X.con f args H = none) (h:Kx X f args H = some r):call X f args H = none:=by
 unfold Kx at h;split at h
 ·rename_i fn hf;split at h
  ·rename_i c hb;split at h
   ·rename_i hbad;rw [qdZ Q7 hf hb hbad,qdV h]
   ·cases h
  ·cases h
 ·cases h
end
end Go.Ev
namespace Go.Ev
open Go Go.Proofs
structure Ext (L:List Nat) (H T:qd):Prop where
 len:H.length≤T.length
 out:∀ i,i < H.length→i ∉ L→qe T i = qe H i
theorem Ext.refl (L:List Nat) (H:qd):Ext L H H:=⟨qv _,fun _ _ _=>rfl⟩
def NewL (L M:List Nat) (n:Nat):Prop:= ∀ i,i∈M→i∈L∨n≤i
theorem NewL.refl (L:List Nat) (n:Nat):NewL L L n:=fun _ h=>.inl h
theorem NewL.trans {L M K:List Nat} {n m:Nat} (h:NewL L M n) (h2:NewL M K m) (hn:n≤m):NewL L K n:=fun i hi=>by
 rcases h2 i hi with h' | h'
 ·exact h i h'
 ·exact .inr (jA hn h')
theorem Ext.trans {L M:List Nat} {H T K:qd} (h:Ext L H T) (h2:Ext M T K) (hm:NewL L M H.length):Ext L H K :=
 ⟨jA h.len h2.len,fun i hi hl=>by
  rw [h2.out i (jr hi h.len) fun hc=>(hm i hc).elim hl fun vd=>absurd hi (Nat.not_lt.2 vd),h.out i hi hl]⟩
theorem Ext.mono {L M:List Nat} {H T:qd} (h:Ext L H T) (hm:∀ i,i∈L→i∈M):Ext M H T:=⟨h.len,fun i hi hn=>h.out i hi fun hc=>hn (hm i hc)⟩
theorem Ext.get {L:List Nat} {H T:qd} (h:Ext L H T) {i:Nat} {ds:List D} (hg:qe H i = some ds) (hi:i ∉ L):qe T i = some ds:=by
 rw [h.out i (qt hg) hi,hg]
theorem Ext.new (H:qd) (ds:List D):Ext [] H (qo H ds):=⟨by rw [zG];omega,fun i hi _=>jF hi⟩
theorem Ext.set (H:qd) (i:Nat) (ds:List D):Ext [i] H (ql H i ds):=⟨by rw [kN];omega,fun j _ hn=>qZ (by simpa using hn)⟩
theorem Ext.app (H L:qd):Ext [] H (H ++ L):=⟨by simp,fun i hi _=>KV hi⟩
theorem Ext.lt {L:List Nat} {H T:qd} (h:Ext L H T) {i:Nat} (hi:i < H.length):i < T.length:=jr hi h.len
theorem qa8 {H:qd} {i:Nat} {ds:List D} (h:qe H i = some ds):ql H i ds = H:=by
 have hl:=qt h;unfold ql;apply List.ext_getElem?;intro j;rw [List.getElem?_set];by_cases hj:i = j
 ·subst hj;unfold qe at h;rw [qU hl] at h;simp only [Zw] at h;rw [if_pos rfl,if_pos hl,qU hl,h]
 ·rw [if_neg hj]
def RowA (H:qd) (k:Nat) (v:D) (cs:List D) (L:List Nat):Prop :=
 (v = .vsl true [] 0∧cs = []∧L = [])∨∃ r n,v = .osl r cs.length 0 n k∧cs.length = n * k∧qe H r = some cs∧L = [r]
theorem RowA.nil (H:qd) (k:Nat):RowA H k (.vsl true [] 0) [] []:=.inl ⟨rfl,rfl,rfl⟩
theorem RowA.ext {H T:qd} {k:Nat} {v:D} {cs:List D} {L M:List Nat} (h:RowA H k v cs L) (he:Ext M H T) (hd:∀ i,i∈L→i ∉ M):RowA T k v cs L:=by
 rcases h with h | ⟨r,n,h1,h2,h3,rfl⟩
 ·exact .inl h
 ·exact .inr ⟨r,n,h1,h2,he.get h3 (hd r (by simp)),rfl⟩
theorem RowA.lt {H:qd} {k:Nat} {v:D} {cs:List D} {L:List Nat} (h:RowA H k v cs L) {i:Nat} (hi:i∈L):i < H.length:=by
 rcases h with ⟨_,_,rfl⟩ | ⟨r,n,h1,h2,h3,rfl⟩
 ·simp at hi
 ·rw [List.mem_singleton.1 hi];exact qt h3
theorem RowA.append {P:Program} {H:qd} {st xt e:TypeId} {k:Nat} {v x:D} {cs xs:List D} {L:List Nat} {m:Nat} (h:RowA H k v cs L) (hu:P.underlying st = some (.slice e)) (hk:qr P e = k)
  (J8:Ku P H e xt x = some (xs,m)) (hz:(Zd P e 0).isSome = true) (hm:m≠0) (hl:xs.length = m * k) (hk0:0 < k) (hb:(cs.length+m) * bytesOf P e≤qw) (vy:cs.length+m≤qw) :
  ∃ v' T L',qM P H st xt v x = some (v',T)∧RowA T k v' (cs ++ xs) L'∧Ext L H T∧NewL L L' H.length:=by
 obtain ⟨z,hz⟩:=Option.isSome_iff_exists.1 hz;rcases h with ⟨rfl,rfl,rfl⟩ | ⟨r,n,rfl,h2,h3,rfl⟩
 ·simp only [jR,Zx] at hb vy;refine ⟨.osl H.length xs.length 0 m k,qo H xs,[H.length],?_,.inr ⟨H.length,m,?_,?_,?_,rfl⟩,Ext.new H xs,fun i hi=>.inr (Nat.le_of_eq (List.mem_singleton.1 hi).symm)⟩
  ·unfold qM;simp only [hu,hk,J8,hz,if_neg hm,if_pos (show m * bytesOf P e≤qw∧m≤qw from ⟨hb,vy⟩)]
  ·simp
  ·simpa using hl
  ·simp
 ·have hn:n+m≤cs.length+m:=by
   rw [h2];have:=Nat.le_mul_of_pos_right n hk0;omega
  refine ⟨.osl r (cs.length+xs.length) 0 (n+m) k,ql H r (cs ++ xs),[r],?_,.inr ⟨r,n+m,?_,?_,?_,rfl⟩,Ext.set H r _,NewL.refl _ _⟩
  ·unfold qM;simp only [hu,hk,J8,hz,h3];rw [if_pos ⟨trivial,trivial,h2.symm,jA (qah _ hn) hb,jA hn vy⟩]
  ·rw [qX]
  ·rw [qX,h2,hl,QZ]
  ·exact qV (qt h3)
theorem RowA.own {H:qd} {k:Nat} {v:D} {cs:List D} {L:List Nat} (h:RowA H k v cs L) (hc:cs≠[]):∃ r n,v = .osl r cs.length 0 n k∧cs.length = n * k∧qe H r = some cs∧L = [r]:=by
 rcases h with ⟨_,h2,_⟩ | h
 ·exact absurd h2 hc
 ·exact h
theorem RowA.of {H:qd} {k r n:Nat} {cs:List D} (h1:cs.length = n * k) (h2:qe H r = some cs):RowA H k (.osl r cs.length 0 n k) cs [r]:=.inr ⟨r,n,rfl,h1,h2,rfl⟩
theorem zt {X:Cx} {f:Nat} {H:qd} {fn:Func} {args:List D} {r:D × qd} (hf:X.P.funcs[f]? = some fn) (hb:fn.body.isSome = true) (hbad:X.bad f = false∧X.con f args H = none)
  (h:Run X f fn.ntmps H.length (qeo X (X.fzr f) fn.results.toList (· = r)) [] (qE X f fn.ntmps H.length (jj (kQ fn)) (jI 0 args) H)) (hg:(X.gr f && X.byRef f) = true:=by rfl):call X f args H = some r:=by
 obtain ⟨r',h1,rfl⟩:=Zt (· = r) hf hb hbad h hg;exact h1
def Z3 (x y:List UInt8):Bool:=decide (x≤y)
def jn (l:List (List UInt8)):List (List UInt8):=l.mergeSort Z3
theorem qoT (a b c:List UInt8) (h1:Z3 a b = true) (h2:Z3 b c = true):Z3 a c = true:=by
 simp only [Z3,decide_eq_true_eq] at *;exact List.le_trans h1 h2
theorem qoU (a b:List UInt8):(Z3 a b || Z3 b a) = true:=by
 simp only [Z3,qam,decide_eq_true_eq];exact List.le_total a b
theorem qoV (a b:List UInt8) (h1:Z3 a b = true) (h2:Z3 b a = true):a = b:=by
 simp only [Z3,decide_eq_true_eq] at h1 h2;exact List.le_antisymm h1 h2
theorem qaN (l:List (List UInt8)):(jn l).Perm l:=List.mergeSort_perm l Z3
@[simp] theorem qhc (l:List (List UInt8)):(jn l).length = l.length:=(qaN l).length_eq
theorem sortL_mem {l:List (List UInt8)} {x:List UInt8}:x∈jn l↔x∈l:=(qaN l).mem_iff
theorem qhb (l:List (List UInt8)):(jn l).Pairwise fun a b=>Z3 a b = true:=List.pairwise_mergeSort qoT qoU l
theorem qmg {a b:List (List UInt8)} (ha:a.Pairwise fun a b=>Z3 a b = true) (hb:b.Pairwise fun a b=>Z3 a b = true) (h:a.Perm b):a = b :=
 List.Perm.eq_of_pairwise (le:=fun a b=>Z3 a b = true) (fun a b _ _ h1 h2=>qoV a b h1 h2) ha hb h
end Go.Ev
namespace Go.Ev
open Go Go.Proofs Go.RowKit Go.Shelf Go.Sort
def zZ (l:List (List UInt8)):List D:=l.map .str
def Yk:List D→Option (List (List UInt8))
 | []=>some []
 | .str s :: l=>(Yk l).map (s :: ·)
 | _=>none
theorem qgL:∀ l,Yk (zZ l) = some l
 | []=>rfl
 | s :: l=>by simp only [zZ,List.map_cons,Yk];rw [show List.map D.str l = zZ l from rfl,qgL l];rfl
theorem qgB:∀ {ds l},Yk ds = some l→ds = zZ l
 | [],l,h=>by simp only [Yk,qs] at h;subst h;rfl
 | d :: ds,l,h=>by
  cases d <;> simp only [Yk] at h <;> try cases h
  cases hs:Yk ds with
  | none=>rw [hs] at h;cases h
  | some r =>
   rw [hs] at h;simp only [zT,qs] at h;subst h;rw [qgB hs];rfl
def qcu:List D→qd→Option (D × qd)
 | [.vsl true [] 0],H=>some (.tup [],H)
 | [.osl i st 0 len 1],H=>match qe H i with
  | some ds=>match Yk ds with
   | some l=>if l.length = st∧len = st∧st < 4611686018427387904 then some (.tup [],ql H i (zZ (jn l))) else none
   | none=>none
  | none=>none
 | _,_=>none
section
variable {X:Cx} {ρ:Ren} {ok:Nat→Prop} {w:World} {ι:qz} {H H':qd} {r:D} {args:List D} {vs:List Value}
theorem qnk {s:List UInt8} {v:Value} (h:Rep ok w ι H (.str s) v):v = encStr s:=by
 cases h;rfl
theorem quM (L:SlLaysN.n54 X.P ρ) (JC:∀ args w,(callFunc (ρ.f 54) args).run X.P w = .ok (.enter (ρ.f 54) args) w) (h:qcu args H = some (r,H')) (hs:Sim X ok w ι H) (hv:RepL ok w ι H args vs) :
  Goes X.P (callFunc (ρ.f 54) vs.toArray) w (CallPost X ok w ι H r H'):=by
 unfold qcu at h;split at h
 ·injection h with h;injection h with h1 h2;subst h1;subst h2;obtain ⟨v,us,rfl,a1,a2⟩:=Zz hv;cases qau a2;cases a1;refine qdS hs (JC _ _) ((AnyG.slices_Sort_string_none L none 0 w).mono ?_);rintro e w' ⟨rfl,rfl⟩;exact ⟨_,rfl,.tup rfl (fun j d hj=>by simp at hj),Below.refl _ _⟩
 ·rename_i H0 i st len;split at h
  ·rename_i ds hd;split at h
   ·rename_i l hl;split at h
    ·rename_i hc;obtain ⟨c1,rfl,c3⟩:=hc;injection h with h;injection h with h1 h2;subst h1;subst h2;have JD:=qgB hl;subst JD;have kG:(zZ l).length = len:=(by simp [zZ,c1]);obtain ⟨v,us,rfl,a1,a2⟩:=Zz hv;cases qau a2;cases a1 with
     | @osl _ _ _ _ _ _ _ c a hi hh qJ =>
      obtain ⟨b,s,q1,rfl,q3⟩:=(hh _ hd).2 kG;obtain ⟨b',arr,e2,fr,k1,k2,k3,k4,k5,k6,k7,k8⟩:=hs.blk i _ hd;rw [q1] at k1;injection k1 with k1;injection k1 with k1 k1';subst k1;subst k1';have hb:b < w.heap.size:=(Array.getElem?_eq_some_iff.1 k3).1
      have Q8:∀ j,j < l.length→arr.getD j undef = encStr (l.getD j []):=by
       intro j hj;have:(zZ l)[j]? = some (.str (l.getD j [])):=(by simp [zZ,hj]);exact qnk (k8 j _ this)
      have hH:Holds encStr w b 0 l.toArray:=by
       intro j hj;have vG:j < l.length:=(by simpa using hj);have Zp:j < arr.size:=(by omega);refine ⟨?_,?_⟩
       ·rw [Zx,Km k3,Qi Zp];have:=Q8 j vG;rw [zw,Qi Zp] at this;simp only [Zw] at this;rw [this];simp [vG]
       ·rw [Zx,qdF k3];have:=qfB k5 j Zp;simp only [Bool.and_eq_false_iff,decide_eq_false_iff_not];omega
      unfold Goes;rw [JC];simp only;have XD:(jn l).length = l.length:=(by simp [jn]);have hcall:=AnyG.slices_Sort_string L b 0 c l w hH hb (by omega);rw [c1] at hcall;refine hcall.mono ?_;rintro e w' ⟨rfl,n,os,rfl⟩;refine ⟨_,rfl,?_⟩;have hg:=grownBy_sorted (w:=w) (g:=b) (n:=n) (os:=os) (jn l).toArray;have jG:=heap_sorted (n:=n) (os:=os) (jn l).toArray k3;have zx:(putCells encStr 0 (jn l).toArray arr).size = arr.size:=by simp [putCells]
      have qe:∀ j,j < arr.size→(putCells encStr 0 (jn l).toArray arr).getD j undef = if j < l.length then encStr ((jn l).getD j []) else arr.getD j undef:=by
       intro j hj;rw [zw,Qi (by omega),zw,Qi hj];simp only [putCells,Array.getElem_mapIdx,Zw];by_cases zm:j < l.length
       ·have:j < (jn l).length:=(by omega);simp [zm,XD]
       ·simp [zm,XD]
      obtain ⟨ι',s1,s2,s3⟩:=qbD (i:=i) (ds:=zZ l) (ds':=zZ (jn l)) (b:=b) (sz:=arr.size) (b':=b) (arr':=putCells encStr 0 (jn l).toArray arr) (w':=grow (putRow encStr (Sort.ahead w n) b 0 (jn l).toArray) os) hs hd q1 ⟨hg.os,hg.tape,hg.output⟩ hg.size
       (fun c hc qH=>hg.block c hc (fun e=>qH (by injection e))) jG (.inl ⟨rfl,zx⟩) (by simp [zZ,XD]) (by rw [zx];simpa [zZ,XD,c1] using k4) (by rw [zx];exact k5)
       (fun j hj=>by
        rw [zx] at hj;rw [qe j hj];by_cases zm:j < l.length
        ·rw [if_pos zm];rfl
        ·rw [if_neg zm];exact k6 j hj)
       (fun d hd=>by
        simp only [zZ,kI] at hd;obtain ⟨s,_,rfl⟩:=hd;rfl)
       (fun j d hj=>by
        have zm:j < l.length:=by
         have:=(List.getElem?_eq_some_iff.1 hj).1;simpa [zZ,XD] using this
        rw [qe j (by omega),if_pos zm]
        have:(zZ (jn l))[j]? = some (.str ((jn l).getD j [])):=by
         unfold zZ;rw [Zc,jd,qU (show j < (jn l).length by omega)];rfl
        rw [this] at hj;injection hj with hj;subst hj;exact .str _)
      refine ⟨ι',ok,s1,.tup rfl (fun j d hj=>by simp at hj),s2,fun k ds hk zN=>?_⟩;have:=qt zN;rw [kN] at this;omega
    ·cases h
   ·cases h
  ·cases h
 ·cases h
end
end Go.Ev
