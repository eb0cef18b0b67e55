import Derived.Test.YtkfojmihnjnhfaaGreatDoorC2
import Derived.DataReads
import Derived.DataElems
import Derived.ChangeArms
import Derived.OpenShut
import Derived.Lib.LaidTab
import Derived.Stop.LaidErr
import Derived.LaidMore
import Derived.ProofKit
import Derived.Below
import Derived.Shelf.Strconv.Itoa1
import Derived.Shelf.Strings.Search2
import Derived.Shelf.Strconv.Clone
import Derived.WalkSmall
import Derived.Shelf.Strings.Repeat
import Derived.Lib.Bytealg
import Derived.Shelf.Bytes.SlIndexWhole
import Derived.Lib.LaidU8T
import Derived.Shelf.Spec.DecodeRune
import Derived.Lib.IndexEntry
namespace Go.Ev
open Go Go.Proofs
class Enc (α:Type) where
 size:Nat
 cells:α→List D
 len:∀ a,(cells a).length = size
 free:∀ a,(cells a).all idFree = true
section
variable {α:Type} [Enc α]
def qh (l:List α):List D:=(l.map Enc.cells).flatten
@[simp] theorem qok (a:α):(Enc.cells a).all idFree = true:=Enc.free a
@[simp] theorem qiN (a:α):idFree.idFreeL (Enc.cells a) = true:=by rw [qcQ];exact Enc.free a
@[simp] theorem qzL (n:Nat) (a:α):(Enc.cells a).all (closed n) = true:=by
 rw [← qb5];exact Vw n _ (qiN a)
@[simp] theorem q8D (n:Nat) (a:α):closed.closedL n (Enc.cells a) = true:=Vw n _ (qiN a)
@[simp] theorem q8E (a:α):(∀ x,x∈Enc.cells a→idFree x = true) = True:=eq_true (List.all_eq_true.1 (qok a))
@[simp] theorem q8F (n:Nat) (a:α):(∀ x,x∈Enc.cells a→closed n x = true) = True:=eq_true (List.all_eq_true.1 (qzL n a))
@[simp] theorem qn4:qh ([]:List α) = []:=rfl
theorem ZP (a:α) (l:List α):qh (a :: l) = Enc.cells a ++ qh l:=rfl
theorem Xe (a:α):qh [a] = Enc.cells a:=by simp [qh]
theorem qb2 (a b:List α):qh (a ++ b) = qh a ++ qh b:=by simp [qh]
theorem Z0 (l:List α) (a:α):qh (l ++ [a]) = qh l ++ Enc.cells a:=by rw [qb2,Xe]
theorem qyQ (l:List α):(qh l).length = l.length * Enc.size α:=by
 induction l with
 | nil=>simp
 | cons a l ih=>rw [ZP,qC,Enc.len,ih,qG,vR,Nat.one_mul];omega
theorem Xf {n:Nat} (hn:n = Enc.size α) (l:List α):(qh l).length = l.length * n:=by rw [hn,qyQ]
theorem VP {n:Nat} (hn:n = Enc.size α):∀ (l:List α) (i:Nat),(qh l).drop (i * n) = qh (l.drop i)
 | [],i=>by simp
 | a :: l,0=>by simp
 | a :: l,i+1=>by
  have hd:(i+1) * n = n+i * n:=by rw [vR,Nat.one_mul,Nat.add_comm]
  rw [ZP,hd,← kF,qc2 (by rw [Enc.len,hn]),List.drop_succ_cons,VP hn l i]
theorem Kz {n:Nat} (hn:n = Enc.size α):∀ (l:List α) (i:Nat),(qh l).take (i * n) = qh (l.take i)
 | [],i=>by simp
 | a :: l,0=>by simp
 | a :: l,i+1=>by
  have hd:(i+1) * n = n+i * n:=by rw [vR,Nat.one_mul,Nat.add_comm]
  have hl:(Enc.cells a).length = n:=by rw [Enc.len,hn]
  rw [ZP,hd,← hl,zW,qx (Nat.le_add_right _ _),Nat.add_sub_cancel_left,hl,Kz hn l i,qeG,ZP]
theorem VQ {n:Nat} (hn:n = Enc.size α) {l:List α} {i:Nat} (hi:i < l.length):(qh l).drop (i * n) = Enc.cells l[i] ++ qh (l.drop (i+1)):=by
 rw [VP hn,zm hi,ZP]
theorem qyR {l:List α} (hi:0 < l.length):qh l = Enc.cells l[0] ++ qh (l.drop 1):=by
 have:=VQ (n:=Enc.size α) rfl hi
 rwa [Nat.zero_mul,List.drop_zero] at this
theorem Xj {n:Nat} (hn:n = Enc.size α) (a:α) (r:List D):(Enc.cells a ++ r).take n = Enc.cells a:=List.take_left' (by rw [Enc.len,hn])
theorem Xi {n:Nat} (hn:n = Enc.size α) (a:α):(Enc.cells a).take n = Enc.cells a:=qx (by rw [Enc.len,hn];exact qB _)
theorem Xk {n:Nat} (hn:n = Enc.size α) (a:α) (r:List D):(Enc.cells a ++ r).drop n = r:=qc2 (by rw [Enc.len,hn])
theorem KA {n:Nat} (hn:n = Enc.size α) (m:α):∀ (l:List α) {j:Nat},j < l.length→qH (qh l) (j * n) (Enc.cells m) = qh (l.set j m)
 | [],j,hj=>by simp at hj
 | a :: l,j,hj=>by
  have ha:(Enc.cells a).length = n:=by rw [Enc.len,hn]
  have hm:(Enc.cells m).length = n:=by rw [Enc.len,hn]
  cases j with
  | zero =>
   simp only [qH,Nat.zero_mul,List.take_zero,ZW,vQ,hm,List.set_cons_zero,ZP];rw [qc2 ha]
  | succ j =>
   have ih:=KA hn m l (j:=j) (by simpa using hj);have e1:(j+1) * n = n+j * n:=(by rw [vR,Nat.one_mul,Nat.add_comm]);simp only [qH,hm] at ih ⊢;rw [List.set_cons_succ,ZP,ZP,← ih,e1,Vz,← kF,qc2 ha,← ha,zW,qx (Nat.le_add_right _ _),Nat.add_sub_cancel_left];simp
@[simp] theorem qn6 (l:List α):(qh l).all idFree = true:=by
 induction l with
 | nil=>rfl
 | cons a l ih=>rw [ZP,List.all_append,ih,qok];rfl
@[simp] theorem qiB (l:List α):idFree.idFreeL (qh l) = true:=by rw [qcQ];exact qn6 l
@[simp] theorem qgj (n:Nat) (l:List α):(qh l).all (closed n) = true:=by
 rw [← qb5];exact Vw n _ (qiB l)
@[simp] theorem q7I (n:Nat) (l:List α):closed.closedL n (qh l) = true:=Vw n _ (qiB l)
@[simp] theorem q7J (l:List α):(∀ x,x∈qh l→idFree x = true) = True:=eq_true (List.all_eq_true.1 (qn6 l))
@[simp] theorem q7K (n:Nat) (l:List α):(∀ x,x∈qh l→closed n x = true) = True:=eq_true (List.all_eq_true.1 (qgj n l))
structure Sl (α:Type) where
 nil:Bool
 l:List α
 h:nil = true→l = []
omit [Enc α] in
theorem Sl.nn {s:Sl α} {i:Nat} (h:i < s.l.length):s.nil = false:=by
 cases hn:s.nil with
 | false=>rfl
 | true=>rw [s.h hn] at h;simp at h
end
def Sl.of {α:Type} (l:List α):Sl α:=⟨false,l,by simp⟩
def Sl.none {α:Type}:Sl α:=⟨true,[],by simp⟩
@[simp] theorem Sl.of_l {α:Type} (l:List α):(Sl.of l).l = l:=rfl
@[simp] theorem Sl.of_nil {α:Type} (l:List α):(Sl.of l).nil = false:=rfl
@[simp] theorem Sl.none_l {α:Type}:(Sl.none:Sl α).l = []:=rfl
@[simp] theorem Sl.none_nil {α:Type}:(Sl.none:Sl α).nil = true:=rfl
theorem qgL {H:qi} {n:Nat} {d:D} (h:idFree d = true):jA H (n+1) d = some (d,[]):=by
 unfold jA;rw [if_pos h]
theorem qeW {H:qi} {n:Nat}:∀ {l:List D},idFree.idFreeL l = true→v7 (jA H (n+1)) l = some (l,[])
 | [],_=>rfl
 | d :: l,h=>by
  simp only [idFree.idFreeL,qT] at h;simp only [v7,qgL h.1,qeW h.2,Z2]
theorem qeX {g:D→Option (D × List Nat)}:∀ (a b:List D),v7 g (a ++ b) = match v7 g a,v7 g b with
  | some (x,p),some (y,q)=>some (x ++ y,p ++ q)
  | _,_=>none
 | [],b=>by
  simp only [ZW,v7];cases v7 g b with
  | none=>rfl
  | some q=>obtain ⟨y,q⟩:=q;rfl
 | d :: a,b=>by
  simp only [kt,v7,qeX a b];cases g d with
  | none=>rfl
  | some r =>
   obtain ⟨r,i⟩:=r;cases v7 g a with
   | none=>rfl
   | some p =>
    obtain ⟨x,p⟩:=p;cases v7 g b with
    | none=>rfl
    | some q=>obtain ⟨y,q⟩:=q;simp
theorem qjE {H:qi} {l:List D} (h:idFree.idFreeL l = true):v7 (jA H 8) l = some (l,[]):=qeW h
theorem qpU {H:qi} {l:List D} (h:idFree.idFreeL l = true):v7 (jA H 7) l = some (l,[]):=qeW h
attribute [simp] qeX qjE qpU
theorem qha {X:Cx} {f nt n0:Nat} {Q:Ex→qr→qi→Prop} {fs:List Fr} {e:qr} {H:qi} {c:Code} (h:Run X f nt n0 (fun ex e H=>ex≠.normal∧Run X f nt n0 Q fs (some (ex,e,H))) [] (code X f nt n0 c e H)) :
  Run X f nt n0 Q fs (code X f nt n0 (.loop c) e H):=by
 rw [qiK];cases ho:code X f nt n0 c e H with
 | none=>rw [ho,kv] at h;exact h.elim
 | some q =>
  obtain ⟨ex,e1,H1⟩:=q;rw [ho,Kc] at h;cases ex with
  | normal=>exact absurd rfl h.1
  | exit i=>exact h.2
  | ret=>exact h.2
theorem Run.loopThen {X:Cx} {f nt n0:Nat} {Q:Ex→qr→qi→Prop} {fs:List Fr} {c:Code} {σ:Type} (I:σ→qr→qi→Prop) (m:σ→Nat) (s:σ) {e:qr} {H:qi} (h0:I s e H)
  (step:∀ s e H,I s e H→Run X f nt n0 (fun ex e' H'=>match ex with | .normal=>∃ s',m s' < m s∧I s' e' H' | ex=>Run X f nt n0 Q fs (some (ex,e',H'))) [] (code X f nt n0 c e H)) :
  Run X f nt n0 Q fs (code X f nt n0 (.loop c) e H):=by
 have h:=Run.loop (Q:=fun ex e H=>ex≠.normal∧Run X f nt n0 Q fs (some (ex,e,H))) I m (fun s e H hi=>by
  refine Run.mono (step s e H hi) ?_;intro ex e' H' hq;rw [Kc];cases ex with
  | normal=>exact hq
  | exit i=>exact ⟨by simp,hq⟩
  | ret=>exact ⟨by simp,hq⟩) s e H h0
 exact Run.mono h fun ex e H hq=>hq.2
theorem Xq {X:Cx} {f nt n0:Nat} {Q:Ex→qr→qi→Prop} {fs:List Fr} {c:Code} {e:qr} {H:qi}
  (h:Run X f nt n0 (fun ex e' H'=>match ex with | .normal=>Run X f nt n0 Q fs (code X f nt n0 (.loop c) e' H') | ex=>Run X f nt n0 Q fs (some (ex,e',H'))) [] (code X f nt n0 c e H)) :
  Run X f nt n0 Q fs (code X f nt n0 (.loop c) e H):=by
 rw [qiK];cases ho:code X f nt n0 c e H with
 | none=>rw [ho,kv] at h;exact h.elim
 | some q =>
  obtain ⟨ex,e1,H1⟩:=q;rw [ho,Kc] at h;cases ex with
  | normal=>exact h
  | exit i=>exact h
  | ret=>exact h
def qg4 (X:Cx) (z:Bool) (rs:List ResultVar) (n0:Nat) (P:D × qi→Prop):Ex→qr→qi→Prop
 | .exit _,_,_=>False
 | _,e,H=>∃ r,(Qz X e H rs).bind (fun ds=>J9 z n0 H (JA ds)) = some r∧P r
theorem qyv {X:Cx} {z:Bool} {rs:List ResultVar} {n0:Nat} {P:D × qi→Prop} {e:qr} {H:qi}:qg4 X z rs n0 P .ret e H = ∃ r,(Qz X e H rs).bind (fun ds=>J9 z n0 H (JA ds)) = some r∧P r:=rfl
theorem qyw {X:Cx} {z:Bool} {rs:List ResultVar} {n0:Nat} {P:D × qi→Prop} {e:qr} {H:qi}:qg4 X z rs n0 P .normal e H = ∃ r,(Qz X e H rs).bind (fun ds=>J9 z n0 H (JA ds)) = some r∧P r:=rfl
theorem vH {X:Cx} {f:Nat} {H:qi} {fn:Func} {args:List D} (P:D × qi→Prop) (hf:X.P.funcs[f]? = some fn) (hb:fn.body.isSome = true) (hbad:X.bad f = false∧X.con f args H = none)
  (h:Run X f fn.ntmps H.length (qg4 X (X.fzr f) fn.results.toList H.length P) [] (code X f fn.ntmps H.length (kb (qY fn)) (Qv 0 args) H)):∃ r,call X f args H = some r∧P r:=by
 cases ho:code X f fn.ntmps H.length (kb (qY fn)) (Qv 0 args) H with
 | none=>rw [ho,kv] at h;exact h.elim
 | some q =>
  obtain ⟨ex,e1,H1⟩:=q;rw [ho,Kc] at h;cases ex with
  | exit i=>exact h.elim
  | normal =>
   obtain ⟨r,h1,h2⟩:=h;exact ⟨r,qs hf hb hbad (by rw [ho,Kc,qi0];exact h1),h2⟩
  | ret =>
   obtain ⟨r,h1,h2⟩:=h;exact ⟨r,qs hf hb hbad (by rw [ho,Kc,qiz];exact h1),h2⟩
attribute [simp] qyv qyw
end Go.Ev
namespace Go.Ev
open Go Go.Proofs
structure ID where
 l:List UInt8
 h:l.length = 16
 deriving DecidableEq
@[simp] theorem ID.len (i:ID):i.l.length = 16:=i.h
theorem ID.ext' {a b:ID} (h:a.l = b.l):a = b:=by cases a;cases b;simp at h;subst h;rfl
instance:Enc ID:=⟨16,fun i=>qd i.l,fun i=>by simp,fun i=>by simp⟩
theorem ID.cells (i:ID):Enc.cells i = qd i.l:=rfl
def ID.zero:ID:=⟨List.replicate 16 0,by simp⟩
theorem qol:∀ (x y:List UInt8),x.length = y.length→jT (List.replicate x.length .i) (qd x) (qd y) = some (x == y)
 | [],[],_=>rfl
 | a :: x,b :: y,h=>by
  have ih:=qol x y (by simpa using h);simp only [qG,qa1,qd,Y6,jT,qb6];simp only [qd] at ih;rw [ih]
  have:((a.toNat:Int) == (b.toNat:Int)) = (a == b):=by
   rw [Bool.eq_iff_iff];simp only [beq_iff_eq,Int.natCast_inj];exact ⟨fun h=>UInt8.toNat_inj.1 h,fun h=>by rw [h]⟩
  simp [this]
 | [],_ :: _,h=>by simp at h
 | _ :: _,[],h=>by simp at h
theorem qgr:∀ (k1 k2:List CK) (a1 a2 b1 b2:List D),k1.length = a1.length→k1.length = b1.length→jT (k1 ++ k2) (a1 ++ a2) (b1 ++ b2) = match jT k1 a1 b1,jT k2 a2 b2 with
  | some x,some y=>some (x && y)
  | _,_=>none
 | [],k2,[],a2,[],b2,_,_=>by
  simp only [ZW,jT];cases jT k2 a2 b2 <;> simp
 | k :: k1,k2,a :: a1,a2,b :: b1,b2,h1,h2=>by
  simp only [kt,jT,qgr k1 k2 a1 a2 b1 b2 (by simpa using h1) (by simpa using h2)];cases qb6 k a b <;> cases jT k1 a1 b1 <;> cases jT k2 a2 b2 <;> simp [Bool.and_assoc]
 | [],_,_ :: _,_,_,_,h,_=>by simp at h
 | [],_,[],_,_ :: _,_,_,h=>by simp at h
 | _ :: _,_,[],_,_,_,h,_=>by simp at h
 | _ :: _,_,_ :: _,_,[],_,_,h=>by simp at h
@[simp] theorem qe7 (x y:ID):jT [.i,.i,.i,.i,.i,.i,.i,.i,.i,.i,.i,.i,.i,.i,.i,.i] (qd x.l) (qd y.l) = some (x == y):=by
 have:=qol x.l y.l (by simp);rw [x.h] at this
 have e:(x.l == y.l) = (x == y):=by
  rw [Bool.eq_iff_iff];simp only [beq_iff_eq];exact ⟨ID.ext',fun h=>by rw [h]⟩
 rw [e] at this;exact this
structure Mk where
 id:ID
 seq:Int
 lost:Int
 over:Int
 deriving DecidableEq
def qA (n:Int):Prop:=0≤n∧n < 18446744073709551616
structure Mk.Ok (m:Mk):Prop where
 seq:qA m.seq
 lost:qA m.lost
 over:qA m.over
def Mk.tl (m:Mk):List D:=[.int .u64 m.seq,.int .u64 m.lost,.int .u64 m.over]
instance:Enc Mk:=⟨19,fun m=>qd m.id.l ++ m.tl,fun m=>by simp [Mk.tl],fun m=>by simp [Mk.tl,idFree]⟩
theorem Mk.cells (m:Mk):Enc.cells m = qd m.id.l ++ [.int .u64 m.seq,.int .u64 m.lost,.int .u64 m.over]:=rfl
@[simp] theorem Mk.size:Enc.size Mk = 19:=rfl
@[simp] theorem ID.size:Enc.size ID = 16:=rfl
@[simp] theorem Mk.cl (a:Mk):(Enc.cells a).length = 19:=Enc.len a
@[simp] theorem Mk.ct (a:Mk) (r:List D):(Enc.cells a ++ r).take 19 = Enc.cells a:=Xj rfl a r
@[simp] theorem Mk.ct' (a:Mk):(Enc.cells a).take 19 = Enc.cells a:=Xi rfl a
@[simp] theorem Mk.cd (a:Mk) (r:List D):(Enc.cells a ++ r).drop 19 = r:=Xk rfl a r
@[simp] theorem Mk.el (l:List Mk):(qh l).length = l.length * 19:=Xf rfl l
@[simp] theorem Mk.ed (l:List Mk) (i:Nat):(qh l).drop (i * 19) = qh (l.drop i):=VP rfl l i
@[simp] theorem Mk.et (l:List Mk) (i:Nat):(qh l).take (i * 19) = qh (l.take i):=Kz rfl l i
@[simp high] theorem Mk.ea {l:List Mk} {i:Nat} (h:i < l.length):(qh l).drop (i * 19) = Enc.cells l[i] ++ qh (l.drop (i+1)):=VQ rfl h
@[simp high] theorem Mk.es (m:Mk) {l:List Mk} {j:Nat} (h:j < l.length):qH (qh l) (j * 19) (Enc.cells m) = qh (l.set j m):=KA rfl m l h
theorem zC {s:List UInt8} {n:Nat} (h:s.length≤n):(qd s).drop n = []:=zX (by simpa using h)
@[simp] theorem Mk.t16 (m:Mk):(Enc.cells m).take 16 = qd m.id.l:=by simp [Mk.cells]
@[simp] theorem Mk.t16' (m:Mk) (r:List D):(Enc.cells m ++ r).take 16 = qd m.id.l:=by simp [Mk.cells]
@[simp] theorem Mk.d16 (m:Mk):(Enc.cells m).drop 16 = [.int .u64 m.seq,.int .u64 m.lost,.int .u64 m.over]:=by simp [Mk.cells]
@[simp] theorem Mk.d17 (m:Mk):(Enc.cells m).drop 17 = [.int .u64 m.lost,.int .u64 m.over]:=by simp [Mk.cells,qD,zC]
@[simp] theorem Mk.d18 (m:Mk):(Enc.cells m).drop 18 = [.int .u64 m.over]:=by simp [Mk.cells,qD,zC]
@[simp] theorem Mk.d16' (m:Mk) (r:List D):(Enc.cells m ++ r).drop 16 = [.int .u64 m.seq,.int .u64 m.lost,.int .u64 m.over] ++ r:=by simp [Mk.cells]
@[simp] theorem Mk.d17' (m:Mk) (r:List D):(Enc.cells m ++ r).drop 17 = [.int .u64 m.lost,.int .u64 m.over] ++ r:=by simp [Mk.cells,qD,zC]
@[simp] theorem Mk.d18' (m:Mk) (r:List D):(Enc.cells m ++ r).drop 18 = [.int .u64 m.over] ++ r:=by simp [Mk.cells,qD,zC]
@[simp] theorem Mk.g16 (m:Mk) (h):(Enc.cells m)[16]'h = .int .u64 m.seq:=by simp [Mk.cells]
@[simp] theorem Mk.g17 (m:Mk) (h):(Enc.cells m)[17]'h = .int .u64 m.lost:=by simp [Mk.cells]
@[simp] theorem Mk.g18 (m:Mk) (h):(Enc.cells m)[18]'h = .int .u64 m.over:=by simp [Mk.cells]
@[simp] theorem Mk.s16 (m:Mk) (x:Int):qH (Enc.cells m) 16 [.int .u64 x] = Enc.cells { m with seq:=x }:=by simp [Mk.cells,qD,zC]
@[simp] theorem Mk.s17 (m:Mk) (x:Int):qH (Enc.cells m) 17 [.int .u64 x] = Enc.cells { m with lost:=x }:=by simp [Mk.cells,zW,qD,zC,qx]
@[simp] theorem Mk.s18 (m:Mk) (x:Int):qH (Enc.cells m) 18 [.int .u64 x] = Enc.cells { m with over:=x }:=by simp [Mk.cells,zW,qD,zC,qx]
theorem qzM (x y:Mk):jT [.i,.i,.i,.i,.i,.i,.i,.i,.i,.i,.i,.i,.i,.i,.i,.i,.i,.i,.i] (Enc.cells x) (Enc.cells y) = some (x == y):=by
 have h:=qgr [.i,.i,.i,.i,.i,.i,.i,.i,.i,.i,.i,.i,.i,.i,.i,.i] [.i,.i,.i] (qd x.id.l) x.tl (qd y.id.l) y.tl (by simp) (by simp);rw [qe7] at h;have e:jT [.i,.i,.i] x.tl y.tl = some (x.seq == y.seq && (x.lost == y.lost && x.over == y.over)):=by simp [Mk.tl,jT]
 rw [e] at h
 have e2:(x == y) = (x.id == y.id && (x.seq == y.seq && (x.lost == y.lost && x.over == y.over))):=by
  rw [Bool.eq_iff_iff];cases x;cases y;simp [Mk.mk.injEq,beq_iff_eq]
 rw [e2];exact h
structure Pr where
 name:List UInt8
 value:List UInt8
 deriving DecidableEq
instance:Enc Pr:=⟨2,fun p=>[.str p.name,.str p.value],fun _=>rfl,fun _=>rfl⟩
theorem Pr.cells (p:Pr):Enc.cells p = [.str p.name,.str p.value]:=rfl
@[simp] theorem Pr.size:Enc.size Pr = 2:=rfl
@[simp] theorem Pr.cl (a:Pr):(Enc.cells a).length = 2:=Enc.len a
@[simp] theorem Pr.ct (a:Pr) (r:List D):(Enc.cells a ++ r).take 2 = Enc.cells a:=Xj rfl a r
@[simp] theorem Pr.ct' (a:Pr):(Enc.cells a).take 2 = Enc.cells a:=Xi rfl a
@[simp] theorem Pr.cd (a:Pr) (r:List D):(Enc.cells a ++ r).drop 2 = r:=Xk rfl a r
@[simp] theorem Pr.el (l:List Pr):(qh l).length = l.length * 2:=Xf rfl l
@[simp] theorem Pr.ed (l:List Pr) (i:Nat):(qh l).drop (i * 2) = qh (l.drop i):=VP rfl l i
@[simp] theorem Pr.et (l:List Pr) (i:Nat):(qh l).take (i * 2) = qh (l.take i):=Kz rfl l i
@[simp high] theorem Pr.ea {l:List Pr} {i:Nat} (h:i < l.length):(qh l).drop (i * 2) = Enc.cells l[i] ++ qh (l.drop (i+1)):=VQ rfl h
@[simp high] theorem Pr.es (m:Pr) {l:List Pr} {j:Nat} (h:j < l.length):qH (qh l) (j * 2) (Enc.cells m) = qh (l.set j m):=KA rfl m l h
structure Rec where
 seq:Int
 real:Int
 mono:Int
 boot:ID
 fields:Sl Pr
instance:Enc Rec:=⟨20,fun r=>[.int .u64 r.seq,.int .u64 r.real,.int .u64 r.mono] ++ (qd r.boot.l ++ [(.vsl r.fields.nil (qh r.fields.l) r.fields.l.length)]),fun r=>by simp,fun r=>by simp [idFree]⟩
theorem Rec.cells (r:Rec):Enc.cells r = [.int .u64 r.seq,.int .u64 r.real,.int .u64 r.mono] ++ (qd r.boot.l ++ [(.vsl r.fields.nil (qh r.fields.l) r.fields.l.length)]):=rfl
@[simp] theorem Rec.size:Enc.size Rec = 20:=rfl
structure Rec.Ok (r:Rec):Prop where
 seq:qA r.seq
 real:qA r.real
 mono:qA r.mono
@[simp] theorem Rec.cl (a:Rec):(Enc.cells a).length = 20:=Enc.len a
@[simp] theorem Rec.ct (a:Rec) (r:List D):(Enc.cells a ++ r).take 20 = Enc.cells a:=Xj rfl a r
@[simp] theorem Rec.ct' (a:Rec):(Enc.cells a).take 20 = Enc.cells a:=Xi rfl a
@[simp] theorem Rec.cd (a:Rec) (r:List D):(Enc.cells a ++ r).drop 20 = r:=Xk rfl a r
@[simp] theorem Rec.el (l:List Rec):(qh l).length = l.length * 20:=Xf rfl l
@[simp] theorem Rec.ed (l:List Rec) (i:Nat):(qh l).drop (i * 20) = qh (l.drop i):=VP rfl l i
@[simp] theorem Rec.et (l:List Rec) (i:Nat):(qh l).take (i * 20) = qh (l.take i):=Kz rfl l i
@[simp high] theorem Rec.ea {l:List Rec} {i:Nat} (h:i < l.length):(qh l).drop (i * 20) = Enc.cells l[i] ++ qh (l.drop (i+1)):=VQ rfl h
@[simp high] theorem Rec.es (m:Rec) {l:List Rec} {j:Nat} (h:j < l.length):qH (qh l) (j * 20) (Enc.cells m) = qh (l.set j m):=KA rfl m l h
structure It where
 id:ID
 gap:Bool
 fr:Int
 til:Int
 rc:Rec
instance:Enc It:=⟨39,fun i=>qd i.id.l ++ ([.bool i.gap,.int .u64 i.fr,.int .u64 i.til] ++ Enc.cells i.rc),fun i=>by simp,fun i=>by simp [idFree]⟩
theorem It.cells (i:It):Enc.cells i = qd i.id.l ++ ([.bool i.gap,.int .u64 i.fr,.int .u64 i.til] ++ ([.int .u64 i.rc.seq,.int .u64 i.rc.real,.int .u64 i.rc.mono] ++ (qd i.rc.boot.l ++ [(.vsl i.rc.fields.nil (qh i.rc.fields.l) i.rc.fields.l.length)]))):=rfl
@[simp] theorem It.size:Enc.size It = 39:=rfl
structure It.Ok (i:It):Prop where
 fr:qA i.fr
 til:qA i.til
 rc:i.rc.Ok
@[simp] theorem It.cl (a:It):(Enc.cells a).length = 39:=Enc.len a
@[simp] theorem It.ct (a:It) (r:List D):(Enc.cells a ++ r).take 39 = Enc.cells a:=Xj rfl a r
@[simp] theorem It.ct' (a:It):(Enc.cells a).take 39 = Enc.cells a:=Xi rfl a
@[simp] theorem It.cd (a:It) (r:List D):(Enc.cells a ++ r).drop 39 = r:=Xk rfl a r
@[simp] theorem It.el (l:List It):(qh l).length = l.length * 39:=Xf rfl l
@[simp] theorem It.ed (l:List It) (i:Nat):(qh l).drop (i * 39) = qh (l.drop i):=VP rfl l i
@[simp] theorem It.et (l:List It) (i:Nat):(qh l).take (i * 39) = qh (l.take i):=Kz rfl l i
@[simp high] theorem It.ea {l:List It} {i:Nat} (h:i < l.length):(qh l).drop (i * 39) = Enc.cells l[i] ++ qh (l.drop (i+1)):=VQ rfl h
@[simp high] theorem It.es (m:It) {l:List It} {j:Nat} (h:j < l.length):qH (qh l) (j * 39) (Enc.cells m) = qh (l.set j m):=KA rfl m l h
@[simp] theorem It.t16 (i:It):(Enc.cells i).take 16 = qd i.id.l:=by simp [It.cells]
@[simp] theorem It.t16' (i:It) (r:List D):(Enc.cells i ++ r).take 16 = qd i.id.l:=by simp [It.cells]
@[simp] theorem It.d16 (i:It):(Enc.cells i).drop 16 = .bool i.gap :: .int .u64 i.fr :: .int .u64 i.til :: .int .u64 i.rc.seq :: .int .u64 i.rc.real :: .int .u64 i.rc.mono :: (qd i.rc.boot.l ++ [(.vsl i.rc.fields.nil (qh i.rc.fields.l) i.rc.fields.l.length)]):=by simp [It.cells]
@[simp] theorem It.d17 (i:It):(Enc.cells i).drop 17 = .int .u64 i.fr :: .int .u64 i.til :: .int .u64 i.rc.seq :: .int .u64 i.rc.real :: .int .u64 i.rc.mono :: (qd i.rc.boot.l ++ [(.vsl i.rc.fields.nil (qh i.rc.fields.l) i.rc.fields.l.length)]):=by simp [It.cells,qD,zC]
@[simp] theorem It.d18 (i:It):(Enc.cells i).drop 18 = .int .u64 i.til :: .int .u64 i.rc.seq :: .int .u64 i.rc.real :: .int .u64 i.rc.mono :: (qd i.rc.boot.l ++ [(.vsl i.rc.fields.nil (qh i.rc.fields.l) i.rc.fields.l.length)]):=by simp [It.cells,qD,zC]
@[simp] theorem It.d19 (i:It):(Enc.cells i).drop 19 = .int .u64 i.rc.seq :: .int .u64 i.rc.real :: .int .u64 i.rc.mono :: (qd i.rc.boot.l ++ [(.vsl i.rc.fields.nil (qh i.rc.fields.l) i.rc.fields.l.length)]):=by simp [It.cells,qD,zC]
@[simp] theorem It.d20 (i:It):(Enc.cells i).drop 20 = .int .u64 i.rc.real :: .int .u64 i.rc.mono :: (qd i.rc.boot.l ++ [(.vsl i.rc.fields.nil (qh i.rc.fields.l) i.rc.fields.l.length)]):=by simp [It.cells,qD,zC]
@[simp] theorem It.d21 (i:It):(Enc.cells i).drop 21 = .int .u64 i.rc.mono :: (qd i.rc.boot.l ++ [(.vsl i.rc.fields.nil (qh i.rc.fields.l) i.rc.fields.l.length)]):=by simp [It.cells,qD,zC]
@[simp] theorem It.d22 (i:It):(Enc.cells i).drop 22 = qd i.rc.boot.l ++ [(.vsl i.rc.fields.nil (qh i.rc.fields.l) i.rc.fields.l.length)]:=by simp [It.cells,qD,zC]
@[simp] theorem It.d38 (i:It):(Enc.cells i).drop 38 = [(.vsl i.rc.fields.nil (qh i.rc.fields.l) i.rc.fields.l.length)]:=by simp [It.cells,qD,zC]
def leN:List UInt8→Nat
 | []=>0
 | b :: l=>b.toNat+256 * leN l
def qJ:Nat→Nat→List UInt8
 | 0,_=>[]
 | n+1,v=>UInt8.ofNat (v % 256) :: qJ n (v / 256)
@[simp] theorem X5:∀ (n v:Nat),(qJ n v).length = n
 | 0,_=>rfl
 | n+1,v=>by simp [qJ,X5 n]
theorem X4:∀ (l:List UInt8),leN l < 256 ^ l.length
 | []=>by simp [leN]
 | b :: l=>by
  have h1:=X4 l;have h2:=b.toNat_lt;simp only [leN,qG,XO];omega
theorem qhU:∀ (n v:Nat),leN (qJ n v) = v % 256 ^ n
 | 0,v=>by simp [qJ,leN,Nat.mod_one]
 | n+1,v=>by
  simp only [qJ,leN,qhU n];rw [VU (JT _ (by decide)),XO,Nat.mul_comm (256 ^ n) 256,Nat.mod_mul]
theorem qhW:∀ (l:List UInt8),qJ l.length (leN l) = l
 | []=>rfl
 | b :: l=>by
  have h2:=b.toNat_lt;have e1:(b.toNat+256 * leN l) % 256 = b.toNat:=by omega
  have e2:(b.toNat+256 * leN l) / 256 = leN l:=by omega
  simp only [qG,leN,qJ,e1,e2,qhW l];simp
theorem qfI:∀ (n v:Nat),qJ (n+1) v = qJ n v ++ [UInt8.ofNat (v / 256 ^ n % 256)]
 | 0,v=>by simp [qJ]
 | n+1,v=>by
  rw [qJ,qfI n (v / 256),qJ,kt,Nat.div_div_eq_div_mul,XO,Nat.mul_comm 256]
theorem V5 (a b:List UInt8):qd (a ++ b) = qd a ++ qd b:=by simp [qd]
theorem YH (a:UInt8) (b:List UInt8):qd (a :: b) = .int .u8 (a.toNat:Int) :: qd b:=rfl
theorem Ze (l:List UInt8) (i:Nat):(qd l).drop i = qd (l.drop i):=by simp [qd]
theorem kw (l:List UInt8) (i:Nat):(qd l).take i = qd (l.take i):=by simp [qd]
theorem jt {l:List UInt8} {i:Nat} (h:i < l.length):(qd l).drop i = .int .u8 (l[i].toNat:Int) :: qd (l.drop (i+1)):=by
 rw [Ze,zm h,YH]
theorem qly {l:List UInt8} {i:Nat} (h:i < (qd l).length):(qd l)[i] = .int .u8 ((l[i]'(by simpa using h)).toNat:Int):=by simp [qd]
@[simp] theorem Y0 (s:List UInt8):kE (qd s) = some s:=by
 induction s with
 | nil=>rfl
 | cons a s ih =>
  have:kE (qd (a :: s)) = (kE (qd s)).map fun r=>UInt8.ofNat ((a.toNat:Int)).toNat :: r:=rfl;rw [this,ih];simp
theorem qlq (x y:Nat) (h:y < 256):(x * 256) ||| y = x * 256+y:=by
 have:=Nat.shiftLeft_add_eq_or_of_lt (b:=y) (i:=8) (by simpa using h) x;rw [Nat.shiftLeft_eq] at this;simpa using this.symm
def BufE {α:Type} [Enc α] (n:Nat) (d:D) (H:qi) (l:List α):Prop:=(d = .vsl true [] 0∧l = []∧H = [])∨(d = .osl 0 (l.length * n) 0 l.length n∧H = [some (qh l)]∧l≠[])
theorem BufE.snoc {α:Type} [Enc α] {n:Nat} (l:List α) (a:α):BufE n (.osl 0 (l.length * n+n) 0 (l.length+1) n) [some (qh l ++ Enc.cells a)] (l ++ [a]) :=
 .inr ⟨by simp [vR],by simp [Z0],by simp⟩
theorem BufE.one {α:Type} [Enc α] {n:Nat} (a:α):BufE n (.osl 0 n 0 1 n) [some (Enc.cells a)] ([] ++ [a]) :=
 .inr ⟨by simp,by simp [Xe],by simp⟩
def Sl.grown {α:Type} (l:List α):Sl α:=⟨l.isEmpty,l,by simp⟩
@[simp] theorem Sl.grown_l {α:Type} (l:List α):(Sl.grown l).l = l:=rfl
def ID.mk' (l:List UInt8):ID:=if h:l.length = 16 then ⟨l,h⟩ else ID.zero
theorem ID.mk'_l {l:List UInt8} (h:l.length = 16):(ID.mk' l).l = l:=by unfold ID.mk';rw [dif_pos h]
def Jf (r:List UInt8):Mk:=⟨ID.mk' (r.take 16),leN ((r.drop 16).take 8),leN ((r.drop 24).take 8),leN ((r.drop 32).take 8)⟩
def Kk (out:List Mk) (id:List UInt8):Bool:=match out.getLast? with
 | some m=>decide (0≤qy m.id.l id)
 | none=>false
def J5:Nat→List UInt8→List Mk→List Mk × Int
 | 0,_,out=>(out,0)
 | k+1,r,out=>if r.length < 16 then ([],22) else if Kk out (r.take 16) then ([],13) else if r.length < 40 then ([],22) else J5 k (r.drop 40) (out ++ [Jf r])
def vi:List UInt8→List Mk × Int
 | []=>([],22)
 | c :: r=>if 4 < c.toNat then ([],21) else J5 c.toNat r []
def readN (x:List Mk × Int):Int:=if x.2 = 0 then 1+40 * (x.1.length:Int) else 0
def qaJ (P:Program) (g:TypeId→Bool):List Field→Nat→Nat→Bool
 | [],off,size=>off == size
 | f :: fs,off,size=>f.offset == off && g f.type && qaJ P g fs (off+P.cellsOf f.type) size
def qa0 (P:Program):Nat→TypeId→Bool
 | 0,_=>false
 | n+1,t=>match P.underlying t with
  | some .bool=>true
  | some (.int _)=>true
  | some .string=>true
  | some (.slice e)=>qa0 P n e
  | some (.array m e)=>qa0 P n e && P.cellsOf t == m * P.cellsOf e
  | some (.struct fs)=>qaJ P (qa0 P n) fs.toList 0 (P.cellsOf t)
  | _=>false
def qeI (P:Program) (g:TypeId→List D→Prop):List Field→List D→Prop
 | [],cs=>cs = []
 | f :: fs,cs=>∃ a b,cs = a ++ b∧a.length = P.cellsOf f.type∧g f.type a∧qeI P g fs b
def ku (P:Program):Nat→TypeId→List D→Prop
 | 0,_,_=>False
 | n+1,t,cs=>match P.underlying t with
  | some .bool=>∃ b,cs = [.bool b]
  | some (.int k)=>∃ x,cs = [.int k x]∧(Lit.int k x).wf = true
  | some .string=>∃ s,cs = [.str s]∧s.length≤maxLen
  | some (.slice e)=>cs = [.vsl true [] 0]∨∃ ls:List (List D),cs = [.vsl false ls.flatten ls.length]∧ls.length≤maxLen∧∀ l,l∈ls→l.length = P.cellsOf e∧ku P n e l
  | some (.array m e)=>∃ ls:List (List D),cs = ls.flatten∧ls.length = m∧∀ l,l∈ls→l.length = P.cellsOf e∧ku P n e l
  | some (.struct fs)=>qeI P (ku P n) fs.toList cs
  | _=>False
attribute [irreducible] ku
theorem qdd {W:World} {a:Addr} {v:Value} (h:W.cell? a = some v):a.block < W.heap.size:=by
 unfold World.cell? at h;rcases ZU a.block W.heap.size with qg | hge
 ·exact qg
 ·have:W.heap[a.block]? = none:=qc5 hge;simp [this] at h
def XS (W:World) (ds:List D) (vs:List Value):Prop:=ds.length = vs.length∧(∀ d,d∈ds→zR d = true)∧∀ (j:Nat) d,ds[j]? = some d→Rep (· < W.heap.size) W zg [] d (vs.getD j undef)
theorem qev {W:World} {d:D} {v:Value} (hc:zR d = true) (h:Rep (· < W.heap.size) W zg [] d v):XS W [d] [v]:=by
 refine ⟨rfl,fun x hx=>by rw [List.mem_singleton.1 hx];exact hc,fun j x hj=>?_⟩;cases j with
 | zero=>simp at hj;subst hj;exact h
 | succ j=>simp at hj
theorem qnT {W:World} {a b:List D} {us vs:List Value} (h1:XS W a us) (h2:XS W b vs):XS W (a ++ b) (us ++ vs):=by
 refine ⟨by simp [h1.1,h2.1],fun d hd=>?_,fun j d hj=>?_⟩
 ·rcases List.mem_append.1 hd with h | h
  ·exact h1.2.1 d h
  ·exact h2.2.1 d h
 ·by_cases qg:j < a.length
  ·rw [ZY qg] at hj;have:=h1.2.2 j d hj;rw [jV] at this ⊢
   rwa [ZY (by rw [← h1.1];exact qg)]
  ·rw [VW (by omega)] at hj;have:=h2.2.2 _ d hj;rw [jV] at this ⊢;rw [VW (by rw [← h1.1];omega),← h1.1];exact this
section
variable {H:Type} {enc:TypeId × Value→H} {P:Program} {W:World}
theorem qnQ {sz:Nat} {Q:List D→Prop}:∀ (m off:Nat) (cs:List Value),cs.length = off+m * sz →
  (∀ i,i < m→∃ ds,Q ds∧XS W ds ((cs.drop (off+i * sz)).take sz))→∃ ls:List (List D),ls.length = m∧(∀ l,l∈ls→l.length = sz∧Q l)∧XS W ls.flatten (cs.drop off)
 | 0,off,cs,hl,_=>⟨[],rfl,by simp,by
   rw [zX (by omega)];exact ⟨rfl,by simp,by simp⟩⟩
 | m+1,off,cs,hl,h=>by
  have e1:(m+1) * sz = sz+m * sz:=by rw [vR,Nat.one_mul,Nat.add_comm]
  rw [e1] at hl;obtain ⟨ds,q1,q2⟩:=h 0 (by omega);rw [Nat.zero_mul,Nat.add_zero] at q2
  obtain ⟨ls,l1,l2,l3⟩:=qnQ (sz:=sz) (Q:=Q) m (off+sz) cs (by omega) (fun i hi=>by
   have:=h (i+1) (by omega);rw [vR,Nat.one_mul] at this;rw [show off+sz+i * sz = off+(i * sz+sz) by omega];exact this)
  have Yo:ds.length = sz:=by
   rw [q2.1,js,jU];omega
  refine ⟨ds :: ls,by simp [l1],fun l hl=>?_,?_⟩
  ·rcases List.mem_cons.1 hl with rfl | hl
   ·exact ⟨Yo,q1⟩
   ·exact l2 l hl
  ·rw [qc1];have:=qnT q2 l3;rw [← kF,V0] at this;exact this
theorem qmX {g:TypeId→Bool} {Q:TypeId→List D→Prop}:∀ (fs:List Field) (off:Nat) (cs:List Value),qaJ P g fs off cs.length = true →
  (∀ f,f∈fs→g f.type = true→∃ ds,Q f.type ds∧XS W ds ((cs.drop f.offset).take (P.cellsOf f.type)))→∃ ds,qeI P Q fs ds∧XS W ds (cs.drop off)
 | [],off,cs,hp,_=>by
  simp only [qaJ,beq_iff_eq] at hp;exact ⟨[],rfl,by rw [zX (by omega)];exact ⟨rfl,by simp,by simp⟩⟩
 | f :: fs,off,cs,hp,h=>by
  simp only [qaJ,qT,beq_iff_eq] at hp;obtain ⟨⟨h1,h2⟩,h3⟩:=hp;obtain ⟨a,a1,a2⟩:=h f (QY ..) h2;obtain ⟨b,b1,b2⟩:=qmX fs (off+P.cellsOf f.type) cs h3 fun f' hf=>h f' (kU _ hf);rw [h1] at a2;have hle:off+P.cellsOf f.type≤cs.length:=plainF_le h3;refine ⟨a ++ b,⟨a,b,rfl,?_,a1,b1⟩,?_⟩
  ·rw [a2.1,js,jU];omega
  ·have:=qnT a2 b2
   rwa [← kF,V0] at this
where plainF_le {g:TypeId→Bool}:∀ {fs:List Field} {off n:Nat},qaJ P g fs off n = true→off≤n
 | [],off,n,h=>by simp only [qaJ,beq_iff_eq] at h;omega
 | f :: fs,off,n,h=>by
  simp only [qaJ,qT] at h;have:=plainF_le h.2;omega
theorem qjx:∀ (n fuel:Nat) (t:TypeId) (cs:List Value) (x:DataW H × List MemPlace),qa0 P n t = true→DataW.trod enc P W 0 (fun _=>true) true fuel t cs = some x →
  ∃ ds,ku P n t ds∧XS W ds cs
 | 0,_,_,_,_,h,_=>by simp [qa0] at h
 | n+1,fuel,t,cs,x,hp,h=>by
  have ih:=qjx n;unfold qa0 at hp;unfold ku;cases hu:P.underlying t with
  | none=>rw [hu] at hp;simp at hp
  | some u =>
  rw [hu] at hp;cases u with
  | bool =>
   obtain ⟨b,rfl,_⟩:=DataW.trod_bool hu h;exact ⟨_,⟨b,rfl⟩,qev rfl (.bool _)⟩
  | int k =>
   obtain ⟨b,rfl,_,hw⟩:=DataW.trod_int hu h;exact ⟨_,⟨b,rfl,hw⟩,qev rfl (.int _ _)⟩
  | string =>
   obtain ⟨s,rfl,_,hw⟩:=DataW.trod_string hu h;refine ⟨_,⟨s.data.toList,rfl,by simpa using hw⟩,qev rfl ?_⟩;have:=Rep.str (ok:=(· < W.heap.size)) (w:=W) (ι:=zg) (H:=[]) s.data.toList;simpa using this
  | slice e =>
   simp only at hp ⊢;rcases DataW.trod_slice hu h with ⟨rfl,_⟩ | ⟨a,len,cap,elems,rest,m,rfl,rfl,_,_,qR,Vn,Yn,qq,_⟩
   ·exact ⟨_,.inl rfl,qev rfl .vnil⟩
   ·have hrow:∀ i,i < len→∃ ds,ku P n e ds∧ds.length = P.cellsOf e∧(∀ d,d∈ds→zR d = true)∧∀ (j:Nat) d,ds[j]? = some d→∃ v,W.cell? (a.add (i * P.cellsOf e+j)) = some v∧Rep (· < W.heap.size) W zg [] d v:=by
     intro i hi;have hg:=qq i hi;rw [zi (by omega)] at hg;cases hcs:W.cells? 0 (a.add (i * P.cellsOf e)) (P.cellsOf e) with
     | none=>rw [hcs] at hg;simp at hg
     | some cs =>
      rw [hcs,Y3] at hg;obtain ⟨ds,d1,d2,d3,d4⟩:=ih m e cs _ hp hg;obtain ⟨_,c2,c3⟩:=World.cells?_some hcs;refine ⟨ds,d1,by rw [d2,c2],d3,fun j d hj=>?_⟩;have vt:j < cs.length:=(by rw [← d2];exact (List.getElem?_eq_some_iff.1 hj).1);refine ⟨cs[j],?_,?_⟩
      ·rw [← Addr.add_add,c3 j (by omega),zi vt]
      ·have:=d4 j d hj
       rwa [jV,zi vt,Ju] at this
    have vg:∀ k,k≤len→∃ ls:List (List D),ls.length = k∧(∀ l,l∈ls→l.length = P.cellsOf e∧ku P n e l)∧(∀ d,d∈ls.flatten→zR d = true)∧ls.flatten.length = k * P.cellsOf e ∧
      ∀ (j:Nat) d,ls.flatten[j]? = some d→∃ v,W.cell? (a.add j) = some v∧Rep (· < W.heap.size) W zg [] d v:=by
     intro k
     induction k with
     | zero=>intro _;exact ⟨[],rfl,by simp,by simp,by simp,by simp⟩
     | succ k ihk =>
      intro hk;obtain ⟨ls,l1,l2,l3,l4,l5⟩:=ihk (by omega);obtain ⟨ds,d1,d2,d3,d4⟩:=hrow k (by omega);refine ⟨ls ++ [ds],by simp [l1],fun l hl=>?_,?_,?_,?_⟩
      ·rcases List.mem_append.1 hl with h | h
       ·exact l2 l h
       ·rw [List.mem_singleton.1 h];exact ⟨d2,d1⟩
      ·intro d hd;rw [List.flatten_append] at hd;rcases List.mem_append.1 hd with h | h
       ·exact l3 d h
       ·exact d3 d (by simpa using h)
      ·rw [List.flatten_append,qC,l4,vR,Nat.one_mul];simp [d2]
      ·intro j d hj;rw [List.flatten_append] at hj;by_cases qg:j < ls.flatten.length
       ·rw [ZY qg] at hj;exact l5 j d hj
       ·rw [VW (by omega)] at hj;rw [l4] at hj qg;have kL:ds[j - k * P.cellsOf e]? = some d:=(by simpa using hj);obtain ⟨v,v1,v2⟩:=d4 _ d kL;refine ⟨v,?_,v2⟩;rw [← v1];congr 2;omega
    obtain ⟨ls,l1,l2,l3,l4,l5⟩:=vg len (qB _);refine ⟨_,.inr ⟨ls,rfl,by rw [l1];omega,l2⟩,qev rfl ?_⟩;rw [l1];refine .vsl a (fun j=>(W.cell? (a.add j)).getD undef) (fun d hd=>?_) l3 (fun j d hj=>?_) (fun j d hj=>?_) qR
    ·obtain ⟨j,hj⟩:=List.mem_iff_getElem?.1 hd;obtain ⟨v,v1,_⟩:=l5 j d hj;have:=qdd v1
     rwa [qcv] at this
    ·obtain ⟨v,v1,_⟩:=l5 j d hj;rw [v1];rfl
    ·obtain ⟨v,v1,v2⟩:=l5 j d hj;rw [v1];exact v2
  | array m e =>
   simp only [qT,beq_iff_eq] at hp ⊢;obtain ⟨xs,k,rfl,_,hl,hxl,hg⟩:=DataW.trod_array hu h
   have:=qnQ (W:=W) (sz:=P.cellsOf e) (Q:=ku P n e) m 0 cs (by rw [hl,hp.2];omega) (fun i hi=>by
    rw [vQ];have Vl:=hg i hi;rw [zi (by omega)] at Vl;exact ih k e _ _ hp.1 Vl)
   obtain ⟨ls,l1,l2,l3⟩:=this;exact ⟨ls.flatten,⟨ls,rfl,l1,l2⟩,by simpa using l3⟩
  | struct fs =>
   simp only at hp ⊢;obtain ⟨xs,k,rfl,_,hl,hxl,hg⟩:=DataW.trod_struct hu h;rw [← hl] at hp
   obtain ⟨ds,d1,d2⟩:=qmX (W:=W) (Q:=ku P n) fs.toList 0 cs hp (fun f hf hgf=>by
    obtain ⟨i,hi⟩:=List.mem_iff_getElem?.1 hf;have ZG:fs[i]? = some f:=(by simpa using hi);have Vl:=hg i f ZG;have qg:i < xs.length:=(by rw [hxl];exact (Array.getElem?_eq_some_iff.1 ZG).1);rw [zi qg] at Vl;exact ih k f.type _ _ hgf Vl)
   exact ⟨ds,d1,by simpa using d2⟩
  | _=>simp at hp
theorem qkK {n:Nat} {t:TypeId} {v:Value} {d:DataW H} {ps:List MemPlace} (hp:qa0 P n t = true) (h:DataW.Trod enc P W 0 (fun _=>true) true t v d ps) :
  ∃ ds,ku P n t ds∧XS W ds v.cells.toList:=by
 obtain ⟨fuel,hf⟩:=h;exact qjx n fuel t _ _ hp hf
end
end Go.Ev
namespace Go.Ev
open Go Go.Proofs Go.RowKit Go.ChangeShapes
theorem qeD (a:Addr):a.add 0 = a:=by
 obtain ⟨b,o,p⟩:=a;cases p <;> simp [Addr.add]
theorem qhn {P:Program} {W:World} {name:String} {k:IntKind} {zs:List Int} {g:Nat} (h:Lib.TabIs P W name k zs) (hg:P.globalNamed name = some g) :
  Rep (· < W.heap.size) W zg [] (.vptr (zs.map (.int k))) (.pointer (some ⟨g,0,none⟩)):=by
 have hc:∀ i,i < zs.length→W.cell? ⟨g,i,none⟩ = some (.int k (zs.getD i 0)):=fun i hi=>h.cell hg i hi;refine .vptr _ (fun j=>.int k (zs.getD j 0)) (fun d hd=>?_) (fun d hd=>?_) (fun j d hj=>?_) (fun j d hj=>?_)
 ·obtain ⟨j,hj⟩:=List.mem_iff_getElem?.1 hd
  have qg:j < zs.length:=by
   have:=(List.getElem?_eq_some_iff.1 hj).1;simpa using this
  have:=qdd (hc j qg);exact this
 ·obtain ⟨z,_,rfl⟩:=List.mem_map.1 hd;rfl
 ·have qg:j < zs.length:=by
   have:=(List.getElem?_eq_some_iff.1 hj).1;simpa using this
  rw [ZR,vQ];exact hc j qg
 ·have qg:j < zs.length:=by
   have:=(List.getElem?_eq_some_iff.1 hj).1;simpa using this
  rw [XP,zi qg,jF,qu] at hj;subst hj;rw [jV,zi qg,Ju];exact .int k _
theorem qkB {P:Program} {W:World} {name:String} {g:Nat} {tp:TypeId} {text:List UInt8} (hg:P.globalNamed name = some g)
  (h:∃ (a:Addr) (s:ByteArray),W.var? P name = some #[.iface tp (.pointer (some a))]∧W.cell? a = some (.string s)∧s.data.toList = text∧s.size≤maxLen) :
  Rep (· < W.heap.size) W zg [] (.vptr [.iface tp (.vptr [.str text])]) (.pointer (some ⟨g,0,none⟩)):=by
 obtain ⟨a,s,hv,hc,rfl,_⟩:=h
 have Jp:W.cell? ⟨g,0,none⟩ = some (.iface tp (.pointer (some a))):=by
  have:=World.var?_cell hg hv 0;simpa using this
 have one:∀ {d e:D} {j:Nat},[e][j]? = some d→j = 0∧d = e:=fun {d e j} hj=>by
  cases j with
  | zero=>simp at hj;exact ⟨rfl,hj.symm⟩
  | succ j=>simp at hj
 have Vj:Rep (· < W.heap.size) W zg [] (.vptr [.str s.data.toList]) (.pointer (some a)):=by
  refine .vptr a (fun _=>.string s) (fun d hd=>qdd hc) (fun d hd=>by rw [List.mem_singleton.1 hd];rfl) (fun j d hj=>?_) (fun j d hj=>?_)
  ·obtain ⟨rfl,rfl⟩:=one hj;rw [qeD];exact hc
  ·obtain ⟨rfl,rfl⟩:=one hj;have:=Rep.str (ok:=(· < W.heap.size)) (w:=W) (ι:=zg) (H:=[]) s.data.toList;simpa using this
 refine .vptr _ (fun _=>.iface tp (.pointer (some a))) (fun d hd=>qdd Jp) (fun d hd=>by rw [List.mem_singleton.1 hd];rfl) (fun j d hj=>?_) (fun j d hj=>?_)
 ·obtain ⟨rfl,rfl⟩:=one hj;rw [qeD];exact Jp
 ·obtain ⟨rfl,rfl⟩:=one hj;exact .iface Vj
def qpW:String:=String.ofList [Char.ofNat 42]
theorem qnu {P:Program} {nm base:String} {tp:TypeId} (hs:qpW ++ base = nm)
  (hrows:((List.range P.types.size).all fun u=>P.typeName? 3 u != some nm || u == tp) = true)
  (hnamed:((List.range P.types.size).all fun e=>P.typeName? 2 e != some base || (match (P.info? e).map (·.desc) with | some (TypeDesc.named _ _)=>true | _=>false)) = true)
  (hstar:base.toList.head?≠some (Char.ofNat 42)):∀ u,P.typeName? 3 u = some nm→u = tp:=by
 subst hs;intro u hu;exact typeName_ptr_named (nm:=base) hrows hnamed hstar u hu
end Go.Ev
namespace Go.Ev
open Go Go.Proofs Go.RowKit
section
variable {X:Cx} {ok:Nat→Prop} {w w':World} {ι:qF} {H:qi}
theorem qiV {n:Nat} (hn:n≤H.length) (hb:Below w.heap.size w w'):Evol n ok w ι H ok w' ι H where
 os:=hb.os
 tape:=hb.tape
 output:=hb.output
 size:=hb.size
 frame b qg _:=hb.block b qg
 okU _ h:=h
 okN _ h _:=.inl h
 nle:=⟨hn,hn⟩
 heap _ _ ds h:=⟨ds,h,qB _,fun _=>rfl⟩
 own i ds _ s h1 h2 _:=⟨i,ds,s,h1,h2⟩
theorem qo1 (hs:Sim X ok w ι H) (hb:Below w.heap.size w w'):Sim X ok w' ι H:=by
 have hev:Evol H.length ok w ι H ok w' ι H:=qiV (qB _) hb;refine ⟨fun b h=>jP (hs.okS b h) hb.size,fun g cs hg=>(((hs.glob g cs hg).lift (ι:=ι) (H:=H)).evol hs hev rfl).free rfl _ _,hs.inj,fun i ds hd=>?_⟩;obtain ⟨b,arr,e,fr,q1,q2,q3,q4,q5,q6,q7,q8⟩:=hs.blk i ds hd
 have qg:b < w.heap.size:=by
  rcases ZU b w.heap.size with h | h
  ·exact h
  ·rw [qc5 h] at q3;cases q3
 exact ⟨b,arr,e,fr,q1,q2,by rw [hb.block b qg];exact q3,q4,q5,q6,q7,fun j d hj=>(q8 j d hj).evol hs hev (q8 j d hj).closed⟩
theorem qcu {f:Nat} {vs:List Value} {r:D} (hs:Sim X ok w ι H) (henter:(callFunc f vs.toArray).run X.P w = .ok (.enter f vs.toArray) w)
  (hc:Calls X.P f vs.toArray w fun e w'=>∃ v,e = .returned v∧Rep ok w' ι H r v∧Below w.heap.size w w'):Goes X.P (callFunc f vs.toArray) w (Jw X ok w ι H r H):=by
 unfold Goes;rw [henter];refine hc.mono ?_;rintro e w' ⟨v,rfl,hr,hb⟩;exact ⟨v,rfl,ι,ok,qo1 hs hb,hr,qiV (qB _) hb,fun i ds hi hd=>by rw [qq,List.getElem?_eq_none hi] at hd;cases hd⟩
theorem qip {g:Nat} {k:IntKind} {m:Int} (hs:Sim X ok w ι H) (hg:X.glob g = some [.int k m]):w.cell? ⟨g,0,none⟩ = some (.int k m):=by
 have h:=hs.glob g _ hg;cases h with
 | vptr a f ha hc hr h =>
  have h1:=hr 0 (.int k m) rfl;have h2:=h 0 (.int k m) rfl;rw [qeD] at h1;generalize f 0 = v at h1 h2;cases h2;exact h1
theorem qrD {W:World} {g:Nat} {k:IntKind} {m:Int} (h:W.cell? ⟨g,0,none⟩ = some (.int k m)):Rep (· < W.heap.size) W zg [] (.vptr [.int k m]) (.pointer (some ⟨g,0,none⟩)):=by
 refine .vptr _ (fun _=>.int k m) (fun d hd=>qdd h) (fun d hd=>by rw [List.mem_singleton.1 hd];rfl) (fun j d hj=>?_) (fun j d hj=>?_)
 ·cases j with
  | zero=>rw [qeD];exact h
  | succ j=>simp at hj
 ·cases j with
  | zero=>simp at hj;subst hj;exact .int k m
  | succ j=>simp at hj
end
class MaxL where
 m:Int
end Go.Ev
namespace Go.Ev
open Go Go.Proofs Go.RowKit Go.Shelf
def kq:Nat→Nat→List UInt8
 | 0,_=>[]
 | f+1,v=>if v < 10 then [UInt8.ofNat (48+v)] else kq f (v / 10) ++ [UInt8.ofNat (48+v % 10)]
def qE (v:Nat):List UInt8:=kq 20 v
theorem qnL:∀ {f v:Nat},v < 10 ^ f→1≤f→kq f v = Lib.decDigits v
 | f+1,v,h,_=>by
  rw [kq,Lib.decDigits];by_cases hv:v < 10
  ·rw [if_pos hv,dif_pos hv]
  ·have hf:1≤f:=by
    rcases f with _ | f
    ·simp at h;omega
    ·omega
   rw [if_neg hv,dif_neg hv,qnL (f:=f) (by rw [XO] at h;omega) hf]
theorem qnI {v:Nat} (h:v < 18446744073709551616):qE v = Lib.decDigits v:=qnL (Nat.lt_trans h (by decide)) (by decide)
def qey:List D→qi→Option (D × qi)
 | [.int .u64 x],H=>if 0≤x∧x≤18446744073709551615 then some (.int .i64 (Lib.bitLen x.toNat),H) else none
 | _,_=>none
def qex:List D→qi→Option (D × qi)
 | [.int .i64 x],H=>if 0≤x∧x < 100 then some (.str (qE x.toNat),H) else none
 | _,_=>none
section
variable {X:Cx} {ρ:Ren} {ok:Nat→Prop} {w:World} {ι:qF} {H H':qi} {r:D} {args:List D} {vs:List Value}
theorem qkE {k:IntKind} {x:Int} (hv:RepL ok w ι H [.int k x] vs):vs = [.int k x]:=by
 obtain ⟨v,us,rfl,h1,h2⟩:=J4 hv;cases qbW h2;cases h1;rfl
theorem qzs (L:Lays.n129 X.P ρ) (h:qey args H = some (r,H')) (hs:Sim X ok w ι H) (hv:RepL ok w ι H args vs) :
  Goes X.P (callFunc (ρ.f 129) vs.toArray) w (Jw X ok w ι H r H'):=by
 have he:∀ args w,(callFunc (ρ.f 129) args).run X.P w = .ok (.enter (ρ.f 129) args) w:=Go.Proofs.enters_of L.f129 (by kernel_rfl) rfl;unfold qey at h;split at h
 ·rename_i x;split at h
  ·rename_i hc;injection h with h;injection h with h1 h2;subst h1;subst h2;cases qkE hv;refine qcu hs (he _ _) ((Any.bits_Len64 L x w hc.1 hc.2).mono ?_);rintro e w' ⟨rfl,rfl⟩;exact ⟨_,rfl,.int .i64 _,Below.refl _ _⟩
  ·cases h
 ·cases h
theorem qzr (L:Lays.n283 X.P ρ) (h:qex args H = some (r,H')) (hs:Sim X ok w ι H) (hv:RepL ok w ι H args vs) :
  Goes X.P (callFunc (ρ.f 283) vs.toArray) w (Jw X ok w ι H r H'):=by
 have he:∀ args w,(callFunc (ρ.f 283) args).run X.P w = .ok (.enter (ρ.f 283) args) w:=Go.Proofs.enters_of L.f283 (by kernel_rfl) rfl;unfold qex at h;split at h
 ·rename_i x;split at h
  ·rename_i hc;injection h with h;injection h with h1 h2;subst h1;subst h2;cases qkE hv;have hx:x = ((x.toNat:Nat):Int):=(by omega);have:=Any.internal_strconv_small L x.toNat (by omega) w;rw [← hx] at this;refine qcu hs (he _ _) (this.mono ?_);rintro e w' ⟨rfl,rfl⟩;rw [qnI (by omega)];exact ⟨_,rfl,.str _,Below.refl _ _⟩
  ·cases h
 ·cases h
end
end Go.Ev
namespace Go.Ev
open Go Go.Proofs Go.RowKit Go.Shelf
def zA (sub:List UInt8):List UInt8→Nat→Int
 | [],n=>if sub.isEmpty then n else -1
 | b :: l,n=>if sub.isPrefixOf (b :: l) then n else zA sub l (n+1)
theorem qmp (sub:List UInt8):∀ (l:List UInt8) (n:Nat),zA sub l n = if Lib.index l sub = -1 then -1 else Lib.index l sub+n
 | [],n=>by
  simp only [zA,Lib.index];by_cases h:sub.isEmpty = true <;> simp [h]
 | b :: l,n=>by
  have hg:=Lib.index_ge l sub;simp only [zA,Lib.index,qmp sub l (n+1)];by_cases hp:sub.isPrefixOf (b :: l) = true
  ·simp [hp]
  ·by_cases h:Lib.index l sub = -1
   ·simp [h,hp]
   ·have h2:¬ Lib.index l sub+1 = -1:=(by omega);simp only [beq_iff_eq,h,h2,hp,if_false,vT];omega
theorem qic (sub l:List UInt8):Lib.index l sub = zA sub l 0:=by
 rw [qmp];split
 ·assumption
 ·simp
def qez:List D→qi→Option (D × qi)
 | [.str s,.str sub],H=>if s.length < 4294967281 then some (.int .i64 (zA sub s 0),H) else none
 | _,_=>none
def qe2:List D→qi→Option (D × qi)
 | [.str s],H=>if s.length≤281474976710656 then some (.str s,H) else none
 | _,_=>none
section
variable {X:Cx} {ρ:Ren} {ok:Nat→Prop} {w:World} {ι:qF} {H H':qi} {r:D} {args:List D} {vs:List Value}
theorem qkD {s:List UInt8} (hv:RepL ok w ι H [.str s] vs):vs = [.string ⟨s.toArray⟩]:=by
 obtain ⟨v,us,rfl,h1,h2⟩:=J4 hv;cases qbW h2;cases h1;rfl
theorem qkC {s t:List UInt8} (hv:RepL ok w ι H [.str s,.str t] vs):vs = [.string ⟨s.toArray⟩,.string ⟨t.toArray⟩]:=by
 obtain ⟨v,us,rfl,h1,h2⟩:=J4 hv;cases qkD h2;cases h1;rfl
theorem qzt {m:Int} (L:Lays.n219 X.P ρ) (hg:X.glob (ρ.g 1) = some [.int .i64 m]) (h:qez args H = some (r,H')) (hs:Sim X ok w ι H) (hv:RepL ok w ι H args vs) :
  Goes X.P (callFunc (ρ.f 219) vs.toArray) w (Jw X ok w ι H r H'):=by
 have he:∀ args w,(callFunc (ρ.f 219) args).run X.P w = .ok (.enter (ρ.f 219) args) w:=Go.Proofs.enters_of L.f219 (by kernel_rfl) rfl;unfold qez at h;split at h
 ·rename_i s sub;split at h
  ·rename_i zo;injection h with h;injection h with h1 h2;subst h1;subst h2;cases qkC hv;refine qcu hs (he _ _) ((Any.stringslite_Index L ⟨s.toArray⟩ ⟨sub.toArray⟩ m w (by simpa [ByteArray.size] using zo) (qip hs hg)).mono ?_);rintro e w' ⟨rfl,rfl⟩;refine ⟨_,rfl,?_,Below.refl _ _⟩;rw [qic];exact .int .i64 _
  ·cases h
 ·cases h
theorem qzw (L:LaysM.n316 X.P ρ) (h:qe2 args H = some (r,H')) (hs:Sim X ok w ι H) (hv:RepL ok w ι H args vs) :
  Goes X.P (callFunc (ρ.f 316) vs.toArray) w (Jw X ok w ι H r H'):=by
 have he:∀ args w,(callFunc (ρ.f 316) args).run X.P w = .ok (.enter (ρ.f 316) args) w:=Go.Proofs.enters_of L.f316 (by kernel_rfl) rfl;unfold qe2 at h;split at h
 ·rename_i s;split at h
  ·rename_i zo;injection h with h;injection h with h1 h2;subst h1;subst h2;cases qkD hv;refine qcu hs (he _ _) ((Any.stringslite_Clone L ⟨s.toArray⟩ w (by simpa [ByteArray.size] using zo)).mono ?_);rintro e w' ⟨rfl,hb⟩;exact ⟨_,rfl,.str s,hb⟩
  ·cases h
 ·cases h
end
end Go.Ev
namespace Go.Ev
open Go Go.Proofs Go.RowKit Go.Shelf
def za (c:UInt8):List UInt8→Nat→Int
 | [],_=>-1
 | b :: l,n=>if b = c then n else za c l (n+1)
theorem qmr (c:UInt8):∀ (l:List UInt8) (n:Nat),za c l n = if Lib.indexByte l c = -1 then -1 else Lib.indexByte l c+n
 | [],n=>by simp [za,Lib.indexByte]
 | b :: l,n=>by
  have hg:=Lib.indexByte_ge l c;simp only [za,Lib.indexByte,qmr c l (n+1)];by_cases hp:b = c
  ·simp [hp]
  ·by_cases h:Lib.indexByte l c = -1
   ·simp [h,hp]
   ·have h2:¬ Lib.indexByte l c+1 = -1:=(by omega);simp only [beq_iff_eq,h,h2,hp,if_false];omega
theorem qxx (c:UInt8) (l:List UInt8):Lib.indexByte l c = za c l 0:=by
 rw [qmr];split
 ·assumption
 ·simp
def qcP:List D→Option D
 | [.str s,.int .u8 c]=>some (.int .i64 (za (UInt8.ofNat c.toNat) s 0))
 | _=>none
section
variable {X:Cx} {ρ:Ren} {ok:Nat→Prop} {w:World} {ι:qF} {H H':qi} {r:D} {args:List D} {vs:List Value}
theorem qrE {s:List UInt8} {k:IntKind} {c:Int} (hv:RepL ok w ι H [.str s,.int k c] vs):vs = [.string ⟨s.toArray⟩,.int k c]:=by
 obtain ⟨v,us,rfl,h1,h2⟩:=J4 hv;obtain ⟨v2,us2,rfl,h3,h4⟩:=J4 h2;cases qbW h4;cases h1;cases h3;rfl
theorem qxy {P : Program} {f : Nat} {fn : Func} (hf : P.funcs[f]? = some fn) (hn : fn.body = none) (JH : (fn.name == "runtime.NumGoroutine") = false)
  (h1:Extern.findNext fn = none) (h2:Extern.find fn = some Extern.BytealgIndexByte.indexByte) {d:D}
  (h:qcP args = some d) (hv:RepL ok w ι H args vs):∃ v,(callFunc f vs.toArray).run P w = .ok (.value v) w∧Rep ok w ι H d v∧idFree d = true:=by
 unfold qcP at h;split at h
 ·rename_i s c;injection h with h;subst h;cases qrE hv;refine ⟨.int .i64 (za (UInt8.ofNat c.toNat) s 0),?_,.int _ _,rfl⟩;rw [run_callFunc_extern hf JH (by rw [hn];rfl) h1 h2,Lib.run_indexByteString,qxx];rfl
 ·cases h
end
end Go.Ev
namespace Go.Ev
open Go Go.Proofs Go.RowKit
class TxtC where
 t:Nat→List D→qi→Option (D × qi)
def Cx.add (X:Cx) (T:Nat) (t:List D→qi→Option (D × qi)):Cx :=
 { X with con:=fun f=>if f = T then t else X.con f,bad:=fun f=>if f = T then true else X.bad f }
section
variable {X:Cx} {T:Nat} {t:List D→qi→Option (D × qi)}
end
end Go.Ev
namespace Go.Ev
open Go Go.Proofs Go.RowKit Go.Shelf
def Vx:List D→Option (List UInt8)
 | []=>some []
 | .int .u8 n :: l=>if 0≤n∧n < 256 then (Vx l).map fun r=>UInt8.ofNat n.toNat :: r else none
 | _=>none
@[simp] theorem qgv:∀ (s:List UInt8),Vx (qd s) = some s
 | []=>rfl
 | b :: s=>by
  have h:=b.toNat_lt;have:Vx (qd (b :: s)) = if (0:Int)≤(b.toNat:Int)∧(b.toNat:Int) < 256 then (Vx (qd s)).map fun r=>UInt8.ofNat (b.toNat:Int).toNat :: r else none:=rfl;rw [this,qgv s,if_pos (by omega)];simp
theorem qe9:∀ {ds:List D} {s:List UInt8},Vx ds = some s→ds = qd s
 | [],s,h=>by simp [Vx] at h;subst h;rfl
 | d :: l,s,h=>by
  unfold Vx at h;split at h
  ·rename_i e;cases e
  ·rename_i n l' e;cases e;split at h
   ·rename_i hn;cases hr:Vx l with
    | none=>rw [hr] at h;simp at h
    | some r =>
     rw [hr] at h;simp only [jF,qu] at h;subst h;rw [qe9 hr];simp only [qd,Y6,qbI,D.int.injEq,true_and,and_true];rw [VU (by simp;omega)];omega
   ·cases h
  ·cases h
def qcY:List D→qi→Option (D × qi)
 | [.vsl _ ds l,.vsl false es k],H=>match Vx ds,Vx es with
  | some s,some t=>if s.length = l∧t.length = k∧1≤k∧l < 4294967281∧k < 4294967281 then some (.int .i64 (zA t s 0),H) else none
  | _,_=>none
 | _,_=>none
section
variable {X:Cx} {ρ:Ren} {ok:Nat→Prop} {w:World} {ι:qF} {H H':qi} {r:D} {args:List D} {vs:List Value}
theorem qor (s:List UInt8):Lib.bytesOf (s.map fun b=>(b.toNat:Int)) = s:=by
 simp [Lib.bytesOf,List.map_map,Function.comp_def]
theorem qjp {a:Addr} {s:List UInt8} {l c:Nat} (h:Rep ok w ι H (.vsl false (qd s) l) (.slice (some a) l c)) :
  (∀ i,i < s.length→w.cell? (a.add i) = some (.int .u8 ((s.map fun b=>(b.toNat:Int)).getD i 0)))∧l≤c:=by
 cases h with
 | vsl a f ha hc hr h qR =>
  refine ⟨fun i hi=>?_,qR⟩;have hj:(qd s)[i]? = some (.int .u8 (s[i].toNat:Int)):=by simp [qd,hi]
  have h1:=hr i _ hj;have h2:=h i _ hj;rw [h1];generalize f i = v at h2;cases h2;simp [jV,hi]
theorem qmg (s:List UInt8):∀ x∈s.map (fun b=>(b.toNat:Int)),0≤x∧x < 256:=by
 intro x hx;obtain ⟨b,_,rfl⟩:=List.mem_map.1 hx;have:=b.toNat_lt;omega
theorem qzx {m:Int} (L:Lays.n185 X.P ρ) (hg:X.glob (ρ.g 1) = some [.int .i64 m]) (h:qcY args H = some (r,H')) (hs:Sim X ok w ι H) (hv:RepL ok w ι H args vs) :
  Goes X.P (callFunc (ρ.f 185) vs.toArray) w (Jw X ok w ι H r H'):=by
 have he:∀ args w,(callFunc (ρ.f 185) args).run X.P w = .ok (.enter (ρ.f 185) args) w:=Go.Proofs.enters_of L.f185 (by kernel_rfl) rfl;unfold qcY at h;split at h
 ·rename_i nil ds l es k;split at h
  ·rename_i s t Q8 ht1;split at h
   ·rename_i hc;obtain ⟨rfl,rfl,h2,h3,h4⟩:=hc;injection h with h;injection h with e1 e2;subst e1;subst e2;obtain rfl:=qe9 Q8;obtain rfl:=qe9 ht1;obtain ⟨v1,us,rfl,r1,hv⟩:=J4 hv;obtain ⟨v2,us,rfl,r2,hv⟩:=J4 hv;cases qbW hv;obtain ⟨a2,c2,rfl⟩:∃ a c,v2 = .slice (some a) t.length c:=by cases r2;exact ⟨_,_,rfl⟩
    obtain ⟨q2,_⟩:=qjp r2;have hrep:∀ w':World,Rep ok w' ι H (.int .i64 (zA t s 0)) (.int .i64 (zA t s 0)):=fun w'=>.int .i64 _;cases nil with
    | true =>
     obtain ⟨rfl,rfl⟩:s = []∧v1 = .slice none 0 0:=by
      generalize Yo:qd s = ds at r1;generalize s.length = n at r1;cases r1;exact ⟨by cases s <;> simp [qd] at Yo ⊢,rfl⟩
     refine qcu hs (he _ _) ((Any.bytes_Index_nil L (some a2) t.length c2 w (by omega) (fun h=>?_)).mono ?_)
     ·have h0:=q2 0 (by omega);have e2:a2 = ⟨a2.block,a2.off,none⟩:=Lib.plain_of_cell (by simpa [Addr.add] using h0);refine ⟨a2.block,a2.off,(t.map fun b=>(b.toNat:Int)).getD 0 0,congrArg some e2,?_⟩;rw [qeD,e2] at h0;exact h0
     rintro e w' ⟨rfl,rfl⟩;refine ⟨_,rfl,?_,Below.refl _ _⟩;have h0:¬ t.length = 0:=(by omega);have ht:t.isEmpty = false:=(by cases t <;> simp at h0 ⊢);rw [if_neg h0];have:=hrep w';simpa [zA,ht] using this
    | false =>
     obtain ⟨a1,c1,rfl⟩:∃ a c,v1 = .slice (some a) s.length c:=by cases r1;exact ⟨_,_,rfl⟩
     obtain ⟨q1,hcap⟩:=qjp r1;refine qcu hs (he _ _) ((Any.bytes_Index_at L a1 a2 s.length c1 t.length c2 (s.map fun b=>(b.toNat:Int)) (t.map fun b=>(b.toNat:Int)) m w (by simp) (by simp) (qmg s) (qmg t) q1 q2 hcap h3 (by omega) (qip hs hg)).mono ?_);rintro e w' ⟨rfl,q,rfl⟩;refine ⟨_,rfl,?_,below_drewN (Below.refl _ _) q⟩;rw [qor,qor,qic];exact hrep _
   ·cases h
  ·cases h
 ·cases h
end
end Go.Ev
namespace Go.Ev
open Go Go.Proofs Go.RowKit Go.Shelf
def qbM:List D:=(List.range 256).map fun c=>.int .u8 (Lib.firstT c)
def u8acc:List D:=(List.range 16).flatMap fun i=>[.int .u8 (Lib.accLo i),.int .u8 (Lib.accHi i)]
theorem qkA {W:World} {g:Nat} {ds:List D} {z:Nat→Int} (hd:∀ (j:Nat) (d:D),ds[j]? = some d→d = .int .u8 (z j)) (hc:∀ j,j < ds.length→W.cell? ⟨g,j,none⟩ = some (.int .u8 (z j))):Rep (· < W.heap.size) W zg [] (.vptr ds) (.pointer (some ⟨g,0,none⟩)):=by
 refine .vptr _ (fun j=>.int .u8 (z j)) (fun d hm=>?_) (fun d hm=>?_) (fun j d hj=>?_) (fun j d hj=>?_)
 ·obtain ⟨j,hj⟩:=List.mem_iff_getElem?.1 hm;have:=qdd (hc j (List.getElem?_eq_some_iff.1 hj).1);exact this
 ·obtain ⟨j,hj⟩:=List.mem_iff_getElem?.1 hm;rw [hd j d hj];rfl
 ·rw [ZR,vQ];exact hc j (List.getElem?_eq_some_iff.1 hj).1
 ·rw [hd j d hj];exact .int .u8 _
theorem qnd {α:Type} (f g:Nat→α):∀ (n k:Nat) (j:Nat) (d:α),((List.range' k n).flatMap fun i=>[f i,g i])[j]? = some d→d = if j % 2 = 0 then f (k+j / 2) else g (k+j / 2)
 | 0,k,j,d,h=>by simp at h
 | n+1,k,0,d,h=>by simp [List.range'_succ] at h;simp [h]
 | n+1,k,1,d,h=>by simp [List.range'_succ] at h;simp [h]
 | n+1,k,j+2,d,h=>by
  simp only [List.range'_succ,List.flatMap_cons,kt,ZW,List.getElem?_cons_succ] at h;have:=qnd f g n (k+1) j d h;rw [this];have e1:(j+2) % 2 = j % 2:=by omega
  have e2:k+(j+2) / 2 = k+1+j / 2:=by omega
  rw [e1,e2]
theorem qrC {W:World} {g3 g4:Nat} (h:Lib.Utf8Tabs g3 g4 W):Rep (· < W.heap.size) W zg [] (.vptr qbM) (.pointer (some ⟨g3,0,none⟩))∧Rep (· < W.heap.size) W zg [] (.vptr u8acc) (.pointer (some ⟨g4,0,none⟩)):=by
 obtain ⟨h1,h2⟩:=h;constructor
 ·refine qkA (z:=fun j=>(Lib.firstT j:Int)) (fun j d hj=>?_) fun j hj=>h1 j (by simpa [qbM] using hj);simp only [qbM,XP,ZT] at hj;obtain ⟨a,ha,rfl⟩:=hj;rw [List.getElem?_range (by have:=(List.getElem?_eq_some_iff.1 ha).1;simpa using this)] at ha;cases ha;rfl
 ·refine qkA (z:=fun j=>if j % 2 = 0 then (Lib.accLo (j / 2):Int) else Lib.accHi (j / 2)) (fun j d hj=>?_) fun j hj=>?_
  ·have:=qnd (fun i=>D.int .u8 (Lib.accLo i)) (fun i=>D.int .u8 (Lib.accHi i)) 16 0 j d (by rw [← List.range_eq_range'];exact hj);rw [this,vQ];split <;> rfl
  ·have hl:u8acc.length = 32:=rfl;have kL:j < 32:=(by rw [← hl];exact hj);obtain ⟨a,b⟩:=h2 (j / 2) (by omega);by_cases he:j % 2 = 0
   ·have e:j = 2 * (j / 2):=(by omega);rw [if_pos he];rw [← e] at a;exact a
   ·have e:j = 2 * (j / 2)+1:=(by omega);rw [if_neg he];rw [← e] at b;exact b
theorem qpo {X:Cx} {ok:Nat→Prop} {w:World} {ι:qF} {H:qi} {g3 g4:Nat} (hs:Sim X ok w ι H) (h3:X.glob g3 = some qbM) (h4:X.glob g4 = some u8acc):Lib.Utf8Tabs g3 g4 w:=by
 have get:∀ {g:Nat} {ds:List D},X.glob g = some ds→∀ (j:Nat) (z:Int),ds[j]? = some (.int .u8 z)→w.cell? ⟨g,j,none⟩ = some (.int .u8 z):=by
  intro g ds hg j z hj;have h:=hs.glob g ds hg;cases h with
  | vptr a f ha hc hr h =>
   have h1:=hr j _ hj;have h2:=h j _ hj;rw [ZR,vQ] at h1;generalize f j = v at h1 h2;cases h2;exact h1
 refine ⟨fun c hc=>get h3 c _ (by simp [qbM,XP,List.getElem?_range hc]),fun i hi=>?_⟩
 have vg:∀ i:Nat,i < 16→u8acc[2 * i]? = some (.int .u8 (Lib.accLo i))∧u8acc[2 * i+1]? = some (.int .u8 (Lib.accHi i)):=by
  intro i hi
  match i,hi with
  | 0,_ | 1,_ | 2,_ | 3,_ | 4,_ | 5,_ | 6,_ | 7,_ | 8,_ | 9,_ | 10,_ | 11,_ | 12,_ | 13,_ | 14,_ | 15,_=>exact ⟨rfl,rfl⟩
  | i+16,h=>omega
 obtain ⟨a,b⟩:=vg i hi;exact ⟨get h4 _ _ a,get h4 _ _ b⟩
def qfb:List D→Nat→Option (List UInt8)
 | ds,n=>match Vx ds with
  | some s=>if n≤s.length∧1≤n then some (s.take n) else none
  | none=>none
def qe1:List D→qi→Option (D × qi)
 | [.vsl false ds n],H=>match qfb ds n with
  | some s=>some (.tup [.int .i32 (Lib.decodeGo ⟨s.toArray⟩).1,.int .i64 (Lib.decodeGo ⟨s.toArray⟩).2],H)
  | none=>none
 | _,_=>none
section
variable {X:Cx} {ρ:Ren} {ok:Nat→Prop} {w:World} {ι:qF} {H H':qi} {r:D} {args:List D} {vs:List Value}
theorem qqd {ds:List D} {n:Nat} {s:List UInt8} (h:qfb ds n = some s):∃ t:List UInt8,ds = qd t∧n≤t.length∧1≤n∧s = t.take n:=by
 unfold qfb at h;simp only at h;cases hr:Vx ds with
 | none=>rw [hr] at h;cases h
 | some t =>
  rw [hr] at h;simp only at h;by_cases hc:n≤t.length∧1≤n
  ·rw [if_pos hc] at h;injection h with h;exact ⟨t,qe9 hr,hc.1,hc.2,h.symm⟩
  ·rw [if_neg hc] at h;cases h
theorem qqc {a:Addr} {t:List UInt8} {n c:Nat} (h:Rep ok w ι H (.vsl false (qd t) n) (.slice (some a) n c)) (hn:n≤t.length) (h1:1≤n):a = ⟨a.block,a.off,none⟩∧(∀ j,j < n→w.cell? ⟨a.block,a.off+j,none⟩ = some (.int .u8 ((⟨(t.take n).toArray⟩:ByteArray).get! j).toNat))∧ok a.block:=by
 cases h with
 | vsl a f ha hc hr h qR =>
  have Zw:∀ (j:Nat) (hj:j < t.length),w.cell? (a.add j) = some (.int .u8 (t[j].toNat:Int)):=by
   intro j hj;have kL:(qd t)[j]? = some (.int .u8 (t[j].toNat:Int)):=(by simp [qd,hj]);have h1:=hr j _ kL;have h2:=h j _ kL;rw [h1];generalize f j = v at h2;cases h2;rfl
  have h0:=Zw 0 (by omega);have e2:a = ⟨a.block,a.off,none⟩:=Lib.plain_of_cell (by simpa [Addr.add] using h0);refine ⟨e2,fun j hj=>?_,?_⟩
  ·have:=Zw j (by omega);rw [e2,ZR] at this;rw [this];have zh:j < (⟨(t.take n).toArray⟩:ByteArray).size:=by rw [Xl];simp;omega
   have:(⟨(t.take n).toArray⟩:ByteArray).get! j = t[j]:=by
    rw [Utf8W.get!_of_lt _ j zh];show (t.take n).toArray[j] = _;simp
   rw [this]
  ·exact ha (.int .u8 (t[0].toNat:Int)) (by
    refine List.mem_iff_getElem?.2 ⟨0,?_⟩;have h0:0 < t.length:=(by omega);simp [qd,h0])
theorem qzv (L:Lays7.n32 X.P ρ) (h3:X.glob (ρ.g 2) = some qbM) (h4:X.glob (ρ.g 3) = some u8acc) (h:qe1 args H = some (r,H')) (hs:Sim X ok w ι H) (hv:RepL ok w ι H args vs) :
  Goes X.P (callFunc (ρ.f 32) vs.toArray) w (Jw X ok w ι H r H'):=by
 have he:∀ args w,(callFunc (ρ.f 32) args).run X.P w = .ok (.enter (ρ.f 32) args) w:=Go.Proofs.enters_of L.f32 (by kernel_rfl) rfl;unfold qe1 at h;split at h
 ·rename_i ds n;split at h
  ·rename_i s hsb;obtain ⟨t,rfl,hn,h1,rfl⟩:=qqd hsb;injection h with h;injection h with e1 e2;subst e1;subst e2;obtain ⟨v1,us,rfl,r1,hv⟩:=J4 hv;cases qbW hv;obtain ⟨a1,c1,rfl⟩:∃ a c,v1 = .slice (some a) n c:=by cases r1;exact ⟨_,_,rfl⟩
   obtain ⟨q1,q2,_⟩:=qqc r1 hn h1;have zh:(⟨(t.take n).toArray⟩:ByteArray).size = n:=(by rw [Xl];simp;omega);have hc:=Any7.utf8_DecodeRune L ⟨(t.take n).toArray⟩ a1.block a1.off c1 w (qpo hs h3 h4) (fun j hj=>q2 j (by rw [zh] at hj;exact hj));rw [zh,← q1] at hc;refine qcu hs (he _ _) (hc.mono ?_);rintro e w' ⟨rfl,hb⟩;refine ⟨_,rfl,?_,hb⟩;refine .tup rfl fun j d hj=>?_
   match j,hj with
   | 0,hj=>simp at hj;subst hj;exact .int .i32 _
   | 1,hj=>simp at hj;subst hj;exact .int .i64 _
   | j+2,hj=>simp at hj
  ·cases h
 ·cases h
end
end Go.Ev
namespace Go.Ev
open Go Go.Proofs Go.RowKit Go.Shelf
def qe0 (m:Int):List D→qi→Option (D × qi)
 | [.str s,.str sub],H=>if s.length < sub.length∧2≤sub.length∧(sub.length:Int)≤m∧s.length < 1000000 then some (.int .i64 (-1),H) else none
 | _,_=>none
section
variable {X:Cx} {ρ:Ren} {ok:Nat→Prop} {w:World} {ι:qF} {H H':qi} {r:D} {args:List D} {vs:List Value}
theorem qmo {sub:List UInt8}:∀ {s:List UInt8} {n:Nat},s.length < sub.length→zA sub s n = -1
 | [],n,h=>by
  unfold zA;cases sub with
  | nil=>simp at h
  | cons=>rfl
 | b :: l,n,h=>by
  unfold zA
  have hp:sub.isPrefixOf (b :: l) = false:=by
   cases hp:sub.isPrefixOf (b :: l) with
   | false=>rfl
   | true =>
    have:=(List.isPrefixOf_iff_prefix.1 hp).length_le;omega
  rw [hp];simp only [vT,if_false];exact qmo (by simp at h;omega)
theorem qzu {m : Int} {f g : Nat} {fn : Func} (hf : X.P.funcs[f]? = some fn) (hn : fn.body = none) (JH : (fn.name == "runtime.NumGoroutine") = false)
  (h1 : Extern.findNext fn = none) (h2 : Extern.find fn = some Extern.BytealgIndex.index) (Vl : X.P.globals.findIdx? (·.name == "internal/bytealg.MaxLen") = some g) (hg : X.glob g = some [.int .i64 m])
  (h:qe0 m args H = some (r,H')) (hs:Sim X ok w ι H) (hv:RepL ok w ι H args vs):Goes X.P (callFunc f vs.toArray) w (Jw X ok w ι H r H'):=by
 unfold qe0 at h;split at h
 ·rename_i s sub;split at h
  ·rename_i hc;injection h with h;injection h with e1 e2;subst e1;subst e2;cases qkC hv;have hr:=Lib.run_indexString (P:=X.P) ⟨s.toArray⟩ ⟨sub.toArray⟩ w g m Vl (qip hs hg) (by simpa [ByteArray.size] using hc.2.1) (by simpa [ByteArray.size] using hc.2.2.1) (by simp [ByteArray.size];omega);refine Goes.value (v:=.int .i64 (-1)) (w':=w) ?_ ⟨ι,ok,hs,.int _ _,.refl _ (qB _),fun i ds hi hd=>by rw [qq,List.getElem?_eq_none hi] at hd;cases hd⟩;rw [run_callFunc_extern hf JH (by rw [hn];rfl) h1 h2];show ((Extern.BytealgIndex.index #[.string ⟨s.toArray⟩,.string ⟨sub.toArray⟩]).run X.P w).andThen _ = _;rw [hr,qic,qmo hc.1];rfl
  ·cases h
 ·cases h
end
end Go.Ev
