import Derived.Test.YtgehibgkabhcaaaGreatDoorC2
import Derived.DataReads
import Derived.DataElems
import Derived.ChangeArms
import Derived.OpenShut
import Derived.Lib.LaidTab
import Derived.Stop.LaidErr
import Derived.LaidMore
import Derived.ProofKit
import Derived.Below
import Derived.Shelf.Strconv.Itoa1
import Derived.Shelf.Strings.Search2
import Derived.Shelf.Strconv.Clone
import Derived.WalkSmall
import Derived.Shelf.Strings.Repeat
import Derived.Lib.Bytealg
import Derived.Shelf.SortG.Plain
import Derived.Shelf.SortG.SortNone
import Derived.Sort.OwnSorted
namespace Go.Ev
open Go Go.Proofs
structure ID where
 l:List UInt8
 h:l.length = 16
 deriving DecidableEq
@[simp] theorem ID.len (i:ID):i.l.length = 16:=i.h
theorem ID.ext' {a b:ID} (h:a.l = b.l):a = b:=by cases a;cases b;simp at h;subst h;rfl
instance:Enc ID:=⟨16,fun i=>qd i.l,fun i=>by simp,fun i=>by simp⟩
theorem ID.cells (i:ID):Enc.cells i = qd i.l:=rfl
def ID.zero:ID:=⟨List.replicate 16 0,by simp⟩
theorem qsA:∀ (x y:List UInt8),x.length = y.length→ko (List.replicate x.length .i) (qd x) (qd y) = some (x == y)
 | [],[],_=>rfl
 | a :: x,b :: y,h=>by
  have ih:=qsA x y (by simpa using h);simp only [vn,KM,qd,List.map_cons,ko,qdi];simp only [qd] at ih;rw [ih]
  have:((a.toNat:Int) == (b.toNat:Int)) = (a == b):=by
   rw [Bool.eq_iff_iff];simp only [beq_iff_eq,Int.natCast_inj];exact ⟨fun h=>UInt8.toNat_inj.1 h,fun h=>by rw [h]⟩
  simp [this]
 | [],_ :: _,h=>by simp at h
 | _ :: _,[],h=>by simp at h
theorem qsB:∀ (k1 k2:List CK) (a1 a2 b1 b2:List D),k1.length = a1.length→k1.length = b1.length→ko (k1 ++ k2) (a1 ++ a2) (b1 ++ b2) = match ko k1 a1 b1,ko k2 a2 b2 with
  | some x,some y=>some (x && y)
  | _,_=>none
 | [],k2,[],a2,[],b2,_,_=>by
  simp only [Qu,ko];cases ko k2 a2 b2 <;> simp
 | k :: k1,k2,a :: a1,a2,b :: b1,b2,h1,h2=>by
  simp only [Qw,ko,qsB k1 k2 a1 a2 b1 b2 (by simpa using h1) (by simpa using h2)];cases qdi k a b <;> cases ko k1 a1 b1 <;> cases ko k2 a2 b2 <;> simp [Bool.and_assoc]
 | [],_,_ :: _,_,_,_,h,_=>by simp at h
 | [],_,[],_,_ :: _,_,_,h=>by simp at h
 | _ :: _,_,[],_,_,_,h,_=>by simp at h
 | _ :: _,_,_ :: _,_,[],_,_,h=>by simp at h
@[simp] theorem q2g (x y:ID):ko (qfK []) (qd x.l) (qd y.l) = some (x == y):=by
 have:=qsA x.l y.l (by simp);rw [x.h] at this
 have e:(x.l == y.l) = (x == y):=by
  rw [Bool.eq_iff_iff];simp only [beq_iff_eq];exact ⟨ID.ext',fun h=>by rw [h]⟩
 rw [e] at this;exact this
def j5 (n:Int):Prop:=0≤n∧n < 18446744073709551616
@[simp] theorem ID.size:Enc.size ID = 16:=rfl
theorem qdd {s:List UInt8} {n:Nat} (h:s.length≤n):(qd s).drop n = []:=Js (by simpa using h)
structure Pr where
 name:List UInt8
 value:List UInt8
 deriving DecidableEq
instance:Enc Pr:=⟨2,fun p=>[.str p.name,.str p.value],fun _=>rfl,fun _=>rfl⟩
theorem Pr.cells (p:Pr):Enc.cells p = [.str p.name,.str p.value]:=rfl
@[simp] theorem Pr.size:Enc.size Pr = 2:=rfl
@[simp] theorem Pr.cl (a:Pr):(Enc.cells a).length = 2:=Enc.len a
@[simp] theorem Pr.ct (a:Pr) (r:List D):(Enc.cells a ++ r).take 2 = Enc.cells a:=qdg rfl a r
@[simp] theorem Pr.ct' (a:Pr):(Enc.cells a).take 2 = Enc.cells a:=qdf rfl a
@[simp] theorem Pr.cd (a:Pr) (r:List D):(Enc.cells a ++ r).drop 2 = r:=qdh rfl a r
@[simp] theorem Pr.el (l:List Pr):(qu l).length = l.length * 2:=qaP rfl l
@[simp] theorem Pr.ed (l:List Pr) (i:Nat):(qu l).drop (i * 2) = qu (l.drop i):=qaQ rfl l i
@[simp] theorem Pr.et (l:List Pr) (i:Nat):(qu l).take (i * 2) = qu (l.take i):=qaO rfl l i
@[simp high] theorem Pr.ea {l:List Pr} {i:Nat} (h:i < l.length):(qu l).drop (i * 2) = Enc.cells l[i] ++ qu (l.drop (i+1)):=YS rfl h
@[simp high] theorem Pr.es (m:Pr) {l:List Pr} {j:Nat} (h:j < l.length):zM (qu l) (j * 2) (Enc.cells m) = qu (l.set j m):=Ya rfl m l h
structure Rec where
 seq:Int
 real:Int
 mono:Int
 boot:ID
 fields:Sl Pr
instance:Enc Rec:=⟨20,fun r=>[.int .u64 r.seq,.int .u64 r.real,.int .u64 r.mono] ++ (qd r.boot.l ++ [(.vsl r.fields.nil (qu r.fields.l) r.fields.l.length)]),fun r=>by simp,fun r=>by simp [idFree]⟩
theorem Rec.cells (r:Rec):Enc.cells r = [.int .u64 r.seq,.int .u64 r.real,.int .u64 r.mono] ++ (qd r.boot.l ++ [(.vsl r.fields.nil (qu r.fields.l) r.fields.l.length)]):=rfl
@[simp] theorem Rec.size:Enc.size Rec = 20:=rfl
structure Rec.Ok (r:Rec):Prop where
 seq:j5 r.seq
 real:j5 r.real
 mono:j5 r.mono
@[simp] theorem Rec.cl (a:Rec):(Enc.cells a).length = 20:=Enc.len a
@[simp] theorem Rec.ct (a:Rec) (r:List D):(Enc.cells a ++ r).take 20 = Enc.cells a:=qdg rfl a r
@[simp] theorem Rec.ct' (a:Rec):(Enc.cells a).take 20 = Enc.cells a:=qdf rfl a
@[simp] theorem Rec.cd (a:Rec) (r:List D):(Enc.cells a ++ r).drop 20 = r:=qdh rfl a r
@[simp] theorem Rec.el (l:List Rec):(qu l).length = l.length * 20:=qaP rfl l
@[simp] theorem Rec.ed (l:List Rec) (i:Nat):(qu l).drop (i * 20) = qu (l.drop i):=qaQ rfl l i
@[simp] theorem Rec.et (l:List Rec) (i:Nat):(qu l).take (i * 20) = qu (l.take i):=qaO rfl l i
@[simp high] theorem Rec.ea {l:List Rec} {i:Nat} (h:i < l.length):(qu l).drop (i * 20) = Enc.cells l[i] ++ qu (l.drop (i+1)):=YS rfl h
@[simp high] theorem Rec.es (m:Rec) {l:List Rec} {j:Nat} (h:j < l.length):zM (qu l) (j * 20) (Enc.cells m) = qu (l.set j m):=Ya rfl m l h
def leN:List UInt8→Nat
 | []=>0
 | b :: l=>b.toNat+256 * leN l
def ZV:Nat→Nat→List UInt8
 | 0,_=>[]
 | n+1,v=>UInt8.ofNat (v % 256) :: ZV n (v / 256)
@[simp] theorem qns:∀ (n v:Nat),(ZV n v).length = n
 | 0,_=>rfl
 | n+1,v=>by simp [ZV,qns n]
theorem qbu:∀ (l:List UInt8),leN l < 256 ^ l.length
 | []=>by simp [leN]
 | b :: l=>by
  have h1:=qbu l;have h2:=b.toNat_lt;simp only [leN,vn,qdu];omega
theorem qnr:∀ (n v:Nat),ZV (n+1) v = ZV n v ++ [UInt8.ofNat (v / 256 ^ n % 256)]
 | 0,v=>by simp [ZV]
 | n+1,v=>by
  rw [ZV,qnr n (v / 256),ZV,Qw,Nat.div_div_eq_div_mul,qdu,Nat.mul_comm 256]
theorem qgM:∀ (a b:List UInt8),leN (a ++ b) = leN a+256 ^ a.length * leN b
 | [],b=>by simp [leN]
 | x :: a,b=>by
  simp only [Qw,leN,qgM a b,vn,qdu];rw [Nat.mul_add,← Nat.mul_assoc,Nat.mul_comm 256 (256 ^ a.length),qhB]
theorem qct (a b:List UInt8):qd (a ++ b) = qd a ++ qd b:=by simp [qd]
theorem qmF (a:UInt8) (b:List UInt8):qd (a :: b) = .int .u8 (a.toNat:Int) :: qd b:=rfl
theorem Yw (l:List UInt8) (i:Nat):(qd l).drop i = qd (l.drop i):=by simp [qd]
theorem Yv (l:List UInt8) (i:Nat):(qd l).take i = qd (l.take i):=by simp [qd]
theorem vq {l:List UInt8} {i:Nat} (h:i < l.length):(qd l).drop i = .int .u8 (l[i].toNat:Int) :: qd (l.drop (i+1)):=by
 rw [Yw,zU h,qmF]
theorem qwR {l:List UInt8} {i:Nat} (h:i < (qd l).length):(qd l)[i] = .int .u8 ((l[i]'(by simpa using h)).toNat:Int):=by simp [qd]
@[simp] theorem q7j (s:List UInt8):Vu (qd s) = some s:=by
 induction s with
 | nil=>rfl
 | cons a s ih =>
  have:Vu (qd (a :: s)) = (Vu (qd s)).map fun r=>UInt8.ofNat ((a.toNat:Int)).toNat :: r:=rfl;rw [this,ih];simp
theorem qm5 (x y:Nat) (h:y < 256):(x * 256) ||| y = x * 256+y:=by
 have:=Nat.shiftLeft_add_eq_or_of_lt (b:=y) (i:=8) (by simpa using h) x;rw [Nat.shiftLeft_eq] at this;simpa using this.symm
def qcq (P:Program) (g:TypeId→Bool):List Field→Nat→Nat→Bool
 | [],off,size=>off == size
 | f :: fs,off,size=>f.offset == off && g f.type && qcq P g fs (off+P.cellsOf f.type) size
def YY (P:Program):Nat→TypeId→Bool
 | 0,_=>false
 | n+1,t=>match P.underlying t with
  | some .bool=>true
  | some (.int _)=>true
  | some .string=>true
  | some (.slice e)=>YY P n e
  | some (.array m e)=>YY P n e && P.cellsOf t == m * P.cellsOf e
  | some (.struct fs)=>qcq P (YY P n) fs.toList 0 (P.cellsOf t)
  | _=>false
def qfT (P:Program) (g:TypeId→List D→Prop):List Field→List D→Prop
 | [],cs=>cs = []
 | f :: fs,cs=>∃ a b,cs = a ++ b∧a.length = P.cellsOf f.type∧g f.type a∧qfT P g fs b
def vR (P:Program):Nat→TypeId→List D→Prop
 | 0,_,_=>False
 | n+1,t,cs=>match P.underlying t with
  | some .bool=>∃ b,cs = [.bool b]
  | some (.int k)=>∃ x,cs = [.int k x]∧(Lit.int k x).wf = true
  | some .string=>∃ s,cs = [.str s]∧s.length≤maxLen
  | some (.slice e)=>cs = [.vsl true [] 0]∨∃ ls:List (List D),cs = [.vsl false ls.flatten ls.length]∧(ls.length≤maxLen∧ls.length * P.bytesOf e≤reachBytes)∧∀ l,l∈ls→l.length = P.cellsOf e∧vR P n e l
  | some (.array m e)=>∃ ls:List (List D),cs = ls.flatten∧ls.length = m∧∀ l,l∈ls→l.length = P.cellsOf e∧vR P n e l
  | some (.struct fs)=>qfT P (vR P n) fs.toList cs
  | _=>False
attribute [irreducible] vR
theorem qe6 {W:World} {a:Addr} {v:Value} (h:W.cell? a = some v):a.block < W.heap.size:=by
 unfold World.cell? at h;rcases qaa a.block W.heap.size with qg | vN
 ·exact qg
 ·have:W.heap[a.block]? = none:=qfW vN;simp [this] at h
def Yi (W:World) (ds:List D) (vs:List Value):Prop:=ds.length = vs.length∧(∀ d,d∈ds→jg d = true)∧∀ (j:Nat) d,ds[j]? = some d→Rep (· < W.heap.size) W jh [] d (vs.getD j undef)
theorem qfC {W:World} {d:D} {v:Value} (hc:jg d = true) (h:Rep (· < W.heap.size) W jh [] d v):Yi W [d] [v]:=by
 refine ⟨rfl,fun x hx=>by rw [List.mem_singleton.1 hx];exact hc,fun j x hj=>?_⟩;cases j with
 | zero=>simp at hj;subst hj;exact h
 | succ j=>simp at hj
theorem qsj {W:World} {a b:List D} {us vs:List Value} (h1:Yi W a us) (h2:Yi W b vs):Yi W (a ++ b) (us ++ vs):=by
 refine ⟨by simp [h1.1,h2.1],fun d hd=>?_,fun j d hj=>?_⟩
 ·rcases List.mem_append.1 hd with h | h
  ·exact h1.2.1 d h
  ·exact h2.2.1 d h
 ·by_cases qg:j < a.length
  ·rw [kg qg] at hj;have:=h1.2.2 j d hj;rw [j8] at this ⊢
   rwa [kg (by rw [← h1.1];exact qg)]
  ·rw [kU (by omega)] at hj;have:=h2.2.2 _ d hj;rw [j8] at this ⊢;rw [kU (by rw [← h1.1];omega),← h1.1];exact this
section
variable {H:Type} {enc:TypeId × Value→H} {P:Program} {W:World}
theorem qsi {sz:Nat} {Q:List D→Prop}:∀ (m off:Nat) (cs:List Value),cs.length = off+m * sz →
  (∀ i,i < m→∃ ds,Q ds∧Yi W ds ((cs.drop (off+i * sz)).take sz))→∃ ls:List (List D),ls.length = m∧(∀ l,l∈ls→l.length = sz∧Q l)∧Yi W ls.flatten (cs.drop off)
 | 0,off,cs,hl,_=>⟨[],rfl,by simp,by
   rw [Js (by omega)];exact ⟨rfl,by simp,by simp⟩⟩
 | m+1,off,cs,hl,h=>by
  have e1:(m+1) * sz = sz+m * sz:=by rw [Jp,Nat.one_mul,Nat.add_comm]
  rw [e1] at hl;obtain ⟨ds,q1,q2⟩:=h 0 (by omega);rw [Nat.zero_mul,Nat.add_zero] at q2
  obtain ⟨ls,l1,l2,l3⟩:=qsi (sz:=sz) (Q:=Q) m (off+sz) cs (by omega) (fun i hi=>by
   have:=h (i+1) (by omega);rw [Jp,Nat.one_mul] at this;rw [show off+sz+i * sz = off+(i * sz+sz) by omega];exact this)
  have KD:ds.length = sz:=by
   rw [q2.1,jU,vQ];omega
  refine ⟨ds :: ls,by simp [l1],fun l hl=>?_,?_⟩
  ·rcases List.mem_cons.1 hl with rfl | hl
   ·exact ⟨KD,q1⟩
   ·exact l2 l hl
  ·rw [qeG];have:=qsj q2 l3;rw [← jV,qhD] at this;exact this
theorem qrv {g:TypeId→Bool} {Q:TypeId→List D→Prop}:∀ (fs:List Field) (off:Nat) (cs:List Value),qcq P g fs off cs.length = true →
  (∀ f,f∈fs→g f.type = true→∃ ds,Q f.type ds∧Yi W ds ((cs.drop f.offset).take (P.cellsOf f.type)))→∃ ds,qfT P Q fs ds∧Yi W ds (cs.drop off)
 | [],off,cs,hp,_=>by
  simp only [qcq,beq_iff_eq] at hp;exact ⟨[],rfl,by rw [Js (by omega)];exact ⟨rfl,by simp,by simp⟩⟩
 | f :: fs,off,cs,hp,h=>by
  simp only [qcq,jk,beq_iff_eq] at hp;obtain ⟨⟨h1,h2⟩,h3⟩:=hp;obtain ⟨a,a1,a2⟩:=h f (VW ..) h2;obtain ⟨b,b1,b2⟩:=qrv fs (off+P.cellsOf f.type) cs h3 fun f' hf=>h f' (Jr _ hf);rw [h1] at a2;have jx:off+P.cellsOf f.type≤cs.length:=plainF_le h3;refine ⟨a ++ b,⟨a,b,rfl,?_,a1,b1⟩,?_⟩
  ·rw [a2.1,jU,vQ];omega
  ·have:=qsj a2 b2
   rwa [← jV,qhD] at this
where plainF_le {g:TypeId→Bool}:∀ {fs:List Field} {off n:Nat},qcq P g fs off n = true→off≤n
 | [],off,n,h=>by simp only [qcq,beq_iff_eq] at h;omega
 | f :: fs,off,n,h=>by
  simp only [qcq,jk] at h;have:=plainF_le h.2;omega
def Wok (P:Program) (t:TypeId) (d:DataW H):Prop:= ∀ k,k∈d.weights P t→k≤reachBytes
theorem qhT {e:TypeId}:∀ {l:List (DataW H)} {d:DataW H},d∈l→∀ k,k∈d.weights P e→k∈DataW.weightsAll P e l
 | [],_,h,_,_=>by cases h
 | a :: l,d,h,k,hk=>by
  unfold DataW.weightsAll;rcases List.mem_cons.1 h with rfl | h
  ·exact qbZ _ hk
  ·exact List.mem_append_right _ (qhT h k hk)
theorem qkB:∀ {ts:List TypeId} {l:List (DataW H)} {i:Nat} {t:TypeId} {d:DataW H},ts[i]? = some t→l[i]? = some d→∀ k,k∈d.weights P t→k∈DataW.weightsEach P ts l
 | [],_,i,_,_,h,_,_,_=>by simp at h
 | t :: ts,[],i,_,_,_,h,_,_=>by simp at h
 | t :: ts,a :: l,0,u,d,h,g,k,hk=>by
  simp at h g;subst h g;unfold DataW.weightsEach;exact qbZ _ hk
 | t :: ts,a :: l,i+1,u,d,h,g,k,hk=>by
  unfold DataW.weightsEach;exact List.mem_append_right _ (qkB (i:=i) (by simpa using h) (by simpa using g) k hk)
theorem qkN:∀ (n fuel:Nat) (t:TypeId) (cs:List Value) (x:DataW H × List MemPlace),YY P n t = true→Wok P t x.1→DataW.trod enc P W 0 (fun _=>true) true fuel t cs = some x →
  ∃ ds,vR P n t ds∧Yi W ds cs
 | 0,_,_,_,_,h,_,_=>by simp [YY] at h
 | n+1,fuel,t,cs,x,hp,hw,h=>by
  have ih:=qkN n;unfold YY at hp;unfold vR;cases hu:P.underlying t with
  | none=>rw [hu] at hp;simp at hp
  | some u =>
  rw [hu] at hp;cases u with
  | bool =>
   obtain ⟨b,rfl,_⟩:=DataW.trod_bool hu h;exact ⟨_,⟨b,rfl⟩,qfC rfl (.bool _)⟩
  | int k =>
   obtain ⟨b,rfl,_,hw⟩:=DataW.trod_int hu h;exact ⟨_,⟨b,rfl,hw⟩,qfC rfl (.int _ _)⟩
  | string =>
   obtain ⟨s,rfl,_,hw⟩:=DataW.trod_string hu h;refine ⟨_,⟨s.data.toList,rfl,by simpa using hw⟩,qfC rfl ?_⟩;have:=Rep.str (ok:=(· < W.heap.size)) (w:=W) (ι:=jh) (H:=[]) s.data.toList;simpa using this
  | slice e =>
   simp only at hp ⊢;rcases DataW.trod_slice hu h with ⟨rfl,_⟩ | ⟨a,len,cap,elems,rest,m,rfl,rfl,hx,_,zo,hcm,jd,qf,_⟩
   ·exact ⟨_,.inl rfl,qfC rfl .vnil⟩
   ·have hwe:∀ k,k∈(elems.length+rest.length) * P.bytesOf e :: (DataW.weightsAll P e (elems.map (·.1)) ++ DataW.weightsAll P e (rest.map (·.1)))→k≤reachBytes:=by
     intro k hk;refine hw k ?_;rw [hx];unfold DataW.weights;rw [hu];simp only [List.length_map];exact hk
    have jb:=hwe _ (VW ..)
    have hrow:∀ i,i < len→∃ ds,vR P n e ds∧ds.length = P.cellsOf e∧(∀ d,d∈ds→jg d = true)∧∀ (j:Nat) d,ds[j]? = some d→∃ v,W.cell? (a.add (i * P.cellsOf e+j)) = some v∧Rep (· < W.heap.size) W jh [] d v:=by
     intro i hi;have hg:=qf i hi;rw [zn (by omega)] at hg;cases hcs:W.cells? 0 (a.add (i * P.cellsOf e)) (P.cellsOf e) with
     | none=>rw [hcs] at hg;simp at hg
     | some cs =>
      rw [hcs,qaW] at hg;have hwi:Wok P e elems[i].1:=fun k hk=>hwe k (Jr _ (qbZ _ (qhT (List.mem_map_of_mem (v6 _)) k hk)));obtain ⟨ds,d1,d2,d3,d4⟩:=ih m e cs _ hp hwi hg;obtain ⟨_,c2,c3⟩:=World.cells?_some hcs;refine ⟨ds,d1,by rw [d2,c2],d3,fun j d hj=>?_⟩;have zO:j < cs.length:=(by rw [← d2];exact (List.getElem?_eq_some_iff.1 hj).1);refine ⟨cs[j],?_,?_⟩
      ·rw [← Addr.add_add,c3 j (by omega),zn zO]
      ·have:=d4 j d hj
       rwa [j8,zn zO,Va] at this
    have jB:∀ k,k≤len→∃ ls:List (List D),ls.length = k∧(∀ l,l∈ls→l.length = P.cellsOf e∧vR P n e l)∧(∀ d,d∈ls.flatten→jg d = true)∧ls.flatten.length = k * P.cellsOf e ∧
      ∀ (j:Nat) d,ls.flatten[j]? = some d→∃ v,W.cell? (a.add j) = some v∧Rep (· < W.heap.size) W jh [] d v:=by
     intro k
     induction k with
     | zero=>intro _;exact ⟨[],rfl,by simp,by simp,by simp,by simp⟩
     | succ k ihk =>
      intro hk;obtain ⟨ls,l1,l2,l3,l4,l5⟩:=ihk (by omega);obtain ⟨ds,d1,d2,d3,d4⟩:=hrow k (by omega);refine ⟨ls ++ [ds],by simp [l1],fun l hl=>?_,?_,?_,?_⟩
      ·rcases List.mem_append.1 hl with h | h
       ·exact l2 l h
       ·rw [List.mem_singleton.1 h];exact ⟨d2,d1⟩
      ·intro d hd;rw [List.flatten_append] at hd;rcases List.mem_append.1 hd with h | h
       ·exact l3 d h
       ·exact d3 d (by simpa using h)
      ·rw [List.flatten_append,zz,l4,Jp,Nat.one_mul];simp [d2]
      ·intro j d hj;rw [List.flatten_append] at hj;by_cases qg:j < ls.flatten.length
       ·rw [kg qg] at hj;exact l5 j d hj
       ·rw [kU (by omega)] at hj;rw [l4] at hj qg;have QM:ds[j - k * P.cellsOf e]? = some d:=(by simpa using hj);obtain ⟨v,v1,v2⟩:=d4 _ d QM;refine ⟨v,?_,v2⟩;rw [← v1];congr 2;omega
    obtain ⟨ls,l1,l2,l3,l4,l5⟩:=jB len (qE _);refine ⟨_,.inr ⟨ls,rfl,⟨by rw [l1];omega,by rw [l1,← jd];exact zT (qaX _ (Nat.le_add_right _ _)) jb⟩,l2⟩,qfC rfl ?_⟩;rw [l1];refine .vsl a (fun j=>(W.cell? (a.add j)).getD undef) (fun d hd=>?_) l3 (fun j d hj=>?_) (fun j d hj=>?_) zo
    ·obtain ⟨j,hj⟩:=List.mem_iff_getElem?.1 hd;obtain ⟨v,v1,_⟩:=l5 j d hj;have:=qe6 v1
     rwa [qdW] at this
    ·obtain ⟨v,v1,_⟩:=l5 j d hj;rw [v1];rfl
    ·obtain ⟨v,v1,v2⟩:=l5 j d hj;rw [v1];exact v2
  | array m e =>
   simp only [jk,beq_iff_eq] at hp ⊢;obtain ⟨xs,k,rfl,hx,hl,XC,hg⟩:=DataW.trod_array hu h
   have:=qsi (W:=W) (sz:=P.cellsOf e) (Q:=vR P n e) m 0 cs (by rw [hl,hp.2];omega) (fun i hi=>by
    rw [Jo];have Qb:=hg i hi;rw [zn (by omega)] at Qb;exact ih k e _ _ hp.1 (fun j hj=>hw j (by rw [hx];unfold DataW.weights;rw [hu];exact qhT (List.mem_map_of_mem (v6 _)) j hj)) Qb)
   obtain ⟨ls,l1,l2,l3⟩:=this;exact ⟨ls.flatten,⟨ls,rfl,l1,l2⟩,by simpa using l3⟩
  | struct fs =>
   simp only at hp ⊢;obtain ⟨xs,k,rfl,hx,hl,XC,hg⟩:=DataW.trod_struct hu h;rw [← hl] at hp
   obtain ⟨ds,d1,d2⟩:=qrv (W:=W) (Q:=vR P n) fs.toList 0 cs hp (fun f hf hgf=>by
    obtain ⟨i,hi⟩:=List.mem_iff_getElem?.1 hf;have Qa:fs[i]? = some f:=(by simpa using hi);have Qb:=hg i f Qa;have qg:i < xs.length:=(by rw [XC];exact (Array.getElem?_eq_some_iff.1 Qa).1);rw [zn qg] at Qb
    exact ih k f.type _ _ hgf (fun j hj=>hw j (by
     rw [hx];unfold DataW.weights;rw [hu];exact qkB (i:=i) (by rw [VX,hi];rfl) (by rw [VX,zn qg];rfl) j hj)) Qb)
   exact ⟨ds,d1,by simpa using d2⟩
  | _=>simp at hp
theorem qgs {n:Nat} {t:TypeId} {v:Value} {d:DataW H} {ps:List MemPlace} (hp:YY P n t = true) (h:DataW.Trod enc P W 0 (fun _=>true) true t v d ps∧Wok P t d) :
  ∃ ds,vR P n t ds∧Yi W ds v.cells.toList:=by
 obtain ⟨⟨fuel,hf⟩,hw⟩:=h;exact qkN n fuel t _ _ hp hw hf
end
end Go.Ev
namespace Go.Ev
open Go Go.Proofs Go.RowKit Go.ChangeShapes
theorem qh8 (a:Addr):a.add 0 = a:=by
 obtain ⟨b,o,p⟩:=a;cases p <;> simp [Addr.add]
theorem qiB {P:Program} {W:World} {name:String} {k:IntKind} {zs:List Int} {g:Nat} (h:Lib.TabIs P W name k zs) (hg:P.globalNamed name = some g) :
  Rep (· < W.heap.size) W jh [] (.vptr (zs.map (.int k))) (.pointer (some ⟨g,0,none⟩)):=by
 have hc:∀ i,i < zs.length→W.cell? ⟨g,i,none⟩ = some (.int k (zs.getD i 0)):=fun i hi=>h.cell hg i hi;refine .vptr _ (fun j=>.int k (zs.getD j 0)) (fun d hd=>?_) (fun d hd=>?_) (fun j d hj=>?_) (fun j d hj=>?_)
 ·obtain ⟨j,hj⟩:=List.mem_iff_getElem?.1 hd
  have qg:j < zs.length:=by
   have:=(List.getElem?_eq_some_iff.1 hj).1;simpa using this
  have:=qe6 (hc j qg);exact this
 ·obtain ⟨z,_,rfl⟩:=List.mem_map.1 hd;rfl
 ·have qg:j < zs.length:=by
   have:=(List.getElem?_eq_some_iff.1 hj).1;simpa using this
  rw [JZ,Jo];exact hc j qg
 ·have qg:j < zs.length:=by
   have:=(List.getElem?_eq_some_iff.1 hj).1;simpa using this
  rw [VX,zn qg,jj,qw] at hj;subst hj;rw [j8,zn qg,Va];exact .int k _
theorem qlW {P:Program} {W:World} {name:String} {g:Nat} {tp:TypeId} {text:List UInt8} (hg:P.globalNamed name = some g)
  (h:∃ (a:Addr) (s:ByteArray),W.var? P name = some #[.iface tp (.pointer (some a))]∧W.cell? a = some (.string s)∧s.data.toList = text∧s.size≤maxLen) :
  Rep (· < W.heap.size) W jh [] (.vptr [.iface tp (.vptr [.str text])]) (.pointer (some ⟨g,0,none⟩)):=by
 obtain ⟨a,s,hv,hc,rfl,_⟩:=h
 have Zx:W.cell? ⟨g,0,none⟩ = some (.iface tp (.pointer (some a))):=by
  have:=World.var?_cell hg hv 0;simpa using this
 have one:∀ {d e:D} {j:Nat},[e][j]? = some d→j = 0∧d = e:=fun {d e j} hj=>by
  cases j with
  | zero=>simp at hj;exact ⟨rfl,hj.symm⟩
  | succ j=>simp at hj
 have zP:Rep (· < W.heap.size) W jh [] (.vptr [.str s.data.toList]) (.pointer (some a)):=by
  refine .vptr a (fun _=>.string s) (fun d hd=>qe6 hc) (fun d hd=>by rw [List.mem_singleton.1 hd];rfl) (fun j d hj=>?_) (fun j d hj=>?_)
  ·obtain ⟨rfl,rfl⟩:=one hj;rw [qh8];exact hc
  ·obtain ⟨rfl,rfl⟩:=one hj;have:=Rep.str (ok:=(· < W.heap.size)) (w:=W) (ι:=jh) (H:=[]) s.data.toList;simpa using this
 refine .vptr _ (fun _=>.iface tp (.pointer (some a))) (fun d hd=>qe6 Zx) (fun d hd=>by rw [List.mem_singleton.1 hd];rfl) (fun j d hj=>?_) (fun j d hj=>?_)
 ·obtain ⟨rfl,rfl⟩:=one hj;rw [qh8];exact Zx
 ·obtain ⟨rfl,rfl⟩:=one hj;exact .iface zP
def qug:String:=String.ofList [Char.ofNat 42]
theorem qrL {P:Program} {nm base:String} {tp:TypeId} (hs:qug ++ base = nm)
  (hrows:((List.range P.types.size).all fun u=>P.typeName? 3 u != some nm || u == tp) = true)
  (hnamed:((List.range P.types.size).all fun e=>P.typeName? 2 e != some base || (match (P.info? e).map (·.desc) with | some (TypeDesc.named _ _)=>true | _=>false)) = true)
  (hstar:base.toList.head?≠some (Char.ofNat 42)):∀ u,P.typeName? 3 u = some nm→u = tp:=by
 subst hs;intro u hu;exact typeName_ptr_named (nm:=base) hrows hnamed hstar u hu
end Go.Ev
namespace Go.Ev
open Go Go.Proofs Go.RowKit
section
variable {X:Cx} {ok:Nat→Prop} {w w':World} {ι:qV} {H:qe}
theorem qkx {n:Nat} (hn:n≤H.length) (hb:Below w.heap.size w w'):Evol n ok w ι H ok w' ι H where
 os:=hb.os
 tape:=hb.tape
 output:=hb.output
 size:=hb.size
 frame b qg _:=hb.block b qg
 okU _ h:=h
 okN _ h _:=.inl h
 nle:=⟨hn,hn⟩
 heap _ _ ds h:=⟨ds,h,qE _,fun _=>rfl⟩
 own i ds _ s h1 h2 _:=⟨i,ds,s,h1,h2⟩
theorem qsJ (hs:Sim X ok w ι H) (hb:Below w.heap.size w w'):Sim X ok w' ι H:=by
 have hev:Evol H.length ok w ι H ok w' ι H:=qkx (qE _) hb;refine ⟨fun b h=>jZ (hs.okS b h) hb.size,fun g cs hg=>(((hs.glob g cs hg).lift (ι:=ι) (H:=H)).evol hs hev rfl).free rfl _ _,hs.inj,fun i ds hd=>?_⟩;obtain ⟨b,arr,e,fr,q1,q2,q3,q4,q5,q6,q7,q8⟩:=hs.blk i ds hd
 have qg:b < w.heap.size:=by
  rcases qaa b w.heap.size with h | h
  ·exact h
  ·rw [qfW h] at q3;cases q3
 exact ⟨b,arr,e,fr,q1,q2,by rw [hb.block b qg];exact q3,q4,q5,q6,q7,fun j d hj=>(q8 j d hj).evol hs hev (q8 j d hj).closed⟩
theorem qhr {f:Nat} {vs:List Value} {r:D} (hs:Sim X ok w ι H) (KC:(callFunc f vs.toArray).run X.P w = .ok (.enter f vs.toArray) w)
  (hc:Calls X.P f vs.toArray w fun e w'=>∃ v,e = .returned v∧Rep ok w' ι H r v∧Below w.heap.size w w'):Goes X.P (callFunc f vs.toArray) w (CallPost X ok w ι H r H):=by
 unfold Goes;rw [KC];refine hc.mono ?_;rintro e w' ⟨v,rfl,hr,hb⟩;exact ⟨v,rfl,ι,ok,qsJ hs hb,hr,qkx (qE _) hb,fun i ds hi hd=>by rw [qf,List.getElem?_eq_none hi] at hd;cases hd⟩
theorem q0o {g:Nat} {k:IntKind} {m:Int} (hs:Sim X ok w ι H) (hg:X.glob g = some [.int k m]):w.cell? ⟨g,0,none⟩ = some (.int k m):=by
 have h:=hs.glob g _ hg;cases h with
 | vptr a f ha hc hr h =>
  have h1:=hr 0 (.int k m) rfl;have h2:=h 0 (.int k m) rfl;rw [qh8] at h1;generalize f 0 = v at h1 h2;cases h2;exact h1
theorem qvG {W:World} {g:Nat} {k:IntKind} {m:Int} (h:W.cell? ⟨g,0,none⟩ = some (.int k m)):Rep (· < W.heap.size) W jh [] (.vptr [.int k m]) (.pointer (some ⟨g,0,none⟩)):=by
 refine .vptr _ (fun _=>.int k m) (fun d hd=>qe6 h) (fun d hd=>by rw [List.mem_singleton.1 hd];rfl) (fun j d hj=>?_) (fun j d hj=>?_)
 ·cases j with
  | zero=>rw [qh8];exact h
  | succ j=>simp at hj
 ·cases j with
  | zero=>simp at hj;subst hj;exact .int k m
  | succ j=>simp at hj
end
class MaxL where
 m:Int
end Go.Ev
namespace Go.Ev
open Go Go.Proofs Go.RowKit Go.Shelf
section
variable {X:Cx} {ρ:Ren} {ok:Nat→Prop} {w:World} {ι:qV} {H H':qe} {r:D} {args:List D} {vs:List Value}
end
end Go.Ev
namespace Go.Ev
open Go Go.Proofs Go.RowKit Go.Shelf
def J1 (sub:List UInt8):List UInt8→Nat→Int
 | [],n=>if sub.isEmpty then n else -1
 | b :: l,n=>if sub.isPrefixOf (b :: l) then n else J1 sub l (n+1)
theorem qq6 (sub:List UInt8):∀ (l:List UInt8) (n:Nat),J1 sub l n = if Lib.index l sub = -1 then -1 else Lib.index l sub+n
 | [],n=>by
  simp only [J1,Lib.index];by_cases h:sub.isEmpty = true <;> simp [h]
 | b :: l,n=>by
  have hg:=Lib.index_ge l sub;simp only [J1,Lib.index,qq6 sub l (n+1)];by_cases hp:sub.isPrefixOf (b :: l) = true
  ·simp [hp]
  ·by_cases h:Lib.index l sub = -1
   ·simp [h,hp]
   ·have h2:¬ Lib.index l sub+1 = -1:=(by omega);simp only [beq_iff_eq,h,h2,hp,if_false,QE];omega
theorem qzw (sub l:List UInt8):Lib.index l sub = J1 sub l 0:=by
 rw [qq6];split
 ·assumption
 ·simp
def qfF:List D→qe→Option (D × qe)
 | [.str s,.str sub],H=>if s.length < 4294967281 then some (.int .i64 (J1 sub s 0),H) else none
 | _,_=>none
def qfG:List D→qe→Option (D × qe)
 | [.str s],H=>if s.length≤281474976710656 then some (.str s,H) else none
 | _,_=>none
section
variable {X:Cx} {ρ:Ren} {ok:Nat→Prop} {w:World} {ι:qV} {H H':qe} {r:D} {args:List D} {vs:List Value}
theorem qlX {s:List UInt8} (hv:RepL ok w ι H [.str s] vs):vs = [.string ⟨s.toArray⟩]:=by
 obtain ⟨v,us,rfl,h1,h2⟩:=Jw hv;cases qcl h2;cases h1;rfl
theorem qvH {s t:List UInt8} (hv:RepL ok w ι H [.str s,.str t] vs):vs = [.string ⟨s.toArray⟩,.string ⟨t.toArray⟩]:=by
 obtain ⟨v,us,rfl,h1,h2⟩:=Jw hv;cases qlX h2;cases h1;rfl
theorem q1A {m:Int} (L:Lays.n219 X.P ρ) (hg:X.glob (ρ.g 1) = some [.int .i64 m]) (h:qfF args H = some (r,H')) (hs:Sim X ok w ι H) (hv:RepL ok w ι H args vs) :
  Goes X.P (callFunc (ρ.f 219) vs.toArray) w (CallPost X ok w ι H r H'):=by
 have he:∀ args w,(callFunc (ρ.f 219) args).run X.P w = .ok (.enter (ρ.f 219) args) w:=Go.Proofs.enters_of L.f219 (by kernel_rfl) rfl;unfold qfF at h;split at h
 ·rename_i s sub;split at h
  ·rename_i hlen;injection h with h;injection h with h1 h2;subst h1;subst h2;cases qvH hv;refine qhr hs (he _ _) ((Any.stringslite_Index L ⟨s.toArray⟩ ⟨sub.toArray⟩ m w (by simpa [ByteArray.size] using hlen) (q0o hs hg)).mono ?_);rintro e w' ⟨rfl,rfl⟩;refine ⟨_,rfl,?_,Below.refl _ _⟩;rw [qzw];exact .int .i64 _
  ·cases h
 ·cases h
theorem q1B (L:LaysM.n316 X.P ρ) (h:qfG args H = some (r,H')) (hs:Sim X ok w ι H) (hv:RepL ok w ι H args vs) :
  Goes X.P (callFunc (ρ.f 316) vs.toArray) w (CallPost X ok w ι H r H'):=by
 have he:∀ args w,(callFunc (ρ.f 316) args).run X.P w = .ok (.enter (ρ.f 316) args) w:=Go.Proofs.enters_of L.f316 (by kernel_rfl) rfl;unfold qfG at h;split at h
 ·rename_i s;split at h
  ·rename_i hlen;injection h with h;injection h with h1 h2;subst h1;subst h2;cases qlX hv;refine qhr hs (he _ _) ((Any.stringslite_Clone L ⟨s.toArray⟩ w (by simpa [ByteArray.size] using hlen)).mono ?_);rintro e w' ⟨rfl,hb⟩;exact ⟨_,rfl,.str s,hb⟩
  ·cases h
 ·cases h
end
end Go.Ev
namespace Go.Ev
open Go Go.Proofs Go.RowKit Go.Shelf
def ve (c:UInt8):List UInt8→Nat→Int
 | [],_=>-1
 | b :: l,n=>if b = c then n else ve c l (n+1)
theorem qq9 (c:UInt8):∀ (l:List UInt8) (n:Nat),ve c l n = if Lib.indexByte l c = -1 then -1 else Lib.indexByte l c+n
 | [],n=>by simp [ve,Lib.indexByte]
 | b :: l,n=>by
  have hg:=Lib.indexByte_ge l c;simp only [ve,Lib.indexByte,qq9 c l (n+1)];by_cases hp:b = c
  ·simp [hp]
  ·by_cases h:Lib.indexByte l c = -1
   ·simp [h,hp]
   ·have h2:¬ Lib.indexByte l c+1 = -1:=(by omega);simp only [beq_iff_eq,h,h2,hp,if_false];omega
theorem qq8 (c:UInt8) (l:List UInt8):Lib.indexByte l c = ve c l 0:=by
 rw [qq9];split
 ·assumption
 ·simp
def qfz:List D→Option D
 | [.str s,.int .u8 c]=>some (.int .i64 (ve (UInt8.ofNat c.toNat) s 0))
 | _=>none
def qfI:List D→Option D
 | [.str s,.int .u8 c]=>some (.int .i64 (s.count (UInt8.ofNat c.toNat):Nat))
 | _=>none
def qfE:List D→qe→Option (D × qe)
 | [.str s,.int .i64 c],H=>if 0≤c∧c≤100000∧s.length * c.toNat≤140737488355328 then some (.str (Lib.repeatL s c.toNat),H) else none
 | _,_=>none
section
variable {X:Cx} {ρ:Ren} {ok:Nat→Prop} {w:World} {ι:qV} {H H':qe} {r:D} {args:List D} {vs:List Value}
theorem qiD {s:List UInt8} {k:IntKind} {c:Int} (hv:RepL ok w ι H [.str s,.int k c] vs):vs = [.string ⟨s.toArray⟩,.int k c]:=by
 obtain ⟨v,us,rfl,h1,h2⟩:=Jw hv;obtain ⟨v2,us2,rfl,h3,h4⟩:=Jw h2;cases qcl h4;cases h1;cases h3;rfl
theorem qzz {P : Program} {f : Nat} {fn : Func} (hf : P.funcs[f]? = some fn) (hn : fn.body = none) (hng : (fn.name == "runtime.NumGoroutine") = false)
  (h1:Extern.findNext fn = none) (h2:Extern.find fn = some Extern.BytealgIndexByte.indexByte) {d:D}
  (h:qfz args = some d) (hv:RepL ok w ι H args vs):∃ v,(callFunc f vs.toArray).run P w = .ok (.value v) w∧Rep ok w ι H d v∧idFree d = true:=by
 unfold qfz at h;split at h
 ·rename_i s c;injection h with h;subst h;cases qiD hv;refine ⟨.int .i64 (ve (UInt8.ofNat c.toNat) s 0),?_,.int _ _,rfl⟩;rw [run_callFunc_extern hf hng (by rw [hn];rfl) h1 h2,Lib.run_indexByteString,qq8];rfl
 ·cases h
theorem q2b {P : Program} {f : Nat} {fn : Func} (hf : P.funcs[f]? = some fn) (hn : fn.body = none) (hng : (fn.name == "runtime.NumGoroutine") = false)
  (h1:Extern.findNext fn = none) (h2:Extern.find fn = some Extern.BytealgCount.count) {d:D}
  (h:qfI args = some d) (hv:RepL ok w ι H args vs):∃ v,(callFunc f vs.toArray).run P w = .ok (.value v) w∧Rep ok w ι H d v∧idFree d = true:=by
 unfold qfI at h;split at h
 ·rename_i s c;injection h with h;subst h;cases qiD hv;refine ⟨.int .i64 (s.count (UInt8.ofNat c.toNat):Nat),?_,.int _ _,rfl⟩;rw [run_callFunc_extern hf hng (by rw [hn];rfl) h1 h2,Lib.run_countString];rfl
 ·cases h
theorem q19 (L:Lays.n105 X.P ρ) (E:Builder.Extra X.P ρ) (h:qfE args H = some (r,H')) (hs:Sim X ok w ι H) (hv:RepL ok w ι H args vs) :
  Goes X.P (callFunc (ρ.f 105) vs.toArray) w (CallPost X ok w ι H r H'):=by
 have he:∀ args w,(callFunc (ρ.f 105) args).run X.P w = .ok (.enter (ρ.f 105) args) w:=Go.Proofs.enters_of L.f105 (by kernel_rfl) rfl;unfold qfE at h;split at h
 ·rename_i s c;split at h
  ·rename_i hc;injection h with h;injection h with h1 h2;subst h1;subst h2;cases qiD hv;obtain ⟨n,rfl⟩:∃ n:Nat,c = (n:Int):=⟨c.toNat,by omega⟩;refine qhr hs (he _ _) ((Any.strings_Repeat L E ⟨s.toArray⟩ n w (by omega) (by simpa [ByteArray.size] using hc.2.2)).mono ?_);rintro e w' ⟨rfl,hb⟩;exact ⟨_,rfl,.str _,hb⟩
  ·cases h
 ·cases h
end
end Go.Ev
namespace Go.Ev
open Go Go.Proofs Go.RowKit
class TxtC where
 t:Nat→List D→qe→Option (D × qe)
def Cx.add (X:Cx) (T:Nat) (t:List D→qe→Option (D × qe)):Cx :=
 { X with con:=fun f=>if f = T then t else X.con f,bad:=fun f=>if f = T then true else X.bad f }
section
variable {X:Cx} {T:Nat} {t:List D→qe→Option (D × qe)}
end
end Go.Ev
namespace Go.Ev
open Go Go.Proofs Go.RowKit
section
variable {X:Cx} {ok:Nat→Prop} {w w':World} {ι:qV} {H H':qe}
theorem qsC {a:Addr} {j:Nat} {v:Value} (hk:w'.heap[a.block]? = w.heap[a.block]?) (h:w.cell? (a.add j) = some v):w'.cell? (a.add j) = some v:=by
 rw [World.cell?_of_block (w:=w)]
 ·exact h
 ·rw [qdW];exact hk
theorem Rep.same {d:D} {v:Value} (h:Rep ok w ι H d v) (hk:∀ b,ok b→w'.heap[b]? = w.heap[b]?):Rep ok w' ι H d v:=by
 induction h with
 | bool b=>exact .bool b
 | int k n=>exact .int k n
 | str s=>exact .str s
 | nilp=>exact .nilp
 | nilf=>exact .nilf
 | nili=>exact .nili
 | raw v=>exact .raw v
 | agg hl hc h ih=>exact .agg hl hc fun j d hj=>ih j d hj
 | tup hl h ih=>exact .tup hl fun j d hj=>ih j d hj
 | vptr a f ha hc hr h ih=>exact .vptr a f ha hc (fun j d hj=>qsC (hk _ (ha d (mem_of_get? hj))) (hr j d hj)) fun j d hj=>ih j d hj
 | optr a hi h=>exact .optr a hi h
 | vnil=>exact .vnil
 | vsl a f ha hc hr h zo ih=>exact .vsl a f ha hc (fun j d hj=>qsC (hk _ (ha d (mem_of_get? hj))) (hr j d hj)) (fun j d hj=>ih j d hj) zo
 | osl a hi h zo=>exact .osl a hi h zo
 | fn hl h ih=>exact .fn hl fun j d hj=>ih j d hj
 | iface h ih=>exact .iface ih
theorem qlo (hs:Sim X ok w ι H) (jn:w.heap.size≤w'.heap.size) (hk:∀ b,ok b→w'.heap[b]? = w.heap[b]?) (hn:∀ i ds b s,qf H i = some ds→ι i = some (b,s)→w'.heap[b]? = w.heap[b]?):Sim X ok w' ι H:=by
 refine ⟨fun b h=>jZ (hs.okS b h) jn,fun g cs hg=>(hs.glob g cs hg).same hk,hs.inj,fun i ds hd=>?_⟩;obtain ⟨b,arr,e,fr,q1,q2,q3,q4,q5,q6,q7,q8⟩:=hs.blk i ds hd;exact ⟨b,arr,e,fr,q1,q2,by rw [hn i ds b _ hd q1];exact q3,q4,q5,q6,q7,fun j d hj=>(q8 j d hj).same hk⟩
theorem qjN {F:zt} (hF:Vw X F) {nt:Nat} {drw:Bool} {ops:Array Oper} {Q:Exit→Act→World→Prop} {r:List Oper}:∀ {l:List Oper} {e e':qr} {H H':qe} {ok:Nat→Prop} {w:World} {ι:qV} {a:Act},vP X F nt drw ops l e H = some (e',H') →
  Sim X ok w ι H→EnvRep ok w ι H e a.tmps→nt≤a.tmps.size→(∀ a' w',Out X H.length ok w ι H a e' H' a' w'→wpList X.P ops Q r a' w')→wpList X.P ops Q (l ++ r) a w
 | [],e,e',H,H',ok,w,ι,a,h,hs,he,hn,hQ=>by
  simp only [vP,qw,zm] at h;obtain ⟨rfl,rfl⟩:=h;exact hQ a w ⟨rfl,rfl,ι,ok,hs,he,.refl _ (qE _)⟩
 | o :: l,e,e',H,H',ok,w,ι,a,h,hs,he,hn,hQ=>by
  simp only [vP] at h;split at h
  ·rename_i kG hg;split at h
   ·rename_i d H1 ho;have hw:=qeO he hg;simp only [Qw,wpList,hw,if_true];refine .inl ?_;unfold Oper.wp;refine Goes.upon ((qiW hF hs he ho).mono fun v w1 hp=>?_);obtain ⟨ι1,ok1,k1,k2,k3⟩:=hp;obtain ⟨s1,s2⟩:=qd5 a o.dst v;refine qjN hF h k1 (qgu (he.evol' hs k3) k2 hn kG) (by omega) fun a2 w2 vr=>hQ a2 w2 ?_;obtain ⟨t1,t2,ι2,ok2,u1,u2,u3⟩:=vr;exact ⟨by omega,by rw [t2,s2],ι2,ok2,u1,u2,k3.trans (u3.mono k3.nle.2)⟩
   ·cases h
  ·rename_i kG hg;have hw:=qeO he hg;simp only [Qw,wpList,hw,QE,if_false];obtain ⟨s1,s2⟩:=qd5 a o.dst undef;refine qjN hF h hs (qgu he qgb hn kG) (by omega) fun a2 w2 vr=>hQ a2 w2 ?_;obtain ⟨t1,t2,rest⟩:=vr;exact ⟨by omega,by rw [t2,s2],rest⟩
  ·cases h
theorem qsn (hG:Good X) {f nt n0:Nat} {c:Code} {e e':qr} {ex:Ex} {a:Act} (h:zk X f nt n0 c e H = some (ex,e',H')) (J5:Zn X f c = true) (hn:n0≤H.length) (hs:Sim X ok w ι H) (he:EnvRep ok w ι H e a.tmps) (ht:nt≤a.tmps.size) :
  c.wp X.P (CQ X n0 ok w ι H a ex e' H') a w:=by
 obtain ⟨n,YB⟩:=code_some.1 h;exact (qlj hG n).2 f nt n0 c e e' H H' ex ok w ι a YB J5 hn hs he ht
end
end Go.Ev
namespace Go.Ev
open Go Go.Proofs Go.RowKit
def qtb (X:Cx) (P:Nat→Nat→Nat→Code→qr→D→Prop) (o:Op) (e:qr) (d:D):Prop :=
 (∃ x t d0,o = .panic x∧qW X e x = some (.iface t d0)∧d = .iface t d0) ∨
 (∃ c g f caps args fn cd,o = .call c∧c.callee = .value g∧vL X e c.args.toList = some args∧qW X e g = some (.fn f caps)∧X.P.funcs[f]? = some fn∧fn.body = some cd∧X.bad f = false∧(args ++ caps).all idFree = true ∧
  P f fn.ntmps 0 cd (kf 0 (args ++ caps)) d)
def PanC (X:Cx):Nat→Nat→Nat→Nat→Code→qr→qe→D→qe→Prop
 | 0,_,_,_,_,_,_,_,_=>False
 | n+1,f,nt,n0,c,e,H,d,H'=>match c with
  | .region id ops false=>∃ e1 H1 l1 o l2 e2,enter X f n0 id e H = some (e1,H1)∧ops.toList = l1 ++ o :: l2∧vP X (call X) nt (Yq X f id false ops) ops l1 e1 H1 = some (e2,H')∧vH ops e2 o.guard = some true∧idFree d = true∧vFree d = true ∧
    qtb X (fun f nt n0 c e d=>∃ L,PanC X n f nt n0 c e [] d L) o.op e2 d
  | .seq a b=>PanC X n f nt n0 a e H d H'∨∃ e1 H1,zk X f nt n0 a e H = some (.normal,e1,H1)∧PanC X n f nt n0 b e1 H1 d H'
  | .cond c a b=>∃ t,qW X e c = some (.bool t)∧PanC X n f nt n0 (if t then a else b) e H d H'
  | .block _ c | .scope c=>PanC X n f nt n0 c e H d H'
  | .loop c=>PanC X n f nt n0 c e H d H'∨∃ e1 H1,zk X f nt n0 c e H = some (.normal,e1,H1)∧PanC X n f nt n0 (.loop c) e1 H1 d H'
  | _=>False
section
variable {X:Cx} {ok ok':Nat→Prop} {w w':World} {ι:qV} {H H':qe}
def GoesP (P:Program) (s:Sem Next) (w:World) (R:Value→World→Prop):Prop :=
 match s.run P w with
 | .ok (.enter f args) w'=>Calls P f args w' fun e w''=>∃ v,e = .panicked [{ v,recovered:=false }]∧R v w''
 | .halt (.panic v) w'=>R v w'
 | _=>False
theorem GoesP.upon {P:Program} {o:Oper} {a:Act} {s:Sem Next} {next:Act→World→Prop} {Q:Exit→Act→World→Prop} (h:GoesP P s w fun v w'=>Q (.panic [{ v,recovered:=false }]) a w'):o.upon P a next Q (s.run P w):=by
 unfold GoesP at h;split at h
 ·rename_i f args w' hr;rw [hr];simp only [Oper.upon];exact h.mono fun e w'' ⟨v,h1,h2⟩=>by subst h1;exact h2
 ·rename_i v w' hr;rw [hr];exact h
 ·exact h.elim
theorem GoesP.mono {P:Program} {s:Sem Next} {R R':Value→World→Prop} (h:GoesP P s w R) (hr:∀ v w',R v w'→R' v w'):GoesP P s w R':=by
 unfold GoesP at *;split at h
 ·exact h.mono fun e w'' ⟨v,h1,h2⟩=>⟨v,h1,hr _ _ h2⟩
 ·exact hr _ _ h
 ·exact h.elim
def PQ (X:Cx) (n:Nat) (ok:Nat→Prop) (w:World) (ι:qV) (H:qe) (a:Act) (d:D) (H':qe) (x:Exit) (a':Act) (w':World):Prop :=
 a'.defers = a.defers∧∃ v ι' ok',x = .panic [{ v,recovered:=false }]∧Sim X ok' w' ι' H'∧Rep ok' w' ι' H' d v∧Evol n ok w ι H ok' w' ι' H'
theorem qwz {f : Nat} {fn : Func} {c : Code} {args : List D} {d : D} {L : qe} {vs : List Value} (hf : X.P.funcs[f]? = some fn) (hb : fn.body = some c) (hng : (fn.name == "runtime.NumGoroutine") = false)
  (kj:args.all idFree = true) (hd:idFree d = true) (hvd:vFree d = true) (hs:Sim X ok w ι H) (hv:RepL ok w ι H args vs)
  (hC:∀ a:Act,EnvRep ok w jh [] (kf 0 args) a.tmps→fn.ntmps≤a.tmps.size→c.wp X.P (PQ X 0 ok w jh [] a d L) a w) :
  GoesP X.P (callFunc f vs.toArray) w fun v w'=>Sim X ok w' ι H∧Rep ok w' ι H d v∧Evol H.length ok w ι H ok w' ι H:=by
 have KC:(callFunc f vs.toArray).run X.P w = .ok (.enter f vs.toArray) w:=Go.Proofs.enters_of hf hng hb _ _;have hv':RepL ok w jh [] args vs:=⟨hv.1,fun j d hj=>(hv.2 j d hj).free (qdp kj d (mem_of_get? hj)) _ _⟩;unfold GoesP;rw [KC];simp only;refine calls_of_wp hf hb (wp_mono (hC ⟨vs.toArray ++ Array.replicate (fn.ntmps - vs.toArray.size) undef,[]⟩ ?_ ?_) ?_)
 ·intro t d ht;obtain ⟨_,h2⟩:=qh6 args 0 t d ht;rw [Nat.sub_zero] at h2;have qg:t < vs.length:=by rw [hv.1];exact (List.getElem?_eq_some_iff.1 h2).1
  refine ⟨by simp;omega,?_⟩;have:=hv'.2 t d h2;rw [jl,qfX (by simpa using qg)];simpa [j8] using this
 ·simp;omega
 ·rintro x a' w' ⟨hdf,v,ι1,ok1,rfl,k1,k2,k3⟩;refine ⟨hdf,v,rfl,?_⟩;have hfr:∀ b,b < w.heap.size→w'.heap[b]? = w.heap[b]?:=fun b hb=>k3.frame b hb (fun i ds s hd=>by simp [qf] at hd);refine ⟨qlo hs k3.size (fun b h=>hfr b (hs.okS b h)) (fun i ds b s hd hi=>hfr b (hs.lt hd hi)),(k2.free hd ι H).vfree hvd ok,⟨k3.os,k3.tape,k3.output,k3.size,fun b hb _=>hfr b hb,fun _ h=>h,fun _ h _=>.inl h,⟨qE _,qE _⟩,fun i _ ds hd=>⟨ds,hd,qE _,fun _=>rfl⟩,fun i ds _ s hd hi _=>⟨i,ds,s,hd,hi⟩⟩⟩
theorem PQ.trans {n:Nat} {a a1:Act} {w1:World} {H1:qe} {ok1:Nat→Prop} {ι1:qV} {d:D} (h2:a1.defers = a.defers) (h3:Evol n ok w ι H ok1 w1 ι1 H1) {x:Exit} {a2:Act} {w2:World}
  (h:PQ X n ok1 w1 ι1 H1 a1 d H' x a2 w2):PQ X n ok w ι H a d H' x a2 w2:=by
 obtain ⟨t,v,ι2,ok2,rfl,u1,u2,u3⟩:=h;exact ⟨by rw [t,h2],v,ι2,ok2,rfl,u1,u2,h3.trans u3⟩
theorem qw3 (hG:Good X):∀ (n f nt n0:Nat) (c:Code) (e:qr) (H:qe) (d:D) (H':qe) (ok:Nat→Prop) (w:World) (ι:qV) (a:Act),PanC X n f nt n0 c e H d H'→Zn X f c = true→n0≤H.length→Sim X ok w ι H→EnvRep ok w ι H e a.tmps→nt≤a.tmps.size →
  c.wp X.P (PQ X n0 ok w ι H a d H') a w:=by
 intro n
 induction n using Nat.strongRecOn with
 | _ n ih0 =>
 cases n with
 | zero=>intro f nt n0 c e H d H' ok w ι a h;exact h.elim
 | succ n =>
  have ih:=ih0 n (by omega);intro f nt n0 c e H d H' ok w ι a h hoc hn hs he Qq;cases c with
  | region id ops draw =>
   cases draw with
   | true=>exact h.elim
   | false =>
    obtain ⟨e1,H1,l1,o,l2,e2,zR,hl,hev,hg,hd,hvd,QL⟩:=h;obtain ⟨ok1,ι1,s1,s2,s3⟩:=qrU zR hn hs he;refine wp_region_list ?_;rw [hl];refine qjN (qkp hG) hev s1 s2 Qq fun a' w' vr=>?_;obtain ⟨t1,t2,ι2,ok2,u1,u2,u3⟩:=vr;have hw:=qeO u2 hg;simp only [wpList,hw,if_true];refine .inl ?_;have hev2:=s3.trans (u3.mono s3.nle.2);rcases QL with ⟨x,t,d0,ho,hx,rfl⟩ | ⟨c,g,f',caps,args,fn,cd,ho,hc,qbD,hgf,hf,hb,hbad,kj,L,hP⟩
    ·obtain ⟨v,hv,hr⟩:∃ v,a'.eval x = .iface t v∧Rep ok2 w' ι2 H' d0 v:=by
      have:=vi u1 u2 hx;generalize a'.eval x = y at this;cases this;exact ⟨_,rfl,by assumption⟩
     have hrun:(execOp a'.eval o).run X.P w' = .halt (.panic (.iface t v)) w':=by
      simp only [execOp,ho,hv];rfl
     unfold Oper.wp;rw [hrun,Oper.upon_panic];exact ⟨t2,_,ι2,ok2,rfl,u1,.iface hr,hev2⟩
    ·have hv:=qfo u1 u2 qbD;have vO:=vi u1 u2 hgf;generalize Jf:a'.eval g = cv at vO;cases vO with
     | @fn _ _ _ _ vs hl hh =>
      have e0:execOp a'.eval o = callFunc f' ((c.args.toList.map a'.eval) ++ vs.toList).toArray:=by
       simp only [execOp,ho,resolve,hc,Jf,Deferred.ofValue];simp only [pure_bind,invoke];congr 1;apply Array.ext';simp
      unfold Oper.wp;rw [e0];refine GoesP.upon ((qwz hf hb (hG.ng f' fn hf) kj hd hvd u1 (RepL.append hv (qlY hl hh)) fun a2 he2 ht2=>ih f' fn.ntmps 0 cd _ [] d L ok2 w' jh a2 hP (hG.okc f' fn cd hf hb hbad) (qE _) (qlp u1) he2 ht2).mono fun v w2 hq=>?_);obtain ⟨q1,q2,q3⟩:=hq;exact ⟨t2,v,ι2,ok2,rfl,q1,q2,hev2.trans (q3.mono (zT s3.nle.2 u3.nle.2))⟩
  | seq x y =>
   simp only [Zn,jk] at hoc;refine wp_seq ?_;rcases h with h | ⟨e1,H1,hx,h⟩
   ·refine wp_mono (ih f nt n0 x e H d H' ok w ι a h hoc.1 hn hs he Qq) ?_;rintro z a' w' ⟨t,v,ι',ok',rfl,r⟩;exact ⟨t,v,ι',ok',rfl,r⟩
   ·refine wp_mono (qsn hG hx hoc.1 hn hs he Qq) ?_;rintro z a1 w1 ⟨rfl,t1,t2,ι1,ok1,u1,u2,u3⟩;refine wp_mono (ih f nt n0 y e1 H1 d H' ok1 w1 ι1 a1 h hoc.2 u3.nle.2 u1 u2 (by omega)) ?_;exact fun z a2 w2 hq=>PQ.trans t2 u3 hq
  | cond c x y =>
   simp only [Zn,jk] at hoc;obtain ⟨t,hc,h⟩:=h;refine wp_cond (qmG hs he hc) (ih f nt n0 _ e H d H' ok w ι a h ?_ hn hs he Qq);cases t
   ·exact hoc.2
   ·exact hoc.1
  | block id c =>
   refine wp_block (wp_mono (ih f nt n0 c e H d H' ok w ι a h hoc hn hs he Qq) ?_);rintro z a' w' ⟨t,v,ι',ok',rfl,r⟩;exact ⟨t,v,ι',ok',rfl,r⟩
  | scope c =>
   refine wp_scope_straight (wp_mono (ih f nt n0 c e H d H' ok w ι a h hoc hn hs he Qq) ?_);rintro z a' w' ⟨t,v,ι',ok',rfl,r⟩;exact ⟨t,v,ι',ok',rfl,r⟩
  | loop c =>
   simp only [Zn] at hoc
   have key:∀ m,m≤n→∀ (e:qr) (H:qe) (ok:Nat→Prop) (w:World) (ι:qV) (a:Act),PanC X (m+1) f nt n0 (.loop c) e H d H'→n0≤H.length→Sim X ok w ι H→EnvRep ok w ι H e a.tmps→nt≤a.tmps.size→Code.rounds X.P c (PQ X n0 ok w ι H a d H') (m+1) a w:=by
    intro m
    induction m with
    | zero =>
     intro _ e H ok w ι a h;rcases h with h | ⟨_,_,_,h⟩
     ·exact h.elim
     ·exact h.elim
    | succ m ihm =>
     intro hm e H ok w ι a h hn hs he Qq;rw [rounds_succ];rcases h with h | ⟨e1,H1,hx,h⟩
     ·refine wp_mono (ih0 (m+1) (by omega) f nt n0 c e H d H' ok w ι a h hoc hn hs he Qq) ?_;rintro z a' w' ⟨t,v,ι',ok',rfl,r⟩;exact ⟨t,v,ι',ok',rfl,r⟩
     ·refine wp_mono (qsn hG hx hoc hn hs he Qq) ?_;rintro z a1 w1 ⟨rfl,t1,t2,ι1,ok1,u1,u2,u3⟩;exact qi0 (fun z a2 w2 hq=>PQ.trans t2 u3 hq) _ _ _ (ihm (by omega) e1 H1 ok1 w1 ι1 a1 h u3.nle.2 u1 u2 (by omega))
   exact wp_loop_rounds _ (key n (qE _) e H ok w ι a h hn hs he Qq)
  | skip=>exact h.elim
  | label l=>exact h.elim
  | exit id=>exact h.elim
  | ret=>exact h.elim
  | _=>exact h.elim
def qta (X:Cx) (f:Nat) (args:List D) (H:qe) (d:D) (H':qe):Prop :=
 ∃ n fn c,X.P.funcs[f]? = some fn∧fn.body = some c∧X.bad f = false∧PanC X n f fn.ntmps H.length c (kf 0 args) H d H'
theorem qwq (hG:Good X) {f:Nat} {args:List D} {d:D} {vs:List Value} (h:qta X f args H d H') (hs:Sim X ok w ι H) (hv:RepL ok w ι H args vs) :
  GoesP X.P (callFunc f vs.toArray) w fun v w'=>∃ ι' ok',Sim X ok' w' ι' H'∧Rep ok' w' ι' H' d v∧Evol H.length ok w ι H ok' w' ι' H':=by
 obtain ⟨n,fn,c,hf,hb,hbad,hP⟩:=h;have KC:(callFunc f vs.toArray).run X.P w = .ok (.enter f vs.toArray) w:=Go.Proofs.enters_of hf (hG.ng f fn hf) hb _ _;unfold GoesP;rw [KC];simp only;refine calls_of_wp hf hb (wp_mono (qw3 hG n f fn.ntmps H.length c (kf 0 args) H d H' ok w ι ⟨vs.toArray ++ Array.replicate (fn.ntmps - vs.toArray.size) undef,[]⟩ hP (hG.okc f fn c hf hb hbad) (qE _) hs ?_ ?_) ?_)
 ·intro t d ht;obtain ⟨_,h2⟩:=qh6 args 0 t d ht;rw [Nat.sub_zero] at h2;have qg:t < vs.length:=by rw [hv.1];exact (List.getElem?_eq_some_iff.1 h2).1
  refine ⟨by simp;omega,?_⟩;have:=hv.2 t d h2;rw [jl,qfX (by simpa using qg)];simpa [j8] using this
 ·simp;omega
 ·rintro x a' w' ⟨hdf,v,ι1,ok1,rfl,k1,k2,k3⟩;exact ⟨hdf,v,rfl,ι1,ok1,k1,k2,k3⟩
end
end Go.Ev
namespace Go.Ev
open Go Go.Proofs
section
variable {X:Cx} {f nt n0:Nat} {e:qr} {H H':qe} {d:D}
end
end Go.Ev
namespace Go.Ev
open Go Go.Proofs Go.RowKit
def Zl (X:Cx) (P:Nat→List D→Option D) (o:Op) (e:qr):Option D :=
 match o with
 | .panic x=>match qW X e x with
  | some (.iface t d)=>if idFree d && vFree d then some (.iface t d) else none
  | _=>none
 | .call c=>match c.callee,vL X e c.args.toList with
  | .value g,some args=>match qW X e g with
   | some (.fn f caps)=>P f (args ++ caps)
   | _=>none
  | _,_=>none
 | _=>none
noncomputable def QR (X:Cx) (P:Nat→List D→Option D) (nt:Nat) (bw:Bool) (ops:Array Oper):List Oper→qr→qe→Option (D × qe)
 | [],_,_=>none
 | o :: l,e,H=>match ke nt o.dst,vH ops e o.guard with
  | true,some true=>match qX X (call X) bw o.op e H with
   | some (d,H')=>QR X P nt bw ops l (jK e o.dst d) H'
   | none=>(Zl X P o.op e).map (·,H)
  | true,some false=>QR X P nt bw ops l (jK e o.dst (.tup [])) H
  | _,_=>none
def Vb (X:Cx) (ev:Nat→Nat→Nat→Code→qr→qe→Option (D × qe)) (f:Nat) (args:List D):Option D :=
 match X.con f args [],X.P.funcs[f]? with
 | none,some fn=>match fn.body with
  | some c=>if X.bad f = false∧args.all idFree = true then match ev f fn.ntmps 0 c (kf 0 args) [] with
    | some (d,_)=>if idFree d && vFree d then some d else none
    | none=>none
   else none
  | none=>none
 | _,_=>none
noncomputable def evP (X:Cx):Nat→Nat→Nat→Nat→Code→qr→qe→Option (D × qe)
 | 0,_,_,_,_,_,_=>none
 | n+1,f,nt,n0,c,e,H=>match c with
  | .region id ops draw=>match draw,enter X f n0 id e H with
   | false,some (e1,H1)=>QR X (Vb X (evP X n)) nt (Yq X f id false ops) ops ops.toList e1 H1
   | _,_=>none
  | .seq a b=>match zk X f nt n0 a e H with
   | some (.normal,e1,H1)=>evP X n f nt n0 b e1 H1
   | some _=>none
   | none=>evP X n f nt n0 a e H
  | .cond c a b=>match qW X e c with
   | some (.bool t)=>evP X n f nt n0 (if t then a else b) e H
   | _=>none
  | .block _ c=>evP X n f nt n0 c e H
  | .scope c=>evP X n f nt n0 c e H
  | .loop c=>match zk X f nt n0 c e H with
   | some (.normal,e1,H1)=>evP X n f nt n0 (.loop c) e1 H1
   | some _=>none
   | none=>evP X n f nt n0 c e H
  | _=>none
section
variable {X:Cx} {f nt n0:Nat} {e:qr} {H H':qe} {d:D}
theorem qwt {P Q:Nat→List D→Option D} (h:∀ f args d,P f args = some d→Q f args = some d) {o:Op} {d:D} (hp:Zl X P o e = some d):Zl X Q o e = some d:=by
 unfold Zl at hp ⊢;split at hp
 ·exact hp
 ·split at hp
  ·split at hp
   ·exact h _ _ _ hp
   ·cases hp
  ·cases hp
 ·cases hp
theorem qg2 {P Q:Nat→List D→Option D} (h:∀ f args d,P f args = some d→Q f args = some d) {bw:Bool} {ops:Array Oper}:∀ {l:List Oper} {e:qr} {H:qe} {r:D × qe},QR X P nt bw ops l e H = some r→QR X Q nt bw ops l e H = some r
 | [],_,_,_,hp=>hp
 | o :: l,e,H,r,hp=>by
  rw [QR] at hp ⊢;split at hp
  ·split at hp
   ·exact qg2 h hp
   ·cases hq:Zl X P o.op e with
    | none=>rw [hq] at hp;cases hp
    | some q=>rw [hq] at hp;simp only [qwt h hq];exact hp
  ·exact qg2 h hp
  ·cases hp
theorem qmw {E G:Nat→Nat→Nat→Code→qr→qe→Option (D × qe)} (h:∀ f nt n0 c e H r,E f nt n0 c e H = some r→G f nt n0 c e H = some r) {f:Nat} {args:List D} {d:D} (hp:Vb X E f args = some d):Vb X G f args = some d:=by
 unfold Vb at hp ⊢;split at hp
 ·split at hp
  ·split at hp
   ·rename_i hcond;rw [if_pos hcond];split at hp
    ·rename_i hE;rw [h _ _ _ _ _ _ _ hE];exact hp
    ·cases hp
   ·cases hp
  ·cases hp
 ·cases hp
theorem q0P:∀ {n f nt n0:Nat} {c:Code} {e:qr} {H:qe} {r:D × qe},evP X n f nt n0 c e H = some r→evP X (n+1) f nt n0 c e H = some r:=by
 intro n
 induction n with
 | zero=>intro f nt n0 c e H r h;simp [evP] at h
 | succ n ih =>
  intro f nt n0 c e H r h;rw [evP.eq_def] at h ⊢;cases c with
  | region id ops draw =>
   simp only at h ⊢;split at h
   ·exact qg2 (fun f args d hp=>qmw (fun f nt n0 c e H r hh=>ih hh) hp) h
   ·cases h
  | seq a b =>
   simp only at h ⊢;split at h
   ·exact ih h
   ·cases h
   ·exact ih h
  | cond c a b =>
   simp only at h ⊢;split at h
   ·exact ih h
   ·cases h
  | block id c=>exact ih h
  | scope c=>exact ih h
  | loop c =>
   simp only at h ⊢;split at h
   ·exact ih h
   ·cases h
   ·exact ih h
  | skip=>cases h
  | label l=>cases h
  | exit id=>cases h
  | ret=>cases h
  | _=>cases h
theorem q0T {n m:Nat} (Q7:n≤m) {c:Code} {r:D × qe} (h:evP X n f nt n0 c e H = some r):evP X m f nt n0 c e H = some r:=by
 induction Q7 with
 | refl=>exact h
 | step _ ih=>exact q0P ih
noncomputable def jC (X:Cx) (f nt n0:Nat) (c:Code) (e:qr) (H:qe):Option (D × qe):=lim fun n=>evP X n f nt n0 c e H
theorem codeP_some {c:Code} {r:D × qe}:jC X f nt n0 c e H = some r↔∃ n,evP X n f nt n0 c e H = some r:=qjo fun _ _ _ Q7 h=>q0T Q7 h
noncomputable def Q0 (X:Cx) (f:Nat) (args:List D):Option D:=Vb X (jC X) f args
theorem qw2 {f:Nat} {args:List D} {d:D} (h:Q0 X f args = some d):∃ n,Vb X (evP X n) f args = some d:=by
 unfold Q0 Vb at h;split at h
 ·rename_i hc hf;split at h
  ·rename_i c hb;split at h
   ·rename_i hcond;split at h
    ·rename_i hE;obtain ⟨n,hn⟩:=codeP_some.1 hE;refine ⟨n,?_⟩;unfold Vb;simp only [hc,hf,hb,if_pos hcond,hn];exact h
    ·cases h
   ·cases h
  ·cases h
 ·cases h
theorem qws {o:Op} {d:D} (h:Zl X (Q0 X) o e = some d):∃ n,Zl X (Vb X (evP X n)) o e = some d:=by
 unfold Zl at h;split at h
 ·refine ⟨0,?_⟩;unfold Zl;exact h
 ·split at h
  ·rename_i hc ha;split at h
   ·rename_i hg;obtain ⟨n,hn⟩:=qw2 h;refine ⟨n,?_⟩;unfold Zl;simp only [hc,ha,hg];exact hn
   ·cases h
  ·cases h
 ·cases h
theorem qiU {bw:Bool} {ops:Array Oper}:∀ {l:List Oper} {e:qr} {H:qe} {r:D × qe},QR X (Q0 X) nt bw ops l e H = some r→∃ n,QR X (Vb X (evP X n)) nt bw ops l e H = some r
 | [],_,_,_,hp=>⟨0,hp⟩
 | o :: l,e,H,r,hp=>by
  rw [QR] at hp;split at hp
  ·rename_i hd hg;split at hp
   ·rename_i ho;obtain ⟨n,hn⟩:=qiU hp;exact ⟨n,by rw [QR,hd,hg];simp only [ho];exact hn⟩
   ·rename_i ho;cases hq:Zl X (Q0 X) o.op e with
    | none=>rw [hq] at hp;cases hp
    | some q =>
     rw [hq] at hp;obtain ⟨n,hn⟩:=qws hq;exact ⟨n,by rw [QR,hd,hg];simp only [ho,hn];exact hp⟩
  ·rename_i hd hg;obtain ⟨n,hn⟩:=qiU hp;exact ⟨n,by rw [QR,hd,hg];exact hn⟩
  ·cases hp
theorem q1M {id:Nat} {ops:Array Oper} {e1:qr} {H1:qe} {r:D × qe} (zR:enter X f n0 id e H = some (e1,H1)) (h:QR X (Q0 X) nt (Yq X f id false ops) ops ops.toList e1 H1 = some r):jC X f nt n0 (.region id ops false) e H = some r:=by
 obtain ⟨n,hn⟩:=qiU h;exact codeP_some.2 ⟨n+1,by rw [evP.eq_def];simp only [zR];exact hn⟩
theorem q1P {c:Operand} {a b:Code} {t:Bool} {r:D × qe} (hc:qW X e c = some (.bool t)) (h:jC X f nt n0 (if t then a else b) e H = some r):jC X f nt n0 (.cond c a b) e H = some r:=by
 obtain ⟨n,hn⟩:=codeP_some.1 h;exact codeP_some.2 ⟨n+1,by rw [evP.eq_def];simp only [hc];exact hn⟩
theorem q1Q {id:Nat} {c:Code} {r:D × qe} (h:jC X f nt n0 c e H = some r):jC X f nt n0 (.block id c) e H = some r:=by
 obtain ⟨n,hn⟩:=codeP_some.1 h;exact codeP_some.2 ⟨n+1,hn⟩
theorem q1L {c:Code} {r:D × qe} (h:jC X f nt n0 c e H = some r):jC X f nt n0 (.scope c) e H = some r:=by
 obtain ⟨n,hn⟩:=codeP_some.1 h;exact codeP_some.2 ⟨n+1,hn⟩
theorem q1J {a b:Code} {e1:qr} {H1:qe} {r:D × qe} (ha:zk X f nt n0 a e H = some (.normal,e1,H1)) (h:jC X f nt n0 b e1 H1 = some r):jC X f nt n0 (.seq a b) e H = some r:=by
 obtain ⟨n,hn⟩:=codeP_some.1 h;exact codeP_some.2 ⟨n+1,by rw [evP.eq_def];simp only [ha];exact hn⟩
theorem q1N {c:Code} {e1:qr} {H1:qe} {r:D × qe} (ha:zk X f nt n0 c e H = some (.normal,e1,H1)) (h:jC X f nt n0 (.loop c) e1 H1 = some r):jC X f nt n0 (.loop c) e H = some r:=by
 obtain ⟨n,hn⟩:=codeP_some.1 h;exact codeP_some.2 ⟨n+1,by rw [evP.eq_def];simp only [ha];exact hn⟩
theorem qiT {P:Nat→List D→Option D} {bw:Bool} {ops:Array Oper}:∀ {l:List Oper} {e:qr} {H:qe} {r:D × qe},QR X P nt bw ops l e H = some r→vP X (call X) nt bw ops l e H = none
 | [],_,_,_,hp=>by cases hp
 | o :: l,e,H,r,hp=>by
  rw [QR] at hp;rw [vP];split at hp
  ·rename_i hd hg;rw [hd,hg];simp only;split at hp
   ·rename_i ho;rw [ho];exact qiT hp
   ·rename_i ho;rw [ho]
  ·rename_i hd hg;rw [hd,hg];exact qiT hp
  ·cases hp
theorem q0S:∀ {n f nt n0:Nat} {c:Code} {e:qr} {H:qe} {r:D × qe},evP X n f nt n0 c e H = some r→zk X f nt n0 c e H = none:=by
 intro n
 induction n with
 | zero=>intro f nt n0 c e H r h;simp [evP] at h
 | succ n ih =>
  intro f nt n0 c e H r h;rw [evP.eq_def] at h;cases c with
  | region id ops draw =>
   simp only at h;split at h
   ·rename_i zR;rw [qht,zR];simp only [Jk,qiT h];rfl
   ·cases h
  | seq a b =>
   simp only at h;rw [qkd];split at h
   ·rename_i hc;rw [hc];exact ih h
   ·cases h
   ·rename_i hc;rw [hc]
  | cond c a b =>
   simp only at h;rw [qkf];split at h
   ·rename_i hc;rw [hc];exact ih h
   ·cases h
  | block id c=>rw [qkg,ih h]
  | scope c=>rw [qke,ih h]
  | loop c =>
   simp only at h;rw [qfH];split at h
   ·rename_i hc;rw [hc];exact ih h
   ·cases h
   ·rename_i hc;rw [hc]
  | skip=>cases h
  | label l=>cases h
  | exit id=>cases h
  | ret=>cases h
  | _=>cases h
theorem qhu {c:Code} {r:D × qe} (h:jC X f nt n0 c e H = some r):zk X f nt n0 c e H = none:=by
 obtain ⟨n,hn⟩:=codeP_some.1 h;exact q0S hn
theorem q1K {a b:Code} {r:D × qe} (h:jC X f nt n0 a e H = some r):jC X f nt n0 (.seq a b) e H = some r:=by
 have hc:=qhu h;obtain ⟨n,hn⟩:=codeP_some.1 h;exact codeP_some.2 ⟨n+1,by rw [evP.eq_def];simp only [hc];exact hn⟩
theorem q1O {c:Code} {r:D × qe} (h:jC X f nt n0 c e H = some r):jC X f nt n0 (.loop c) e H = some r:=by
 have hc:=qhu h;obtain ⟨n,hn⟩:=codeP_some.1 h;exact codeP_some.2 ⟨n+1,by rw [evP.eq_def];simp only [hc];exact hn⟩
theorem qw1 {args:List D} (h:Q0 X f args = some d):call X f args [] = none:=by
 unfold Q0 Vb at h;split at h
 ·rename_i hc hf;split at h
  ·rename_i c hb;split at h
   ·rename_i hcond;split at h
    ·rename_i hE;rw [qhy hc hf hb hcond.1];have:=qhu hE;simp only [kp,this]
    ·cases h
   ·cases h
  ·cases h
 ·cases h
theorem qiS {n:Nat} (ih:∀ {f nt n0:Nat} {c:Code} {e:qr} {H:qe} {d:D} {H':qe},evP X n f nt n0 c e H = some (d,H')→PanC X n f nt n0 c e H d H') {bw:Bool} {ops:Array Oper} :
  ∀ {l:List Oper} {e:qr} {H:qe} {d:D} {H':qe},QR X (Vb X (evP X n)) nt bw ops l e H = some (d,H') →
   ∃ l1 o l2 e2,l = l1 ++ o :: l2∧vP X (call X) nt bw ops l1 e H = some (e2,H')∧vH ops e2 o.guard = some true∧idFree d = true∧vFree d = true∧qtb X (fun f nt n0 c e d=>∃ L,PanC X n f nt n0 c e [] d L) o.op e2 d
 | [],_,_,_,_,hp=>by cases hp
 | o :: l,e,H,d,H',hp=>by
  rw [QR] at hp;split at hp
  ·rename_i hd hg;split at hp
   ·rename_i d1 H1 ho;obtain ⟨l1,o',l2,e2,h1,h2,h3⟩:=qiS ih hp;exact ⟨o :: l1,o',l2,e2,by rw [h1];rfl,by rw [vP,hd,hg];simp only [ho];exact h2,h3⟩
   ·rename_i ho;cases hq:Zl X (Vb X (evP X n)) o.op e with
    | none=>rw [hq] at hp;cases hp
    | some q =>
     rw [hq] at hp;injection hp with hp;injection hp with ku ZB;subst ku;subst ZB;refine ⟨[],o,l,e,rfl,rfl,hg,?_⟩;unfold Zl at hq;split at hq
     ·rename_i x QL;split at hq
      ·rename_i t d0 hx;split at hq
       ·rename_i hfv;injection hq with hq;subst hq;rw [jk] at hfv;exact ⟨hfv.1,hfv.2,.inl ⟨x,t,d0,QL,hx,rfl⟩⟩
       ·cases hq
      ·cases hq
     ·rename_i c QL;split at hq
      ·rename_i g args hc ha;split at hq
       ·rename_i f' caps hgf;unfold Vb at hq;split at hq
        ·rename_i fn Jh hf;split at hq
         ·rename_i cd hb;split at hq
          ·rename_i hcond;split at hq
           ·rename_i d2 L hE;split at hq
            ·rename_i hfv;injection hq with hq;subst hq;rw [jk] at hfv;exact ⟨hfv.1,hfv.2,.inr ⟨c,g,f',caps,args,fn,cd,QL,hc,ha,hgf,hf,hb,hcond.1,hcond.2,L,ih hE⟩⟩
            ·cases hq
           ·cases hq
          ·cases hq
         ·cases hq
        ·cases hq
       ·cases hq
      ·cases hq
     ·cases hq
  ·rename_i hd hg;obtain ⟨l1,o',l2,e2,h1,h2,h3⟩:=qiS ih hp;exact ⟨o :: l1,o',l2,e2,by rw [h1];rfl,by rw [vP,hd,hg];exact h2,h3⟩
  ·cases hp
theorem q0R:∀ {n f nt n0:Nat} {c:Code} {e:qr} {H:qe} {d:D} {H':qe},evP X n f nt n0 c e H = some (d,H')→PanC X n f nt n0 c e H d H':=by
 intro n
 induction n with
 | zero=>intro f nt n0 c e H d H' h;simp [evP] at h
 | succ n ih =>
  intro f nt n0 c e H d H' h;rw [evP.eq_def] at h;rw [PanC.eq_def];cases c with
  | region id ops draw =>
   cases draw with
   | true=>cases h
   | false =>
    simp only at h ⊢;split at h
    ·rename_i e1 H1 _ zR;obtain ⟨l1,o,l2,e2,h1,h2,h3,h4,h5,h6⟩:=qiS ih h;exact ⟨e1,H1,l1,o,l2,e2,zR,h1,h2,h3,h4,h5,h6⟩
    ·cases h
  | seq a b =>
   simp only at h ⊢;split at h
   ·rename_i hc;exact .inr ⟨_,_,hc,ih h⟩
   ·cases h
   ·exact .inl (ih h)
  | cond c a b =>
   simp only at h ⊢;split at h
   ·rename_i t hc;exact ⟨t,hc,ih h⟩
   ·cases h
  | block id c=>exact ih h
  | scope c=>exact ih h
  | loop c =>
   simp only at h ⊢;split at h
   ·rename_i hc;exact .inr ⟨_,_,hc,ih h⟩
   ·cases h
   ·exact .inl (ih h)
  | skip=>cases h
  | label l=>cases h
  | exit id=>cases h
  | ret=>cases h
  | _=>cases h
noncomputable def Yt (X:Cx) (f:Nat) (args:List D) (H:qe):Option (D × qe) :=
 match X.P.funcs[f]? with
 | some fn=>match fn.body with
  | some c=>if X.bad f = false then jC X f fn.ntmps H.length c (kf 0 args) H else none
  | none=>none
 | none=>none
theorem qwv {args:List D} (h:Yt X f args H = some (d,H')):qta X f args H d H':=by
 unfold Yt at h;split at h
 ·rename_i fn hf;split at h
  ·rename_i c hb;split at h
   ·rename_i hbad;obtain ⟨n,hn⟩:=codeP_some.1 h;exact ⟨n,fn,c,hf,hb,hbad,q0R hn⟩
   ·cases h
  ·cases h
 ·cases h
theorem qm7 {P:Nat→List D→Option D} {bw:Bool} (ops:Array Oper):∀ (l:List Oper) (e:qr) (H:qe),QR X P nt bw (Ql ops.toList).toArray (Ql l) e H = QR X P nt bw ops l e H
 | [],e,H=>rfl
 | o :: l,e,H=>by
  simp only [Ql,QR,qd0,qj6,qm7 ops l]
theorem q0Q:∀ (n:Nat) (c:Code) (e:qr) (H:qe),evP X n f nt n0 (vh c) e H = evP X n f nt n0 c e H:=by
 intro n
 induction n with
 | zero=>intro c e H;simp [evP]
 | succ n ih =>
  intro c e H;cases c with
  | region id ops draw =>
   have h1:(Ql ops.toList).toArray.toList = Ql ops.toList:=(by simp);cases draw with
   | true=>simp only [vh,evP]
   | false =>
    simp only [vh,evP];cases enter X f n0 id e H with
    | none=>rfl
    | some q=>simp only [qm7,Yq]
  | seq a b=>simp only [vh,evP,ih,qhs]
  | cond x a b =>
   simp only [vh,evP];split
   ·rename_i t _;cases t <;> simp only [ih,if_true,if_false,QE]
   ·rfl
  | block id c=>simp only [vh,evP,ih]
  | loop c =>
   have:=ih (.loop c);simp only [vh] at this;simp only [vh,evP,ih,this,qhs]
  | scope c=>simp only [vh,evP,ih]
  | _=>rfl
theorem qss {c:Code}:jC X f nt n0 (vh c) e H = jC X f nt n0 c e H:=by
 unfold jC;congr 1;funext n;exact q0Q n c e H
theorem qw0 {fn:Func} {args:List D} {H':qe} (hf:X.P.funcs[f]? = some fn) (hb:fn.body.isSome = true) (hbad:X.bad f = false∧X.con f args [] = none) (ha:args.all idFree = true) (hd:idFree d = true∧vFree d = true)
  (h:jC X f fn.ntmps 0 (vh (Zi fn)) (kf 0 args) [] = some (d,H')):Q0 X f args = some d:=by
 rw [qss] at h;unfold Q0 Vb;cases jy:fn.body with
 | none=>rw [jy] at hb;cases hb
 | some c =>
  have hc:Zi fn = c:=by simp only [Zi,jy,Va]
  rw [hc] at h;simp only [hbad.2,hf,jy,if_pos (show X.bad f = false∧args.all idFree = true from ⟨hbad.1,ha⟩),h,hd.1,hd.2,Bool.and_self,if_true]
theorem qww {fn:Func} {args:List D} {r:D × qe} (hf:X.P.funcs[f]? = some fn) (hb:fn.body.isSome = true) (hbad:X.bad f = false)
  (h:jC X f fn.ntmps H.length (vh (Zi fn)) (kf 0 args) H = some r):Yt X f args H = some r:=by
 rw [qss] at h;unfold Yt;cases jy:fn.body with
 | none=>rw [jy] at hb;cases hb
 | some c =>
  have hc:Zi fn = c:=by simp only [Zi,jy,Va]
  rw [hc] at h;simp only [hf,jy,hbad,if_true];exact h
theorem qwx {args:List D} {r:D × qe} (Jh:X.con f args H = none) (h:Yt X f args H = some r):call X f args H = none:=by
 unfold Yt at h;split at h
 ·rename_i fn hf;split at h
  ·rename_i c hb;split at h
   ·rename_i hbad;rw [qhy Jh hf hb hbad,qhu h]
   ·cases h
  ·cases h
 ·cases h
end
end Go.Ev
namespace Go.Ev
open Go Go.Proofs
structure Ext (L:List Nat) (H T:qe):Prop where
 len:H.length≤T.length
 out:∀ i,i < H.length→i ∉ L→qf T i = qf H i
theorem Ext.refl (L:List Nat) (H:qe):Ext L H H:=⟨qE _,fun _ _ _=>rfl⟩
def NewL (L M:List Nat) (n:Nat):Prop:= ∀ i,i∈M→i∈L∨n≤i
theorem NewL.refl (L:List Nat) (n:Nat):NewL L L n:=fun _ h=>.inl h
theorem NewL.trans {L M K:List Nat} {n m:Nat} (h:NewL L M n) (h2:NewL M K m) (hn:n≤m):NewL L K n:=fun i hi=>by
 rcases h2 i hi with h' | h'
 ·exact h i h'
 ·exact .inr (zT hn h')
theorem Ext.trans {L M:List Nat} {H T K:qe} (h:Ext L H T) (h2:Ext M T K) (hm:NewL L M H.length):Ext L H K :=
 ⟨zT h.len h2.len,fun i hi hl=>by
  rw [h2.out i (jZ hi h.len) fun hc=>(hm i hc).elim hl fun vN=>absurd hi (Nat.not_lt.2 vN),h.out i hi hl]⟩
theorem Ext.mono {L M:List Nat} {H T:qe} (h:Ext L H T) (hm:∀ i,i∈L→i∈M):Ext M H T:=⟨h.len,fun i hi hn=>h.out i hi fun hc=>hn (hm i hc)⟩
theorem Ext.get {L:List Nat} {H T:qe} (h:Ext L H T) {i:Nat} {ds:List D} (hg:qf H i = some ds) (hi:i ∉ L):qf T i = some ds:=by
 rw [h.out i (qA hg) hi,hg]
theorem Ext.new (H:qe) (ds:List D):Ext [] H (qs H ds):=⟨by rw [zW];omega,fun i hi _=>vk hi⟩
theorem Ext.set (H:qe) (i:Nat) (ds:List D):Ext [i] H (qn H i ds):=⟨by rw [Qo];omega,fun j _ hn=>zN (by simpa using hn)⟩
theorem Ext.app (H L:qe):Ext [] H (H ++ L):=⟨by simp,fun i hi _=>qdL hi⟩
theorem Ext.lt {L:List Nat} {H T:qe} (h:Ext L H T) {i:Nat} (hi:i < H.length):i < T.length:=jZ hi h.len
theorem qdK {H:qe} {i:Nat} {ds:List D} (h:qf H i = some ds):qn H i ds = H:=by
 have hl:=qA h;unfold qn;apply List.ext_getElem?;intro j;rw [List.getElem?_set];by_cases hj:i = j
 ·subst hj;unfold qf at h;rw [zn hl] at h;simp only [Va] at h;rw [if_pos rfl,if_pos hl,zn hl,h]
 ·rw [if_neg hj]
def RowA (H:qe) (k:Nat) (v:D) (cs:List D) (L:List Nat):Prop :=
 (v = .vsl true [] 0∧cs = []∧L = [])∨∃ r n,v = .osl r cs.length 0 n k∧cs.length = n * k∧qf H r = some cs∧L = [r]
theorem RowA.nil (H:qe) (k:Nat):RowA H k (.vsl true [] 0) [] []:=.inl ⟨rfl,rfl,rfl⟩
theorem RowA.ext {H T:qe} {k:Nat} {v:D} {cs:List D} {L M:List Nat} (h:RowA H k v cs L) (he:Ext M H T) (hd:∀ i,i∈L→i ∉ M):RowA T k v cs L:=by
 rcases h with h | ⟨r,n,h1,h2,h3,rfl⟩
 ·exact .inl h
 ·exact .inr ⟨r,n,h1,h2,he.get h3 (hd r (by simp)),rfl⟩
theorem RowA.lt {H:qe} {k:Nat} {v:D} {cs:List D} {L:List Nat} (h:RowA H k v cs L) {i:Nat} (hi:i∈L):i < H.length:=by
 rcases h with ⟨_,_,rfl⟩ | ⟨r,n,h1,h2,h3,rfl⟩
 ·simp at hi
 ·rw [List.mem_singleton.1 hi];exact qA h3
theorem RowA.append {P:Program} {H:qe} {st xt e:TypeId} {k:Nat} {v x:D} {cs xs:List D} {L:List Nat} {m:Nat} (h:RowA H k v cs L) (hu:P.underlying st = some (.slice e)) (hk:qv P e = k)
  (Xd:qch P H e xt x = some (xs,m)) (hz:(V0 P e 0).isSome = true) (hm:m≠0) (hl:xs.length = m * k) (j7:0 < k) (hb:(cs.length+m) * bytesOf P e≤qD) (kQ:cs.length+m≤qD) :
  ∃ v' T L',qT P H st xt v x = some (v',T)∧RowA T k v' (cs ++ xs) L'∧Ext L H T∧NewL L L' H.length:=by
 obtain ⟨z,hz⟩:=Option.isSome_iff_exists.1 hz;rcases h with ⟨rfl,rfl,rfl⟩ | ⟨r,n,rfl,h2,h3,rfl⟩
 ·simp only [kp,Jo] at hb kQ;refine ⟨.osl H.length xs.length 0 m k,qs H xs,[H.length],?_,.inr ⟨H.length,m,?_,?_,?_,rfl⟩,Ext.new H xs,fun i hi=>.inr (Nat.le_of_eq (List.mem_singleton.1 hi).symm)⟩
  ·unfold qT;simp only [hu,hk,Xd,hz,if_neg hm,if_pos (show m * bytesOf P e≤qD∧m≤qD from ⟨hb,kQ⟩)]
  ·simp
  ·simpa using hl
  ·simp
 ·have hn:n+m≤cs.length+m:=by
   rw [h2];have:=Nat.le_mul_of_pos_right n j7;omega
  refine ⟨.osl r (cs.length+xs.length) 0 (n+m) k,qn H r (cs ++ xs),[r],?_,.inr ⟨r,n+m,?_,?_,?_,rfl⟩,Ext.set H r _,NewL.refl _ _⟩
  ·unfold qT;simp only [hu,hk,Xd,hz,h3];rw [if_pos ⟨trivial,trivial,h2.symm,zT (qaX _ hn) hb,zT hn kQ⟩]
  ·rw [zz]
  ·rw [zz,h2,hl,Jp]
  ·exact zG (qA h3)
theorem RowA.own {H:qe} {k:Nat} {v:D} {cs:List D} {L:List Nat} (h:RowA H k v cs L) (hc:cs≠[]):∃ r n,v = .osl r cs.length 0 n k∧cs.length = n * k∧qf H r = some cs∧L = [r]:=by
 rcases h with ⟨_,h2,_⟩ | h
 ·exact absurd h2 hc
 ·exact h
theorem RowA.of {H:qe} {k r n:Nat} {cs:List D} (h1:cs.length = n * k) (h2:qf H r = some cs):RowA H k (.osl r cs.length 0 n k) cs [r]:=.inr ⟨r,n,rfl,h1,h2,rfl⟩
theorem vt {X:Cx} {f:Nat} {H:qe} {fn:Func} {args:List D} {r:D × qe} (hf:X.P.funcs[f]? = some fn) (hb:fn.body.isSome = true) (hbad:X.bad f = false∧X.con f args H = none)
  (h:Run X f fn.ntmps H.length (qhF X (X.fzr f) fn.results.toList (· = r)) [] (zk X f fn.ntmps H.length (vh (Zi fn)) (kf 0 args) H)) (hg:(X.gr f && X.byRef f) = true:=by rfl):call X f args H = some r:=by
 obtain ⟨r',h1,rfl⟩:=Zh (· = r) hf hb hbad h hg;exact h1
theorem qx (a b:Int) (h:(-9223372036854775808≤a∧a < 9223372036854775808)∧a = b:=by omega):IntKind.i64.wrap a = b:=by rw [wrap_i64 h.1,h.2]
theorem qN (a b:Int) (h:(0≤a∧a < 18446744073709551616)∧a = b:=by omega):IntKind.u64.wrap a = b:=by rw [qca h.1,h.2]
theorem Yj (a b:Int) (h:(0≤a∧a < 4294967296)∧a = b:=by omega):IntKind.u32.wrap a = b:=by rw [qhR h.1,h.2]
theorem zu8 (a b:Int) (h:(0≤a∧a < 256)∧a = b:=by omega):IntKind.u8.wrap a = b:=by rw [qdx h.1,h.2]
theorem ql {α:Type} (e:α):∃ x,e = x:=⟨e,rfl⟩
theorem jD {H K:qe} {l:List D} (h:qs H l = K):Ext [] H K:=h ▸ Ext.new H _
theorem Qk {H K:qe} {q:Nat} {l:List D} (h:qn H q l = K):Ext [q] H K:=h ▸ Ext.set H q _
theorem kh {H K:qe} {l:List D} (h:qs H l = K):qf K H.length = some l:=by rw [← h,zA]
theorem Qx {H K:qe} {q:Nat} {l m:List D} (h:qn H q l = K) (g:qf H q = some m):qf K q = some l:=by rw [← h];exact zG (qA g)
theorem Z3 {l:List D} (h:l.all idFree = true):idFree.idFreeL l = true:=by rw [kY];exact h
theorem Xy {l:List D} (h:l.all idFree = true):(∀ x,x∈l→idFree x = true) = True:=eq_true (List.all_eq_true.1 h)
theorem zfb {l:List D} (h:idFree.idFreeL l = true):(∀ x,x∈l→idFree x = true) = True:=Xy (by rw [← kY];exact h)
theorem KR {l:List D} (h:l.all idFree = true) (n:Nat):(∀ x,x∈l→closed n x = true) = True:=eq_true fun x hx=>qhv n x (List.all_eq_true.1 h x hx)
theorem Xz {l:List D} (h:idFree.idFreeL l = true) (n:Nat):(∀ x,x∈l→closed n x = true) = True:=KR (by rw [← kY];exact h) n
theorem zsh {l:List D} (h:idFree.idFreeL l = true) (n:Nat):shift.shiftL n l = l:=qci n l h
theorem kr {a b:Int} (h:a≠b:=by omega):(a != b) = true:=by simp only [bne_iff_ne,ne_eq];exact h
theorem zbf {a b:Int} (h:a = b:=by omega):(a != b) = false:=by simp only [bne_eq_false_iff_eq];exact h
theorem zI {a b:Nat} (h:a < b):(a:Int) < (b:Int):=by omega
theorem zL {a b:Nat} (h:¬ a < b):¬ (a:Int) < (b:Int):=by omega
def leT (x y:List UInt8):Bool:=decide (x≤y)
def vF (l:List (List UInt8)):List (List UInt8):=l.mergeSort leT
theorem qlk (l:List (List UInt8)):(vF l).Perm l:=List.mergeSort_perm l leT
@[simp] theorem q33 (l:List (List UInt8)):(vF l).length = l.length:=(qlk l).length_eq
theorem sortL_mem {l:List (List UInt8)} {x:List UInt8}:x∈vF l↔x∈l:=(qlk l).mem_iff
end Go.Ev
namespace Go.Ev
open Go Go.Proofs Go.RowKit Go.Shelf Go.Sort
def qR (l:List (List UInt8)):List D:=l.map .str
def qcd:List D→Option (List (List UInt8))
 | []=>some []
 | .str s :: l=>(qcd l).map (s :: ·)
 | _=>none
theorem qkW:∀ l,qcd (qR l) = some l
 | []=>rfl
 | s :: l=>by simp only [qR,List.map_cons,qcd];rw [show List.map D.str l = qR l from rfl,qkW l];rfl
theorem qkK:∀ {ds l},qcd ds = some l→ds = qR l
 | [],l,h=>by simp only [qcd,qw] at h;subst h;rfl
 | d :: ds,l,h=>by
  cases d <;> simp only [qcd] at h <;> try cases h
  cases hs:qcd ds with
  | none=>rw [hs] at h;cases h
  | some r =>
   rw [hs] at h;simp only [jj,qw] at h;subst h;rw [qkK hs];rfl
def qfD:List D→qe→Option (D × qe)
 | [.vsl true [] 0],H=>some (.tup [],H)
 | [.osl i st 0 len 1],H=>match qf H i with
  | some ds=>match qcd ds with
   | some l=>if l.length = st∧len = st∧st < 4611686018427387904 then some (.tup [],qn H i (qR (vF l))) else none
   | none=>none
  | none=>none
 | _,_=>none
section
variable {X:Cx} {ρ:Ren} {ok:Nat→Prop} {w:World} {ι:qV} {H H':qe} {r:D} {args:List D} {vs:List Value}
theorem qvF {s:List UInt8} {v:Value} (h:Rep ok w ι H (.str s) v):v = encStr s:=by
 cases h;rfl
theorem q15 (L:SlLaysN.n54 X.P ρ) (KC:∀ args w,(callFunc (ρ.f 54) args).run X.P w = .ok (.enter (ρ.f 54) args) w) (h:qfD args H = some (r,H')) (hs:Sim X ok w ι H) (hv:RepL ok w ι H args vs) :
  Goes X.P (callFunc (ρ.f 54) vs.toArray) w (CallPost X ok w ι H r H'):=by
 unfold qfD at h;split at h
 ·injection h with h;injection h with h1 h2;subst h1;subst h2;obtain ⟨v,us,rfl,a1,a2⟩:=Jw hv;cases qcl a2;cases a1;refine qhr hs (KC _ _) ((AnyG.slices_Sort_string_none L none 0 w).mono ?_);rintro e w' ⟨rfl,rfl⟩;exact ⟨_,rfl,.tup rfl (fun j d hj=>by simp at hj),Below.refl _ _⟩
 ·rename_i H0 i st len;split at h
  ·rename_i ds hd;split at h
   ·rename_i l hl;split at h
    ·rename_i hc;obtain ⟨c1,rfl,c3⟩:=hc;injection h with h;injection h with h1 h2;subst h1;subst h2;have KD:=qkK hl;subst KD;have jp:(qR l).length = len:=(by simp [qR,c1]);obtain ⟨v,us,rfl,a1,a2⟩:=Jw hv;cases qcl a2;cases a1 with
     | @osl _ _ _ _ _ _ _ c a hi hh zo =>
      obtain ⟨b,s,q1,rfl,q3⟩:=(hh _ hd).2 jp;obtain ⟨b',arr,e2,fr,k1,k2,k3,k4,k5,k6,k7,k8⟩:=hs.blk i _ hd;rw [q1] at k1;injection k1 with k1;injection k1 with k1 k1';subst k1;subst k1';have hb:b < w.heap.size:=(Array.getElem?_eq_some_iff.1 k3).1
      have Zx:∀ j,j < l.length→arr.getD j undef = encStr (l.getD j []):=by
       intro j hj;have:(qR l)[j]? = some (.str (l.getD j [])):=(by simp [qR,hj]);exact qvF (k8 j _ this)
      have hH:Holds encStr w b 0 l.toArray:=by
       intro j hj;have QM:j < l.length:=(by simpa using hj);have JQ:j < arr.size:=(by omega);refine ⟨?_,?_⟩
       ·rw [Jo,Ye k3,Z2 JQ];have:=Zx j QM;rw [jl,Z2 JQ] at this;simp only [Va] at this;rw [this];simp [QM]
       ·rw [Jo,qhc k3];have:=qha k5 j JQ;simp only [Bool.and_eq_false_iff,decide_eq_false_iff_not];omega
      unfold Goes;rw [KC];simp only;have XO:(vF l).length = l.length:=(by simp [vF]);have hcall:=AnyG.slices_Sort_string L b 0 c l w hH hb (by omega);rw [c1] at hcall;refine hcall.mono ?_;rintro e w' ⟨rfl,n,os,rfl⟩;refine ⟨_,rfl,?_⟩;have hg:=grownBy_sorted (w:=w) (g:=b) (n:=n) (os:=os) (vF l).toArray;have jM:=heap_sorted (n:=n) (os:=os) (vF l).toArray k3;have jn:(putCells encStr 0 (vF l).toArray arr).size = arr.size:=by simp [putCells]
      have qf:∀ j,j < arr.size→(putCells encStr 0 (vF l).toArray arr).getD j undef = if j < l.length then encStr ((vF l).getD j []) else arr.getD j undef:=by
       intro j hj;rw [jl,Z2 (by omega),jl,Z2 hj];simp only [putCells,Array.getElem_mapIdx,Va];by_cases zO:j < l.length
       ·have:j < (vF l).length:=(by omega);simp [zO,XO]
       ·simp [zO,XO]
      obtain ⟨ι',s1,s2,s3⟩:=qeQ (i:=i) (ds:=qR l) (ds':=qR (vF l)) (b:=b) (sz:=arr.size) (b':=b) (arr':=putCells encStr 0 (vF l).toArray arr) (w':=grow (putRow encStr (Sort.ahead w n) b 0 (vF l).toArray) os) hs hd q1 ⟨hg.os,hg.tape,hg.output⟩ hg.size
       (fun c hc qQ=>hg.block c hc (fun e=>qQ (by injection e))) jM (.inl ⟨rfl,jn⟩) (by simp [qR,XO]) (by rw [jn];simpa [qR,XO,c1] using k4) (by rw [jn];exact k5)
       (fun j hj=>by
        rw [jn] at hj;rw [qf j hj];by_cases zO:j < l.length
        ·rw [if_pos zO];rfl
        ·rw [if_neg zO];exact k6 j hj)
       (fun d hd=>by
        simp only [qR,ZM] at hd;obtain ⟨s,_,rfl⟩:=hd;rfl)
       (fun j d hj=>by
        have zO:j < l.length:=by
         have:=(List.getElem?_eq_some_iff.1 hj).1;simpa [qR,XO] using this
        rw [qf j (by omega),if_pos zO]
        have:(qR (vF l))[j]? = some (.str ((vF l).getD j [])):=by
         unfold qR;rw [VX,j8,zn (show j < (vF l).length by omega)];rfl
        rw [this] at hj;injection hj with hj;subst hj;exact .str _)
      refine ⟨ι',ok,s1,.tup rfl (fun j d hj=>by simp at hj),s2,fun k ds hk jY=>?_⟩;have:=qA jY;rw [Qo] at this;omega
    ·cases h
   ·cases h
  ·cases h
 ·cases h
end
end Go.Ev
namespace Go.Ev
open Go Go.Proofs Go.RowKit Go.Shelf
def qdI:List D→Option D
 | [x,.int .u8 c]=>(slb x).map fun a=>.int .i64 (ve (UInt8.ofNat c.toNat) (Lib.bytesOf a) 0)
 | _=>none
section
variable {ok:Nat→Prop} {w:World} {ι:qV} {H:qe} {args:List D} {vs:List Value}
theorem qzy {P : Program} {f : Nat} {fn : Func} (hf : P.funcs[f]? = some fn) (hn : fn.body = none) (hng : (fn.name == "runtime.NumGoroutine") = false)
  (h1:Extern.findNext fn = none) (h2:Extern.find fn = some Extern.BytealgIndexByte.indexByte) {d:D}
  (h:qdI args = some d) (hv:RepL ok w ι H args vs):∃ v,(callFunc f vs.toArray).run P w = .ok (.value v) w∧Rep ok w ι H d v∧idFree d = true:=by
 unfold qdI at h;split at h
 ·rename_i x c;cases hx:slb x with
  | none=>simp [hx] at h
  | some a =>
   simp only [hx,jj,qw] at h;subst h;obtain ⟨u,us,rfl,hu,jI⟩:=Jw hv;obtain ⟨v2,us2,rfl,h3,h4⟩:=Jw jI;cases qcl h4;cases h3;refine ⟨.int .i64 (ve (UInt8.ofNat c.toNat) (Lib.bytesOf a) 0),?_,.int _ _,rfl⟩;rw [run_callFunc_extern hf hng (by rw [hn];rfl) h1 h2,← qq8];have hs:=Lib.run_indexByteString (P:=P) ⟨(Lib.bytesOf a).toArray⟩ c w;have hl:=qum (P:=P) hx hu
   have key:(Extern.BytealgIndexByte.indexByte #[u,.int .u8 c]).run P w = .ok (.int .i64 (Lib.indexByte (Lib.bytesOf a) c.toNat.toUInt8)) w:=by
    change Sem.run P (do
     let b ← Extern.Bytes.bytesOf u
     let c ← Extern.Bytes.asByte (.int .u8 c)
     match (List.range b.size).find? fun i=>b[i]! == c with
     | some i=>pure (goInt i)
     | none=>pure (goInt (-1))) w = _
    change Sem.run P (do
     let b ← Extern.Bytes.bytesOf (.string ⟨(Lib.bytesOf a).toArray⟩)
     let c ← Extern.Bytes.asByte (.int .u8 c)
     match (List.range b.size).find? fun i=>b[i]! == c with
     | some i=>pure (goInt i)
     | none=>pure (goInt (-1))) w = _ at hs
    have hstr:(Extern.Bytes.bytesOf (.string ⟨(Lib.bytesOf a).toArray⟩)).run P w = .ok ⟨(Lib.bytesOf a).toArray⟩ w:=rfl;simp only [Sem.run_bind,hl,hstr,Result.andThen] at hs ⊢;exact hs
   rw [show ([u,Value.int .u8 c]:List Value).toArray = #[u,.int .u8 c] from rfl,key];rfl
 ·cases h
end
theorem qun (s:List UInt8):slb (.vsl false (qd s) s.length) = some (s.map fun b=>(b.toNat:Int)):=by
 simp only [slb,qd,List.length_map,if_true];exact q25 s
theorem qzx (nl:Bool) (l:List UInt8) (h:nl = true→l = []) (c:Nat):qdI [.vsl nl (qd l) l.length,.int .u8 c] = some (.int .i64 (ve (UInt8.ofNat c) l 0)):=by
 have hb:Lib.bytesOf (l.map fun b=>(b.toNat:Int)) = l:=by simp [Lib.bytesOf,List.map_map,Function.comp_def]
 cases nl with
 | false =>
  simp only [qdI,qun,jj,hb,Int.toNat_natCast]
 | true =>
  obtain rfl:=h rfl;simp [qdI,slb,qd,Lib.bytesOf]
end Go.Ev
