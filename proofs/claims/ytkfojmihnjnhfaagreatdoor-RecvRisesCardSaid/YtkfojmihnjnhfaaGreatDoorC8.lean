import Derived.Test.YtkfojmihnjnhfaaGreatDoorC7
import Derived.Handed
import Derived.LaidMore
namespace Go.Ev.S
open Go Go.Proofs Go.Ev
theorem qgF {α:Type} [BEq α] [LawfulBEq α]:∀ {a b:List α},a.Nodup→(∀ x∈a,x∈b)→a.length≤b.length
 | [],b,_,_=>jg _
 | x :: a,b,hn,hs=>by
  rw [List.nodup_cons] at hn;have hx:x∈b:=hs x (kA ..);have ih:=qgF (b:=b.erase x) hn.2 (fun y hy=>(List.mem_erase_of_ne (fun h=>hn.1 (by rw [← h];exact hy))).2 (hs y (vu _ hy)));rw [List.length_erase_of_mem hx] at ih;have:0 < b.length:=List.length_pos_of_mem hx;simp only [qH];omega
theorem qky:∀ {l:List Mk},zB l = true→(l.map (·.id)).Nodup
 | [],_=>List.nodup_nil
 | a :: l,h=>by
  rw [rises_cons] at h;rw [XK,List.nodup_cons];refine ⟨fun hm=>?_,qky h.2⟩;obtain ⟨x,hx,he⟩:=List.mem_map.1 hm;exact qog (h.1 x hx) he.symm
structure Behind (m t:List Mk):Prop where
 right:jE m = true
 ok:Jv m
 seq:∀ x∈m,1≤x.seq∧x.seq≤(zJ t x.id).seq
theorem q04 (t:List Mk):Behind [] t:=⟨rfl,fun x hx=>(by cases hx),fun x hx=>(by cases hx)⟩
theorem qmG {t:List Mk} {id:ID} (h:1≤(zJ t id).seq):zJ t id∈t∧(zJ t id).id = id∧zO t id = true:=by
 rw [qcj,qfU] at *;cases hf:Qh t id with
 | none=>rw [hf] at h;simp at h
 | some x=>exact ⟨(qck hf).1,(qck hf).2,rfl⟩
theorem qya {t:List Mk} (hr:zB t = true) {x:Mk} (hx:x∈t):zJ t x.id = x:=by
 rw [qcj,qys hr hx];rfl
theorem qin {t:List Mk} (ho:Jv t) (id:ID):0≤(zJ t id).seq:=by
 rw [qcj];cases hf:Qh t id with
 | none=>simp
 | some x=>exact (ho x (qck hf).1).1.1
theorem q06 {m t:List Mk} (h:Behind m t) (ht:Jv t) (id:ID):(zJ m id).seq≤(zJ t id).seq:=by
 cases hf:Qh m id with
 | none=>rw [qcj m,hf];exact qin ht id
 | some x =>
  have:=(h.seq x (qck hf).1).2;rw [qcj m,hf];rw [(qck hf).2] at this;exact this
theorem qhF (t:List Mk) (id:ID):Q3 t id = if jE t then (if !zO t id && decide (4≤t.length) then 15 else 0) else 1:=qlF t ⟨id,0,0,0⟩
theorem q05 {m t:List Mk} (h:Behind m t) {id:ID} (hm:Q3 t id = 0):Q3 m id = 0:=by
 rw [qhF] at hm ⊢;rw [if_pos h.right];by_cases hr:jE t = true
 case neg=>rw [if_neg hr] at hm;simp at hm
 rw [if_pos hr] at hm;cases hh:zO m id with
 | true=>simp
 | false =>
  by_cases h4:4≤m.length
  case neg=>simp [h4]
  exfalso
  have hn:(id :: m.map (·.id)).Nodup:=by
   rw [List.nodup_cons];refine ⟨fun hx=>?_,qky (qd4 h.right)⟩;obtain ⟨x,hx,he⟩:=List.mem_map.1 hx
   have:Qh m id = none:=by
    rw [qfU] at hh;cases hf:Qh m id with
    | none=>rfl
    | some y=>rw [hf] at hh;cases hh
   exact fnd_none.1 this x hx he
  have hsub:∀ i∈m.map (·.id),i∈t.map (·.id):=fun i hi=>by
   obtain ⟨x,hx,rfl⟩:=List.mem_map.1 hi;have h1:=h.seq x hx;have h2:=qmG (t:=t) (id:=x.id) (by omega);exact List.mem_map.2 ⟨_,h2.1,h2.2.1⟩
  have jq:=XU hr;cases hht:zO t id with
  | true =>
   have JJ:id∈t.map (·.id):=by
    rw [qfU] at hht;cases hf:Qh t id with
    | none=>rw [hf] at hht;cases hht
    | some y=>exact List.mem_map.2 ⟨y,(qck hf).1,(qck hf).2⟩
   have:=qgF (b:=t.map (·.id)) hn (fun i hi=>by
    rcases List.mem_cons.1 hi with rfl | hi
    ·exact JJ
    ·exact hsub i hi)
   simp only [qH,List.length_map] at this;omega
  | false =>
   have:=qgF (b:=t.map (·.id)) (List.nodup_cons.1 hn).2 hsub;simp only [List.length_map] at this;rw [hht] at hm;simp at hm;omega
theorem q03 {m t:List Mk} (h:Behind m t) (ht:Jv t) {x:It} (hx:x.Ok) (hc:QG t x = 0):QG m x = 0∧Behind (Z3 m x false) (Z3 t x false):=by
 have hm0:Q3 t x.id = 0∧Qt (zJ t x.id) x = true:=by
  unfold QG at hc;by_cases h0:Q3 t x.id = 0
  ·refine ⟨h0,?_⟩;rw [if_neg (by simpa using h0)] at hc;cases hg:Qt (zJ t x.id) x with
   | true=>rfl
   | false=>rw [hg] at hc;simp at hc
  ·rw [if_pos h0] at hc;exact absurd hc h0
 have hle:=q06 h ht x.id;have JG:=qin h.ok x.id;have hpt:=qin ht x.id;have hmm:=q05 h hm0.1
 have hgo:Qt (zJ m x.id) x = true∧(zJ t x.id).seq≤KO x∧1≤KO x:=by
  have hg:=hm0.2;unfold Qt at hg ⊢;unfold KO;cases hgp:x.gap with
  | true =>
   simp only [hgp,if_true,Bool.not_eq_true',Bool.or_eq_false_iff,decide_eq_false_iff_not] at hg ⊢;omega
  | false =>
   simp only [hgp,Bool.not_eq_true',decide_eq_false_iff_not,if_false,vC] at hg ⊢;omega
 have hrt:jE t = true:=by
  have:=hm0.1;rw [qhF] at this;by_cases hr:jE t = true
  ·exact hr
  ·rw [if_neg hr] at this;simp at this
 have ZF:QG m x = 0:=by
  unfold QG;rw [if_neg (by simpa using hmm),if_pos hgo.1]
 refine ⟨ZF,?_⟩;have hidm:(VZ (zJ m x.id) x false).id = x.id:=by rw [qjD,qeb]
 have hidt:(VZ (zJ t x.id) x false).id = x.id:=by rw [qjD,qeb]
 have Kq:=qd4 h.right;refine ⟨?_,?_,?_⟩
 ·unfold jE Z3;rw [qrx Kq,Bool.and_true,decide_eq_true_eq,qso Kq,hidm];have h4:=XU h.right;rw [qhF,if_pos h.right] at hmm;split
  ·exact h4
  ·rename_i hh;have hf:zO m x.id = false:=(by simpa using hh);rw [hf] at hmm;simp at hmm;omega
 ·rw [qeN false h.ok hx ZF];exact qdz h.ok hx false
 ·intro y hy;unfold Z3 at hy ⊢;rw [qyd (qd4 hrt),hidt];rcases qsk Kq y hy with rfl | hy
  ·rw [hidm,if_pos rfl,qgH,qgH];exact ⟨hgo.2.2,Int.le_refl _⟩
  ·have h1:=h.seq y hy;refine ⟨h1.1,?_⟩;by_cases he:x.id = y.id
   ·rw [if_pos he,qgH];rw [← he] at h1;omega
   ·rw [if_neg he];exact h1.2
theorem qo5:∀ (l:List It) {m t t':List Mk},Behind m t→Jv t→(∀ x∈l,GotI x)→vt l t = some t'→∃ m',vt l m = some m'∧Behind m' t'∧Jv t'
 | [],m,t,t',h,ht,_,hf=>by
  rw [vt] at hf;cases hf;exact ⟨m,rfl,h,ht⟩
 | x :: l,m,t,t',h,ht,hl,hf=>by
  rw [vt] at hf;by_cases hc:QG t x = 0
  case neg=>rw [if_neg hc] at hf;cases hf
  rw [if_pos hc] at hf;have hx:=(hl x (kA ..)).ok;obtain ⟨h1,h2⟩:=q03 h ht hx hc
  have Ze:Jv (Z3 t x false):=by
   rw [qeN false ht hx hc];exact qdz ht hx false
  obtain ⟨m',h3,h4,h5⟩:=qo5 l h2 Ze (fun y hy=>hl y (vu _ hy)) hf;exact ⟨m',by rw [vt,if_pos h1];exact h3,h4,h5⟩
theorem qna:∀ (a b:List It) (m:List Mk),vt (a ++ b) m = match vt a m with
  | none=>none
  | some t=>vt b t
 | [],b,m=>by simp [vt]
 | x :: a,b,m=>by
  rw [vU,vt,vt];by_cases hc:QG m x = 0
  ·rw [if_pos hc,if_pos hc,qna a b]
  ·rw [if_neg hc,if_neg hc]
theorem q02 {m t e:List Mk} (h:Behind m t) (hle:vZ t e = true):Behind m e:=by
 refine ⟨h.right,h.ok,fun x hx=>?_⟩;have h1:=h.seq x hx;refine ⟨h1.1,?_⟩;obtain ⟨h2,h3,_⟩:=qmG (t:=t) (id:=x.id) (by omega);have h4:=List.all_eq_true.1 hle _ h2;rw [decide_eq_true_eq,h3] at h4;omega
def Ris (s:RSt):Prop:= ∃ m,vt s.its [] = some m∧Behind m s.mks.l
theorem qr1:Ris ⟨0,0,[],.none⟩:=⟨[],rfl,q04 _⟩
theorem qr0 {s:RSt} {n:Nat} (hI:RInv s n) (h:Ris s) (q:Rq) (hb:q.body.l.length≤65536):Ris (jt s q).2:=by
 rcases qiU s q hb with ⟨h1,_⟩ | ⟨h1,_⟩ | ⟨l,m,t,hg,hf,zT,jr,_,_,h1⟩
 ·rw [h1];exact h
 ·rw [h1];exact h
 ·rw [h1];obtain ⟨b,hb1,zy⟩:=h;obtain ⟨_,h3,_,_,_⟩:=qfV hb hg;obtain ⟨m',h4,h5,_⟩:=qo5 l zy hI.ok h3 hf;exact ⟨m',by simp only [qna,hb1,h4],q02 h5 zT⟩
theorem qrz {s:RSt} {n:Nat} (hI:RInv s n) (h:Ris s) (b:List UInt8):Ris (kH s b).2:=by
 unfold kH;by_cases hc:(vN b).2 = 0
 ·rw [if_neg (fun h=>h hc)];obtain ⟨p,x,y,body,hp,hq,_,hx,hy,hl⟩:=qdB hc;rw [hq];unfold vd Ku
  repeat' split
  all_goals first | exact h | exact qr0 hI h _ (by simpa using hl)
 ·rw [if_pos hc];exact h
theorem qm6 {s:RSt} {n:Nat} (hI:RInv s n) (b:List UInt8):(∃ l,(kH s b).2.its = s.its ++ l)∧s.ep≤(kH s b).2.ep∧vZ s.mks.l (kH s b).2.mks.l = true:=by
 have hrefl:vZ s.mks.l s.mks.l = true:=List.all_eq_true.2 fun x hx=>by
  rw [qya (qd4 hI.right) hx,decide_eq_true_eq];exact Int.le_refl _
 have h0:(∃ l,s.its = s.its ++ l)∧s.ep≤s.ep∧vZ s.mks.l s.mks.l = true:=⟨⟨[],by simp⟩,Int.le_refl _,hrefl⟩;unfold kH;by_cases hc:(vN b).2 = 0
 case neg =>
  rw [if_pos hc];exact h0
 rw [if_neg (fun h=>h hc)];obtain ⟨p,x,y,body,hp,hq,_,hx,hy,hl⟩:=qdB hc;rw [hq];unfold vd;split
 ·exact h0
 split
 ·split
  ·exact h0
  ·unfold Ku;split
   ·rename_i qh;exact ⟨h0.1,by simp only at qh ⊢;omega,hrefl⟩
   ·exact h0
 ·rcases qiU s ⟨p,x,y,.of body⟩ (by simpa using hl) with ⟨h1,_⟩ | ⟨h1,_⟩ | ⟨l,m,t,hg,hf,zT,jr,_,_,h1⟩
  ·rw [h1];exact h0
  ·rw [h1];exact h0
  ·rw [h1];exact ⟨⟨l,rfl⟩,Int.le_refl _,jr⟩
def DoI.Fit (d:DoI):Prop:=0≤d.byv∧d.byv < 256
theorem qmA {n:Nat} {cs:List D} (h:kp Tryz.prog (n+1) 3 cs):∃ a:I6,cs = Enc.cells a∧qhV a.v:=by
 obtain ⟨x,rfl,w⟩:=qfT un3 h;exact ⟨⟨x⟩,rfl,w⟩
theorem qxW {n:Nat} {cs:List D} (h:kp Tryz.prog (n+2+1) 36 cs):∃ d:DoI,cs = Enc.cells d∧DoI.Fit d:=by
 have h:=qxU (P:=Tryz.prog) (n:=n+2) (t:=36) Tryz.underlying36 h;simp only [qe9] at h;obtain ⟨a,b,rfl,-,ha,c,d,rfl,-,hc,e,f,rfl,-,he,g,k,rfl,-,hg,i,j,rfl,-,hi,l,m,rfl,-,hl,o,p,rfl,-,ho,rfl⟩:=h;obtain ⟨x1,rfl,w1⟩:=qfT un3 ha;obtain ⟨x2,rfl,w2⟩:=qfT un3 hc;obtain ⟨x3,rfl,w3⟩:=qfT un3 he;obtain ⟨s1,rfl,u1,u2⟩:=qih (α:=I6) qjt (fun l=>qmA) hg;obtain ⟨s2,rfl,u3,u4⟩:=qih (α:=I6) qjt (fun l=>qmA) hi;obtain ⟨y,rfl⟩:=qm8 un5 hl;obtain ⟨b,rfl,u5⟩:=qxV qpp un5 ho;have hy:=UInt8.toNat_lt y;exact ⟨⟨x1,x2,x3,s1,s2,y.toNat,b⟩,by simp [DoI.cells],by unfold DoI.Fit;simp only;omega⟩
theorem qzd (d:DoI) (hd:DoI.Fit d):∃ (kd ep nm:Int) (n1:Bool) (z1:List Int) (n2:Bool) (z2:List Int) (y:UInt8) (b:Sl UInt8),Enc.cells d = [.int .i64 kd,.int .i64 ep,.int .i64 nm,.vsl n1 (jb .i64 z1) z1.length,.vsl n2 (jb .i64 z2) z2.length,.int .u8 y.toNat,(.vsl b.nil (qd b.l) b.l.length)]∧(n1 = true→z1 = [])∧(n2 = true→z2 = []):=by
 refine ⟨d.kind,d.epoch,d.number,d.ln.nil,d.ln.l.map (·.v),d.ats.nil,d.ats.l.map (·.v),UInt8.ofNat d.byv.toNat,d.b,?_,fun h=>by rw [d.ln.h h];rfl,fun h=>by rw [d.ats.h h];rfl⟩;obtain ⟨h1,h2⟩:=hd;simp [DoI.cells,qyX];omega
theorem qzc [MaxL] (kd ep nm:Int) (n1:Bool) (z1:List Int) (n2:Bool) (z2:List Int) (y:Int) (b:Sl UInt8):call cx 10 [.agg [.int .i64 kd,.int .i64 ep,.int .i64 nm,.vsl n1 (jb .i64 z1) z1.length,.vsl n2 (jb .i64 z2) z2.length,.int .u8 y,(.vsl b.nil (qd b.l) b.l.length)]] [] =
  some (.bool (decide (z1.length≤60) && (decide (b.l.length≤300) && decide (z2.length≤4))),[]):=by
 refine qq Tryz.func10 rfl ⟨rfl,rfl⟩ ?_;by_cases a1:z1.length≤60
 ·have a1':(z1.length:Int)≤60:=by omega
  by_cases a2:b.l.length≤300
  ·have a2':(b.l.length:Int)≤300:=(by omega);by_cases a3:z2.length≤4
   ·have a3':(z2.length:Int)≤4:=(by omega);simp [Tryz.f10,a1,a1',a2,a2',a3,a3']
   ·have a3':¬ (z2.length:Int)≤4:=(by omega);simp [Tryz.f10,a1,a1',a2,a2',a3,a3']
  ·have a2':¬ (b.l.length:Int)≤300:=(by omega);simp [Tryz.f10,a1,a1',a2,a2']
 ·have a1':¬ (z1.length:Int)≤60:=by omega
  simp [Tryz.f10,a1,a1']
theorem qjS:∀ l:List It,Xm l l = true
 | []=>rfl
 | x :: l=>by
  show (qc7 x x && Xm l l) = true;rw [qjS l,Bool.and_true];unfold qc7 qfa;simp
theorem qxN {s s':RSt} {N:Nat} (hI:RInv s N) (qr:s.its≠[]) {b:List UInt8} {w:Sl UInt8} (h:kH s b = (w,s')):s'.its≠[]:=fun h0=>by
 obtain ⟨⟨l,hl⟩,_⟩:=qm6 hI b;rw [h] at hl;simp only at hl;rw [h0] at hl;exact qr (List.append_eq_nil_iff.1 hl.symm).1
def Sh2 (L:List It) (d:D) (T:qi):Prop:=(L = []∧d = .vsl true [] 0∧T = [])∨(L≠[]∧∃ n k,n = L.length * 39∧k = L.length∧d = .osl 2 n 0 k 39∧T = [some (qg L)])
structure NB where
 b:Bool
def qe8 [MaxL] (F id:Nat) (s:RSt) (P:qp→Prop) (e:qp) (H:qi):Prop:= ∃ (e':qp) (d:D) (T:qi) (nl:NB),(nl.b = true→s.its = [])∧enter cx F 0 id e H = some (e',some (s.A d) :: some (s.B nl.b) :: T)∧Sh2 s.its d T∧P e'
theorem qrq [MaxL] {s:RSt} {N:Nat} (hI:RInv s N) (hN:N≤10000) (nl:Bool) (qY:nl = true→s.its = []) (kd ep nm:Int) (n1:Bool) (z1:List Int) (h1:n1 = true→z1 = []) (Yc:z1.length≤60) (n2:Bool) (z2:List Int) (h2:n2 = true→z2 = []) (Yb:z2.length≤4) (y:UInt8) (b:Sl UInt8) (ZH:b.l.length≤300) (d:D) (T:qi) (zW:VS s.its d T) :
  ∃ (m w:Sl UInt8) (nl':Bool) (s':RSt) (d':D) (T':qi),m.l.length≤70000∧kH s m.l = (w,s')∧RInv s' (N+64)∧(nl' = true→s'.its = [])∧VS s'.its d' T' ∧
   call cx 11 [.agg [.int .i64 kd,.int .i64 ep,.int .i64 nm,.vsl n1 (jb .i64 z1) z1.length,.vsl n2 (jb .i64 z2) z2.length,.int .u8 y.toNat,(.vsl b.nil (qd b.l) b.l.length)],.optr 0 4 0] [some (s.B nl)] = some ((.vsl m.nil (qd m.l) m.l.length),[some (s.B nl)]) ∧
   call cx 12 [.optr 0 4 0,(.vsl m.nil (qd m.l) m.l.length)] (some (s.A d) :: T) = some ((.vsl w.nil (qd w.l) w.l.length),some (s'.A d') :: T') ∧
   call cx 13 [.optr 0 4 0,(.vsl m.nil (qd m.l) m.l.length)] [some (s.B nl)] = some ((.vsl w.nil (qd w.l) w.l.length),[some (s'.B nl')]):=by
 obtain ⟨q,c1,m,hm,rfl⟩:=qxM kd ep nm n1 z1 h1 Yc n2 z2 h2 Yb y b ZH s.ep s.la hI.ep s.mks hI.ok (by have:=hI.len;omega) (.vsl nl (qg s.its) s.its.length) (by simp) (by simp) rfl;obtain ⟨r,c2,d',T',kY,rfl⟩:=qxP hI (by omega) d T zW m (by omega);obtain ⟨r,c3,nl',JI,rfl⟩:=qze hI (by omega) nl qY m (by omega);have hI':=qxQ hI m.l;obtain ⟨w,s',he⟩:∃ w s',kH s m.l = (w,s'):=⟨_,_,rfl⟩;rw [he] at c2 c3 kY JI hI';exact ⟨m,w,nl',s',d',T',hm,he,hI',JI,kY,c1,c2,c3⟩
theorem quf {m t:List Mk} (h:Behind m t):vZ m t = true:=List.all_eq_true.2 fun x hx=>by
 rw [decide_eq_true_eq];exact (h.seq x hx).2
set_option maxHeartbeats 16000000 in
set_option maxRecDepth 10000 in
theorem qry [MaxL] (ds:Sl DoI) (Ym:∀ d∈ds.l,DoI.Fit d):call cx 3 [(.vsl ds.nil (qg ds.l) ds.l.length)] [] = some (.bool true,[]):=by
 have f0:=qyz;have fn:=qtw;refine qq Tryz.func3 rfl ⟨rfl,rfl⟩ ?_;by_cases h25:ds.l.length≤25
 case neg =>
  have h25':(25:Int) < (ds.l.length:Int):=by omega
  simp [Tryz.f3,f0,h25']
 have h25':¬ (25:Int) < (ds.l.length:Int):=by omega
 simp [Tryz.f3,f0,h25',fn];refine Run.loopThen (fun (q:Nat × RSt) e H=>q.1≤ds.l.length∧RInv q.2 (q.1 * 64)∧Ris q.2∧qe8 3 11 q.2 (fun e'=>qf e' 0 = some (.vsl ds.nil (qg ds.l) ds.l.length)∧qf e' 3 = some (.bool true)∧qf e' 4 = some (.optr 0 4 0)∧qf e' 5 = some (.optr 1 4 0)∧qf e' 6 = some (.vsl (Sl.grown q.2.its).nil (qg (Sl.grown q.2.its).l) (Sl.grown q.2.its).l.length)∧qf e' 7 = some (.vsl q.2.mks.nil (qg q.2.mks.l) q.2.mks.l.length)∧qf e' 8 = some (.int .u64 q.2.ep)∧qf e' 9 = some (.int .i64 q.1)) e H) (fun q=>ds.l.length - q.1) (0,⟨0,0,[],.none⟩) ?_ ?_
 ·refine ⟨jg _,qr2,qr1,?_⟩;unfold qe8;simp [RSt.A,RSt.B,Sh2];exact ⟨_,_,_,⟨rfl,rfl,rfl⟩,⟨rfl,rfl⟩,rfl,rfl,rfl,rfl,rfl,rfl,rfl,rfl⟩
 rintro ⟨i,s⟩ e H ⟨hi,hI,hR,e',d,T,⟨nl⟩,qY,Qc,hS,p0,p3,p4,p5,p6,p7,p8,p9⟩;simp only at hi hI hR qY Qc hS p6 p7 p8 p9;obtain ⟨gs,hgs⟩:∃ g,g = Sl.grown s.its:=⟨_,rfl⟩;have qbm:gs.l = s.its:=by rw [hgs];rfl
 rw [← hgs] at p6;have Zh:=hI.num;have hm0:=hI.len;by_cases qh:i < ds.l.length
 case neg =>
  have qk:¬ (i:Int) < (ds.l.length:Int):=by omega
  obtain ⟨m,hf,hb⟩:=hR;simp [-qek,Qc,p0,p3,p6,p7,p9,qk];obtain ⟨nn,hnn⟩:∃ nn,nn = s.its.length:=⟨_,rfl⟩;refine Run.loopThen (fun (q:Nat × Sl Mk) e H=>q.1≤nn∧q.2.l.length≤q.1∧Jv q.2.l∧vt (s.its.drop q.1) q.2.l = some m∧qf e 3 = some (.bool true)∧qf e 6 = some (.vsl gs.nil (qg s.its) nn)∧qf e 7 = some (.vsl s.mks.nil (qg s.mks.l) s.mks.l.length)∧qf e 12 = some (.vsl q.2.nil (qg q.2.l) q.2.l.length)∧qf e 13 = some (.int .i64 q.1)) (fun q=>nn - q.1) (0,.none) ?_ ?_
  ·refine ⟨jg _,jg _,fun x hx=>(by cases hx),hf,?_⟩;simp [qbm,hnn]
  rintro ⟨j,E⟩ e H ⟨hj,ZK,hEo,hfj,k3,k6,k7,k12,k13⟩;simp only at hj ZK hEo hfj k12 k13;by_cases hlj:j < nn
  ·have hlj':(j:Int) < (nn:Int):=(by omega);have hlL:j < s.its.length:=(by omega);have Z9:IntKind.i64.wrap ((j:Int)+1) = ((j+1:Nat):Int):=(by rw [wrap_i64] <;> omega);have hgn:gs.nil = false:=Sl.nn (i:=j) (by rw [qbm];exact hlL);have jZ:List.drop (j * 39) (qg s.its) = Enc.cells s.its[j] ++ qg (s.its.drop (j+1)):=It.ea hlL;have JN:39≤39+(s.its.length - (j+1)) * 39:=(by omega);have Yd:=(hI.its _ (vk hlL)).ok;have qw:=qgW E (by omega) s.its[j] false;rw [zo hlL,vt] at hfj;generalize s.its[j] = x at *;by_cases hc:QG E.l x = 0
   case neg=>rw [if_neg hc] at hfj;cases hfj
   rw [if_pos hc] at hfj;have jq:=qeN false hEo Yd hc;have hto:=qdz hEo Yd false;have Zi:=qeO E.l x false;rw [← qj3,hc,← jq] at qw;rw [← jq] at hto;unfold kQ at qw;rw [if_pos rfl] at qw;simp [-It.ea,k3,k6,k7,k12,k13,hlj',Z9,hgn,jZ,JN,qw];exact ⟨j+1,by omega,by omega,.of (Z3 E.l x false),by rw [Sl.of_l];omega,hto,hfj,⟨rfl,rfl,rfl⟩,by omega⟩
  ·have hlj':¬ (j:Int) < (nn:Int):=(by omega);rw [zZ (by omega),vt] at hfj;have hEm:E.l = m:=qaz hfj;have f1:=qfi E s.mks (by omega) (by omega);rw [hEm,quf hb] at f1;have f2:=qff s.mks (by omega);rw [hI.right] at f2;rw [hEm] at k12;simp [k3,k6,k7,k12,k13,hlj',f1,f2]
 have qk:(i:Int) < (ds.l.length:Int):=by omega
 have hw5:IntKind.i64.wrap ((i:Int)+1) = ((i+1:Nat):Int):=by rw [wrap_i64] <;> omega
 obtain ⟨kd,ep,nm,n1,z1,n2,z2,yy,bb,hc,q1,q2⟩:=qzd ds.l[i] (Ym _ (vk qh));have qQ:ds.nil = false:=Sl.nn qh;have hli:=qzc kd ep nm n1 z1 n2 z2 yy.toNat bb;cases hL:(decide (z1.length≤60) && (decide (bb.l.length≤300) && decide (z2.length≤4))) with
 | false =>
  rw [hL] at hli;simp [-qek,Qc,p0,p3,p4,p5,p6,p7,p8,p9,qh,qk,qQ,hc,hli]
 | true =>
  rw [hL] at hli;simp only [qR,decide_eq_true_eq] at hL;obtain ⟨g1,g2,g3⟩:=hL
  have hx:∃ (d1:D) (T1:qi),VS s.its d1 T1∧((d1 = .vsl true [] 0∧T1 = []∧d = .vsl true [] 0∧T = [])∨(s.its≠[]∧∃ n k,n = s.its.length * 39∧k = s.its.length∧d1 = .osl 1 n 0 k 39∧T1 = [some (qg s.its)]∧d = .osl 2 n 0 k 39∧T = [some (qg s.its)])):=by
   rcases hS with ⟨YM,rfl,rfl⟩ | ⟨qr,n0,k0,Zh,kv,rfl,rfl⟩
   ·exact ⟨_,_,.inl ⟨YM,rfl,rfl⟩,.inl ⟨rfl,rfl,rfl,rfl⟩⟩
   ·exact ⟨_,_,.inr ⟨qr,n0,k0,Zh,kv,rfl,rfl⟩,.inr ⟨qr,n0,k0,Zh,kv,rfl,rfl,rfl,rfl⟩⟩
  obtain ⟨d1,T1,hS1,hx⟩:=hx;obtain ⟨m,w,nl',s',d',T',hm,hh,hI',JI,kY,c1,c2,c3⟩:=qrq hI (by omega) nl qY kd ep nm n1 z1 q1 g1 n2 z2 q2 g3 yy bb g2 d1 T1 hS1;have h8:=hI'.len;have h9:=hI'.num;have hR':=qrz hI hR m.l;obtain ⟨⟨l,hl⟩,hle,hlm⟩:=qm6 hI m.l;rw [hh] at hR' hl hle hlm;simp only at hR' hl hle hlm;have e1:=qqw s' d' T' kY;have e3:=qqc s' (by omega) d' T' kY;have e4:=qqh s' (by omega) (fun x hx=>(hI'.its x hx).b.2) d' T' kY;have e5:=qfi s.mks s'.mks (by omega) (by omega);rw [hlm] at e5;obtain ⟨gv,hgv⟩:∃ g,g = Sl.grown s'.its:=⟨_,rfl⟩;have kg:gv.l = s'.its:=by rw [hgv];rfl
  have hgn:gv.nil = true→s.its = []:=fun h=>by
   have:=gv.h h;rw [kg,hl] at this;exact (List.append_eq_nil_iff.1 this).1
  have e6:=qra ⟨gv.nil,s.its,hgn⟩ gs (fun x hx=>(hI.its x hx).b.2) (fun x hx=>(hI.its x (qbm ▸ hx)).b.2) (by show s.its.length < _;omega);rw [qbm,qjS] at e6;have Yj:s.its.length≤s'.its.length:=by rw [hl];simp
  have hll':¬ (s'.its.length:Int) < (s.its.length:Int):=by omega
  have vE:¬ s'.ep < s.ep:=by omega
  have qw:List.take (s.its.length * 39) (qg s'.its) = qg s.its:=by rw [hl,qap,List.take_left' (by rw [It.el])]
  rw [← hgv] at e4;have hs3:=kY;obtain ⟨ep0,la0,its0,mk0⟩:=s;obtain ⟨ep',la',its',mk'⟩:=s';simp only [RSt.A,RSt.B] at c1 c2 c3 e1 e3 e4 e5 e6 Qc kY kg qbm hll' vE qw p7 p8 Yj;rw [kg] at e4;rcases hx with ⟨rfl,rfl,rfl,rfl⟩ | ⟨qr,n0,k0,Zh,kv,rfl,rfl,rfl,rfl⟩
  ·rcases kY with ⟨Kp,rfl,rfl⟩ | ⟨hne1,n3,k3,Vh,kf,rfl,rfl⟩
   ·simp [-qek,Qc,p0,p3,p4,p5,p6,p7,p8,p9,qh,qk,qQ,hc,hli,c1,c2,c3,e1,e3,e4,e5,e6,hw5,Yj,hll',vE,qw,qbm];refine ⟨i+1,by omega,by omega,⟨ep',la',its',mk'⟩,hI'.more (by omega),hR',?_⟩;unfold qe8;simp only at hgv;subst hgv;simp [RSt.A,RSt.B,Sh2];exact ⟨_,_,_,⟨nl'⟩,JI,⟨rfl,rfl,rfl,rfl⟩,.inl ⟨Kp,rfl,rfl⟩,rfl,rfl,rfl,rfl,rfl,rfl,rfl,rfl⟩
   ·simp [-qek,Qc,p0,p3,p4,p5,p6,p7,p8,p9,qh,qk,qQ,hc,hli,c1,c2,c3,e1,e3,e4,e5,e6,hw5,Yj,hll',vE,qw,qbm];refine ⟨i+1,by omega,by omega,⟨ep',la',its',mk'⟩,hI'.more (by omega),hR',?_⟩;unfold qe8;simp only at hgv;subst hgv;simp [RSt.A,RSt.B,Sh2];exact ⟨_,_,_,⟨nl'⟩,JI,⟨rfl,rfl,rfl,rfl⟩,.inr ⟨hne1,by rw [Vh,kf],rfl⟩,rfl,rfl,rfl,rfl,rfl,rfl,rfl,rfl⟩
  ·rcases kY with ⟨Kp,rfl,rfl⟩ | ⟨hne1,n3,k3,Vh,kf,rfl,rfl⟩
   ·exact absurd Kp (qxN hI qr hh)
   ·simp [-qek,Qc,p0,p3,p4,p5,p6,p7,p8,p9,qh,qk,qQ,hc,hli,c1,c2,c3,e1,e3,e4,e5,e6,hw5,Yj,hll',vE,qw,qbm];refine ⟨i+1,by omega,by omega,⟨ep',la',its',mk'⟩,hI'.more (by omega),hR',?_⟩;unfold qe8;simp only at hgv;subst hgv;simp [RSt.A,RSt.B,Sh2];exact ⟨_,_,_,⟨nl'⟩,JI,⟨rfl,rfl,rfl,rfl⟩,.inr ⟨hne1,by rw [Vh,kf],rfl⟩,rfl,rfl,rfl,rfl,rfl,rfl,rfl,rfl⟩
end Go.Ev.S
namespace Go.Ev
open Go Go.Proofs Go.ChangeShapes Go.WideShapes Go.ChangeAt Go.RowKit
theorem qxX {H:Type} {enc:TypeId × Value→H} {a:Assume} {C:Checked} {os:Os} {f:FuncId} {fn:Func} {s:ChangeSpec} {conds:List PathCond} {apart fresh handsOn again:Bool} {X:World→Array Value→Prop}
  (hX:∀ (w w':World) (args:Array Value),w.heap = w'.heap→X w args→X w' args)
  (own:ownKnob C.prog.godebug = none) (started:os.Started) (noInit:C.prog.inits.idxOf? f = none) (YY:C.prog.funcs[f]? = some fn)
  (witness:∃ (w:World) (tape:Tape) (i:Input),w.os = os∧(w.forCall tape i).Shaped C.prog∧i.vars = []∧Input.okWide C.prog (w.forCall tape i) .any w.heap.size f i ∧
   ((s.pre enc C.prog fn conds apart (w.forCall tape i).memory i.args∧X (w.forCall tape i).memory i.args)∧sizedMet enc C.prog fn (OpenSpec.ofChange s) apart (w.forCall tape i).memory i.args)∧a.holds C.prog (lone (Frame.enter C.prog f i.args .normal) [] (w.forCall tape i)))
  (contract:∀ (W:World) (base:Nat) (args:Array Value) (ds gs:List (DataW H)) (before:List MemPlace),
   (∀ (j:Nat) t v,fn.params[j]? = some t→args[j]? = some v→Value.okWide C.prog W .any base t v) →
   DataW.Whole enc C.prog fn.params.toList s.vars apart W args.toList ds gs before→X W args→W.ShapedOpen C.prog →
   Calls C.prog f args W fun e W'=>∃ v,e = .returned v∧s.post enc C.prog fn apart fresh handsOn again W args v W') :
  ReturnsInHanded a C os f .any (fun w args=>(s.pre enc C.prog fn conds apart w args∧X w args)∧sizedMet enc C.prog fn (OpenSpec.ofChange s) apart w args) (s.post enc C.prog fn apart fresh handsOn again):=by
 refine returnsInHanded_of_calls own started noInit witness ?_;intro w tape i _ zW _ hok hpre _;obtain ⟨_,_,_,fn',hfn',_,_,_,_,hval⟩:=hok;have e:fn' = fn:=qaz (hfn'.symm.trans YY);subst e;obtain ⟨⟨⟨ds,gs,before,hw,hc⟩,hx⟩,hz⟩:=hpre;have hw':=DataW.Whole.of_heap (w':=w.forCall tape i) (by rfl) hw;refine (contract (w.forCall tape i) w.heap.size i.args ds gs before hval hw' (hX _ _ _ (by rfl) hx) zW).mono fun e W' ⟨v,he,hp⟩=>?_;subst he;exact ChangeSpec.post_blind hp
end Go.Ev
