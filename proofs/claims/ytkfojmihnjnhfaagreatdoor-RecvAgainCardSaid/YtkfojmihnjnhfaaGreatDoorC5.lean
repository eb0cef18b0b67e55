import Derived.Test.YtkfojmihnjnhfaaGreatDoorC4
import Derived.Lib.ItoaMem
import Derived.Shelf.Strings.BuilderF
import Derived.Test.YtkfojmihnjnhfaaGreatDoorProg
import Derived.Laws.RangeString
namespace Go.Ev.S
open Go Go.Proofs Go.Ev
theorem z36:[.int .u8 0,.int .u8 0,.int .u8 0,.int .u8 0,.int .u8 0,.int .u8 0,.int .u8 0,.int .u8 0,.int .u8 0,.int .u8 0,.int .u8 0,.int .u8 0,.int .u8 0,.int .u8 0,.int .u8 0,.int .u8 0,.int .u64 0,.int .u8 0,.int .u8 0,.int .u8 0,.int .u8 0,.int .u8 0,.int .u8 0,.int .u8 0,.int .u8 0,.int .u8 0,.int .u8 0,.int .u8 0,.int .u8 0,.int .u8 0,.int .u8 0,.int .u8 0,.int .u8 0,.int .u64 0,.int .u64 0,.int .u64 0] = Enc.cells Cur.zero:=rfl
def jQ (p:Pr):List UInt8:=(p.name ++ [61]) ++ p.value
theorem qfu [MaxL] [TxtC] (p:Pr) (h1:p.name.length < 1000000) (h2:p.value.length < 1000000):call cx 138 [.agg (Enc.cells p)] [] = some (.str (jQ p),[]):=by
 refine qs Tryz.func138 rfl ⟨rfl,rfl⟩ ?_;have x1:p.name.length+1≤4611686018427387904:=by omega
 have x2:p.name.length+1+p.value.length≤4611686018427387904:=by omega
 have x3:p.name.length+(p.value.length+1)≤4611686018427387904:=by omega
 unfold jQ;simp [Tryz.f138,Pr.cells,x1,x2]
def QF:List (List UInt8)→Int→Int
 | [],v=>v
 | b :: l,v=>QF l (zt .u64 v (X3 b))
def bD (b:List UInt8):D:=.vsl false (qd b) b.length
theorem q06 {L:List (List UInt8)} {k:Nat} (h:k < L.length):List.drop k (L.map bD) = bD L[k] :: List.drop (k+1) (L.map bD):=by
 rw [zm (by simpa using h)];simp
set_option maxHeartbeats 1000000 in
theorem qoV [MaxL] [TxtC] (nl:Bool) (L:List (List UInt8)) (zb:nl = true→L = []) (hL:L.length < 1000000) (hb:∀ b∈L,b.length < 3000000):call cx 142 [.vsl nl (L.map bD) L.length] [] = some (.int .u64 (QF L 0),[]):=by
 refine qs Tryz.func142 rfl ⟨rfl,rfl⟩ ?_;obtain ⟨r,hr⟩:∃ r,QF L 0 = r:=⟨_,rfl⟩;rw [hr];simp [Tryz.f142];refine Run.loopThen (fun (q:Nat × Int) e H'=>q.1≤L.length∧QF (L.drop q.1) q.2 = r∧qf e 3 = some (.int .u64 q.2)∧qf e 6 = some (.vsl nl (L.map bD) L.length)∧qf e 7 = some (.int .i64 L.length)∧qf e 8 = some (.int .i64 (q.1:Nat))∧H' = []) (fun q=>L.length - q.1) (0,0) ?_ ?_
 ·simp [hr]
 rintro ⟨k,v⟩ e H' ⟨hk,hR,k3,k6,k7,k8,rfl⟩;simp only at hk hR k3 k8;by_cases qg:k < L.length
 ·have qk:(k:Int) < (L.length:Int):=by omega
  have hw:IntKind.i64.wrap ((k:Int)+1) = ((k+1:Nat):Int):=by rw [wrap_i64] <;> omega
  have hnn:nl = false:=by
   cases hq:nl with
   | false=>rfl
   | true=>rw [zb hq] at qg;simp at qg
  have qW:=q06 qg;rw [zm qg,QF] at hR;have hl:=qtP (.of L[k]) (by have:=hb _ (vw qg);show L[k].length < _;omega);replace hl:call cx 167 [.vsl false (qd L[k]) L[k].length] [] = some (.int .u64 (X3 L[k]),[]):=hl;generalize L[k] = b at *;generalize X3 b = z at *;simp [k3,k6,k7,k8,qk,hw,hnn,qW,bD,hl];exact ⟨k+1,by omega,by omega,_,hR,rfl,by omega⟩
 ·have qk:¬ (k:Int) < (L.length:Int):=by omega
  rw [zX (by omega),QF] at hR;subst hR;simp [k3,k6,k7,k8,qk]
def Qw (p:Pr):Prop:=p.name.length < 1000000∧p.value.length < 1000000
theorem qlh {p:Pr} (h:Qw p):(jQ p).length < 3000000:=by
 obtain ⟨h1,h2⟩:=h;unfold jQ;simp;omega
def JP (q:ID) (r:Rec):Cur:=⟨q,r.seq,r.boot,r.mono,r.real,QF (r.fields.l.map jQ) 0⟩
def Zd (l:List Pr):List D:=(l.map jQ).map bD
theorem qlg (l:List Pr):(Zd l).length = l.length:=by simp [Zd]
theorem qh6 (l:List Pr):(Zd l).all idFree = true:=by
 rw [Y7];intro x hx;obtain ⟨b,_,rfl⟩:=List.mem_map.1 hx;rfl
@[simp] theorem q3Y (l:List Pr):(Zd l).all idFree = true:=qh6 l
@[simp] theorem qsz (l:List Pr):idFree.idFreeL (Zd l) = true:=by rw [qcQ];exact qh6 l
@[simp] theorem qs0 (n:Nat) (l:List Pr):closed.closedL n (Zd l) = true:=Vw n _ (qsz l)
@[simp] theorem qsA (n:Nat) (l:List Pr):(Zd l).all (closed n) = true:=by rw [← qb5];exact qs0 n l
@[simp] theorem q3Z (l:List Pr):(∀ x,x∈Zd l→idFree x = true) = True:=eq_true (List.all_eq_true.1 (qh6 l))
@[simp] theorem q4a (n:Nat) (l:List Pr):(∀ x,x∈Zd l→closed n x = true) = True:=eq_true (List.all_eq_true.1 (qsA n l))
theorem qsy {l:List Pr} {k:Nat} (h:k < l.length):Zd (l.take k) ++ [bD (jQ l[k])] = Zd (l.take (k+1)):=by
 unfold Zd;rw [qbF h,List.map_append,List.map_append];rfl
set_option maxHeartbeats 4000000 in
theorem qz2 [MaxL] [TxtC] (q:ID) (r:Rec) (hn:r.fields.l.length < 1000000) (hb:∀ p∈r.fields.l,Qw p):call cx 100 [.agg (qd q.l),.agg (Enc.cells r)] [] = some (.agg (Enc.cells (JP q r)),[]):=by
 have hL:Enc.cells r = .int .u64 r.seq :: .int .u64 r.real :: .int .u64 r.mono :: (qd r.boot.l ++ [(.vsl r.fields.nil (qh r.fields.l) r.fields.l.length)]):=Rec.cells r;have hC:Enc.cells (JP q r) = qd q.l ++ ([.int .u64 r.seq] ++ (qd r.boot.l ++ [.int .u64 r.mono,.int .u64 r.real,.int .u64 (QF (r.fields.l.map jQ) 0)])):=rfl
 have QT:∀ b∈r.fields.l.map jQ,b.length < 3000000:=by
  intro b hm;obtain ⟨p,hp,rfl⟩:=List.mem_map.1 hm;exact qlh (hb p hp)
 have hxe:=fun nl h=>qoV nl (r.fields.l.map jQ) h (by simpa using hn) QT;rw [hL,hC];have hz:=z36;clear hL hC;generalize r.fields = F at *;refine qs Tryz.func100 rfl ⟨rfl,rfl⟩ ?_;simp [Tryz.f100,hz]
 refine Run.loopThen (fun (k:Nat) e H'=>k≤F.l.length∧qf e 2 = some (.optr 0 16 0)∧qf e 3 = some (.optr 1 20 0)∧qf e 4 = some (.optr 2 36 0)∧qf e 9 = some (.vsl F.nil (qh F.l) F.l.length)∧qf e 10 = some (.int .i64 F.l.length)∧qf e 11 = some (.int .i64 k) ∧
   ((k = 0∧qf e 5 = some (.vsl true [] 0)∧H' = [some (qd q.l),some (.int .u64 r.seq :: .int .u64 r.real :: .int .u64 r.mono :: (qd r.boot.l ++ [(.vsl F.nil (qh F.l) F.l.length)])),some (Enc.cells Cur.zero)]) ∨
   (∃ n1 v1,0 < k∧qf e 5 = some (.osl 4 k 0 k 1)∧H' = [some (qd q.l),some (.int .u64 r.seq :: .int .u64 r.real :: .int .u64 r.mono :: (qd r.boot.l ++ [(.vsl F.nil (qh F.l) F.l.length)])),some (Enc.cells Cur.zero),some [.str n1,.str v1],some (Zd (F.l.take k))]) ∨
   (∃ n1 v1 n2 v2,0 < k∧qf e 5 = some (.osl 4 k 0 k 1)∧H' = [some (qd q.l),some (.int .u64 r.seq :: .int .u64 r.real :: .int .u64 r.mono :: (qd r.boot.l ++ [(.vsl F.nil (qh F.l) F.l.length)])),some (Enc.cells Cur.zero),some [.str n1,.str v1],some (Zd (F.l.take k)),some [.str n2,.str v2]]))) (fun k=>F.l.length - k) 0 (by simp) ?_
 rintro k e H' ⟨hk,k2,k3,k4,k9,k10,k11,hH⟩;by_cases qg:k < F.l.length
 ·have qk:(k:Int) < (F.l.length:Int):=by omega
  have hw:IntKind.i64.wrap ((k:Int)+1) = ((k+1:Nat):Int):=by rw [wrap_i64] <;> omega
  have hpb:=hb F.l[k] (vw qg);have jK:=qsy qg;have vD:=qlg (F.l.take k);rw [js,Nat.min_eq_left (by omega)] at vD;have hpy:jQ F.l[k] = F.l[k].name ++ 61 :: F.l[k].value:=by simp [jQ]
  have hnn:=Sl.nn qg;obtain ⟨x1,x2⟩:=hpb;have x3:F.l[k].name.length+1≤4611686018427387904:=by omega
  have x4:F.l[k].name.length+1+F.l[k].value.length≤4611686018427387904:=by omega
  have x5:F.l[k].name.length+(F.l[k].value.length+1)≤4611686018427387904:=by omega
  have hbD:bD (jQ F.l[k]) = .vsl false (qd (F.l[k].name ++ 61 :: F.l[k].value)) (F.l[k].name.length+(F.l[k].value.length+1)):=by
   unfold bD;rw [hpy];simp
  rw [hbD] at jK;have zZ:24≤qI:=by decide
  have zB:1≤qI:=by decide
  have vJ:(k+1) * 24≤qI:=kr (show _≤30000000 by omega) (by decide);have hmx2:k+1≤qI:=kr (show _≤30000000 by omega) (by decide);rcases hH with ⟨rfl,k5,rfl⟩ | ⟨n1,v1,kj,k5,rfl⟩ | ⟨n1,v1,n2,v2,kj,k5,rfl⟩
  ·have Yq:List.take 2 (qh F.l) = [.str F.l[0].name,.str F.l[0].value]:=by
    rw [qyR qg,Pr.cells];rfl
   have hc1:2≤F.l.length * 2:=(by omega);simp [k2,k3,k4,k5,k9,k10,k11,qg,hnn,x3,x4,Yq,hc1,zZ,zB];exact ⟨1,by omega,by omega,by simp,by omega,rfl,jK⟩
  ·simp [k2,k3,k4,k5,k9,k10,k11,qk,qg,hw,hnn,x3,x4,Pr.cells,vJ,hmx2,vD,jK];exact ⟨k+1,by omega,by omega,by omega,by omega,rfl,rfl⟩
  ·simp [k2,k3,k4,k5,k9,k10,k11,qk,qg,hw,hnn,x3,x4,Pr.cells,vJ,hmx2,vD,jK];exact ⟨k+1,by omega,by omega,by omega,by omega,rfl,rfl⟩
 ·have qk:¬ (k:Int) < (F.l.length:Int):=by omega
  have hke:k = F.l.length:=by omega
  have qz:F.l.take k = F.l:=qx (by omega);rw [qz] at hH;have vD:=qlg F.l;have htp:List.take F.l.length (Zd F.l) = Zd F.l:=qx (by omega);rcases hH with ⟨rfl,k5,rfl⟩ | ⟨n1,v1,kj,k5,rfl⟩ | ⟨n1,v1,n2,v2,kj,k5,rfl⟩
  ·have jL:F.l = []:=List.length_eq_zero_iff.1 hke.symm;have hx:=hxe true (fun _=>by rw [jL];rfl);rw [jL] at hx;simp at hx;simp [k2,k3,k4,k5,k9,k10,k11,jL,hx,qD,zW,zC]
  ·have hx:=hxe false (fun h=>by cases h)
   replace hx:call cx 142 [.vsl false (Zd F.l) F.l.length] [] = some (.int .u64 (QF (F.l.map jQ) 0),[]):=by
    simpa [Zd] using hx
   subst hke;generalize QF (F.l.map jQ) 0 = z at *;simp [k2,k3,k4,k5,k9,k10,k11,qk,hx,vD,htp,qD,zW,zC]
  ·have hx:=hxe false (fun h=>by cases h)
   replace hx:call cx 142 [.vsl false (Zd F.l) F.l.length] [] = some (.int .u64 (QF (F.l.map jQ) 0),[]):=by
    simpa [Zd] using hx
   subst hke;generalize QF (F.l.map jQ) 0 = z at *;simp [k2,k3,k4,k5,k9,k10,k11,qk,hx,vD,htp,qD,zW,zC]
theorem qiT [MaxL] [TxtC] (s:Sl UInt8) (hn:s.l.length≤140737488355328) :
  call cx 85 [(.vsl s.nil (qd s.l) s.l.length)] [] = if s.nil then some (.vsl true [] 0,[]) else some (.osl 0 s.l.length 0 s.l.length 1,[some (qd s.l)]):=by
 obtain ⟨nil,l,qM⟩:=s;simp only at hn ⊢;cases nil with
 | true =>
  have jL:=qM rfl;subst jL;rw [if_pos rfl];refine qs Tryz.func85 rfl ⟨rfl,rfl⟩ ?_;simp [Tryz.f85]
 | false =>
  rw [if_neg (by decide)];refine qs Tryz.func85 rfl ⟨rfl,rfl⟩ ?_;simp [Tryz.f85,qI,hn]
theorem qud (v:Nat) {i:Nat} (hi:i≤7):IntKind.u8.wrap ((v:Int).fdiv (2 ^ min (8 * i) 64)) = ((UInt8.ofNat (v / 256 ^ i % 256)).toNat:Int):=by
 have e1:min (8 * i) 64 = 8 * i:=by omega
 have e2:((2:Int) ^ (8 * i)) = ((256 ^ i:Nat):Int):=by rw [Int.pow_mul];simp
 have e3:(v:Int).fdiv ((256 ^ i:Nat):Int) = ((v / 256 ^ i:Nat):Int):=by
  rw [Int.fdiv_eq_ediv_of_nonneg _ (Int.natCast_nonneg _)];exact (Int.natCast_ediv v (256 ^ i)).symm
 rw [e1,e2,e3,VU (JT _ (by decide))];simp only [IntKind.wrap,IntKind.signed,IntKind.bits];simp
def Buf (d:D) (H:qi) (l:List UInt8):Prop:=(d = .vsl true [] 0∧l = []∧H = [])∨(d = .osl 0 l.length 0 l.length 1∧H = [some (qd l)])
def Kj (l:List UInt8) (n:Int) (v:Nat):List UInt8:=if XU n then l ++ qJ n.toNat v else l
theorem q0p {d:D} {H:qi} {l:List UInt8} (h:Buf d H l):YG 0 H d = some (d,H):=by
 rcases h with ⟨rfl,rfl,rfl⟩ | ⟨rfl,rfl⟩ <;> simp
set_option maxHeartbeats 1000000 in
theorem qlW [MaxL] [TxtC] (s:Sl UInt8) (n:Int) (v:Nat) (hn:s.l.length≤140737488355000) :
  ∃ d H,Buf d H (Kj s.l n v)∧call cx 63 [(.vsl s.nil (qd s.l) s.l.length),.int .i64 n,.int .u64 v] [] = some (d,H):=by
 have hc:=qiT s (by omega);have hs:=qlU n
 have jC:∃ d H,Buf d H s.l∧call cx 85 [(.vsl s.nil (qd s.l) s.l.length)] [] = some (d,H)∧shift 0 d = d:=by
  cases qM:s.nil with
  | true =>
   rw [qM,if_pos rfl] at hc;exact ⟨_,_,.inl ⟨rfl,s.h qM,rfl⟩,hc,rfl⟩
  | false =>
   rw [qM,if_neg (by decide)] at hc;exact ⟨_,_,.inr ⟨rfl,rfl⟩,hc,rfl⟩
 obtain ⟨d0,H0,Kw,Yq,zY⟩:=jC;cases hz:XU n with
 | false =>
  rw [hz] at hs;have ZF:Kj s.l n v = s.l:=by simp [Kj,hz]
  rw [ZF];refine ⟨d0,H0,Kw,?_⟩;refine qs Tryz.func63 rfl ⟨rfl,rfl⟩ ?_;simp [Tryz.f63,Yq,hs,zY,q0p Kw,-YG]
 | true =>
  have hb:=qj5 hz;rw [hz] at hs;obtain ⟨k,rfl⟩:∃ k:Nat,n = k:=⟨n.toNat,by omega⟩;have ZF:Kj s.l k v = s.l ++ qJ k v:=by simp [Kj,hz]
  have hR:∃ d H,Buf d H (Kj s.l k v):=⟨_,_,.inr ⟨rfl,rfl⟩⟩;refine ⟨.osl 0 (Kj s.l k v).length 0 (Kj s.l k v).length 1,[some (qd (Kj s.l k v))],.inr ⟨rfl,rfl⟩,?_⟩;refine qs Tryz.func63 rfl ⟨rfl,rfl⟩ ?_;simp [Tryz.f63,Yq,hs,zY,-YG];refine Run.loopThen (fun (i:Nat) e H=>i≤k∧(∃ d,qf e 7 = some d∧Buf d H (s.l ++ qJ i v))∧qf e 2 = some (.int .u64 v)∧qf e 15 = some (.int .i64 k)∧qf e 16 = some (.int .i64 i)) (fun i=>k - i) 0 (by simp [qJ,Kw]) ?_;rintro i e H ⟨hi,⟨d,h7,Zx⟩,h2,h15,jb⟩;by_cases qg:i < k
  ·have qk:(i:Int) < (k:Int):=(by omega);have hw:IntKind.i64.wrap ((i:Int)+1) = ((i+1:Nat):Int):=(by rw [wrap_i64] <;> omega);have hw8:IntKind.i64.wrap (8 * (i:Int)) = 8 * (i:Int):=(by rw [wrap_i64];omega);have JH:¬ (8 * (i:Int) < 0):=(by omega);have htn:(8 * (i:Int)).toNat = 8 * i:=(by omega);have hv:=qud v (i:=i) (by omega);have hl:(s.l ++ qJ i v).length≤140737488355100:=(by simp;omega);have jK:s.l ++ qJ (i+1) v = (s.l ++ qJ i v) ++ [UInt8.ofNat (v / 256 ^ i % 256)]:=(by rw [qfI,vI]);generalize s.l ++ qJ i v = l at *;generalize UInt8.ofNat (v / 256 ^ i % 256) = c at *;have vJ:l.length+1≤140737488355328:=(by omega);rcases Zx with ⟨rfl,rfl,rfl⟩ | ⟨rfl,rfl⟩
   ·simp [h7,h2,h15,jb,qk,hw,hw8,JH,htn,IntKind.bits,hv,qI];exact ⟨i+1,by omega,by omega,.inr (by simp [jK,qd]),rfl⟩
   ·simp [h7,h2,h15,jb,qk,hw,hw8,JH,htn,IntKind.bits,hv,qI,vJ];exact ⟨i+1,by omega,by omega,.inr (by simp [jK,qd]),rfl⟩
  ·have qk:¬ (i:Int) < (k:Int):=(by omega);have hik:i = k:=(by omega);subst hik;rw [← ZF] at Zx;have zo:1≤(Kj s.l i v).length:=(by rw [ZF];simp;omega);rcases Zx with ⟨rfl,qM,rfl⟩ | ⟨rfl,rfl⟩
   ·rw [qM] at zo;simp at zo
   ·simp [h7,h2,h15,jb,qk]
set_option maxHeartbeats 1000000 in
theorem qqv [MaxL] [TxtC] (s:Sl Pr) (hn:s.l.length < 1000000) (hb:∀ p∈s.l,Qw p):call cx 163 [(.vsl s.nil (qh s.l) s.l.length)] [] = some (.int .u64 (QF (s.l.map jQ) 0),[]):=by
 refine qs Tryz.func163 rfl ⟨rfl,rfl⟩ ?_;obtain ⟨r,hr⟩:∃ r,QF (s.l.map jQ) 0 = r:=⟨_,rfl⟩;rw [hr];simp [Tryz.f163];refine Run.loopThen (fun (q:Nat × Int) e H'=>q.1≤s.l.length∧QF ((s.l.map jQ).drop q.1) q.2 = r∧qf e 0 = some (.vsl s.nil (qh s.l) s.l.length)∧qf e 3 = some (.int .u64 q.2)∧qf e 4 = some (.int .i64 (q.1:Nat))∧H' = []) (fun q=>s.l.length - q.1) (0,0) ?_ ?_
 ·simp [hr]
 rintro ⟨k,v⟩ e H' ⟨hk,hR,k0,k3,k4,rfl⟩;simp only at hk hR k3 k4;by_cases qg:k < s.l.length
 ·have qk:(k:Int) < (s.l.length:Int):=by omega
  have hw:IntKind.i64.wrap ((k:Int)+1) = ((k+1:Nat):Int):=by rw [wrap_i64] <;> omega
  rw [← List.map_drop,zm qg,Y6,QF,List.map_drop] at hR;have hpb:=hb s.l[k] (vw qg);have hp:=qfu s.l[k] hpb.1 hpb.2;have vD:=qlh hpb;have hl:=qrt (.of (jQ s.l[k])) (by show (jQ s.l[k]).length < _;omega);replace hl:call cx 194 [.vsl false (qd (jQ s.l[k])) (jQ s.l[k]).length] [] = some (.int .u64 (X3 (jQ s.l[k])),[]):=hl;generalize jQ s.l[k] = b at *;generalize X3 b = z at *;simp [k0,k3,k4,qk,qg,hw,Sl.nn qg,hp,hl];exact ⟨k+1,by omega,by omega,_,hR,rfl,by omega⟩
 ·have qk:¬ (k:Int) < (s.l.length:Int):=by omega
  rw [zX (by simp;omega),QF] at hR;subst hR;simp [k0,k3,k4,qk]
theorem qrW [MaxL] [TxtC] (q:ID) (r:Rec) (hn:r.fields.l.length < 1000000) (hb:∀ p∈r.fields.l,Qw p):call cx 135 [.agg (qd q.l),.agg (Enc.cells r)] [] = some (.agg (Enc.cells (JP q r)),[]):=by
 have hx:=qqv r.fields hn hb;have hL:Enc.cells r = [.int .u64 r.seq,.int .u64 r.real,.int .u64 r.mono] ++ (qd r.boot.l ++ [(.vsl r.fields.nil (qh r.fields.l) r.fields.l.length)]):=Rec.cells r;have hC:Enc.cells (JP q r) = qd q.l ++ ([.int .u64 r.seq] ++ (qd r.boot.l ++ [.int .u64 r.mono,.int .u64 r.real,.int .u64 (QF (r.fields.l.map jQ) 0)])):=rfl;rw [hL,hC];generalize QF (r.fields.l.map jQ) 0 = z at *;refine qs Tryz.func135 rfl ⟨rfl,rfl⟩ ?_;simp [Tryz.f135,hx,qD,zW,zC]
theorem qf9 [MaxL] [TxtC] (v:Nat) (hv:v < 18446744073709551616):call cx 87 [.int .u64 v,.int .i64 8] [] = some (.vsl false (qd (qJ 8 v)) 8,[]):=by
 refine qs Tryz.func87 rfl ⟨rfl,rfl⟩ ?_;simp [Tryz.f87];refine Run.loopThen (fun (i:Nat) e H=>i≤8∧(∃ d,qf e 5 = some d∧Buf d H (qJ i v))∧qf e 0 = some (.int .u64 (v / 256 ^ i:Nat))∧qf e 1 = some (.int .i64 8)∧qf e 6 = some (.int .i64 i)) (fun i=>8 - i) 0 ?_ ?_
 ·simp [qJ,Buf]
 rintro i e H ⟨hi,⟨d,h5,Zx⟩,h0,h1,h6⟩;by_cases qg:i < 8
 ·have qk:(i:Int) < 8:=by omega
  have hw:IntKind.i64.wrap ((i:Int)+1) = ((i+1:Nat):Int):=by rw [wrap_i64] <;> omega
  have jK:=qfI i v;have hl:(qJ i v).length≤8:=by simp;omega
  have hq:v / 256 ^ i < 18446744073709551616:=Nat.lt_of_le_of_lt (Nat.div_le_self _ _) hv;have hnx:v / 256 ^ (i+1) = v / 256 ^ i / 256:=by rw [XO,Nat.div_div_eq_div_mul]
  generalize v / 256 ^ i = x at *
  have ht1:(x:Int).tmod 256 = ((x % 256:Nat):Int):=by
   rw [Int.tmod_eq_emod_of_nonneg (Int.natCast_nonneg _)];rfl
  have ZA:(x:Int).tdiv 256 = ((x / 256:Nat):Int):=by
   rw [Int.tdiv_eq_ediv_of_nonneg (Int.natCast_nonneg _)];rfl
  have hx256:x % 256 < 256:=JT _ (by decide)
  have qO:IntKind.u8.wrap ((x % 256:Nat):Int) = ((UInt8.ofNat (x % 256)).toNat:Int):=by
   rw [VU hx256];clear hv hq;generalize x % 256 = y at *;rw [QG];omega
  have zw:IntKind.u64.wrap ((x / 256:Nat):Int) = ((x / 256:Nat):Int):=by
   have:x / 256 < 18446744073709551616:=Nat.lt_of_le_of_lt (Nat.div_le_self _ _) hq;clear hv hq;generalize x / 256 = y at *;rw [qU];omega
  generalize UInt8.ofNat (x % 256) = c at *;clear hv hq;generalize qJ i v = l at *;have vJ:l.length+1≤140737488355328:=kr (Nat.add_le_add_right hl 1) (by decide);rcases Zx with ⟨rfl,rfl,rfl⟩ | ⟨rfl,rfl⟩
  ·simp [h5,h0,h1,h6,qk,hw,ht1,ZA,qO,zw,qI,-Int.natCast_emod,-Int.natCast_ediv];clear vJ;exact ⟨i+1,by omega,by omega,.inr (by simp [jK,qd]),by rw [hnx],rfl⟩
  ·simp [h5,h0,h1,h6,qk,hw,ht1,ZA,qO,zw,qI,vJ,-Int.natCast_emod,-Int.natCast_ediv];clear vJ;exact ⟨i+1,by omega,by omega,.inr (by simp [jK,qd]),by rw [hnx],rfl⟩
 ·have qk:¬ (i:Int) < 8:=by omega
  have h8:i = 8:=by omega
  subst h8;have hl:(qJ 8 v).length = 8:=X5 8 v;generalize qJ 8 v = l at *;rcases Zx with ⟨rfl,rfl,rfl⟩ | ⟨rfl,rfl⟩
  ·simp at hl
  ·simp [h5,h0,h1,h6,hl,qx]
theorem qtZ [MaxL] [TxtC] (v:Nat) (h:v < 18446744073709551616):call cx 210 [.int .u64 v] [] = some (.int .i64 (Lib.bitLen v),[]):=by
 refine Yw ?_;rw [qob,qey,if_pos (by omega)];rfl
theorem qqb [MaxL] [TxtC] (v:Nat) (h:v < 100):call cx 189 [.int .i64 v] [] = some (.str (qE v),[]):=by
 refine Yw ?_;rw [qoc,qex,if_pos (by omega)];rfl
theorem q0r [MaxL] [TxtC] (b:Bool):call cx 219 [.bool b] [] = some (.int .i64 (if b then 1 else 0),[]):=by
 refine qs Tryz.func219 rfl ⟨rfl,rfl⟩ ?_;cases b <;> simp [Tryz.f219]
theorem quj [MaxL] [TxtC] (v:Nat) (h:v≤64):call cx 218 [.int .i64 v] [] = some (.int .i64 (Lib.l10 v),[]):=by
 refine qs Tryz.func218 rfl ⟨rfl,rfl⟩ ?_;have h1:IntKind.i64.wrap ((v:Int) * 78913) = ((v * 78913:Nat):Int):=by rw [wrap_i64] <;> omega
 simp [Tryz.f218,h1];unfold Lib.l10;have:(2:Int) ^ min 18 IntKind.i64.bits = 262144:=by decide
 rw [this,Int.fdiv_eq_ediv_of_nonneg _ (by omega)];omega
theorem qsr {t:Nat} (h:t≤19):∃ r,gd3.drop t = .int .u64 ((10 ^ t:Nat):Int) :: r:=by
 have ht:t = 0∨t = 1∨t = 2∨t = 3∨t = 4∨t = 5∨t = 6∨t = 7∨t = 8∨t = 9∨t = 10∨t = 11∨t = 12∨t = 13∨t = 14∨t = 15∨t = 16∨t = 17∨t = 18∨t = 19:=by omega
 rcases ht with rfl | rfl | rfl | rfl | rfl | rfl | rfl | rfl | rfl | rfl | rfl | rfl | rfl | rfl | rfl | rfl | rfl | rfl | rfl | rfl <;> exact ⟨_,rfl⟩
theorem qts [MaxL] [TxtC] (v:Nat) (h1:1≤v) (h:v < 18446744073709551616):call cx 190 [.int .u64 v] [] = some (.int .i64 (Lib.nDigits v),[]):=by
 obtain ⟨e1,e2⟩:=Lib.numDigits_eq v h1 h;have hb:Lib.bitLen v≤64:=Lib.bitLen_le v 64 (qB _) h;have g1:=qtZ v h;have g2:=quj (Lib.bitLen v) hb;generalize Lib.l10 (Lib.bitLen v) = t at *;obtain ⟨r,hr⟩:=qsr e2;generalize 10 ^ t = p at *;have g3:=q0r (decide ((p:Int)≤(v:Int)));have ht:(t:Int) < 20:=by omega
 have hw:∀ k:Int,0≤k→k≤1→IntKind.i64.wrap ((t:Int)+k) = (t:Int)+k:=fun k _ _=>by rw [wrap_i64];omega
 have hw0:IntKind.i64.wrap (t:Int) = t:=by rw [wrap_i64];omega
 refine qs Tryz.func190 rfl ⟨rfl,rfl⟩ ?_;by_cases hc:p≤v
 ·rw [if_pos hc] at e1;rw [decide_eq_true (by omega)] at g3;simp [Tryz.f190,g1,g2,g3,hr,ht,hc,hw];omega
 ·rw [if_neg hc] at e1;rw [decide_eq_false (by omega)] at g3;simp [Tryz.f190,g1,g2,g3,hr,ht,hc,hw0];omega
end Go.Ev.S
namespace Go.Ev.S
open Go Go.Proofs Go.Ev Go.Lib
theorem Xy (k:IntKind) (n:Int):Q2 (.int k n) = some (.int k n):=rfl
theorem qqr {l:List UInt8} {i:Nat} (x:UInt8) (h:i < l.length):qH (qd l) i [.int .u8 (x.toNat:Int)] = qd (l.set i x):=by
 rw [qH,List.set_eq_take_append_cons_drop,if_pos h];simp [qd,List.map_take,List.map_drop]
theorem qqs {d:Array UInt8} {tl:List UInt8} {i:Nat} (x:UInt8) (h:i < d.size):(d.toList ++ tl).set i x = (d.setIfInBounds i x).toList ++ tl:=by
 rw [List.set_append_left _ _ (by simpa using h)];simp
def smL:List UInt8:=smalls.data.toList
theorem V3 {k:Nat} (h:k < 200):smL[k]? = some (sm k):=by
 have hl:smL.length = 200:=by decide +kernel
 unfold sm;rw [jV];have:smL[k]? = some (smL[k]'(by omega)):=zi (by omega);rw [this];show _ = some ((smL[k]?).getD 0);rw [this];rfl
theorem wk {nd j:Nat} (a:Int) (h:(nd:Int) - a = (j:Int)) (hj:j≤24):IntKind.i64.wrap ((nd:Int) - a) = (j:Int):=by
 rw [h,wrap_i64];omega
structure Fb8 (v p q x6 x7 y8 y9 y10 y11 t8 t9 t10 t11 z8 z9 z10 z11:Nat):Prop where
 a1:(v:Int).tmod 100000000 = (p:Int)
 a2:(v:Int).tdiv 100000000 = (q:Int)
 a3:(p:Int).tdiv 10000 = (x6:Int)
 a4:(p:Int).tmod 10000 = (x7:Int)
 a5:(x7:Int).tdiv 100 = (y8:Int)
 a6:(x7:Int).tmod 100 = (y9:Int)
 a7:(x6:Int).tdiv 100 = (y10:Int)
 a8:(x6:Int).tmod 100 = (y11:Int)
 w1:IntKind.u32.wrap (p:Int) = (p:Int)
 w2:IntKind.u64.wrap (q:Int) = (q:Int)
 w3:IntKind.u32.wrap (x6:Int) = (x6:Int)
 v8:IntKind.u32.wrap (y8:Int) = (y8:Int)
 v10:IntKind.u32.wrap (y10:Int) = (y10:Int)
 u8:IntKind.u32.wrap ((y8:Int) * 2) = (t8:Int)
 u9:IntKind.u32.wrap ((y9:Int) * 2) = (t9:Int)
 u10:IntKind.u32.wrap ((y10:Int) * 2) = (t10:Int)
 u11:IntKind.u32.wrap ((y11:Int) * 2) = (t11:Int)
 w8:IntKind.u32.wrap ((t8:Int)+1) = (z8:Int)
 w9:IntKind.u32.wrap ((t9:Int)+1) = (z9:Int)
 w10:IntKind.u32.wrap ((t10:Int)+1) = (z10:Int)
 w11:IntKind.u32.wrap ((t11:Int)+1) = (z11:Int)
 s1:smL[z9]? = some (sm (v % 100 * 2+1))
 s2:smL[t9]? = some (sm (v % 100 * 2))
 s3:smL[z8]? = some (sm (v / 100 % 100 * 2+1))
 s4:smL[t8]? = some (sm (v / 100 % 100 * 2))
 s5:smL[z11]? = some (sm (v / 100 / 100 % 100 * 2+1))
 s6:smL[t11]? = some (sm (v / 100 / 100 % 100 * 2))
 s7:smL[z10]? = some (sm (v / 100 / 100 / 100 % 100 * 2+1))
 s8:smL[t10]? = some (sm (v / 100 / 100 / 100 % 100 * 2))
 fq:v / 100 / 100 / 100 / 100 = q
theorem dv (a b c:Nat) (h:c = a / b):(a:Int).tdiv (b:Int) = (c:Int):=by rw [h];exact (Int.ofNat_tdiv a b).symm
theorem md (a b c:Nat) (h:c = a % b):(a:Int).tmod (b:Int) = (c:Int):=by rw [h];exact (Int.ofNat_tmod a b).symm
theorem Qx {a:Int} {c:Nat} (h:a = (c:Int)) (hc:c < 4294967296):IntKind.u32.wrap a = (c:Int):=by rw [h,KJ];omega
theorem fb8 (v:Nat) (hv:v < 18446744073709551616):∃ p q x6 x7 y8 y9 y10 y11 t8 t9 t10 t11 z8 z9 z10 z11,Fb8 v p q x6 x7 y8 y9 y10 y11 t8 t9 t10 t11 z8 z9 z10 z11:=by
 have w2:IntKind.u64.wrap ((v / 100000000:Nat):Int) = ((v / 100000000:Nat):Int):=by rw [qU];omega
 clear hv;obtain ⟨p,hp⟩:∃ p,p = v % 100000000:=⟨_,rfl⟩;have f9:v % 100 = p % 10000 % 100:=by omega
 have f8:v / 100 % 100 = p % 10000 / 100:=by omega
 have f11:v / 100 / 100 % 100 = p / 10000 % 100:=by omega
 have f10:v / 100 / 100 / 100 % 100 = p / 10000 / 100:=by omega
 have fq:v / 100 / 100 / 100 / 100 = v / 100000000:=by omega
 have bp:p < 100000000:=by omega
 refine ⟨p,v / 100000000,p / 10000,p % 10000,p % 10000 / 100,p % 10000 % 100,p / 10000 / 100,p / 10000 % 100,p % 10000 / 100 * 2,p % 10000 % 100 * 2,p / 10000 / 100 * 2,p / 10000 % 100 * 2,p % 10000 / 100 * 2+1,p % 10000 % 100 * 2+1,p / 10000 / 100 * 2+1,p / 10000 % 100 * 2+1,?_⟩;have b6:p / 10000 < 10000:=by omega
 have b7:p % 10000 < 10000:=by omega
 have b8:p % 10000 / 100 < 100:=by omega
 have b9:p % 10000 % 100 < 100:=by omega
 have b10:p / 10000 / 100 < 100:=by omega
 have b11:p / 10000 % 100 < 100:=by omega
 constructor
 case a1=>exact md v 100000000 p hp
 case a2=>exact dv v 100000000 _ rfl
 case a3=>exact dv p 10000 _ rfl
 case a4=>exact md p 10000 _ rfl
 case a5=>exact dv _ 100 _ rfl
 case a6=>exact md _ 100 _ rfl
 case a7=>exact dv _ 100 _ rfl
 case a8=>exact md _ 100 _ rfl
 case w1=>exact Qx rfl (by omega)
 case w2=>exact w2
 case w3=>exact Qx rfl (by omega)
 case v8=>exact Qx rfl (by omega)
 case v10=>exact Qx rfl (by omega)
 case u8=>exact Qx (by omega) (by omega)
 case u9=>exact Qx (by omega) (by omega)
 case u10=>exact Qx (by omega) (by omega)
 case u11=>exact Qx (by omega) (by omega)
 case w8=>exact Qx (by omega) (by omega)
 case w9=>exact Qx (by omega) (by omega)
 case w10=>exact Qx (by omega) (by omega)
 case w11=>exact Qx (by omega) (by omega)
 case s1=>rw [f9];exact V3 (by omega)
 case s2=>rw [f9];exact V3 (by omega)
 case s3=>rw [f8];exact V3 (by omega)
 case s4=>rw [f8];exact V3 (by omega)
 case s5=>rw [f11];exact V3 (by omega)
 case s6=>rw [f11];exact V3 (by omega)
 case s7=>rw [f10];exact V3 (by omega)
 case s8=>rw [f10];exact V3 (by omega)
 case fq=>exact fq
structure Fb4 (v q x7 y8 y9 t8 t9 z8 z9:Nat):Prop where
 a1:(v:Int).tmod 10000 = (x7:Int)
 a2:(v:Int).tdiv 10000 = (q:Int)
 a5:(x7:Int).tdiv 100 = (y8:Int)
 a6:(x7:Int).tmod 100 = (y9:Int)
 w2:IntKind.u32.wrap (q:Int) = (q:Int)
 v8:IntKind.u32.wrap (y8:Int) = (y8:Int)
 u8:IntKind.u32.wrap ((y8:Int) * 2) = (t8:Int)
 u9:IntKind.u32.wrap ((y9:Int) * 2) = (t9:Int)
 w8:IntKind.u32.wrap ((t8:Int)+1) = (z8:Int)
 w9:IntKind.u32.wrap ((t9:Int)+1) = (z9:Int)
 s1:smL[z9]? = some (sm (v % 100 * 2+1))
 s2:smL[t9]? = some (sm (v % 100 * 2))
 s3:smL[z8]? = some (sm (v / 100 % 100 * 2+1))
 s4:smL[t8]? = some (sm (v / 100 % 100 * 2))
 fq:v / 100 / 100 = q
theorem fb4 (v:Nat) (hv:v < 100000000):∃ q x7 y8 y9 t8 t9 z8 z9,Fb4 v q x7 y8 y9 t8 t9 z8 z9:=by
 have f9:v % 100 = v % 10000 % 100:=by omega
 have f8:v / 100 % 100 = v % 10000 / 100:=by omega
 have fq:v / 100 / 100 = v / 10000:=by omega
 refine ⟨v / 10000,v % 10000,v % 10000 / 100,v % 10000 % 100,v % 10000 / 100 * 2,v % 10000 % 100 * 2,v % 10000 / 100 * 2+1,v % 10000 % 100 * 2+1,?_⟩;have b8:v % 10000 / 100 < 100:=by omega
 have b9:v % 10000 % 100 < 100:=by omega
 constructor
 case a1=>exact md v 10000 _ rfl
 case a2=>exact dv v 10000 _ rfl
 case a5=>exact dv _ 100 _ rfl
 case a6=>exact md _ 100 _ rfl
 case w2=>exact Qx rfl (by omega)
 case v8=>exact Qx rfl (by omega)
 case u8=>exact Qx (by omega) (by omega)
 case u9=>exact Qx (by omega) (by omega)
 case w8=>exact Qx (by omega) (by omega)
 case w9=>exact Qx (by omega) (by omega)
 case s1=>rw [f9];exact V3 (by omega)
 case s2=>rw [f9];exact V3 (by omega)
 case s3=>rw [f8];exact V3 (by omega)
 case s4=>rw [f8];exact V3 (by omega)
 case fq=>exact fq
structure Fb2 (v q y9 t9 z9:Nat):Prop where
 a1:(v:Int).tmod 100 = (y9:Int)
 a2:(v:Int).tdiv 100 = (q:Int)
 w2:IntKind.u32.wrap (q:Int) = (q:Int)
 u9:IntKind.u32.wrap ((y9:Int) * 2) = (t9:Int)
 w9:IntKind.u32.wrap ((t9:Int)+1) = (z9:Int)
 s1:smL[z9]? = some (sm (v % 100 * 2+1))
 s2:smL[t9]? = some (sm (v % 100 * 2))
 fq:v / 100 = q
theorem fb2 (v:Nat) (hv:v < 100000000):∃ q y9 t9 z9,Fb2 v q y9 t9 z9:=by
 refine ⟨v / 100,v % 100,v % 100 * 2,v % 100 * 2+1,?_⟩;constructor
 case a1=>exact md v 100 _ rfl
 case a2=>exact dv v 100 _ rfl
 case w2=>exact Qx rfl (by omega)
 case u9=>exact Qx (by omega) (by omega)
 case w9=>exact Qx (by omega) (by omega)
 case s1=>exact V3 (by omega)
 case s2=>exact V3 (by omega)
 case fq=>rfl
theorem fb1 (v:Nat) (hv:v < 10):IntKind.u32.wrap (48+(v:Int)) = ((UInt8.ofNat (48+v)).toNat:Int)∧IntKind.u8.wrap ((UInt8.ofNat (48+v)).toNat:Int) = ((UInt8.ofNat (48+v)).toNat:Int):=by
 have h:(UInt8.ofNat (48+v)).toNat = 48+v:=VU (show 48+v < 256 by omega);rw [h,KJ (by omega),QG (by omega)];omega
theorem lt8 {n u nd v:Nat} {d:Array UInt8} (h:FmtInv n u nd v d) (h8:nd < 8):v < 100000000 :=
 jP h.small (kr (Y4 (by decide) (show nd≤7 by omega)) (by decide))
set_option maxHeartbeats 4000000 in
theorem qy3 [MaxL] [TxtC] (n u:Nat) (hn:n≤24) (hu:u < 10 ^ n) (hu64:u < 18446744073709551616) (tl:List UInt8) (jH:tl.length = 24 - n) (d:Array UInt8) (hd:d.size = n) (H:qi) (b:Nat) (hb:b < H.length)
  (jC:H.all (kR H.length) = true) (hg:H[b] = some (qd (d.toList ++ tl))) :
  ∃ v' dk,FmtInv n u 0 v' dk∧call cx 191 [.osl b 24 0 n 1,.int .u64 u] H = some (.tup [],H.set b (some (qd (dk.toList ++ tl)))):=by
 suffices hs:∃ r,call cx 191 [.osl b 24 0 n 1,.int .u64 u] H = some r∧∃ v' dk,FmtInv n u 0 v' dk∧r = (.tup [],H.set b (some (qd (dk.toList ++ tl)))) by
  obtain ⟨r,h1,v',dk,h2,rfl⟩:=hs;exact ⟨v',dk,h2,h1⟩
 have hset:H.set b (some (qd (d.toList ++ tl))) = H:=by rw [← hg,List.set_getElem_self]
 refine vH (fun r=>∃ v' dk,FmtInv n u 0 v' dk∧r = (D.tup [],H.set b (some (qd (dk.toList ++ tl))))) Tryz.func191 rfl ⟨rfl,rfl⟩ ?_;unfold Tryz.f191;generalize hS:Value.string _ = S;have hv:Q2 S = some (.str smL):=by rw [← hS];kernel_rfl
 clear hS;simp;refine Run.loopThen (fun (nd:Nat) e H'=>∃ v dk,FmtInv n u nd v dk∧H' = H.set b (some (qd (dk.toList ++ tl)))∧qf e 0 = some (.osl b 24 0 n 1)∧qf e 1 = some (.int .u64 (v:Nat))∧qf e 4 = some (.int .i64 nd)) (fun nd=>nd) n ?_ ?_
 ·exact ⟨u,d,by rw [← hd];exact FmtInv.start d u (by rw [hd];exact hu),hset.symm,by simp,by simp,by simp⟩
 rintro nd e H' ⟨v,dk,hi,rfl,h0,h1,h4⟩
 have hv64:v < 18446744073709551616:=by
  have:=hi.rest;have:=Nat.div_le_self u (10 ^ (n - nd));omega
 have hle:=hi.le;have zh:=hi.size;have zo:∀ (a:Array UInt8),a.size = n→(a.toList ++ tl).length = 24:=fun a ha=>by simp [ha,jH];omega
 have fin:∀ (a:Array UInt8) (v':Nat),FmtInv n u 0 v' a→∃ x y,((∀ z,z∈(H.set b (some (qd (a.toList ++ tl)))).take H.length→kR H.length z = true)∧D.tup [] = x∧(H.set b (some (qd (a.toList ++ tl)))).take H.length = y) ∧
   ∃ v' dk,FmtInv n u 0 v' dk∧x = D.tup []∧y = H.set b (some (qd (dk.toList ++ tl))):=fun a v' ha=>by
  refine ⟨_,_,⟨fun z hz=>?_,rfl,rfl⟩,v',a,ha,rfl,qx (by simp)⟩;have hz':=Jv hz;rcases qg2 hz' with h | rfl
  ·exact List.all_eq_true.1 jC z h
  ·simp [kR]
 have hnn:n+(24 - n) = 24:=by omega
 have sb:∀ (a:Array UInt8) (j:Nat) (x:UInt8),a.size = n→j < n→qH (qd (a.toList ++ tl)) j [.int .u8 (x.toNat:Int)] = qd ((a.setIfInBounds j x).toList ++ tl):=fun a j x ha hj=>by
  rw [qqr x (by simp [ha,jH];omega),qqs x (by omega)]
 by_cases h8:8≤nd
 ·obtain ⟨m,hm⟩:∃ m,nd = m+8:=⟨nd - 8,by omega⟩;have i1:=FmtInv.step2' (k:=m+6) (by rw [hm] at hi;exact hi);have i2:=FmtInv.step2' (k:=m+4) i1;have i3:=FmtInv.step2' (k:=m+2) i2;have i4:=FmtInv.step2' (k:=m) i3;obtain ⟨j1,hj1⟩:∃ y,y = m+7:=⟨_,rfl⟩;obtain ⟨j2,hj2⟩:∃ y,y = m+6:=⟨_,rfl⟩;obtain ⟨j3,hj3⟩:∃ y,y = m+5:=⟨_,rfl⟩;obtain ⟨j4,hj4⟩:∃ y,y = m+4:=⟨_,rfl⟩;obtain ⟨j5,hj5⟩:∃ y,y = m+3:=⟨_,rfl⟩;obtain ⟨j6,hj6⟩:∃ y,y = m+2:=⟨_,rfl⟩;obtain ⟨j7,hj7⟩:∃ y,y = m+1:=⟨_,rfl⟩;rw [show m+6+1 = j1 by omega,show m+4+1 = j3 by omega,show m+2+1 = j5 by omega,← hj2,← hj4,← hj6,← hj7] at i4;have e1:(nd:Int) - 1 = ((j1:Nat):Int):=by omega
  have e2:(nd:Int) - 2 = ((j2:Nat):Int):=by omega
  have e3:(nd:Int) - 3 = ((j3:Nat):Int):=by omega
  have e4:(nd:Int) - 4 = ((j4:Nat):Int):=by omega
  have e5:(nd:Int) - 5 = ((j5:Nat):Int):=by omega
  have e6:(nd:Int) - 6 = ((j6:Nat):Int):=by omega
  have e7:(nd:Int) - 7 = ((j7:Nat):Int):=by omega
  have e8:(nd:Int) - 8 = ((m:Nat):Int):=by omega
  have h8':(8:Int)≤(nd:Int):=by omega
  have zN:∀ j:Nat,j < nd→((j:Int) < (n:Int))∧j < n∧j < 24:=fun j hj=>by omega
  have l1:=zN j1 (by omega);have l2:=zN j2 (by omega);have l3:=zN j3 (by omega);have l4:=zN j4 (by omega);have l5:=zN j5 (by omega);have l6:=zN j6 (by omega);have l7:=zN j7 (by omega);have l8:=zN m (by omega);have hmn:m < nd:=by omega
  clear zN;have k1:=wk 1 e1 (ZV l1.2.2);have k2:=wk 2 e2 (ZV l2.2.2);have k3:=wk 3 e3 (ZV l3.2.2);have k4:=wk 4 e4 (ZV l4.2.2);have k5:=wk 5 e5 (ZV l5.2.2);have k6:=wk 6 e6 (ZV l6.2.2);have k7:=wk 7 e7 (ZV l7.2.2);have k8:=wk 8 e8 (ZV l8.2.2);clear e1 e2 e3 e4 e5 e6 e7 e8;obtain ⟨p,q,x6,x7,y8,y9,y10,y11,t8,t9,t10,t11,z8,z9,z10,z11,⟨a1,a2,a3,a4,a5,a6,a7,a8,w1,w2,w3,v8,v10,u8,u9,u10,u11,w8,w9,w10,w11,s1,s2,s3,s4,s5,s6,s7,s8,fq⟩⟩:=fb8 v hv64;rw [fq] at i4;clear i1 i2 i3 hi hv64 fq hu64 hu;generalize sm (v % 100 * 2+1) = c1 at *;generalize sm (v % 100 * 2) = c2 at *;generalize sm (v / 100 % 100 * 2+1) = c3 at *;generalize sm (v / 100 % 100 * 2) = c4 at *;generalize sm (v / 100 / 100 % 100 * 2+1) = c5 at *;generalize sm (v / 100 / 100 % 100 * 2) = c6 at *;generalize sm (v / 100 / 100 / 100 % 100 * 2+1) = c7 at *;generalize sm (v / 100 / 100 / 100 % 100 * 2) = c8 at *;simp [-Q2,Xy,h0,h1,h4,hv,a1,a2,a3,a4,a5,a6,a7,a8,w1,w2,w3,w8,w9,w10,w11,u8,u9,u10,u11,v8,v10,k1,k2,k3,k4,k5,k6,k7,k8,s1,s2,s3,s4,s5,s6,s7,s8,h8',hb,l1,l2,l3,l4,l5,l6,l7,l8,zh,jH,hnn,sb,Nat.succ_le_of_lt];exact ⟨m,hmn,q,_,i4,by simp,rfl,rfl⟩
 ·have h8':¬ (8:Int)≤(nd:Int):=by omega
  have q0:v < 100000000:=lt8 hi (by omega);have wv:IntKind.u32.wrap (v:Int) = (v:Int):=Qx rfl (by omega);clear hv64 hu64 hu;by_cases ZO:4≤nd
  ·obtain ⟨m,hm⟩:∃ m,nd = m+4:=⟨nd - 4,by omega⟩;have i1:=FmtInv.step2' (k:=m+2) (by rw [hm] at hi;exact hi);have i2:=FmtInv.step2' (k:=m) i1;obtain ⟨j1,hj1⟩:∃ y,y = m+3:=⟨_,rfl⟩;obtain ⟨j2,hj2⟩:∃ y,y = m+2:=⟨_,rfl⟩;obtain ⟨j3,hj3⟩:∃ y,y = m+1:=⟨_,rfl⟩;rw [show m+2+1 = j1 by omega,← hj2,← hj3] at i2;have g4:(4:Int)≤(nd:Int):=(by omega);have e1:(nd:Int) - 1 = (j1:Int):=(by omega);have e2:(nd:Int) - 2 = (j2:Int):=(by omega);have e3:(nd:Int) - 3 = (j3:Int):=(by omega);have e4:(nd:Int) - 4 = (m:Int):=(by omega);have zN:∀ j:Nat,j < nd→((j:Int) < (n:Int))∧j < n∧j < 24:=fun j hj=>by omega
   have l1:=zN j1 (by omega);have l2:=zN j2 (by omega);have l3:=zN j3 (by omega);have l4:=zN m (by omega);have VF:m < 4:=(by omega);have k1:=wk 1 e1 (ZV l1.2.2);have k2:=wk 2 e2 (ZV l2.2.2);have k3:=wk 3 e3 (ZV l3.2.2);have k4:=wk 4 e4 (ZV l4.2.2);clear zN e1 e2 e3 e4;obtain ⟨q,x7,y8,y9,t8,t9,z8,z9,⟨a1,a2,a5,a6,w2,v8,u8,u9,w8,w9,s1,s2,s3,s4,fq⟩⟩:=fb4 v q0;rw [fq] at i2;clear i1 hi fq;generalize sm (v % 100 * 2+1) = c1 at *;generalize sm (v % 100 * 2) = c2 at *;generalize sm (v / 100 % 100 * 2+1) = c3 at *;generalize sm (v / 100 % 100 * 2) = c4 at *;simp [-Array.toList_setIfInBounds,-Q2,Xy,h0,h1,h4,hv,h8',g4,wv,a1,a2,a5,a6,w2,v8,u8,u9,w8,w9,k1,k2,k3,k4,s1,s2,s3,s4,hb,l1,l2,l3,l4,zh,jH,hnn,sb,Nat.succ_le_of_lt];clear a1 a2 a5 a6 w2 v8 u8 u9 w8 w9 s1 s2 s3 s4 k1 k2 k3 k4 wv;obtain ⟨dk1,hdk1⟩:∃ a,a = (((dk.setIfInBounds j1 c1).setIfInBounds j2 c2).setIfInBounds j3 c3).setIfInBounds m c4:=⟨_,rfl⟩;rw [← hdk1] at i2 ⊢;clear hdk1;by_cases x2:2≤m
   ·obtain ⟨m2,zB⟩:∃ mm,m = mm+2:=⟨m - 2,by omega⟩;have i6:=FmtInv.step2' (k:=m2) (by rw [zB] at i2;exact i2);obtain ⟨p1,Kt⟩:∃ y,y = m2+1:=⟨_,rfl⟩;have g2:(2:Int)≤(m:Int):=(by omega);have e1:(m:Int) - 1 = (p1:Int):=(by omega);have e2:(m:Int) - 2 = (m2:Int):=(by omega);have hle2:=i2.le;have r1:(p1:Int) < (n:Int)∧p1 < n∧p1 < 24:=(by omega);have r2:(m2:Int) < (n:Int)∧m2 < n∧m2 < 24:=(by omega);have m2lt:m2 < 2:=(by omega);have q1:q < 100000000:=lt8 i2 (by omega);rw [← Kt] at i6;have j1':=wk 1 e1 (ZV r1.2.2);have j2':=wk 2 e2 (ZV r2.2.2);clear e1 e2;obtain ⟨v2,y9,t9,z9,⟨a1,a2,w2,u9,w9,s1,s2,fq⟩⟩:=fb2 q q1;rw [fq] at i6;generalize sm (q % 100 * 2+1) = c5 at *;generalize sm (q % 100 * 2) = c6 at *;simp [-Array.toList_setIfInBounds,-Q2,Xy,hv,g2,r1,r2,j1',j2',a1,a2,w2,u9,w9,s1,s2,hb,i2.size,jH,hnn,sb,Nat.succ_le_of_lt];clear a1 a2 w2 u9 w9 s1 s2 j1' j2' fq;obtain ⟨dk2,hdk2⟩:∃ a,a = (dk1.setIfInBounds p1 c5).setIfInBounds m2 c6:=⟨_,rfl⟩;rw [← hdk2] at i6 ⊢;clear hdk2;by_cases y1:m2 = 1
    ·have z1:v2 < 10:=(by have:=i6.small;rw [y1] at this;simpa using this);have i5:=FmtInv.step1 (by rw [y1] at i6;exact i6);obtain ⟨d1,d2⟩:=fb1 v2 z1;have g0:(0:Int) < (m2:Int):=(by omega);have gn:0 < m2:=(by omega);have g1:0 < n:=(by have:=i6.le;omega);generalize UInt8.ofNat (48+v2) = c9 at *;simp [-Array.toList_setIfInBounds,-Q2,-kR,Xy,gn,g1,d1,d2,hb,i6.size,jH,hnn,sb];exact qaO (fin _ _ i5)
    ·have z0:m2 = 0:=(by omega);rw [z0] at i6;simp [-Array.toList_setIfInBounds,-Q2,-kR,z0];exact qaO (fin _ _ i6)
   ·have g2:¬ (2:Int)≤(m:Int):=(by omega);simp [-Array.toList_setIfInBounds,-Q2,Xy,g2];by_cases y1:m = 1
    ·have z1:q < 10:=(by have:=i2.small;rw [y1] at this;simpa using this);have i5:=FmtInv.step1 (by rw [y1] at i2;exact i2);obtain ⟨d1,d2⟩:=fb1 q z1;have g0:(0:Int) < (m:Int):=(by omega);have gn:0 < m:=(by omega);have g1:0 < n:=(by have:=i2.le;omega);generalize UInt8.ofNat (48+q) = c9 at *;simp [-Array.toList_setIfInBounds,-Q2,-kR,Xy,gn,g1,d1,d2,hb,i2.size,jH,hnn,sb];exact qaO (fin _ _ i5)
    ·have z0:m = 0:=(by omega);rw [z0] at i2;simp [-Array.toList_setIfInBounds,-Q2,-kR,z0];exact qaO (fin _ _ i2)
  ·have g4:¬ (4:Int)≤(nd:Int):=(by omega);simp [-Q2,Xy,h0,h1,h4,h8',g4,wv];clear wv;by_cases x2:2≤nd
   ·obtain ⟨m2,zB⟩:∃ mm,nd = mm+2:=⟨nd - 2,by omega⟩;have i6:=FmtInv.step2' (k:=m2) (by rw [zB] at hi;exact hi);obtain ⟨p1,Kt⟩:∃ y,y = m2+1:=⟨_,rfl⟩;have g2:(2:Int)≤(nd:Int):=(by omega);have e1:(nd:Int) - 1 = (p1:Int):=(by omega);have e2:(nd:Int) - 2 = (m2:Int):=(by omega);have hle2:=hi.le;have r1:(p1:Int) < (n:Int)∧p1 < n∧p1 < 24:=(by omega);have r2:(m2:Int) < (n:Int)∧m2 < n∧m2 < 24:=(by omega);have m2lt:m2 < 2:=(by omega);have q1:v < 100000000:=lt8 hi (by omega);rw [← Kt] at i6;have j1':=wk 1 e1 (ZV r1.2.2);have j2':=wk 2 e2 (ZV r2.2.2);clear e1 e2;obtain ⟨v2,y9,t9,z9,⟨a1,a2,w2,u9,w9,s1,s2,fq⟩⟩:=fb2 v q1;rw [fq] at i6;generalize sm (v % 100 * 2+1) = c5 at *;generalize sm (v % 100 * 2) = c6 at *;simp [-Array.toList_setIfInBounds,-Q2,Xy,hv,g2,r1,r2,j1',j2',a1,a2,w2,u9,w9,s1,s2,hb,hi.size,jH,hnn,sb,Nat.succ_le_of_lt];clear a1 a2 w2 u9 w9 s1 s2 j1' j2' fq;obtain ⟨dk2,hdk2⟩:∃ a,a = (dk.setIfInBounds p1 c5).setIfInBounds m2 c6:=⟨_,rfl⟩;rw [← hdk2] at i6 ⊢;clear hdk2;by_cases y1:m2 = 1
    ·have z1:v2 < 10:=(by have:=i6.small;rw [y1] at this;simpa using this);have i5:=FmtInv.step1 (by rw [y1] at i6;exact i6);obtain ⟨d1,d2⟩:=fb1 v2 z1;have g0:(0:Int) < (m2:Int):=(by omega);have gn:0 < m2:=(by omega);have g1:0 < n:=(by have:=i6.le;omega);generalize UInt8.ofNat (48+v2) = c9 at *;simp [-Array.toList_setIfInBounds,-Q2,-kR,Xy,gn,g1,d1,d2,hb,i6.size,jH,hnn,sb];exact qaO (fin _ _ i5)
    ·have z0:m2 = 0:=(by omega);rw [z0] at i6;simp [-Array.toList_setIfInBounds,-Q2,-kR,z0];exact qaO (fin _ _ i6)
   ·have g2:¬ (2:Int)≤(nd:Int):=(by omega);simp [-Array.toList_setIfInBounds,-Q2,Xy,g2];by_cases y1:nd = 1
    ·have z1:v < 10:=(by have:=hi.small;rw [y1] at this;simpa using this);have i5:=FmtInv.step1 (by rw [y1] at hi;exact hi);obtain ⟨d1,d2⟩:=fb1 v z1;have g0:(0:Int) < (nd:Int):=(by omega);have gn:0 < nd:=(by omega);have g1:0 < n:=(by have:=hi.le;omega);generalize UInt8.ofNat (48+v) = c9 at *;simp [-Array.toList_setIfInBounds,-Q2,-kR,Xy,gn,g1,d1,d2,hb,hi.size,jH,hnn,sb];exact qaO (fin _ _ i5)
    ·have z0:nd = 0:=(by omega);rw [z0] at hi;simp [-Array.toList_setIfInBounds,-Q2,-kR,z0];exact qaO (fin _ _ hi)
theorem qrn {u v':Nat} {dk:Array UInt8} (h:FmtInv (nDigits u) u 0 v' dk):dk.toList = decDigits u:=by
 apply List.ext_getElem
 ·rw [decDigits_length,Array.length_toList,h.size]
 ·intro j h1 h2;rw [row_is_numeral h j h2,getElem!_pos dk j (by simpa using h1)];simp
set_option maxHeartbeats 1000000 in
theorem qyf [MaxL] [TxtC] (v:Nat) (hv:v < 18446744073709551616):call cx 160 [.int .u64 v,.int .i64 10] [] = some (.str (qE v),[]):=by
 refine qs Tryz.func160 rfl ⟨rfl,rfl⟩ ?_;by_cases hs:v < 100
 ·have vV:(v:Int) < 100:=by omega
  have h1:=qqb v hs;have hw:IntKind.i64.wrap (v:Int) = (v:Int):=by rw [wrap_i64];omega
  simp [Tryz.f160,vV,h1,hw]
 ·have vV:¬ (v:Int) < 100:=by omega
  have h1:=qts v (by omega) hv
  have hn:nDigits v≤20:=by
   have:=numDigits_eq v (by omega) hv;split at this <;> omega
  obtain ⟨v',dk,i1,i2⟩:=qy3 (nDigits v) v (by omega) (lt_pow_nDigits v) hv (List.replicate (24 - nDigits v) 0) (by simp) (Array.replicate (nDigits v) 0) (by simp) [some (qd (List.replicate 24 0))] 0 (by simp) (by simp) (by
   simp only [List.getElem_cons_zero,Array.toList_replicate,List.replicate_append_replicate];congr 3;omega)
  have hr:=qrn i1;have zh:=i1.size;have hl:(decDigits v).length = nDigits v:=decDigits_length v;rw [hr] at i2;rw [qnI hv];generalize nDigits v = n at *;generalize decDigits v = w at *;have QA:(n:Int)≤24:=by omega
  have vW:n≤24:=by omega
  clear hv;have e24:qd (List.replicate 24 0) = [D.int .u8 0,D.int .u8 0,D.int .u8 0,D.int .u8 0,D.int .u8 0,D.int .u8 0,D.int .u8 0,D.int .u8 0,D.int .u8 0,D.int .u8 0,D.int .u8 0,D.int .u8 0,D.int .u8 0,D.int .u8 0,D.int .u8 0,D.int .u8 0,D.int .u8 0,D.int .u8 0,D.int .u8 0,D.int .u8 0,D.int .u8 0,D.int .u8 0,D.int .u8 0,D.int .u8 0]:=rfl;rw [e24] at i2;have hd:dk.toList = w:=hr;have k1:w.length+(24 - n) = 24:=by omega
  have k2:n≤w.length+(24 - n):=by omega
  have k3:List.take n (qd (w ++ List.replicate (24 - n) 0)) = qd w:=by
   rw [kw,← hl,List.take_left]
  have k4:n≤24:=vW;simp [Tryz.f160,vV,h1,QA,vW,i2,k1,k3]
theorem qix [MaxL] [TxtC] (v:Nat) (hv:v < 18446744073709551616):call cx 131 [.int .u64 v,.int .i64 10] [] = some (.str (qE v),[]):=by
 have h:=qyf v hv;refine qs Tryz.func131 rfl ⟨rfl,rfl⟩ ?_;simp [Tryz.f131,h]
end Go.Ev.S
namespace Go.Ev
open Go Go.Proofs
def Zf (c:UInt8):Bool:=(decide (65≤c.toNat) && decide (c.toNat≤90)) || (decide (48≤c.toNat) && decide (c.toNat≤57)) || decide (c.toNat = 95)
def KB (c:UInt8):Bool:=decide (48≤c.toNat) && decide (c.toNat≤57)
def kZ:List UInt8→Bool
 | []=>false
 | c :: l=>decide ((c :: l).length≤64) && !KB c && (c :: l).all Zf
def kY (p:Pr):Bool:=kZ p.name && decide (p.value.length≤256)
def Z6 (c:UInt8):Bool:= !(decide (c.toNat < 32) && decide (c.toNat≠9))
def Xv (s:List UInt8):Bool:=s.all Z6
def Q0 (p:Pr):List UInt8:=if Xv p.value then ((p.name ++ [61]) ++ p.value) ++ [10] else (((p.name ++ [10]) ++ qJ 8 p.value.length) ++ p.value) ++ [10]
def Zp (it:It):Bool:=decide (it.fr = 0) && decide (it.til = 0) && decide (it.rc.seq≠0) && decide (1≤it.rc.fields.l.length) && decide (it.rc.fields.l.length≤16) && it.rc.fields.l.all kY
def qan (it:It):Bool:=decide (1≤it.fr) && decide (it.fr≤it.til) && decide (it.rc.seq = 0) && decide (it.rc.real = 0) && decide (it.rc.mono = 0) && decide (it.rc.boot = ID.zero) && decide (it.rc.fields.l.length = 0)
def zM (it:It):Bool:=if it.gap then qan it else Zp it
end Go.Ev
namespace Go.Ev.S
open Go Go.Proofs Go.Ev
theorem qst [MaxL] [TxtC] (s:List UInt8) (_:s.length < 1000000):call cx 144 [.str s] [] = some (.bool (Xv s),[]):=by
 refine qs Tryz.func144 rfl ⟨rfl,rfl⟩ ?_;unfold Xv;obtain ⟨r,hr⟩:∃ r,s.all Z6 = r:=⟨_,rfl⟩;rw [hr];simp [Tryz.f144];refine Run.loopThen (fun (k:Nat) e H'=>k≤s.length∧(s.drop k).all Z6 = r∧qf e 0 = some (.str s)∧qf e 5 = some (.int .i64 s.length)∧qf e 6 = some (.int .i64 k)∧H' = []) (fun k=>s.length - k) 0 ?_ ?_
 ·simpa using hr
 rintro k e H' ⟨hk,hR,k0,k5,k6,rfl⟩;by_cases qg:k < s.length
 ·have qk:(k:Int) < (s.length:Int):=by omega
  have hw:IntKind.i64.wrap ((k:Int)+1) = ((k+1:Nat):Int):=by rw [wrap_i64] <;> omega
  have qW:s[k]? = some s[k]:=zi qg;rw [zm qg,XQ] at hR;generalize s[k] = c at *;by_cases h1:c.toNat < 32
  ·have QV:(c.toNat:Int) < 32:=(by omega);by_cases h2:c.toNat = 9
   ·have Qh:(c.toNat:Int) = 9:=(by omega);have hc:Z6 c = true:=(by simp [Z6,h2]);rw [hc,vS] at hR;simp [k0,k5,k6,qk,qW,hw,h2];exact ⟨k+1,by omega,by omega,by simpa using hR,by omega⟩
   ·have Qh:¬ (c.toNat:Int) = 9:=(by omega);have hc:Z6 c = false:=(by simp [Z6,h1,h2]);rw [hc,Z3] at hR;subst hR;simp [k0,k5,k6,qk,qW,QV,Qh]
  ·have QV:¬ (c.toNat:Int) < 32:=(by omega);have hc:Z6 c = true:=(by simp [Z6,h1]);rw [hc,vS] at hR;simp [k0,k5,k6,qk,qW,hw,QV];exact ⟨k+1,by omega,by omega,by simpa using hR,by omega⟩
 ·have qk:¬ (k:Int) < (s.length:Int):=by omega
  rw [zX (by omega)] at hR;have:r = true:=hR.symm;subst this;simp [k0,k5,k6,qk]
theorem ql6 (c:UInt8):(Zf c = true∧((65≤c.toNat∧c.toNat≤90)∨(¬ (65≤c.toNat∧c.toNat≤90)∧48≤c.toNat∧c.toNat≤57)∨c.toNat = 95))∨(Zf c = false∧¬ (65≤c.toNat∧c.toNat≤90)∧¬ (48≤c.toNat∧c.toNat≤57)∧c.toNat≠95):=by
 cases h:Zf c with
 | true =>
  simp [Zf] at h;exact .inl ⟨rfl,by omega⟩
 | false =>
  simp [Zf] at h;exact .inr ⟨rfl,by omega,by omega,by omega⟩
set_option maxHeartbeats 2000000 in
theorem qyo [MaxL] [TxtC] (s:List UInt8):call cx 166 [.str s] [] = some (.bool (kZ s),[]):=by
 refine qs Tryz.func166 rfl ⟨rfl,rfl⟩ ?_;cases s with
 | nil=>simp [Tryz.f166,kZ]
 | cons c l =>
  have ja:¬ (l.length:Int)+1 < 1:=by omega
  by_cases VN:64 < l.length+1
  ·have ZN:(64:Int) < (l.length:Int)+1:=(by omega);have hN:kZ (c :: l) = false:=(by simp [kZ];omega);rw [hN];simp [Tryz.f166,ja,ZN]
  ·have ZN:¬ (64:Int) < (l.length:Int)+1:=(by omega);have hs:(c :: l).length < 1000000:=by simp;omega
   have hN:kZ (c :: l) = (!KB c && (c :: l).all Zf):=by
    simp only [kZ];rw [decide_eq_true (by simp;omega),vS]
   rw [hN];by_cases hd:48≤c.toNat∧c.toNat≤57
   ·have Yp:(48:Int)≤(c.toNat:Int):=(by omega);have vZ:(c.toNat:Int)≤57:=(by omega);have XH:KB c = true:=(by simp [KB,hd.1,hd.2]);rw [XH];simp [Tryz.f166,ja,ZN,Yp,vZ]
   ·have XH:KB c = false:=(by simp [KB];omega);rw [XH];have hcond:(¬ (48:Int)≤(c.toNat:Int))∨((48:Int)≤(c.toNat:Int)∧¬ (c.toNat:Int)≤57):=(by omega);obtain ⟨r,hr⟩:∃ r,(c :: l).all Zf = r:=⟨_,rfl⟩;rw [hr];obtain ⟨S,hS⟩:∃ S,S = c :: l:=⟨_,rfl⟩;have hn:(l.length:Int)+1 = (S.length:Int):=(by rw [hS];simp);rw [← hS] at hr hs;rcases hcond with h48 | ⟨h48,h57⟩
    ·have h48n:¬ 48≤c.toNat:=(by omega);simp [Tryz.f166,ja,ZN,h48];rw [hn,← hS];clear hS hn hN;refine Run.loopThen (fun (k:Nat) e H'=>k≤S.length∧(S.drop k).all Zf = r∧qf e 0 = some (.str S)∧qf e 24 = some (.int .i64 S.length)∧qf e 25 = some (.int .i64 k)∧H' = []) (fun k=>S.length - k) 0 ?_ ?_
     ·simpa using hr
     rintro k e H' ⟨hk,hR,k0,k24,k25,rfl⟩;by_cases qg:k < S.length
     ·have qk:(k:Int) < (S.length:Int):=(by omega);have hw:IntKind.i64.wrap ((k:Int)+1) = ((k+1:Nat):Int):=(by rw [wrap_i64] <;> omega);have qW:S[k]? = some S[k]:=zi qg;rw [zm qg,XQ] at hR;generalize S[k] = x at *;rcases ql6 x with ⟨hx,h1 | ⟨h1,h2⟩ | h1⟩ | ⟨hx,h1,h2,h3⟩
      ·rw [hx,vS] at hR;have g1:(65:Int)≤(x.toNat:Int):=(by omega);have g2:(x.toNat:Int)≤90:=(by omega);simp [k0,k24,k25,qk,qW,hw,g1,g2];exact ⟨k+1,by omega,by omega,by simpa using hR,by omega⟩
      ·rw [hx,vS] at hR;have g1:(48:Int)≤(x.toNat:Int):=(by omega);have g2:(x.toNat:Int)≤57:=(by omega);have g3:¬ (65:Int)≤(x.toNat:Int):=(by omega);have g4:¬ 65≤x.toNat:=(by omega);simp [k0,k24,k25,qk,qW,hw,g1,g2,g3];exact ⟨k+1,by omega,by omega,by simpa using hR,by omega⟩
      ·rw [hx,vS] at hR;have g1:(x.toNat:Int) = 95:=(by omega);simp [k0,k24,k25,qk,qW,hw,h1];exact ⟨k+1,by omega,by omega,by simpa using hR,by omega⟩
      ·rw [hx,Z3] at hR;subst hR;have g0:¬ (x.toNat:Int) = 95:=(by omega);by_cases q1:65≤x.toNat
       ·have g1:(65:Int)≤(x.toNat:Int):=(by omega);have g2:¬ (x.toNat:Int)≤90:=(by omega);have g2':¬ x.toNat≤90:=(by omega);have g3:(48:Int)≤(x.toNat:Int):=(by omega);have g3':48≤x.toNat:=(by omega);have g4:¬ (x.toNat:Int)≤57:=(by omega);have g4':¬ x.toNat≤57:=(by omega);simp [k0,k24,k25,qk,qW,g0,g1,g2,g3,g4]
       ·have g1:¬ (65:Int)≤(x.toNat:Int):=(by omega);by_cases q2:48≤x.toNat
        ·have g3:(48:Int)≤(x.toNat:Int):=(by omega);have g4:¬ (x.toNat:Int)≤57:=(by omega);have g4':¬ x.toNat≤57:=(by omega);simp [k0,k24,k25,qk,qW,g0,g1,g3,g4]
        ·have g3:¬ (48:Int)≤(x.toNat:Int):=(by omega);simp [k0,k24,k25,qk,qW,g0,g1,g3]
     ·have qk:¬ (k:Int) < (S.length:Int):=(by omega);rw [zX (by omega)] at hR;have:r = true:=hR.symm;subst this;simp [k0,k24,k25,qk]
    ·have h48n:48≤c.toNat:=(by omega);have h57n:¬ c.toNat≤57:=(by omega);simp [Tryz.f166,ja,ZN,h48,h57];rw [hn,← hS];clear hS hn hN;refine Run.loopThen (fun (k:Nat) e H'=>k≤S.length∧(S.drop k).all Zf = r∧qf e 0 = some (.str S)∧qf e 24 = some (.int .i64 S.length)∧qf e 25 = some (.int .i64 k)∧H' = []) (fun k=>S.length - k) 0 ?_ ?_
     ·simpa using hr
     rintro k e H' ⟨hk,hR,k0,k24,k25,rfl⟩;by_cases qg:k < S.length
     ·have qk:(k:Int) < (S.length:Int):=(by omega);have hw:IntKind.i64.wrap ((k:Int)+1) = ((k+1:Nat):Int):=(by rw [wrap_i64] <;> omega);have qW:S[k]? = some S[k]:=zi qg;rw [zm qg,XQ] at hR;generalize S[k] = x at *;rcases ql6 x with ⟨hx,h1 | ⟨h1,h2⟩ | h1⟩ | ⟨hx,h1,h2,h3⟩
      ·rw [hx,vS] at hR;have g1:(65:Int)≤(x.toNat:Int):=(by omega);have g2:(x.toNat:Int)≤90:=(by omega);simp [k0,k24,k25,qk,qW,hw,g1,g2];exact ⟨k+1,by omega,by omega,by simpa using hR,by omega⟩
      ·rw [hx,vS] at hR;have g1:(48:Int)≤(x.toNat:Int):=(by omega);have g2:(x.toNat:Int)≤57:=(by omega);have g3:¬ (65:Int)≤(x.toNat:Int):=(by omega);have g4:¬ 65≤x.toNat:=(by omega);simp [k0,k24,k25,qk,qW,hw,g1,g2,g3];exact ⟨k+1,by omega,by omega,by simpa using hR,by omega⟩
      ·rw [hx,vS] at hR;have g1:(x.toNat:Int) = 95:=(by omega);simp [k0,k24,k25,qk,qW,hw,h1];exact ⟨k+1,by omega,by omega,by simpa using hR,by omega⟩
      ·rw [hx,Z3] at hR;subst hR;have g0:¬ (x.toNat:Int) = 95:=(by omega);by_cases q1:65≤x.toNat
       ·have g1:(65:Int)≤(x.toNat:Int):=(by omega);have g2:¬ (x.toNat:Int)≤90:=(by omega);have g2':¬ x.toNat≤90:=(by omega);have g3:(48:Int)≤(x.toNat:Int):=(by omega);have g3':48≤x.toNat:=(by omega);have g4:¬ (x.toNat:Int)≤57:=(by omega);have g4':¬ x.toNat≤57:=(by omega);simp [k0,k24,k25,qk,qW,g0,g1,g2,g3,g4]
       ·have g1:¬ (65:Int)≤(x.toNat:Int):=(by omega);by_cases q2:48≤x.toNat
        ·have g3:(48:Int)≤(x.toNat:Int):=(by omega);have g4:¬ (x.toNat:Int)≤57:=(by omega);have g4':¬ x.toNat≤57:=(by omega);simp [k0,k24,k25,qk,qW,g0,g1,g3,g4]
        ·have g3:¬ (48:Int)≤(x.toNat:Int):=(by omega);simp [k0,k24,k25,qk,qW,g0,g1,g3]
     ·have qk:¬ (k:Int) < (S.length:Int):=(by omega);rw [zX (by omega)] at hR;have:r = true:=hR.symm;subst this;simp [k0,k24,k25,qk]
theorem qyj [MaxL] [TxtC] (p:Pr):call cx 140 [.agg (Enc.cells p)] [] = some (.bool (kY p),[]):=by
 have hn:=qyo p.name;refine qs Tryz.func140 rfl ⟨rfl,rfl⟩ ?_;unfold kY;cases hq:kZ p.name with
 | false =>
  rw [hq] at hn;simp [Tryz.f140,hn,Pr.cells]
 | true =>
  rw [hq] at hn;by_cases hv:p.value.length≤256
  ·have hv':(p.value.length:Int)≤256:=(by omega);simp [Tryz.f140,hn,Pr.cells,hv,hv']
  ·have hv':¬ (p.value.length:Int)≤256:=(by omega);simp [Tryz.f140,hn,Pr.cells,hv,hv']
theorem qdR [MaxL] [TxtC] (v:Nat) (h:v < 18446744073709551616):call cx 97 [.int .u64 v] [] = some (.str (qE v),[]):=by
 have hf:=qix v h;refine qs Tryz.func97 rfl ⟨rfl,rfl⟩ ?_;simp [Tryz.f97,hf]
set_option maxHeartbeats 4000000 in
theorem qpa [MaxL] [TxtC] (it:It) (hg:it.gap = true):call cx 96 [.agg (Enc.cells it)] [] = some (.bool (qan it),[]):=by
 refine qs Tryz.func96 rfl ⟨rfl,rfl⟩ ?_;unfold qan;have ve:List.take 17 (qd it.rc.boot.l ++ [(.vsl it.rc.fields.nil (qh it.rc.fields.l) it.rc.fields.l.length)]) = qd it.rc.boot.l ++ [(.vsl it.rc.fields.nil (qh it.rc.fields.l) it.rc.fields.l.length)]:=qx (by simp)
 rcases KI (¬ (1≤it.fr)) with zf | zf
 ·simp [Tryz.f96,hg,zf,ve]
 replace zf:=Classical.not_not.1 zf;rcases KI (¬ (it.fr≤it.til)) with jS | jS
 ·simp [Tryz.f96,hg,zf,jS,ve]
 replace jS:=Classical.not_not.1 jS;rcases KI (¬ (it.rc.seq = 0)) with vC | vC
 ·simp [Tryz.f96,hg,zf,jS,vC,ve]
 replace vC:=Classical.not_not.1 vC;rcases KI (¬ (it.rc.real = 0)) with Jk | Jk
 ·simp [Tryz.f96,hg,zf,jS,vC,Jk,ve]
 replace Jk:=Classical.not_not.1 Jk;rcases KI (¬ (it.rc.mono = 0)) with Vh | Vh
 ·simp [Tryz.f96,hg,zf,jS,vC,Jk,Vh,ve]
 replace Vh:=Classical.not_not.1 Vh;have he:=qe7 it.rc.boot ID.zero;replace he:jT [.i,.i,.i,.i,.i,.i,.i,.i,.i,.i,.i,.i,.i,.i,.i,.i] (qd it.rc.boot.l) [.int .u8 0,.int .u8 0,.int .u8 0,.int .u8 0,.int .u8 0,.int .u8 0,.int .u8 0,.int .u8 0,.int .u8 0,.int .u8 0,.int .u8 0,.int .u8 0,.int .u8 0,.int .u8 0,.int .u8 0,.int .u8 0] = some (it.rc.boot == ID.zero):=he;rcases KI (¬ (it.rc.boot = ID.zero)) with Jq | Jq
 ·have jN:(it.rc.boot == ID.zero) = false:=beq_eq_false_iff_ne.2 Jq;rw [jN] at he;simp [Tryz.f96,hg,zf,jS,vC,Jk,Vh,Jq,he,ve,qD]
 replace Jq:=Classical.not_not.1 Jq;have jN:(it.rc.boot == ID.zero) = true:=by rw [Jq];simp
 rw [jN] at he;have zN:decide (it.rc.boot = ID.zero) = true:=decide_eq_true Jq;clear jN Jq;by_cases zo:it.rc.fields.l.length = 0
 ·have hlen':(it.rc.fields.l.length:Int) = 0:=by omega
  have hld:decide (it.rc.fields.l.length = 0) = true:=decide_eq_true zo;simp [-decide_eq_true_eq,Tryz.f96,hg,zf,jS,vC,Jk,Vh,zN,he,hlen',ve,qD];exact List.length_eq_zero_iff.1 zo
 ·have hlen':¬ (it.rc.fields.l.length:Int) = 0:=by omega
  simp [Tryz.f96,hg,zf,jS,vC,Jk,Vh,zN,zo,he,ve,qD]
set_option maxHeartbeats 4000000 in
theorem qoZ [MaxL] [TxtC] (it:It) (hg:it.gap = false):call cx 96 [.agg (Enc.cells it)] [] = some (.bool (Zp it),[]):=by
 refine qs Tryz.func96 rfl ⟨rfl,rfl⟩ ?_;unfold Zp;have ve:List.take 17 (qd it.rc.boot.l ++ [(.vsl it.rc.fields.nil (qh it.rc.fields.l) it.rc.fields.l.length)]) = qd it.rc.boot.l ++ [(.vsl it.rc.fields.nil (qh it.rc.fields.l) it.rc.fields.l.length)]:=qx (by simp);rcases KI (¬ (it.fr = 0)) with zf | zf
 ·simp [Tryz.f96,hg,zf,ve]
 replace zf:=Classical.not_not.1 zf;rcases KI (¬ (it.til = 0)) with jS | jS
 ·simp [Tryz.f96,hg,zf,jS,ve]
 replace jS:=Classical.not_not.1 jS;by_cases vC:it.rc.seq = 0
 ·simp [Tryz.f96,hg,zf,jS,vC,ve]
 by_cases ja:it.rc.fields.l.length < 1
 ·have hl1':(it.rc.fields.l.length:Int) < 1:=by omega
  have hd:decide (1≤it.rc.fields.l.length) = false:=decide_eq_false (by omega);rw [hd];simp [Tryz.f96,hg,zf,jS,vC,hl1',ve]
 have hl1':¬ (it.rc.fields.l.length:Int) < 1:=by omega
 have Yp:decide (1≤it.rc.fields.l.length) = true:=decide_eq_true (by omega);rw [Yp];by_cases jv:16 < it.rc.fields.l.length
 ·have hl2':(16:Int) < (it.rc.fields.l.length:Int):=by omega
  have hd:decide (it.rc.fields.l.length≤16) = false:=decide_eq_false (by omega);rw [hd];simp [Tryz.f96,hg,zf,jS,vC,hl1',hl2',ve]
 have hl2':¬ (16:Int) < (it.rc.fields.l.length:Int):=by omega
 have vZ:decide (it.rc.fields.l.length≤16) = true:=decide_eq_true (by omega);rw [vZ,decide_eq_true zf,decide_eq_true jS,decide_eq_true vC];simp only [vS];obtain ⟨r,hr⟩:∃ r,it.rc.fields.l.all kY = r:=⟨_,rfl⟩;rw [hr];simp [Tryz.f96,hg,zf,jS,vC,hl1',hl2',ve];generalize it.rc.fields = F at *;refine Run.loopThen (fun (k:Nat) e H'=>k≤F.l.length∧(F.l.drop k).all kY = r∧qf e 73 = some (.vsl F.nil (qh F.l) F.l.length)∧qf e 74 = some (.int .i64 F.l.length)∧qf e 75 = some (.int .i64 k)∧(H' = [some (Enc.cells it),some (.int .u64 it.rc.seq :: .int .u64 it.rc.real :: .int .u64 it.rc.mono :: (qd it.rc.boot.l ++ [(.vsl F.nil (qh F.l) F.l.length)]))]∨∃ p:Pr,H' = [some (Enc.cells p)])) (fun k=>F.l.length - k) 0 ?_ ?_
 ·simpa using hr
 rintro k e H' ⟨hk,hR,k73,k74,k75,hH⟩;by_cases qg:k < F.l.length
 ·have qk:(k:Int) < (F.l.length:Int):=by omega
  have hw:IntKind.i64.wrap ((k:Int)+1) = ((k+1:Nat):Int):=by rw [wrap_i64] <;> omega
  rw [zm qg,XQ] at hR;have hf:=qyj F.l[k];have hnn:=Sl.nn qg;cases hp:kY F.l[k] with
  | true =>
   rw [hp] at hf;rw [hp,vS] at hR;rcases hH with rfl | ⟨p,rfl⟩
   ·simp [k73,k74,k75,qg,qk,hw,hnn,hf];exact ⟨k+1,by omega,by omega,by simpa using hR,by omega,_,rfl⟩
   ·simp [k73,k74,k75,qg,qk,hw,hnn,hf];exact ⟨k+1,by omega,by omega,by simpa using hR,by omega,_,rfl⟩
  | false =>
   rw [hp] at hf;rw [hp,Z3] at hR;subst hR;rcases hH with rfl | ⟨p,rfl⟩
   ·simp [k73,k74,k75,qg,qk,hnn,hf]
   ·simp [k73,k74,k75,qg,qk,hnn,hf]
 ·have qk:¬ (k:Int) < (F.l.length:Int):=by omega
  rw [zX (by omega)] at hR;have:r = true:=hR.symm;subst this;rcases hH with rfl | ⟨p,rfl⟩
  ·simp [k73,k74,k75,qk]
  ·simp [k73,k74,k75,qk]
theorem qpb [MaxL] [TxtC] (it:It):call cx 96 [.agg (Enc.cells it)] [] = some (.bool (zM it),[]):=by
 unfold zM;cases hg:it.gap with
 | true=>rw [if_pos rfl];exact qpa it hg
 | false=>rw [if_neg (by decide)];exact qoZ it hg
theorem qg8 [MaxL] [TxtC] (it:It) (_:∀ p∈it.rc.fields.l,Qw p) (_:it.rc.fields.l.length < 1000000):call cx 96 [.agg (Enc.cells it)] [] = some (.bool (zM it),[]):=qpb it
set_option maxHeartbeats 2000000 in
theorem qsE [MaxL] [TxtC] (p:Pr) (hb:Qw p):call cx 102 [.agg (Enc.cells p)] [] = some (.str (Q0 p),[]):=by
 obtain ⟨h1,h2⟩:=hb;have hp:=qst p.value h2;refine qs Tryz.func102 rfl ⟨rfl,rfl⟩ ?_;unfold Q0;cases hv:Xv p.value with
 | true =>
  rw [hv] at hp;have x1:p.name.length+1≤4611686018427387904:=by omega
  have x2:p.name.length+1+p.value.length≤4611686018427387904:=by omega
  have x3:p.name.length+(p.value.length+1)≤4611686018427387904:=by omega
  have x4:p.name.length+(p.value.length+1)+1≤4611686018427387904:=by omega
  have x5:p.name.length+(p.value.length+1+1)≤4611686018427387904:=by omega
  simp [Tryz.f102,hp,Pr.cells,x1,x2,x4]
 | false =>
  rw [hv] at hp;obtain ⟨d,H,hB,hc⟩:=qlW (Sl.none (α:=UInt8)) 8 p.value.length (by show (0:Nat)≤_;omega);have ZF:Kj (Sl.none (α:=UInt8)).l 8 p.value.length = qJ 8 p.value.length:=rfl;rw [ZF] at hB;have VG:(qJ 8 p.value.length).length = 8:=by simp
  generalize qJ 8 p.value.length = L at *;replace hc:call cx 63 [.vsl true [] 0,.int .i64 8,.int .u64 (p.value.length:Nat)] [] = some (d,H):=hc;rcases hB with ⟨_,rfl,_⟩ | ⟨rfl,rfl⟩
  ·simp at VG
  have hw:IntKind.u64.wrap (p.value.length:Int) = (p.value.length:Int):=by rw [qU] <;> omega
  have x1:p.name.length+1≤4611686018427387904:=by omega
  have x2:p.name.length+1+8≤4611686018427387904:=by omega
  have x3:p.name.length+(8+1)≤4611686018427387904:=by omega
  have x4:p.name.length+(8+1)+p.value.length≤4611686018427387904:=by omega
  have x5:p.name.length+(8+1+p.value.length)≤4611686018427387904:=by omega
  have x6:p.name.length+(p.value.length+(8+1))≤4611686018427387904:=by omega
  have x7:p.name.length+(8+p.value.length+1)≤4611686018427387903:=by omega
  simp [Tryz.f102,hp,Pr.cells,hc,hw,VG,x1,x2,x4,x7]
theorem qtg [MaxL] [TxtC] (a:Nat) (ha:a < 18446744073709551616):call cx 115 [.vsl false [.int .u64 a] 1] [] = some (.vsl false (qd (qJ 8 a)) 8,[]):=by
 have h1:=qf9 a ha;clear ha;refine qs Tryz.func115 rfl ⟨rfl,rfl⟩ ?_;simp [Tryz.f115]
 iterate 2
  refine Xq ?_;simp [h1,qx,qI]
theorem qaD [MaxL] [TxtC] (v:Nat) (hv:v < 18446744073709551616):call cx 106 [.int .u64 v] [] = some (.str (qE v),[]):=by
 have h:=qix v hv;refine qs Tryz.func106 rfl ⟨rfl,rfl⟩ ?_;simp [Tryz.f106,h]
theorem qrl [MaxL] [TxtC] (s:List UInt8) (_:s.length < 1000000):call cx 136 [.str s] [] = some (.bool (Xv s),[]):=by
 refine qs Tryz.func136 rfl ⟨rfl,rfl⟩ ?_;unfold Xv;obtain ⟨r,hr⟩:∃ r,s.all Z6 = r:=⟨_,rfl⟩;rw [hr];simp [Tryz.f136];refine Run.loopThen (fun (k:Nat) e H'=>k≤s.length∧(s.drop k).all Z6 = r∧qf e 0 = some (.str s)∧qf e 3 = some (.int .i64 k)∧H' = []) (fun k=>s.length - k) 0 ?_ ?_
 ·simpa using hr
 rintro k e H' ⟨hk,hR,k0,k3,rfl⟩;by_cases qg:k < s.length
 ·have qk:(k:Int) < (s.length:Int):=by omega
  have hw:IntKind.i64.wrap ((k:Int)+1) = ((k+1:Nat):Int):=by rw [wrap_i64] <;> omega
  have qW:s[k]? = some s[k]:=zi qg;rw [zm qg,XQ] at hR;generalize s[k] = c at *;by_cases h2:c.toNat = 9
  ·have Qh:(c.toNat:Int) = 9:=(by omega);have hc:Z6 c = true:=(by simp [Z6,h2]);rw [hc,vS] at hR;simp [k0,k3,qk,qW,hw,h2];exact ⟨k+1,by omega,by omega,by simpa using hR,by omega⟩
  ·have Qh:¬ (c.toNat:Int) = 9:=(by omega);by_cases h1:c.toNat < 32
   ·have QV:(c.toNat:Int) < 32:=(by omega);have hc:Z6 c = false:=(by simp [Z6,h1,h2]);rw [hc,Z3] at hR;subst hR;simp [k0,k3,qk,qW,QV,Qh]
   ·have QV:¬ (c.toNat:Int) < 32:=(by omega);have hc:Z6 c = true:=(by simp [Z6,h1]);rw [hc,vS] at hR;simp [k0,k3,qk,qW,hw,QV,Qh];exact ⟨k+1,by omega,by omega,by simpa using hR,by omega⟩
 ·have qk:¬ (k:Int) < (s.length:Int):=by omega
  rw [zX (by omega)] at hR;have:r = true:=hR.symm;subst this;simp [k0,k3,qk]
def Yb:List UInt8→Nat→Bool
 | [],_=>true
 | c :: l,k=>(Zf c && (decide (0 < k) || !KB c)) && Yb l (k+1)
theorem ql5:∀ (l:List UInt8) (k:Nat),0 < k→Yb l k = l.all Zf
 | [],_,_=>rfl
 | c :: l,k,h=>by rw [Yb,ql5 l (k+1) (by omega)];simp [h]
theorem qtv (s:List UInt8):kZ s = (Yb s 0 && (decide (1≤s.length) && decide (s.length≤64))):=by
 cases s with
 | nil=>rfl
 | cons c l =>
  rw [kZ,Yb,ql5 l 1 (by omega),XQ];simp;cases Zf c <;> cases KB c <;> cases l.all Zf <;> simp
set_option maxHeartbeats 4000000 in
theorem qkr [MaxL] [TxtC] (s:List UInt8) (_:s.length≤9223372036854775807):call cx 161 [.str s] [] = some (.bool (kZ s),[]):=by
 refine qs Tryz.func161 rfl ⟨rfl,rfl⟩ ?_;rw [qtv];obtain ⟨r,hr⟩:∃ r,(Yb s 0 && (decide (1≤s.length) && decide (s.length≤64))) = r:=⟨_,rfl⟩;rw [hr];simp [Tryz.f161];refine Run.loopThen (fun (k:Nat) e H'=>k≤s.length∧(Yb (s.drop k) k && (decide (1≤s.length) && decide (s.length≤64))) = r∧qf e 0 = some (.str s)∧qf e 3 = some (.int .i64 k)∧H' = []) (fun k=>s.length - k) 0 ?_ ?_
 ·simpa using hr
 rintro k e H' ⟨hk,hR,k0,k3,rfl⟩;by_cases qg:k < s.length
 ·have qk:(k:Int) < (s.length:Int):=by omega
  have hw:IntKind.i64.wrap ((k:Int)+1) = ((k+1:Nat):Int):=by rw [wrap_i64] <;> omega
  have qW:s[k]? = some s[k]:=zi qg;rw [zm qg,Yb] at hR;generalize s[k] = c at *;have hnx:(Zf c && (decide (0 < k) || !KB c)) = true→∃ j:Nat,s.length - j < s.length - k∧j≤s.length∧(Yb (s.drop j) j && (decide (1≤s.length) && decide (s.length≤64))) = r∧(j:Int) = (k:Int)+1:=fun h=>⟨k+1,by omega,by omega,by rw [h,vS] at hR;exact hR,by omega⟩;have zT:(Zf c && (decide (0 < k) || !KB c)) = false→r = false:=fun h=>by rw [h,Z3,Z3] at hR;exact hR.symm
  cases hb:(Zf c && (decide (0 < k) || !KB c)) with
  | true =>
   obtain ⟨j,j1,j2,j3,j4⟩:=hnx hb;simp [Zf,KB] at hb;by_cases h1:(48:Int)≤(c.toNat:Int) <;> by_cases h2:(c.toNat:Int)≤57 <;> rcases (show ((k = 0) = True∧(0 < k) = False)∨((k = 0) = False∧(0 < k) = True) by by_cases kj:k = 0;exact .inl ⟨eq_true kj,eq_false (by omega)⟩;exact .inr ⟨eq_false kj,eq_true (by omega)⟩) with ⟨h3,h3'⟩ | ⟨h3,h3'⟩ <;> by_cases h4:(65:Int)≤(c.toNat:Int) <;> by_cases h5:(c.toNat:Int)≤90 <;> by_cases h6:(c.toNat:Int) = 95 <;> try (exfalso;simp at h3;omega)
   all_goals simp [k0,k3,qk,qW,hw,h1,h2,h3',h4,h5,h6]
   all_goals exact ⟨j,j1,j2,j3,by omega⟩
  | false =>
   have:=zT hb;subst this;simp [Zf,KB] at hb;by_cases h1:(48:Int)≤(c.toNat:Int) <;> by_cases h2:(c.toNat:Int)≤57 <;> rcases (show ((k = 0) = True∧(0 < k) = False)∨((k = 0) = False∧(0 < k) = True) by by_cases kj:k = 0;exact .inl ⟨eq_true kj,eq_false (by omega)⟩;exact .inr ⟨eq_false kj,eq_true (by omega)⟩) with ⟨h3,h3'⟩ | ⟨h3,h3'⟩ <;> by_cases h4:(65:Int)≤(c.toNat:Int) <;> by_cases h5:(c.toNat:Int)≤90 <;> by_cases h6:(c.toNat:Int) = 95 <;> try (exfalso;simp at h3;omega)
   all_goals simp [k0,k3,qk,qW,h1,h2,h3',h4,h5,h6]
 ·have qk:¬ (k:Int) < (s.length:Int):=by omega
  rw [zX (by omega),Yb,vS] at hR;by_cases h1:1≤s.length
  ·have QV:(1:Int)≤(s.length:Int):=(by omega);by_cases h2:s.length≤64
   ·have Qh:(s.length:Int)≤64:=(by omega);simp only [h1,h2,decide_true,Bool.and_self] at hR;subst hR;simp [k0,k3,qk,QV,Qh]
   ·have Qh:¬ (s.length:Int)≤64:=(by omega);simp only [h1,h2,decide_true,decide_false,Bool.and_false] at hR;subst hR;simp [k0,k3,qk,QV,Qh]
  ·have QV:¬ (1:Int)≤(s.length:Int):=(by omega);simp only [h1,decide_false,Z3] at hR;subst hR;simp [k0,k3,qk,QV]
theorem qks [MaxL] [TxtC] (s:List UInt8) (hs:s.length < 1000000):call cx 161 [.str s] [] = some (.bool (kZ s),[]):=qkr s (by omega)
theorem qrc [MaxL] [TxtC] (p:Pr) (hb:p.name.length≤9223372036854775807):call cx 132 [.agg (Enc.cells p)] [] = some (.bool (kY p),[]):=by
 have h:=qkr p.name hb;refine qs Tryz.func132 rfl ⟨rfl,rfl⟩ ?_;unfold kY;cases hn:kZ p.name with
 | false =>
  rw [hn] at h;simp [Tryz.f132,h,Pr.cells]
 | true =>
  rw [hn] at h;by_cases h2:p.value.length≤256
  ·have Qh:(p.value.length:Int)≤256:=(by omega);simp [Tryz.f132,h,Pr.cells,h2,Qh]
  ·have Qh:¬ (p.value.length:Int)≤256:=(by omega);simp [Tryz.f132,h,Pr.cells,h2,Qh]
set_option maxHeartbeats 4000000 in
theorem qra [MaxL] [TxtC] (it:It) (hg:it.gap = true):call cx 88 [.agg (Enc.cells it)] [] = some (.bool (qan it),[]):=by
 refine qs Tryz.func88 rfl ⟨rfl,rfl⟩ ?_;unfold qan;have ve:List.take 17 (qd it.rc.boot.l ++ [(.vsl it.rc.fields.nil (qh it.rc.fields.l) it.rc.fields.l.length)]) = qd it.rc.boot.l ++ [(.vsl it.rc.fields.nil (qh it.rc.fields.l) it.rc.fields.l.length)]:=qx (by simp)
 rcases KI (¬ (1≤it.fr)) with zf | zf
 ·simp [Tryz.f88,hg,zf,ve]
 replace zf:=Classical.not_not.1 zf;rcases KI (¬ (it.fr≤it.til)) with jS | jS
 ·simp [Tryz.f88,hg,zf,jS,ve]
 replace jS:=Classical.not_not.1 jS;rcases KI (¬ (it.rc.seq = 0)) with vC | vC
 ·simp [Tryz.f88,hg,zf,jS,vC,ve]
 replace vC:=Classical.not_not.1 vC;rcases KI (¬ (it.rc.real = 0)) with Jk | Jk
 ·simp [Tryz.f88,hg,zf,jS,vC,Jk,ve]
 replace Jk:=Classical.not_not.1 Jk;rcases KI (¬ (it.rc.mono = 0)) with Vh | Vh
 ·simp [Tryz.f88,hg,zf,jS,vC,Jk,Vh,ve]
 replace Vh:=Classical.not_not.1 Vh;have he:=qe7 it.rc.boot ID.zero;replace he:jT [.i,.i,.i,.i,.i,.i,.i,.i,.i,.i,.i,.i,.i,.i,.i,.i] (qd it.rc.boot.l) [.int .u8 0,.int .u8 0,.int .u8 0,.int .u8 0,.int .u8 0,.int .u8 0,.int .u8 0,.int .u8 0,.int .u8 0,.int .u8 0,.int .u8 0,.int .u8 0,.int .u8 0,.int .u8 0,.int .u8 0,.int .u8 0] = some (it.rc.boot == ID.zero):=he;rcases KI (¬ (it.rc.boot = ID.zero)) with Jq | Jq
 ·have jN:(it.rc.boot == ID.zero) = false:=beq_eq_false_iff_ne.2 Jq;rw [jN] at he;simp [Tryz.f88,hg,zf,jS,vC,Jk,Vh,Jq,he,ve,qD]
 replace Jq:=Classical.not_not.1 Jq;have jN:(it.rc.boot == ID.zero) = true:=by rw [Jq];simp
 rw [jN] at he;have zN:decide (it.rc.boot = ID.zero) = true:=decide_eq_true Jq;clear jN Jq;by_cases zo:it.rc.fields.l.length = 0
 ·have hlen':(it.rc.fields.l.length:Int) = 0:=by omega
  have hld:decide (it.rc.fields.l.length = 0) = true:=decide_eq_true zo;simp [-decide_eq_true_eq,Tryz.f88,hg,zf,jS,vC,Jk,Vh,zN,he,hlen',ve,qD];exact List.length_eq_zero_iff.1 zo
 ·have hlen':¬ (it.rc.fields.l.length:Int) = 0:=by omega
  simp [Tryz.f88,hg,zf,jS,vC,Jk,Vh,zN,zo,he,ve,qD]
set_option maxHeartbeats 4000000 in
theorem qqZ [MaxL] [TxtC] (it:It) (hi:it.Ok) (hg:it.gap = false) (hb:∀ p∈it.rc.fields.l,p.name.length≤9223372036854775807) (hn:it.rc.fields.l.length < 1000000):call cx 88 [.agg (Enc.cells it)] [] = some (.bool (Zp it),[]):=by
 refine qs Tryz.func88 rfl ⟨rfl,rfl⟩ ?_;have hsq:=hi.rc.seq;unfold qA at hsq;obtain ⟨R,hR0⟩:∃ R,R = (decide (it.fr = 0) && decide (it.til = 0) && decide (it.rc.seq≠0) && decide (1≤it.rc.fields.l.length) && decide (it.rc.fields.l.length≤16)):=⟨_,rfl⟩;have hrec:Zp it = (R && it.rc.fields.l.all kY):=by unfold Zp;rw [hR0]
 rw [hrec];have ve:List.take 17 (qd it.rc.boot.l ++ [(.vsl it.rc.fields.nil (qh it.rc.fields.l) it.rc.fields.l.length)]) = qd it.rc.boot.l ++ [(.vsl it.rc.fields.nil (qh it.rc.fields.l) it.rc.fields.l.length)]:=qx (by simp);obtain ⟨r,hr⟩:∃ r,(R && it.rc.fields.l.all kY) = r:=⟨_,rfl⟩;rw [hr];obtain ⟨cit,hcit⟩:∃ l,l = Enc.cells it:=⟨_,rfl⟩;simp [Tryz.f88,hg,ve];refine Run.loopThen (fun (k:Nat) e H'=>k≤it.rc.fields.l.length∧(R && (it.rc.fields.l.drop k).all kY) = r∧qf e 1 = some (.optr 0 39 0)∧qf e 3 = some (.optr 1 20 0)∧qf e 4 = some (.int .i64 k)∧H' = [some (Enc.cells it),some (.int .u64 it.rc.seq :: .int .u64 it.rc.real :: .int .u64 it.rc.mono :: (qd it.rc.boot.l ++ [(.vsl it.rc.fields.nil (qh it.rc.fields.l) it.rc.fields.l.length)]))]) (fun k=>it.rc.fields.l.length - k) 0 ?_ ?_
 ·simpa using hr
 rintro k e H' ⟨hk,hR,k1,k3,k4,rfl⟩;by_cases qg:k < it.rc.fields.l.length
 ·have qk:(k:Int) < (it.rc.fields.l.length:Int):=by omega
  have hw:IntKind.i64.wrap ((k:Int)+1) = ((k+1:Nat):Int):=by rw [wrap_i64] <;> omega
  rw [zm qg,XQ] at hR;have hf:=qrc it.rc.fields.l[k] (hb _ (vw qg));have hnn:=Sl.nn qg;cases hp:kY it.rc.fields.l[k] with
  | true =>
   rw [hp] at hf;rw [hp,vS] at hR;simp [k1,k3,k4,qg,qk,hw,hnn,hf];exact ⟨k+1,by omega,by omega,by simpa using hR,by omega⟩
  | false =>
   rw [hp] at hf;rw [hp,Z3,Bool.and_false] at hR;subst hR;simp [k1,k3,k4,qg,qk,hnn,hf]
 ·have qk:¬ (k:Int) < (it.rc.fields.l.length:Int):=by omega
  rw [zX (by omega)] at hR;have zS:r = R:=by rw [← hR];simp
  subst zS;rw [hR0];by_cases zf:it.fr = 0
  ·by_cases jS:it.til = 0
   ·by_cases vC:it.rc.seq = 0
    ·simp [k1,k3,k4,qk,zf,jS,vC]
    ·have Q8:1≤it.rc.seq:=(by omega);by_cases h1:1≤it.rc.fields.l.length
     ·have QV:(1:Int)≤(it.rc.fields.l.length:Int):=(by omega);by_cases h2:it.rc.fields.l.length≤16
      ·have Qh:(it.rc.fields.l.length:Int)≤16:=(by omega);simp [-decide_eq_true_eq,k1,k3,k4,qk,zf,jS,vC,Q8,QV,Qh,decide_eq_true h1,decide_eq_true h2]
      ·have Qh:¬ (it.rc.fields.l.length:Int)≤16:=(by omega);simp [-decide_eq_true_eq,k1,k3,k4,qk,zf,jS,vC,Q8,QV,Qh,decide_eq_true h1,decide_eq_false h2]
     ·have QV:¬ (1:Int)≤(it.rc.fields.l.length:Int):=(by omega);simp [-decide_eq_true_eq,k1,k3,k4,qk,zf,jS,vC,Q8,QV,decide_eq_false h1]
   ·simp [k1,k3,k4,qk,zf,jS]
  ·simp [k1,k3,k4,qk,zf]
theorem qrb [MaxL] [TxtC] (it:It) (hi:it.Ok) (hb:∀ p∈it.rc.fields.l,p.name.length≤9223372036854775807) (hn:it.rc.fields.l.length < 1000000):call cx 88 [.agg (Enc.cells it)] [] = some (.bool (zM it),[]):=by
 unfold zM;cases hg:it.gap with
 | true=>rw [if_pos rfl];exact qra it hg
 | false=>rw [if_neg (by decide)];exact qqZ it hi hg hb hn
theorem qd5 [MaxL] [TxtC] (it:It) (hi:it.Ok) (hb:∀ p∈it.rc.fields.l,Qw p) (hn:it.rc.fields.l.length < 1000000):call cx 88 [.agg (Enc.cells it)] [] = some (.bool (zM it),[]):=qrb it hi (fun p hp=>by have:=(hb p hp).1;omega) hn
end Go.Ev.S
namespace Go.Ev
open Go Go.Proofs Go.RowKit
section
variable {X:Cx} {ok:Nat→Prop} {w w':World} {ι:qF} {H H':qi}
theorem qom {a:Addr} {j:Nat} {v:Value} (hk:w'.heap[a.block]? = w.heap[a.block]?) (h:w.cell? (a.add j) = some v):w'.cell? (a.add j) = some v:=by
 rw [World.cell?_of_block (w:=w)]
 ·exact h
 ·rw [qcv];exact hk
theorem Rep.same {d:D} {v:Value} (h:Rep ok w ι H d v) (hk:∀ b,ok b→w'.heap[b]? = w.heap[b]?):Rep ok w' ι H d v:=by
 induction h with
 | bool b=>exact .bool b
 | int k n=>exact .int k n
 | str s=>exact .str s
 | nilp=>exact .nilp
 | nilf=>exact .nilf
 | nili=>exact .nili
 | raw v=>exact .raw v
 | agg hl hc h ih=>exact .agg hl hc fun j d hj=>ih j d hj
 | tup hl h ih=>exact .tup hl fun j d hj=>ih j d hj
 | vptr a f ha hc hr h ih=>exact .vptr a f ha hc (fun j d hj=>qom (hk _ (ha d (mem_of_get? hj))) (hr j d hj)) fun j d hj=>ih j d hj
 | optr a hi h=>exact .optr a hi h
 | vnil=>exact .vnil
 | vsl a f ha hc hr h qR ih=>exact .vsl a f ha hc (fun j d hj=>qom (hk _ (ha d (mem_of_get? hj))) (hr j d hj)) (fun j d hj=>ih j d hj) qR
 | osl a hi h qR=>exact .osl a hi h qR
 | fn hl h ih=>exact .fn hl fun j d hj=>ih j d hj
 | iface h ih=>exact .iface ih
theorem qfe (hs:Sim X ok w ι H) (zh:w.heap.size≤w'.heap.size) (hk:∀ b,ok b→w'.heap[b]? = w.heap[b]?) (hn:∀ i ds b s,qq H i = some ds→ι i = some (b,s)→w'.heap[b]? = w.heap[b]?):Sim X ok w' ι H:=by
 refine ⟨fun b h=>jP (hs.okS b h) zh,fun g cs hg=>(hs.glob g cs hg).same hk,hs.inj,fun i ds hd=>?_⟩;obtain ⟨b,arr,e,fr,q1,q2,q3,q4,q5,q6,q7,q8⟩:=hs.blk i ds hd;exact ⟨b,arr,e,fr,q1,q2,by rw [hn i ds b _ hd q1];exact q3,q4,q5,q6,q7,fun j d hj=>(q8 j d hj).same hk⟩
theorem qgg {e:qr} {ts:Array Value} (he:EnvRep ok w ι H e ts) (hk:∀ b,ok b→w'.heap[b]? = w.heap[b]?):EnvRep ok w' ι H e ts:=fun t d ht=>⟨(he t d ht).1,(he t d ht).2.same hk⟩
theorem qeo {F:zn} (hF:JS X F) {nt:Nat} {drw:Bool} {ops:Array Oper} {Q:Exit→Act→World→Prop} {r:List Oper}:∀ {l:List Oper} {e e':qr} {H H':qi} {ok:Nat→Prop} {w:World} {ι:qF} {a:Act},j9 X F nt drw ops l e H = some (e',H') →
  Sim X ok w ι H→EnvRep ok w ι H e a.tmps→nt≤a.tmps.size→(∀ a' w',Out X H.length ok w ι H a e' H' a' w'→wpList X.P ops Q r a' w')→wpList X.P ops Q (l ++ r) a w
 | [],e,e',H,H',ok,w,ι,a,h,hs,he,hn,hQ=>by
  simp only [j9,qu,qN] at h;obtain ⟨rfl,rfl⟩:=h;exact hQ a w ⟨rfl,rfl,ι,ok,hs,he,.refl _ (qB _)⟩
 | o :: l,e,e',H,H',ok,w,ι,a,h,hs,he,hn,hQ=>by
  simp only [j9] at h;split at h
  ·rename_i vM hg;split at h
   ·rename_i d H1 ho;have hw:=qeN he hg;simp only [kt,wpList,hw,if_true];refine .inl ?_;unfold Oper.wp;refine Goes.upon ((qhA hF hs he ho).mono fun v w1 hp=>?_);obtain ⟨ι1,ok1,k1,k2,k3⟩:=hp;obtain ⟨s1,s2⟩:=qbZ a o.dst v;refine qeo hF h k1 (YF (he.evol' hs k3) k2 hn vM) (by omega) fun a2 w2 hout=>hQ a2 w2 ?_;obtain ⟨t1,t2,ι2,ok2,u1,u2,u3⟩:=hout;exact ⟨by omega,by rw [t2,s2],ι2,ok2,u1,u2,k3.trans (u3.mono k3.nle.2)⟩
   ·cases h
  ·rename_i vM hg;have hw:=qeN he hg;simp only [kt,wpList,hw,vT,if_false];obtain ⟨s1,s2⟩:=qbZ a o.dst undef;refine qeo hF h hs (YF he qeR hn vM) (by omega) fun a2 w2 hout=>hQ a2 w2 ?_;obtain ⟨t1,t2,rest⟩:=hout;exact ⟨by omega,by rw [t2,s2],rest⟩
  ·cases h
theorem qeM {P:Program} {ops:Array Oper} {Q:Exit→Act→World→Prop} {r:List Oper} {o:Oper} {c:Call} {f:Nat} {a:Act} (hg:o.guard = none) (ho:o.op = .call c) (hc:c.callee = .value (.func f))
  (h:Goes P (callFunc f (c.args.toList.map a.eval).toArray) w fun v w1=>wpList P ops Q r (a.put o.dst v) w1):wpList P ops Q (o :: r) a w:=by
 have hw:Region.wanted o (yielded ops a.tmps) = true:=by unfold Region.wanted;rw [hg]
 simp only [wpList,hw,if_true];refine .inl ?_;unfold Oper.wp
 have e:execOp a.eval o = callFunc f (c.args.toList.map a.eval).toArray:=by
  simp only [execOp,ho,resolve,hc,Act.eval,Deferred.ofValue];simp only [pure_bind,invoke];congr 1;apply Array.ext';simp
 rw [e];exact Goes.upon h
theorem qiJ (hG:Good X) {f nt n0:Nat} {c:Code} {e e':qr} {ex:Ex} {a:Act} (h:code X f nt n0 c e H = some (ex,e',H')) (hok:QL X f c = true) (hn:n0≤H.length) (hs:Sim X ok w ι H) (he:EnvRep ok w ι H e a.tmps) (ht:nt≤a.tmps.size) :
  c.wp X.P (CQ X n0 ok w ι H a ex e' H') a w:=by
 obtain ⟨n,QA⟩:=code_some.1 h;exact (qjG hG n).2 f nt n0 c e e' H H' ex ok w ι a QA hok hn hs he ht
end
end Go.Ev
namespace Go.Ev
open Go Go.Proofs Go.RowKit Go.Shelf
section
variable {P:Program} {ρ:Ren}
def qjb (w:World) (v v':Value):Prop:= ∀ k,v'.ownBlock = some k→v.ownBlock = some k∨w.heap.size≤k
theorem q0D (w:World) (base:Nat) (t u ty e:TypeId) (i:TypeInfo) (ht:P.underlying t = some (.slice e)) (hu:P.underlying u = some .string) (hi:P.info? e = some i) (hz:i.zero = some (.int .u8 0))
  (YO:i.size = 1) (Yr:i.bytes = 1) (v:Value) (n:Nat) (xs:List Value) (hown:w.ownsRowF base e 1 v n xs) (s:ByteArray)
  (h63:n+s.size≤maxLen) (hbytes:n+s.size≤140737488355328) (hbase:base≤w.heap.size) :
  ∃ v' w',(Builtin.append_ #[t,u] ty #[v,.string s]).run P w = .ok v' w'∧w'.ownsRowF base e 1 v' (n+s.size) (xs ++ Lib.strCells s)∧w.grownBy w' v.ownBlock∧qjb w v v':=by
 obtain ⟨v',w',h1,h2,h3,-⟩:=Lib.run_append_own_stringF (P:=P) w base t u ty e i ht hu hi hz YO Yr v n xs hown s h63 hbytes hbase;refine ⟨v',w',h1,h2,h3,?_⟩;rcases hown.2 with ⟨rfl,rfl⟩ | ⟨g,cap,cur,fz,rfl,Ys,hg,kC,hnc,Vn,hcs,htake⟩
 ·obtain ⟨v1,w1,q1,q2,-,-⟩:=Lib.run_append_own_stringF (P:=P) w w.heap.size t u ty e i ht hu hi hz YO Yr (.slice none 0 0) 0 xs ⟨hown.1,.inl ⟨rfl,rfl⟩⟩ s h63 hbytes (qB _);rw [h1] at q1;injection q1 with e1 e2;subst e1;subst e2;intro k hk;rcases q2.2 with ⟨rfl,_⟩ | ⟨g,cap,cur,fz,rfl,Ys,_⟩
  ·simp [Value.ownBlock] at hk
  ·simp only [Value.ownBlock,qu] at hk;exact .inr (by omega)
 ·have hxl:xs.length = n:=by simpa using hown.1
  by_cases hroom:n+s.size≤cap
  ·have hcs':cur.size = cap:=(by simpa using hcs);have hr:=Lib.run_append_room_stringF (P:=P) w t u ty e i ht hu hi YO g n cap cur fz hg (by simpa using kC) s hroom (by omega);rw [h1] at hr;injection hr with e1 e2;subst e1;intro k hk;exact .inl hk
  ·have holds:∀ j u,xs[j]? = some u→w.cell? ((⟨g,0,none⟩:Addr).add j) = some u:=hown.cells (g:=g) rfl;have hr:=Lib.run_append_grow_string (P:=P) w t u ty e i (.int .u8 0) ht hu hi hz ⟨g,0,none⟩ n cap xs (by rw [YO];simpa using hxl) holds s (by omega) (by simp only [maxLen] at h63;omega) (by rw [Yr];exact growslice_fits (by omega) (by omega));rw [h1] at hr;injection hr with e1 e2;subst e1;intro k hk;simp only [Value.ownBlock,qu] at hk;exact .inr (by omega)
theorem qpf {ops:Array Oper} {rest:List Oper} {o:Oper} {a:Act} {Q:Exit→Act→World→Prop} {w:World} (hgd:o.guard = none) (sl x:Operand) (t u:TypeId)
  (ho:o.op = .call { callee:=.builtin .append,args:= #[sl,x],argTypes:= #[t,u] })
  (base:Nat) (e:TypeId) (i:TypeInfo) (ht:P.underlying t = some (.slice e)) (hu:P.underlying u = some .string) (hi:P.info? e = some i) (hz:i.zero = some (.int .u8 0))
  (YO:i.size = 1) (Yr:i.bytes = 1)
  (v:Value) (n:Nat) (xs:List Value) (hs:a.eval sl = v) (hown:w.ownsRowF base e 1 v n xs) (s:ByteArray) (hx:a.eval x = .string s)
  (h63:n+s.size≤maxLen) (hbytes:n+s.size≤140737488355328) (hbase:base≤w.heap.size)
  (h:∀ v' w',w'.ownsRowF base e 1 v' (n+s.size) (xs ++ Lib.strCells s)→w.grownBy w' v.ownBlock→qjb w v v'→wpList P ops Q rest (a.put o.dst v') w'):wpList P ops Q (o :: rest) a w:=by
 refine wpList_plain hgd fun K hK=>?_;obtain ⟨v',w',hr,h2,h3,h4⟩:=q0D (P:=P) w base t u o.type e i ht hu hi hz YO Yr v n xs hown s h63 hbytes hbase;unfold Oper.wp execOp;simp only [ho,resolve,invoke,builtin,Sem.run_bind,Sem.run_pure,Result.andThen_ok,List.map_toArray,Y6,List.map_nil,hs,hx,hr];exact hK _ _ (h v' w' h2 h3 h4)
theorem qzl (L:Lays.n240 P ρ) (X:Builder.X72 P ρ) (B b:Nat) (bs:List Value) (w:World) (h:Lib.IsBuilderF (ρ.t 72) (ρ.t 5) B b bs w) :
  Calls P (ρ.f 240) #[.pointer (some ⟨b,0,none⟩)] w fun e w'=>e = .returned (.tuple #[])∧(Lib.BuilderAtF (ρ.t 72) (ρ.t 5) B b (.pointer (some ⟨b,0,none⟩)) bs w'∧Below B w w'∧w'.heap.size = w.heap.size∧(∀ k,k≠b→w'.heap[k]? = w.heap[k]?)∧w'.cell? ⟨b,1,none⟩ = w.cell? ⟨b,1,none⟩):=by
 rcases h with h | h
 ·refine (Any.Builder_copyCheck_fresh L X b w h.cell0 h.shape h.frozen0).mono ?_;rintro e w' ⟨rfl,rfl⟩;refine ⟨rfl,h.used _,(Below.refl B w).setCell (p:=⟨b,0,none⟩) h.1 _,by simp [World.setCell],fun k hk=>Below.heap_setCell _ _ _ _ (fun e=>hk e),?_⟩;obtain ⟨_,v,hb,_⟩:=h;simp [World.cell?,World.setCell,qeK,hb]
 ·refine (Any.Builder_copyCheck_used L X b w h.cell0).mono ?_;rintro e w' ⟨rfl,rfl⟩;exact ⟨rfl,h,Below.refl B _,rfl,fun _ _=>rfl,rfl⟩
set_option maxHeartbeats 2000000 in
set_option maxRecDepth 100000 in
theorem qoY (L:Lays.n166 P ρ) (X:Builder.Extra P ρ) (B b:Nat) (bs:List Value) (s:ByteArray) (w:World) (h:Lib.IsBuilderF (ρ.t 72) (ρ.t 5) B b bs w) (zo:bs.length+s.size≤140737488355328) (hBw:B≤w.heap.size) :
  Calls P (ρ.f 166) #[.pointer (some ⟨b,0,none⟩),.string s] w fun e w'=>e = .returned (.tuple #[.int .i64 s.size,.nilIface])∧(Lib.BuilderAtF (ρ.t 72) (ρ.t 5) B b (.pointer (some ⟨b,0,none⟩)) (bs ++ Lib.strCells s) w'∧Below B w w' ∧
   (∀ k,k < w.heap.size→k≠b→(∀ v,w.cell? ⟨b,1,none⟩ = some v→v.ownBlock≠some k)→w'.heap[k]? = w.heap[k]?) ∧
   ∀ v v',w.cell? ⟨b,1,none⟩ = some v→w'.cell? ⟨b,1,none⟩ = some v'→qjb w v v'):=by
 obtain ⟨i0,hi,hz0,Yg,Yf⟩:=info_parts X.infoByte;have mixed:=L.mixed;have t72:=L.t72;have a72:=L.a72;have z72:=L.z72;have v72:=L.v72;have u72:=run_underlying L.t72;have t70:=L.t70;have a70:=L.a70;have z70:=L.z70;have v70:=L.v70;have u70:=run_underlying L.t70;have t37:=L.t37;have a37:=L.a37;have z37:=L.z37;have v37:=L.v37;have u37:=run_underlying L.t37;have t3:=L.t3;have a3:=L.a3;have z3:=L.z3;have v3:=L.v3;have u3:=run_underlying L.t3;have t9:=L.t9;have a9:=L.a9;have z9:=L.z9;have v9:=L.v9;have u9:=run_underlying L.t9;have t4:=L.t4;have a4:=L.a4;have z4:=L.z4;have v4:=L.v4;have u4:=run_underlying L.t4;have t164:=L.t164;have a164:=L.a164;have z164:=L.z164;have v164:=L.v164;have u164:=run_underlying L.t164;have t5:=X.t5;have a5:=X.a5;have z5:=X.z5;have v5:=X.v5;have u5:=run_underlying X.t5;have e240:∀ args w,(callFunc (ρ.f 240) args).run P w = .ok (.enter (ρ.f 240) args) w:=enters_of L.f240 (by kernel_rfl) rfl
 go_enter L.f166,Body.n166_ntmps ρ
 go_wp2_with (go_at_fn (ρ.f 240);refine (qzl { L with } X.toX72 B b bs _ h).mono ?_)
 rintro e w1 ⟨rfl,h1,hb1,hz1',hk1,hc1⟩;obtain ⟨hB,v,hbk,hown,qt⟩:=h1;have c0:w1.cell? ⟨b,0,none⟩ = some (.pointer (some ⟨b,0,none⟩)):=by rw [Lib.cell_of_heap hbk];rfl
 have c1:w1.cell? ⟨b,1,none⟩ = some v:=by rw [Lib.cell_of_heap hbk];rfl
 have c1':=hc1.symm.trans c1;clear hc1
 go_wp2_with (at_builtin;refine qpf rfl _ _ (ρ.t 37) (ρ.t 9) rfl B (ρ.t 5) i0 L.t37 L.t9 hi hz0 Yg Yf _ _ _ rfl hown s rfl ?c3 ?c4 ?c5 ?_)
 case c3=>unfold maxLen;omega
 case c4=>omega
 case c5=>have:=hb1.size;omega
 intro v' w2 hown' hgrow hfresh
 have qg:b < w1.heap.size:=by
  rcases ZU b w1.heap.size with h' | h'
  ·exact h'
  ·simp [qc5 h'] at hbk
 have zE:w2.heap[b]? = some (.cells #[.pointer (some ⟨b,0,none⟩),v] (ρ.t 72) (0,0)):=by
  rw [hgrow.block b qg (fun e=>qt e.symm)];exact hbk
 have d0:w2.cell? ⟨b,0,none⟩ = some (.pointer (some ⟨b,0,none⟩)):=by rw [Lib.cell_of_heap zE];rfl
 have d1:w2.cell? ⟨b,1,none⟩ = some v:=by rw [Lib.cell_of_heap zE];rfl
 have f1:w2.frozen? ⟨b,1,none⟩ = false:=Lib.frozen_of_heap zE 1
 obtain ⟨ao,n',cap,rfl⟩:∃ ao n' cap,v' = .slice ao n' cap:=by
  rcases hown'.2 with ⟨hv,_⟩ | ⟨g,cap,cur,fz,hv,_⟩
  ·exact ⟨_,_,_,hv⟩
  ·exact ⟨_,_,_,hv⟩
 go_wp2
 go_ret2
 refine ⟨rfl,?_,?_,?_,?_⟩
 ·exact Lib.BuilderAtF.put (T:=(ρ.t 72)) (e:=(ρ.t 5)) hB zE (bs':=bs ++ Lib.strCells s) (by simpa [Lib.strCells_length] using hown') X.neB5
 ·exact (hb1.grown hgrow (by have:=hb1.size;omega) (fun k hk=>(hown.lt k hk).1)).setCell (p:=⟨b,1,none⟩) hB _
 ·intro k hk hkb hkv;rw [Below.heap_setCell _ _ _ _ (fun e=>hkb e),hgrow.block k (by omega) (fun e=>hkv v c1' e.symm),hk1 k hkb]
 ·intro v0 v1 h0 h1 k hk;have e0:v0 = v:=qbC (h0.symm.trans c1');subst e0
  have e1:(w2.setCell ⟨b,1,none⟩ (.slice ao n' cap)).cell? ⟨b,1,none⟩ = some (.slice ao n' cap):=by
   simp [World.cell?,World.setCell,qeK,zE]
  have e2:v1 = .slice ao n' cap:=qbC (h1.symm.trans e1);subst e2;have:=hfresh k hk;rw [hz1'] at this;exact this
end
end Go.Ev
namespace Go.Ev
open Go Go.Proofs Go.RowKit Go.Shelf
def Cov (w:World) (b k:Nat):Prop:=k = b∨∃ v,w.cell? ⟨b,1,none⟩ = some v∧v.ownBlock = some k
section
variable {T e:TypeId} {B b:Nat} {bs:List Value} {w w':World}
theorem qo0 (h:Lib.IsBuilderF T e B b bs w):∃ p v,w.heap[b]? = some (.cells #[p,v] T (0,0))∧w.ownsRowF B e 1 v bs.length bs∧v.ownBlock≠some b∧w.cell? ⟨b,1,none⟩ = some v∧B≤b:=by
 rcases h with ⟨hB,v,hb,hown,qt⟩ | ⟨hB,v,hb,hown,qt⟩
 ·exact ⟨_,v,hb,hown,qt,by rw [Lib.cell_of_heap hb];rfl,hB⟩
 ·exact ⟨_,v,hb,hown,qt,by rw [Lib.cell_of_heap hb];rfl,hB⟩
theorem qf8 {k:Nat} {o:Obj} (h:w.heap[k]? = some o):k < w.heap.size:=by
 rcases ZU k w.heap.size with h' | h'
 ·exact h'
 ·rw [qc5 h'] at h;cases h
theorem qeu (h:Lib.IsBuilderF T e B b bs w) {k:Nat} (hk:Cov w b k):k < w.heap.size∧B≤k:=by
 obtain ⟨p,v,h1,h2,h3,h4,h5⟩:=qo0 h;rcases hk with rfl | ⟨v',hv,hk⟩
 ·exact ⟨qf8 h1,h5⟩
 ·obtain rfl:=qbC (hv.symm.trans h4);rcases h2.2 with ⟨rfl,_⟩ | ⟨g,cap,cur,fz,rfl,Ys,hg,_⟩
  ·simp [Value.ownBlock] at hk
  ·simp only [Value.ownBlock,qu] at hk;subst hk;exact ⟨qf8 hg,Ys⟩
theorem qln {v:Value} {n:Nat} {xs:List Value} (h:w.ownsRowF B e 1 v n xs) (hk:∀ k,v.ownBlock = some k→w'.heap[k]? = w.heap[k]?):w'.ownsRowF B e 1 v n xs:=by
 refine ⟨h.1,?_⟩;rcases h.2 with h | ⟨g,cap,cur,fz,rfl,Ys,hg,rest⟩
 ·exact .inl h
 ·exact .inr ⟨g,cap,cur,fz,rfl,Ys,by rw [hk g rfl];exact hg,rest⟩
theorem q0s (h:Lib.IsBuilderF T e B b bs w) (hk:∀ k,Cov w b k→w'.heap[k]? = w.heap[k]?):Lib.IsBuilderF T e B b bs w'∧w'.cell? ⟨b,1,none⟩ = w.cell? ⟨b,1,none⟩:=by
 have hb:=hk b (.inl rfl);have hc:w'.cell? ⟨b,1,none⟩ = w.cell? ⟨b,1,none⟩:=World.cell?_of_block hb;refine ⟨?_,hc⟩;have hrow:∀ v,w.cell? ⟨b,1,none⟩ = some v→∀ k,v.ownBlock = some k→w'.heap[k]? = w.heap[k]?:=fun v hv k hvk=>hk k (.inr ⟨v,hv,hvk⟩);rcases h with ⟨hB,v,h1,hown,qt⟩ | ⟨hB,v,h1,hown,qt⟩
 ·exact .inl ⟨hB,v,by rw [hb];exact h1,qln hown (hrow v (by rw [Lib.cell_of_heap h1];rfl)),qt⟩
 ·exact .inr ⟨hB,v,by rw [hb];exact h1,qln hown (hrow v (by rw [Lib.cell_of_heap h1];rfl)),qt⟩
end
structure HSt (X:Cx) (ok0:Nat→Prop) (w0:World) (T e:TypeId) (b:Nat) (l:List UInt8) (ev:qr) (H:qi) (a:Act) (w:World):Prop where
 st:∃ ok ι,Sim X ok w ι H∧EnvRep ok w ι H ev a.tmps∧Evol 0 ok0 w0 zg [] ok w ι H∧∀ k,Cov w b k→¬ ok k∧∀ i ds s,qq H i = some ds→ι i≠some (k,s)
 lo:w0.heap.size≤b
 bl:Lib.IsBuilderF T e b b (Lib.byteCells l) w
section
variable {X:Cx} {ok0:Nat→Prop} {w0:World} {T e:TypeId} {b:Nat} {l:List UInt8} {ev ev':qr} {H H':qi} {a:Act} {w:World}
theorem qmy {ok:Nat→Prop} {ι:qF} (_:Sim X ok w ι H) (hev:Evol 0 ok0 w0 zg [] ok w ι H) (hap:∀ k,Cov w b k→¬ ok k∧∀ i ds s,qq H i = some ds→ι i≠some (k,s))
  (kx:w0.heap.size≤b) (QT:Lib.IsBuilderF T e b b (Lib.byteCells l) w) {n:Nat} {a':Act} {w':World} (ho:Out X n ok w ι H a ev' H' a' w'):HSt X ok0 w0 T e b l ev' H' a' w':=by
 obtain ⟨t1,t2,ι',ok',s1,s2,s3⟩:=ho;have hk:∀ k,Cov w b k→w'.heap[k]? = w.heap[k]?:=fun k hc=>s3.frame k (qeu QT hc).1 (hap k hc).2;obtain ⟨hbl',Zw⟩:=q0s QT hk;refine ⟨⟨ok',ι',s1,s2,hev.trans (s3.mono (jk _)),?_⟩,kx,hbl'⟩;intro k hc
 have hcw:Cov w b k:=by
  rcases hc with rfl | ⟨v,hv,hvk⟩
  ·exact .inl rfl
  ·exact .inr ⟨v,by rw [← Zw];exact hv,hvk⟩
 have qg:=(qeu QT hcw).1;obtain ⟨h1,h2⟩:=hap k hcw;refine ⟨fun hok=>?_,fun i ds s hd he=>?_⟩
 ·rcases s3.okN k hok qg with h | ⟨i,ds,s,hd,he⟩
  ·exact h1 h
  ·exact h2 i ds s hd he
 ·obtain ⟨j,ds',s',zp,he'⟩:=s3.own i ds k s hd he qg;exact h2 j ds' s' zp he'
theorem HSt.code (hG:Good X) (h:HSt X ok0 w0 T e b l ev H a w) {f nt:Nat} {c:Code} {ex:Ex} (hc:Ev.code X f nt 0 c ev H = some (ex,ev',H')) (hok:QL X f c = true) (ht:nt≤a.tmps.size) {Q:Exit→Act→World→Prop}
  (hQ:∀ a' w',a'.tmps.size = a.tmps.size→a'.defers = a.defers→HSt X ok0 w0 T e b l ev' H' a' w'→Q (qcp ex) a' w'):c.wp X.P Q a w:=by
 obtain ⟨ok,ι,hs,he,hev,hap⟩:=h.st;refine wp_mono (qiJ hG hc hok (jk _) hs he ht) ?_;rintro x a' w' ⟨rfl,hout⟩;exact hQ a' w' hout.1 hout.2.1 (qmy hs hev hap h.lo h.bl hout)
theorem HSt.ops (hG:Good X) (h:HSt X ok0 w0 T e b l ev H a w) {nt:Nat} {ops:Array Oper} {l1 l2:List Oper} (hc:j9 X (call X) nt false ops l1 ev H = some (ev',H')) (ht:nt≤a.tmps.size) {Q:Exit→Act→World→Prop}
  (hQ:∀ a' w',a'.tmps.size = a.tmps.size→a'.defers = a.defers→HSt X ok0 w0 T e b l ev' H' a' w'→wpList X.P ops Q l2 a' w'):wpList X.P ops Q (l1 ++ l2) a w:=by
 obtain ⟨ok,ι,hs,he,hev,hap⟩:=h.st;exact qeo (qgs hG) hc hs he ht fun a' w' hout=>hQ a' w' hout.1 hout.2.1 (qmy hs hev hap h.lo h.bl hout)
theorem HSt.slot (h:HSt X ok0 w0 T e b l ev H a w) {t:Nat} {v:Value} (ht:qf ev t = some (.raw v)):a.tmps.getD t undef = v:=by
 obtain ⟨ok,ι,hs,he,hev,hap⟩:=h.st;have:=(he t _ ht).2;generalize a.tmps.getD t undef = x at this ⊢;cases this;rfl
theorem HSt.slotS (h:HSt X ok0 w0 T e b l ev H a w) {t:Nat} {s:List UInt8} (ht:qf ev t = some (.str s)):a.tmps.getD t undef = .string ⟨s.toArray⟩:=by
 obtain ⟨ok,ι,hs,he,hev,hap⟩:=h.st;have:=(he t _ ht).2;generalize a.tmps.getD t undef = x at this ⊢;cases this;rfl
end
section
variable {X:Cx} {ρ:Ren} {ok0:Nat→Prop} {w0:World} {b:Nat} {l:List UInt8} {ev:qr} {H:qi} {a:Act} {w:World}
theorem HSt.write (L:Lays.n166 X.P ρ) (E:Builder.Extra X.P ρ) (h:HSt X ok0 w0 (ρ.t 72) (ρ.t 5) b l ev H a w) (s:List UInt8) (hl:l.length+s.length≤140737488355328) :
  Goes X.P (callFunc (ρ.f 166) #[.pointer (some ⟨b,0,none⟩),.string ⟨s.toArray⟩]) w fun v w'=>HSt X ok0 w0 (ρ.t 72) (ρ.t 5) b (l ++ s) ev H a w'∧Rep (fun _=>False) w' zg [] (.tup [.int .i64 s.length,.nili]) v:=by
 obtain ⟨ok,ι,hs,he,hev,hap⟩:=h.st;have v6:∀ args w,(callFunc (ρ.f 166) args).run X.P w = .ok (.enter (ρ.f 166) args) w:=Go.Proofs.enters_of L.f166 (by kernel_rfl) rfl;have zh:(⟨s.toArray⟩:ByteArray).size = s.length:=Xl s;have ZJ:=qeu h.bl (.inl rfl);unfold Goes;rw [v6];refine (qoY L E b b _ ⟨s.toArray⟩ w h.bl (by rw [Lib.byteCells_length,zh];exact hl) (by omega)).mono ?_;rintro e w' ⟨rfl,hbl',hbel,hx,zf⟩;have Yi:∀ k,k < w.heap.size→¬ Cov w b k→w'.heap[k]? = w.heap[k]?:=fun k hk hc=>hx k hk (fun e=>hc (.inl e)) (fun v hv e=>hc (.inr ⟨v,hv,e⟩));have hok:∀ k,ok k→w'.heap[k]? = w.heap[k]?:=fun k hk=>Yi k (hs.okS k hk) fun hc=>(hap k hc).1 hk;have ZD:∀ i ds c s,qq H i = some ds→ι i = some (c,s)→w'.heap[c]? = w.heap[c]?:=fun i ds c s hd hi=>Yi c (hs.lt hd hi) fun hc=>(hap c hc).2 i ds s hd hi
 have hcat:Lib.byteCells l ++ Lib.strCells ⟨s.toArray⟩ = Lib.byteCells (l ++ s):=by
  rw [Lib.strCells_eq,← Lib.byteCells_append]
 rw [hcat] at hbl';refine ⟨_,rfl,⟨⟨ok,ι,qfe hs hbel.size hok ZD,qgg he hok,?_,?_⟩,h.lo,.inr hbl'⟩,?_⟩
 ·refine ⟨hbel.os.trans hev.os,hbel.tape.trans hev.tape,hbel.output.trans hev.output,kr hev.size hbel.size,fun k hk zT=>?_,hev.okU,hev.okN,hev.nle,hev.heap,hev.own⟩;rw [hbel.block k (jP hk h.lo)];exact hev.frame k hk zT
 ·intro k hc;rcases hc with rfl | ⟨v',hv',hk⟩
  ·exact hap _ (.inl rfl)
  ·obtain ⟨p,v,q1,q2,q3,q4,q5⟩:=qo0 h.bl;rcases zf v v' q4 hv' k hk with h1 | h1
   ·exact hap k (.inr ⟨v,q4,h1⟩)
   ·refine ⟨fun hok=>?_,fun i ds s hd hi=>?_⟩
    ·have:=hs.okS k hok;omega
    ·have:=hs.lt hd hi;omega
 ·refine .tup rfl fun j d hj=>?_
  match j,hj with
  | 0,hj =>
   simp at hj;subst hj;rw [zh];exact .int .i64 _
  | 1,hj =>
   simp at hj;subst hj;exact .nili
  | j+2,hj=>simp at hj
end
end Go.Ev
namespace Go.Ev
open Go Go.Proofs Go.RowKit Go.Shelf
section
variable {X:Cx} {ok0:Nat→Prop} {w0:World} {T e:TypeId} {b:Nat} {l:List UInt8} {ev ev':qr} {H H':qi} {a:Act} {w:World}
theorem qhb {f nt n0:Nat} {Q:Ex→qr→qi→Prop} {o:Option (Ex × qr × qi)} (h:Run X f nt n0 Q [] o):∃ ex e1 H1,o = some (ex,e1,H1)∧Q ex e1 H1:=by
 cases o with
 | none=>rw [kv] at h;exact h.elim
 | some q =>
  obtain ⟨ex,e1,H1⟩:=q;rw [Kc] at h;exact ⟨ex,e1,H1,rfl,h⟩
theorem HSt.run (hG:Good X) (h:HSt X ok0 w0 T e b l ev H a w) {f nt:Nat} {c:Code} (hok:QL X f c = true) (ht:nt≤a.tmps.size) {K:Exit→Act→World→Prop}
  (hR:Run X f nt 0 (fun ex e1 H1=>∀ a' w',a'.tmps.size = a.tmps.size→a'.defers = a.defers→HSt X ok0 w0 T e b l e1 H1 a' w'→K (qcp ex) a' w') [] (Ev.code X f nt 0 (kb c) ev H)):c.wp X.P K a w:=by
 obtain ⟨ex,e1,H1,h1,h2⟩:=qhb hR;rw [qgn] at h1;exact h.code hG h1 hok ht h2
structure PSt (X:Cx) (ok0:Nat→Prop) (w0:World) (ev:qr) (H:qi) (a:Act) (w:World):Prop where
 st:∃ ok ι,Sim X ok w ι H∧EnvRep ok w ι H ev a.tmps∧Evol 0 ok0 w0 zg [] ok w ι H
theorem PSt.run (hG:Good X) (h:PSt X ok0 w0 ev H a w) {f nt:Nat} {c:Code} (hok:QL X f c = true) (ht:nt≤a.tmps.size) {K:Exit→Act→World→Prop}
  (hR:Run X f nt 0 (fun ex e1 H1=>∀ a' w',a'.tmps.size = a.tmps.size→a'.defers = a.defers→PSt X ok0 w0 e1 H1 a' w'→K (qcp ex) a' w') [] (Ev.code X f nt 0 (kb c) ev H)):c.wp X.P K a w:=by
 obtain ⟨ex,e1,H1,h1,h2⟩:=qhb hR;rw [qgn] at h1;obtain ⟨ok,ι,hs,he,hev⟩:=h.st;refine wp_mono (qiJ hG h1 hok (jk _) hs he ht) ?_;rintro x a' w' ⟨rfl,t1,t2,ι',ok',s1,s2,s3⟩;exact h2 a' w' t1 t2 ⟨⟨ok',ι',s1,s2,hev.trans (s3.mono (jk _))⟩⟩
theorem PSt.make (h:PSt X ok0 w0 ev H a w) {t nt:Nat} {T e:TypeId} (_:T≠e) (ht:t < nt) (hn:nt≤a.tmps.size) :
  HSt X ok0 w0 T e w.heap.size [] ((t,.raw (.pointer (some ⟨w.heap.size,0,none⟩))) :: ev) H (a.put (some t) (.pointer (some ⟨w.heap.size,0,none⟩))) (w.alloc (.cells #[.pointer none,.slice none 0 0] T)):=by
 obtain ⟨ok,ι,hs,he,hev⟩:=h.st;have hold:∀ k,k < w.heap.size→(w.alloc (.cells #[.pointer none,.slice none 0 0] T)).heap[k]? = w.heap[k]?:=fun k hk=>Lib.alloc_old w _ k hk;have zh:w.heap.size≤(w.alloc (.cells #[.pointer none,.slice none 0 0] T)).heap.size:=by simp
 have hok:∀ k,ok k→(w.alloc (.cells #[.pointer none,.slice none 0 0] T)).heap[k]? = w.heap[k]?:=fun k hk=>hold k (hs.okS k hk);have zf:=Lib.IsBuilderF.of (Lib.fresh_isBuilder T e w);refine ⟨⟨ok,ι,qfe hs zh hok fun i ds c s hd hi=>hold c (hs.lt hd hi),?_,?_,?_⟩,hev.size,zf⟩
 ·exact YF (dst:=some t) (qgg he hok) (.raw _) hn (by simpa [vv] using ht)
 ·refine ⟨hev.os,hev.tape,hev.output,kr hev.size zh,fun k hk zT=>?_,hev.okU,hev.okN,hev.nle,hev.heap,hev.own⟩;rw [hold k (jP hk hev.size)];exact hev.frame k hk zT
 ·intro k hc
  have hge:w.heap.size≤k:=by
   have:=qeu zf hc;exact this.2
  refine ⟨fun hk=>?_,fun i ds s hd hi=>?_⟩
  ·have:=hs.okS k hk;omega
  ·have:=hs.lt hd hi;omega
end
end Go.Ev
namespace Go.Proofs
open Go.Shelf
def Tryz.layW_ren:Go.Shelf.Ren:=⟨fun | 166=>101 | 240=>143 | 276=>168 | n=>n,fun | 0=>0 | 3=>3 | 4=>4 | 5=>5 | 9=>9 | 20=>20 | 37=>34 | 70=>150 | 72=>152 | 75=>158 | 80=>162 | 164=>205 | n=>n,fun n=>n⟩
theorem Tryz.layW:Lays.n166 Tryz.prog Tryz.layW_ren:={
 mixed:=by kernel_rfl
 f166:=Tryz.func101.trans (congrArg some (by kernel_rfl))
 f240:=Tryz.func143.trans (congrArg some (by kernel_rfl))
 f276:=Tryz.func168.trans (congrArg some (by kernel_rfl))
 t0:=Tryz.underlying0
 a0:=Tryz.isAgg0
 z0:=Tryz.sizeOf0
 v0:=Tryz.zeroValue0
 t3:=Tryz.underlying3
 a3:=Tryz.isAgg3
 z3:=Tryz.sizeOf3
 v3:=Tryz.zeroValue3
 t4:=Tryz.underlying4
 a4:=Tryz.isAgg4
 z4:=Tryz.sizeOf4
 v4:=Tryz.zeroValue4
 t9:=Tryz.underlying9
 a9:=Tryz.isAgg9
 z9:=Tryz.sizeOf9
 v9:=Tryz.zeroValue9
 t20:=Tryz.underlying20
 a20:=Tryz.isAgg20
 z20:=Tryz.sizeOf20
 v20:=Tryz.zeroValue20
 t37:=Tryz.underlying34
 a37:=Tryz.isAgg34
 z37:=Tryz.sizeOf34
 v37:=Tryz.zeroValue34
 t70:=Tryz.underlying150
 a70:=Tryz.isAgg150
 z70:=Tryz.sizeOf150
 v70:=Tryz.zeroValue150
 t72:=Tryz.underlying152
 a72:=Tryz.isAgg152
 z72:=Tryz.sizeOf152
 v72:=Tryz.zeroValue152
 t75:=Tryz.underlying158
 a75:=Tryz.isAgg158
 z75:=Tryz.sizeOf158
 v75:=Tryz.zeroValue158
 t164:=Tryz.underlying205
 a164:=Tryz.isAgg205
 z164:=Tryz.sizeOf205
 v164:=Tryz.zeroValue205 }
theorem Tryz.layW_X:Builder.Extra Tryz.prog Tryz.layW_ren:={
 sizeBuilder:=by kernel_rfl
 liesBuilder:=by kernel_rfl
 t5:=Tryz.underlying5
 a5:=Tryz.isAgg5
 z5:=Tryz.sizeOf5
 v5:=Tryz.zeroValue5
 infoByte:=by kernel_rfl
 cellsByte:=by kernel_rfl
 sizeByte:=by kernel_rfl
 neB5:=by decide }
end Go.Proofs
namespace Go.Ev.S
open Go Go.Proofs Go.Ev Go.RowKit
def KQ:List UInt8:=[95,95,67,85,82,83,79,82,61]
def JE:List UInt8:=[95,95,82,69,65,76,84,73,77,69,95,84,73,77,69,83,84,65,77,80,61]
def JF:List UInt8:=[95,95,77,79,78,79,84,79,78,73,67,95,84,73,77,69,83,84,65,77,80,61]
def JD:List UInt8:=[95,95,83,69,81,78,85,77,61]
def jW:List UInt8:=[95,95,83,69,81,78,85,77,95,73,68,61]
def Z8:List UInt8:=[95,66,79,79,84,95,73,68,61]
def J1 (it:It):List (List UInt8):=[KQ ++ JW (JP it.id it.rc),JE ++ qE it.rc.real.toNat,JF ++ qE it.rc.mono.toNat,JD ++ qE it.rc.seq.toNat,jW ++ zu it.id.l,Z8 ++ zu it.rc.boot.l]
def Zu (L:List (List UInt8)):List UInt8:=(L.map (· ++ [10])).flatten
def jo (F:List Pr):List UInt8:=(F.map Q0).flatten
def vx (it:It):List UInt8:=Zu (J1 it) ++ jo it.rc.fields.l ++ [10]
def sL:Code→Code
 | .seq a _=>a
 | c=>c
def sR:Code→Code
 | .seq _ b=>b
 | c=>c
def cB:Code→Code
 | .block _ c=>c
 | .loop c=>c
 | c=>c
theorem ZZ {P:Program} {c:Code} {Q:Exit→Act→World→Prop} {a:Act} {w:World} (hc:c = .seq (sL c) (sR c)) (h:∀ K:Exit→Act→World→Prop,(∀ a w,(sR c).wp P Q a w→K .normal a w)→(∀ x a w,x≠.normal→Q x a w→K x a w)→(sL c).wp P K a w):c.wp P Q a w:=by
 rw [hc];refine wp_seq (h _ (fun a w h=>h) fun x a w hx hq=>?_);cases x <;> first | exact absurd rfl hx | exact hq
noncomputable def tx0:Code:=qY Tryz.f64
noncomputable def Qy:Code:=sR tx0
noncomputable def QH:Code:=sR Qy
noncomputable def Za:Code:=sR QH
noncomputable def tx4:Code:=sR Za
noncomputable def tx5:Code:=sR tx4
set_option maxHeartbeats 4000000 in
set_option maxRecDepth 4000 in
theorem qpw [MaxL] [TxtC] (hT:JR) (it:It) (hg:it.gap = false) (hr:Zp it = true) (hb:∀ p∈it.rc.fields.l,Qw p) (hn:it.rc.fields.l.length < 1000000)
  (ok0:Nat→Prop) (w0:World) (a:Act) (hs:Sim cx ok0 w0 zg []) (he:EnvRep ok0 w0 zg [] (Qv 0 [.agg (Enc.cells it)]) a.tmps) (ht:83≤a.tmps.size) {K:Exit→Act→World→Prop}
  (hK:∀ a' w' e',a'.tmps.size = a.tmps.size→a'.defers = a.defers→qf e' 3 = some (.optr 1 20 0)→qf e' 1 = some (.optr 0 39 0)→PSt cx ok0 w0 e' [some (Enc.cells it),some (Enc.cells it.rc)] a' w'→tx4.wp cx.P K a' w') :
  tx0.wp cx.P K a w0:=by
 have hG:=Vt hT;have hp0:PSt cx ok0 w0 (Qv 0 [.agg (Enc.cells it)]) [] a w0:=⟨⟨ok0,zg,hs,he,.refl _ (qB _)⟩⟩;have hw:=qg8 it hb hn;unfold zM at hw;rw [hg,if_neg (by decide),hr] at hw;have ve:List.take 17 (qd it.rc.boot.l ++ [(.vsl it.rc.fields.nil (qh it.rc.fields.l) it.rc.fields.l.length)]) = qd it.rc.boot.l ++ [(.vsl it.rc.fields.nil (qh it.rc.fields.l) it.rc.fields.l.length)]:=qx (by simp);refine ZZ (c:=tx0) rfl fun K0 k0 _=>?_;refine hp0.run hG (f:=64) (nt:=83) (by kernel_rfl) ht ?_;simp [sL,tx0,qY,Tryz.f64];intro a1 w1 s1 d1 h1;refine k0 _ _ ?_;refine ZZ (c:=Qy) rfl fun K1 k1 _=>?_;refine h1.run hG (f:=64) (nt:=83) (by kernel_rfl) (by omega) ?_;simp [sL,sR,Qy,tx0,qY,Tryz.f64,hw];intro a2 w2 s2 d2 h2;refine k1 _ _ ?_;refine ZZ (c:=QH) rfl fun K2 k2 _=>?_;refine h2.run hG (f:=64) (nt:=83) (by kernel_rfl) (by omega) ?_;simp [sL,sR,QH,Qy,tx0,qY,Tryz.f64,hg];intro a3 w3 s3 d3 h3;refine k2 _ _ ?_;refine ZZ (c:=Za) rfl fun K3 k3 _=>?_;refine h3.run hG (f:=64) (nt:=83) (by kernel_rfl) (by omega) ?_;simp [sL,sR,Za,QH,Qy,tx0,qY,Tryz.f64,ve];intro a4 w4 s4 d4 h4;exact k3 _ _ (hK a4 w4 _ (by omega) (by simp [d4,d3,d2,d1]) (by simp) (by simp) h4)
end Go.Ev.S
namespace Go.Ev
open Go Go.Proofs Go.RowKit Go.Shelf
theorem qpe {P:Program} {ops:Array Oper} {Q:Exit→Act→World→Prop} {r:List Oper} {o:Oper} {t:TypeId} {zv:Value} {a:Act} {w:World} (hg:o.guard = none) (ho:o.op = .alloc t) (hz:∀ w,(zeroValue t).run P w = .ok zv w)
  (h:wpList P ops Q r (a.put o.dst (.pointer (some ⟨w.heap.size,0,none⟩))) (w.alloc (.cells zv.cells t))):wpList P ops Q (o :: r) a w:=by
 have hw:Region.wanted o (yielded ops a.tmps) = true:=by unfold Region.wanted;rw [hg]
 simp only [wpList,hw,if_true];refine .inl ?_;unfold Oper.wp;refine Goes.upon (Goes.value (v:=.pointer (some ⟨w.heap.size,0,none⟩)) (w':=w.alloc (.cells zv.cells t)) ?_ h);simp [execOp,ho,Instr.alloc,hz,newVar,newRow]
section
variable {X:Cx} {ok0:Nat→Prop} {w0:World} {T e:TypeId} {b:Nat} {l:List UInt8} {ev ev':qr} {H H':qi} {a:Act} {w:World}
theorem HSt.slotI (h:HSt X ok0 w0 T e b l ev H a w) {t:Nat} {k:IntKind} {n:Int} (ht:qf ev t = some (.int k n)):a.tmps.getD t undef = .int k n:=by
 obtain ⟨ok,ι,hs,he,hev,hap⟩:=h.st;have:=(he t _ ht).2;generalize a.tmps.getD t undef = x at this ⊢;cases this;rfl
theorem HSt.put (h:HSt X ok0 w0 T e b l ev H a w) {t:Nat} {d:D} {v:Value} (hd:Rep (fun _=>False) w zg [] d v) (ht:t < a.tmps.size):HSt X ok0 w0 T e b l ((t,d) :: ev) H (a.put (some t) v) w:=by
 obtain ⟨ok,ι,hs,he,hev,hap⟩:=h.st;refine ⟨⟨ok,ι,hs,?_,hev,hap⟩,h.lo,h.bl⟩;exact YF (nt:=a.tmps.size) (dst:=some t) he ((hd.okMono fun b hb=>hb.elim).lift) (qB _) (by simpa [vv] using ht)
end
end Go.Ev
namespace Go.Ev.S
open Go Go.Proofs Go.Ev Go.RowKit
theorem qoW (a b:Int):qA (zt .u64 a b):=by
 unfold zt qA;simp only [IntKind.wrap,IntKind.signed,IntKind.bits];simp;omega
theorem qjg:∀ (L:List (List UInt8)) (v:Int),qA v→qA (QF L v)
 | [],v,h=>h
 | b :: l,v,h=>by rw [QF];exact qjg l _ (qoW _ _)
theorem qoq (q:ID) (r:Rec) (h:r.Ok):CurOk (JP q r):=⟨h.seq,h.mono,h.real,qjg _ _ (by unfold qA;omega)⟩
set_option maxHeartbeats 4000000 in
set_option maxRecDepth 4000 in
theorem qpx [MaxL] [TxtC] (_:JR) (it:It) (ok0:Nat→Prop) (w0:World) (a:Act) (w:World) (e:qr) (ht:83≤a.tmps.size) (k3:qf e 3 = some (.optr 1 20 0)) (k1:qf e 1 = some (.optr 0 39 0))
  (h:PSt cx ok0 w0 e [some (Enc.cells it),some (Enc.cells it.rc)] a w) {K:Exit→Act→World→Prop}
  (hK:∀ a' w' e' b,a'.tmps.size = a.tmps.size→a'.defers = a.defers→qf e' 3 = some (.optr 1 20 0)→qf e' 1 = some (.optr 0 39 0)→qf e' 4 = some (.raw (.pointer (some ⟨b,0,none⟩))) →
   HSt cx ok0 w0 152 5 b [] e' [some (Enc.cells it),some (Enc.cells it.rc)] a' w'→tx5.wp cx.P K a' w'):tx4.wp cx.P K a w:=by
 refine ZZ (c:=tx4) rfl fun K4 k4 _=>?_;refine wp_region_list (qpe rfl rfl Tryz.zeroValue152 ?_);have hm:=h.make (t:=4) (nt:=83) (T:=152) (e:=5) (by decide) (by omega) ht;exact k4 _ _ (hK _ _ _ _ (by simp [Act.put]) (by simp [Act.put]) (by simpa [qf] using k3) (by simpa [qf] using k1) (by simp [qf]) hm)
theorem qpD {P:Program} {Q:Exit→Act→World→Prop} {a:Act} {w:World} (h:(sL (sL tx5)).wp P (Exit.then ((sR (sL tx5)).wp P (Exit.then ((sR tx5).wp P Q) Q)) (Exit.then ((sR tx5).wp P Q) Q)) a w):tx5.wp P Q a w:=by
 have e1:tx5 = .seq (.seq (sL (sL tx5)) (sR (sL tx5))) (sR tx5):=rfl;rw [e1];exact wp_seq (wp_seq h)
set_option maxHeartbeats 4000000 in
set_option maxRecDepth 4000 in
theorem qpv [MaxL] [TxtC] (hT:JR) (it:It) (hi:it.Ok) (hb:∀ p∈it.rc.fields.l,Qw p) (hn:it.rc.fields.l.length < 1000000) (ok0:Nat→Prop) (w0:World) (a:Act) (w:World) (e:qr) (b:Nat) (ht:83≤a.tmps.size) (k3:qf e 3 = some (.optr 1 20 0)) (k1:qf e 1 = some (.optr 0 39 0)) (k4:qf e 4 = some (.raw (.pointer (some ⟨b,0,none⟩))))
  (h:HSt cx ok0 w0 152 5 b [] e [some (Enc.cells it),some (Enc.cells it.rc)] a w) {K:Exit→Act→World→Prop}
  (hK:∀ a' w' e',a'.tmps.size = a.tmps.size→a'.defers = a.defers→qf e' 3 = some (.optr 1 20 0)→qf e' 4 = some (.raw (.pointer (some ⟨b,0,none⟩))) →
   qf e' 59 = some (.vsl false ((J1 it).map D.str) 6)→qf e' 60 = some (.int .i64 6)→qf e' 61 = some (.int .i64 0) →
   HSt cx ok0 w0 152 5 b [] e' [some (Enc.cells it),some (Enc.cells it.rc)] a' w'→K .normal a' w'):(sL (sL tx5)).wp cx.P K a w:=by
 have hG:=Vt hT;have YS:=qz2 it.id it.rc hn hb;have hok:=qoq it.id it.rc hi.rc;have zY:=qql _ hok;have QN:=hi.rc.real;have zS:=hi.rc.mono;have hr3:=hi.rc.seq;unfold qA at QN zS hr3;have n1:=qdR it.rc.real.toNat (by omega);have n2:=qdR it.rc.mono.toNat (by omega);have n3:=qdR it.rc.seq.toNat (by omega);have e1:((it.rc.real.toNat:Nat):Int) = it.rc.real:=by omega
 have e2:((it.rc.mono.toNat:Nat):Int) = it.rc.mono:=by omega
 have e3:((it.rc.seq.toNat:Nat):Int) = it.rc.seq:=by omega
 rw [e1] at n1;rw [e2] at n2;rw [e3] at n3;have x1:=qeg it.id.l it.id.h;have x2:=qeg it.rc.boot.l it.rc.boot.h;have l0:=(qgU (JP it.id it.rc)).2;have l4:=Zt it.id.l;have l5:=Zt it.rc.boot.l;rw [it.id.h] at l4;rw [it.rc.boot.h] at l5;have hL:Enc.cells it.rc = .int .u64 it.rc.seq :: .int .u64 it.rc.real :: .int .u64 it.rc.mono :: (qd it.rc.boot.l ++ [(.vsl it.rc.fields.nil (qh it.rc.fields.l) it.rc.fields.l.length)]):=Rec.cells it.rc;have ve:List.take 17 (qd it.rc.boot.l ++ [(.vsl it.rc.fields.nil (qh it.rc.fields.l) it.rc.fields.l.length)]) = qd it.rc.boot.l ++ [(.vsl it.rc.fields.nil (qh it.rc.fields.l) it.rc.fields.l.length)]:=qx (by simp);refine h.run hG (f:=64) (nt:=83) (by kernel_rfl) ht ?_;rw [hL] at YS ⊢;unfold J1 KQ JE JF JD jW Z8 at hK;have d1:=kP it.rc.real.toNat;have d2:=kP it.rc.mono.toNat;have d3:=kP it.rc.seq.toNat;generalize JW (JP it.id it.rc) = s0 at *;generalize qE it.rc.real.toNat = s1 at *;generalize qE it.rc.mono.toNat = s2 at *;generalize qE it.rc.seq.toNat = s3 at *;generalize zu it.id.l = s4 at *;generalize zu it.rc.boot.l = s5 at *;have c0:9+s0.length≤4611686018427387904:=by omega
 have c1:21+s1.length≤4611686018427387904:=by omega
 have c2:22+s2.length≤4611686018427387904:=by omega
 have c3:9+s3.length≤4611686018427387904:=by omega
 have c4:12+s4.length≤4611686018427387904:=by omega
 have c5:9+s5.length≤4611686018427387904:=by omega
 simp [sL,sR,tx5,tx4,Za,QH,Qy,tx0,qY,Tryz.f64,k1,k3,k4,YS,zY,n1,n2,n3,x1,x2,ve,qD,c0,c1,c2,c3,c4,c5];intro a1 w1 z1 z2 h1;rw [← hL] at h1;exact hK a1 w1 _ z1 z2 (by simp) (by simp) (by simp) (by simp) (by simp) h1
theorem qjm {P:Program} {c:Code} {Q:Exit→Act→World→Prop} {a:Act} {w:World} (h:∀ K:Exit→Act→World→Prop,(∀ x a w,Q x a w→K x a w)→c.wp P K a w):c.wp P Q a w:=h Q fun _ _ _ h=>h
def qbV:Code→Array Oper
 | .region _ ops _=>ops
 | _=>#[]
noncomputable def JQ:Code:=cB (cB (sR (sL tx5)))
noncomputable def ops10:Array Oper:=qbV (sR (cB (sL (sR (sR JQ)))))
theorem qpF {l:List (List UInt8)} {i:Nat} (h:i < l.length):(l.map D.str).drop i = .str l[i] :: (l.map D.str).drop (i+1):=by
 rw [zm (by simpa using h)];simp
theorem qxN {L:List (List UInt8)} {k:Nat} (h:k < L.length):Zu (L.take k) ++ (L[k] ++ [10]) = Zu (L.take (k+1)):=by
 unfold Zu;rw [qbF h,List.map_append,List.flatten_append];simp
theorem qfZ (L:List (List UInt8)) (h:∀ s∈L,s.length≤300):(Zu L).length≤L.length * 301:=by
 induction L with
 | nil=>simp [Zu]
 | cons a l ih =>
  have h1:=h a (by simp);have h2:=ih fun s hs=>h s (by simp [hs]);unfold Zu at *;simp only [Y6,qc1,qC,qG,qX] at *;omega
set_option maxHeartbeats 4000000 in
set_option maxRecDepth 4000 in
theorem qpz [MaxL] [TxtC] (hT:JR) (L:List (List UInt8)) (hL6:L.length = 6) (XI:∀ s∈L,s.length≤300) (ok0:Nat→Prop) (w0:World) (a:Act) (w:World) (e:qr) (b:Nat) (H:qi) (_:H.length = 2) (ht:83≤a.tmps.size) (k3:qf e 3 = some (.optr 1 20 0)) (k4:qf e 4 = some (.raw (.pointer (some ⟨b,0,none⟩))))
  (k59:qf e 59 = some (.vsl false (L.map D.str) 6)) (k60:qf e 60 = some (.int .i64 6)) (k61:qf e 61 = some (.int .i64 0))
  (h:HSt cx ok0 w0 152 5 b [] e H a w) {Q:Exit→Act→World→Prop}
  (hQ:∀ a' w' e',a'.tmps.size = a.tmps.size→a'.defers = a.defers→qf e' 3 = some (.optr 1 20 0)→qf e' 4 = some (.raw (.pointer (some ⟨b,0,none⟩))) →
   HSt cx ok0 w0 152 5 b (Zu L) e' H a' w'→Q .normal a' w'):(sR (sL tx5)).wp cx.P Q a w:=by
 have hG:=Vt hT;have eB:sR (sL tx5) = .block 0 (.loop JQ):=rfl;rw [eB]
 refine wp_block (wp_loop (fun a' w'=>∃ (k:Nat) (e':qr),k≤6∧a'.tmps.size = a.tmps.size∧a'.defers = a.defers∧qf e' 3 = some (.optr 1 20 0)∧qf e' 4 = some (.raw (.pointer (some ⟨b,0,none⟩)))∧qf e' 59 = some (.vsl false (L.map D.str) 6)∧qf e' 60 = some (.int .i64 6)∧qf e' 61 = some (.int .i64 k) ∧
   HSt cx ok0 w0 152 5 b (Zu (L.take k)) e' H a' w') (fun a' _=>6 - (intOf (a'.tmps.getD 61 undef)).toNat) ⟨0,e,by omega,rfl,rfl,k3,k4,k59,k60,k61,h⟩ ?_)
 rintro a1 w1 ⟨k,e1,hk,z1,z2,j3,j4,j59,j60,j61,h1⟩;have Yl:=h1.slotI j61;rw [Yl];refine ZZ (c:=JQ) rfl fun K1 f1 g1=>?_;by_cases qg:k < 6
 ·have qk:(k:Int) < 6:=by omega
  refine h1.run hG (f:=64) (nt:=83) (by kernel_rfl) (by omega) ?_;simp [sL,sR,cB,JQ,tx5,tx4,Za,QH,Qy,tx0,qY,Tryz.f64,j3,j4,j59,j60,j61,qk];intro a2 w2 s2 d2 h2;refine f1 _ _ ?_;refine ZZ (c:=sR JQ) rfl fun K2 f2 g2=>?_;refine h2.run hG (f:=64) (nt:=83) (by kernel_rfl) (by omega) ?_;simp [sL,sR,cB,JQ,tx5,tx4,Za,QH,Qy,tx0,qY,Tryz.f64];intro a3 w3 s3 d3 h3;refine f2 _ _ ?_;refine ZZ (c:=sR (sR JQ)) rfl fun K3 f3 g3=>?_;have eB1:sL (sR (sR JQ)) = .block 1 (cB (sL (sR (sR JQ)))):=rfl;rw [eB1];refine wp_block (ZZ rfl fun K4 f4 g4=>?_);have hkL:k < L.length:=by omega
  have qW:=qpF hkL;refine h3.run hG (f:=64) (nt:=83) (by kernel_rfl) (by omega) ?_;simp [sL,sR,cB,JQ,tx5,tx4,Za,QH,Qy,tx0,qY,Tryz.f64,qk,qW];intro a4 w4 s4 d4 h4;refine f4 _ _ ?_;have eR:sR (cB (sL (sR (sR JQ)))) = .region 10 ops10 false:=rfl;rw [eR];refine wp_region_list ?_;have eo:ops10.toList = ops10.toList.take 2 ++ ops10.toList.drop 2:=(V0 2 _).symm;rw [eo];have ja:=XI L[k] (vw hkL);have hll:=qfZ (L.take k) (fun s hs=>XI s (Jv hs));rw [js] at hll;have jK:=qxN hkL;generalize L[k] = x at *;have x1:x.length+1≤4611686018427387904:=by omega
  refine h4.ops hG (nt:=83) (ops:=ops10) (l1:=ops10.toList.take 2) (ev':=(66,.str (x ++ [10])) :: (65,.str x) :: [(6,.str x),(64,.str x),(63,.vptr (.str x :: List.drop (k+1) (List.map D.str L))),(3,.optr 1 20 0),(4,.raw (.pointer (some ⟨b,0,none⟩))),(59,.vsl false (List.map D.str L) 6),(60,.int .i64 6),(61,.int .i64 k)]) (H':=H) ?_ (by omega) ?_
  ·simp [ops10,qbV,sL,sR,cB,JQ,tx5,tx4,Za,QH,Qy,tx0,qY,Tryz.f64,j9,jy,x1]
  intro a5 w5 s5 d5 h5;have eo2:ops10.toList.drop 2 = [(ops10.toList.drop 2).headD default]:=rfl;rw [eo2];refine qeM rfl rfl rfl ?_;have ea:∀ a:Act,#[a.tmps.getD 4 undef,a.tmps.getD 66 undef] = #[a.tmps.getD 4 undef,a.tmps.getD 66 undef]:=fun _=>rfl;have q4:=h5.slot (t:=4) (v:=.pointer (some ⟨b,0,none⟩)) (by simp);have q66:=h5.slotS (t:=66) (s:=x ++ [10]) (by simp);show Goes _ (callFunc 101 #[a5.tmps.getD 4 undef,a5.tmps.getD 66 undef]) _ _;rw [q4,q66];refine (h5.write (ρ:=Tryz.layW_ren) Tryz.layW Tryz.layW_X (x ++ [10]) ?_).mono ?_
  ·simp only [qC,qG,qX];omega
  rintro v w6 ⟨h6,hv⟩;rw [jK] at h6;replace h6:HSt cx ok0 w0 152 5 b (Zu (L.take (k+1))) _ H a5 w6:=h6;have hp:=h6.put (t:=67) hv (by omega);show K3 .normal (a5.put (some 67) v) w6;refine f3 _ _ ?_;have hw:IntKind.i64.wrap ((k:Int)+1) = ((k+1:Nat):Int):=by rw [wrap_i64] <;> omega
  have z5:(a5.put (some 67) v).tmps.size = a5.tmps.size:=by simp [Act.put]
  have z6:(a5.put (some 67) v).defers = a5.defers:=rfl;refine qjm fun K5 f5=>?_;refine hp.run hG (f:=64) (nt:=83) (by kernel_rfl) (by omega) ?_;simp [sL,sR,cB,JQ,tx5,tx4,Za,QH,Qy,tx0,qY,Tryz.f64,hw];intro a7 w7 s7 d7 h7;refine f5 .normal _ _ ?_;have QB:=h7.slotI (t:=61) (k:=.i64) (n:=((k+1:Nat):Int)) (by simp);refine ⟨⟨k+1,_,by omega,by omega,by rw [d7,z6,d5,d4,d3,d2,z2],?_,?_,?_,?_,?_,h7⟩,?_⟩
  ·simp
  ·simp
  ·simp
  ·simp
  ·simp
  ·rw [QB];show 6 - (((k+1:Nat):Int)).toNat < 6 - ((k:Int)).toNat;omega
 ·have qk:¬ (k:Int) < 6:=by omega
  have hke:k = 6:=by omega
  have qz:L.take k = L:=qx (by omega);rw [qz] at h1;refine h1.run hG (f:=64) (nt:=83) (by kernel_rfl) (by omega) ?_;simp [sL,sR,cB,JQ,tx5,tx4,Za,QH,Qy,tx0,qY,Tryz.f64,j3,j4,j59,j60,j61,qk];intro a2 w2 s2 d2 h2;refine f1 _ _ ?_;refine ZZ (c:=sR JQ) rfl fun K2 f2 g2=>?_;refine h2.run hG (f:=64) (nt:=83) (by kernel_rfl) (by omega) ?_;simp [sL,sR,cB,JQ,tx5,tx4,Za,QH,Qy,tx0,qY,Tryz.f64];intro a3 w3 s3 d3 h3;refine g2 (.exit 0) a3 w3 (by intro h;cases h) ?_;show Q .normal a3 w3;exact hQ a3 w3 _ (by omega) (by rw [d3,d2,z2]) (by simp) (by simp) h3
noncomputable def tx6:Code:=sR tx5
noncomputable def Js:Code:=cB (cB (sR (sL tx6)))
noncomputable def ops15:Array Oper:=qbV (sR (cB (sL (sR (sR Js)))))
theorem qoy {F:List Pr} {k:Nat} (h:k < F.length):jo (F.take k) ++ Q0 F[k] = jo (F.take (k+1)):=by
 unfold jo;rw [qbF h,List.map_append,List.flatten_append];simp
theorem qsI (p:Pr):(Q0 p).length≤p.name.length+p.value.length+10:=by
 unfold Q0;split
 ·simp;omega
 ·simp;omega
theorem qeA (F:List Pr) (n:Nat) (h:∀ p∈F,(Q0 p).length≤n):(jo F).length≤F.length * n:=by
 induction F with
 | nil=>simp [jo]
 | cons a l ih =>
  have h1:=h a (by simp);have h2:=ih fun s hs=>h s (by simp [hs]);unfold jo at *;simp only [Y6,qc1,qC,qG];rw [vR];omega
theorem qpC {P:Program} {Q:Exit→Act→World→Prop} {a:Act} {w:World} (h:(sL (sL tx6)).wp P (Exit.then ((sR (sL tx6)).wp P (Exit.then ((sR tx6).wp P Q) Q)) (Exit.then ((sR tx6).wp P Q) Q)) a w):tx6.wp P Q a w:=by
 have e1:tx6 = .seq (.seq (sL (sL tx6)) (sR (sL tx6))) (sR tx6):=rfl;rw [e1];exact wp_seq (wp_seq h)
set_option maxHeartbeats 4000000 in
set_option maxRecDepth 4000 in
theorem qp5 [MaxL] [TxtC] (hT:JR) (it:It) (ok0:Nat→Prop) (w0:World) (a:Act) (w:World) (e:qr) (b:Nat) (l:List UInt8) (ht:83≤a.tmps.size) (k3:qf e 3 = some (.optr 1 20 0)) (k4:qf e 4 = some (.raw (.pointer (some ⟨b,0,none⟩))))
  (h:HSt cx ok0 w0 152 5 b l e [some (Enc.cells it),some (Enc.cells it.rc)] a w) {K:Exit→Act→World→Prop}
  (hK:∀ a' w' e',a'.tmps.size = a.tmps.size→a'.defers = a.defers→qf e' 4 = some (.raw (.pointer (some ⟨b,0,none⟩))) →
   qf e' 70 = some (.vsl it.rc.fields.nil (qh it.rc.fields.l) it.rc.fields.l.length)→qf e' 71 = some (.int .i64 it.rc.fields.l.length)→qf e' 72 = some (.int .i64 0) →
   HSt cx ok0 w0 152 5 b l e' [some (Enc.cells it),some (Enc.cells it.rc)] a' w'→K .normal a' w'):(sL (sL tx6)).wp cx.P K a w:=by
 have hG:=Vt hT;have hL:Enc.cells it.rc = .int .u64 it.rc.seq :: .int .u64 it.rc.real :: .int .u64 it.rc.mono :: (qd it.rc.boot.l ++ [(.vsl it.rc.fields.nil (qh it.rc.fields.l) it.rc.fields.l.length)]):=Rec.cells it.rc;refine h.run hG (f:=64) (nt:=83) (by kernel_rfl) ht ?_;rw [hL];simp [sL,sR,tx6,tx5,tx4,Za,QH,Qy,tx0,qY,Tryz.f64,k3,k4];intro a1 w1 z1 z2 h1;rw [← hL] at h1;exact hK a1 w1 _ z1 z2 (by simp) (by simp) (by simp) (by simp) h1
set_option maxHeartbeats 4000000 in
set_option maxRecDepth 4000 in
theorem qpy [MaxL] [TxtC] (hT:JR) (it:It) (l0:List UInt8) (jL:l0.length≤3000) (F:Sl Pr) (hF16:F.l.length≤16) (hb:∀ p∈F.l,Qw p) (vD:∀ p∈F.l,(Q0 p).length≤3000) (ok0:Nat→Prop) (w0:World) (a:Act) (w:World) (e:qr) (b:Nat) (ht:83≤a.tmps.size) (k4:qf e 4 = some (.raw (.pointer (some ⟨b,0,none⟩))))
  (k70:qf e 70 = some (.vsl F.nil (qh F.l) F.l.length)) (k71:qf e 71 = some (.int .i64 F.l.length)) (k72:qf e 72 = some (.int .i64 0))
  (h:HSt cx ok0 w0 152 5 b l0 e [some (Enc.cells it),some (Enc.cells it.rc)] a w) {Q:Exit→Act→World→Prop}
  (hQ:∀ a' w' e' H',a'.tmps.size = a.tmps.size→a'.defers = a.defers→qf e' 4 = some (.raw (.pointer (some ⟨b,0,none⟩))) →
   HSt cx ok0 w0 152 5 b (l0 ++ jo F.l) e' H' a' w'→Q .normal a' w'):(sR (sL tx6)).wp cx.P Q a w:=by
 have hG:=Vt hT;have eB:sR (sL tx6) = .block 2 (.loop Js):=rfl;rw [eB]
 refine wp_block (wp_loop (fun a' w'=>∃ (k:Nat) (e':qr) (H':qi),k≤F.l.length∧a'.tmps.size = a.tmps.size∧a'.defers = a.defers∧qf e' 4 = some (.raw (.pointer (some ⟨b,0,none⟩)))∧qf e' 70 = some (.vsl F.nil (qh F.l) F.l.length)∧qf e' 71 = some (.int .i64 F.l.length)∧qf e' 72 = some (.int .i64 k) ∧
   (H' = [some (Enc.cells it),some (Enc.cells it.rc)]∨∃ p:Pr,H' = [some (Enc.cells p)]) ∧
   HSt cx ok0 w0 152 5 b (l0 ++ jo (F.l.take k)) e' H' a' w') (fun a' _=>F.l.length - (intOf (a'.tmps.getD 72 undef)).toNat) ⟨0,e,_,by omega,rfl,rfl,k4,k70,k71,k72,.inl rfl,by simpa [jo] using h⟩ ?_)
 rintro a1 w1 ⟨k,e1,H1,hk,z1,z2,j4,j70,j71,j72,hH,h1⟩;have Yl:=h1.slotI j72;rw [Yl]
 have hstart:∀ (c:Bool),decide (k < F.l.length) = c→∀ K:Exit→Act→World→Prop,(∀ a' w' e' H',a'.tmps.size = a1.tmps.size→a'.defers = a1.defers→qf e' 4 = some (.raw (.pointer (some ⟨b,0,none⟩)))→qf e' 70 = some (.vsl F.nil (qh F.l) F.l.length)→qf e' 71 = some (.int .i64 F.l.length)→qf e' 72 = some (.int .i64 k)→qf e' 73 = some (.bool c)→H' = [] →
   HSt cx ok0 w0 152 5 b (l0 ++ jo (F.l.take k)) e' H' a' w'→K .normal a' w')→(sL Js).wp cx.P K a1 w1:=by
  intro c hc K hK;rcases hH with rfl | ⟨p,rfl⟩
  ·refine h1.run hG (f:=64) (nt:=83) (by kernel_rfl) (by omega) ?_;simp [sL,sR,cB,Js,tx6,tx5,tx4,Za,QH,Qy,tx0,qY,Tryz.f64,j4,j70,j71,j72];intro a2 w2 s2 d2 h2;exact hK a2 w2 _ _ s2 d2 (by simp) (by simp) (by simp) (by simp) (by simp [hc]) rfl h2
  ·refine h1.run hG (f:=64) (nt:=83) (by kernel_rfl) (by omega) ?_;simp [sL,sR,cB,Js,tx6,tx5,tx4,Za,QH,Qy,tx0,qY,Tryz.f64,j4,j70,j71,j72];intro a2 w2 s2 d2 h2;exact hK a2 w2 _ _ s2 d2 (by simp) (by simp) (by simp) (by simp) (by simp [hc]) rfl h2
 refine ZZ (c:=Js) rfl fun K1 f1 g1=>?_;by_cases qg:k < F.l.length
 ·refine hstart true (by simpa using qg) K1 fun a2 w2 e2 H2 s2 d2 j4 j70 j71 j72 j73 QU h2=>?_;subst QU;refine f1 _ _ ?_;refine ZZ (c:=sR Js) rfl fun K2 f2 g2=>?_;refine h2.run hG (f:=64) (nt:=83) (by kernel_rfl) (by omega) ?_;simp [sL,sR,cB,Js,tx6,tx5,tx4,Za,QH,Qy,tx0,qY,Tryz.f64,j73];intro a3 w3 s3 d3 h3;refine f2 _ _ ?_;refine ZZ (c:=sR (sR Js)) rfl fun K3 f3 g3=>?_;have eB1:sL (sR (sR Js)) = .block 3 (cB (sL (sR (sR Js)))):=rfl;rw [eB1];refine wp_block (ZZ rfl fun K4 f4 g4=>?_);have hkL:(k:Int) < (F.l.length:Int):=by omega
  have qW:=VQ (α:=Pr) (n:=2) rfl qg;have hb1:=hb F.l[k] (vw qg);have Kt:=qsE F.l[k] hb1;have qM:F.nil = false:=Sl.nn qg;refine h3.run hG (f:=64) (nt:=83) (by kernel_rfl) (by omega) ?_;simp [sL,sR,cB,Js,tx6,tx5,tx4,Za,QH,Qy,tx0,qY,Tryz.f64,j4,j70,j71,j72,hkL,qW,qM];intro a4 w4 s4 d4 h4;refine f4 _ _ ?_;have eR:sR (cB (sL (sR (sR Js)))) = .region 15 ops15 false:=rfl;rw [eR];refine wp_region_list ?_;have eo:ops15.toList = ops15.toList.take 2 ++ ops15.toList.drop 2:=(V0 2 _).symm;rw [eo];have hll:=qeA (F.l.take k) 3000 (fun p hp=>vD p (Jv hp));have ja:=vD F.l[k] (vw qg);rw [js] at hll;have jK:=qoy qg;generalize F.l[k] = p at *;refine h4.ops hG (nt:=83) (ops:=ops15) (l1:=ops15.toList.take 2) (ev':=(77,.str (Q0 p)) :: (76,.agg (Enc.cells p)) :: [(8,D.optr 0 2 0),(75,D.agg (Enc.cells p)),(74,D.vptr (Enc.cells p ++ qh (List.drop (k+1) F.l))),(4,D.raw (Value.pointer (some { block:=b,off:=0 }))),(70,D.vsl false (qh F.l) F.l.length),(71,D.int IntKind.i64 F.l.length),(72,D.int IntKind.i64 k)]) (H':=[some (Enc.cells p)]) ?_ (by omega) ?_
  ·simp [ops15,qbV,sL,sR,cB,Js,tx6,tx5,tx4,Za,QH,Qy,tx0,qY,Tryz.f64,j9,jy,Kt]
  intro a5 w5 s5 d5 h5;have eo2:ops15.toList.drop 2 = [(ops15.toList.drop 2).headD default]:=rfl;rw [eo2];refine qeM rfl rfl rfl ?_;have q4:=h5.slot (t:=4) (v:=.pointer (some ⟨b,0,none⟩)) (by simp);have q77:=h5.slotS (t:=77) (s:=Q0 p) (by simp);show Goes _ (callFunc 101 #[a5.tmps.getD 4 undef,a5.tmps.getD 77 undef]) _ _;rw [q4,q77];refine (h5.write (ρ:=Tryz.layW_ren) Tryz.layW Tryz.layW_X (Q0 p) ?_).mono ?_
  ·simp only [qC];omega
  rintro v w6 ⟨h6,hv⟩;rw [vI,jK] at h6;replace h6:HSt cx ok0 w0 152 5 b (l0 ++ jo (F.l.take (k+1))) _ [some (Enc.cells p)] a5 w6:=h6;have hp:=h6.put (t:=78) hv (by omega);show K3 .normal (a5.put (some 78) v) w6;refine f3 _ _ ?_;have hw:IntKind.i64.wrap ((k:Int)+1) = ((k+1:Nat):Int):=by rw [wrap_i64] <;> omega
  have z5:(a5.put (some 78) v).tmps.size = a5.tmps.size:=by simp [Act.put]
  have z6:(a5.put (some 78) v).defers = a5.defers:=rfl;refine qjm fun K5 f5=>?_;refine hp.run hG (f:=64) (nt:=83) (by kernel_rfl) (by omega) ?_;simp [sL,sR,cB,Js,tx6,tx5,tx4,Za,QH,Qy,tx0,qY,Tryz.f64,hw];intro a7 w7 s7 d7 h7;refine f5 .normal _ _ ?_;have QB:=h7.slotI (t:=72) (k:=.i64) (n:=((k+1:Nat):Int)) (by simp);refine ⟨⟨k+1,_,_,by omega,by omega,by rw [d7,z6,d5,d4,d3,d2,z2],?_,?_,?_,?_,?_,h7⟩,?_⟩
  ·simp
  ·simp [qM]
  ·simp [qf]
  ·simp [qf]
  ·exact .inr ⟨p,rfl⟩
  ·rw [QB];show F.l.length - (((k+1:Nat):Int)).toNat < F.l.length - ((k:Int)).toNat;omega
 ·refine hstart false (by simpa using qg) K1 fun a2 w2 e2 H2 s2 d2 j4 j70 j71 j72 j73 QU h2=>?_;subst QU;refine f1 _ _ ?_;have hke:k = F.l.length:=by omega
  have qz:F.l.take k = F.l:=qx (by omega);rw [qz] at h2;refine ZZ (c:=sR Js) rfl fun K2 f2 g2=>?_;refine h2.run hG (f:=64) (nt:=83) (by kernel_rfl) (by omega) ?_;simp [sL,sR,cB,Js,tx6,tx5,tx4,Za,QH,Qy,tx0,qY,Tryz.f64,j73];intro a3 w3 s3 d3 h3;refine g2 (.exit 2) a3 w3 (by intro h;cases h) ?_;show Q .normal a3 w3;exact hQ a3 w3 _ _ (by omega) (by rw [d3,d2,z2]) j4 h3
end Go.Ev.S
namespace Go.Ev
open Go Go.Proofs Go.RowKit Go.Shelf
section
variable {X:Cx} {ρ:Ren} {ok0:Nat→Prop} {w0:World} {T e:TypeId} {b:Nat} {l:List UInt8} {ev ev':qr} {H H':qi} {a:Act} {w:World}
theorem HSt.below (h:HSt X ok0 w0 T e b l ev H a w):Below w0.heap.size w0 w:=by
 obtain ⟨ok,ι,hs,he,hev,hap⟩:=h.st;exact ⟨hev.os,hev.tape,hev.output,hev.size,fun k hk=>hev.frame k hk fun i ds s hd=>by simp [qq] at hd⟩
theorem HSt.str (L:Lays.n169 X.P ρ) (E:Builder.Extra X.P ρ) (h:HSt X ok0 w0 (ρ.t 72) (ρ.t 5) b l ev H a w) :
  Goes X.P (callFunc (ρ.f 169) #[.pointer (some ⟨b,0,none⟩)]) w fun v w'=>v = .string ⟨l.toArray⟩∧Below w0.heap.size w0 w':=by
 have v6:∀ args w,(callFunc (ρ.f 169) args).run X.P w = .ok (.enter (ρ.f 169) args) w:=Go.Proofs.enters_of L.f169 (by kernel_rfl) rfl;have ZJ:=qeu h.bl (.inl rfl);have hb:=h.below;have kx:=h.lo;unfold Goes;rw [v6];refine (Any.Builder_String_any_f L E b b l w h.bl (by omega)).mono ?_;rintro x w' ⟨rfl,-,hbel⟩;refine ⟨_,rfl,rfl,⟨hbel.os.trans hb.os,hbel.tape.trans hb.tape,hbel.output.trans hb.output,kr hb.size hbel.size,fun k hk=>?_⟩⟩;rw [hbel.block k (jP hk kx),hb.block k hk]
theorem qso (hs:Sim X ok0 w0 zg []) (hb:Below w0.heap.size w0 w):PSt X ok0 w0 [] [] a w :=
 ⟨⟨ok0,zg,qo1 hs hb,fun t d h=>by simp [qf] at h,qiV (jk _) hb⟩⟩
theorem PSt.put (h:PSt X ok0 w0 ev H a w) {t:Nat} {d:D} {v:Value} (hd:Rep (fun _=>False) w zg [] d v) (ht:t < a.tmps.size):PSt X ok0 w0 ((t,d) :: ev) H (a.put (some t) v) w:=by
 obtain ⟨ok,ι,hs,he,hev⟩:=h.st;refine ⟨⟨ok,ι,hs,?_,hev⟩⟩;exact YF (nt:=a.tmps.size) (dst:=some t) he ((hd.okMono fun b hb=>hb.elim).lift) (qB _) (by simpa [vv] using ht)
theorem PSt.ops (hG:Good X) (h:PSt X ok0 w0 ev H a w) {nt:Nat} {ops:Array Oper} {l1 l2:List Oper} (hc:j9 X (call X) nt false ops l1 ev H = some (ev',H')) (ht:nt≤a.tmps.size) {Q:Exit→Act→World→Prop}
  (hQ:∀ a' w',a'.tmps.size = a.tmps.size→a'.defers = a.defers→PSt X ok0 w0 ev' H' a' w'→wpList X.P ops Q l2 a' w'):wpList X.P ops Q (l1 ++ l2) a w:=by
 obtain ⟨ok,ι,hs,he,hev⟩:=h.st;refine qeo (qgs hG) hc hs he ht fun a' w' hout=>?_;obtain ⟨t1,t2,ι',ok',s1,s2,s3⟩:=hout;exact hQ a' w' t1 t2 ⟨⟨ok',ι',s1,s2,hev.trans (s3.mono (jk _))⟩⟩
theorem qop {f : Nat} {fn : Func} {c : Code} {args : List D} {vs : List Value} {r : D} {w : World} {ι : qF} {ok : Nat → Prop} (hf : X.P.funcs[f]? = some fn) (hb : fn.body = some c) (JH : (fn.name == "runtime.NumGoroutine") = false) (hfree : ∀ d ∈ args, idFree d = true)
  (hs:Sim X ok w ι []) (hv:RepL ok w ι [] args vs)
  (h:∀ a,a.tmps.size = max vs.length fn.ntmps→a.defers = []→EnvRep ok w zg [] (Qv 0 args) a.tmps→Sim X ok w zg [] →
   c.wp X.P (fun x a' w'=>(x = .normal∨x = .ret)∧a'.defers = []∧∃ e' H' ds,PSt X ok w e' H' a' w'∧Qz X e' H' fn.results.toList = some ds∧J9 (X.fzr f) 0 H' (JA ds) = some (r,[])) a w) :
  Goes X.P (callFunc f vs.toArray) w (Jw X ok w ι [] r []):=by
 have henter:(callFunc f vs.toArray).run X.P w = .ok (.enter f vs.toArray) w:=Go.Proofs.enters_of hf JH hb _ _;have VB:Sim X ok w zg []:=⟨hs.okS,hs.glob,fun i j ds es b s s' hd=>by simp [qq] at hd,fun i ds hd=>by simp [qq] at hd⟩;unfold Goes;rw [henter];simp only;refine calls_of_wp hf hb (wp_mono (h ⟨vs.toArray ++ Array.replicate (fn.ntmps - vs.toArray.size) undef,[]⟩ ?_ rfl ?_ VB) ?_)
 ·simp;omega
 ·intro t d ht;obtain ⟨_,h2⟩:=qiY args 0 t d ht;rw [Nat.sub_zero] at h2;have qg:t < vs.length:=by rw [hv.1];exact (List.getElem?_eq_some_iff.1 h2).1
  refine ⟨by simp;omega,?_⟩;have:=(hv.2 t d h2).free (hfree d (mem_of_get? h2)) zg [];rw [jp,qg6 (by simpa using qg)];simpa [jV] using this
 ·rintro x a' w' ⟨hex,k2,e',H1,ds,⟨ok1,ι1,k3,k4,k5⟩,hr,hp⟩;obtain ⟨v,q1,q2⟩:=qk8 (fn:=fn) k3 k4 hr;obtain ⟨ok2,ι2,p1,p2,p3,p4⟩:=qlj k5.nle.2 k3 q2 hp;have hev:=k5.trans p3;have hpost:Jw X ok w ι [] r [] v w':=⟨ι2,ok2,p1,p2,⟨hev.os,hev.tape,hev.output,hev.size,fun b hb _=>hev.frame b hb fun i ds s hd=>by simp [qq] at hd,hev.okU,fun b h1 h2=>(hev.okN b h1 h2).imp id fun ⟨i,ds,s,hd,_⟩=>by simp [qq] at hd,⟨qB _,qB _⟩,fun i hi=>by simp at hi,fun i ds' b s hd=>by simp [qq] at hd⟩,p4⟩;rcases hex with rfl | rfl
  ·exact ⟨k2,v,q1,v,rfl,hpost⟩
  ·exact ⟨k2,v,q1,v,rfl,hpost⟩
end
end Go.Ev
namespace Go.Ev.S
open Go Go.Proofs Go.Ev Go.RowKit
noncomputable def tx7:Code:=sR tx6
noncomputable def tx8:Code:=sR tx7
noncomputable def ops17:Array Oper:=qbV (sL tx7)
noncomputable def ops18:Array Oper:=qbV (sL tx8)
set_option maxHeartbeats 4000000 in
set_option maxRecDepth 4000 in
theorem qp2 [MaxL] [TxtC] (hT:JR) (l:List UInt8) (hl:l.length≤1000000) (ok0:Nat→Prop) (w0:World) (VB:Sim cx ok0 w0 zg []) (a:Act) (w:World) (e:qr) (b:Nat) (H:qi) (ht:83≤a.tmps.size) (hd:a.defers = []) (k4:qf e 4 = some (.raw (.pointer (some ⟨b,0,none⟩))))
  (h:HSt cx ok0 w0 152 5 b l e H a w) {Q:Exit→Act→World→Prop}
  (hQ:∀ a' w' e' H',a'.defers = []→qf e' 2 = some (.osl 0 (l.length+1) 0 (l.length+1) 1)→H' = [some (qd (l ++ [10]))]→PSt cx ok0 w0 e' H' a' w'→Q .ret a' w'):tx7.wp cx.P Q a w:=by
 have hG:=Vt hT;refine ZZ (c:=tx7) rfl fun K1 f1 g1=>?_;have eR:sL tx7 = .region 17 ops17 false:=rfl;rw [eR];refine wp_region_list ?_;have eo:ops17.toList = [(ops17.toList).headD default]:=rfl;rw [eo];refine qeM rfl rfl rfl ?_;have q4:=h.slot k4;show Goes _ (callFunc 101 #[a.tmps.getD 4 undef,.string ⟨#[10]⟩]) _ _;rw [q4];refine (h.write (ρ:=Tryz.layW_ren) Tryz.layW Tryz.layW_X [10] ?_).mono ?_
 ·simp only [qG,qX];omega
 rintro v w1 ⟨h1,hv⟩;replace h1:HSt cx ok0 w0 152 5 b (l ++ [10]) e H a w1:=h1;have hp:=h1.put (t:=80) hv (by omega);show K1 .normal (a.put (some 80) v) w1;refine f1 _ _ ?_;have z5:(a.put (some 80) v).tmps.size = a.tmps.size:=by simp [Act.put]
 have z6:(a.put (some 80) v).defers = a.defers:=rfl;have k4':qf ((80,.tup [.int .i64 (([10]:List UInt8).length:Nat),.nili]) :: e) 4 = some (.raw (.pointer (some ⟨b,0,none⟩))):=by simpa [qf] using k4
 generalize ((80,D.tup [.int .i64 (([10]:List UInt8).length:Nat),.nili]) :: e) = e1 at *;have q4':=hp.slot k4';generalize a.put (some 80) v = a1 at *;refine ZZ (c:=tx8) rfl fun K2 f2 g2=>?_;have eR:sL tx8 = .region 18 ops18 false:=rfl;rw [eR];refine wp_region_list ?_;have eo:ops18.toList = (ops18.toList).headD default :: (ops18.toList.drop 1):=rfl;rw [eo];refine qeM rfl rfl rfl ?_;show Goes _ (callFunc 103 #[a1.tmps.getD 4 undef]) _ _;rw [q4'];refine (hp.str (ρ:=Tryz.lays169_ren) Tryz.lays169 Tryz.Builder_Extra_169).mono ?_;rintro v2 w2 ⟨rfl,zE⟩;have hp2:=(qso (a:=a1) VB zE).put (t:=81) (.str (l ++ [10])) (by omega);show wpList _ _ _ (ops18.toList.drop 1) (a1.put (some 81) _) w2;have z7:(a1.put (some 81) (.string ⟨(l ++ [10]).toArray⟩)).tmps.size = a1.tmps.size:=by simp [Act.put]
 have z8:(a1.put (some 81) (.string ⟨(l ++ [10]).toArray⟩)).defers = a1.defers:=rfl;have eo:ops18.toList.drop 1 = ops18.toList.drop 1 ++ []:=(Z2 _).symm;rw [eo];refine hp2.ops hG (nt:=83) (ops:=ops18) (l1:=ops18.toList.drop 1) (ev':=[(2,.osl 0 (l.length+1) 0 (l.length+1) 1),(82,.osl 0 (l.length+1) 0 (l.length+1) 1),(81,.str (l ++ [10]))]) (H':=[some (qd (l ++ [10]))]) ?_ (by omega) ?_
 ·simp [ops18,qbV,sL,sR,tx8,tx7,tx6,tx5,tx4,Za,QH,Qy,tx0,qY,Tryz.f64,j9,jy]
 intro a3 w3 s3 d3 h3;show K2 .normal a3 w3;refine f2 _ _ ?_;show (Code.ret).wp cx.P Q a3 w3;exact wp_ret (hQ a3 w3 _ _ (by rw [d3,z8,z6,hd]) (by simp [qf]) rfl h3)
theorem qh2 {it:It} (hr:Zp it = true):it.rc.fields.l.length≤16∧(∀ p∈it.rc.fields.l,Qw p)∧∀ p∈it.rc.fields.l,(Q0 p).length≤400:=by
 unfold Zp at hr;simp only [qT,decide_eq_true_eq,Y7] at hr
 have h:∀ p∈it.rc.fields.l,p.name.length≤64∧p.value.length≤256:=by
  intro p hp;have:=hr.2 p hp;unfold kY at this;simp only [qT,decide_eq_true_eq] at this;refine ⟨?_,this.2⟩;have h1:=this.1;unfold kZ at h1;split at h1
  ·cases h1
  ·rename_i c l e;simp only [qT,decide_eq_true_eq] at h1;rw [e];exact h1.1.1
 refine ⟨hr.1.2,fun p hp=>?_,fun p hp=>?_⟩
 ·obtain ⟨h1,h2⟩:=h p hp;exact ⟨by omega,by omega⟩
 ·obtain ⟨h1,h2⟩:=h p hp;have:=qsI p;omega
theorem qgT (it:It) (_:it.Ok):∀ s∈J1 it,s.length≤300:=by
 have l0:=(qgU (JP it.id it.rc)).2;have l4:=Zt it.id.l;have l5:=Zt it.rc.boot.l;rw [it.id.h] at l4;rw [it.rc.boot.h] at l5;have d1:=kP it.rc.real.toNat;have d2:=kP it.rc.mono.toNat;have d3:=kP it.rc.seq.toNat;intro s hs;simp only [J1,qbG,List.not_mem_nil,or_false] at hs;rcases hs with rfl | rfl | rfl | rfl | rfl | rfl <;> simp only [qC,KQ,JE,JF,JD,jW,Z8,qG,qX] <;> omega
set_option maxHeartbeats 4000000 in
set_option maxRecDepth 4000 in
theorem qp3 [MaxL] [TxtC] (hT:JR) (it:It) (hi:it.Ok) (hg:it.gap = false) (hr:Zp it = true) (ok0:Nat→Prop) (w0:World) (a:Act) (hs:Sim cx ok0 w0 zg []) (he:EnvRep ok0 w0 zg [] (Qv 0 [.agg (Enc.cells it)]) a.tmps) (ht:83≤a.tmps.size) (hd:a.defers = []) :
  tx0.wp cx.P (fun x a' w'=>x = .ret∧a'.defers = []∧∃ e' H',qf e' 2 = some (.osl 0 (vx it).length 0 (vx it).length 1)∧H' = [some (qd (vx it))]∧PSt cx ok0 w0 e' H' a' w') a w0:=by
 obtain ⟨hn,hb,vD⟩:=qh2 hr;have h6:(J1 it).length = 6:=rfl;have hsl:=qgT it hi;have hll:=qfZ (J1 it) hsl;have QT:=qeA it.rc.fields.l 400 vD;refine qpw hT it hg hr hb (by omega) ok0 w0 a hs he ht fun a1 w1 e1 z1 y1 k3 k1 h1=>?_;refine qpx hT it ok0 w0 a1 w1 e1 (by omega) k3 k1 h1 fun a2 w2 e2 b z2 y2 k3 k1 k4 h2=>?_;refine qpD (qpv hT it hi hb (by omega) ok0 w0 a2 w2 e2 b (by omega) k3 k1 k4 h2 fun a3 w3 e3 z3 y3 k3 k4 k59 k60 k61 h3=>?_);show (sR (sL tx5)).wp _ _ _ _;refine qpz hT (J1 it) h6 hsl ok0 w0 a3 w3 e3 b _ rfl (by omega) k3 k4 k59 k60 k61 h3 fun a4 w4 e4 z4 y4 k3 k4 h4=>?_;show (sR tx5).wp _ _ _ _;refine qpC (qp5 hT it ok0 w0 a4 w4 e4 b _ (by omega) k3 k4 h4 fun a5 w5 e5 z5 y5 k4 k70 k71 k72 h5=>?_);show (sR (sL tx6)).wp _ _ _ _;refine qpy hT it _ (by omega) it.rc.fields hn hb (fun p hp=>kr (vD p hp) (by omega)) ok0 w0 a5 w5 e5 b (by omega) k4 k70 k71 k72 h5 fun a6 w6 e6 H6 z6 y6 k4 h6=>?_;show tx7.wp _ _ _ _;refine qp2 hT _ ?_ ok0 w0 hs a6 w6 e6 b H6 (by omega) (by simp [y6,y5,y4,y3,y2,y1,hd]) k4 h6 fun a7 w7 e7 H7 y7 k2 hH h7=>?_
 ·rw [qC];omega
 ·have e1:Zu (J1 it) ++ jo it.rc.fields.l ++ [10] = vx it:=rfl;have e2:(Zu (J1 it) ++ jo it.rc.fields.l).length+1 = (vx it).length:=by rw [← e1,qC,qC,qC];rfl
  rw [e2] at k2;rw [e1] at hH;show _∧_;exact ⟨rfl,y7,e7,H7,k2,hH,h7⟩
theorem qn5:∀ {a b:List Pr},qh a = qh b→a = b
 | [],[],_=>rfl
 | [],p :: l,h=>by simp [ZP,Pr.cells] at h
 | p :: l,[],h=>by simp [ZP,Pr.cells] at h
 | p :: l,q :: m,h=>by
  obtain ⟨pn,pv⟩:=p;obtain ⟨qn,qv⟩:=q;simp only [ZP,Pr.cells,kt,ZW,qbI,D.str.injEq] at h;obtain ⟨rfl,rfl,h⟩:=h;rw [qn5 h]
theorem qlz:∀ {a b:List UInt8},qd a = qd b→a = b
 | [],[],_=>rfl
 | [],p :: l,h=>by simp [qd] at h
 | p :: l,[],h=>by simp [qd] at h
 | p :: l,q :: m,h=>by
  simp only [qd,Y6,qbI,D.int.injEq,true_and] at h;obtain ⟨h1,h2⟩:=h;have h3:p = q:=UInt8.toNat_inj.1 (by omega);rw [qlz h2,h3]
theorem qmt {a b:ID} (h:qd a.l = qd b.l):a = b:=by
 obtain ⟨a,ha⟩:=a;obtain ⟨b,hb⟩:=b;have e:a = b:=qlz h;subst e;rfl
theorem qmd {a b:It} (h:Enc.cells a = Enc.cells b):a = b:=by
 obtain ⟨ai,ag,af,at',⟨a1,ar,am,ab,⟨an,al,ah⟩⟩⟩:=a;obtain ⟨bi,bg,bf,bt,⟨b1,br,bm,bb,⟨bn,bl,bh⟩⟩⟩:=b;have h1:=congrArg (List.take 16) h;have h2:=congrArg (List.drop 16) h;have h3:=congrArg (fun l=>(List.drop 22 l).take 16) h;have h4:=congrArg (List.drop 38) h;rw [It.t16,It.t16] at h1;rw [It.d16,It.d16] at h2;simp [It.d22] at h3;simp only [It.d38,qbI,D.vsl.injEq,and_true] at h4;have e1:=qmt h1;have e3:=qmt h3;obtain ⟨e4,e5,-⟩:=h4;have e6:=qn5 e5;simp only [qbI,D.bool.injEq,D.int.injEq,true_and] at h2;obtain ⟨x1,x2,x3,x4,x5,x6,-⟩:=h2
 subst_vars
 simp_all
open Classical in
noncomputable def qas (args:List D) (H:qi):Option (D × qi) :=
 if h:H = []∧∃ it:It,args = [.agg (Enc.cells it)]∧it.Ok∧it.gap = false∧Zp it = true then some (.vsl false (qd (vx h.2.choose)) (vx h.2.choose).length,[]) else none
theorem qzp {it:It} (hi:it.Ok) (hg:it.gap = false) (hr:Zp it = true):qas [.agg (Enc.cells it)] [] = some (.vsl false (qd (vx it)) (vx it).length,[]):=by
 have h:([]:qi) = []∧∃ it':It,[D.agg (Enc.cells it)] = [.agg (Enc.cells it')]∧it'.Ok∧it'.gap = false∧Zp it' = true:=⟨rfl,it,rfl,hi,hg,hr⟩;unfold qas;rw [dif_pos h]
 have e:it = h.2.choose:=by
  have:=h.2.choose_spec.1;injection this with this _;injection this with this;exact qmd this
 rw [← e]
theorem qnV {it:It} (h:it.gap = true∨Zp it = false):qas [.agg (Enc.cells it)] [] = none:=by
 unfold qas;rw [dif_neg];rintro ⟨-,it',e,-,hg,hr⟩;simp only [qbI,D.agg.injEq,and_true] at e;have:=qmd e;subst this;rcases h with h | h
 ·rw [hg] at h;cases h
 ·rw [hr] at h;cases h
theorem qzq {args:List D} {H:qi} {q:D × qi} (h:qas args H = some q):H = []∧∃ it:It,args = [.agg (Enc.cells it)]∧it.Ok∧it.gap = false∧Zp it = true∧q = (.vsl false (qd (vx it)) (vx it).length,[]):=by
 unfold qas at h;split at h
 ·rename_i hx;have hs:=hx.2.choose_spec;exact ⟨hx.1,hx.2.choose,hs.1,hs.2.1,hs.2.2.1,hs.2.2.2,(qbC h).symm⟩
 ·cases h
@[instance_reducible] def qa5:TxtC:=⟨fun _ _ _=>none⟩
theorem qgD [MaxL]:@JR _ qa5:=fun h=>by cases h
set_option maxRecDepth 4000 in
theorem qzo [MaxL] {T:TxtC} {args:List D} {H:qi} {r:D} {H':qi} (h:qas args H = some (r,H')) {ok:Nat→Prop} {w:World} {ι:qF} {vs:List Value} (hs:Sim (@cx _ T) ok w ι H) (hv:RepL ok w ι H args vs):Goes Tryz.prog (callFunc 64 vs.toArray) w (Jw (@cx _ T) ok w ι H r H'):=by
 obtain ⟨rfl,it,rfl,hi,hg,hr,e⟩:=qzq h;injection e with e1 e2;subst e1;subst e2;have h0:=@qp3 _ qa5 qgD it hi hg hr;have:=qop (X:=@cx _ qa5) (f:=64) (c:=tx0) (r:=.vsl false (qd (vx it)) (vx it).length) Tryz.func64 rfl rfl (by intro d hd;simp only [List.mem_singleton] at hd;subst hd;simp [idFree]) ⟨hs.okS,hs.glob,hs.inj,hs.blk⟩ hv fun a z1 z2 he VB=>wp_mono (h0 ok w a VB he (by rw [z1];exact Nat.le_max_right _ _) z2) ?_
 ·refine this.mono ?_;rintro v w' ⟨ι',ok',k1,k2,k3,k4⟩;exact ⟨ι',ok',⟨k1.okS,k1.glob,k1.inj,k1.blk⟩,k2,k3,k4⟩
 ·rintro x a' w' ⟨rfl,y1,e',H',k2,rfl,hp⟩;refine ⟨.inr rfl,y1,e',_,[.osl 0 (vx it).length 0 (vx it).length 1],hp,?_,?_⟩
  ·simp [Tryz.f64,Qz,k2]
  ·simp [J9,JA]
end Go.Ev.S
namespace Go.Ev
open Go Go.Proofs Go.RowKit Go.Shelf
def cL:Code→Code
 | .seq a _=>a
 | .cond _ a _=>a
 | c=>c
def cR:Code→Code
 | .seq _ b=>b
 | .cond _ _ b=>b
 | c=>c
def Yz:Code→Array Oper
 | .region _ ops _=>ops
 | _=>#[]
theorem ka {P:Program} {c:Code} {Q:Exit→Act→World→Prop} {a:Act} {w:World} (hc:c = .seq (cL c) (cR c)) (h:∀ K:Exit→Act→World→Prop,(∀ a w,(cR c).wp P Q a w→K .normal a w)→(∀ x a w,x≠.normal→Q x a w→K x a w)→(cL c).wp P K a w):c.wp P Q a w:=by
 rw [hc];refine wp_seq (h _ (fun a w h=>h) fun x a w hx hq=>?_);cases x <;> first | exact absurd rfl hx | exact hq
theorem qjj {P:Program} {ops:Array Oper} {Q:Exit→Act→World→Prop} {r:List Oper} {o:Oper} {t:TypeId} {x:Operand} {s:ByteArray} {a:Act} {w:World} (hg:o.guard = none) (ho:o.op = .range t x) (hx:a.eval x = .string s) (ht:P.underlying t = some .string)
  (h:wpList P ops Q r (a.put o.dst (.pointer (some ⟨w.heap.size,0,none⟩))) (w.iter s 0)):wpList P ops Q (o :: r) a w:=by
 have hw:Region.wanted o (yielded ops a.tmps) = true:=by unfold Region.wanted;rw [hg]
 simp only [wpList,hw,if_true];refine .inl ?_;unfold Oper.wp;refine Goes.upon (Goes.value (v:=.pointer (some ⟨w.heap.size,0,none⟩)) (w':=w.iter s 0) ?_ h);simp [execOp,ho,hx,run_range_string w t s ht]
theorem qq1 {P:Program} {w:World} {b:Nat} {s:ByteArray} {pos:Nat} {ty:TypeId} (hb:w.heap[b]? = some (.stringIter s pos)) (h:pos < s.size) {c n:Nat} (hd:Utf8.decode s pos = (c,n)) :
  (Instr.next (.pointer (some ⟨b,0,none⟩)) true ty).run P w = .ok (.tuple #[.bool true,.int .i64 pos,.int .i32 c]) { w with heap:=w.heap.setIfInBounds b (.stringIter s (pos+n)) }:=by
 simp [Instr.next,getObj,setObj,Sem.run,hb,h,hd,goInt]
theorem qq0 {P:Program} {w:World} {b:Nat} {s:ByteArray} {pos:Nat} {ty:TypeId} (hb:w.heap[b]? = some (.stringIter s pos)) (h:¬ pos < s.size) :
  (Instr.next (.pointer (some ⟨b,0,none⟩)) true ty).run P w = .ok (.tuple #[.bool false]) w:=by
 simp [Instr.next,getObj,Sem.run,hb,h]
theorem qjl {P:Program} {ops:Array Oper} {Q:Exit→Act→World→Prop} {r:List Oper} {o:Oper} {x:Operand} {b pos c n:Nat} {s:ByteArray} {a:Act} {w:World} (hg:o.guard = none) (ho:o.op = .next x true) (hx:a.eval x = .pointer (some ⟨b,0,none⟩))
  (hb:w.heap[b]? = some (.stringIter s pos)) (hp:pos < s.size) (hd:Utf8.decode s pos = (c,n))
  (h:wpList P ops Q r (a.put o.dst (.tuple #[.bool true,.int .i64 pos,.int .i32 c])) { w with heap:=w.heap.setIfInBounds b (.stringIter s (pos+n)) }):wpList P ops Q (o :: r) a w:=by
 have hw:Region.wanted o (yielded ops a.tmps) = true:=by unfold Region.wanted;rw [hg]
 simp only [wpList,hw,if_true];refine .inl ?_;unfold Oper.wp;refine Goes.upon (Goes.value (v:=.tuple #[.bool true,.int .i64 pos,.int .i32 c]) ?_ h);simp [execOp,ho,hx,qq1 hb hp hd]
theorem qjk {P:Program} {ops:Array Oper} {Q:Exit→Act→World→Prop} {r:List Oper} {o:Oper} {x:Operand} {b pos:Nat} {s:ByteArray} {a:Act} {w:World} (hg:o.guard = none) (ho:o.op = .next x true) (hx:a.eval x = .pointer (some ⟨b,0,none⟩))
  (hb:w.heap[b]? = some (.stringIter s pos)) (hp:¬ pos < s.size)
  (h:wpList P ops Q r (a.put o.dst (.tuple #[.bool false])) w):wpList P ops Q (o :: r) a w:=by
 have hw:Region.wanted o (yielded ops a.tmps) = true:=by unfold Region.wanted;rw [hg]
 simp only [wpList,hw,if_true];refine .inl ?_;unfold Oper.wp;refine Goes.upon (Goes.value (v:=.tuple #[.bool false]) ?_ h);simp [execOp,ho,hx,qq0 hb hp]
structure ISt (X:Cx) (ok0:Nat→Prop) (w0:World) (b:Nat) (s:ByteArray) (pos:Nat) (ev:qr) (H:qi) (a:Act) (w:World):Prop where
 st:∃ ok ι,Sim X ok w ι H∧EnvRep ok w ι H ev a.tmps∧Evol 0 ok0 w0 zg [] ok w ι H∧¬ ok b∧∀ i ds s,qq H i = some ds→ι i≠some (b,s)
 lo:w0.heap.size≤b
 it:w.heap[b]? = some (.stringIter s pos)
section
variable {X:Cx} {ok0:Nat→Prop} {w0:World} {b pos:Nat} {s:ByteArray} {ev ev':qr} {H H':qi} {a:Act} {w:World}
theorem ISt.pst (h:ISt X ok0 w0 b s pos ev H a w):PSt X ok0 w0 ev H a w:=by
 obtain ⟨ok,ι,hs,he,hev,_⟩:=h.st;exact ⟨⟨ok,ι,hs,he,hev⟩⟩
theorem ISt.out {ok:Nat→Prop} {ι:qF} (_:Sim X ok w ι H) (hev:Evol 0 ok0 w0 zg [] ok w ι H) (hap:¬ ok b∧∀ i ds s,qq H i = some ds→ι i≠some (b,s))
  (kx:w0.heap.size≤b) (vL:w.heap[b]? = some (.stringIter s pos)) {n:Nat} {a':Act} {w':World} (ho:Out X n ok w ι H a ev' H' a' w'):ISt X ok0 w0 b s pos ev' H' a' w':=by
 obtain ⟨t1,t2,ι',ok',s1,s2,s3⟩:=ho;have qg:=qf8 vL;have hk:w'.heap[b]? = w.heap[b]?:=s3.frame b qg hap.2;refine ⟨⟨ok',ι',s1,s2,hev.trans (s3.mono (jk _)),fun hok=>?_,fun i ds z hd he=>?_⟩,kx,by rw [hk];exact vL⟩
 ·rcases s3.okN b hok qg with h | ⟨i,ds,z,hd,he⟩
  ·exact hap.1 h
  ·exact hap.2 i ds z hd he
 ·obtain ⟨j,ds',z',zp,he'⟩:=s3.own i ds b z hd he qg;exact hap.2 j ds' z' zp he'
theorem ISt.run (hG:Good X) (h:ISt X ok0 w0 b s pos ev H a w) {f nt:Nat} {c:Code} (hok:QL X f c = true) (ht:nt≤a.tmps.size) {K:Exit→Act→World→Prop}
  (hR:Run X f nt 0 (fun ex e1 H1=>∀ a' w',a'.tmps.size = a.tmps.size→a'.defers = a.defers→ISt X ok0 w0 b s pos e1 H1 a' w'→K (qcp ex) a' w') [] (Ev.code X f nt 0 (kb c) ev H)):c.wp X.P K a w:=by
 obtain ⟨ex,e1,H1,h1,h2⟩:=qhb hR;rw [qgn] at h1;obtain ⟨ok,ι,hs,he,hev,hap⟩:=h.st;refine wp_mono (qiJ hG h1 hok (jk _) hs he ht) ?_;rintro x a' w' ⟨rfl,hout⟩;exact h2 a' w' hout.1 hout.2.1 (ISt.out hs hev hap h.lo h.it hout)
theorem ISt.ops (hG:Good X) (h:ISt X ok0 w0 b s pos ev H a w) {nt:Nat} {ops:Array Oper} {l1 l2:List Oper} (hc:j9 X (call X) nt false ops l1 ev H = some (ev',H')) (ht:nt≤a.tmps.size) {Q:Exit→Act→World→Prop}
  (hQ:∀ a' w',a'.tmps.size = a.tmps.size→a'.defers = a.defers→ISt X ok0 w0 b s pos ev' H' a' w'→wpList X.P ops Q l2 a' w'):wpList X.P ops Q (l1 ++ l2) a w:=by
 obtain ⟨ok,ι,hs,he,hev,hap⟩:=h.st;exact qeo (qgs hG) hc hs he ht fun a' w' hout=>hQ a' w' hout.1 hout.2.1 (ISt.out hs hev hap h.lo h.it hout)
theorem ISt.slot (h:ISt X ok0 w0 b s pos ev H a w) {t:Nat} {v:Value} (ht:qf ev t = some (.raw v)):a.tmps.getD t undef = v:=by
 obtain ⟨ok,ι,hs,he,hev,hap⟩:=h.st;have:=(he t _ ht).2;generalize a.tmps.getD t undef = x at this ⊢;cases this;rfl
theorem ISt.put (h:ISt X ok0 w0 b s pos ev H a w) {t:Nat} {d:D} {v:Value} (hd:Rep (fun _=>False) w zg [] d v) (ht:t < a.tmps.size):ISt X ok0 w0 b s pos ((t,d) :: ev) H (a.put (some t) v) w:=by
 obtain ⟨ok,ι,hs,he,hev,hap⟩:=h.st;refine ⟨⟨ok,ι,hs,?_,hev,hap⟩,h.lo,h.it⟩;exact YF (nt:=a.tmps.size) (dst:=some t) he ((hd.okMono fun b hb=>hb.elim).lift) (qB _) (by simpa [vv] using ht)
theorem PSt.slotS (h:PSt X ok0 w0 ev H a w) {t:Nat} {l:List UInt8} (ht:qf ev t = some (.str l)):a.tmps.getD t undef = .string ⟨l.toArray⟩:=by
 obtain ⟨ok,ι,hs,he,hev⟩:=h.st;have:=(he t _ ht).2;generalize a.tmps.getD t undef = x at this ⊢;cases this;rfl
theorem PSt.slotB (h:PSt X ok0 w0 ev H a w) {t:Nat} {c:Bool} (ht:qf ev t = some (.bool c)):a.tmps.getD t undef = .bool c:=by
 obtain ⟨ok,ι,hs,he,hev⟩:=h.st;have:=(he t _ ht).2;generalize a.tmps.getD t undef = x at this ⊢;cases this;rfl
theorem PSt.slotI (h:PSt X ok0 w0 ev H a w) {t:Nat} {k:IntKind} {n:Int} (ht:qf ev t = some (.int k n)):a.tmps.getD t undef = .int k n:=by
 obtain ⟨ok,ι,hs,he,hev⟩:=h.st;have:=(he t _ ht).2;generalize a.tmps.getD t undef = x at this ⊢;cases this;rfl
theorem PSt.iter (h:PSt X ok0 w0 ev H a w) {t nt:Nat} (s:ByteArray) (ht:t < nt) (hn:nt≤a.tmps.size) :
  ISt X ok0 w0 w.heap.size s 0 ((t,.raw (.pointer (some ⟨w.heap.size,0,none⟩))) :: ev) H (a.put (some t) (.pointer (some ⟨w.heap.size,0,none⟩))) (w.iter s 0):=by
 obtain ⟨ok,ι,hs,he,hev⟩:=h.st;have hold:∀ k,k < w.heap.size→(w.iter s 0).heap[k]? = w.heap[k]?:=fun k hk=>Lib.alloc_old w _ k hk;have zh:w.heap.size≤(w.iter s 0).heap.size:=by simp [World.iter]
 have hok:∀ k,ok k→(w.iter s 0).heap[k]? = w.heap[k]?:=fun k hk=>hold k (hs.okS k hk);refine ⟨⟨ok,ι,qfe hs zh hok fun i ds c s hd hi=>hold c (hs.lt hd hi),?_,?_,?_,?_⟩,hev.size,World.iter_heap w s 0⟩
 ·exact YF (dst:=some t) (qgg he hok) (.raw _) hn (by simpa [vv] using ht)
 ·refine ⟨hev.os,hev.tape,hev.output,kr hev.size zh,fun k hk zT=>?_,hev.okU,hev.okN,hev.nle,hev.heap,hev.own⟩;rw [hold k (jP hk hev.size)];exact hev.frame k hk zT
 ·intro hk;have:=hs.okS _ hk;omega
 ·intro i ds s hd hi;have:=hs.lt hd hi;omega
theorem ISt.step (h:ISt X ok0 w0 b s pos ev H a w) (pos':Nat):ISt X ok0 w0 b s pos' ev H a { w with heap:=w.heap.setIfInBounds b (.stringIter s pos') }:=by
 obtain ⟨ok,ι,hs,he,hev,hnb,zT⟩:=h.st;have qg:=qf8 h.it;have hold:∀ k,k≠b→({ w with heap:=w.heap.setIfInBounds b (.stringIter s pos') }:World).heap[k]? = w.heap[k]?:=fun k hk=>qc4 (Ne.symm hk);have zh:({ w with heap:=w.heap.setIfInBounds b (.stringIter s pos') }:World).heap.size = w.heap.size:=by simp
 have hok:∀ k,ok k→({ w with heap:=w.heap.setIfInBounds b (.stringIter s pos') }:World).heap[k]? = w.heap[k]?:=fun k hk=>hold k (by rintro rfl;exact hnb hk);have kx:=h.lo;refine ⟨⟨ok,ι,qfe hs (by omega) hok fun i ds c z hd hi=>hold c (by rintro rfl;exact zT i ds z hd hi),qgg he hok,?_,hnb,zT⟩,kx,by simp [qg]⟩;refine ⟨hev.os,hev.tape,hev.output,by rw [zh];exact hev.size,fun k hk hn=>?_,hev.okU,hev.okN,hev.nle,hev.heap,hev.own⟩;rw [hold k (by omega)];exact hev.frame k hk hn
end
end Go.Ev
namespace Go.Ev.S
open Go Go.Proofs Go.Ev Go.RowKit
noncomputable def ia0:Code:=qY Tryz.f200
def Yd (w:World) (b:Nat):Nat:=match w.heap[b]? with
 | some (.stringIter _ p)=>p
 | _=>0
noncomputable def iaA0:Code:=zG [1,1,0,1,0,1,0,1,0,0] ia0
noncomputable def qaV:Code:=zG [1,1,0,1,0,1,0,1,0,0,1,0,0] ia0
noncomputable def iaAo:Array Oper:=Yz (cL iaA0)
noncomputable def iaAp:Array Oper:=Yz (cL qaV)
set_option maxHeartbeats 4000000 in
set_option maxRecDepth 4000 in
theorem qxE [MaxL] [TxtC] (hT:JR) (ok0:Nat→Prop) (w0:World) (a:Act) (w:World) (e:qr) (ht:129≤a.tmps.size) (k1:qf e 1 = some (.str [61,10]))
  (h:PSt cx ok0 w0 e [] a w) {Q:Exit→Act→World→Prop}
  (hQ:∀ a' w' e',a'.tmps.size = a.tmps.size→a'.defers = a.defers→PSt cx ok0 w0 e' [] a' w'→Q .normal a' w'):iaA0.wp cx.P Q a w:=by
 have hG:=Vt hT;refine ka (c:=iaA0) rfl fun K1 f1 g1=>?_;have eR:cL iaA0 = .region 6 iaAo false:=rfl;rw [eR];refine wp_region_list ?_;have eo:iaAo.toList = [(iaAo.toList).headD default] ++ [((iaAo.toList).drop 1).headD default]:=rfl;rw [eo];refine h.ops hG (nt:=129) (ev':=(27,.str [61,10]) :: e) (H':=[]) ?_ ht ?_
 ·simp [iaAo,iaA0,ia0,Yz,cL,qY,Tryz.f200,j9,jy,k1]
 intro a1 w1 z1 d1 h1;refine qjj (t:=9) (x:=.tmp 27) (s:=⟨#[61,10]⟩) rfl rfl (h1.slotS (l:=[61,10]) (by simp [qf])) Tryz.underlying9 ?_;have h2:=h1.iter (t:=28) (nt:=129) ⟨#[61,10]⟩ (by decide) (by omega);show K1 .normal (a1.put (some 28) (.pointer (some ⟨w1.heap.size,0,none⟩))) (w1.iter ⟨#[61,10]⟩ 0);refine f1 _ _ ?_;have z2:(a1.put (some 28) (.pointer (some ⟨w1.heap.size,0,none⟩))).tmps.size = a.tmps.size:=by simp [Act.put,z1]
 have d2:(a1.put (some 28) (.pointer (some ⟨w1.heap.size,0,none⟩))).defers = a.defers:=by simp [Act.put,d1]
 have Vj:∃ p,p≤2∧∃ e',qf e' 28 = some (.raw (.pointer (some ⟨w1.heap.size,0,none⟩)))∧ISt cx ok0 w0 w1.heap.size ⟨#[61,10]⟩ p e' [] (a1.put (some 28) (.pointer (some ⟨w1.heap.size,0,none⟩))) (w1.iter ⟨#[61,10]⟩ 0):=⟨0,by omega,_,by simp [qf],h2⟩;generalize (a1.put (some 28) (.pointer (some ⟨w1.heap.size,0,none⟩))) = a2 at *;generalize w1.iter ⟨#[61,10]⟩ 0 = w2 at *;generalize w1.heap.size = b at *;clear h2 h1;have eB:cR iaA0 = .block 0 (.loop qaV):=rfl;rw [eB];refine wp_block (wp_loop (fun a' w'=>a'.tmps.size = a.tmps.size∧a'.defers = a.defers∧∃ p,p≤2∧∃ e',qf e' 28 = some (.raw (.pointer (some ⟨b,0,none⟩)))∧ISt cx ok0 w0 b ⟨#[61,10]⟩ p e' [] a' w') (fun _ w'=>2 - Yd w' b) ⟨z2,d2,Vj⟩ ?_);rintro a3 w3 ⟨z3,d3,p,hp,e3,j28,h3⟩;have Yl:Yd w3 b = p:=by unfold Yd;rw [h3.it]
 rw [Yl];refine ka (c:=qaV) rfl fun K2 f2 g2=>?_;have eR:cL qaV = .region 7 iaAp false:=rfl;rw [eR];refine wp_region_list ?_;have eo:iaAp.toList = (iaAp.toList).headD default :: (iaAp.toList).drop 1:=rfl;rw [eo];have q28:=h3.slot j28;rcases ZU p 2 with qg | hge
 ·obtain ⟨c,hc,hd⟩:∃ c,(c = 61∨c = 10)∧Utf8.decode ⟨#[61,10]⟩ p = (c,1):=by
   match p,qg with
   | 0,_=>exact ⟨61,.inl rfl,by decide⟩
   | 1,_=>exact ⟨10,.inr rfl,by decide⟩
  refine qjl (x:=.tmp 28) (b:=b) (pos:=p) (c:=c) (n:=1) (s:=⟨#[61,10]⟩) rfl rfl q28 h3.it qg hd ?_
  have h4:=(h3.step (p+1)).put (t:=29) (d:=.tup [.bool true,.int .i64 p,.int .i32 c]) (v:=.tuple #[.bool true,.int .i64 p,.int .i32 c]) (.tup rfl fun j d hj=>by
   match j,hj with
   | 0,hj=>simp at hj;subst hj;exact .bool _
   | 1,hj=>simp at hj;subst hj;exact .int .i64 _
   | 2,hj=>simp at hj;subst hj;exact .int .i32 _
   | j+3,hj=>simp at hj) (by omega)
  show wpList _ _ _ ((iaAp.toList).drop 1) (a3.put (some 29) _) _;have z4:(a3.put (some 29) (.tuple #[.bool true,.int .i64 p,.int .i32 c])).tmps.size = a.tmps.size:=by simp [Act.put,z3]
  have d4:(a3.put (some 29) (.tuple #[.bool true,.int .i64 p,.int .i32 c])).defers = a.defers:=by simp [Act.put,d3]
  generalize (a3.put (some 29) (.tuple #[.bool true,.int .i64 p,.int .i32 c])) = a4 at *;have eo:(iaAp.toList).drop 1 = (iaAp.toList).drop 1 ++ []:=(Z2 _).symm;rw [eo];refine h4.ops hG (nt:=129) (ev':=(30,.bool true) :: (29,.tup [.bool true,.int .i64 p,.int .i32 c]) :: e3) (H':=[]) ?_ (by omega) ?_
  ·simp [iaAp,qaV,ia0,Yz,cL,qY,Tryz.f200,j9,jy]
  intro a5 w5 z5 d5 h5;show K2 .normal a5 w5;refine f2 _ _ ?_;refine h5.run hG (f:=200) (nt:=129) (by kernel_rfl) (by omega) ?_;have qt:¬ (c:Int) = 65533:=by omega
  have hc1:((c:Nat):Int) = 61∨((c:Nat):Int) = 10:=by omega
  simp [qaV,ia0,cR,qY,Tryz.f200,qt,j28];intro a6 w6 z6 d6 h6;refine ⟨⟨by omega,by rw [d6,d5,d4],p+1,by omega,_, ?_,h6⟩,?_⟩
  ·simp [qf]
  have hmu2:Yd w6 b = p+1:=by unfold Yd;rw [h6.it]
  rw [hmu2];omega
 ·have hp2:p = 2:=by omega
  subst hp2;refine qjk (x:=.tmp 28) (b:=b) (pos:=2) (s:=⟨#[61,10]⟩) rfl rfl q28 h3.it (by decide) ?_
  have h4:=h3.put (t:=29) (d:=.tup [.bool false]) (v:=.tuple #[.bool false]) (.tup rfl fun j d hj=>by
   match j,hj with
   | 0,hj=>simp at hj;subst hj;exact .bool _
   | j+1,hj=>simp at hj) (by omega)
  show wpList _ _ _ ((iaAp.toList).drop 1) (a3.put (some 29) _) _;have z4:(a3.put (some 29) (.tuple #[.bool false])).tmps.size = a.tmps.size:=by simp [Act.put,z3]
  have d4:(a3.put (some 29) (.tuple #[.bool false])).defers = a.defers:=by simp [Act.put,d3]
  generalize (a3.put (some 29) (.tuple #[.bool false])) = a4 at *;have eo:(iaAp.toList).drop 1 = (iaAp.toList).drop 1 ++ []:=(Z2 _).symm;rw [eo];refine h4.ops hG (nt:=129) (ev':=(30,.bool false) :: (29,.tup [.bool false]) :: e3) (H':=[]) ?_ (by omega) ?_
  ·simp [iaAp,qaV,ia0,Yz,cL,qY,Tryz.f200,j9,jy]
  intro a5 w5 z5 d5 h5;show K2 .normal a5 w5;refine f2 _ _ ?_;refine h5.run hG (f:=200) (nt:=129) (by kernel_rfl) (by omega) ?_;simp [qaV,ia0,cR,qY,Tryz.f200];intro a6 w6 z6 d6 h6;exact hQ a6 w6 _ (by omega) (by rw [d6,d5,d4])  h6.pst
noncomputable def iaB0:Code:=zG [1,1,1,1,1,1,0,1,0,0,1,0,0,1,1,1,1] ia0
noncomputable def qaU:Code:=zG [1,1,1,1,1,1,0,1,0,0,1,0,0,1,1,1,1,1,0,0] ia0
noncomputable def iaBo:Array Oper:=Yz (cL iaB0)
noncomputable def iaBp:Array Oper:=Yz (cL qaU)
set_option maxHeartbeats 4000000 in
set_option maxRecDepth 4000 in
theorem qxD [MaxL] [TxtC] (hT:JR) (ok0:Nat→Prop) (w0:World) (a:Act) (w:World) (e:qr) (ht:129≤a.tmps.size) (s:List UInt8) (d11 d12:D) (r:Int) (hr:128≤r) (k0:qf e 0 = some (.vsl false (qd s) s.length)) (k1:qf e 1 = some (.str [61,10])) (k11:qf e 11 = some d11) (k12:qf e 12 = some d12) (k13:qf e 13 = some (.int .i32 r))
  (h:PSt cx ok0 w0 e [] a w) {Q:Exit→Act→World→Prop}
  (hQ:∀ a' w' e',a'.tmps.size = a.tmps.size→a'.defers = a.defers→qf e' 0 = some (.vsl false (qd s) s.length)→qf e' 1 = some (.str [61,10])→qf e' 11 = some d11→qf e' 12 = some d12→PSt cx ok0 w0 e' [] a' w'→Q .normal a' w'):iaB0.wp cx.P Q a w:=by
 have hG:=Vt hT;refine ka (c:=iaB0) rfl fun K1 f1 g1=>?_;have eR:cL iaB0 = .region 47 iaBo false:=rfl;rw [eR];refine wp_region_list ?_;have eo:iaBo.toList = [(iaBo.toList).headD default] ++ [((iaBo.toList).drop 1).headD default]:=rfl;rw [eo];refine h.ops hG (nt:=129) (ev':=(120,.str [61,10]) :: e) (H':=[]) ?_ ht ?_
 ·simp [iaBo,iaB0,ia0,Yz,cL,qY,Tryz.f200,j9,jy,k1]
 intro a1 w1 z1 d1 h1;refine qjj (t:=9) (x:=.tmp 120) (s:=⟨#[61,10]⟩) rfl rfl (h1.slotS (l:=[61,10]) (by simp [qf])) Tryz.underlying9 ?_;have h2:=h1.iter (t:=121) (nt:=129) ⟨#[61,10]⟩ (by decide) (by omega);show K1 .normal (a1.put (some 121) (.pointer (some ⟨w1.heap.size,0,none⟩))) (w1.iter ⟨#[61,10]⟩ 0);refine f1 _ _ ?_;have z2:(a1.put (some 121) (.pointer (some ⟨w1.heap.size,0,none⟩))).tmps.size = a.tmps.size:=by simp [Act.put,z1]
 have d2:(a1.put (some 121) (.pointer (some ⟨w1.heap.size,0,none⟩))).defers = a.defers:=by simp [Act.put,d1]
 have Vj:∃ p,p≤2∧∃ e',qf e' 0 = some (.vsl false (qd s) s.length)∧qf e' 1 = some (.str [61,10])∧qf e' 11 = some d11∧qf e' 12 = some d12∧qf e' 13 = some (.int .i32 r)∧qf e' 121 = some (.raw (.pointer (some ⟨w1.heap.size,0,none⟩)))∧ISt cx ok0 w0 w1.heap.size ⟨#[61,10]⟩ p e' [] (a1.put (some 121) (.pointer (some ⟨w1.heap.size,0,none⟩))) (w1.iter ⟨#[61,10]⟩ 0):=⟨0,by omega,_,by simp [qf,k0],by simp [qf,k1],by simp [qf,k11],by simp [qf,k12],by simp [qf,k13],by simp [qf],h2⟩;generalize (a1.put (some 121) (.pointer (some ⟨w1.heap.size,0,none⟩))) = a2 at *;generalize w1.iter ⟨#[61,10]⟩ 0 = w2 at *;generalize w1.heap.size = b at *;clear h2 h1;have eB:cR iaB0 = .block 6 (.loop qaU):=rfl;rw [eB];refine wp_block (wp_loop (fun a' w'=>a'.tmps.size = a.tmps.size∧a'.defers = a.defers∧∃ p,p≤2∧∃ e',qf e' 0 = some (.vsl false (qd s) s.length)∧qf e' 1 = some (.str [61,10])∧qf e' 11 = some d11∧qf e' 12 = some d12∧qf e' 13 = some (.int .i32 r)∧qf e' 121 = some (.raw (.pointer (some ⟨b,0,none⟩)))∧ISt cx ok0 w0 b ⟨#[61,10]⟩ p e' [] a' w') (fun _ w'=>2 - Yd w' b) ⟨z2,d2,Vj⟩ ?_);rintro a3 w3 ⟨z3,d3,p,hp,e3,j0,j1,j11,j12,j13,j28,h3⟩;have Yl:Yd w3 b = p:=by unfold Yd;rw [h3.it]
 rw [Yl];refine ka (c:=qaU) rfl fun K2 f2 g2=>?_;have eR:cL qaU = .region 48 iaBp false:=rfl;rw [eR];refine wp_region_list ?_;have eo:iaBp.toList = (iaBp.toList).headD default :: (iaBp.toList).drop 1:=rfl;rw [eo];have q28:=h3.slot j28;rcases ZU p 2 with qg | hge
 ·obtain ⟨c,hc,hd⟩:∃ c,(c = 61∨c = 10)∧Utf8.decode ⟨#[61,10]⟩ p = (c,1):=by
   match p,qg with
   | 0,_=>exact ⟨61,.inl rfl,by decide⟩
   | 1,_=>exact ⟨10,.inr rfl,by decide⟩
  refine qjl (x:=.tmp 121) (b:=b) (pos:=p) (c:=c) (n:=1) (s:=⟨#[61,10]⟩) rfl rfl q28 h3.it qg hd ?_
  have h4:=(h3.step (p+1)).put (t:=122) (d:=.tup [.bool true,.int .i64 p,.int .i32 c]) (v:=.tuple #[.bool true,.int .i64 p,.int .i32 c]) (.tup rfl fun j d hj=>by
   match j,hj with
   | 0,hj=>simp at hj;subst hj;exact .bool _
   | 1,hj=>simp at hj;subst hj;exact .int .i64 _
   | 2,hj=>simp at hj;subst hj;exact .int .i32 _
   | j+3,hj=>simp at hj) (by omega)
  show wpList _ _ _ ((iaBp.toList).drop 1) (a3.put (some 122) _) _;have z4:(a3.put (some 122) (.tuple #[.bool true,.int .i64 p,.int .i32 c])).tmps.size = a.tmps.size:=by simp [Act.put,z3]
  have d4:(a3.put (some 122) (.tuple #[.bool true,.int .i64 p,.int .i32 c])).defers = a.defers:=by simp [Act.put,d3]
  generalize (a3.put (some 122) (.tuple #[.bool true,.int .i64 p,.int .i32 c])) = a4 at *;have eo:(iaBp.toList).drop 1 = (iaBp.toList).drop 1 ++ []:=(Z2 _).symm;rw [eo];refine h4.ops hG (nt:=129) (ev':=(123,.bool true) :: (122,.tup [.bool true,.int .i64 p,.int .i32 c]) :: e3) (H':=[]) ?_ (by omega) ?_
  ·simp [iaBp,qaU,ia0,Yz,cL,qY,Tryz.f200,j9,jy]
  intro a5 w5 z5 d5 h5;show K2 .normal a5 w5;refine f2 _ _ ?_;refine h5.run hG (f:=200) (nt:=129) (by kernel_rfl) (by omega) ?_;have qt:¬ r = (c:Int):=by omega
  have hc1:((c:Nat):Int) = 61∨((c:Nat):Int) = 10:=by omega
  simp [qaU,ia0,cR,qY,Tryz.f200,qt,j0,j1,j11,j12,j13,j28];intro a6 w6 z6 d6 h6;refine ⟨⟨by omega,by rw [d6,d5,d4],p+1,by omega,_,?_,?_,?_,?_,?_,?_,h6⟩,?_⟩
  ·simp [qf]
  ·simp [qf]
  ·simp [qf]
  ·simp [qf]
  ·simp [qf]
  ·simp [qf]
  have hmu2:Yd w6 b = p+1:=by unfold Yd;rw [h6.it]
  rw [hmu2];omega
 ·have hp2:p = 2:=by omega
  subst hp2;refine qjk (x:=.tmp 121) (b:=b) (pos:=2) (s:=⟨#[61,10]⟩) rfl rfl q28 h3.it (by decide) ?_
  have h4:=h3.put (t:=122) (d:=.tup [.bool false]) (v:=.tuple #[.bool false]) (.tup rfl fun j d hj=>by
   match j,hj with
   | 0,hj=>simp at hj;subst hj;exact .bool _
   | j+1,hj=>simp at hj) (by omega)
  show wpList _ _ _ ((iaBp.toList).drop 1) (a3.put (some 122) _) _;have z4:(a3.put (some 122) (.tuple #[.bool false])).tmps.size = a.tmps.size:=by simp [Act.put,z3]
  have d4:(a3.put (some 122) (.tuple #[.bool false])).defers = a.defers:=by simp [Act.put,d3]
  generalize (a3.put (some 122) (.tuple #[.bool false])) = a4 at *;have eo:(iaBp.toList).drop 1 = (iaBp.toList).drop 1 ++ []:=(Z2 _).symm;rw [eo];refine h4.ops hG (nt:=129) (ev':=(123,.bool false) :: (122,.tup [.bool false]) :: e3) (H':=[]) ?_ (by omega) ?_
  ·simp [iaBp,qaU,ia0,Yz,cL,qY,Tryz.f200,j9,jy]
  intro a5 w5 z5 d5 h5;show K2 .normal a5 w5;refine f2 _ _ ?_;refine h5.run hG (f:=200) (nt:=129) (by kernel_rfl) (by omega) ?_;simp [qaU,ia0,cR,qY,Tryz.f200];intro a6 w6 z6 d6 h6;exact hQ a6 w6 _ (by omega) (by rw [d6,d5,d4]) (by simp [qf,j0]) (by simp [qf,j1]) (by simp [qf,j11]) (by simp [qf,j12]) h6.pst
end Go.Ev.S
namespace Go.Ev
open Go Go.Proofs Go.Shelf
def zV:List UInt8→Nat→Int
 | [],_=>-1
 | b :: l,n=>if b = 61∨b = 10 then n else zV l (n+1)
theorem qiZ:∀ (k:Nat) (l:List UInt8) (n:Nat),k≤l.length→(∀ j (_:j < k) (hl:j < l.length),l[j]≠61∧l[j]≠10)→zV l n = zV (l.drop k) (n+k)
 | 0,l,n,_,_=>by simp
 | k+1,[],n,h,_=>by simp at h
 | k+1,b :: l,n,h,hb=>by
  have h0:=hb 0 (by omega) (by simp);simp only [List.getElem_cons_zero] at h0
  rw [zV,if_neg (by rintro (h | h);exact h0.1 h;exact h0.2 h),List.drop_succ_cons,qiZ k l (n+1) (by simpa using h) (fun j hj hl=>by
   have:=hb (j+1) (by omega) (by simpa using hl);simpa using this)]
  congr 1;omega
theorem qmI (l:List UInt8) (k:Nat) (h:k < l.length):((⟨l.toArray⟩:ByteArray).get! k) = l[k]:=by
 rw [Utf8W.get!_of_lt _ k (by rw [Xl];exact h)];show l.toArray[k] = _;simp
theorem qza (l:List UInt8) (hl:0 < l.length) (qak:128≤l[0].toNat) (r n:Nat) (hd:Utf8.decode ⟨l.toArray⟩ 0 = (r,n)) :
  128≤r∧r < 2000000∧1≤n∧n≤4∧n≤l.length∧(∀ j (_:j < n) (hl:j < l.length),128≤l[j].toNat)∧(r≠65533→2≤n∧(Utf8.encode r).data.toList.length = n∧(Utf8.encode r).data.toList≠[61,10]):=by
 have zh:(⟨l.toArray⟩:ByteArray).size = l.length:=Xl l
 have key:∀ k,(∀ j,1≤j→j < k→(decide (0+j < (⟨l.toArray⟩:ByteArray).size) && ((⟨l.toArray⟩:ByteArray).get! (0+j)).toNat / 64 == 2) = true)→(1≤k→k≤l.length)∧∀ j (_:j < k) (hl:j < l.length),128≤l[j].toNat:=by
  intro k hk;constructor
  ·intro h1;by_cases hk1:k = 1
   ·omega
   ·have:=hk (k - 1) (by omega) (by omega);simp only [qT,decide_eq_true_eq,zh] at this;omega
  ·intro j hj hlj;by_cases h0:j = 0
   ·subst h0;exact qak
   ·have:=hk j (by omega) hj;simp only [qT,decide_eq_true_eq,beq_iff_eq,vQ,qmI l j hlj] at this;omega
 have k1:=key 1 (fun j h1 h2=>by omega);have h0:=qmI l 0 hl;generalize hS:(⟨l.toArray⟩:ByteArray) = S at *;have Kw:=l[0].toNat_lt;rw [← h0] at qak Kw;clear h0;unfold Utf8.decode at hd;simp only [Nat.add_zero] at hd
 have bad:(Utf8.runeError,1) = (r,n)→128≤r∧r < 2000000∧1≤n∧n≤4∧n≤l.length∧(∀ j (_:j < n) (hl:j < l.length),128≤l[j].toNat)∧(r≠65533→2≤n∧(Utf8.encode r).data.toList.length = n∧(Utf8.encode r).data.toList≠[61,10]):=by
  intro h;injection h with h1 h2;subst h1;subst h2;exact ⟨by decide,by decide,by omega,by omega,k1.1 (by omega),k1.2,fun h=>absurd rfl h⟩
 rw [if_neg (by omega)] at hd;split at hd
 ·rename_i hc;simp only [qT,beq_iff_eq] at hc
  have k2:=key 2 (fun j h1 h2=>by
   have:j = 1:=(by omega);subst this;simp only [qT,beq_iff_eq];exact hc.2)
  split at hd
  ·rename_i hge;injection hd with h1 h2;subst h2;have hm:=JT (S.get! (0+1)).toNat (show 0 < 64 by decide);have zB:=JT (S.get! 0).toNat (show 0 < 32 by decide);have hr:r < 2048:=(by omega);have QN:128≤r:=(by omega);refine ⟨QN,by omega,by omega,by omega,k2.1 (by omega),k2.2,fun _=>⟨by omega,?_⟩⟩;have hv:Utf8.valid (r:Int) = true:=(by unfold Utf8.valid;simp;omega);unfold Utf8.encode;simp only [hv,if_true,Int.toNat_natCast];rw [if_neg (by omega),if_pos (by omega)];refine ⟨rfl,?_⟩;intro e;simp only [qbI,and_true] at e;have:=congrArg UInt8.toNat e.1;rw [VU (by show _ < 256;omega)] at this;simp at this;omega
  ·exact bad hd
 ·split at hd
  ·rename_i hc;simp only [qT,beq_iff_eq] at hc
   have k3:=key 3 (fun j h1 h2=>by
    simp only [qT,beq_iff_eq];rcases (by omega:j = 1∨j = 2) with rfl | rfl
    ·exact hc.1.2
    ·exact hc.2)
   split at hd
   ·rename_i hge;simp only [qT,decide_eq_true_eq] at hge;injection hd with h1 h2;subst h2;have hm:=JT (S.get! (0+1)).toNat (show 0 < 64 by decide);have zB:=JT (S.get! (0+2)).toNat (show 0 < 64 by decide);have Jm:=JT (S.get! 0).toNat (show 0 < 16 by decide);have hr:r < 65536:=(by omega);have QN:2048≤r:=(by omega);rw [h1] at hge;refine ⟨by omega,by omega,by omega,by omega,k3.1 (by omega),k3.2,fun _=>⟨by omega,?_⟩⟩;unfold Utf8.encode;simp only [hge.2,if_true,Int.toNat_natCast];rw [if_neg (by omega),if_neg (by omega),if_pos (by omega)];exact ⟨rfl,by intro e;simp at e⟩
   ·exact bad hd
  ·split at hd
   ·rename_i hc;simp only [qT,beq_iff_eq] at hc
    have k4:=key 4 (fun j h1 h2=>by
     simp only [qT,beq_iff_eq];rcases (by omega:j = 1∨j = 2∨j = 3) with rfl | rfl | rfl
     ·exact hc.1.1.2
     ·exact hc.1.2
     ·exact hc.2)
    split at hd
    ·rename_i hge;simp only [qT,decide_eq_true_eq] at hge;injection hd with h1 h2;subst h2;rw [h1] at hge;have hv:=hge.2
     have hr:r < 1114112:=by
      unfold Utf8.valid at hv;simp at hv;omega
     refine ⟨by omega,by omega,by omega,by omega,k4.1 (by omega),k4.2,fun _=>⟨by omega,?_⟩⟩;unfold Utf8.encode;simp only [hge.2,if_true,Int.toNat_natCast];rw [if_neg (by omega),if_neg (by omega),if_neg (by omega)];exact ⟨rfl,by intro e;simp at e⟩
    ·exact bad hd
   ·exact bad hd
end Go.Ev
namespace Go.Ev.S
open Go Go.Proofs Go.Ev Go.RowKit
def iaQ [MaxL] [TxtC] (ok0:Nat→Prop) (w0:World) (v:Int):Exit→Act→World→Prop:=fun x a' w'=>x = .ret∧a'.defers = []∧∃ e',qf e' 4 = some (.int .i64 v)∧PSt cx ok0 w0 e' [] a' w'
theorem qmx [MaxL] [TxtC] (c:UInt8):call cx 226 [.str [61,10],.int .u8 c.toNat] [] = some (.int .i64 (if c = 61 then 0 else if c = 10 then 1 else -1),[]):=by
 rw [qiP (X:=cx) (f:=226) rfl Tryz.func226 rfl,qi2];by_cases h1:c = 61
 ·subst h1;rfl
 by_cases h2:c = 10
 ·subst h2;rfl
 have QV:¬ (61:UInt8) = c:=fun e=>h1 e.symm;have Qh:¬ (10:UInt8) = c:=fun e=>h2 e.symm;simp [qcP,za,h1,h2,QV,Qh]
theorem qih [MaxL] [TxtC] (n:Nat):call cx 228 [.int .i64 n] [] = some (.bool (decide (8 < n)),[]):=by
 refine qs Tryz.func228 rfl ⟨rfl,rfl⟩ ?_;simp [Tryz.f228];omega
theorem qxC [MaxL] [TxtC] (l:List UInt8) (h:1≤l.length):call cx 231 [.vsl false (qd l) l.length] [] = some (.tup [.int .i32 (Utf8.decode ⟨l.toArray⟩ 0).1,.int .i64 (Utf8.decode ⟨l.toArray⟩ 0).2],[]):=by
 refine Yw ?_;rw [qnY];have h0:¬ (⟨l.toArray⟩:ByteArray).size = 0:=by rw [Xl];omega
 simp only [qe1,qfb,qgv];rw [if_pos ⟨qB _,h⟩,List.take_length];simp only [Lib.decodeGo,h0,if_false]
theorem qxB [MaxL] [TxtC] (l:List UInt8) (h2:2 < l.length) (hm:(l.length:Int)≤MaxL.m):call cx 213 [.str [61,10],.str l] [] = some (.int .i64 (-1),[]):=by
 refine Yw ?_;rw [qoa];simp only [qe0];rw [if_pos ⟨by simpa using h2,by omega,hm,by simp⟩]
set_option maxHeartbeats 4000000 in
set_option maxRecDepth 4000 in
theorem qx9 [MaxL] [TxtC] (hT:JR) (c:UInt8) (ok0:Nat→Prop) (w0:World) (a:Act) (ht:129≤a.tmps.size) (hd:a.defers = []) (h:PSt cx ok0 w0 (Qv 0 [.vsl false (qd [c]) 1,.str [61,10]]) [] a w0):ia0.wp cx.P (iaQ ok0 w0 (zV [c] 0)) a w0:=by
 have hG:=Vt hT;have hc:=c.toNat_lt;have hw:IntKind.i32.wrap (c.toNat:Int) = (c.toNat:Int):=by rw [qg9] <;> omega
 have YS:qd [c] = [.int .u8 c.toNat]:=rfl;rw [YS] at h;refine ka (c:=ia0) rfl fun K1 f1 g1=>?_;refine h.run hG (f:=200) (nt:=129) (by kernel_rfl) (by omega) ?_;simp [cL,ia0,qY,Tryz.f200];intro a1 w1 z1 d1 h1;refine f1 _ _ ?_;show (zG [1] ia0).wp _ _ _ _;refine ka (c:=(zG [1] ia0)) rfl fun K2 f2 g2=>?_;refine h1.run hG (f:=200) (nt:=129) (by kernel_rfl) (by omega) ?_;simp [cL,ia0,qY,Tryz.f200];intro a2 w2 z2 d2 h2;refine f2 _ _ ?_;show (zG [1,1] ia0).wp _ _ _ _;rcases ZU c.toNat 128 with qak | qak
 ·have hi:=qmx c;have qg:¬ (128:Int)≤(c.toNat:Int):=by omega
  refine ka (c:=(zG [1,1] ia0)) rfl fun K3 f3 g3=>?_;refine h2.run hG (f:=200) (nt:=129) (by kernel_rfl) (by omega) ?_;by_cases h1:c = 61
  ·rw [if_pos h1] at hi;simp [cL,ia0,qY,Tryz.f200,hi,hw,qg];intro a3 w3 z3 d3 h3;exact g3 _ _ _ (by intro e;cases e) ⟨rfl,by rw [d3,d2,d1,hd],_,by simp [qf,zV,h1],h3⟩
  by_cases h2:c = 10
  ·rw [if_neg h1,if_pos h2] at hi;simp [cL,ia0,qY,Tryz.f200,hi,hw,qg];intro a3 w3 z3 d3 h3;exact g3 _ _ _ (by intro e;cases e) ⟨rfl,by rw [d3,d2,d1,hd],_,by simp [qf,zV,h2],h3⟩
  rw [if_neg h1,if_neg h2] at hi;simp [cL,ia0,qY,Tryz.f200,hi,hw,qg];intro a3 w3 z3 d3 h3;exact g3 _ _ _ (by intro e;cases e) ⟨rfl,by rw [d3,d2,d1,hd],_,by simp [qf,zV,h1,h2],h3⟩
 ·have hge:(128:Int)≤(c.toNat:Int):=by omega
  have qt:zV [c] 0 = -1:=by
   have h1:¬ c = 61:=(by rintro rfl;revert qak;decide);have h2:¬ c = 10:=(by rintro rfl;revert qak;decide);simp [zV,h1,h2]
  refine ka (c:=(zG [1,1] ia0)) rfl fun K0 f0 g0=>?_;refine ka (c:=(zG [1,1,0] ia0)) rfl fun K3 f3 g3=>?_;refine h2.run hG (f:=200) (nt:=129) (by kernel_rfl) (by omega) ?_;simp [cL,ia0,qY,Tryz.f200];intro a3 w3 z3 d3 h3;refine f3 _ _ ?_;show (Code.cond _ _ _).wp _ _ _ _;refine wp_cond (t:=true) (h3.slotB (by simp [qf])) ?_;show (zG [1,1,0,1,0] ia0).wp _ _ _ _;refine ka (c:=(zG [1,1,0,1,0] ia0)) rfl fun K4 f4 g4=>?_;refine h3.run hG (f:=200) (nt:=129) (by kernel_rfl) (by omega) ?_;simp [cL,ia0,qY,Tryz.f200,hw];intro a4 w4 z4 d4 h4;refine f4 _ _ ?_;show (zG [1,1,0,1,0,1] ia0).wp _ _ _ _;refine ka (c:=(zG [1,1,0,1,0,1] ia0)) rfl fun K8 f8 g8=>?_;refine ka (c:=(zG [1,1,0,1,0,1,0] ia0)) rfl fun K5 f5 g5=>?_;refine h4.run hG (f:=200) (nt:=129) (by kernel_rfl) (by omega) ?_;simp [cL,ia0,qY,Tryz.f200,hge];intro a5 w5 z5 d5 h5;refine f5 _ _ ?_;show (Code.cond _ _ _).wp _ _ _ _;refine wp_cond (t:=true) (h5.slotB (by simp [qf])) ?_;show (zG [1,1,0,1,0,1,0,1,0] ia0).wp _ _ _ _;refine ka (c:=(zG [1,1,0,1,0,1,0,1,0] ia0)) rfl fun K9 f9 g9=>?_;refine qxE hT ok0 w0 a5 w5 _ (by omega) (by simp [qf]) h5 fun a9 w9 e9 z9 d9 h9=>?_;refine f9 _ _ ?_;refine h9.run hG (f:=200) (nt:=129) (by kernel_rfl) (by omega) ?_;simp [cR,ia0,qY,Tryz.f200];intro a10 w10 z10 d10 jf;exact g8 _ _ _ (by intro e;cases e) (g0 _ _ _ (by intro e;cases e) ⟨rfl,by rw [d10,d9,d5,d4,d3,d2,d1,hd],_,by simp [qf,qt],jf⟩)
def qii:Value→Int
 | .int _ n=>n
 | _=>0
def iaI [MaxL] [TxtC] (ok0:Nat→Prop) (w0:World) (a:Act) (s:List UInt8) (i:Nat) (a':Act) (w':World):Prop:=a'.tmps.size = a.tmps.size∧a'.defers = []∧i≤s.length∧zV (s.drop i) i = zV s 0∧∃ e',qf e' 0 = some (.vsl false (qd s) s.length)∧qf e' 1 = some (.str [61,10])∧qf e' 12 = some (.int .i64 (i:Nat))∧PSt cx ok0 w0 e' [] a' w'
theorem qed [MaxL] [TxtC] (ok0:Nat→Prop) (w0:World) (a:Act) (s:List UInt8) (i:Nat) (a':Act) (w':World) (e:qr) (h1:a'.tmps.size = a.tmps.size) (h2:a'.defers = []) (h3:i≤s.length) (h4:zV (s.drop i) i = zV s 0) (k0:qf e 0 = some (.vsl false (qd s) s.length)) (k1:qf e 1 = some (.str [61,10])) (k12:qf e 12 = some (.int .i64 (i:Nat))) (h:PSt cx ok0 w0 e [] a' w'):iaI ok0 w0 a s i a' w':=⟨h1,h2,h3,h4,e,k0,k1,k12,h⟩
set_option maxHeartbeats 4000000 in
set_option maxRecDepth 4000 in
theorem qx8 [MaxL] [TxtC] (hT:JR) (s:List UInt8) (h8:s.length≤8) (ok0:Nat→Prop) (w0:World) (a:Act) (ht:129≤a.tmps.size) (i:Nat) (a0:Act) (w1:World) (hI:iaI ok0 w0 a s i a0 w1) (qg:i < s.length) {Q:Exit→Act→World→Prop}
  (hret:∀ a' w',iaQ ok0 w0 (zV s 0) .ret a' w'→Q .ret a' w') (hgo:∀ i' a' w',i < i'→iaI ok0 w0 a s i' a' w'→Q .normal a' w'):(zG [1,1,1,1,1,1,0,1,0,0] ia0).wp cx.P Q a0 w1:=by
 have hG:=Vt hT;have Vk:cx.glob 0 = some [.int .i64 MaxL.m]:=rfl;obtain ⟨zz,dd,hi,Xa,e,k0,k1,k12,h⟩:=hI;have qk:(i:Int) < (s.length:Int):=by omega
 have hsi:s[i]? = some s[i]:=zi qg;have hdrop:=zm qg;have qW:=jt qg
 have hofd:qd (s.drop i) = .int .u8 s[i].toNat :: qd (s.drop (i+1)):=by
  rw [hdrop];rfl
 have qz:List.take (s.length - i) (.int .u8 (s[i].toNat:Int) :: qd (s.drop (i+1))) = .int .u8 (s[i].toNat:Int) :: qd (s.drop (i+1)):=qx (by simp;omega);have vY:(s.drop i).length = s.length - i:=by simp
 have hdec:=qza (s.drop i) (by omega);have XH:=qxC (s.drop i) (by omega);have hb:(s.drop i)[0]'(by omega) = s[i]:=by simp
 rw [hb] at hdec;have hskip:=qiZ;have hib:=qmx s[i];have hany0:=Xa;rw [hdrop,zV] at Xa;have hcw:=s[i].toNat_lt;have hw32:IntKind.i32.wrap (s[i].toNat:Int) = (s[i].toNat:Int):=by rw [qg9] <;> omega
 have qO:IntKind.i64.wrap ((i:Int)+1) = ((i+1:Nat):Int):=by rw [wrap_i64] <;> omega
 rcases ZU s[i].toNat 128 with qak | qak
 ·have Qc:(s[i].toNat:Int) < 128:=by omega
  clear hdec XH;generalize s[i] = c at *;refine h.run hG (f:=200) (nt:=129) (by kernel_rfl) (by omega) ?_;by_cases h1:c = 61
  ·rw [if_pos h1] at hib;rw [if_pos (.inl h1)] at Xa;simp [ia0,qY,Tryz.f200,k0,k1,k12,qk,qW,hib,hw32,Qc];intro a3 w3 z3 d3 h3;exact hret _ _ ⟨rfl,by rw [d3,dd],_,by simp [qf,← Xa],h3⟩
  by_cases h2:c = 10
  ·rw [if_neg h1,if_pos h2] at hib;rw [if_pos (.inr h2)] at Xa;simp [ia0,qY,Tryz.f200,k0,k1,k12,qk,qW,hib,hw32,Qc];intro a3 w3 z3 d3 h3;exact hret _ _ ⟨rfl,by rw [d3,dd],_,by simp [qf,← Xa],h3⟩
  rw [if_neg h1,if_neg h2] at hib;rw [if_neg (by rintro (h | h);exact h1 h;exact h2 h)] at Xa;simp [ia0,qY,Tryz.f200,k0,k1,k12,qk,qW,hib,hw32,Qc,qO];intro a3 w3 z3 d3 h3;exact hgo (i+1) _ _ (by omega) (qed ok0 w0 a s (i+1) _ _ _ (by omega) (by rw [d3,dd]) qg Xa (by simp [qf]) (by simp [qf]) (by simp [qf]) h3)
 ·have hge2:¬ (s[i].toNat:Int) < 128:=by omega
  obtain ⟨⟨r,n⟩,hrn⟩:∃ q,Utf8.decode ⟨(s.drop i).toArray⟩ 0 = q:=⟨_,rfl⟩;obtain ⟨q1,q1b,q2,q3,q4,q5,q6⟩:=hdec qak r n hrn;rw [hrn] at XH;simp only at XH
  have hnext:zV (s.drop (i+n)) (i+n) = zV s 0:=by
   rw [← hany0,qiZ n (s.drop i) i q4 (fun j hj hl=>by
    have:=q5 j hj hl;constructor
    ·intro e;rw [e] at this;revert this;decide
    ·intro e;rw [e] at this;revert this;decide),kF]
  have Vj:i+n≤s.length:=by omega
  have QM:IntKind.i64.wrap ((i:Int)+(n:Int)) = ((i+n:Nat):Int):=by rw [wrap_i64] <;> omega
  rw [vY,hofd] at XH;have hdl0:((s.length:Int) - (i:Int)).toNat = s.length - i:=by omega
  have hr0:0≤(i:Int):=by omega
  clear hdec hskip hib Xa hrn q5
  have hcase:(r≠65533∧n = 2)∨(r≠65533∧3≤n∧(n:Int)≤MaxL.m)∨(r≠65533∧3≤n∧¬ (n:Int)≤MaxL.m)∨r = 65533:=by
   by_cases hr:r = 65533
   ·exact .inr (.inr (.inr hr))
   ·have:=(q6 hr).1;by_cases h2:n = 2
    ·exact .inl ⟨hr,h2⟩
    ·by_cases hm:(n:Int)≤MaxL.m
     ·exact .inr (.inl ⟨hr,by omega,hm⟩)
     ·exact .inr (.inr (.inl ⟨hr,by omega,hm⟩))
  rcases hcase with ⟨hr,h2⟩ | ⟨hr,h3,hm⟩ | Yr
  ·obtain ⟨_,Yn,v6⟩:=q6 hr;have hr':¬ (r:Int) = 65533:=(by omega);have hen':¬ [61,10] = (Utf8.encode (r:Int)).data.toList:=fun e=>v6 e.symm;subst h2;have zw:IntKind.i64.wrap ((i:Int)+2) = (i:Int)+2:=(by rw [wrap_i64] <;> omega);refine h.run hG (f:=200) (nt:=129) (by kernel_rfl) (by omega) ?_;simp [ia0,qY,Tryz.f200,k0,k1,k12,qk,qW,hw32,hge2,XH,hr',hen',zw,qz,ZV qg];intro a3 w3 z3 d3 h3;exact hgo (i+2) _ _ (by omega) (qed ok0 w0 a s (i+2) _ _ _ (by omega) (by rw [d3,dd]) Vj hnext (by simp [qf]) (by simp [qf]) (by simp [qf]) h3)
  ·obtain ⟨_,Yn,v6⟩:=q6 hr;have hr':¬ (r:Int) = 65533:=(by omega);have vW:¬ 2 = (n:Int):=(by omega);have hix:=qxB (Utf8.encode (r:Int)).data.toList (by omega) (by rw [Yn];exact hm);refine h.run hG (f:=200) (nt:=129) (by kernel_rfl) (by omega) ?_;simp [ia0,qY,Tryz.f200,k0,k1,k12,qk,qW,hw32,hge2,XH,hr',vW,hm,Vk,hix,QM,qz,ZV qg];intro a3 w3 z3 d3 h3;exact hgo (i+n) _ _ (by omega) (qed ok0 w0 a s (i+n) _ _ _ (by omega) (by rw [d3,dd]) Vj hnext (by simp [qf]) (by simp [qf]) (by simp [qf]) h3)
  ·have hcond:(¬ (r:Int) = 65533∧¬ 2 = (n:Int)∧¬ (n:Int)≤MaxL.m)∨(r:Int) = 65533:=by
    rcases Yr with ⟨h1,h2,h3⟩ | h1
    ·exact .inl ⟨by omega,by omega,h3⟩
    ·exact .inr (by omega)
   refine ka (c:=(zG [1,1,1,1,1,1,0,1,0,0] ia0)) rfl fun K1 f1 g1=>?_;refine h.run hG (f:=200) (nt:=129) (by kernel_rfl) (by omega) ?_;simp [cL,ia0,qY,Tryz.f200,k0,k1,k12,qk];intro a1 w1 z1 d1 h1;refine f1 _ _ ?_;show (zG [1,1,1,1,1,1,0,1,0,0,1] ia0).wp _ _ _ _;refine ka (c:=(zG [1,1,1,1,1,1,0,1,0,0,1] ia0)) rfl fun K10 f10 g10=>?_;refine wp_block ?_;show (zG [1,1,1,1,1,1,0,1,0,0,1,0,0] ia0).wp _ _ _ _;refine ka (c:=(zG [1,1,1,1,1,1,0,1,0,0,1,0,0] ia0)) rfl fun K2 f2 g2=>?_;refine h1.run hG (f:=200) (nt:=129) (by kernel_rfl) (by omega) ?_;simp [cL,ia0,qY,Tryz.f200,qW,hw32,qg];intro a2 w2 z2 d2 h2;refine f2 _ _ ?_;show (zG [1,1,1,1,1,1,0,1,0,0,1,0,0,1] ia0).wp _ _ _ _;refine ka (c:=(zG [1,1,1,1,1,1,0,1,0,0,1,0,0,1] ia0)) rfl fun K3 f3 g3=>?_;refine h2.run hG (f:=200) (nt:=129) (by kernel_rfl) (by omega) ?_;simp [cL,ia0,qY,Tryz.f200,hge2];intro a3 w3 z3 d3 h3;refine f3 _ _ ?_;show (zG [1,1,1,1,1,1,0,1,0,0,1,0,0,1,1] ia0).wp _ _ _ _;refine ka (c:=(zG [1,1,1,1,1,1,0,1,0,0,1,0,0,1,1] ia0)) rfl fun K4 f4 g4=>?_;refine h3.run hG (f:=200) (nt:=129) (by kernel_rfl) (by omega) ?_;simp [cL,ia0,qY,Tryz.f200,qW,XH,qz,ZV qg];intro a4 w4 z4 d4 h4;refine f4 _ _ ?_;show (zG [1,1,1,1,1,1,0,1,0,0,1,0,0,1,1,1] ia0).wp _ _ _ _;refine ka (c:=(zG [1,1,1,1,1,1,0,1,0,0,1,0,0,1,1,1] ia0)) rfl fun K5 f5 g5=>?_
   have hst:∀ (a9:Act) (w9:World) (e9:qr),a9.tmps.size = a.tmps.size→a9.defers = []→qf e9 0 = some (.vsl false (qd s) s.length)→qf e9 1 = some (.str [61,10])→qf e9 11 = some (.int .i64 (n:Nat))→qf e9 12 = some (.int .i64 (i:Nat))→qf e9 13 = some (.int .i32 (r:Nat))→PSt cx ok0 w0 e9 [] a9 w9→K5 .normal a9 w9:=by
    intro a9 w9 e9 z9 d9 m0 m1 m11 m12 m13 h9;refine f5 _ _ ?_;show iaB0.wp _ _ _ _;refine qxD hT ok0 w0 a9 w9 e9 (by omega) s _ _ (r:Int) (by omega) m0 m1 m11 m12 m13 h9 fun b1 v1 e1 y1 t1 n0 n1 n11 n12 hb1=>?_;show Exit.inBlock 5 _ .normal b1 v1;refine f10 _ _ ?_;show (zG [1,1,1,1,1,1,0,1,0,0,1,1] ia0).wp _ _ _ _;refine hb1.run hG (f:=200) (nt:=129) (by kernel_rfl) (by omega) ?_;simp [ia0,qY,Tryz.f200,n0,n1,n11,n12,QM];intro b2 v2 y2 t2 zE;exact hgo (i+n) _ _ (by omega) (qed ok0 w0 a s (i+n) _ _ _ (by omega) (by rw [t2,t1,d9]) Vj hnext (by simp [qf]) (by simp [qf]) (by simp [qf]) zE)
   refine h4.run hG (f:=200) (nt:=129) (by kernel_rfl) (by omega) ?_;rcases hcond with ⟨c1,c2,c3⟩ | c1
   ·simp [cL,ia0,qY,Tryz.f200,c1,c2,c3,Vk];intro a9 w9 z9 d9 h9;exact hst a9 w9 _ (by omega) (by rw [d9,d4,d3,d2,d1,dd]) (by simp [qf]) (by simp [qf]) (by simp [qf]) (by simp [qf]) (by simp [qf]) h9
   ·simp [cL,ia0,qY,Tryz.f200,c1];intro a9 w9 z9 d9 h9;exact hst a9 w9 _ (by omega) (by rw [d9,d4,d3,d2,d1,dd]) (by simp [qf]) (by simp [qf]) (by simp [qf]) (by simp [qf]) (by simp [qf,c1]) h9
set_option maxHeartbeats 4000000 in
set_option maxRecDepth 4000 in
theorem qxA [MaxL] [TxtC] (hT:JR) (s:List UInt8) (h2:2≤s.length) (h8:s.length≤8) (ok0:Nat→Prop) (w0:World) (a:Act) (ht:129≤a.tmps.size) (hd:a.defers = []) (h:PSt cx ok0 w0 (Qv 0 [.vsl false (qd s) s.length,.str [61,10]]) [] a w0):ia0.wp cx.P (iaQ ok0 w0 (zV s 0)) a w0:=by
 have hG:=Vt hT;have zO:¬ (s.length:Int) = 1:=by omega
 have YM:=qih s.length;have VD:¬ 8 < s.length:=by omega
 simp only [VD,decide_false] at YM;refine ka (c:=ia0) rfl fun K1 f1 g1=>?_;refine h.run hG (f:=200) (nt:=129) (by kernel_rfl) (by omega) ?_;simp [cL,ia0,qY,Tryz.f200];intro a1 w1 z1 d1 h1;refine f1 _ _ ?_;show (zG [1] ia0).wp _ _ _ _;refine ka (c:=(zG [1] ia0)) rfl fun K2 f2 g2=>?_;refine h1.run hG (f:=200) (nt:=129) (by kernel_rfl) (by omega) ?_;simp [cL,ia0,qY,Tryz.f200];intro a2 w2 z2 d2 h2;refine f2 _ _ ?_;show (zG [1,1] ia0).wp _ _ _ _;refine ka (c:=(zG [1,1] ia0)) rfl fun K3 f3 g3=>?_;refine h2.run hG (f:=200) (nt:=129) (by kernel_rfl) (by omega) ?_;simp [cL,ia0,qY,Tryz.f200,zO];intro a3 w3 z3 d3 h3;refine f3 _ _ ?_;show (zG [1,1,1] ia0).wp _ _ _ _;refine ka (c:=(zG [1,1,1] ia0)) rfl fun K4 f4 g4=>?_;refine h3.run hG (f:=200) (nt:=129) (by kernel_rfl) (by omega) ?_;simp [cL,ia0,qY,Tryz.f200];intro a4 w4 z4 d4 h4;refine f4 _ _ ?_;show (zG [1,1,1,1] ia0).wp _ _ _ _;refine ka (c:=(zG [1,1,1,1] ia0)) rfl fun K5 f5 g5=>?_;refine h4.run hG (f:=200) (nt:=129) (by kernel_rfl) (by omega) ?_;simp [cL,ia0,qY,Tryz.f200,YM];intro a5 w5 z5 d5 h5;refine f5 _ _ ?_;show (zG [1,1,1,1,1] ia0).wp _ _ _ _;refine ka (c:=(zG [1,1,1,1,1] ia0)) rfl fun K6 f6 g6=>?_;refine h5.run hG (f:=200) (nt:=129) (by kernel_rfl) (by omega) ?_;simp [cL,ia0,qY,Tryz.f200];intro a6 w6 z6 d6 h6;refine f6 _ _ ?_;show (zG [1,1,1,1,1,1] ia0).wp _ _ _ _;refine ka (c:=(zG [1,1,1,1,1,1] ia0)) rfl fun K0 f0 g0=>?_;refine ka (c:=(zG [1,1,1,1,1,1,0] ia0)) rfl fun K7 f7 g7=>?_;refine h6.run hG (f:=200) (nt:=129) (by kernel_rfl) (by omega) ?_;simp [cL,ia0,qY,Tryz.f200];intro a7 w7 z7 d7 h7;refine f7 _ _ ?_;show (Code.block 4 (.loop _)).wp _ _ _ _;have hI0:iaI ok0 w0 a s 0 a7 w7:=qed ok0 w0 a s 0 _ _ _ (by omega) (by rw [d7,d6,d5,d4,d3,d2,d1,hd]) (by omega) (by simp) (by simp [qf]) (by simp [qf]) (by simp [qf]) h7;refine wp_block (wp_loop (fun a' w'=>∃ i,iaI ok0 w0 a s i a' w') (fun a' _=>s.length - (qii (a'.tmps.getD 12 undef)).toNat) ⟨0,hI0⟩ ?_);rintro a9 w9 ⟨i,hI⟩
 have Yl:∀ {i:Nat} {a9:Act} {w9:World},iaI ok0 w0 a s i a9 w9→(qii (a9.tmps.getD 12 undef)).toNat = i:=by
  rintro i a9 w9 ⟨_,_,_,_,e,_,_,k12,h⟩;rw [h.slotI k12];simp [qii]
 rw [Yl hI];have hle:=hI.2.2.1;by_cases qg:i < s.length
 ·refine qx8 hT s h8 ok0 w0 a ht i a9 w9 hI qg ?_ ?_
  ·intro a' w' hq;show K0 .ret a' w';exact g0 _ _ _ (by intro e;cases e) hq
  ·intro i' a' w' ZG hI';refine ⟨⟨i',hI'⟩,?_⟩;rw [Yl hI'];have:=hI'.2.2.1;omega
 ·obtain ⟨zz,dd,hi,Xa,e,k0,k1,k12,hp⟩:=hI;have XE:i = s.length:=by omega
  subst XE;rw [List.drop_length,zV] at Xa;show (zG [1,1,1,1,1,1,0,1,0,0] ia0).wp _ _ _ _;refine hp.run hG (f:=200) (nt:=129) (by kernel_rfl) (by omega) ?_;simp [ia0,qY,Tryz.f200,k0,k1,k12];intro b1 v1 y1 t1 hb1;show K0 .normal b1 v1;refine f0 _ _ ?_;show (zG [1,1,1,1,1,1,1] ia0).wp _ _ _ _;refine hb1.run hG (f:=200) (nt:=129) (by kernel_rfl) (by omega) ?_;simp [ia0,qY,Tryz.f200];intro b2 v2 y2 t2 zE;exact ⟨rfl,by rw [t2,t1,dd],_,by simp [qf,← Xa],zE⟩
def qat (args:List D) (H:qi):Option (D × qi):=match args,H with
 | [.vsl false ds n,.str t],[]=>match Vx ds with
  | some s=>if s.length = n∧1≤n∧n≤8∧t = [61,10] then some (.int .i64 (zV s 0),[]) else none
  | none=>none
 | _,_=>none
theorem qz0 {args:List D} {H:qi} {q:D × qi} (h:qat args H = some q):∃ s:List UInt8,args = [.vsl false (qd s) s.length,.str [61,10]]∧H = []∧1≤s.length∧s.length≤8∧q = (.int .i64 (zV s 0),[]):=by
 unfold qat at h;split at h
 ·rename_i ds n t;cases hr:Vx ds with
  | none=>rw [hr] at h;cases h
  | some s =>
   rw [hr] at h;simp only at h;split at h
   ·rename_i hc;obtain ⟨c1,c2,c3,c4⟩:=hc;injection h with h;subst c1;subst c4;exact ⟨s,by rw [qe9 hr],rfl,c2,c3,h.symm⟩
   ·cases h
 ·cases h
theorem qzy (s:List UInt8) (h1:1≤s.length) (h8:s.length≤8):qat [.vsl false (qd s) s.length,.str [61,10]] [] = some (.int .i64 (zV s 0),[]):=by
 simp [qat,h1,h8]
theorem qnW (s:List UInt8) (b:Bool) (h:s.length = 0∨8 < s.length):qat [.vsl b (qd s) s.length,.str [61,10]] [] = none:=by
 cases b with
 | true=>rfl
 | false =>
  simp only [qat,qgv];rw [if_neg (by omega)]
set_option maxRecDepth 4000 in
theorem qzz [MaxL] {T:TxtC} {args:List D} {H:qi} {r:D} {H':qi} (h:qat args H = some (r,H')) {ok:Nat→Prop} {w:World} {ι:qF} {vs:List Value} (hs:Sim (@cx _ T) ok w ι H) (hv:RepL ok w ι H args vs):Goes Tryz.prog (callFunc 200 vs.toArray) w (Jw (@cx _ T) ok w ι H r H'):=by
 obtain ⟨s,rfl,rfl,h1,h8,e⟩:=qz0 h;injection e with e1 e2;subst e1;subst e2;have:=qop (X:=@cx _ qa5) (f:=200) (c:=ia0) (r:=.int .i64 (zV s 0)) Tryz.func200 rfl rfl (by intro d hd;simp only [qbG,List.not_mem_nil,or_false] at hd;rcases hd with rfl | rfl <;> simp [idFree]) ⟨hs.okS,hs.glob,hs.inj,hs.blk⟩ hv fun a z1 z2 he VB=>wp_mono (Q:=@iaQ _ qa5 ok w (zV s 0)) ?_ ?_
 ·refine this.mono ?_;rintro v w' ⟨ι',ok',k1,k2,k3,k4⟩;exact ⟨ι',ok',⟨k1.okS,k1.glob,k1.inj,k1.blk⟩,k2,k3,k4⟩
 ·have hp:@PSt (@cx _ qa5) ok w (Qv 0 [.vsl false (qd s) s.length,.str [61,10]]) [] a w:=⟨⟨ok,zg,VB,he,.refl _ (qB _)⟩⟩;have hz:129≤a.tmps.size:=by rw [z1];exact Nat.le_max_right _ _
  by_cases h2:2≤s.length
  ·exact @qxA _ qa5 qgD s h2 h8 ok w a hz z2 hp
  ·match s,h1,h2,hp with
   | [c],_,_,hp=>exact @qx9 _ qa5 qgD c ok w a hz z2 hp
   | c :: d :: s,_,h2,_=>simp at h2
 ·rintro x a' w' ⟨rfl,y1,e',k4,hp⟩;refine ⟨.inr rfl,y1,e',_,[.int .i64 (zV s 0)],hp,?_,?_⟩
  ·simp [Tryz.f200,Qz,k4]
  ·simp [J9,JA]
noncomputable instance txt1:TxtC:=⟨fun f=>if f = 64 then qas else if f = 200 then qat else fun _ _=>none⟩
set_option maxRecDepth 100000 in
theorem qpq [MaxL]:JR:=by
 intro f args H r H' h ok w ι vs hs hv;replace h:(if f = 64 then qas else if f = 200 then qat else fun _ _=>none) args H = some (r,H'):=h;by_cases h1:f = 64
 ·rw [if_pos h1] at h;subst h1;exact qzo h hs hv
 ·rw [if_neg h1] at h;by_cases h2:f = 200
  ·rw [if_pos h2] at h;subst h2;exact qzz h hs hv
  ·rw [if_neg h2] at h;cases h
theorem qci {X:Cx} {f nt n0:Nat} {K:Ex→qr→qi→Prop} {fr:List Fr} {dr:Bool} {l:List SOp} {e:qr} {d:Option Tmp} {a b:Nat} {x:D × qi} (h:a≤b) (hr:XN X f nt n0 K fr dr l e d (some x)):XN X f nt n0 K fr dr l e d (if a≤b then some x else none):=by rw [if_pos h];exact hr
def jR:List UInt8:=[95,95,71,65,80,61]
def Jz (it:It):List UInt8:=jR ++ (qE it.fr.toNat ++ (45 :: (qE it.til.toNat ++ (10 :: (jW ++ (zu it.id.l ++ [10,10]))))))
def zH (it:It):List UInt8:=if it.gap then Jz it else vx it
def qbP (it:It):D:=if zM it then .vsl false (qd (zH it)) (zH it).length else .vsl true [] 0
set_option maxHeartbeats 4000000 in
theorem qp4 [MaxL] (it:It) (hb:∀ p∈it.rc.fields.l,Qw p) (hn:it.rc.fields.l.length < 1000000) (ho:zM it = false):call cx 64 [.agg (Enc.cells it)] [] = some (.vsl true [] 0,[]):=by
 have hw:=qg8 it hb hn;rw [ho] at hw
 have Zj:cx.con 64 [.agg (Enc.cells it)] [] = none:=by
  refine qnV ?_;unfold zM at ho;cases hg:it.gap with
  | true=>exact .inl rfl
  | false=>rw [hg,if_neg (by decide)] at ho;exact .inr ho
 refine qs Tryz.func64 rfl ⟨rfl,Zj⟩ ?_;simp [Tryz.f64,hw]
set_option maxHeartbeats 4000000 in
set_option maxRecDepth 4000 in
theorem qp0 [MaxL] (it:It) (hi:it.Ok) (hg:it.gap = true) (hb:∀ p∈it.rc.fields.l,Qw p) (hn:it.rc.fields.l.length < 1000000) (ho:zM it = true):call cx 64 [.agg (Enc.cells it)] [] = some (.vsl false (qd (Jz it)) (Jz it).length,[]):=by
 have hw:=qg8 it hb hn;rw [ho] at hw;have Zj:cx.con 64 [.agg (Enc.cells it)] [] = none:=qnV (.inl hg);have QN:=hi.fr;have zS:=hi.til;unfold qA at QN zS;have n1:=qdR it.fr.toNat (by omega);have n2:=qdR it.til.toNat (by omega);have e1:((it.fr.toNat:Nat):Int) = it.fr:=by omega
 have e2:((it.til.toNat:Nat):Int) = it.til:=by omega
 rw [e1] at n1;rw [e2] at n2;have x1:=qeg it.id.l it.id.h;have l4:=Zt it.id.l;rw [it.id.h] at l4;have d1:=kP it.fr.toNat;have d2:=kP it.til.toNat;unfold Jz jR jW;generalize qE it.fr.toNat = s1 at *;generalize qE it.til.toNat = s2 at *;generalize zu it.id.l = s4 at *;refine qs Tryz.func64 rfl ⟨rfl,Zj⟩ ?_;have c0:6+s1.length≤4611686018427387904:=by omega
 have c1:s1.length≤4611686018427387897:=by omega
 simp [Tryz.f64,hw,hg,n1,n2,c0,c1]
 iterate
  refine qci (by omega) ?_
  try simp [x1]
theorem qp1 [MaxL] (it:It) (hi:it.Ok) (hb:∀ p∈it.rc.fields.l,Qw p) (hn:it.rc.fields.l.length < 1000000):call cx 64 [.agg (Enc.cells it)] [] = some (qbP it,[]):=by
 unfold qbP zH;cases ho:zM it with
 | false=>exact qp4 it hb hn ho
 | true =>
  cases hg:it.gap with
  | true=>exact qp0 it hi hg hb hn ho
  | false =>
   unfold zM at ho;rw [hg,if_neg (by decide)] at ho;exact Yw (qzp hi hg ho)
end Go.Ev.S
namespace Go.Ev.S
open Go Go.Proofs Go.Ev
set_option maxHeartbeats 4000000 in
set_option maxRecDepth 4000 in
theorem qqL [MaxL] (it:It) (hi:it.Ok) (hb:∀ p∈it.rc.fields.l,Qw p) (hn:it.rc.fields.l.length < 1000000) (ho:zM it = false):call cx 89 [.agg (Enc.cells it)] [] = some (.vsl true [] 0,[]):=by
 have hw:=qd5 it hi hb hn;rw [ho] at hw;refine qs Tryz.func89 rfl ⟨rfl,rfl⟩ ?_;simp [Tryz.f89,hw]
set_option maxHeartbeats 4000000 in
set_option maxRecDepth 4000 in
theorem qqK [MaxL] (it:It) (hi:it.Ok) (hg:it.gap = true) (hb:∀ p∈it.rc.fields.l,Qw p) (hn:it.rc.fields.l.length < 1000000) (ho:zM it = true):call cx 89 [.agg (Enc.cells it)] [] = some (.vsl false (qd (Jz it)) (Jz it).length,[]):=by
 have hw:=qd5 it hi hb hn;rw [ho] at hw;have QN:=hi.fr;have zS:=hi.til;unfold qA at QN zS;have n1:=qaD it.fr.toNat (by omega);have n2:=qaD it.til.toNat (by omega);have e1:((it.fr.toNat:Nat):Int) = it.fr:=by omega
 have e2:((it.til.toNat:Nat):Int) = it.til:=by omega
 rw [e1] at n1;rw [e2] at n2;have x1:=qd8 it.id.l it.id.h;have l4:=Zt it.id.l;rw [it.id.h] at l4;have d1:=kP it.fr.toNat;have d2:=kP it.til.toNat;unfold Jz jR jW;generalize qE it.fr.toNat = s1 at *;generalize qE it.til.toNat = s2 at *;generalize zu it.id.l = s4 at *;have ve:List.take 17 (qd it.rc.boot.l ++ [(.vsl it.rc.fields.nil (qh it.rc.fields.l) it.rc.fields.l.length)]) = qd it.rc.boot.l ++ [(.vsl it.rc.fields.nil (qh it.rc.fields.l) it.rc.fields.l.length)]:=qx (by simp);refine qs Tryz.func89 rfl ⟨rfl,rfl⟩ ?_;have c0:6+s1.length≤4611686018427387904:=by omega
 have c1:s1.length≤4611686018427387897:=by omega
 simp [Tryz.f89,hw,hg,n1,n2,c0,c1,ve]
 iterate
  refine qci (by omega) ?_
  try simp [x1]
set_option maxHeartbeats 8000000 in
set_option maxRecDepth 8000 in
theorem qqJ [MaxL] (it:It) (hi:it.Ok) (hg:it.gap = false) (ho:zM it = true):call cx 89 [.agg (Enc.cells it)] [] = some (.vsl false (qd (vx it)) (vx it).length,[]):=by
 have hr:Zp it = true:=by
  unfold zM at ho
  rwa [hg,if_neg (by decide)] at ho
 obtain ⟨hn,hb,vD⟩:=qh2 hr;have hw:=qd5 it hi hb (by omega);rw [ho] at hw;have zN:=qeA it.rc.fields.l 400 vD;have YS:=qrW it.id it.rc (by omega) hb;have zY:=qqR (JP it.id it.rc) (qoq it.id it.rc hi.rc);have QN:=hi.rc.real;have zS:=hi.rc.mono;have hr3:=hi.rc.seq;unfold qA at QN zS hr3;have n1:=qaD it.rc.real.toNat (by omega);have n2:=qaD it.rc.mono.toNat (by omega);have n3:=qaD it.rc.seq.toNat (by omega);have e1:((it.rc.real.toNat:Nat):Int) = it.rc.real:=by omega
 have e2:((it.rc.mono.toNat:Nat):Int) = it.rc.mono:=by omega
 have e3:((it.rc.seq.toNat:Nat):Int) = it.rc.seq:=by omega
 rw [e1] at n1;rw [e2] at n2;rw [e3] at n3;have x1:=qd8 it.id.l it.id.h;have x2:=qd8 it.rc.boot.l it.rc.boot.h;have l0:=(qgU (JP it.id it.rc)).2;have l4:=Zt it.id.l;have l5:=Zt it.rc.boot.l;rw [it.id.h] at l4;rw [it.rc.boot.h] at l5;have d1:=kP it.rc.real.toNat;have d2:=kP it.rc.mono.toNat;have d3:=kP it.rc.seq.toNat;obtain ⟨S0,hS0⟩:∃ S0,S0 = Zu (J1 it):=⟨_,rfl⟩
 have hS0l:S0.length≤1806:=by
  rw [hS0];exact qfZ (J1 it) (qgT it hi)
 have hT:vx it = S0 ++ jo it.rc.fields.l ++ [10]:=by rw [hS0];rfl
 rw [hT];simp only [Zu,J1,KQ,JE,JF,JD,jW,Z8,Y6,List.map_nil,qc1,List.flatten_nil,vI,kt,ZW,Z2] at hS0;generalize JW (JP it.id it.rc) = s0 at *;generalize qE it.rc.real.toNat = s1 at *;generalize qE it.rc.mono.toNat = s2 at *;generalize qE it.rc.seq.toNat = s3 at *;generalize zu it.id.l = s4 at *;generalize zu it.rc.boot.l = s5 at *;have ve:List.take 17 (qd it.rc.boot.l ++ [(.vsl it.rc.fields.nil (qh it.rc.fields.l) it.rc.fields.l.length)]) = qd it.rc.boot.l ++ [(.vsl it.rc.fields.nil (qh it.rc.fields.l) it.rc.fields.l.length)]:=qx (by simp);have hb16:List.take 16 (qd it.rc.boot.l ++ [(.vsl it.rc.fields.nil (qh it.rc.fields.l) it.rc.fields.l.length)]) = qd it.rc.boot.l:=List.take_left' (by simp);rw [Rec.cells] at YS;simp only [kt,ZW] at YS;refine qs Tryz.func89 rfl ⟨rfl,rfl⟩ ?_;have c0:s0.length≤4611686018427387895:=by omega
 simp [Tryz.f89,hw,hg,YS,zY,ve]
 iterate 20
  try refine qci (by omega) ?_
  try simp [n1,n2,n3,x1,x2,hb16,qD]
 rw [← hS0];clear hS0 n1 n2 n3 x1 x2 YS zY c0 l0 d1 d2 d3 l4 l5;obtain ⟨F,hF⟩:∃ F,F = it.rc.fields:=⟨_,rfl⟩;rw [← hF] at hn hb vD zN ve hb16 ⊢;obtain ⟨X,hX⟩:∃ X:List D,X = .int .u64 it.rc.seq :: .int .u64 it.rc.real :: .int .u64 it.rc.mono :: qd it.rc.boot.l:=⟨_,rfl⟩;have jD:X.length = 19:=by rw [hX];simp [it.rc.boot.h]
 have JJ:idFree.idFreeL X = true:=by rw [hX];simp [idFree]
 have hE:D.int .u64 it.rc.seq :: .int .u64 it.rc.real :: .int .u64 it.rc.mono :: (qd it.rc.boot.l ++ [(.vsl F.nil (qh F.l) F.l.length)]) = X ++ [(.vsl F.nil (qh F.l) F.l.length)]:=by rw [hX];rfl
 rw [hE];have hXd:List.drop 19 X = []:=zX (by omega)
 have kO:∀ n,(∀ x,x∈X→closed n x = true) = True:=fun n=>eq_true (by
  have:=Vw n X JJ;rw [qb5] at this;exact List.all_eq_true.1 this)
 clear hE hX hF;refine Run.loopThen (fun (k:Nat) e H'=>k≤F.l.length∧(H' = [some (Enc.cells it),some (X ++ [(.vsl F.nil (qh F.l) F.l.length)])]∨∃ p:Pr,H' = [some (Enc.cells it),some (X ++ [(.vsl F.nil (qh F.l) F.l.length)]),some [.str p.name,.str p.value]])∧qf e 3 = some (.optr 1 20 0)∧qf e 4 = some (.str (S0 ++ jo (F.l.take k)))∧qf e 5 = some (.int .i64 k)) (fun k=>F.l.length - k) 0 ?_ ?_
 ·exact ⟨by omega,.inl rfl,by simp,by simp [jo],by simp⟩
 rintro k e H' ⟨hk,hH,k3,k4,k5⟩;by_cases qg:k < F.l.length
 ·have qk:(k:Int) < (F.l.length:Int):=by omega
  have qO:IntKind.i64.wrap ((k:Int)+1) = ((k+1:Nat):Int):=by rw [wrap_i64] <;> omega
  have hnn:=Sl.nn qg;have hpb:=hb _ (vw qg);have qbf:=vD _ (vw qg);have hp:=qrl F.l[k].value hpb.2;have ZJ:=qoy qg;have hbk:=qeA (F.l.take k) 400 (fun p hp=>vD p (Jv hp));have ze:(F.l.take k).length≤16:=by simp;omega
  have ki:(jo (F.l.take k)).length≤6400:=by
   have:(F.l.take k).length * 400≤16 * 400:=qbD _ ze;omega
  unfold Q0 at ZJ qbf;have hvl:=hpb.2;have hnu:=qtg F.l[k].value.length (by omega);obtain ⟨p,hp0⟩:∃ p,F.l[k] = p:=⟨_,rfl⟩;rw [hp0] at hpb qbf hp ZJ hvl hnu;have VG:=X5 8 p.value.length;generalize qJ 8 p.value.length = l8 at *;have hwv:IntKind.u64.wrap (p.value.length:Int) = (p.value.length:Int):=by rw [qU] <;> omega
  generalize jo (F.l.take k) = B at *;have hpn:=hpb.1;have c2:S0.length+(B.length+p.name.length)≤4611686018427387904:=by omega
  cases hpv:Xv p.value with
  | true =>
   rw [hpv] at hp qbf ZJ;simp only [if_true] at qbf ZJ;simp only [qC,qG,qX] at qbf;rcases hH with rfl | ⟨q,rfl⟩
   ·simp [k3,k4,k5,qk,qg,hnn,hp0,Pr.cells,hp,jD]
    iterate 8
     try refine qci (by omega) ?_
     try simp [qO]
    exact ⟨k+1,by omega,by omega,⟨p,rfl,rfl⟩,by rw [← ZJ];simp,rfl⟩
   ·simp [k3,k4,k5,qk,qg,hnn,hp0,Pr.cells,hp,jD,kO]
    iterate 8
     try refine qci (by omega) ?_
     try simp [qO]
    exact ⟨k+1,by omega,by omega,⟨p,rfl,rfl⟩,by rw [← ZJ];simp,rfl⟩
  | false =>
   rw [hpv] at hp qbf ZJ;simp only [vT,if_false] at qbf ZJ;simp only [qC,qG,qX] at qbf;have e0:S0.length+B.length+p.name.length≤4611686018427387904:=(by omega);have e1:S0.length+(B.length+p.name.length)≤4611686018427387903:=(by omega);have e2:S0.length+(B.length+(p.name.length+1))≤4611686018427387896:=(by omega);have e3:S0.length+(B.length+(p.name.length+9))+p.value.length≤4611686018427387904:=(by omega);have e4:S0.length+(B.length+(p.name.length+(8+p.value.length+1)))≤4611686018427387903:=(by omega);rcases hH with rfl | ⟨q,rfl⟩
   ·simp [k3,k4,k5,qk,qg,qO,hnn,hp0,Pr.cells,hp,hnu,VG,hwv,jD,e0,e1,e2,e3,e4]
    iterate 8
     try refine qci (by omega) ?_
     try simp [k3,k4,k5,qk,qg,qO,hnn,hp0,Pr.cells,hp,hnu,VG,hwv,jD,hXd,kO,qD,e0,e1,e2,e3,e4]
    exact ⟨k+1,by omega,by omega,⟨p,rfl,rfl⟩,by rw [← ZJ];simp,rfl⟩
   ·simp [k3,k4,k5,qk,qg,qO,hnn,hp0,Pr.cells,hp,hnu,VG,hwv,jD,kO,e0,e1,e2,e3,e4]
    iterate 8
     try refine qci (by omega) ?_
     try simp [k3,k4,k5,qk,qg,qO,hnn,hp0,Pr.cells,hp,hnu,VG,hwv,jD,hXd,kO,qD,e0,e1,e2,e3,e4]
    exact ⟨k+1,by omega,by omega,⟨p,rfl,rfl⟩,by rw [← ZJ];simp,rfl⟩
 ·have qk:¬ (k:Int) < (F.l.length:Int):=by omega
  have hke:k = F.l.length:=by omega
  subst hke;rw [List.take_length] at k4;have c1:S0.length+(jo F.l).length≤4611686018427387903:=by omega
  rcases hH with rfl | ⟨q,rfl⟩
  ·simp [k3,k4,k5,qk,jD,c1]
  ·simp [k3,k4,k5,qk,jD,kO,c1]
def jO (sep s:List UInt8):List UInt8 × List UInt8 × Bool:=if zA sep s 0 = -1 then (s,[],false) else (s.take (zA sep s 0).toNat,s.drop ((zA sep s 0).toNat+sep.length),true)
theorem qze [MaxL] [TxtC] (s sep:List UInt8) (hs:s.length < 1000000) (hl:sep.length < 1000000):call cx 156 [.str s,.str sep] [] = some (.tup [.str (jO sep s).1,.str (jO sep s).2.1,.bool (jO sep s).2.2],[]):=by
 have h:=qxr s sep (by omega);unfold jO;refine qs Tryz.func156 rfl ⟨rfl,rfl⟩ ?_;rcases qcO sep s 0 with ⟨i,h1,h2,-⟩ | h1
 ·rw [h1] at h;rw [h1];obtain ⟨j,hj⟩:∃ j,j = i+sep.length:=⟨_,rfl⟩;have hw:IntKind.i64.wrap ((i:Int)+(sep.length:Int)) = (j:Int):=by rw [wrap_i64] <;> omega
  have hn:¬ ((0+i:Nat):Int) = -1:=by omega
  have g1:(i:Int)≤(s.length:Int):=by omega
  have g2:(j:Int)≤(s.length:Int):=by omega
  have g3:j≤s.length:=by omega
  have g4:i≤s.length:=by omega
  rw [vQ] at h hn;simp [Tryz.f156,h,hw,g1,g2,← hj];exact qx (by simp)
 ·rw [h1] at h;simp [Tryz.f156,h,h1]
theorem qnR [MaxL] [TxtC] (s sep:List UInt8) (hs:s.length < 1000000) (hl:sep.length < 1000000):call cx 127 [.str s,.str sep] [] = some (.tup [.str (jO sep s).1,.str (jO sep s).2.1,.bool (jO sep s).2.2],[]):=by
 have h:=qze s sep hs hl;refine qs Tryz.func127 rfl ⟨rfl,rfl⟩ ?_;simp [Tryz.f127,h]
def pre (p s:List UInt8):Bool:=s.take p.length == p
theorem qlf [MaxL] [TxtC] (s p:List UInt8) (_:s.length < 1000000) (_:p.length < 1000000):call cx 181 [.str s,.str p] [] = some (.bool (pre p s),[]):=by
 refine qs Tryz.func181 rfl ⟨rfl,rfl⟩ ?_;by_cases h:p.length≤s.length
 ·have h':(p.length:Int)≤(s.length:Int):=by omega
  simp [Tryz.f181,h',pre]
 ·have h':¬ (p.length:Int)≤(s.length:Int):=by omega
  have hn:pre p s = false:=by
   unfold pre;rw [qx (by omega)];rw [beq_eq_false_iff_ne];intro e;rw [e] at h;omega
  simp [Tryz.f181,h',hn]
theorem qla {p s:List UInt8} (h:pre p s = true):p.length≤s.length:=by
 unfold pre at h;have:=congrArg List.length (beq_iff_eq.1 h);rw [js] at this;omega
theorem qjz [MaxL] [TxtC] (s p:List UInt8) (hs:s.length < 1000000) (hp:p.length < 1000000):call cx 129 [.str s,.str p] [] = some (.str (if pre p s then s.drop p.length else s),[]):=by
 have h:=qlf s p hs hp
 have h2:call cx 159 [.str s,.str p] [] = some (.str (if pre p s then s.drop p.length else s),[]):=by
  refine qs Tryz.func159 rfl ⟨rfl,rfl⟩ ?_;cases hq:pre p s with
  | true =>
   have:=qla hq;have g:(p.length:Int)≤(s.length:Int):=(by omega);rw [hq] at h;simp [Tryz.f159,h,g];exact qx (by simp)
  | false =>
   rw [hq] at h;simp [Tryz.f159,h]
 refine qs Tryz.func129 rfl ⟨rfl,rfl⟩ ?_;simp [Tryz.f129,h2]
theorem qsN (a b:UInt8):Kh .u8 (a.toNat:Int) (b.toNat:Int) = ((a ||| b).toNat:Int):=by
 unfold Kh;have h:=(a ||| b).toNat_lt
 have e:(BitVec.ofInt IntKind.u8.bits (a.toNat:Int) ||| BitVec.ofInt IntKind.u8.bits (b.toNat:Int)).toNat = (a ||| b).toNat:=by
  simp [IntKind.bits];rfl
 rw [e,QG];omega
theorem qlG [MaxL] [TxtC] (c:UInt8):call cx 183 [.int .u8 c.toNat] [] = some (.int .u8 ((c ||| 32).toNat:Int),[]):=by
 have h:=qsN c 32;have h':Kh .u8 (c.toNat:Int) 32 = ((c ||| 32).toNat:Int):=h;refine qs Tryz.func183 rfl ⟨rfl,rfl⟩ ?_;simp [Tryz.f183,h']
theorem q0U {p:UInt8→Bool} (h:((List.range 256).all fun k=>p (UInt8.ofNat k)) = true) (c:UInt8):p c = true:=by
 have:=List.all_eq_true.1 h c.toNat (List.mem_range.2 c.toNat_lt);rw [UInt8.ofNat_toNat] at this;exact this
theorem qlH {c:UInt8} (h:c.toNat < 48):(c ||| 32).toNat < 97:=by
 have:=q0U (p:=fun c=>decide (c.toNat < 48) == false || decide ((c ||| 32).toNat < 97)) (by decide +kernel) c;simpa [h] using this
theorem qlI {c:UInt8} (h:c.toNat = 95):122 < (c ||| 32).toNat:=by
 simp [h]
def Xg (c:UInt8):Option Nat:=if 48≤c.toNat∧c.toNat≤57 then some (c.toNat - 48) else if 97≤(c ||| 32).toNat∧(c ||| 32).toNat≤122 then some ((c ||| 32).toNat - 97+10) else none
def jx (b:Nat):List UInt8→Nat→Option Nat
 | [],n=>some n
 | c :: l,n=>match Xg c with
  | none=>none
  | some d=>if b≤d then none else if 18446744073709551616≤n * b+d then none else jx b l (n * b+d)
def pu (b:Nat) (s:List UInt8):Option Nat:=if s = [] then none else jx b s 0
theorem qeL {x d:Nat} (hx:x < 18446744073709551616) (hd:d < 16) (h:18446744073709551616≤x+d):IntKind.u64.wrap ((x:Int)+(d:Int)) < (x:Int):=by
 simp only [IntKind.wrap,IntKind.signed,IntKind.bits];simp;omega
theorem qcH (b:Nat):∀ (l:List UInt8) (n v:Nat),n < 18446744073709551616→jx b l n = some v→v < 18446744073709551616
 | [],n,v,hn,h=>by simp [jx] at h;omega
 | c :: l,n,v,hn,h=>by
  unfold jx at h;split at h
  ·cases h
  ·split at h
   ·cases h
   ·split at h
    ·cases h
    ·exact qcH b l _ v (by omega) h
set_option maxHeartbeats 2000000 in
set_option maxRecDepth 4000 in
theorem qsm [MaxL] [TxtC] (b:Nat) (hb:b = 10∨b = 16) (s:List UInt8) (hs:s.length < 4611686018427387904) :
  (∃ n,pu b s = some n∧call cx 157 [.str s,.int .i64 b,.int .i64 64] [] = some (.tup [.int .u64 n,.nili],[])) ∨
  (pu b s = none∧∃ (x:Nat) (c:Int),(c = 1∨c = 2)∧call cx 157 [.str s,.int .i64 b,.int .i64 64] [] = some (.tup [.int .u64 x,.iface 230 (.int .i64 c)],[])):=by
 suffices h:∃ r,call cx 157 [.str s,.int .i64 b,.int .i64 64] [] = some r∧((∃ n,pu b s = some n∧r = (.tup [.int .u64 n,.nili],[]))∨(pu b s = none∧∃ (x:Nat) (c:Int),(c = 1∨c = 2)∧r = (.tup [.int .u64 x,.iface 230 (.int .i64 c)],[]))) by
  obtain ⟨r,h1,⟨n,h2,rfl⟩ | ⟨h2,x,c,h3,rfl⟩⟩:=h
  ·exact .inl ⟨n,h2,h1⟩
  ·exact .inr ⟨h2,x,c,h3,h1⟩
 refine vH (fun r=>(∃ n:Nat,pu b s = some n∧r = (D.tup [.int .u64 n,.nili],[]))∨(pu b s = none∧∃ (x:Nat) (c:Int),(c = 1∨c = 2)∧r = (D.tup [.int .u64 x,.iface 230 (.int .i64 c)],[]))) Tryz.func157 rfl ⟨rfl,rfl⟩ ?_;by_cases h0:s = []
 ·subst h0;simp [Tryz.f157,pu];exact ⟨0,rfl⟩
 ·have kh:s.length≠0:=by simpa using h0
  have kN:(2:Int)≤(b:Int):=by omega
  have hc36:(b:Int)≤36:=by omega
  have hbz:¬ (b:Int) = 0:=by omega
  have vJ:IntKind.u64.wrap (IntKind.u64.wrap (2 ^ min 64 IntKind.u64.bits) - 1) = 18446744073709551615:=by decide
  have kK:pu b s = jx b s 0:=by rw [pu,if_neg h0]
  rcases hb with rfl | rfl
  ·simp [Tryz.f157,h0,vJ];refine Run.loopThen (fun (z:Nat × Nat) e H'=>z.1≤s.length∧z.2 < 18446744073709551616∧jx 10 (s.drop z.1) z.2 = jx 10 s 0∧H' = [some (qd s)]∧qf e 1 = some (.int .i64 10)∧qf e 8 = some (.bool false)∧qf e 9 = some (.str s)∧qf e 10 = some (.int .u64 1844674407370955162)∧qf e 11 = some (.int .u64 18446744073709551615)∧qf e 12 = some (.bool false)∧qf e 13 = some (.int .u64 (z.2:Nat))∧qf e 99 = some (.osl 0 s.length 0 s.length 1)∧qf e 100 = some (.int .i64 s.length)∧qf e 101 = some (.int .i64 (z.1:Nat))) (fun z=>s.length - z.1) (0,0) (by simp) ?_;rintro ⟨i,n⟩ e H' ⟨hi,hn,hp,rfl,h1,h8,h9,jf,kn,vp,vN,km,ko,vO⟩;simp only at hi hn hp vN vO;by_cases qg:i < s.length
   ·have qk:(i:Int) < (s.length:Int):=(by omega);have hw:IntKind.i64.wrap ((i:Int)+1) = ((i+1:Nat):Int):=(by rw [wrap_i64] <;> omega);have hc:=qlG s[i];have hclt:=s[i].toNat_lt;rw [zm qg,jx] at hp;unfold Xg at hp;by_cases hd:48≤s[i].toNat∧s[i].toNat≤57
    ·rw [if_pos hd] at hp;have g1:(48:Int)≤(s[i].toNat:Int):=(by omega);have g2:(s[i].toNat:Int)≤57:=(by omega);have g3:¬ (s[i].toNat:Int) = 95:=(by omega);obtain ⟨d,KZ⟩:∃ d,d = s[i].toNat - 48:=⟨_,rfl⟩;have dw:IntKind.u8.wrap ((s[i].toNat:Int) - 48) = (d:Int):=(by rw [QG] <;> omega);rw [← KZ] at hp;simp only at hp;have hd16:d < 16:=(by omega);have wd:IntKind.u64.wrap (d:Int) = (d:Int):=(by rw [qU];omega);by_cases zN:10≤d
     ·have Qt:(10:Int)≤(d:Int):=(by omega);rw [if_pos zN] at hp;simp [h1,h8,h9,jf,kn,vp,vN,km,ko,vO,qk,jt qg,g1,g2,g3,dw,Qt];exact ⟨by rw [kK];exact hp.symm,0,rfl⟩
     ·have Qt:¬ (10:Int)≤(d:Int):=(by omega);rw [if_neg zN] at hp;by_cases hcut:1844674407370955162≤n
      ·have Zv:(1844674407370955162:Int)≤(n:Int):=(by omega);rw [if_pos (by omega)] at hp;simp [h1,h8,h9,jf,kn,vp,vN,km,ko,vO,qk,jt qg,g1,g2,g3,dw,Qt,Zv];exact ⟨by rw [kK];exact hp.symm,18446744073709551615,rfl⟩
      ·have Zv:¬ (1844674407370955162:Int)≤(n:Int):=(by omega);obtain ⟨m,hm⟩:∃ m,m = n * 10:=⟨_,rfl⟩;have hm64:m < 18446744073709551616:=(by omega);have wm:IntKind.u64.wrap ((n:Int) * 10) = (m:Int):=(by rw [qU] <;> omega);rw [← hm] at hp;by_cases Ve:18446744073709551616≤m+d
       ·rw [if_pos Ve] at hp;have hx:=qeL hm64 (by omega) Ve;generalize hX:IntKind.u64.wrap ((m:Int)+(d:Int)) = X at hx;simp [h1,h8,h9,jf,kn,vp,vN,km,ko,vO,qk,jt qg,g1,g2,g3,dw,Qt,Zv,wd,wm,hX,hx];exact ⟨by rw [kK];exact hp.symm,18446744073709551615,rfl⟩
       ·rw [if_neg Ve] at hp;obtain ⟨q,hq⟩:∃ q,q = m+d:=⟨_,rfl⟩;have wq:IntKind.u64.wrap ((m:Int)+(d:Int)) = (q:Int):=(by rw [qU] <;> omega);have VA:¬ (q:Int) < (m:Int):=(by omega);have Kp:¬ (18446744073709551615:Int) < (q:Int):=(by omega);rw [← hq] at hp;simp [h1,h8,h9,jf,kn,vp,vN,km,ko,vO,qk,jt qg,g1,g2,g3,dw,Qt,Zv,wd,wm,wq,VA,Kp,hw];exact ⟨i+1,by omega,by omega,q,by omega,hp,rfl,by simp⟩
    ·rw [if_neg hd] at hp;by_cases h48:s[i].toNat < 48
     ·have lw:=qlH h48;rw [if_neg (by omega)] at hp;have g1:¬ (48:Int)≤(s[i].toNat:Int):=(by omega);have g3:¬ (s[i].toNat:Int) = 95:=(by omega);have f1:¬ (97:Int)≤((s[i] ||| 32).toNat:Int):=(by omega);generalize (s[i] ||| 32).toNat = lc at *;simp only at hp;simp [h1,h8,h9,jf,kn,vp,vN,km,ko,vO,qk,jt qg,g1,g3,hc,f1];exact ⟨by rw [kK];exact hp.symm,0,rfl⟩
     ·have g1:(48:Int)≤(s[i].toNat:Int):=(by omega);have g2:¬ (s[i].toNat:Int)≤57:=(by omega);by_cases g95:s[i].toNat = 95
      ·have lw:=qlI g95;rw [if_neg (by omega)] at hp;have g3:(s[i].toNat:Int) = 95:=(by omega);have f1:(97:Int)≤((s[i] ||| 32).toNat:Int):=(by omega);have f2:¬ ((s[i] ||| 32).toNat:Int)≤122:=(by omega);generalize (s[i] ||| 32).toNat = lc at *;rw [g3] at hc;simp only at hp;simp [h1,h8,h9,jf,kn,vp,vN,km,ko,vO,qk,jt qg,g3,hc,f1,f2];exact ⟨by rw [kK];exact hp.symm,0,rfl⟩
      ·have g3:¬ (s[i].toNat:Int) = 95:=(by omega);have lw256:=(s[i] ||| 32).toNat_lt;generalize (s[i] ||| 32).toNat = lc at *;by_cases f:97≤lc∧lc≤122
       ·rw [if_pos f] at hp;have f1:(97:Int)≤(lc:Int):=(by omega);have f2:(lc:Int)≤122:=(by omega);obtain ⟨d0,hd0⟩:∃ d,d = lc - 97:=⟨_,rfl⟩;obtain ⟨d,KZ⟩:∃ d,d = d0+10:=⟨_,rfl⟩;have dw1:IntKind.u8.wrap ((lc:Int) - 97) = (d0:Int):=(by rw [QG] <;> omega);have dw2:IntKind.u8.wrap ((d0:Int)+10) = (d:Int):=(by rw [QG] <;> omega);rw [← hd0,← KZ] at hp;simp only at hp;have hd16:d < 36:=(by omega);have wd:IntKind.u64.wrap (d:Int) = (d:Int):=(by rw [qU];omega);by_cases zN:10≤d
        ·have Qt:(10:Int)≤(d:Int):=(by omega);rw [if_pos zN] at hp;simp [h1,h8,h9,jf,kn,vp,vN,km,ko,vO,qk,jt qg,g1,g2,g3,hc,f1,f2,dw1,dw2,Qt];exact ⟨by rw [kK];exact hp.symm,0,rfl⟩
        ·have Qt:¬ (10:Int)≤(d:Int):=(by omega);rw [if_neg zN] at hp;by_cases hcut:1844674407370955162≤n
         ·have Zv:(1844674407370955162:Int)≤(n:Int):=(by omega);rw [if_pos (by omega)] at hp;simp [h1,h8,h9,jf,kn,vp,vN,km,ko,vO,qk,jt qg,g1,g2,g3,hc,f1,f2,dw1,dw2,Qt,Zv];exact ⟨by rw [kK];exact hp.symm,18446744073709551615,rfl⟩
         ·have Zv:¬ (1844674407370955162:Int)≤(n:Int):=(by omega);obtain ⟨m,hm⟩:∃ m,m = n * 10:=⟨_,rfl⟩;have hm64:m < 18446744073709551616:=(by omega);have wm:IntKind.u64.wrap ((n:Int) * 10) = (m:Int):=(by rw [qU] <;> omega);rw [← hm] at hp;by_cases Ve:18446744073709551616≤m+d
          ·rw [if_pos Ve] at hp;have hx:=qeL hm64 (by omega) Ve;generalize hX:IntKind.u64.wrap ((m:Int)+(d:Int)) = X at hx;simp [h1,h8,h9,jf,kn,vp,vN,km,ko,vO,qk,jt qg,g1,g2,g3,hc,f1,f2,dw1,dw2,Qt,Zv,wd,wm,hX,hx];exact ⟨by rw [kK];exact hp.symm,18446744073709551615,rfl⟩
          ·rw [if_neg Ve] at hp;obtain ⟨q,hq⟩:∃ q,q = m+d:=⟨_,rfl⟩;have wq:IntKind.u64.wrap ((m:Int)+(d:Int)) = (q:Int):=(by rw [qU] <;> omega);have VA:¬ (q:Int) < (m:Int):=(by omega);have Kp:¬ (18446744073709551615:Int) < (q:Int):=(by omega);rw [← hq] at hp;simp [h1,h8,h9,jf,kn,vp,vN,km,ko,vO,qk,jt qg,g1,g2,g3,hc,f1,f2,dw1,dw2,Qt,Zv,wd,wm,wq,VA,Kp,hw];exact ⟨i+1,by omega,by omega,q,by omega,hp,rfl,by simp⟩
       ·rw [if_neg f] at hp;by_cases f3:97≤lc
        ·have f1:(97:Int)≤(lc:Int):=(by omega);have f2:¬ (lc:Int)≤122:=(by omega);simp only at hp;simp [h1,h8,h9,jf,kn,vp,vN,km,ko,vO,qk,jt qg,g1,g2,g3,hc,f1,f2];exact ⟨by rw [kK];exact hp.symm,0,rfl⟩
        ·have f1:¬ (97:Int)≤(lc:Int):=(by omega);simp only at hp;simp [h1,h8,h9,jf,kn,vp,vN,km,ko,vO,qk,jt qg,g1,g2,g3,hc,f1];exact ⟨by rw [kK];exact hp.symm,0,rfl⟩
   ·have qk:¬ (i:Int) < (s.length:Int):=(by omega);rw [zX (by omega),jx] at hp;simp [h1,h8,h9,jf,kn,vp,vN,km,ko,vO,qk];exact ⟨n,by rw [kK];exact hp.symm,rfl⟩
  ·simp [Tryz.f157,h0,vJ];refine Run.loopThen (fun (z:Nat × Nat) e H'=>z.1≤s.length∧z.2 < 18446744073709551616∧jx 16 (s.drop z.1) z.2 = jx 16 s 0∧H' = [some (qd s)]∧qf e 1 = some (.int .i64 16)∧qf e 8 = some (.bool false)∧qf e 9 = some (.str s)∧qf e 10 = some (.int .u64 1152921504606846976)∧qf e 11 = some (.int .u64 18446744073709551615)∧qf e 12 = some (.bool false)∧qf e 13 = some (.int .u64 (z.2:Nat))∧qf e 99 = some (.osl 0 s.length 0 s.length 1)∧qf e 100 = some (.int .i64 s.length)∧qf e 101 = some (.int .i64 (z.1:Nat))) (fun z=>s.length - z.1) (0,0) (by simp) ?_;rintro ⟨i,n⟩ e H' ⟨hi,hn,hp,rfl,h1,h8,h9,jf,kn,vp,vN,km,ko,vO⟩;simp only at hi hn hp vN vO;by_cases qg:i < s.length
   ·have qk:(i:Int) < (s.length:Int):=(by omega);have hw:IntKind.i64.wrap ((i:Int)+1) = ((i+1:Nat):Int):=(by rw [wrap_i64] <;> omega);have hc:=qlG s[i];have hclt:=s[i].toNat_lt;rw [zm qg,jx] at hp;unfold Xg at hp;by_cases hd:48≤s[i].toNat∧s[i].toNat≤57
    ·rw [if_pos hd] at hp;have g1:(48:Int)≤(s[i].toNat:Int):=(by omega);have g2:(s[i].toNat:Int)≤57:=(by omega);have g3:¬ (s[i].toNat:Int) = 95:=(by omega);obtain ⟨d,KZ⟩:∃ d,d = s[i].toNat - 48:=⟨_,rfl⟩;have dw:IntKind.u8.wrap ((s[i].toNat:Int) - 48) = (d:Int):=(by rw [QG] <;> omega);rw [← KZ] at hp;simp only at hp;have hd16:d < 16:=(by omega);have wd:IntKind.u64.wrap (d:Int) = (d:Int):=(by rw [qU];omega);by_cases zN:16≤d
     ·have Qt:(16:Int)≤(d:Int):=(by omega);rw [if_pos zN] at hp;simp [h1,h8,h9,jf,kn,vp,vN,km,ko,vO,qk,jt qg,g1,g2,g3,dw,Qt];exact ⟨by rw [kK];exact hp.symm,0,rfl⟩
     ·have Qt:¬ (16:Int)≤(d:Int):=(by omega);rw [if_neg zN] at hp;by_cases hcut:1152921504606846976≤n
      ·have Zv:(1152921504606846976:Int)≤(n:Int):=(by omega);rw [if_pos (by omega)] at hp;simp [h1,h8,h9,jf,kn,vp,vN,km,ko,vO,qk,jt qg,g1,g2,g3,dw,Qt,Zv];exact ⟨by rw [kK];exact hp.symm,18446744073709551615,rfl⟩
      ·have Zv:¬ (1152921504606846976:Int)≤(n:Int):=(by omega);obtain ⟨m,hm⟩:∃ m,m = n * 16:=⟨_,rfl⟩;have hm64:m < 18446744073709551616:=(by omega);have wm:IntKind.u64.wrap ((n:Int) * 16) = (m:Int):=(by rw [qU] <;> omega);rw [← hm] at hp;by_cases Ve:18446744073709551616≤m+d
       ·rw [if_pos Ve] at hp;have hx:=qeL hm64 (by omega) Ve;generalize hX:IntKind.u64.wrap ((m:Int)+(d:Int)) = X at hx;simp [h1,h8,h9,jf,kn,vp,vN,km,ko,vO,qk,jt qg,g1,g2,g3,dw,Qt,Zv,wd,wm,hX,hx];exact ⟨by rw [kK];exact hp.symm,18446744073709551615,rfl⟩
       ·rw [if_neg Ve] at hp;obtain ⟨q,hq⟩:∃ q,q = m+d:=⟨_,rfl⟩;have wq:IntKind.u64.wrap ((m:Int)+(d:Int)) = (q:Int):=(by rw [qU] <;> omega);have VA:¬ (q:Int) < (m:Int):=(by omega);have Kp:¬ (18446744073709551615:Int) < (q:Int):=(by omega);rw [← hq] at hp;simp [h1,h8,h9,jf,kn,vp,vN,km,ko,vO,qk,jt qg,g1,g2,g3,dw,Qt,Zv,wd,wm,wq,VA,Kp,hw];exact ⟨i+1,by omega,by omega,q,by omega,hp,rfl,by simp⟩
    ·rw [if_neg hd] at hp;by_cases h48:s[i].toNat < 48
     ·have lw:=qlH h48;rw [if_neg (by omega)] at hp;have g1:¬ (48:Int)≤(s[i].toNat:Int):=(by omega);have g3:¬ (s[i].toNat:Int) = 95:=(by omega);have f1:¬ (97:Int)≤((s[i] ||| 32).toNat:Int):=(by omega);generalize (s[i] ||| 32).toNat = lc at *;simp only at hp;simp [h1,h8,h9,jf,kn,vp,vN,km,ko,vO,qk,jt qg,g1,g3,hc,f1];exact ⟨by rw [kK];exact hp.symm,0,rfl⟩
     ·have g1:(48:Int)≤(s[i].toNat:Int):=(by omega);have g2:¬ (s[i].toNat:Int)≤57:=(by omega);by_cases g95:s[i].toNat = 95
      ·have lw:=qlI g95;rw [if_neg (by omega)] at hp;have g3:(s[i].toNat:Int) = 95:=(by omega);have f1:(97:Int)≤((s[i] ||| 32).toNat:Int):=(by omega);have f2:¬ ((s[i] ||| 32).toNat:Int)≤122:=(by omega);generalize (s[i] ||| 32).toNat = lc at *;rw [g3] at hc;simp only at hp;simp [h1,h8,h9,jf,kn,vp,vN,km,ko,vO,qk,jt qg,g3,hc,f1,f2];exact ⟨by rw [kK];exact hp.symm,0,rfl⟩
      ·have g3:¬ (s[i].toNat:Int) = 95:=(by omega);have lw256:=(s[i] ||| 32).toNat_lt;generalize (s[i] ||| 32).toNat = lc at *;by_cases f:97≤lc∧lc≤122
       ·rw [if_pos f] at hp;have f1:(97:Int)≤(lc:Int):=(by omega);have f2:(lc:Int)≤122:=(by omega);obtain ⟨d0,hd0⟩:∃ d,d = lc - 97:=⟨_,rfl⟩;obtain ⟨d,KZ⟩:∃ d,d = d0+10:=⟨_,rfl⟩;have dw1:IntKind.u8.wrap ((lc:Int) - 97) = (d0:Int):=(by rw [QG] <;> omega);have dw2:IntKind.u8.wrap ((d0:Int)+10) = (d:Int):=(by rw [QG] <;> omega);rw [← hd0,← KZ] at hp;simp only at hp;have hd16:d < 36:=(by omega);have wd:IntKind.u64.wrap (d:Int) = (d:Int):=(by rw [qU];omega);by_cases zN:16≤d
        ·have Qt:(16:Int)≤(d:Int):=(by omega);rw [if_pos zN] at hp;simp [h1,h8,h9,jf,kn,vp,vN,km,ko,vO,qk,jt qg,g1,g2,g3,hc,f1,f2,dw1,dw2,Qt];exact ⟨by rw [kK];exact hp.symm,0,rfl⟩
        ·have Qt:¬ (16:Int)≤(d:Int):=(by omega);rw [if_neg zN] at hp;by_cases hcut:1152921504606846976≤n
         ·have Zv:(1152921504606846976:Int)≤(n:Int):=(by omega);rw [if_pos (by omega)] at hp;simp [h1,h8,h9,jf,kn,vp,vN,km,ko,vO,qk,jt qg,g1,g2,g3,hc,f1,f2,dw1,dw2,Qt,Zv];exact ⟨by rw [kK];exact hp.symm,18446744073709551615,rfl⟩
         ·have Zv:¬ (1152921504606846976:Int)≤(n:Int):=(by omega);obtain ⟨m,hm⟩:∃ m,m = n * 16:=⟨_,rfl⟩;have hm64:m < 18446744073709551616:=(by omega);have wm:IntKind.u64.wrap ((n:Int) * 16) = (m:Int):=(by rw [qU] <;> omega);rw [← hm] at hp;by_cases Ve:18446744073709551616≤m+d
          ·rw [if_pos Ve] at hp;have hx:=qeL hm64 (by omega) Ve;generalize hX:IntKind.u64.wrap ((m:Int)+(d:Int)) = X at hx;simp [h1,h8,h9,jf,kn,vp,vN,km,ko,vO,qk,jt qg,g1,g2,g3,hc,f1,f2,dw1,dw2,Qt,Zv,wd,wm,hX,hx];exact ⟨by rw [kK];exact hp.symm,18446744073709551615,rfl⟩
          ·rw [if_neg Ve] at hp;obtain ⟨q,hq⟩:∃ q,q = m+d:=⟨_,rfl⟩;have wq:IntKind.u64.wrap ((m:Int)+(d:Int)) = (q:Int):=(by rw [qU] <;> omega);have VA:¬ (q:Int) < (m:Int):=(by omega);have Kp:¬ (18446744073709551615:Int) < (q:Int):=(by omega);rw [← hq] at hp;simp [h1,h8,h9,jf,kn,vp,vN,km,ko,vO,qk,jt qg,g1,g2,g3,hc,f1,f2,dw1,dw2,Qt,Zv,wd,wm,wq,VA,Kp,hw];exact ⟨i+1,by omega,by omega,q,by omega,hp,rfl,by simp⟩
       ·rw [if_neg f] at hp;by_cases f3:97≤lc
        ·have f1:(97:Int)≤(lc:Int):=(by omega);have f2:¬ (lc:Int)≤122:=(by omega);simp only at hp;simp [h1,h8,h9,jf,kn,vp,vN,km,ko,vO,qk,jt qg,g1,g2,g3,hc,f1,f2];exact ⟨by rw [kK];exact hp.symm,0,rfl⟩
        ·have f1:¬ (97:Int)≤(lc:Int):=(by omega);simp only at hp;simp [h1,h8,h9,jf,kn,vp,vN,km,ko,vO,qk,jt qg,g1,g2,g3,hc,f1];exact ⟨by rw [kK];exact hp.symm,0,rfl⟩
   ·have qk:¬ (i:Int) < (s.length:Int):=(by omega);rw [zX (by omega),jx] at hp;simp [h1,h8,h9,jf,kn,vp,vN,km,ko,vO,qk];exact ⟨n,by rw [kK];exact hp.symm,rfl⟩
def jd (s:List UInt8):Option Nat:=if s = []∨20 < s.length∨(s.head? = some 48∧1 < s.length) then none else jx 10 s 0
theorem qdh [MaxL] [TxtC] (s p:List UInt8) (_:s.length < 1000000) (_:p.length < 1000000):call cx 75 [.str s,.str p] [] = some (.tup (if pre p s then [.str (s.drop p.length),.bool true] else [.str [],.bool false]),[]):=by
 refine qs Tryz.func75 rfl ⟨rfl,rfl⟩ ?_;by_cases h:s.length < p.length
 ·have h':(s.length:Int) < (p.length:Int):=by omega
  have hn:pre p s = false:=by
   unfold pre;rw [beq_eq_false_iff_ne];intro e;have:=congrArg List.length e;rw [js] at this;omega
  simp [Tryz.f75,h',hn]
 ·have h':¬ (s.length:Int) < (p.length:Int):=by omega
  have h2:p.length≤s.length:=by omega
  have Qh:(p.length:Int)≤(s.length:Int):=by omega
  have ht:List.take (s.length - p.length) (List.drop p.length s) = List.drop p.length s:=qx (by simp);cases hq:pre p s with
  | false =>
   have ZC:(s.take p.length == p) = false:=hq;simp [Tryz.f75,h',Qh,ZC]
  | true =>
   have ZC:(s.take p.length == p) = true:=hq;simp [Tryz.f75,h',Qh,ZC,ht]
theorem qyU {c:UInt8} (h1:48≤c.toNat) (h2:c.toNat≤57):Xg c = some (c.toNat - 48):=by
 unfold Xg;rw [if_pos ⟨h1,h2⟩]
theorem qft {c:UInt8} (h:c.toNat < 48∨57 < c.toNat) (l:List UInt8) (n:Nat):jx 10 (c :: l) n = none:=by
 rw [jx];cases hd:Xg c with
 | none=>rfl
 | some d =>
  simp only;unfold Xg at hd;rw [if_neg (by omega)] at hd;split at hd
  ·injection hd with hd;rw [if_pos (by omega)]
  ·cases hd
theorem qkV {c:UInt8} (h1:48≤c.toNat) (h2:c.toNat≤57) (l:List UInt8) (n:Nat):jx 10 (c :: l) n = if 18446744073709551616≤n * 10+(c.toNat - 48) then none else jx 10 l (n * 10+(c.toNat - 48)):=by
 rw [jx,qyU h1 h2];simp only;rw [if_neg (by omega)]
theorem qkS (d v:Nat) (hd:d < 10):∃ m:Nat,IntKind.u64.wrap (18446744073709551615 - (d:Int)) = ((18446744073709551615 - d:Nat):Int)∧IntKind.u64.wrap (((18446744073709551615 - d:Nat):Int) / 10) = (m:Int)∧(m < v↔18446744073709551616≤v * 10+d):=by
 refine ⟨(18446744073709551615 - d) / 10,?_,?_,?_⟩
 ·rw [qU] <;> omega
 ·rw [qU] <;> omega
 ·omega
set_option maxHeartbeats 2000000 in
theorem qfm [MaxL] [TxtC] (s:List UInt8) (hs:s.length < 1000000):call cx 114 [.str s] [] = some (.tup (match jd s with
  | none=>[.int .u64 0,.bool false]
  | some v=>[.int .u64 (v:Nat),.bool true]),[]):=by
 refine qs Tryz.func114 rfl ⟨rfl,rfl⟩ ?_;cases s with
 | nil=>simp [Tryz.f114,jd]
 | cons c0 s0 =>
 have h0:¬ ((c0 :: s0).length:Int) < 1:=by simp;omega
 have ZI:(c0 :: s0)[0]? = some c0:=rfl;by_cases h20:20 < (c0 :: s0).length
 ·have h20':(20:Int) < ((c0 :: s0).length:Int):=by omega
  have hp:jd (c0 :: s0) = none:=by unfold jd;rw [if_pos (.inr (.inl h20))]
  generalize c0 :: s0 = s at *;simp [Tryz.f114,h0,h20',hp]
 ·have h20':¬ (20:Int) < ((c0 :: s0).length:Int):=by omega
  by_cases hz:c0.toNat = 48∧1 < (c0 :: s0).length
  ·obtain ⟨Yg,Yf⟩:=hz;have hz2':(1:Int) < ((c0 :: s0).length:Int):=(by omega);have Yq:c0 = 48:=UInt8.toNat_inj.1 Yg;have hp:jd (c0 :: s0) = none:=(by unfold jd;rw [if_pos (.inr (.inr ⟨by rw [Yq];rfl,Yf⟩))]);generalize c0 :: s0 = s at *;subst Yq;simp [Tryz.f114,h0,h20',hp,ZI,hz2']
  ·have hp:jd (c0 :: s0) = jx 10 (c0 :: s0) 0:=by
    unfold jd;rw [if_neg];rintro (h | h | ⟨h1,h2⟩)
    ·simp at h
    ·exact h20 h
    ·simp only [List.head?_cons,qu] at h1;exact hz ⟨by rw [h1];rfl,h2⟩
   have hcs:¬ (c0.toNat:Int) = 48∨((c0.toNat:Int) = 48∧¬ (1:Int) < ((c0 :: s0).length:Int)):=(by omega);generalize c0 :: s0 = s at *;rw [hp];rcases hcs with hA | ⟨hA,hB⟩
   ·simp [Tryz.f114,h0,h20',ZI,hA];refine Run.loopThen (fun (q:Nat × Nat) e H'=>q.1≤s.length∧q.2 < 18446744073709551616∧jx 10 (s.drop q.1) q.2 = jx 10 s 0∧H' = []∧qf e 0 = some (.str s)∧qf e 4 = some (.int .u64 (q.2:Nat))∧qf e 5 = some (.int .i64 (q.1:Nat))) (fun q=>s.length - q.1) (0,0) ?_ ?_
    ·simp
    rintro ⟨k,v⟩ e H' ⟨hk,hv,hi,rfl,k0,k4,k5⟩;simp only at hk hv hi k4 k5;by_cases qg:k < s.length
    ·have qk:(k:Int) < (s.length:Int):=(by omega);have qO:IntKind.i64.wrap ((k:Int)+1) = ((k+1:Nat):Int):=(by rw [wrap_i64] <;> omega);rw [zm qg] at hi;have Vc:s[k]? = some s[k]:=zi qg;generalize s[k] = c at *;by_cases d1:c.toNat < 48
     ·have d1':(c.toNat:Int) < 48:=(by omega);rw [qft (.inl d1)] at hi;simp [k0,k4,k5,qk,Vc,d1',← hi]
     ·have d1':¬ (c.toNat:Int) < 48:=(by omega);by_cases d2:57 < c.toNat
      ·have d2':(57:Int) < (c.toNat:Int):=(by omega);rw [qft (.inr d2)] at hi;simp [k0,k4,k5,qk,Vc,d1',d2',← hi]
      ·have d2':¬ (57:Int) < (c.toNat:Int):=(by omega);rw [qkV (by omega) (by omega)] at hi;obtain ⟨d,hd⟩:∃ d,d = c.toNat - 48:=⟨_,rfl⟩;rw [← hd] at hi;have hd10:d < 10:=(by omega);have w1:IntKind.u8.wrap ((c.toNat:Int) - 48) = (d:Int):=(by rw [QG] <;> omega);have w2:IntKind.u64.wrap (d:Int) = (d:Int):=(by rw [qU];omega);obtain ⟨m,m1,m2,m3⟩:=qkS d v hd10;generalize 18446744073709551615 - d = j at *;by_cases d3:m < v
       ·have d3':(m:Int) < (v:Int):=(by omega);rw [if_pos (m3.1 d3)] at hi;simp [k0,k4,k5,qk,Vc,d1',d2',w1,w2,m1,m2,d3',← hi]
       ·have d3':¬ (m:Int) < (v:Int):=(by omega);have hle:¬ 18446744073709551616≤v * 10+d:=fun h=>d3 (m3.2 h);rw [if_neg hle] at hi;have w3:IntKind.u64.wrap (10 * (v:Int)) = ((10 * v:Nat):Int):=(by rw [qU] <;> omega);have w4:IntKind.u64.wrap (((10 * v:Nat):Int)+(d:Int)) = ((v * 10+d:Nat):Int):=(by rw [qU] <;> omega);obtain ⟨t,ht⟩:∃ t,t = 10 * v:=⟨_,rfl⟩;rw [← ht] at w3 w4;obtain ⟨u,hu⟩:∃ u,u = v * 10+d:=⟨_,rfl⟩;rw [← hu] at w4 hi hle;clear m3;simp [k0,k4,k5,qk,Vc,d1',d2',w1,w2,m1,m2,d3',w3,w4,qO];exact ⟨k+1,by omega,by omega,u,by omega,hi,rfl,rfl⟩
    ·have qk:¬ (k:Int) < (s.length:Int):=(by omega);rw [zX (by omega),jx] at hi;simp [k0,k4,k5,qk,← hi]
   ·simp [Tryz.f114,h0,h20',ZI,hA,hB];refine Run.loopThen (fun (q:Nat × Nat) e H'=>q.1≤s.length∧q.2 < 18446744073709551616∧jx 10 (s.drop q.1) q.2 = jx 10 s 0∧H' = []∧qf e 0 = some (.str s)∧qf e 4 = some (.int .u64 (q.2:Nat))∧qf e 5 = some (.int .i64 (q.1:Nat))) (fun q=>s.length - q.1) (0,0) ?_ ?_
    ·simp
    rintro ⟨k,v⟩ e H' ⟨hk,hv,hi,rfl,k0,k4,k5⟩;simp only at hk hv hi k4 k5;by_cases qg:k < s.length
    ·have qk:(k:Int) < (s.length:Int):=(by omega);have qO:IntKind.i64.wrap ((k:Int)+1) = ((k+1:Nat):Int):=(by rw [wrap_i64] <;> omega);rw [zm qg] at hi;have Vc:s[k]? = some s[k]:=zi qg;generalize s[k] = c at *;by_cases d1:c.toNat < 48
     ·have d1':(c.toNat:Int) < 48:=(by omega);rw [qft (.inl d1)] at hi;simp [k0,k4,k5,qk,Vc,d1',← hi]
     ·have d1':¬ (c.toNat:Int) < 48:=(by omega);by_cases d2:57 < c.toNat
      ·have d2':(57:Int) < (c.toNat:Int):=(by omega);rw [qft (.inr d2)] at hi;simp [k0,k4,k5,qk,Vc,d1',d2',← hi]
      ·have d2':¬ (57:Int) < (c.toNat:Int):=(by omega);rw [qkV (by omega) (by omega)] at hi;obtain ⟨d,hd⟩:∃ d,d = c.toNat - 48:=⟨_,rfl⟩;rw [← hd] at hi;have hd10:d < 10:=(by omega);have w1:IntKind.u8.wrap ((c.toNat:Int) - 48) = (d:Int):=(by rw [QG] <;> omega);have w2:IntKind.u64.wrap (d:Int) = (d:Int):=(by rw [qU];omega);obtain ⟨m,m1,m2,m3⟩:=qkS d v hd10;generalize 18446744073709551615 - d = j at *;by_cases d3:m < v
       ·have d3':(m:Int) < (v:Int):=(by omega);rw [if_pos (m3.1 d3)] at hi;simp [k0,k4,k5,qk,Vc,d1',d2',w1,w2,m1,m2,d3',← hi]
       ·have d3':¬ (m:Int) < (v:Int):=(by omega);have hle:¬ 18446744073709551616≤v * 10+d:=fun h=>d3 (m3.2 h);rw [if_neg hle] at hi;have w3:IntKind.u64.wrap (10 * (v:Int)) = ((10 * v:Nat):Int):=(by rw [qU] <;> omega);have w4:IntKind.u64.wrap (((10 * v:Nat):Int)+(d:Int)) = ((v * 10+d:Nat):Int):=(by rw [qU] <;> omega);obtain ⟨t,ht⟩:∃ t,t = 10 * v:=⟨_,rfl⟩;rw [← ht] at w3 w4;obtain ⟨u,hu⟩:∃ u,u = v * 10+d:=⟨_,rfl⟩;rw [← hu] at w4 hi hle;clear m3;simp [k0,k4,k5,qk,Vc,d1',d2',w1,w2,m1,m2,d3',w3,w4,qO];exact ⟨k+1,by omega,by omega,u,by omega,hi,rfl,rfl⟩
    ·have qk:¬ (k:Int) < (s.length:Int):=(by omega);rw [zX (by omega),jx] at hi;simp [k0,k4,k5,qk,← hi]
theorem qoj [MaxL] [TxtC] (s:List UInt8) (h:s.length≤281474976710656):call cx 215 [.str s] [] = some (.str s,[]):=by
 refine Yw ?_;rw [qnZ,qe2,if_pos h]
theorem qp9 [MaxL] [TxtC] (f s:List UInt8) (h:s.length≤281474976710656):∃ d,call cx 185 [.str f,.str s] [] = some (.vptr d,[]):=by
 have hc:=qoj s h
 suffices hh:∃ r,call cx 185 [.str f,.str s] [] = some r∧∃ d,r = (.vptr d,[]) by
  obtain ⟨r,h1,d,rfl⟩:=hh;exact ⟨d,h1⟩
 refine vH (fun r=>∃ d,r = (D.vptr d,[])) Tryz.func185 rfl ⟨rfl,rfl⟩ ?_;simp [Tryz.f185,hc]
theorem qrZ [MaxL] [TxtC] (f s:List UInt8) (h:s.length≤281474976710656):∃ d,call cx 186 [.str f,.str s] [] = some (.vptr d,[]):=by
 have hc:=qoj s h
 suffices hh:∃ r,call cx 186 [.str f,.str s] [] = some r∧∃ d,r = (.vptr d,[]) by
  obtain ⟨r,h1,d,rfl⟩:=hh;exact ⟨d,h1⟩
 refine vH (fun r=>∃ d,r = (D.vptr d,[])) Tryz.func186 rfl ⟨rfl,rfl⟩ ?_;simp [Tryz.f186,hc]
theorem qpt [MaxL] [TxtC] (f s:List UInt8) (h:s.length≤281474976710656) (b c:Int) (hc:c = 1∨c = 2):∃ d,call cx 158 [.str f,.str s,.int .i64 b,.int .i64 64,.iface 230 (.int .i64 c)] [] = some (.iface 232 (.vptr d),[]):=by
 obtain ⟨d1,h1⟩:=qp9 f s h;obtain ⟨d2,h2⟩:=qrZ f s h
 suffices hh:∃ r,call cx 158 [.str f,.str s,.int .i64 b,.int .i64 64,.iface 230 (.int .i64 c)] [] = some r∧∃ d,r = (.iface 232 (.vptr d),[]) by
  obtain ⟨r,h1,d,rfl⟩:=hh;exact ⟨d,h1⟩
 refine vH (fun r=>∃ d,r = (D.iface 232 (.vptr d),[])) Tryz.func158 rfl ⟨rfl,rfl⟩ ?_;rcases hc with rfl | rfl
 ·simp [Tryz.f158,h2]
 ·simp [Tryz.f158,h1]
theorem qhx [MaxL] [TxtC] (b:Nat) (hb:b = 10∨b = 16) (s:List UInt8) (hs:s.length≤281474976710656) :
  (∃ n,pu b s = some n∧call cx 128 [.str s,.int .i64 b,.int .i64 64] [] = some (.tup [.int .u64 n,.nili],[])) ∨
  (pu b s = none∧∃ (x:Nat) (d:List D),call cx 128 [.str s,.int .i64 b,.int .i64 64] [] = some (.tup [.int .u64 x,.iface 232 (.vptr d)],[])):=by
 rcases qsm b hb s (by omega) with ⟨n,h1,h2⟩ | ⟨h1,x,c,hc,h2⟩
 ·refine .inl ⟨n,h1,?_⟩;refine qs Tryz.func128 rfl ⟨rfl,rfl⟩ ?_;simp [Tryz.f128,h2]
 ·obtain ⟨d,hd⟩:=qpt [80,97,114,115,101,85,105,110,116] s hs b c hc;refine .inr ⟨h1,x,d,?_⟩;refine qs Tryz.func128 rfl ⟨rfl,rfl⟩ ?_;simp [Tryz.f128,h2,hd]
def vh (p s:List UInt8):List UInt8:=if pre p s then s.drop p.length else s
theorem qeT (p s:List UInt8):(vh p s).length≤s.length:=by
 unfold vh;split <;> simp
def vd (b:List UInt8):List UInt8:=(jO [10] b).1
def zJ (b:List UInt8):List UInt8:=(jO [10] b).2.1
theorem qes (sep s:List UInt8):(jO sep s).1.length≤s.length∧(jO sep s).2.1.length≤s.length:=by
 unfold jO;split
 ·simp
 ·simp;omega
theorem qdX (b:List UInt8):(vd b).length≤b.length:=(qes [10] b).1
theorem Va (b:List UInt8):(zJ b).length≤b.length:=(qes [10] b).2
def Qn (p b:List UInt8):Nat:=(pu 10 (vh p (vd b))).getD 0
def Qo (p b:List UInt8):ID:=Kn (vh p (vd b))
end Go.Ev.S
namespace Go.Ev.S
open Go Go.Proofs Go.Ev Go.RowKit
def asc:List D:=(List.range 256).map fun i=>.bool (decide (i = 61∨i = 10))
theorem q08 [MaxL]:call cx 229 [.str [61,10]] [] = some (.tup [.agg asc,.bool true],[]):=call_some.2 ⟨60,by kernel_rfl⟩
theorem qo5:asc.length = 256:=by simp [asc]
theorem q09 (c:UInt8):asc.drop c.toNat = .bool (decide (c = 61∨c = 10)) :: asc.drop (c.toNat+1):=by
 have hl:c.toNat < asc.length:=by rw [qo5];exact c.toNat_lt
 rw [zm hl];congr 1;simp only [asc,List.getElem_map,List.getElem_range];congr 1;have h1:c.toNat = 61↔c = 61:=⟨fun h=>UInt8.toNat_inj.1 h,fun h=>by rw [h];rfl⟩;have h2:c.toNat = 10↔c = 10:=⟨fun h=>UInt8.toNat_inj.1 h,fun h=>by rw [h];rfl⟩;rw [decide_eq_decide,h1,h2]
theorem q07 [MaxL] (c:UInt8):call cx 230 [.vptr asc,.int .u8 c.toNat] [] = some (.bool (decide (c = 61∨c = 10)),[]):=by
 have ha:=q09 c;have hc:=c.toNat_lt;have Zw:(c.toNat:Int) < 256:=by omega
 generalize decide (c = 61∨c = 10) = b at *;refine qs Tryz.func230 rfl ⟨rfl,rfl⟩ ?_;simp [Tryz.f230,ha,Zw]
set_option maxHeartbeats 2000000 in
set_option maxRecDepth 8000 in
theorem q0I [MaxL] (s:List UInt8) (h8:8 < s.length) (hn:s.length < 1000000):call cx 200 [.vsl false (qd s) s.length,.str [61,10]] [] = some (.int .i64 (zV s 0),[]):=by
 have YM:=qih s.length;simp only [h8,decide_true] at YM;have zO:¬ (s.length:Int) = 1:=by omega
 have ha:=q08;have kD:=qo5;have haf:asc.all idFree = true:=by unfold asc;rw [List.all_map,Y7];intro x _;rfl
 have hac:asc.all (closed 0) = true:=by unfold asc;rw [List.all_map,Y7];intro x _;rfl
 have hafL:idFree.idFreeL asc = true:=by rw [qcQ];exact haf
 have haf2:(∀ x,x∈asc→idFree x = true) = True:=eq_true (List.all_eq_true.1 haf);have hacs:∀ n,asc.all (closed n) = true:=fun n=>by unfold asc;rw [List.all_map,Y7];intro x _;rfl
 have hhas:=q07
 have kC:freeze.freezeL [some asc] asc = some asc:=by
  have:=qga [] [some asc] asc hafL;rw [this]
  have gen:∀ (l:List D),(∀ d∈l,∃ b,d = .bool b)→freeze.freezeL [] l = some l:=by
   intro l
   induction l with
   | nil=>intro _;rfl
   | cons a l ih =>
    intro h;obtain ⟨b,rfl⟩:=h a (by simp);have:=ih fun d hd=>h d (by simp [hd]);rw [freeze.freezeL,this];rfl
  refine gen _ fun d hd=>?_;simp only [asc,List.mem_map] at hd;obtain ⟨i,_,rfl⟩:=hd;exact ⟨_,rfl⟩
 have zY:shift.shiftL 0 asc = asc:=qdw 0 asc hafL;obtain ⟨r,hr⟩:∃ r,zV s 0 = r:=⟨_,rfl⟩;rw [hr];have qz:List.take 256 asc = asc:=qx (by omega);generalize hA:asc = A at *;clear hA;refine qs Tryz.func200 rfl ⟨rfl,qnW s false (.inr h8)⟩ ?_;simp [-List.reduceReplicate,Tryz.f200,zO,YM,ha,kD,hacs,zY];refine Run.loopThen (fun (k:Nat) e H'=>k≤s.length∧zV (s.drop k) k = r∧H' = [some A]∧qf e 7 = some (.optr 0 256 0)∧qf e 60 = some (.vsl false (qd s) s.length)∧qf e 61 = some (.int .i64 s.length)∧qf e 62 = some (.int .i64 k)) (fun k=>s.length - k) 0 ?_ ?_
 ·simpa using hr
 rintro k e H' ⟨hk,hR,rfl,k7,k60,k61,k62⟩;by_cases qg:k < s.length
 ·have qk:(k:Int) < (s.length:Int):=by omega
  have hw:IntKind.i64.wrap ((k:Int)+1) = ((k+1:Nat):Int):=by rw [wrap_i64] <;> omega
  have qW:=jt qg;rw [zm qg,zV] at hR;have hh:=hhas s[k];generalize s[k] = c at *;by_cases hc:c = 61∨c = 10
  ·rw [if_pos hc] at hR;simp only [hc,decide_true] at hh;simp [k7,k60,k61,k62,qk,qW,hh,kD,haf2];exact hR
  ·rw [if_neg hc] at hR;simp only [hc,decide_false] at hh;simp [k7,k60,k61,k62,qk,qW,hh,kD,haf2,hw];exact ⟨k+1,by omega,qg,hR,by omega⟩
 ·have qk:¬ (k:Int) < (s.length:Int):=by omega
  rw [zX (by omega),zV] at hR;simp [k7,k60,k61,k62,qk];exact hR
theorem q0G [MaxL] (b:Bool):call cx 200 [.vsl b [] 0,.str [61,10]] [] = some (.int .i64 (-1),[]):=by
 have YM:call cx 228 [.int .i64 0] [] = some (.bool false,[]):=qih 0;refine qs Tryz.func200 rfl ⟨rfl,qnW [] b (.inl rfl)⟩ ?_;simp [Tryz.f200,YM];refine Xq ?_;simp
theorem q0H [MaxL] (s:Sl UInt8) (hn:s.l.length < 1000000):call cx 200 [(.vsl s.nil (qd s.l) s.l.length),.str [61,10]] [] = some (.int .i64 (zV s.l 0),[]):=by
 by_cases h0:s.l.length = 0
 ·have hl:s.l = []:=List.length_eq_zero_iff.1 h0;rw [hl];exact q0G s.nil
 ·have hnn:s.nil = false:=by
   cases h:s.nil with
   | false=>rfl
   | true=>exact absurd (by rw [s.h h];rfl) h0
  rw [hnn];by_cases h8:8 < s.l.length
  ·exact q0I s.l h8 hn
  ·exact Yw (qzy s.l (by omega) (by omega))
end Go.Ev.S
namespace Go.Ev.S
open Go Go.Proofs Go.Ev
theorem q0v [MaxL] (s:Sl UInt8) (hs:s.l.length < 1000000):call cx 83 [(.vsl s.nil (qd s.l) s.l.length),.vsl false [.int .u8 10] 1] [] = some (.int .i64 (zA [10] s.l 0),[]):=by
 refine Yw ?_;rw [qiL];have jf:Vx [.int .u8 10] = some [10]:=rfl;have h2:s.l.length < 4294967281:=by omega
 simp [qcY,jf,h2]
theorem q00 [MaxL] (s:Sl UInt8) (hs:s.l.length < 1000000):∃ (a r:Sl UInt8) (f:Bool),a.l = vd s.l∧r.l = zJ s.l∧call cx 198 [(.vsl s.nil (qd s.l) s.l.length),.vsl false [.int .u8 10] 1] [] = some (.tup [(.vsl a.nil (qd a.l) a.l.length),(.vsl r.nil (qd r.l) r.l.length),.bool f],[]):=by
 have h:=q0v s hs;rcases qcO [10] s.l 0 with ⟨i,h1,h2,-⟩ | h1
 ·simp only [vQ,qG,qX] at h1 h2;have hn:¬ ((i:Nat):Int) = -1:=by omega
  refine ⟨⟨s.nil,s.l.take i,fun e=>by rw [s.h e];simp⟩,⟨s.nil,s.l.drop (i+1),fun e=>by rw [s.h e];simp⟩,true,?_,?_,?_⟩
  ·simp [vd,jO,h1,hn]
  ·simp [zJ,jO,h1,hn]
  ·rw [h1] at h;have hw:IntKind.i64.wrap ((i:Int)+1) = ((i+1:Nat):Int):=(by rw [wrap_i64] <;> omega);have g1:i≤s.l.length:=(by omega);have g2:i+1≤s.l.length:=(by omega);have g1':(i:Int)≤(s.l.length:Int):=(by omega);have g2':((i+1:Nat):Int)≤(s.l.length:Int):=(by omega);have t1:List.take i (qd s.l) = qd (s.l.take i):=kw _ _
   have t2:List.take (s.l.length - (i+1)) (List.drop (i+1) (qd s.l)) = qd (s.l.drop (i+1)):=by
    rw [Ze];exact qx (by simp)
   have l1:(s.l.take i).length = i:=(by simp;omega);have l2:(s.l.drop (i+1)).length = s.l.length - (i+1):=(by simp);obtain ⟨j,hj⟩:∃ j,j = i+1:=⟨_,rfl⟩;rw [← hj] at hw g2 g2' t2 l2 ⊢;have g3:((s.l.length:Int) - (j:Int)).toNat = s.l.length - j:=(by omega);refine qs Tryz.func198 rfl ⟨rfl,rfl⟩ ?_;simp [Tryz.f198,h,hw,g1',g2',t1,t2,l1,l2]
 ·refine ⟨s,.none,false,?_,?_,?_⟩
  ·simp [vd,jO,h1]
  ·simp [zJ,jO,h1]
  ·rw [h1] at h;refine qs Tryz.func198 rfl ⟨rfl,rfl⟩ ?_;simp [Tryz.f198,h,Sl.none]
theorem qdZ [MaxL] (s:Sl UInt8) (hs:s.l.length < 1000000) (p:List UInt8) (hp:p.length < 1000):∃ r:Sl UInt8,r.l = zJ s.l∧call cx 169 [.optr 0 1 0,.str p] [some [(.vsl s.nil (qd s.l) s.l.length)]] = some (.str (vh p (vd s.l)),[some [(.vsl r.nil (qd r.l) r.l.length)]]):=by
 obtain ⟨a,r,f,h1,h2,h3⟩:=q00 s hs;refine ⟨r,h2,?_⟩;have hl:=qdX s.l;have ht:=qjz (vd s.l) p (by omega) (by omega);have hb:kE (qd a.l) = some a.l:=Y0 a.l;have ZA:List.take a.l.length (qd a.l) = qd a.l:=qx (by simp);rw [← h1] at ht ⊢;refine qs Tryz.func169 rfl ⟨rfl,rfl⟩ ?_;simp [Tryz.f169,h3,ht,hb,vh]
theorem qhE [MaxL] (s:Sl UInt8) (hs:s.l.length < 1000000) (p:List UInt8) (hp:p.length < 1000):∃ r:Sl UInt8,r.l = zJ s.l∧call cx 171 [.optr 0 1 0,.str p] [some [(.vsl s.nil (qd s.l) s.l.length)]] = some (.int .u64 (Qn p s.l:Nat),[some [(.vsl r.nil (qd r.l) r.l.length)]]):=by
 obtain ⟨r,h1,h2⟩:=qdZ s hs p hp;refine ⟨r,h1,?_⟩;have hl:=qdX s.l;have ht:=qeT p (vd s.l);unfold Qn;rcases qhx 10 (.inl rfl) (vh p (vd s.l)) (by omega) with ⟨v,e1,e2⟩ | ⟨e1,x,d,e2⟩
 ·rw [e1];have e3:call cx 128 [.str (vh p (vd s.l)),.int .i64 10,.int .i64 64] [] = some (.tup [.int .u64 v,.nili],[]):=e2;refine qs Tryz.func171 rfl ⟨rfl,rfl⟩ ?_;simp [Tryz.f171,h2,e3]
 ·rw [e1];have e3:call cx 128 [.str (vh p (vd s.l)),.int .i64 10,.int .i64 64] [] = some (.tup [.int .u64 x,.iface 232 (.vptr d)],[]):=e2;refine qs Tryz.func171 rfl ⟨rfl,rfl⟩ ?_;simp [Tryz.f171,h2,e3]
theorem qig [MaxL] (s:Sl UInt8) (hs:s.l.length < 1000000) (p:List UInt8) (hp:p.length < 1000):∃ r:Sl UInt8,r.l = zJ s.l∧call cx 170 [.optr 0 1 0,.str p] [some [(.vsl s.nil (qd s.l) s.l.length)]] = some (.agg (qd (Qo p s.l).l),[some [(.vsl r.nil (qd r.l) r.l.length)]]):=by
 obtain ⟨r,h1,h2⟩:=qdZ s hs p hp;refine ⟨r,h1,?_⟩;have hl:=qdX s.l;have ht:=qeT p (vd s.l);have Qd:=qxz (vh p (vd s.l)) (by omega);have e:(Qo p s.l).l = (vU (vh p (vd s.l))).getD zero16:=rfl;rw [← e] at Qd;have hl16:=(Qo p s.l).h;have YN:List.take 16 (qd (Qo p s.l).l) = qd (Qo p s.l).l:=qx (by simp);refine qs Tryz.func170 rfl ⟨rfl,rfl⟩ ?_;simp [Tryz.f170,h2,Qd,hl16,YN]
end Go.Ev.S
