import Derived.Test.YtjjofhpbbndccaaGreatDoorC5
namespace Go.Ev
open Go Go.Proofs
structure Kn where
 text:List UInt8
 at_:Nat
 slot:Nat
 cnt:Nat
 nil:Bool
 arrs:List Nat
instance:Enc Kn:=⟨5,fun k=>[.str k.text,.int .u64 k.at_,.int .i64 k.slot,.int .i64 k.cnt,.vsl k.nil (qy .u64 k.arrs) k.arrs.length],fun _=>rfl,fun _=>rfl⟩
theorem Kn.cells (k:Kn):Enc.cells k = [.str k.text,.int .u64 k.at_,.int .i64 k.slot,.int .i64 k.cnt,.vsl k.nil (qy .u64 k.arrs) k.arrs.length]:=rfl
@[simp] theorem Kn.size:Enc.size Kn = 5:=rfl
@[simp] theorem Kn.cl (a:Kn):(Enc.cells a).length = 5:=Enc.len a
@[simp] theorem Kn.ct (a:Kn) (r:List D):(Enc.cells a ++ r).take 5 = Enc.cells a:=ZN rfl a r
@[simp] theorem Kn.ct' (a:Kn):(Enc.cells a).take 5 = Enc.cells a:=ZM rfl a
@[simp] theorem Kn.cd (a:Kn) (r:List D):(Enc.cells a ++ r).drop 5 = r:=ZO rfl a r
@[simp] theorem Kn.el (l:List Kn):(qk l).length = l.length * 5:=ZJ rfl l
@[simp] theorem Kn.ed (l:List Kn) (i:Nat):(qk l).drop (i * 5) = qk (l.drop i):=QV rfl l i
@[simp] theorem Kn.et (l:List Kn) (i:Nat):(qk l).take (i * 5) = qk (l.take i):=QU rfl l i
@[simp high] theorem Kn.ea {l:List Kn} {i:Nat} (h:i < l.length):(qk l).drop (i * 5) = Enc.cells l[i] ++ qk (l.drop (i+1)):=QD rfl h
@[simp high] theorem Kn.es (m:Kn) {l:List Kn} {j:Nat} (h:j < l.length):qC (qk l) (j * 5) (Enc.cells m) = qk (l.set j m):=Qu rfl m l h
def Qz (k:Nat):Nat:=if k < 6 then 4 * 2 ^ k else 256
def jm:Nat→Nat
 | 0=>0
 | k+1=>jm k+Qz k
theorem qeM (k:Nat):4≤Qz k:=by
 unfold Qz;split
 ·have:=Nat.one_le_two_pow (n:=k);omega
 ·omega
theorem qcW (k:Nat):Qz k≤256:=by
 unfold Qz;split
 ·rename_i h;have:2 ^ k≤2 ^ 5:=qb6 (by decide) (by omega);omega
 ·omega
structure ArrOk (bl:Nat) (arrs:List Nat) (n:Nat):Prop where
 nil:arrs = []→n = 0
 lo:∀ j,arrs.length = j+1→jm j < n
 hi:n≤jm arrs.length
 at_:∀ (j a:Nat),arrs[j]? = some a→a+24+8 * Qz j≤bl
theorem ArrOk.mono {bl bl':Nat} {arrs:List Nat} {n:Nat} (h:ArrOk bl arrs n) (hb:bl≤bl'):ArrOk bl' arrs n :=
 ⟨h.nil,h.lo,h.hi,fun j a hj=>jA (h.at_ j a hj) hb⟩
theorem ArrOk.zero (bl:Nat):ArrOk bl [] 0:=⟨fun _=>rfl,fun j hj=>by simp at hj,by simp [jm],fun j a hj=>by simp at hj⟩
theorem qe8 {j:Nat}:jm j < jm (j+1):=by
 have:=qeM j;simp only [jm];omega
theorem ArrOk.more {bl:Nat} {arrs:List Nat} {n:Nat} (h:ArrOk bl arrs n) (hn:n≠jm arrs.length):∃ j a,arrs.length = j+1∧arrs[j]? = some a∧jm j < n∧n - jm j < Qz j∧a+24+8 * (n - jm j)+8≤bl∧ArrOk bl arrs (n+1):=by
 cases hl:arrs.length with
 | zero =>
  have h0:arrs = []:=List.length_eq_zero_iff.1 hl;exact absurd (by rw [h.nil h0,hl];rfl) hn
 | succ j =>
  have h1:=h.lo j hl;have h2:=h.hi;rw [hl] at hn h2;have h3:jm (j+1) = jm j+Qz j:=rfl;have qi:j < arrs.length:=by omega
  have h4:=h.at_ j arrs[j] (qU qi);refine ⟨j,arrs[j],rfl,qU qi,h1,by omega,by omega,⟨fun h0=>by rw [h0] at hl;simp at hl,fun i hi=>?_,by rw [hl];omega,h.at_⟩⟩;have:i = j:=by omega
  subst this;omega
theorem ArrOk.new {bl bl':Nat} {arrs:List Nat} (h:ArrOk bl arrs (jm arrs.length)) {a:Nat} (hb:bl≤bl') (ha:a+24+8 * Qz arrs.length≤bl'):ArrOk bl' (arrs ++ [a]) (jm arrs.length+1):=by
 refine ⟨fun h0=>by simp at h0,fun j hj=>?_,?_,fun j b hj=>?_⟩
 ·simp only [qX,ju,jR] at hj;have:j = arrs.length:=by omega
  subst this;omega
 ·simp only [qX,ju,jR,jm];have:=qeM arrs.length;omega
 ·by_cases qi:j < arrs.length
  ·rw [jX qi] at hj;exact jA (h.at_ j b hj) hb
  ·have KR:=(List.getElem?_eq_some_iff.1 hj).1;simp only [qX,ju,jR] at KR;have:j = arrs.length:=(by omega);subst this;simp at hj;subst hj;exact ha
def ArrW (bl:Nat) (arrs:List Nat) (ne:Nat):Prop:= ∃ n,n≤ne+1∧ArrOk bl arrs n
theorem ArrW.mono {bl bl':Nat} {arrs:List Nat} {ne:Nat} (h:ArrW bl arrs ne) (hb:bl≤bl'):ArrW bl' arrs ne:=by
 obtain ⟨n,h1,h2⟩:=h;exact ⟨n,h1,h2.mono hb⟩
structure Kn.Ok (k:Kn) (bl ds:Nat):Prop where
 at_:k.at_+64≤bl
 slot:k.slot < ds
 arr:ArrOk bl k.arrs (k.cnt - 1)
 nil:k.nil = true→k.arrs = []
 txt:k.text.length≤1000
theorem Kn.Ok.mono {k:Kn} {bl bl' ds:Nat} (h:k.Ok bl ds) (hb:bl≤bl'):k.Ok bl' ds:=⟨jA h.at_ hb,h.slot,h.arr.mono hb,h.nil,h.txt⟩
structure Kn.OkF (k:Kn) (bl fs:Nat):Prop where
 at_:k.at_+40≤bl
 slot:k.slot < fs
theorem Kn.OkF.mono {k:Kn} {bl bl' fs:Nat} (h:k.OkF bl fs) (hb:bl≤bl'):k.OkF bl' fs:=⟨jA h.at_ hb,h.slot⟩
structure Jm where
 cs:List D
 b:List UInt8
 da:List Kn
 fi:List Kn
 ds:Nat
 fs:Nat
 key:Bool
 file:ID
 ft:Nat
 ne:Nat
 tl:Nat
 mn:Bool
 main:List Nat
 dv:D
 fv:D
 bi:Nat
 Ld:List Nat
 Lf:List Nat
def Jm.names (m:Jm) (q:Nat):List Nat:=q :: m.bi :: (m.Ld ++ m.Lf)
def KG (d:D):Prop:= ∃ v:Nat,d = .int .u64 (v:Int)∧v < 18446744073709551616
structure JmW (H:qd) (q:Nat) (m:Jm):Prop where
 root:qe H q = some m.cs
 len:m.cs.length = 147
 file:m.cs.take 16 = qf m.file.l
 c48:m.cs[48]? = some (.int .i64 m.ds)
 c49:m.cs[49]? = some (.int .i64 m.fs)
 c50:m.cs[50]? = some (.int .i64 32768)
 c51:m.cs[51]? = some (.bool m.key)
 c52:m.cs[52]? = some (.int .u32 2)
 c53:m.cs[53]? = some (.int .u32 (if m.key then 4 else 0))
 c54:m.cs[54]? = some (.int .i64 1)
 ids:∃ a b c d:ID,(m.cs.drop 55).take 64 = qf a.l ++ (qf b.l ++ (qf c.l ++ qf d.l))
 c119:m.cs[119]? = some (.int .u64 272)
 c121:m.cs[121]? = some (.int .u64 288)
 c122:m.cs[122]? = some (.int .u64 (16 * m.ds:Nat))
 c123:m.cs[123]? = some (.int .u64 m.ft)
 c124:m.cs[124]? = some (.int .u64 (16 * m.fs:Nat))
 c127:m.cs[127]? = some (.int .u64 m.ne)
 c128:m.cs[128]? = some (.int .u64 m.tl)
 nums:∀ i,119≤i→i < 139→∃ d,m.cs[i]? = some d∧KG d
 c139:∃ v:Nat,m.cs[139]? = some (.int .u32 (v:Int))∧v < 4294967296
 c140:∃ v:Nat,m.cs[140]? = some (.int .u32 (v:Int))∧v < 4294967296
 c141:∃ d,m.cs[141]? = some d∧KG d
 c142:∃ d,m.cs[142]? = some d∧KG d
 c143:m.cs[143]? = some (.osl m.bi m.b.length 0 m.b.length 1)
 c144:m.cs[144]? = some m.dv
 c145:m.cs[145]? = some m.fv
 c146:m.cs[146]? = some (.vsl m.mn (qy .u64 m.main) m.main.length)
 bytes:qe H m.bi = some (qf m.b)
 rowD:RowA H 5 m.dv (qk m.da) m.Ld
 rowF:RowA H 5 m.fv (qk m.fi) m.Lf
 nodup:(m.names q).Nodup
 free:∀ (i:Nat) (d:D),i < 143→m.cs[i]? = some d→idFree d = true
theorem XS {cs:List D} {i:Nat} {x:D} (h:∀ (j:Nat) (d:D),j < 143→cs[j]? = some d→idFree d = true) (hx:i < 143→idFree x = true):∀ (j:Nat) (d:D),j < 143→(cs.set i x)[j]? = some d→idFree d = true:=fun j d hj he=>by
 by_cases qR:i = j
 ·subst qR;rw [List.getElem?_set_self'] at he;cases hc:cs[i]? with
  | none=>rw [hc] at he;simp at he
  | some y =>
   rw [hc] at he;simp at he;subst he;exact hx hj
 ·rw [List.getElem?_set_ne qR] at he;exact h j d hj he
theorem qf1 {d:D} (h:KG d):idFree d = true:=by
 obtain ⟨v,rfl,_⟩:=h;rfl
structure Jm.Ok (m:Jm):Prop where
 ds:1≤m.ds∧m.ds≤64
 fs:1≤m.fs∧m.fs≤64
 ft:m.ft = 288+16 * m.ds+16
 bl:m.ft+16 * m.fs≤m.b.length
 bmod:m.b.length % 8 = 0
 bmax:m.b.length≤1000000
 da:∀ k,k∈m.da→k.Ok m.b.length m.ds
 fi:∀ k,k∈m.fi→k.OkF m.b.length m.fs
 main:ArrW m.b.length m.main m.ne
 mn:m.mn = true→m.main = []
 tl:m.tl < 18446744073709551616
 ne:m.ne≤200
 nda:m.da.length≤1000
 nfi:m.fi.length≤1000
 cn:∀ k,k∈m.da→k.cnt≤4 * m.ne+4
end Go.Ev
namespace Go.Ev.S
open Go Go.Proofs Go.Ev
theorem qi4 [MaxL] [TxtC] (v n:Nat) (jf:1≤n) (hn8:n≤8) (hv:v < 18446744073709551616):call cx 84 [.int .u64 v,.int .i64 n] [] = some (.vsl false (qf (Q1 n v)) n,[]):=by
 refine qA Tryz.func84 rfl ⟨rfl,rfl⟩ ?_;simp [Tryz.f84];refine Run.loopThen (fun (i:Nat) e H=>i≤n∧(∃ d,qg e 5 = some d∧Buf d H (Q1 i v))∧qg e 0 = some (.int .u64 (v / 256 ^ i:Nat))∧qg e 1 = some (.int .i64 n)∧qg e 6 = some (.int .i64 i)) (fun i=>n - i) 0 ?_ ?_
 ·simp [Q1,Buf]
 rintro i e H ⟨hi,⟨d,h5,hbuf⟩,h0,h1,h6⟩;by_cases qi:i < n
 ·have qq:(i:Int) < (n:Int):=by omega
  have hw:IntKind.i64.wrap ((i:Int)+1) = ((i+1:Nat):Int):=by rw [wrap_i64] <;> omega
  have VT:=qiH i v;have hl:(Q1 i v).length≤8:=by simp;omega
  have hq:v / 256 ^ i < 18446744073709551616:=Nat.lt_of_le_of_lt (Nat.div_le_self _ _) hv;have hnx:v / 256 ^ (i+1) = v / 256 ^ i / 256:=by rw [qb5,Nat.div_div_eq_div_mul]
  generalize v / 256 ^ i = x at *
  have ht1:(x:Int).tmod 256 = ((x % 256:Nat):Int):=by
   rw [Int.tmod_eq_emod_of_nonneg (Int.natCast_nonneg _)];rfl
  have ht2:(x:Int).tdiv 256 = ((x / 256:Nat):Int):=by
   rw [Int.tdiv_eq_ediv_of_nonneg (Int.natCast_nonneg _)];rfl
  have hx256:x % 256 < 256:=Yf _ (by decide)
  have zB:IntKind.u8.wrap ((x % 256:Nat):Int) = ((UInt8.ofNat (x % 256)).toNat:Int):=by
   rw [qej hx256];clear hv hq;generalize x % 256 = y at *;rw [ZV];omega
  have zp:IntKind.u64.wrap ((x / 256:Nat):Int) = ((x / 256:Nat):Int):=by
   have:x / 256 < 18446744073709551616:=Nat.lt_of_le_of_lt (Nat.div_le_self _ _) hq;clear hv hq;generalize x / 256 = y at *;rw [qF];omega
  generalize UInt8.ofNat (x % 256) = c at *;clear hv hq;generalize Q1 i v = l at *;have Zl:l.length+1≤140737488355328:=jA (Nat.add_le_add_right hl 1) (by decide);rcases hbuf with ⟨rfl,rfl,rfl⟩ | ⟨rfl,rfl⟩
  ·simp [h5,h0,h1,h6,qq,hw,ht1,ht2,zB,zp,qw,-Int.natCast_emod,-Int.natCast_ediv];clear Zl;exact ⟨i+1,by omega,by omega,.inr (by simp [VT,qf]),by rw [hnx],rfl⟩
  ·simp [h5,h0,h1,h6,qq,hw,ht1,ht2,zB,zp,qw,Zl,-Int.natCast_emod,-Int.natCast_ediv];clear Zl;exact ⟨i+1,by omega,by omega,.inr (by simp [VT,qf]),by rw [hnx],rfl⟩
 ·have qq:¬ (i:Int) < (n:Int):=by omega
  have h8:i = n:=by omega
  subst h8;have hl:(Q1 i v).length = i:=qiI i v;generalize Q1 i v = l at *;rcases hbuf with ⟨rfl,rfl,rfl⟩ | ⟨rfl,rfl⟩
  ·simp at hl;omega
  ·simp [h5,h0,h1,h6,hl,qP]
theorem qhW (t:Int × Int × Int):zH (qa0 t):=by
 obtain ⟨x,y,z⟩:=t;exact qan _
theorem qiC:∀ (n:Nat) (l:List UInt8) (t:Int × Int × Int),l.length≤n→zH (V3 l t)
 | n,l,t,h=>by
  by_cases h1:12 < l.length
  ·rw [qiA h1];cases n with
   | zero=>omega
   | succ n=>exact qiC n _ _ (by rw [Zb];omega)
  ·by_cases h0:l.length = 0
   ·rw [qi9 h0];exact qhW _
   ·obtain ⟨⟨x,z,y⟩,hf⟩:∃ q,qck (XY l t) = q:=⟨_,rfl⟩;rw [qiB h1 h0 hf];exact qhW _
theorem qoJ (l:List UInt8):zH (qca l):=qiC l.length _ _ (qv _)
theorem qfh [MaxL] [TxtC] (kd:Bool) (key:ID) (s:Sl UInt8) (hs:s.l.length < 1000000):∃ q,call cx 78 [.bool kd,.agg (qf key.l),(.vsl s.nil (qf s.l) s.l.length)] [] = some q∧qc7 q:=by
 cases kd with
 | true =>
  obtain ⟨q,h,x,hx,rfl⟩:=qml key s hs;refine ⟨_,qA Tryz.func78 rfl ⟨rfl,rfl⟩ ?_,x,hx,rfl⟩;simp [Tryz.f78,h]
 | false =>
  have h:=qh4 s (by omega);refine ⟨_,qA Tryz.func78 rfl ⟨rfl,rfl⟩ ?_,qca s.l,qoJ _,rfl⟩;simp [Tryz.f78,h]
def qlg (n:Nat) (q:D × qd):Prop:= ∃ s:List UInt8,s.length = n∧q = (.vsl (decide (n = 0)) (qf s) n,[])
def qeq (n:Nat) (q:D × qd):Prop:= ∃ s:List UInt8,s.length = n∧q = (.osl 0 n 0 n 1,[some (qf s)])
def Zh (cs:List D):Prop:= ∀ d,d∈cs→KG d
def qw2 (d:D) (H:qd) (l:List UInt8):Prop:=(d = .vsl true [] 0∧l = []∧H = [])∨(d = .osl 0 l.length 0 l.length 1∧H = [some (qf l)]∧l≠[])
set_option maxHeartbeats 1000000 in
theorem Xw [MaxL] [TxtC] (nl:Bool) (cs:List D) (hu:Zh cs) (zq:nl = true→cs = []) (hl:cs.length≤100000) (hl0:1≤cs.length):∃ q,call cx 85 [.vsl nl cs cs.length] [] = some q∧qeq (8 * cs.length) q:=by
 refine Jt (X:=cx) (f:=85) (qeq _) Tryz.func85 rfl ⟨rfl,rfl⟩ ?_;simp [Tryz.f85];refine Run.loopThen (fun (i:Nat) e H=>i≤cs.length∧qg e 0 = some (.vsl nl cs cs.length)∧qg e 4 = some (.int .i64 i)∧∃ d l,qg e 3 = some d∧qw2 d H l∧l.length = 8 * i) (fun i=>cs.length - i) 0 ?_ ?_
 ·exact ⟨vf _,by simp,by simp,_,[],by simp,.inl ⟨rfl,rfl,rfl⟩,rfl⟩
 rintro i e H ⟨hi,p0,p4,d,l,p3,hb,hlen⟩;by_cases qi:i < cs.length
 ·have qq:(i:Int) < (cs.length:Int):=by omega
  have hw:IntKind.i64.wrap ((i:Int)+1) = ((i+1:Nat):Int):=by rw [wrap_i64] <;> omega
  have jb:nl = false:=Bool.eq_false_iff.2 fun h=>by rw [zq h] at qi;simp at qi
  subst jb;obtain ⟨v,hv,zQ⟩:=hu _ (vQ qi);have hd:cs.drop i = .int .u64 (v:Int) :: cs.drop (i+1):=by rw [vR qi,hv]
  have h1:call cx 84 [.int .u64 v,.int .i64 8] [] = some (.vsl false (qf (Q1 8 v)) 8,[]):=qi4 v 8 (by omega) (by omega) zQ;have VE:(Q1 8 v).length = 8:=by simp
  generalize Q1 8 v = B at *;rcases hb with ⟨rfl,rfl,rfl⟩ | ⟨rfl,rfl,qH⟩
  ·have Vm:i = 0:=(by simp at hlen;omega);simp [p0,p3,p4,qq,hd,h1,hw,qw,VE];exact ⟨i+1,by omega,by omega,by omega,B,.inr ⟨by rw [VE],by simp,fun h=>by rw [h] at VE;simp at VE⟩,by omega⟩
  ·have c1:l.length+8≤140737488355328:=(by omega);simp [p0,p3,p4,qq,hd,h1,hw,qw,VE,c1];exact ⟨i+1,by omega,by omega,by omega,l ++ B,.inr ⟨by simp [VE],by simp [qf],by simp [qH]⟩,by simp [VE];omega⟩
 ·have qq:¬ (i:Int) < (cs.length:Int):=by omega
  have Q3:i = cs.length:=by omega
  subst Q3;rcases hb with ⟨rfl,rfl,rfl⟩ | ⟨rfl,rfl,qH⟩
  ·simp at hlen;omega
  ·simp [p0,p3,p4,qq,hlen];exact ⟨l,hlen,rfl⟩
def kc (n:Nat):Nat:=(n+7) / 8 * 8
set_option maxHeartbeats 2000000 in
theorem qhE [MaxL] [TxtC] (k:Nat) (hk:1≤k∧k≤7) (nl:Bool) (b:List UInt8) (_hnl:nl = true→b = []) (hb:b.length≤1000000):∃ q,call cx 108 [.int .i64 k,.vsl nl (qf b) b.length] [] = some q∧qlg (kc (16+b.length)) q:=by
 refine Jt (X:=cx) (f:=108) (qlg _) Tryz.func108 rfl ⟨rfl,rfl⟩ ?_;have k1:¬ (k:Int) < 1:=by omega
 have k2:¬ (7:Int) < (k:Int):=by omega
 obtain ⟨N,hN⟩:∃ N,N = 16+b.length:=⟨_,rfl⟩;rw [← hN];have hw:IntKind.i64.wrap (16+(b.length:Int)) = (N:Int):=by rw [wrap_i64] <;> omega
 have zp:IntKind.u64.wrap (N:Int) = (N:Int):=by rw [qF] <;> omega
 obtain ⟨c,hc⟩:∃ c:UInt8,(k:Int) % 256 = (c.toNat:Int):=⟨UInt8.ofNat k,by rw [qej (by simp only [UInt8.size];omega)];omega⟩
 obtain ⟨q,hn,s,hs,rfl⟩:=Xw false [.int .u64 (N:Int)] (by
  intro d hd;rw [List.mem_singleton.1 hd];exact ⟨_,rfl,by omega⟩) (by simp) (by simp) (by simp)
 have hs8:s.length = 8:=hs;simp at hn;have c1:16+b.length≤140737488355328:=by omega
 have Q9:IntKind.u8.wrap (k:Int) = (c.toNat:Int):=by
  rw [← hc,ZV] <;> omega
 have hc3:D.int IntKind.u8 0 = D.int IntKind.u8 ((0:UInt8).toNat:Int):=rfl;simp [Tryz.f108,k1,k2,hw,zp,Q9,hn,hs8,qw,c1];refine Run.loopThen (fun (j:Nat) e H=>N≤j∧j≤kc N∧∃ l t,l.length = j∧H = some (qf l) :: t∧qg e 5 = some (.osl 0 j 0 j 1)) (fun j=>kc N - j) N ?_ ?_
 ·refine ⟨qv _,by unfold kc;omega,c :: 0 :: 0 :: 0 :: 0 :: 0 :: 0 :: 0 :: (s ++ b),_,by simp [hs8];omega,by simp [qf];exact rfl,?_⟩;simp [hN]
 rintro j e H ⟨hj,Zp,l,t,hl,rfl,p5⟩;have ha:kc N≤N+7:=by unfold kc;omega
 have ht:(j:Int).tmod 8 = ((j % 8:Nat):Int):=by
  rw [Int.tmod_eq_emod_of_nonneg (Int.natCast_nonneg _)];rfl
 by_cases h8:j % 8 = 0
 ·have KR:j = kc N:=by unfold kc at Zp ⊢;omega
  have h0:kc N≠0:=by omega
  have h8i:(j:Int) % 8 = 0:=by omega
  simp [p5,ht,h8,hl];have vD:List.take j (qf l) = qf l:=qP (by simp;omega);refine ⟨l,by omega,?_⟩;rw [← KR,decide_eq_false (by omega)]
 ·have zm:j < kc N:=by unfold kc at Zp ⊢;omega
  have h8':¬ (j:Int) % 8 = 0:=by omega
  have c2:j+1≤140737488355328:=by omega
  simp [p5,ht,h8',hl,c2,qw];exact ⟨j+1,by omega,by omega,by omega,l ++ [0],by simp [hl],by simp [qf],rfl⟩
theorem qbg {x:D} (h:KG x):Zh [x]:=fun d hd=>by rw [List.mem_singleton.1 hd];exact h
theorem KE {x:D} {l:List D} (h:KG x) (hl:Zh l):Zh (x :: l):=fun d hd=>by
 rcases List.mem_cons.1 hd with rfl | hd
 ·exact h
 ·exact hl d hd
theorem qsr:Zh []:=fun d hd=>by cases hd
theorem qa7 {l:List D} (h:Zh l):l.all idFree = true:=List.all_eq_true.2 fun d hd=>by
 obtain ⟨v,rfl,_⟩:=h d hd;rfl
theorem qeg (n:Nat):n≤kc n∧kc n≤n+7∧kc n % 8 = 0:=by unfold kc;omega
theorem qgC {cs:List D} {n i:Nat} (hu:Zh cs) (hl:cs.length = n * 2) (hi:i < n):∃ a b:Nat,a < 18446744073709551616∧b < 18446744073709551616∧cs.drop (i * 2) = .int .u64 (a:Int) :: .int .u64 (b:Int) :: cs.drop (i * 2+2):=by
 have h1:i * 2 < cs.length:=by omega
 have h2:i * 2+1 < cs.length:=by omega
 obtain ⟨a,ha,Xb⟩:=hu _ (vQ h1);obtain ⟨b,hb,vy⟩:=hu _ (vQ h2);exact ⟨a,b,Xb,vy,by rw [vR h1,ha,vR h2,hb]⟩
theorem qim [MaxL] [TxtC] (a b:Nat) (ha:a < 18446744073709551616) (hb:b < 18446744073709551616):∃ s:List UInt8,s.length = 16∧call cx 85 [.vsl false [.int .u64 (a:Int),.int .u64 (b:Int)] 2] [] = some (.osl 0 16 0 16 1,[some (qf s)]):=by
 obtain ⟨q,h,s,hs,rfl⟩:=Xw false [.int .u64 (a:Int),.int .u64 (b:Int)] (KE ⟨a,rfl,ha⟩ (qbg ⟨b,rfl,hb⟩)) (by simp) (by simp) (by simp);exact ⟨s,hs,h⟩
theorem qfi (s p:List UInt8):qf (s ++ p) = qf s ++ qf p:=by simp [qf]
theorem qeV [MaxL] [TxtC] (k:Nat) (hk:1≤k∧k≤7) (s p:List UInt8) {n:Nat} (hn:n = s.length+p.length) (h:n≤1000000) :
  ∃ t:List UInt8,t.length = kc (16+n)∧call cx 108 [.int .i64 k,.vsl false (qf s ++ qf p) n] [] = some (.vsl false (qf t) t.length,[]):=by
 obtain ⟨r,g,t,ht,rfl⟩:=qhE k hk false (s ++ p) (by simp) (by simp;omega);have hl:(s ++ p).length = n:=by rw [qX,hn]
 have h8:=qeg (16+n);rw [hl] at g ht;refine ⟨t,ht,?_⟩;rw [qfi] at g;rw [g,← ht,decide_eq_false (by omega)]
def qaH (n:Nat) (q:D × qd):Prop:= ∃ s:List UInt8,s.length = n∧q = (.vsl false (qf s) s.length,[])
theorem qe7 {s p:List UInt8} {n:Nat} (h:n = s.length+p.length):List.take n (qf s ++ qf p) = qf s ++ qf p:=qP (by simp;omega)
set_option maxHeartbeats 2000000 in
theorem qn1 [MaxL] [TxtC] (a b c d e f:Nat) (ha:a < 18446744073709551616) (hb:b < 18446744073709551616) (hc:c < 18446744073709551616) (hd:d < 18446744073709551616) (he:e < 18446744073709551616) (hf:f < 18446744073709551616) (nl:Bool) (p:List UInt8) (hp:p.length≤100000) :
  ∃ q,call cx 112 [.agg [.int .u64 a,.int .u64 b,.int .u64 c,.int .u64 d,.int .u64 e,.int .u64 f,.vsl nl (qf p) p.length]] [] = some q∧qaH (kc (64+p.length)) q:=by
 obtain ⟨q,h,s,hs,rfl⟩:=Xw false [.int .u64 (a:Int),.int .u64 (b:Int),.int .u64 (c:Int),.int .u64 (d:Int),.int .u64 (e:Int),.int .u64 (f:Int)] (KE ⟨_,rfl,ha⟩ (KE ⟨_,rfl,hb⟩ (KE ⟨_,rfl,hc⟩ (KE ⟨_,rfl,hd⟩ (KE ⟨_,rfl,he⟩ (qbg ⟨_,rfl,hf⟩)))))) (by simp) (by simp) (by simp);have hs48:s.length = 48:=hs;replace h:call cx 85 [.vsl false [.int .u64 (a:Int),.int .u64 (b:Int),.int .u64 (c:Int),.int .u64 (d:Int),.int .u64 (e:Int),.int .u64 (f:Int)] 6] [] = some (.osl 0 48 0 48 1,[some (qf s)]):=h;obtain ⟨t,ht,g⟩:=qeV 1 (by omega) s p (n:=48+p.length) (by omega) (by omega);have c1:48+p.length≤140737488355328:=by omega
 have c2:=qe7 (s:=s) (p:=p) (n:=48+p.length) (by omega);replace g:call cx 108 [.int .i64 1,.vsl false (qf s ++ qf p) (48+p.length)] [] = some (.vsl false (qf t) t.length,[]):=g;refine ⟨(.vsl false (qf t) t.length,[]),qA Tryz.func112 rfl ⟨rfl,rfl⟩ ?_,t,by rw [ht];congr 1;omega,rfl⟩;simp [Tryz.f112,h,hs48,qw,g,c1,c2]
set_option maxHeartbeats 2000000 in
theorem qny [MaxL] [TxtC] (a b c:Nat) (ha:a < 18446744073709551616) (hb:b < 18446744073709551616) (hc:c < 18446744073709551616) (nl:Bool) (p:List UInt8) (hp:p.length≤100000) :
  ∃ q,call cx 158 [.agg [.int .u64 a,.int .u64 b,.int .u64 c,.vsl nl (qf p) p.length]] [] = some q∧qaH (kc (40+p.length)) q:=by
 obtain ⟨q,h,s,hs,rfl⟩:=Xw false [.int .u64 (a:Int),.int .u64 (b:Int),.int .u64 (c:Int)] (KE ⟨_,rfl,ha⟩ (KE ⟨_,rfl,hb⟩ (qbg ⟨_,rfl,hc⟩))) (by simp) (by simp) (by simp);have hs24:s.length = 24:=hs;replace h:call cx 85 [.vsl false [.int .u64 (a:Int),.int .u64 (b:Int),.int .u64 (c:Int)] 3] [] = some (.osl 0 24 0 24 1,[some (qf s)]):=h;obtain ⟨t,ht,g⟩:=qeV 2 (by omega) s p (n:=24+p.length) (by omega) (by omega);have c1:24+p.length≤140737488355328:=by omega
 have c2:=qe7 (s:=s) (p:=p) (n:=24+p.length) (by omega);replace g:call cx 108 [.int .i64 2,.vsl false (qf s ++ qf p) (24+p.length)] [] = some (.vsl false (qf t) t.length,[]):=g;refine ⟨(.vsl false (qf t) t.length,[]),qA Tryz.func158 rfl ⟨rfl,rfl⟩ ?_,t,by rw [ht];congr 1;omega,rfl⟩;simp [Tryz.f158,h,hs24,qw,g,c1,c2]
set_option maxHeartbeats 2000000 in
theorem qn7 [MaxL] [TxtC] (a:Nat) (ha:a < 18446744073709551616) (nl:Bool) (cs:List D) (hu:Zh cs) (zq:nl = true→cs = []) (hl:cs.length≤1000) (hl0:1≤cs.length) :
  ∃ q,call cx 119 [.agg [.int .u64 a,.vsl nl cs cs.length]] [] = some q∧qaH (24+8 * cs.length) q:=by
 obtain ⟨q,h,s,hs,rfl⟩:=Xw false [.int .u64 (a:Int)] (qbg ⟨_,rfl,ha⟩) (by simp) (by simp) (by simp);have hs8:s.length = 8:=hs;replace h:call cx 85 [.vsl false [.int .u64 (a:Int)] 1] [] = some (.osl 0 8 0 8 1,[some (qf s)]):=h;obtain ⟨q2,h2,p,hp,rfl⟩:=Xw nl cs hu zq (by omega) hl0;obtain ⟨t,ht,g⟩:=qeV 6 (by omega) s p (n:=8+8 * cs.length) (by omega) (by omega);have c1:8+8 * cs.length≤140737488355328:=by omega
 have c2:=qe7 (s:=s) (p:=p) (n:=8+8 * cs.length) (by omega);have c3:List.take (8 * cs.length) (qf p) = qf p:=qP (by simp;omega);have ht2:t.length = 24+8 * cs.length:=by rw [ht];unfold kc;omega
 replace g:call cx 108 [.int .i64 6,.vsl false (qf s ++ qf p) (8+8 * cs.length)] [] = some (.vsl false (qf t) t.length,[]):=g;refine ⟨(.vsl false (qf t) t.length,[]),qA Tryz.func119 rfl ⟨rfl,rfl⟩ ?_,t,ht2,rfl⟩;simp [Tryz.f119,h,hs8,h2,hp,qw,g,c1,c2,c3]
theorem qhD [MaxL] [TxtC] (k:Nat) (hk:1≤k∧k≤7) (s:List UInt8) {n:Nat} (hn:n = s.length) (h:n≤1000000) :
  ∃ t:List UInt8,t.length = kc (16+n)∧call cx 108 [.int .i64 k,.vsl false (qf s) n] [] = some (.vsl false (qf t) t.length,[]):=by
 obtain ⟨r,g,t,ht,rfl⟩:=qhE k hk false s (by simp) (by omega);have h8:=qeg (16+n);rw [← hn] at g ht;exact ⟨t,ht,by rw [g,← ht,decide_eq_false (by omega)]⟩
set_option maxHeartbeats 2000000 in
theorem qhL [MaxL] [TxtC] (k:Nat) (hk:k = 4∨k = 5) (nl:Bool) (cs:List D) (n:Nat) (hu:Zh cs) (hl:cs.length = n * 2) (zq:nl = true→n = 0) (hn:n≤1000) (Qb:1≤n):∃ q,call cx 73 [.int .i64 k,.vsl nl cs n] [] = some q∧qaH (16+16 * n) q:=by
 have jZ:nl = false:=Bool.eq_false_iff.2 fun h=>by have:=zq h;omega
 subst jZ;have hkc:((k:Int) = 4∧¬ (k:Int) = 5)∨(¬ (k:Int) = 4∧(k:Int) = 5):=by omega
 have hk7:1≤k∧k≤7:=by omega
 have clo:=qhD (k:=k) hk7;refine Jt (X:=cx) (f:=73) (qaH _) Tryz.func73 rfl ⟨rfl,rfl⟩ ?_;rcases hkc with ⟨k4,k5⟩ | ⟨k4,k5⟩
 all_goals
  simp [Tryz.f73,k4,k5];refine Run.loopThen (fun (i:Nat) e H=>i≤n∧qg e 0 = some (.int .i64 k)∧qg e 1 = some (.vsl false cs n)∧qg e 6 = some (.int .i64 i)∧∃ l,l.length = 16 * i∧((i = 0∧H = []∧qg e 5 = some (.vsl true [] 0))∨(i≠0∧∃ p p2 H',H = p :: p2 :: some (qf l) :: H'∧qg e 5 = some (.osl 2 (16 * i) 0 (16 * i) 1))∨(i≠0∧∃ H',H = some (qf l) :: H'∧qg e 5 = some (.osl 0 (16 * i) 0 (16 * i) 1)))) (fun i=>n - i) 0 ?_ ?_
  ·refine ⟨vf _,by simp [k4,k5],by simp,by simp,[],rfl,.inl ⟨rfl,rfl,by simp⟩⟩
  rintro i e H ⟨hi,p0,p1,p6,l,hlen,hs⟩;by_cases qi:i < n
  ·have qq:(i:Int) < (n:Int):=(by omega);have hw:IntKind.i64.wrap ((i:Int)+1) = ((i+1:Nat):Int):=(by rw [wrap_i64] <;> omega);obtain ⟨a,b,ha,hb,hd⟩:=qgC hu hl qi;obtain ⟨s,Je,hnum⟩:=qim a b ha hb
   have zN:List.drop (i * 2+1) cs = .int .u64 (b:Int) :: cs.drop (i * 2+2):=by
    rw [← kA,hd];rfl
   have c1:16 * i+16≤140737488355328:=(by omega);rcases hs with ⟨Vm,rfl,p5⟩ | ⟨Vm,p,p2,H',rfl,p5⟩ | ⟨Vm,H',rfl,p5⟩
   ·simp [p0,p1,p5,p6,qq,hd,hnum,hw,qw,Je];exact ⟨i+1,by omega,by omega,by omega,s,by omega,by omega,rfl,by omega⟩
   ·simp [p0,p1,p5,p6,qq,hd,hnum,hw,qw,Je,hlen,c1];exact ⟨i+1,by omega,by omega,by omega,l ++ s,by simp [hlen,Je];omega,by omega,by simp [qf],by omega⟩
   ·simp [p0,p1,p5,p6,qq,hd,hnum,hw,qw,Je,hlen,c1];exact ⟨i+1,by omega,by omega,by omega,l ++ s,by simp [hlen,Je];omega,by omega,by simp [qf],by omega⟩
  ·have qq:¬ (i:Int) < (n:Int):=(by omega);rcases hs with ⟨Vm,rfl,p5⟩ | ⟨Vm,p,p2,H',rfl,p5⟩ | ⟨Vm,H',rfl,p5⟩
   ·omega
   ·have Q3:i = n:=(by omega);obtain ⟨t,ht,hp⟩:=clo l (n:=16 * i) (by omega) (by omega);have vD:List.take (16 * i) (qf l) = qf l:=qP (by simp;omega);have vI:kc (16+16 * i) = 16+16 * n:=(by unfold kc;omega);simp [p0,p1,p5,p6,qq,hlen,hp];exact ⟨t,by rw [ht,vI],rfl⟩
   ·have Q3:i = n:=(by omega);obtain ⟨t,ht,hp⟩:=clo l (n:=16 * i) (by omega) (by omega);have vD:List.take (16 * i) (qf l) = qf l:=qP (by simp;omega);have vI:kc (16+16 * i) = 16+16 * n:=(by unfold kc;omega);simp [p0,p1,p5,p6,qq,hlen,hp];exact ⟨t,by rw [ht,vI],rfl⟩
theorem qfl [MaxL] [TxtC] (a:Nat) (ha:a < 18446744073709551616):∃ s:List UInt8,s.length = 8∧call cx 85 [.vsl false [.int .u64 (a:Int)] 1] [] = some (.osl 0 8 0 8 1,[some (qf s)]):=by
 obtain ⟨q,h,s,hs,rfl⟩:=Xw false [.int .u64 (a:Int)] (qbg ⟨a,rfl,ha⟩) (by simp) (by simp) (by simp);exact ⟨s,hs,h⟩
theorem qoh [MaxL] [TxtC] (a b c:Nat) (ha:a < 18446744073709551616) (hb:b < 18446744073709551616) (hc:c < 18446744073709551616):∃ s:List UInt8,s.length = 24∧call cx 85 [.vsl false [.int .u64 (a:Int),.int .u64 (b:Int),.int .u64 (c:Int)] 3] [] = some (.osl 0 24 0 24 1,[some (qf s)]):=by
 obtain ⟨q,h,s,hs,rfl⟩:=Xw false [.int .u64 (a:Int),.int .u64 (b:Int),.int .u64 (c:Int)] (KE ⟨a,rfl,ha⟩ (KE ⟨b,rfl,hb⟩ (qbg ⟨c,rfl,hc⟩))) (by simp) (by simp) (by simp);exact ⟨s,hs,h⟩
def Xf (a b c:Nat) (boot:ID) (x:Nat) (nl:Bool) (cs:List D) (n:Nat):List D:=[.int .u64 a,.int .u64 b,.int .u64 c] ++ (qf boot.l ++ [.int .u64 x,.vsl nl cs n])
set_option maxHeartbeats 4000000 in
theorem qn0 [MaxL] [TxtC] (a b c:Nat) (boot:ID) (x:Nat) (ha:a < 18446744073709551616) (hb:b < 18446744073709551616) (hc:c < 18446744073709551616) (hx:x < 18446744073709551616) (nl:Bool) (cs:List D) (n:Nat) (hu:Zh cs) (hl:cs.length = n * 2) (zq:nl = true→n = 0) (hn:n≤1000) :
  ∃ q,call cx 80 [.agg (Xf a b c boot x nl cs n)] [] = some q∧qaH (64+16 * n) q:=by
 obtain ⟨s3,X5,h3⟩:=qoh a b c ha hb hc;obtain ⟨s1,VU,h1⟩:=qfl x hx;have jG:boot.l.length = 16:=boot.h;have hfree:=qa7 hu;refine Jt (X:=cx) (f:=80) (qaH _) Tryz.func80 rfl ⟨rfl,rfl⟩ ?_;obtain ⟨E,hE⟩:∃ E,E = Xf a b c boot x nl cs n:=⟨_,rfl⟩;have e1:E.drop 19 = [.int .u64 x,.vsl nl cs n]:=by rw [hE];simp [Xf,jG]
 have e2:E.drop 20 = [.vsl nl cs n]:=by rw [hE];simp [Xf,jG,zk]
 have e3:(E.drop 3).take 16 = qf boot.l:=by rw [hE];simp [Xf,jG]
 have e4:E = .int .u64 a :: .int .u64 b :: .int .u64 c :: E.drop 3:=by rw [hE];simp [Xf]
 simp [Tryz.f80,Xf,h3,X5,h1,VU,jG,qw];have e5:(D.int IntKind.u64 (a:Int) :: D.int IntKind.u64 (b:Int) :: D.int IntKind.u64 (c:Int) :: (qf boot.l ++ [D.int IntKind.u64 (x:Int),D.vsl nl cs n])) = E:=by rw [hE];simp [Xf]
 rw [e5]
 have eI:(∀ y,y∈E→idFree y = true) = True:=eq_true fun y hy=>by
  rw [hE] at hy;simp [Xf] at hy;rcases hy with rfl | rfl | rfl | hy | rfl | rfl
  ·rfl
  ·rfl
  ·rfl
  ·exact List.all_eq_true.1 (by simp) y hy
  ·rfl
  ·rfl
 have eL:E.length = 21:=by rw [hE];simp [Xf,jG]
 refine Run.loopThen (fun (i:Nat) e H=>i≤n∧qg e 1 = some (.optr 0 21 0)∧qg e 4 = some (.int .i64 i)∧∃ l m,l.length = m∧m = 48+16 * i∧((∃ p T,H = some E :: p :: some (qf l) :: T∧qg e 3 = some (.osl 2 m 0 m 1))∨(∃ T,H = some E :: some (qf l) :: T∧qg e 3 = some (.osl 1 m 0 m 1)))) (fun i=>n - i) 0 ?_ ?_
 ·refine ⟨vf _,by simp,by simp,s3 ++ (boot.l ++ s1),48,by simp [X5,VU,jG],rfl,.inl ⟨_,_,by simp [qf];exact ⟨rfl,rfl⟩,by simp⟩⟩
 rintro i e H ⟨hi,p1,p4,l,m,hlen,hm,hs⟩;by_cases qi:i < n
 ·have qq:(i:Int) < (n:Int):=by omega
  have hw:IntKind.i64.wrap ((i:Int)+1) = ((i+1:Nat):Int):=by rw [wrap_i64] <;> omega
  have jZ:nl = false:=Bool.eq_false_iff.2 fun h=>by have:=zq h;omega
  obtain ⟨u,v,hu1,Ve,hd⟩:=qgC hu hl qi;obtain ⟨s,Je,hnum⟩:=qim u v hu1 Ve
  have zN:List.drop (i * 2+1) cs = .int .u64 (v:Int) :: cs.drop (i * 2+2):=by
   rw [← kA,hd];rfl
  have c1:m+16≤140737488355328:=by omega
  rcases hs with ⟨p,T,rfl,p3⟩ | ⟨T,rfl,p3⟩
  ·simp [p1,p3,p4,qq,jZ,hd,hnum,hw,qw,Je,hlen,c1,eI,eL,e2];exact ⟨i+1,by omega,by omega,by omega,l ++ s,by simp;omega,by simp [qf],by simp;omega⟩
  ·simp [p1,p3,p4,qq,jZ,hd,hnum,hw,qw,Je,hlen,c1,eI,eL,e2];exact ⟨i+1,by omega,by omega,by omega,l ++ s,by simp;omega,by simp [qf],by simp;omega⟩
 ·have qq:¬ (i:Int) < (n:Int):=by omega
  have Q3:i = n:=by omega
  obtain ⟨t,ht,hp⟩:=qhD 3 (by omega) l (n:=m) hlen.symm (by omega);have vD:List.take m (qf l) = qf l:=qP (by simp;omega);have vI:kc (16+m) = 64+16 * n:=by unfold kc;omega
  replace hp:call cx 108 [.int .i64 3,.vsl false (qf l) m] [] = some (.vsl false (qf t) t.length,[]):=hp;rcases hs with ⟨p,T,rfl,p3⟩ | ⟨T,rfl,p3⟩
  ·simp [p1,p3,p4,qq,hlen,hp,eI,eL,e2];exact ⟨t,by rw [ht,vI],rfl⟩
  ·simp [p1,p3,p4,qq,hlen,hp,eI,eL,e2];exact ⟨t,by rw [ht,vI],rfl⟩
def qf3 (cs:List D):Prop:= ∀ d,d∈cs→∃ s:Sl UInt8,d = (.vsl s.nil (qf s.l) s.l.length)∧s.l.length < 1000000
set_option maxHeartbeats 1000000 in
theorem qlo [MaxL] [TxtC] (nl:Bool) (cs:List D) (hb:qf3 cs) (zq:nl = true→cs = []) (hl:cs.length≤100000):∃ q,call cx 81 [.vsl nl cs cs.length] [] = some q∧qc7 q:=by
 refine Jt (X:=cx) (f:=81) qc7 Tryz.func81 rfl ⟨rfl,rfl⟩ ?_;simp [Tryz.f81];refine Run.loopThen (fun (i:Nat) e H=>i≤cs.length∧qg e 0 = some (.vsl nl cs cs.length)∧qg e 4 = some (.int .i64 i)∧H = []∧∃ v,zH v∧qg e 3 = some (.int .u64 v)) (fun i=>cs.length - i) 0 ?_ ?_
 ·exact ⟨vf _,by simp,by simp,rfl,0,by unfold zH;omega,by simp⟩
 rintro i e H ⟨hi,p0,p4,rfl,v,hv,p3⟩;by_cases qi:i < cs.length
 ·have qq:(i:Int) < (cs.length:Int):=by omega
  have hw:IntKind.i64.wrap ((i:Int)+1) = ((i+1:Nat):Int):=by rw [wrap_i64] <;> omega
  have jb:nl = false:=Bool.eq_false_iff.2 fun h=>by rw [zq h] at qi;simp at qi
  subst jb;obtain ⟨s,hs,Zj⟩:=hb _ (vQ qi);have hd:cs.drop i = (.vsl s.nil (qf s.l) s.l.length) :: cs.drop (i+1):=by rw [vR qi,hs]
  have h1:=qh4 s (by omega);simp [p0,p3,p4,qq,hd,h1,hw];exact ⟨i+1,by omega,by omega,by omega,qg0 _ _⟩
 ·have qq:¬ (i:Int) < (cs.length:Int):=by omega
  simp [p0,p3,p4,qq];exact ⟨v,hv,rfl⟩
theorem qdo [MaxL] [TxtC] (v:Nat) (hv:v < 4294967296):∃ s:List UInt8,s.length = 4∧call cx 84 [.int .u64 v,.int .i64 4] [] = some (.vsl false (qf s) 4,[]):=⟨Q1 4 v,by simp,qi4 v 4 (by omega) (by omega) (by omega)⟩
theorem qe1 (z:Int):∃ c:UInt8,IntKind.u8.wrap z = (c.toNat:Int):=by
 have h:0≤IntKind.u8.wrap z∧IntKind.u8.wrap z < 256:=by
  simp only [IntKind.wrap,IntKind.signed,IntKind.bits];simp;omega
 refine ⟨UInt8.ofNat (IntKind.u8.wrap z).toNat,?_⟩;rw [qej (by simp only [UInt8.size];omega)];omega
theorem qwr {R:List D} (h:R.all idFree = true):(∀ x,x∈R→idFree x = true) = True:=eq_true (List.all_eq_true.1 h)
def Jk (v0 v1:Nat) (st:Int) (ids:List UInt8) (ns:List D) (v2 v3 v4:Nat):List D:=.int .u32 (v0:Int) :: .int .u32 (v1:Int) :: .int .i64 st :: (qf ids ++ (ns ++ [.int .u32 (v2:Int),.int .u32 (v3:Int),.int .u64 (v4:Int)]))
set_option maxHeartbeats 4000000 in
set_option maxRecDepth 10000 in
theorem qsW [MaxL] [TxtC] (v0 v1:Nat) (st:Int) (ids:List UInt8) (ns:List D) (v2 v3 v4 dp:Nat) (h0:v0 < 4294967296) (h1:v1 < 4294967296) (KT:ids.length = 64) (V6:Zh ns) (zq:ns.length = 20) (h2:v2 < 4294967296) (h3:v3 < 4294967296) (h4:v4 < 18446744073709551616) (hdp:dp < 18446744073709551616) :
  ∃ q,call cx 55 [.agg (Jk v0 v1 st ids ns v2 v3 v4),.int .u64 dp] [] = some q∧qeq 272 q:=by
 obtain ⟨s0,l0,e0⟩:=qdo v0 h0;obtain ⟨s1,l1,e1⟩:=qdo v1 h1;obtain ⟨s2,l2,e2⟩:=qdo v2 h2;obtain ⟨s3,l3,e3⟩:=qdo v3 h3;obtain ⟨s4,l4,e4⟩:=qfl v4 h4;obtain ⟨sd,ld,ed⟩:=qfl dp hdp;obtain ⟨q,en,sn,ln,rfl⟩:=Xw false ns V6 (by simp) (by omega) (by omega);rw [zq] at en ln;replace en:call cx 85 [.vsl false ns 20] [] = some (.osl 0 160 0 160 1,[some (qf sn)]):=en;replace ln:sn.length = 160:=ln;obtain ⟨c,hc⟩:=qe1 st;have w0:IntKind.u64.wrap (v0:Int) = (v0:Int):=by rw [qF] <;> omega
 have w1:IntKind.u64.wrap (v1:Int) = (v1:Int):=by rw [qF] <;> omega
 have w2:IntKind.u64.wrap (v2:Int) = (v2:Int):=by rw [qF] <;> omega
 have w3:IntKind.u64.wrap (v3:Int) = (v3:Int):=by rw [qF] <;> omega
 have hfree:=qa7 V6;have fI:=qwr hfree;have fL:idFree.idFreeL ns = true:=by rw [kO];exact hfree
 have fC:∀ n,(∀ x,x∈ns→closed n x = true) = True:=fun n=>eq_true fun x hx=>qbt n x (List.all_eq_true.1 hfree x hx);obtain ⟨R,hR⟩:∃ R:List D,R = [.int .u32 (v2:Int),.int .u32 (v3:Int),.int .u64 (v4:Int)]:=⟨_,rfl⟩;have QR:(qf ids).length = 64:=by simp [KT]
 have d0:List.drop 84 (qf ids ++ (ns ++ R)) = R:=by rw [show (84:Nat) = 64+20 by rfl,← kA,VH QR,VH zq]
 have d1:List.drop 85 (qf ids ++ (ns ++ R)) = R.drop 1:=by rw [show (85:Nat) = 84+1 by rfl,← kA,d0]
 have d2:List.drop 86 (qf ids ++ (ns ++ R)) = R.drop 2:=by rw [show (86:Nat) = 84+2 by rfl,← kA,d0]
 have d3:List.drop 64 (qf ids ++ (ns ++ R)) = ns ++ R:=VH QR;have d4:List.take 20 (ns ++ R) = ns:=List.take_left' zq
 have hX:∀ k,k+16≤64→List.take 16 (List.drop k (qf ids ++ (ns ++ R))) = qf ((ids.drop k).take 16):=by
  intro k hk;rw [List.drop_append_of_le_length (by omega),List.take_append_of_le_length (by rw [Zb];omega)];simp [qf]
 have x0:=hX 0 (by omega);have x1:=hX 16 (by omega);have x2:=hX 32 (by omega);have x3:=hX 48 (by omega);rw [List.drop_zero] at x0;obtain ⟨b0,hb0⟩:∃ b,b = (ids.drop 0).take 16:=⟨_,rfl⟩;obtain ⟨b1,Xa⟩:∃ b,b = (ids.drop 16).take 16:=⟨_,rfl⟩;obtain ⟨b2,vy⟩:∃ b,b = (ids.drop 32).take 16:=⟨_,rfl⟩;obtain ⟨b3,hb3⟩:∃ b,b = (ids.drop 48).take 16:=⟨_,rfl⟩;have g0:b0.length = 16:=by rw [hb0,kt,Zb];omega
 have g1:b1.length = 16:=by rw [Xa,kt,Zb];omega
 have g2:b2.length = 16:=by rw [vy,kt,Zb];omega
 have g3:b3.length = 16:=by rw [hb3,kt,Zb];omega
 rw [← hb0] at x0;rw [← Xa] at x1;rw [← vy] at x2;rw [← hb3] at x3;rw [hR] at d0 d1 d2 d3 d4 x0 x1 x2 x3;refine Jt (X:=cx) (f:=55) (qeq _) Tryz.func55 rfl ⟨rfl,rfl⟩ ?_;simp [Tryz.f55,Jk,KT,zq,w0,w1,w2,w3,e0,e1,e2,e3,e4,ed,en,l0,l1,l2,l3,l4,ld,ln,hc,qw,fI,fC,d0,d1,d2,d3,d4,x0,x1,x2,x3,g0,g1,g2,g3,qP];refine ⟨[76,80,75,83,72,72,82,72] ++ (s0 ++ (s1 ++ ([c,0,0,0,0,0,0,0] ++ (b0 ++ (b1 ++ (b2 ++ (b3 ++ (sn ++ (sd ++ (s2 ++ (s3 ++ s4))))))))))),by simp [l0,l1,l2,l3,l4,ld,ln,g0,g1,g2,g3],?_⟩;simp [qf]
theorem zD {l:List D} {i:Nat} {x:D} (h:l[i]? = some x):l.drop i = x :: l.drop (i+1):=by
 obtain ⟨hi,hx⟩:=List.getElem?_eq_some_iff.1 h;rw [vR hi,hx]
theorem kp (H:qd) (i:Nat) (x y:List D):ql (ql H i x) i y = ql H i y:=by
 unfold ql;rw [List.set_set]
theorem qa8 {H:qd} {i:Nat} {x:List D} (h:qe H i = some x):ql H i x = H:=by
 unfold ql;have hi:=qt h;unfold qe at h;rw [qU hi] at h;apply List.ext_getElem
 ·simp
 ·intro j h1 h2;rw [List.getElem_set];split
  ·rename_i qR;subst qR;exact h.symm
  ·rfl
theorem qrA {H:qd} {q:Nat} {m:Jm} (h:JmW H q m) {b:List UInt8} (hb:b.length = m.b.length):JmW (ql H m.bi (qf b)) q { m with b:=b }:=by
 have hn:=h.nodup;have hd:∀ i,i∈m.names q→i≠m.bi→qe (ql H m.bi (qf b)) i = qe H i:=fun i _ hi=>qZ hi
 have hq:q≠m.bi:=by
  intro e;unfold Jm.names at hn;rw [e] at hn;simp at hn
 have hD:∀ i,i∈m.Ld→i ∉ [m.bi]:=by
  intro i hi e;rw [List.mem_singleton.1 e] at hi;unfold Jm.names at hn;simp only [List.nodup_cons,zA,ji] at hn;exact hn.2.1 (.inl hi)
 have hF:∀ i,i∈m.Lf→i ∉ [m.bi]:=by
  intro i hi e;rw [List.mem_singleton.1 e] at hi;unfold Jm.names at hn;simp only [List.nodup_cons,zA,ji] at hn;exact hn.2.1 (.inr hi)
 exact { h with
  root:=by rw [qZ hq];exact h.root
  c143:=by rw [h.c143];simp only;rw [hb]
  bytes:=qV (qt h.bytes)
  rowD:=h.rowD.ext (Ext.set H m.bi _) hD
  rowF:=h.rowF.ext (Ext.set H m.bi _) hF }
set_option maxHeartbeats 2000000 in
theorem qrx [MaxL] [TxtC] {H:qd} {q:Nat} {m:Jm} (h:JmW H q m) (a v:Nat) (ha:a+8≤m.b.length) (hl:m.b.length≤1000000) :
  ∃ b,call cx 83 [.optr q 147 0,.int .u64 a,.int .u64 v] H = some (.tup [],ql H m.bi (qf b))∧b.length = m.b.length:=by
 have hc:=zD h.c143
 have hq:q≠m.bi:=by
  intro e;have hn:=h.nodup;unfold Jm.names at hn;rw [e] at hn;simp at hn
 have zW:∀ x,qe (ql H m.bi x) q = some m.cs:=fun x=>by rw [qZ hq];exact h.root
 have jG:∀ x,qe (ql H m.bi x) m.bi = some x:=fun x=>qV (qt h.bytes);have qY:=h.len
 obtain ⟨r,hr,b,rfl,hb⟩:∃ r,call cx 83 [.optr q 147 0,.int .u64 a,.int .u64 v] H = some r∧∃ b:List UInt8,r = (.tup [],ql H m.bi (qf b))∧b.length = m.b.length:=by
  refine Zt (X:=cx) (f:=83) _ Tryz.func83 rfl ⟨rfl,rfl⟩ ?_;simp [-qe,-ql,-qo,Tryz.f83];refine Run.loopThen (fun (i:Nat) e K=>i≤8∧qg e 0 = some (.optr q 147 0)∧qg e 1 = some (.int .u64 a)∧qg e 2 = some (.int .u64 v)∧qg e 6 = some (.int .i64 i)∧∃ b:List UInt8,b.length = m.b.length∧K = ql H m.bi (qf b)) (fun i=>8 - i) 0 ?_ ?_
  ·exact ⟨by omega,by simp,by simp,by simp,by simp,m.b,rfl,(qa8 h.bytes).symm⟩
  rintro i e K ⟨hi,p0,p1,p2,p6,b,hb,rfl⟩;by_cases qi:i < 8
  ·have qq:(i:Int) < 8:=(by omega);have hw:IntKind.i64.wrap ((i:Int)+1) = ((i+1:Nat):Int):=(by rw [wrap_i64] <;> omega);have zB:IntKind.u64.wrap (i:Int) = (i:Int):=(by rw [qF] <;> omega);obtain ⟨z,hz⟩:∃ z:Nat,z = 8 * i:=⟨_,rfl⟩;obtain ⟨y,hy⟩:∃ y:Nat,y = a+i:=⟨_,rfl⟩;have zp:IntKind.u64.wrap ((a:Int)+(i:Int)) = (y:Int):=(by rw [qF] <;> omega);have V5:IntKind.i64.wrap (8 * (i:Int)) = (z:Int):=(by rw [wrap_i64] <;> omega);have KI:IntKind.u64.wrap (z:Int) = (z:Int):=(by rw [qF] <;> omega);have J6:¬ (z:Int) < 0:=(by omega);have zf:y < m.b.length:=(by omega);have hai':(y:Int) < (m.b.length:Int):=(by omega);have hy0:¬ (y:Int) < 0:=(by omega);have hai2:y+1≤m.b.length:=(by omega);obtain ⟨c,hc8⟩:=qe1 ((v:Int).fdiv (2 ^ min z IntKind.u64.bits));simp [-qe,-ql,-qo,p0,p1,p2,p6,qq,hw,zB,zp,V5,KI,J6,zW,jG,qY,hc,hb,hai',kp,hc8,hai2];exact ⟨i+1,by omega,by omega,by omega,b.take y ++ c :: b.drop (y+1),by simp;omega,by simp [qf]⟩
  ·have qq:¬ (i:Int) < 8:=(by omega);simp [-qe,-ql,-qo,p0,p1,p2,p6,qq];exact ⟨b,rfl,hb⟩
 exact ⟨b,hr,hb⟩
theorem KC [MaxL] [TxtC] {H:qd} {q:Nat} {m:Jm} (h:JmW H q m) (hk:m.Ok) (a v:Nat) (ha:a+8≤m.b.length) :
  ∃ T b,call cx 83 [.optr q 147 0,.int .u64 a,.int .u64 v] H = some (.tup [],T)∧b.length = m.b.length∧JmW T q { m with b:=b }∧Jm.Ok { m with b:=b }∧Ext [m.bi] H T∧T.length = H.length:=by
 obtain ⟨b,hc,hb⟩:=qrx h a v ha hk.bmax;refine ⟨_,b,hc,hb,qrA h hb,?_,Ext.set H m.bi _,by simp [ql]⟩
 exact { hk with
  bl:=by simp only;rw [hb];exact hk.bl
  bmod:=by simp only;rw [hb];exact hk.bmod
  bmax:=by simp only;rw [hb];exact hk.bmax
  da:=by simp only;rw [hb];exact hk.da
  fi:=by simp only;rw [hb];exact hk.fi
  main:=by simp only;rw [hb];exact hk.main }
theorem jo {l:List D} {i:Nat} {d:D} (h:i < l.length):List.take i l ++ d :: List.drop (i+1) l = l.set i d:=by
 rw [qle,if_pos h]
theorem Xo {l:List D} {i j:Nat} {d x:D} (hj:i≠j) (h:l[j]? = some x):(l.set i d)[j]? = some x:=by rw [List.getElem?_set_ne hj,h]
def qfH (i:Nat):Bool:=(decide (119≤i) && decide (i < 139) && !([119,121,122,123,124,127,128].contains i)) || decide (i = 141) || decide (i = 142)
theorem qtN {i:Nat} (h:qfH i = true):119 < i∧i < 143∧i≠121∧i≠122∧i≠123∧i≠124∧i≠127∧i≠128∧i≠139∧i≠140:=by
 unfold qfH at h;simp at h;omega
theorem J2 {H:qd} {q:Nat} {m:Jm} (h:JmW H q m):m.bi≠q∧q ∉ m.Ld∧q ∉ m.Lf:=by
 have hn:=h.nodup;unfold Jm.names at hn;simp only [List.nodup_cons,zA,ji,not_or] at hn;exact ⟨fun e=>hn.1.1 e.symm,hn.1.2.1,hn.1.2.2⟩
theorem Vb {H:qd} {q:Nat} {m:Jm} (h:JmW H q m) {i:Nat} (hi:qfH i = true) {d:D} (hd:KG d):JmW (ql H q (m.cs.set i d)) q { m with cs:=m.cs.set i d }:=by
 obtain ⟨f0,f1,f2,f3,f4,f5,f6,f7,f8,f9⟩:=qtN hi;obtain ⟨q1,q2,q3⟩:=J2 h;have qi:i < m.cs.length:=by rw [h.len];omega
 have hs:∀ {j:Nat} {x:D},i≠j→m.cs[j]? = some x→(m.cs.set i d)[j]? = some x:=fun hj hx=>Xo hj hx
 exact { h with
  root:=qV (qt h.root)
  len:=by simp only;rw [vt];exact h.len
  file:=by simp only;rw [List.take_set_of_le (by omega)];exact h.file
  c48:=hs (by omega) h.c48
  c49:=hs (by omega) h.c49
  c50:=hs (by omega) h.c50
  c51:=hs (by omega) h.c51
  c52:=hs (by omega) h.c52
  c53:=hs (by omega) h.c53
  c54:=hs (by omega) h.c54
  ids:=by
   obtain ⟨a,b,c,e,he⟩:=h.ids;refine ⟨a,b,c,e,?_⟩;simp only;rw [List.drop_set,if_neg (by omega),List.take_set_of_le (by omega)];exact he
  c119:=hs (by omega) h.c119
  c121:=hs (by omega) h.c121
  c122:=hs (by omega) h.c122
  c123:=hs (by omega) h.c123
  c124:=hs (by omega) h.c124
  c127:=hs (by omega) h.c127
  c128:=hs (by omega) h.c128
  nums:=fun j h1 h2=>by
   by_cases qR:i = j
   ·subst qR;exact ⟨d,by simp only;rw [List.getElem?_set_self qi],hd⟩
   ·obtain ⟨x,hx,hu⟩:=h.nums j h1 h2;exact ⟨x,hs qR hx,hu⟩
  c139:=by obtain ⟨v,hv,zQ⟩:=h.c139;exact ⟨v,hs (by omega) hv,zQ⟩
  c140:=by obtain ⟨v,hv,zQ⟩:=h.c140;exact ⟨v,hs (by omega) hv,zQ⟩
  c141:=by
   by_cases qR:i = 141
   ·subst qR;exact ⟨d,by simp only;rw [List.getElem?_set_self qi],hd⟩
   ·obtain ⟨x,hx,hu⟩:=h.c141;exact ⟨x,hs qR hx,hu⟩
  c142:=by
   by_cases qR:i = 142
   ·subst qR;exact ⟨d,by simp only;rw [List.getElem?_set_self qi],hd⟩
   ·obtain ⟨x,hx,hu⟩:=h.c142;exact ⟨x,hs qR hx,hu⟩
  c143:=hs (by omega) h.c143
  c144:=hs (by omega) h.c144
  c145:=hs (by omega) h.c145
  c146:=hs (by omega) h.c146
  free:=XS h.free (fun _=>qf1 hd)
  bytes:=by rw [qZ q1];exact h.bytes
  rowD:=h.rowD.ext (Ext.set H q _) (fun j hj e=>q2 (by rw [← List.mem_singleton.1 e];exact hj))
  rowF:=h.rowF.ext (Ext.set H q _) (fun j hj e=>q3 (by rw [← List.mem_singleton.1 e];exact hj)) }
theorem qr9 {H:qd} {q:Nat} {m:Jm} (h:JmW H q m) (x:List UInt8) {n:Nat} (hn:n = m.b.length+x.length):JmW (ql (ql H m.bi (qf (m.b ++ x))) q (m.cs.set 143 (.osl m.bi n 0 n 1))) q { m with b:=m.b ++ x,cs:=m.cs.set 143 (.osl m.bi n 0 n 1) }:=by
 obtain ⟨q1,q2,q3⟩:=J2 h;have hnd:=h.nodup;unfold Jm.names at hnd;simp only [List.nodup_cons,zA,ji,not_or] at hnd;have qi:143 < m.cs.length:=by rw [h.len];omega
 have hs:∀ {j:Nat} {y d:D},143≠j→m.cs[j]? = some y→(m.cs.set 143 d)[j]? = some y:=fun hj hy=>Xo hj hy;have hb:m.bi < H.length:=qt h.bytes;have hr:q < H.length:=qt h.root;have e1:Ext [m.bi] H (ql H m.bi (qf (m.b ++ x))):=Ext.set H _ _;have e2:Ext [q] (ql H m.bi (qf (m.b ++ x))) (ql (ql H m.bi (qf (m.b ++ x))) q (m.cs.set 143 (.osl m.bi n 0 n 1))):=Ext.set _ _ _
 have ap:∀ {k:Nat} {v:D} {cs:List D} {L:List Nat},m.bi ∉ L→q ∉ L→RowA H k v cs L→RowA (ql (ql H m.bi (qf (m.b ++ x))) q (m.cs.set 143 (.osl m.bi n 0 n 1))) k v cs L:=fun h1 h2 hr =>
  (hr.ext e1 (fun j hj e=>h1 (by rw [← List.mem_singleton.1 e];exact hj))).ext e2 (fun j hj e=>h2 (by rw [← List.mem_singleton.1 e];exact hj))
 exact { h with
  root:=qV (by simp [ql];exact hr)
  len:=by simp only;rw [vt];exact h.len
  file:=by simp only;rw [List.take_set_of_le (by omega)];exact h.file
  c48:=hs (by omega) h.c48
  c49:=hs (by omega) h.c49
  c50:=hs (by omega) h.c50
  c51:=hs (by omega) h.c51
  c52:=hs (by omega) h.c52
  c53:=hs (by omega) h.c53
  c54:=hs (by omega) h.c54
  ids:=by
   obtain ⟨a,b,c,e,he⟩:=h.ids;refine ⟨a,b,c,e,?_⟩;simp only;rw [List.drop_set,if_neg (by omega),List.take_set_of_le (by omega)];exact he
  c119:=hs (by omega) h.c119
  c121:=hs (by omega) h.c121
  c122:=hs (by omega) h.c122
  c123:=hs (by omega) h.c123
  c124:=hs (by omega) h.c124
  c127:=hs (by omega) h.c127
  c128:=hs (by omega) h.c128
  nums:=fun j h1 h2=>by
   obtain ⟨y,hy,hu⟩:=h.nums j h1 h2;exact ⟨y,hs (by omega) hy,hu⟩
  c139:=by obtain ⟨v,hv,zQ⟩:=h.c139;exact ⟨v,hs (by omega) hv,zQ⟩
  c140:=by obtain ⟨v,hv,zQ⟩:=h.c140;exact ⟨v,hs (by omega) hv,zQ⟩
  c141:=by obtain ⟨y,hy,hu⟩:=h.c141;exact ⟨y,hs (by omega) hy,hu⟩
  c142:=by obtain ⟨y,hy,hu⟩:=h.c142;exact ⟨y,hs (by omega) hy,hu⟩
  c143:=by simp only;rw [List.getElem?_set_self qi,hn,qX]
  c144:=hs (by omega) h.c144
  c145:=hs (by omega) h.c145
  c146:=hs (by omega) h.c146
  free:=XS h.free (fun hi=>by omega)
  bytes:=by rw [qZ q1];exact qV hb
  rowD:=ap hnd.2.1.1 q2 h.rowD
  rowF:=ap hnd.2.1.2 q3 h.rowF }
theorem qrE {m:Jm} (h:m.Ok) {x:List UInt8} {cs:List D} (h8:x.length % 8 = 0) (hm:m.b.length+x.length≤1000000):Jm.Ok { m with b:=m.b ++ x,cs:=cs }:=by
 have hl:(m.b ++ x).length = m.b.length+x.length:=qX;have j7:m.b.length≤(m.b ++ x).length:=by omega
 have:=h.bl;have:=h.bmod
 exact { h with
  bl:=by simp only;omega
  bmod:=by simp only;omega
  bmax:=by simp only;omega
  da:=fun k hk=>(h.da k hk).mono j7
  fi:=fun k hk=>(h.fi k hk).mono j7
  main:=h.main.mono j7 }
set_option maxHeartbeats 2000000 in
theorem qdx [MaxL] [TxtC] {H:qd} {q:Nat} {m:Jm} (h:JmW H q m) (hk:m.Ok) (x:List UInt8) (h8:x.length % 8 = 0) (hm:m.b.length+x.length≤1000000) :
  ∃ T cs,call cx 79 [.optr q 147 0,.vsl false (qf x) x.length] H = some (.int .u64 (m.b.length:Nat),T)∧JmW T q { m with b:=m.b ++ x,cs:=cs }∧Jm.Ok { m with b:=m.b ++ x,cs:=cs }∧Ext [q,m.bi] H T∧T.length = H.length:=by
 obtain ⟨n,hn⟩:∃ n,n = m.b.length+x.length:=⟨_,rfl⟩;have w1:=qr9 h x hn;have u6:KG (.int .u64 ((m.b.length:Nat):Int)):=⟨_,rfl,by omega⟩;have w2:=Vb w1 (i:=125) rfl u6;obtain ⟨d7,Jk,v7,rfl,hv7⟩:=w2.nums 126 (by omega) (by omega)
 have u7:KG (.int .u64 (IntKind.u64.wrap ((v7:Int)+1))):=by
  have hu:=qan ((v7:Int)+1);unfold zH at hu;exact ⟨(IntKind.u64.wrap ((v7:Int)+1)).toNat,by rw [Int.toNat_of_nonneg hu.1],by omega⟩
 have w3:=Vb w2 (i:=126) rfl u7;simp only [kp] at w2 w3 Jk;obtain ⟨q1,q2,q3⟩:=J2 h;have qY:=h.len;have hc:=zD h.c143;have hbq:=qt h.root;have hbb:=qt h.bytes;have r0:=h.root;have rb:=h.bytes;have hap:qf m.b ++ qf x = qf (m.b ++ x):=by simp [qf]
 obtain ⟨C1,ZF⟩:∃ C,C = m.cs.set 143 (.osl m.bi n 0 n 1):=⟨_,rfl⟩;have s1:List.take 143 m.cs ++ D.osl m.bi n 0 n 1 :: List.drop 144 m.cs = C1:=by rw [ZF];exact jo (by omega)
 have l1:C1.length = 147:=by rw [ZF,vt];exact qY
 obtain ⟨C2,jh⟩:∃ C,C = C1.set 125 (.int .u64 ((m.b.length:Nat):Int)):=⟨_,rfl⟩;have s2:List.take 125 C1 ++ D.int .u64 ((m.b.length:Nat):Int) :: List.drop 126 C1 = C2:=by rw [jh];exact jo (by omega)
 have l2:C2.length = 147:=by rw [jh,vt];exact l1
 obtain ⟨C3,JG⟩:∃ C,C = C2.set 126 (.int .u64 (IntKind.u64.wrap ((v7:Int)+1))):=⟨_,rfl⟩;have s3:List.take 126 C2 ++ D.int .u64 (IntKind.u64.wrap ((v7:Int)+1)) :: List.drop 127 C2 = C3:=by rw [JG];exact jo (by omega)
 rw [← ZF] at w3 Jk;rw [← jh] at w3 Jk;rw [← JG] at w3;have d7:=zD Jk;obtain ⟨B,hB⟩:∃ B,B = qf (m.b ++ x):=⟨_,rfl⟩;rw [← hB] at hap w3;obtain ⟨K,hK⟩:∃ K,K = ql H m.bi B:=⟨_,rfl⟩;have k0:qe K q = some m.cs:=by rw [hK,qZ q1.symm];exact r0
 have kq:∀ C,qe (ql K q C) q = some C:=fun C=>qV (by rw [hK];simpa [ql] using hbq);rw [← hK] at w3;have km:IntKind.u64.wrap ((m.b.length:Nat):Int) = ((m.b.length:Nat):Int):=by rw [qF] <;> omega
 have hbK:m.bi < K.length:=by rw [hK];simpa [ql] using hbb
 have c1:n≤140737488355328:=by omega
 have c2:m.b.length+x.length≤140737488355328:=by omega
 refine ⟨ql K q C3,C3,zt Tryz.func79 rfl ⟨rfl,rfl⟩ ?_,w3,qrE hk h8 hm,?_,by rw [hK];simp [ql]⟩
 ·simp [-qe,-ql,-qo,Tryz.f79,r0,rb,qY,hc,hap,hn.symm,hK.symm,k0,kq,s1,s2,s3,l1,l2,d7,km,c1,qw,kp,hbK]
 ·refine ⟨by rw [hK];simp [ql],fun i hi hn=>?_⟩;simp only [zA,List.not_mem_nil,or_false,not_or] at hn;rw [qZ hn.1,hK,qZ hn.2]
theorem Y1 {l:List Kn} {i:Nat} (hi:i < l.length):∃ (k:Kn) (r:List D),k∈l∧(qk l).drop (i * 5) = .str k.text :: .int .u64 (k.at_:Nat) :: .int .i64 (k.slot:Nat) :: .int .i64 (k.cnt:Nat) :: .vsl k.nil (qy .u64 k.arrs) k.arrs.length :: r∧l[i]? = some k∧(qk l).drop (i * 5+1) = .int .u64 (k.at_:Nat) :: .int .i64 (k.slot:Nat) :: .int .i64 (k.cnt:Nat) :: .vsl k.nil (qy .u64 k.arrs) k.arrs.length :: r∧(qk l).drop (i * 5+2) = .int .i64 (k.slot:Nat) :: .int .i64 (k.cnt:Nat) :: .vsl k.nil (qy .u64 k.arrs) k.arrs.length :: r:=by
 have h:=QD (n:=5) (α:=Kn) rfl hi;rw [Kn.cells] at h;refine ⟨l[i],_,vQ hi,h,qU hi,?_,?_⟩
 ·rw [← kA,h];rfl
 ·rw [← kA,h];rfl
set_option maxHeartbeats 4000000 in
theorem qiP [MaxL] [TxtC] {H:qd} {q:Nat} {m:Jm} (h:JmW H q m) (hk:m.Ok) {v:D} {ks:List Kn} {L:List Nat} (hrow:RowA H 5 v (qk ks) L) (hks:∀ k,k∈ks→k.at_+40≤m.b.length) (XE:ks.length≤1000)
  (tb at_ sl:Nat) (ht:tb+16 * sl+16≤m.b.length) (_hat:at_ < 18446744073709551616) :
  ∃ T b r,call cx 113 [.optr q 147 0,v,.int .u64 tb,.int .u64 at_,.int .i64 sl] H = some (.int .u64 (r:Nat),T)∧r < 18446744073709551616∧b.length = m.b.length∧JmW T q { m with b:=b }∧Jm.Ok { m with b:=b }∧Ext [m.bi] H T∧T.length = H.length:=by
 have Zl:=hk.bmax
 suffices hs:∃ r,call cx 113 [.optr q 147 0,v,.int .u64 tb,.int .u64 at_,.int .i64 sl] H = some r∧∃ (n:Nat) (T:qd) (b:List UInt8),r = (.int .u64 (n:Nat),T)∧n < 18446744073709551616∧b.length = m.b.length∧JmW T q { m with b:=b }∧Jm.Ok { m with b:=b }∧Ext [m.bi] H T∧T.length = H.length by
  obtain ⟨r,hc,n,T,b,rfl,h1,h2,h3,h4,h5,h6⟩:=hs;exact ⟨T,b,n,hc,h1,h2,h3,h4,h5,h6⟩
 refine Zt (X:=cx) (f:=113) _ Tryz.func113 rfl ⟨rfl,rfl⟩ ?_;simp [-qe,-ql,-qo,Tryz.f113];refine Run.loopThen (fun (i:Nat) e K=>i≤ks.length∧qg e 0 = some (.optr q 147 0)∧qg e 1 = some v∧qg e 2 = some (.int .u64 tb)∧qg e 3 = some (.int .u64 at_)∧qg e 4 = some (.int .i64 sl)∧qg e 13 = some (.int .i64 i)∧K = H∧∃ n last:Nat,n≤i∧(0 < n→last+40≤m.b.length)∧qg e 11 = some (.int .u64 n)∧qg e 12 = some (.int .u64 last)) (fun i=>ks.length - i) 0 ?_ ?_
 ·exact ⟨vf _,by simp,by simp,by simp,by simp,by simp,by simp,rfl,0,0,qv _,fun h=>absurd h (by omega),by simp,by simp⟩
 rintro i e K ⟨hi,p0,p1,p2,p3,p4,p13,rfl,n,last,hn,hlast,p11,p12⟩;by_cases qi:i < ks.length
 ·have qq:(i:Int) < (ks.length:Int):=by omega
  have hw:IntKind.i64.wrap ((i:Int)+1) = ((i+1:Nat):Int):=by rw [wrap_i64] <;> omega
  obtain ⟨k,r,Ji,jU,vc,Qt,zN⟩:=Y1 qi;have hka:=hks k Ji;have qH:qk ks≠[]:=fun e0=>by rw [e0] at jU;simp at jU
  obtain ⟨ro,nn,rfl,qY,Qq,rfl⟩:=hrow.own qH
  have jb:nn = ks.length:=by
   have:=Qv ks;rw [this] at qY;simp at qY;omega
  subst jb;have zJ:(qk ks).length = ks.length * 5:=by simp
  have hwn:IntKind.u64.wrap ((n:Int)+1) = ((n+1:Nat):Int):=by rw [qF] <;> omega
  by_cases ko:k.slot = sl
  ·simp [-qe,-ql,-qo,p0,p1,p2,p3,p4,p11,p12,p13,qq,hw,hwn,Qq,zJ,Qt,zN,ko];exact ⟨i+1,by omega,by omega,by omega,n+1,by omega,k.at_,fun _=>hka,by omega,rfl⟩
  ·have hsl':¬ (k.slot:Int) = (sl:Int):=(by omega);simp [-qe,-ql,-qo,p0,p1,p2,p3,p4,p11,p12,p13,qq,hw,Qq,zJ,zN,hsl'];exact ⟨i+1,by omega,by omega,by omega,n,by omega,last,hlast,rfl,rfl⟩
 ·have qq:¬ (i:Int) < (ks.length:Int):=by omega
  obtain ⟨y,hy⟩:∃ y:Nat,y = tb+16 * sl:=⟨_,rfl⟩;obtain ⟨x,hx⟩:∃ x:Nat,x = 16 * sl:=⟨_,rfl⟩;have w1:IntKind.i64.wrap (16 * (sl:Int)) = (x:Int):=by rw [wrap_i64] <;> omega
  have w2:IntKind.u64.wrap (x:Int) = (x:Int):=by rw [qF] <;> omega
  have w3:IntKind.u64.wrap ((tb:Int)+(x:Int)) = (y:Int):=by rw [qF] <;> omega
  obtain ⟨y8,hy8⟩:∃ z:Nat,z = y+8:=⟨_,rfl⟩;have w4:IntKind.u64.wrap ((y:Int)+8) = (y8:Int):=by rw [qF] <;> omega
  obtain ⟨l24,hl24⟩:∃ z:Nat,z = last+24:=⟨_,rfl⟩
  have w5:0 < n→IntKind.u64.wrap ((last:Int)+24) = (l24:Int):=fun Qb=>by
   have:=hlast Qb;rw [qF] <;> omega
  have hfirst:∃ T1 b1 a1,a1 = (if n = 0 then y else l24)∧call cx 83 [.optr q 147 0,.int .u64 (a1:Nat),.int .u64 at_] K = some (.tup [],T1)∧b1.length = m.b.length∧JmW T1 q { m with b:=b1 }∧Jm.Ok { m with b:=b1 }∧Ext [m.bi] K T1∧T1.length = K.length:=by
   by_cases Qb:n = 0
   ·obtain ⟨T1,b1,hh⟩:=KC h hk y at_ (by omega)
    exact ⟨T1,b1,y,by rw [if_pos Qb],hh⟩
   ·have:=hlast (by omega);obtain ⟨T1,b1,hh⟩:=KC h hk l24 at_ (by omega)
    exact ⟨T1,b1,l24,by rw [if_neg Qb],hh⟩
  obtain ⟨T1,b1,a1,JE,c1,Xa,W1,O1,E1,L1⟩:=hfirst;obtain ⟨T2,b2,c2,vy,W2,O2,E2,L2⟩:=KC W1 O1 y8 at_ (by simp only;omega)
  simp only at W2 O2 E2 vy;rcases hrow with ⟨rfl,VD,rfl⟩ | ⟨ro,nn,rfl,qY,Qq,rfl⟩
  ·have hneg:¬ (i:Int) < 0:=by omega
   have h0:ks.length = 0:=by
    have:=Qv ks;rw [VD] at this;simp at this;omega
   by_cases Qb:n = 0
   ·rw [if_pos Qb] at JE;subst Qb JE;simp [-qe,-ql,-qo,p0,p1,p2,p3,p4,p11,p12,p13,w1,w2,w3,w4,c1,c2,hneg];exact ⟨0,T2,⟨rfl,rfl⟩,by omega,b2,by omega,W2,O2,E1.trans E2 (NewL.refl _ _),by omega⟩
   ·omega
  ·have jb:nn = ks.length:=by
    have:=Qv ks;rw [this] at qY;simp at qY;omega
   subst jb;by_cases Qb:n = 0
   ·rw [if_pos Qb] at JE;subst Qb JE;simp [-qe,-ql,-qo,p0,p1,p2,p3,p4,p11,p12,p13,qq,w1,w2,w3,w4,c1,c2];exact ⟨0,T2,⟨rfl,rfl⟩,by omega,b2,by omega,W2,O2,E1.trans E2 (NewL.refl _ _),by omega⟩
   ·rw [if_neg Qb] at JE;subst JE;have jf:¬ (n:Int) = 0:=(by omega);have w5':=w5 (by omega);simp [-qe,-ql,-qo,p0,p1,p2,p3,p4,p11,p12,p13,qq,w1,w2,w3,w4,w5',c1,c2,Qb];exact ⟨n,T2,⟨rfl,rfl⟩,by omega,b2,by omega,W2,O2,E1.trans E2 (NewL.refl _ _),by omega⟩
theorem qrC {H T:qd} {q:Nat} {m:Jm} (h:JmW H q m) (k:Kn) {v:D} {L:List Nat} (hr:RowA T 5 v (qk (m.fi ++ [k])) L) (he:Ext m.Lf H T) (hn:NewL m.Lf L H.length):JmW (ql T q (m.cs.set 145 v)) q { m with fi:=m.fi ++ [k],fv:=v,Lf:=L,cs:=m.cs.set 145 v }:=by
 obtain ⟨q1,q2,q3⟩:=J2 h;have hnd:=h.nodup;unfold Jm.names at hnd;simp only [List.nodup_cons,zA,ji,not_or,List.nodup_append] at hnd;obtain ⟨n1,n2,n3,n4,n5⟩:=hnd;have qi:145 < m.cs.length:=by rw [h.len];omega
 have hs:∀ {j:Nat} {y d:D},145≠j→m.cs[j]? = some y→(m.cs.set 145 d)[j]? = some y:=fun hj hy=>Xo hj hy;have hq:=qt h.root;have hbi:=qt h.bytes;have X6:q < T.length:=he.lt hq;have qL:q ∉ L:=fun hc=>(hn q hc).elim q3 (by omega);have bL:m.bi ∉ L:=fun hc=>(hn _ hc).elim n2.2 (by omega);have e2:Ext [q] T (ql T q (m.cs.set 145 v)):=Ext.set _ _ _;have ot:∀ i,i∈m.Ld→i ∉ L:=fun i hi hc=>(hn i hc).elim (fun hd=>n5 i hi i hd rfl) (fun vd=>absurd (h.rowD.lt hi) (by omega));have oL:∀ i,i∈m.Ld→i ∉ m.Lf:=fun i hi hc=>n5 i hi i hc rfl
 have lnd:L.Nodup:=by
  rcases hr with ⟨_,_,rfl⟩ | ⟨r,n,_,_,_,rfl⟩
  ·simp
  ·simp
 exact { h with
  root:=qV X6
  len:=by simp only;rw [vt];exact h.len
  file:=by simp only;rw [List.take_set_of_le (by omega)];exact h.file
  ids:=by
   obtain ⟨a,b,c,e,he⟩:=h.ids;refine ⟨a,b,c,e,?_⟩;simp only;rw [List.drop_set,if_neg (by omega),List.take_set_of_le (by omega)];exact he
  nums:=fun j h1 h2=>by
   obtain ⟨y,hy,hu⟩:=h.nums j h1 h2;exact ⟨y,hs (by omega) hy,hu⟩
  c139:=by obtain ⟨v,hv,zQ⟩:=h.c139;exact ⟨v,hs (by omega) hv,zQ⟩
  c140:=by obtain ⟨v,hv,zQ⟩:=h.c140;exact ⟨v,hs (by omega) hv,zQ⟩
  c141:=by obtain ⟨y,hy,hu⟩:=h.c141;exact ⟨y,hs (by omega) hy,hu⟩
  c142:=by obtain ⟨y,hy,hu⟩:=h.c142;exact ⟨y,hs (by omega) hy,hu⟩
  c48:=hs (by omega) h.c48
  c49:=hs (by omega) h.c49
  c50:=hs (by omega) h.c50
  c51:=hs (by omega) h.c51
  c52:=hs (by omega) h.c52
  c53:=hs (by omega) h.c53
  c54:=hs (by omega) h.c54
  c119:=hs (by omega) h.c119
  c121:=hs (by omega) h.c121
  c122:=hs (by omega) h.c122
  c123:=hs (by omega) h.c123
  c124:=hs (by omega) h.c124
  c127:=hs (by omega) h.c127
  c128:=hs (by omega) h.c128
  c143:=hs (by omega) h.c143
  c144:=hs (by omega) h.c144
  c145:=by simp only;rw [List.getElem?_set_self qi]
  c146:=hs (by omega) h.c146
  free:=XS h.free (fun hi=>by omega)
  bytes:=by rw [qZ q1];exact he.get h.bytes n2.2
  rowF:=hr.ext e2 (fun j hj e=>qL (by rw [← List.mem_singleton.1 e];exact hj))
  rowD:=(h.rowD.ext he (fun j hj=>oL j hj)).ext e2 (fun j hj e=>q2 (by rw [← List.mem_singleton.1 e];exact hj))
  nodup:=by
   unfold Jm.names;simp only [List.nodup_cons,zA,ji,not_or,List.nodup_append];exact ⟨⟨fun e=>q1 e.symm,q2,qL⟩,⟨n2.1,bL⟩,n3,lnd,fun a ha b hb e=>ot a ha (by rw [e];exact hb)⟩ }
theorem qrD {H T:qd} {q:Nat} {m:Jm} (h:JmW H q m) (k:Kn) {v:D} {L:List Nat} (hr:RowA T 5 v (qk (m.da ++ [k])) L) (he:Ext m.Ld H T) (hn:NewL m.Ld L H.length):JmW (ql T q (m.cs.set 144 v)) q { m with da:=m.da ++ [k],dv:=v,Ld:=L,cs:=m.cs.set 144 v }:=by
 obtain ⟨q1,q2,q3⟩:=J2 h;have hnd:=h.nodup;unfold Jm.names at hnd;simp only [List.nodup_cons,zA,ji,not_or,List.nodup_append] at hnd;obtain ⟨n1,n2,n3,n4,n5⟩:=hnd;have qi:144 < m.cs.length:=by rw [h.len];omega
 have hs:∀ {j:Nat} {y d:D},144≠j→m.cs[j]? = some y→(m.cs.set 144 d)[j]? = some y:=fun hj hy=>Xo hj hy;have hq:=qt h.root;have hbi:=qt h.bytes;have X6:q < T.length:=he.lt hq;have qL:q ∉ L:=fun hc=>(hn q hc).elim q2 (by omega);have bL:m.bi ∉ L:=fun hc=>(hn _ hc).elim n2.1 (by omega);have e2:Ext [q] T (ql T q (m.cs.set 144 v)):=Ext.set _ _ _;have ot:∀ i,i∈m.Lf→i ∉ L:=fun i hi hc=>(hn i hc).elim (fun hd=>n5 i hd i hi rfl) (fun vd=>absurd (h.rowF.lt hi) (by omega));have oL:∀ i,i∈m.Lf→i ∉ m.Ld:=fun i hi hc=>n5 i hc i hi rfl
 have lnd:L.Nodup:=by
  rcases hr with ⟨_,_,rfl⟩ | ⟨r,n,_,_,_,rfl⟩
  ·simp
  ·simp
 exact { h with
  root:=qV X6
  len:=by simp only;rw [vt];exact h.len
  file:=by simp only;rw [List.take_set_of_le (by omega)];exact h.file
  ids:=by
   obtain ⟨a,b,c,e,he⟩:=h.ids;refine ⟨a,b,c,e,?_⟩;simp only;rw [List.drop_set,if_neg (by omega),List.take_set_of_le (by omega)];exact he
  nums:=fun j h1 h2=>by
   obtain ⟨y,hy,hu⟩:=h.nums j h1 h2;exact ⟨y,hs (by omega) hy,hu⟩
  c139:=by obtain ⟨v,hv,zQ⟩:=h.c139;exact ⟨v,hs (by omega) hv,zQ⟩
  c140:=by obtain ⟨v,hv,zQ⟩:=h.c140;exact ⟨v,hs (by omega) hv,zQ⟩
  c141:=by obtain ⟨y,hy,hu⟩:=h.c141;exact ⟨y,hs (by omega) hy,hu⟩
  c142:=by obtain ⟨y,hy,hu⟩:=h.c142;exact ⟨y,hs (by omega) hy,hu⟩
  c48:=hs (by omega) h.c48
  c49:=hs (by omega) h.c49
  c50:=hs (by omega) h.c50
  c51:=hs (by omega) h.c51
  c52:=hs (by omega) h.c52
  c53:=hs (by omega) h.c53
  c54:=hs (by omega) h.c54
  c119:=hs (by omega) h.c119
  c121:=hs (by omega) h.c121
  c122:=hs (by omega) h.c122
  c123:=hs (by omega) h.c123
  c124:=hs (by omega) h.c124
  c127:=hs (by omega) h.c127
  c128:=hs (by omega) h.c128
  c143:=hs (by omega) h.c143
  c144:=by simp only;rw [List.getElem?_set_self qi]
  c145:=hs (by omega) h.c145
  c146:=hs (by omega) h.c146
  free:=XS h.free (fun hi=>by omega)
  bytes:=by rw [qZ q1];exact he.get h.bytes n2.1
  rowD:=hr.ext e2 (fun j hj e=>qL (by rw [← List.mem_singleton.1 e];exact hj))
  rowF:=(h.rowF.ext he (fun j hj=>oL j hj)).ext e2 (fun j hj e=>q3 (by rw [← List.mem_singleton.1 e];exact hj))
  nodup:=by
   unfold Jm.names;simp only [List.nodup_cons,zA,ji,not_or,List.nodup_append];exact ⟨⟨fun e=>q1 e.symm,qL,q3⟩,⟨bL,n2.2⟩,lnd,n4,fun a ha b hb e=>ot b hb (by rw [← e];exact ha)⟩ }
structure JGrow (H T:qd) (q:Nat) (m m':Jm):Prop where
 w:JmW T q m'
 ok:m'.Ok
 ext:Ext (m.names q) H T
 new:NewL (m.names q) (m'.names q) H.length
 ds:m'.ds = m.ds
 fs:m'.fs = m.fs
 key:m'.key = m.key
 file:m'.file = m.file
 ft:m'.ft = m.ft
 ne:m'.ne = m.ne
 tl:m'.tl = m.tl
 mn:m'.mn = m.mn
 main:m'.main = m.main
 bl:m.b.length≤m'.b.length
theorem JGrow.refl {H:qd} {q:Nat} {m:Jm} (h:JmW H q m) (hk:m.Ok):JGrow H H q m m:=⟨h,hk,Ext.refl _ _,NewL.refl _ _,rfl,rfl,rfl,rfl,rfl,rfl,rfl,rfl,rfl,qv _⟩
theorem Va {H T:qd} {q:Nat} {m:Jm} (h:JmW H q m) (he:Ext [] H T):JmW T q m :=
 { h with
  root:=he.get h.root (by simp)
  bytes:=he.get h.bytes (by simp)
  rowD:=h.rowD.ext he (fun _ _=>by simp)
  rowF:=h.rowF.ext he (fun _ _=>by simp) }
theorem Jb {m:Jm} {q:Nat}:q∈m.names q:=by simp [Jm.names]
theorem J0 {m:Jm} {q:Nat}:m.bi∈m.names q:=by simp [Jm.names]
theorem qis {m:Jm} {q i:Nat} (h:i∈m.Lf):i∈m.names q:=by simp [Jm.names,h]
theorem qdl {m:Jm} {q i:Nat} (h:i∈m.Ld):i∈m.names q:=by simp [Jm.names,h]
set_option maxHeartbeats 8000000 in
set_option maxRecDepth 10000 in
theorem qrG [MaxL] [TxtC] {H:qd} {q:Nat} {m:Jm} (h:JmW H q m) (hk:m.Ok) (name:List UInt8) (hn:name.length≤1000) (Zl:m.b.length+2000≤1000000) (jZ:m.fi.length < 1000) :
  ∃ T m' a,call cx 114 [.optr q 147 0,.str name] H = some (.int .u64 (a:Nat),T)∧JGrow H T q m m'∧a+40≤m'.b.length∧m'.b.length≤m.b.length+(47+name.length)∧m'.da = m.da∧m'.fi.length≤m.fi.length+1:=by
 suffices hs:∃ r,call cx 114 [.optr q 147 0,.str name] H = some r∧∃ (a:Nat) (T:qd) (m':Jm),r = (.int .u64 (a:Nat),T)∧JGrow H T q m m'∧a+40≤m'.b.length∧m'.b.length≤m.b.length+(47+name.length)∧m'.da = m.da∧m'.fi.length≤m.fi.length+1 by
  obtain ⟨r,hc,a,T,m',rfl,h1⟩:=hs;exact ⟨T,m',a,hc,h1⟩
 refine Zt (X:=cx) (f:=114) _ Tryz.func114 rfl ⟨rfl,rfl⟩ ?_;have r0:=h.root;have qY:=h.len;have c5:=zD h.c145
 have hlen:zj Tryz.prog 118 m.fv = some (.int .i64 m.fi.length):=by
  have zJ:=Qv m.fi;rcases h.rowF with ⟨hv,VD,_⟩ | ⟨ro,nn,hv,Q9,_,_⟩
  ·rw [VD] at zJ;have:m.fi.length = 0:=(by simp at zJ;omega);rw [hv,this];simp
  ·have:nn = m.fi.length:=by
    rw [zJ] at Q9;simp at Q9;omega
   rw [hv,this];simp
 simp [-qe,-ql,-qo,-zj,-qM,Tryz.f114];refine Run.loopThen (fun (i:Nat) e K=>i≤m.fi.length∧qg e 0 = some (.optr q 147 0)∧qg e 1 = some (.str name)∧qg e 5 = some (.int .i64 i)∧K = H) (fun i=>m.fi.length - i) 0 ?_ ?_
 ·exact ⟨vf _,by simp,by simp,by simp,rfl⟩
 rintro i e K ⟨hi,p0,p1,p5,rfl⟩;by_cases qi:i < m.fi.length
 ·have qq:(i:Int) < (m.fi.length:Int):=by omega
  have hw:IntKind.i64.wrap ((i:Int)+1) = ((i+1:Nat):Int):=by rw [wrap_i64] <;> omega
  obtain ⟨k,r,Ji,jU,vc,Qt,zN⟩:=Y1 qi;have hka:=hk.fi k Ji;have qH:qk m.fi≠[]:=fun e0=>by rw [e0] at jU;simp at jU
  obtain ⟨ro,nn,hfv,vH,Qq,hLf⟩:=h.rowF.own qH
  have jb:nn = m.fi.length:=by
   have:=Qv m.fi;rw [this] at vH;simp at vH;omega
  have zJ:(qk m.fi).length = m.fi.length * 5:=by rw [vH,jb]
  rw [jb] at hfv;rw [hfv] at c5;by_cases ht:k.text = name
  ·simp [-qe,-ql,-qo,-Kn.ea,p0,p1,p5,r0,qY,c5,qq,Qq,zJ,jU,Qt,ht];exact ⟨k.at_,K,⟨rfl,rfl⟩,m,JGrow.refl h hk,hka.at_,by omega,rfl,by omega⟩
  ·simp [-qe,-ql,-qo,-Kn.ea,p0,p1,p5,r0,qY,c5,qq,hw,Qq,zJ,jU,ht];exact ⟨i+1,by omega,by omega,by omega⟩
 ·have qq:¬ (i:Int) < (m.fi.length:Int):=by omega
  have hfs:=hk.fs;have hft:=hk.ft;have jG:=hk.bl;obtain ⟨qh,Zk,xh,QP,rfl⟩:=qfh m.key m.file (Sl.mk false name (by simp)) (by simp only;omega);unfold zH at QP;obtain ⟨xn,rfl⟩:∃ xn:Nat,xh = (xn:Int):=⟨xh.toNat,by omega⟩;have hxn:xn < 18446744073709551616:=by omega
  replace Zk:call cx 78 [.bool m.key,.agg (qf m.file.l),.vsl false (qf name) name.length] [] = some (.int .u64 (xn:Int),[]):=Zk;obtain ⟨qp,hpf,tb,htb,rfl⟩:=qny xn 0 0 hxn (by omega) (by omega) false name (by omega);replace hpf:call cx 158 [.agg [.int .u64 (xn:Int),.int .u64 0,.int .u64 0,.vsl false (qf name) name.length]] [] = some (.vsl false (qf tb) tb.length,[]):=hpf;have ha8:=qeg (40+name.length);obtain ⟨K0,vm⟩:∃ T,qo K (qf name) = T:=⟨_,rfl⟩;have g0:qe K0 K.length = some (qf name):=by rw [← vm,qN]
  obtain ⟨K1,jv⟩:∃ T,jq K0 [K.length] = T:=⟨_,rfl⟩
  have x1:Ext [] K K1:=by
   refine ⟨?_,fun j hj _=>?_⟩
   ·rw [← jv,Qk,← vm,zG];omega
   ·rw [← jv,Xi (by simp;omega),← vm,jF hj]
  have w1:=Va h x1;obtain ⟨K2,cs2,hob,w2,o2,x2,l2⟩:=qdx w1 hk tb (by omega) (by omega);obtain ⟨m2,qW⟩:∃ x,x = ({ m with b:=m.b ++ tb,cs:=cs2 }:Jm):=⟨_,rfl⟩;rw [← qW] at w2 o2;have m2b:m2.b.length = m.b.length+tb.length:=by rw [qW];simp
  have m2f:m2.fi = m.fi:=by rw [qW]
  have m2v:m2.fv = m.fv:=by rw [qW]
  have m2c:m2.cs = cs2:=by rw [qW]
  have m2s:m2.fs = m.fs:=by rw [qW]
  have m2t:m2.ft = m.ft:=by rw [qW]
  obtain ⟨sl,ko⟩:∃ s,s = xn % m.fs:=⟨_,rfl⟩;have hslt:sl < m.fs:=by rw [ko];exact Yf _ (by omega)
  obtain ⟨K3,b3,r,hha,hr,hb3,w3,o3,x3,l3⟩:=qiP w2 o2 (v:=m2.fv) (ks:=m2.fi) w2.rowF (fun k ZB=>by
   rw [m2f] at ZB;have:=(hk.fi k ZB).at_;omega) (by rw [m2f];omega) m.ft m.b.length sl (by omega) (by omega)
  rw [m2v] at hha;have rt2:qe K2 q = some cs2:=by rw [← m2c];exact w2.root
  have cl2:cs2.length = 147:=by rw [← m2c];exact w2.len
  have d49:=zD w2.c49;have d142a:=w3.c142;have d123:=zD w2.c123;have d145:=zD w2.c145;rw [m2c,m2s] at d49;rw [m2c,m2t] at d123;rw [m2c,m2v] at d145;simp only [m2c] at d142a;obtain ⟨_,hd142,dv,rfl,XL⟩:=d142a;have d142:=zD hd142;have rt3:qe K3 q = some cs2:=by rw [← m2c];exact w3.root
  have k3q:∀ C,qe (ql K3 q C) q = some C:=fun C=>qV (qt rt3);obtain ⟨mx,hmx2⟩:∃ z:Nat,z = max dv r:=⟨_,rfl⟩
  have hmxI:(if (dv:Int) < (r:Int) then (r:Int) else (dv:Int)) = (mx:Int):=by
   rw [hmx2];split <;> omega
  have hmxN:(if dv < r then (r:Int) else (dv:Int)) = (mx:Int):=by
   rw [hmx2];split <;> omega
  have w4:=Vb w3 (i:=142) rfl (d:=.int .u64 (mx:Int)) ⟨mx,rfl,by omega⟩;simp only [m2c] at w4;obtain ⟨C4,Xc⟩:∃ C,C = cs2.set 142 (.int .u64 (mx:Int)):=⟨_,rfl⟩;have s142:List.take 142 cs2 ++ D.int .u64 (mx:Int) :: List.drop 143 cs2 = C4:=by rw [Xc];exact jo (by omega)
  rw [← Xc] at w4;have l4:C4.length = 147:=w4.len;obtain ⟨_,hd16,v16,rfl,hv16⟩:=w4.nums 135 (by omega) (by omega);have d135:=zD hd16;simp only at d135;have hz16:=qan ((v16:Int)+1);unfold zH at hz16;obtain ⟨z16,hz⟩:∃ z:Nat,IntKind.u64.wrap ((v16:Int)+1) = (z:Int):=⟨(IntKind.u64.wrap ((v16:Int)+1)).toNat,by rw [Int.toNat_of_nonneg hz16.1]⟩;have w5:=Vb w4 (i:=135) rfl (d:=.int .u64 (z16:Int)) ⟨z16,rfl,by omega⟩;simp only [kp] at w5;obtain ⟨C5,Zs⟩:∃ C,C = C4.set 135 (.int .u64 (z16:Int)):=⟨_,rfl⟩;have s135:List.take 135 C4 ++ D.int .u64 (z16:Int) :: List.drop 136 C4 = C5:=by rw [Zs];exact jo (by omega)
  rw [← Zs] at w5;have l5:C5.length = 147:=w5.len;have d145b:=zD w5.c145;simp only [m2v] at d145b;obtain ⟨K5,jP⟩:∃ T,ql K3 q C5 = T:=⟨_,rfl⟩;rw [jP] at w5;have rt5:qe K5 q = some C5:=w5.root;obtain ⟨K6,vz⟩:∃ T,qo K5 [.str name,.int .u64 (m.b.length:Nat),.int .i64 (sl:Nat),.int .i64 0,.vsl true [] 0] = T:=⟨_,rfl⟩;have x6:Ext [] K5 K6:=vz ▸ Ext.new K5 _;have w6:=Va w5 x6;have g6:qe K6 K5.length = some [.str name,.int .u64 (m.b.length:Nat),.int .i64 (sl:Nat),.int .i64 0,.vsl true [] 0]:=by rw [← vz,qN]
  have rt6:qe K6 q = some C5:=w6.root;obtain ⟨p6,hp6⟩:∃ p,K5.length = p:=⟨_,rfl⟩;rw [hp6] at g6;have row6:=w6.rowF;simp only [m2f,m2v] at row6;have hel6:=Qv m.fi;simp only [Kn.size] at hel6;obtain ⟨v',K7,L7,hA,hR7,x7,n7⟩:=row6.append (P:=Tryz.prog) (st:=118) (xt:=118) (e:=157) (x:=.osl p6 5 0 1 5) (xs:=[.str name,.int .u64 (m.b.length:Nat),.int .i64 (sl:Nat),.int .i64 0,.vsl true [] 0]) (m:=1) (by simp) (by simp) (by simp [-qe,g6]) (by simp) (by omega) (by simp) (by omega) (by rw [hel6];simp [qw];omega) (by rw [hel6];simp [qw];omega);obtain ⟨kn,Qo⟩:∃ k:Kn,k = ⟨name,m.b.length,sl,0,true,[]⟩:=⟨_,rfl⟩
  have hcells:qk (m.fi ++ [kn]) = qk m.fi ++ [.str name,.int .u64 (m.b.length:Nat),.int .i64 (sl:Nat),.int .i64 0,.vsl true [] 0]:=by
   rw [qdO,Qo];rfl
  rw [← hcells] at hR7;have x7':Ext m2.Lf K6 K7:=x7;have w8:=qrC w6 kn (v:=v') (L:=L7) (by simp only [m2f];exact hR7) x7' n7;simp only [m2f] at w8
  have rt7:qe K7 q = some C5:=x7'.get rt6 (by
   have:=(J2 w6).2.2;exact this)
  obtain ⟨r7,k7,hv7,-,hg7,hL7⟩:=hR7.own (by rw [hcells];simp);obtain ⟨z7,hz7⟩:∃ z,z = (qk (m.fi ++ [kn])).length:=⟨_,rfl⟩;rw [← hz7] at hv7;have hlt7:r7 < K7.length:=qt hg7;subst hv7;obtain ⟨C8,XO⟩:∃ C,C = C5.set 145 (D.osl r7 z7 0 k7 5):=⟨_,rfl⟩;have s145:List.take 145 C5 ++ D.osl r7 z7 0 k7 5 :: List.drop 146 C5 = C8:=by rw [XO];exact jo (by omega)
  rw [← XO] at w8;have e1:=zD h.c51;have e2:=h.file;have cfs:IntKind.u64.wrap (m.fs:Int) = (m.fs:Int):=by rw [qF] <;> omega
  have cfs0:¬ (m.fs:Int) = 0:=by omega
  have cfsN:¬ m.fs = 0:=by omega
  have hle23:K2.length≤K3.length:=by omega
  have ctm:(xn:Int).tmod (m.fs:Int) = (sl:Int):=by
   rw [ko,Int.tmod_eq_emod_of_nonneg (Int.natCast_nonneg _)];rfl
  have csl:IntKind.i64.wrap (sl:Int) = (sl:Int):=by rw [wrap_i64] <;> omega
  have csu:IntKind.u64.wrap (sl:Int) = (sl:Int):=by rw [qF] <;> omega
  have YR:List.set K0 K.length none = K1:=jv;simp [-qe,-ql,-qo,-zj,-qM,-Kn.ea,p0,p1,p5,r0,qY,c5,hlen,qq,e1,e2,Zk,vm,g0,YR,hpf,hob,rt2,cl2,d49,cfs,cfsN,ctm,csl,d145,d123,d142,hha,rt3,k3q,hmxN,s142,l4,d135,hz,s135,l5,d145b,kp,jP,rt5,vz,hp6,hA,rt7,hlt7,s145,hle23];have exq:∀ {A B:qd} {L:List Nat},Ext L A B→(∀ i,i∈L→i∈m.names q)→Ext (m.names q) A B:=fun hh hm=>hh.mono hm;have y1:=exq x1 (fun _ hi=>by simp at hi)
  have y2:=exq x2 (fun i hi=>by
   simp only [zA,List.not_mem_nil,or_false] at hi;rcases hi with rfl | rfl
   ·exact Jb
   ·exact J0)
  have y3:=exq x3 (fun i hi=>by
   have:m2.bi = m.bi:=(by rw [qW]);rw [List.mem_singleton.1 hi,this];exact J0)
  have y5:Ext (m.names q) K3 K5:=jP ▸ exq (Ext.set K3 q C5) (fun i hi=>by rw [List.mem_singleton.1 hi];exact Jb);have y6:=exq x6 (fun _ hi=>by simp at hi)
  have y7:=exq x7' (fun i hi=>by
   have:m2.Lf = m.Lf:=(by rw [qW]);rw [this] at hi;exact qis hi)
  have y8:=exq (Ext.set K7 q C8) (fun i hi=>by rw [List.mem_singleton.1 hi];exact Jb);have y:=(((((y1.trans y2 (NewL.refl _ _)).trans y3 (NewL.refl _ _)).trans y5 (NewL.refl _ _)).trans y6 (NewL.refl _ _)).trans y7 (NewL.refl _ _)).trans y8 (NewL.refl _ _);refine ⟨m.b.length,_,⟨rfl,rfl⟩,_,⟨w8,?_,y,?_,?_,?_,?_,?_,?_,?_,?_,?_,?_,?_⟩,?_,?_,?_,?_⟩
  ·exact { o3 with
    fi:=fun k ZB=>by
     rcases List.mem_append.1 ZB with h1 | h1
     ·have z:=(hk.fi k h1).mono (show m.b.length≤b3.length by omega);exact ⟨z.at_,by simp only [m2s];exact z.slot⟩
     ·rw [List.mem_singleton.1 h1,Qo];exact ⟨by simp only;omega,by simp only [m2s];exact hslt⟩
    nfi:=by simp only;rw [qX,List.length_singleton];omega }
  ·intro i hi;have b1:m2.bi = m.bi:=(by rw [qW]);have b2:m2.Ld = m.Ld:=(by rw [qW]);have b4:m2.Lf = m.Lf:=(by rw [qW]);have hlen1:=x1.len;simp only [Jm.names,b1,b2,zA,ji] at hi ⊢;rcases hi with hi | hi | hi | hi
   ·exact .inl (.inl hi)
   ·exact .inl (.inr (.inl hi))
   ·exact .inl (.inr (.inr (.inl hi)))
   ·rcases n7 i hi with h1 | h1
    ·exact .inl (.inr (.inr (.inr (by rw [← b4];exact h1))))
    ·have:=x6.len;have l5':K5.length = K3.length:=(by rw [← jP];simp [ql]);exact .inr (by omega)
  all_goals first
   | (subst qW;rfl)
   | (simp only;omega)
   | (simp only;rw [qW])
   | (simp only;rw [qX,List.length_singleton];omega)
set_option maxHeartbeats 1000000 in
theorem qty [MaxL] [TxtC] (b:List UInt8) (a:Nat) (ha:a+8≤b.length) (hl:b.length≤1000000):∃ v:Nat,v < 18446744073709551616∧call cx 115 [.vsl false (qf b) b.length,.int .i64 a,.int .i64 8] [] = some (.tup [.int .u64 (v:Int),.bool true],[]):=by
 suffices hs:∃ r,call cx 115 [.vsl false (qf b) b.length,.int .i64 a,.int .i64 8] [] = some r∧∃ v:Int,zH v∧r = (.tup [.int .u64 v,.bool true],[]) by
  obtain ⟨r,hc,v,hv,rfl⟩:=hs;unfold zH at hv;exact ⟨v.toNat,by omega,by rw [hc,Int.toNat_of_nonneg hv.1]⟩
 refine Jt (X:=cx) (f:=115) _ Tryz.func115 rfl ⟨rfl,rfl⟩ ?_;have a0:¬ (a:Int) < 0:=by omega
 have a1:¬ (b.length:Int) < (a:Int):=by omega
 have a2:IntKind.i64.wrap ((b.length:Int) - (a:Int)) = ((b.length - a:Nat):Int):=by rw [wrap_i64] <;> omega
 obtain ⟨z,hz⟩:∃ z,z = b.length - a:=⟨_,rfl⟩;rw [← hz] at a2;have a3:¬ (z:Int) < 8:=by omega
 simp [Tryz.f115,a0,a1,a2,a3];refine Run.loopThen (fun (k:Nat) e H=>k≤8∧qg e 0 = some (.vsl false (qf b) b.length)∧qg e 1 = some (.int .i64 a)∧qg e 9 = some (.int .i64 ((k:Int) - 1))∧H = []∧∃ v,zH v∧qg e 8 = some (.int .u64 v)) (fun k=>k) 8 ?_ ?_
 ·exact ⟨by omega,by simp,by simp,by simp,rfl,0,by unfold zH;omega,by simp⟩
 rintro k e H ⟨hk,p0,p1,p9,rfl,v,hv,p8⟩;by_cases h0:k = 0
 ·subst h0;simp [p0,p1,p8,p9];exact hv
 ·obtain ⟨j,rfl⟩:∃ j,k = j+1:=⟨k - 1,by omega⟩;replace p9:qg e 9 = some (.int .i64 (j:Int)):=by rw [p9];congr 3;omega
  have j0:¬ (j:Int) < 0:=by omega
  have j1:(0:Int)≤(j:Int):=by omega
  obtain ⟨y,hy⟩:∃ y,y = a+j:=⟨_,rfl⟩;have w1:IntKind.i64.wrap ((a:Int)+(j:Int)) = (y:Int):=by rw [wrap_i64] <;> omega
  have w2:IntKind.i64.wrap ((j:Int) - 1) = ((j:Nat):Int) - 1:=by rw [wrap_i64] <;> omega
  have y1:y < b.length:=by omega
  have y2:(y:Int) < (b.length:Int):=by omega
  have hd:(qf b).drop y = .int .u8 (b[y].toNat:Int) :: (qf b).drop (y+1):=by
   rw [vR (by simpa using y1)];simp [qf]
  generalize b[y] = c at *;simp [p0,p1,p8,p9,j1,w1,w2,y2,hd];exact ⟨j,by omega,by omega,rfl,qan _⟩
theorem JGrow.trans {H T U:qd} {q:Nat} {m m' m'':Jm} (h:JGrow H T q m m') (h2:JGrow T U q m' m''):JGrow H U q m m'' :=
 ⟨h2.w,h2.ok,h.ext.trans h2.ext h.new,h.new.trans h2.new h.ext.len,h2.ds.trans h.ds,h2.fs.trans h.fs,h2.key.trans h.key,h2.file.trans h.file,h2.ft.trans h.ft,h2.ne.trans h.ne,h2.tl.trans h.tl,h2.mn.trans h.mn,h2.main.trans h.main,jA h.bl h2.bl⟩
theorem Yx {H:qd} {q:Nat} {m:Jm} (h:JmW H q m) {i:Nat} (hi:i∈m.names q):i < H.length:=by
 simp only [Jm.names,zA,ji] at hi;rcases hi with rfl | rfl | hi | hi
 ·exact qt h.root
 ·exact qt h.bytes
 ·exact h.rowD.lt hi
 ·exact h.rowF.lt hi
theorem qhN {p:Pr}:(Jy p).length = p.name.length+1+p.value.length:=by unfold Jy;simp;omega
set_option maxHeartbeats 8000000 in
set_option maxRecDepth 10000 in
theorem qsn [MaxL] [TxtC] {H:qd} {q:Nat} {m:Jm} (h0:JmW H q m) (hk:m.Ok) (p:Pr) (vx:p.name.length≤300) (J9:p.value.length≤300) (Zl:m.b.length+5000≤1000000) (jZ:m.fi.length < 1000) (hnda:m.da.length < 1000) :
  ∃ T m' i,call cx 77 [.optr q 147 0,.agg (Enc.cells p)] H = some (.int .i64 (i:Nat),T)∧JGrow H T q m m'∧i < m'.da.length∧m'.b.length≤m.b.length+(119+2 * p.name.length+p.value.length)∧m'.da.length≤m.da.length+1∧m'.fi.length≤m.fi.length+1∧m.da.length≤m'.da.length∧∀ k,k∈m'.da→k∈m.da∨k.cnt = 0:=by
 suffices hs:∃ r,call cx 77 [.optr q 147 0,.agg (Enc.cells p)] H = some r∧∃ (i:Nat) (T:qd) (m':Jm),r = (.int .i64 (i:Nat),T)∧JGrow H T q m m'∧i < m'.da.length∧m'.b.length≤m.b.length+(119+2 * p.name.length+p.value.length)∧m'.da.length≤m.da.length+1∧m'.fi.length≤m.fi.length+1∧m.da.length≤m'.da.length∧∀ k,k∈m'.da→k∈m.da∨k.cnt = 0 by
  obtain ⟨r,hc,a,T,m',rfl,h1⟩:=hs;exact ⟨T,m',a,hc,h1⟩
 refine Zt (X:=cx) (f:=77) _ Tryz.func77 rfl ⟨rfl,rfl⟩ ?_;obtain ⟨name,X9⟩:∃ t,Jy p = t:=⟨_,rfl⟩
 have hn:name.length≤1000:=by
  have:=qhN (p:=p);rw [X9] at this;omega
 have hnx:name.length = p.name.length+1+p.value.length:=by rw [← X9];exact qhN
 have hpay:=qde p (by omega) (by omega);rw [X9] at hpay;have hEp:(Enc.cells p:List D) = [.str p.name,.str p.value]:=rfl;rw [hEp] at hpay;obtain ⟨H1,hH1⟩:∃ T,qo H [.str p.name,.str p.value] = T:=⟨_,rfl⟩;have xb:Ext [] H H1:=hH1 ▸ Ext.new H _;have gb:qe H1 H.length = some [.str p.name,.str p.value]:=by rw [← hH1,qN]
 have h:=Va h0 xb;have ygr:JGrow H H1 q m m:=⟨h,hk,xb.mono (fun _ hi=>by simp at hi),NewL.refl _ _,rfl,rfl,rfl,rfl,rfl,rfl,rfl,rfl,rfl,qv _⟩;have r0:=h.root;have qY:=h.len;have c5:=zD h.c144
 have hlen:zj Tryz.prog 118 m.dv = some (.int .i64 m.da.length):=by
  have zJ:=Qv m.da;rcases h.rowD with ⟨hv,VD,_⟩ | ⟨ro,nn,hv,Q9,_,_⟩
  ·rw [VD] at zJ;have:m.da.length = 0:=(by simp at zJ;omega);rw [hv,this];simp
  ·have:nn = m.da.length:=by
    rw [zJ] at Q9;simp at Q9;omega
   rw [hv,this];simp
 simp [-qe,-ql,-qo,-zj,-qM,Tryz.f77,hEp,hH1,hpay,gb];obtain ⟨pb,YA⟩:∃ x,x = H.length:=⟨_,rfl⟩;rw [← YA] at gb ⊢;refine Run.loopThen (fun (i:Nat) e K=>i≤m.da.length∧qg e 0 = some (.optr q 147 0)∧qg e 3 = some (.optr pb 2 0)∧qg e 5 = some (.str name)∧qg e 6 = some (.int .i64 i)∧K = H1) (fun i=>m.da.length - i) 0 ?_ ?_
 ·exact ⟨vf _,by simp,by simp,by simp,by simp,rfl⟩
 rintro i e K ⟨hi,p0,p3,p5,pv6,rfl⟩;by_cases qi:i < m.da.length
 ·have qq:(i:Int) < (m.da.length:Int):=by omega
  have hw:IntKind.i64.wrap ((i:Int)+1) = ((i+1:Nat):Int):=by rw [wrap_i64] <;> omega
  obtain ⟨k,r,Ji,jU,vc,Qt,zN⟩:=Y1 qi;have qH:qk m.da≠[]:=fun e0=>by rw [e0] at jU;simp at jU
  obtain ⟨ro,nn,hfv,vH,Qq,hLf⟩:=h.rowD.own qH
  have jb:nn = m.da.length:=by
   have:=Qv m.da;rw [this] at vH;simp at vH;omega
  have zJ:(qk m.da).length = m.da.length * 5:=by rw [vH,jb]
  rw [jb] at hfv;rw [hfv] at c5;by_cases ht:k.text = name
  ·simp [-qe,-ql,-qo,-Kn.ea,p0,p3,p5,pv6,r0,qY,c5,qq,Qq,zJ,jU,ht];exact ⟨i,K,⟨rfl,rfl⟩,m,ygr,qi,by omega,by omega,by omega,qv _,fun k h=>.inl h⟩
  ·simp [-qe,-ql,-qo,-Kn.ea,p0,p3,p5,pv6,r0,qY,c5,qq,hw,Qq,zJ,jU,ht];exact ⟨i+1,by omega,by omega,by omega⟩
 ·have qq:¬ (i:Int) < (m.da.length:Int):=by omega
  have JD:=hk.ds;have hft:=hk.ft;have jG:=hk.bl;obtain ⟨qh,Zk,xh,QP,rfl⟩:=qfh m.key m.file (Sl.mk false name (by simp)) (by simp only;omega);unfold zH at QP;obtain ⟨xn,rfl⟩:∃ xn:Nat,xh = (xn:Int):=⟨xh.toNat,by omega⟩;have hxn:xn < 18446744073709551616:=by omega
  replace Zk:call cx 78 [.bool m.key,.agg (qf m.file.l),.vsl false (qf name) name.length] [] = some (.int .u64 (xn:Int),[]):=Zk;obtain ⟨qp,hpf,tb,htb,rfl⟩:=qn1 xn 0 0 0 0 0 hxn (by omega) (by omega) (by omega) (by omega) (by omega) false name (by omega);replace hpf:call cx 112 [.agg [.int .u64 (xn:Int),.int .u64 0,.int .u64 0,.int .u64 0,.int .u64 0,.int .u64 0,.vsl false (qf name) name.length]] [] = some (.vsl false (qf tb) tb.length,[]):=hpf;have ha8:=qeg (64+name.length);obtain ⟨K0,vm⟩:∃ T,qo K (qf name) = T:=⟨_,rfl⟩;have g0:qe K0 K.length = some (qf name):=by rw [← vm,qN]
  obtain ⟨K1,jv⟩:∃ T,jq K0 [K.length] = T:=⟨_,rfl⟩
  have x1:Ext [] K K1:=by
   refine ⟨?_,fun j hj _=>?_⟩
   ·rw [← jv,Qk,← vm,zG];omega
   ·rw [← jv,Xi (by simp;omega),← vm,jF hj]
  have w1:=Va h x1;obtain ⟨K2,cs2,hob,w2,o2,x2,l2⟩:=qdx w1 hk tb (by omega) (by omega);obtain ⟨m2,qW⟩:∃ x,x = ({ m with b:=m.b ++ tb,cs:=cs2 }:Jm):=⟨_,rfl⟩;rw [← qW] at w2 o2;have m2b:m2.b.length = m.b.length+tb.length:=by rw [qW];simp
  have m2dD:m2.da = m.da:=by rw [qW]
  have m2vD:m2.dv = m.dv:=by rw [qW]
  have m2c:m2.cs = cs2:=by rw [qW]
  have m2s:m2.ds = m.ds:=by rw [qW]
  obtain ⟨sl,ko⟩:∃ s,s = xn % m.ds:=⟨_,rfl⟩;have hslt:sl < m.ds:=by rw [ko];exact Yf _ (by omega)
  obtain ⟨K3,b3,r,hha,hr,hb3,w3,o3,x3,l3⟩:=qiP w2 o2 (v:=m2.dv) (ks:=m2.da) w2.rowD (fun k ZB=>by
   rw [m2dD] at ZB;have:=(hk.da k ZB).at_;omega) (by rw [m2dD];omega) 288 m.b.length sl (by omega) (by omega)
  rw [m2vD,show ((288:Nat):Int) = 288 from rfl] at hha;have rt2:qe K2 q = some cs2:=by rw [← m2c];exact w2.root
  have cl2:cs2.length = 147:=by rw [← m2c];exact w2.len
  have d48:=zD w2.c48;have d121:=zD w2.c121;have d144:=zD w2.c144;rw [m2c,m2s] at d48;rw [m2c] at d121;rw [m2c,m2vD] at d144;obtain ⟨_,hd138,dv,rfl,XL⟩:=w3.nums 138 (by omega) (by omega);simp only [m2c] at hd138;have d138:=zD hd138;have rt3:qe K3 q = some cs2:=by rw [← m2c];exact w3.root
  have k3q:∀ C,qe (ql K3 q C) q = some C:=fun C=>qV (qt rt3);obtain ⟨mx,hmx2⟩:∃ z:Nat,z = max dv r:=⟨_,rfl⟩
  have hmxI:(if (dv:Int) < (r:Int) then (r:Int) else (dv:Int)) = (mx:Int):=by
   rw [hmx2];split <;> omega
  have hmxN:(if dv < r then (r:Int) else (dv:Int)) = (mx:Int):=by
   rw [hmx2];split <;> omega
  have w4:=Vb w3 (i:=138) rfl (d:=.int .u64 (mx:Int)) ⟨mx,rfl,by omega⟩;simp only [m2c] at w4;obtain ⟨C4,Xc⟩:∃ C,C = cs2.set 138 (.int .u64 (mx:Int)):=⟨_,rfl⟩;have s138:List.take 138 cs2 ++ D.int .u64 (mx:Int) :: List.drop 139 cs2 = C4:=by rw [Xc];exact jo (by omega)
  rw [← Xc] at w4;have l4:C4.length = 147:=w4.len;obtain ⟨_,hd16,v16,rfl,hv16⟩:=w4.nums 134 (by omega) (by omega);have d134:=zD hd16;simp only at d134;have hz16:=qan ((v16:Int)+1);unfold zH at hz16;obtain ⟨z16,hz⟩:∃ z:Nat,IntKind.u64.wrap ((v16:Int)+1) = (z:Int):=⟨(IntKind.u64.wrap ((v16:Int)+1)).toNat,by rw [Int.toNat_of_nonneg hz16.1]⟩;have w5:=Vb w4 (i:=134) rfl (d:=.int .u64 (z16:Int)) ⟨z16,rfl,by omega⟩;simp only [kp] at w5;obtain ⟨C5,Zs⟩:∃ C,C = C4.set 134 (.int .u64 (z16:Int)):=⟨_,rfl⟩;have s134:List.take 134 C4 ++ D.int .u64 (z16:Int) :: List.drop 135 C4 = C5:=by rw [Zs];exact jo (by omega)
  rw [← Zs] at w5;have l5:C5.length = 147:=w5.len;have d144b:=zD w5.c144;simp only [m2vD] at d144b;obtain ⟨K5,jP⟩:∃ T,ql K3 q C5 = T:=⟨_,rfl⟩;rw [jP] at w5;have rt5:qe K5 q = some C5:=w5.root;obtain ⟨K6,vz⟩:∃ T,qo K5 [.str name,.int .u64 (m.b.length:Nat),.int .i64 (sl:Nat),.int .i64 0,.vsl true [] 0] = T:=⟨_,rfl⟩;have x6:Ext [] K5 K6:=vz ▸ Ext.new K5 _;have w6:=Va w5 x6;have g6:qe K6 K5.length = some [.str name,.int .u64 (m.b.length:Nat),.int .i64 (sl:Nat),.int .i64 0,.vsl true [] 0]:=by rw [← vz,qN]
  have rt6:qe K6 q = some C5:=w6.root;obtain ⟨p6,hp6⟩:∃ p,K5.length = p:=⟨_,rfl⟩;rw [hp6] at g6;have row6:=w6.rowD;simp only [m2dD,m2vD] at row6;have hel6:=Qv m.da;simp only [Kn.size] at hel6;obtain ⟨v',K7,L7,hA,hR7,x7,n7⟩:=row6.append (P:=Tryz.prog) (st:=118) (xt:=118) (e:=157) (x:=.osl p6 5 0 1 5) (xs:=[.str name,.int .u64 (m.b.length:Nat),.int .i64 (sl:Nat),.int .i64 0,.vsl true [] 0]) (m:=1) (by simp) (by simp) (by simp [-qe,g6]) (by simp) (by omega) (by simp) (by omega) (by rw [hel6];simp [qw];omega) (by rw [hel6];simp [qw];omega);obtain ⟨kn,Qo⟩:∃ k:Kn,k = ⟨name,m.b.length,sl,0,true,[]⟩:=⟨_,rfl⟩
  have hcells:qk (m.da ++ [kn]) = qk m.da ++ [.str name,.int .u64 (m.b.length:Nat),.int .i64 (sl:Nat),.int .i64 0,.vsl true [] 0]:=by
   rw [qdO,Qo];rfl
  rw [← hcells] at hR7;have x7':Ext m2.Ld K6 K7:=x7;have w8:=qrD w6 kn (v:=v') (L:=L7) (by simp only [m2dD];exact hR7) x7' n7;simp only [m2dD] at w8
  have rt7:qe K7 q = some C5:=x7'.get rt6 (by
   have:=(J2 w6).2.1;exact this)
  obtain ⟨r7,k7,hv7,-,hg7,hL7⟩:=hR7.own (by rw [hcells];simp);obtain ⟨z7,hz7⟩:∃ z,z = (qk (m.da ++ [kn])).length:=⟨_,rfl⟩;rw [← hz7] at hv7;have hlt7:r7 < K7.length:=qt hg7;subst hv7;obtain ⟨C8,XO⟩:∃ C,C = C5.set 144 (D.osl r7 z7 0 k7 5):=⟨_,rfl⟩;have s144:List.take 144 C5 ++ D.osl r7 z7 0 k7 5 :: List.drop 145 C5 = C8:=by rw [XO];exact jo (by omega)
  rw [← XO] at w8;have e1:=zD h.c51;have e2:=h.file;have cfs:IntKind.u64.wrap (m.ds:Int) = (m.ds:Int):=by rw [qF] <;> omega
  have cfs0:¬ (m.ds:Int) = 0:=by omega
  have cfsN:¬ m.ds = 0:=by omega
  have hle23:K2.length≤K3.length:=by omega
  have ctm:(xn:Int).tmod (m.ds:Int) = (sl:Int):=by
   rw [ko,Int.tmod_eq_emod_of_nonneg (Int.natCast_nonneg _)];rfl
  have csl:IntKind.i64.wrap (sl:Int) = (sl:Int):=by rw [wrap_i64] <;> omega
  have csu:IntKind.u64.wrap (sl:Int) = (sl:Int):=by rw [qF] <;> omega
  have YR:List.set K0 K.length none = K1:=jv;have exq:∀ {A B:qd} {L:List Nat},Ext L A B→(∀ i,i∈L→i∈m.names q)→Ext (m.names q) A B:=fun hh hm=>hh.mono hm;have y1:=exq x1 (fun _ hi=>by simp at hi)
  have y2:=exq x2 (fun i hi=>by
   simp only [zA,List.not_mem_nil,or_false] at hi;rcases hi with rfl | rfl
   ·exact Jb
   ·exact J0)
  have y3:=exq x3 (fun i hi=>by
   have:m2.bi = m.bi:=(by rw [qW]);rw [List.mem_singleton.1 hi,this];exact J0)
  have y5:Ext (m.names q) K3 K5:=jP ▸ exq (Ext.set K3 q C5) (fun i hi=>by rw [List.mem_singleton.1 hi];exact Jb);have y6:=exq x6 (fun _ hi=>by simp at hi)
  have y7:=exq x7' (fun i hi=>by
   have:m2.Ld = m.Ld:=(by rw [qW]);rw [this] at hi;exact qdl hi)
  have y8:=exq (Ext.set K7 q C8) (fun i hi=>by rw [List.mem_singleton.1 hi];exact Jb);have y:=(((((y1.trans y2 (NewL.refl _ _)).trans y3 (NewL.refl _ _)).trans y5 (NewL.refl _ _)).trans y6 (NewL.refl _ _)).trans y7 (NewL.refl _ _)).trans y8 (NewL.refl _ _)
  obtain ⟨K8,m8,Jo,gr8,VE,hd8,hf8⟩:∃ (K8:qd) (m8:Jm),ql K7 q C8 = K8∧JGrow K K8 q m m8∧m8.b.length = m.b.length+tb.length∧m8.da = m.da ++ [kn]∧m8.fi = m.fi:=by
   refine ⟨_,_,rfl,⟨w8,?_,y,?_,?_,?_,?_,?_,?_,?_,?_,?_,?_,?_⟩,?_,?_,?_⟩
   ·exact { o3 with
     da:=fun k ZB=>by
      rcases List.mem_append.1 ZB with h1 | h1
      ·have z:=(hk.da k h1).mono (show m.b.length≤b3.length by omega);exact ⟨z.at_,by simp only [m2s];exact z.slot,z.arr,z.nil,z.txt⟩
      ·rw [List.mem_singleton.1 h1,Qo];exact ⟨by simp only;omega,by simp only [m2s];exact hslt,ArrOk.zero _,fun _=>rfl,by simp only;exact hn⟩
     cn:=fun k ZB=>by
      rcases List.mem_append.1 ZB with h1 | h1
      ·have:=hk.cn k h1;simp only [qW];exact this
      ·rw [List.mem_singleton.1 h1,Qo];exact vf _
     nda:=by simp only;rw [qX,List.length_singleton];omega }
   ·intro i hi;have b1:m2.bi = m.bi:=(by rw [qW]);have b2:m2.Ld = m.Ld:=(by rw [qW]);have b4:m2.Lf = m.Lf:=(by rw [qW]);have hlen1:=x1.len;simp only [Jm.names,b1,zA,ji] at hi ⊢;rcases hi with hi | hi | hi | hi
    ·exact .inl (.inl hi)
    ·exact .inl (.inr (.inl hi))
    rotate_left
    ·exact .inl (.inr (.inr (.inr (by rw [← b4];exact hi))))
    ·rcases n7 i hi with h1 | h1
     ·exact .inl (.inr (.inr (.inl (by rw [← b2];exact h1))))
     ·have:=x6.len;have l5':K5.length = K3.length:=(by rw [← jP];simp [ql]);exact .inr (by omega)
   all_goals first
    | (subst qW;rfl)
    | (simp only;omega)
    | (simp only;rw [qW])
    | (simp only;rw [qX,List.length_singleton];omega)
  have gx:=ygr.trans gr8;obtain ⟨K9,m9,a,hfld,gr9,ha9,hb9,hd9,hf9⟩:=qrG gr8.w gr8.ok p.name (by omega) (by omega) (by rw [hf8];exact jZ);obtain ⟨a32,ha32⟩:∃ z,z = a+32:=⟨_,rfl⟩;obtain ⟨b32,hb32⟩:∃ z,z = m.b.length+32:=⟨_,rfl⟩;have bl9:=gr9.bl;have bm9:=gr9.ok.bmax;obtain ⟨v,hv,hget8⟩:=qty m9.b a32 (by omega) bm9;obtain ⟨K10,b10,hput1,hb10,w10,o10,x10,l10⟩:=KC gr9.w gr9.ok b32 v (by omega);obtain ⟨K11,b11,hput2,hb11,w11,o11,x11,l11⟩:=KC w10 o10 a32 m.b.length (by simp only;omega)
  have g8b:qe K8 pb = some [.str p.name,.str p.value]:=gr8.ext.get gb (fun hi=>by
   have:=Yx h0 hi;omega)
  have e9:=gr9.w.root;have l9:=gr9.w.len;have c9:=zD gr9.w.c143;have y9:=gr9.w.bytes;have wA:IntKind.u64.wrap ((a:Int)+32) = (a32:Int):=by rw [qF] <;> omega
  have wA2:IntKind.i64.wrap (a32:Int) = (a32:Int):=by rw [wrap_i64] <;> omega
  have wB:IntKind.u64.wrap ((m.b.length:Int)+32) = (b32:Int):=by rw [qF] <;> omega
  have e11:=w11.root;have c11:=zD w11.c144;simp only at e11 c11
  have hne11:qk m9.da≠[]:=fun e0=>by
   have:=Qv m9.da;rw [e0,hd9,hd8] at this;simp at this
  obtain ⟨ro,nn,hfv,vH,Qq,hLd⟩:=w11.rowD.own hne11;simp only at hfv vH
  have jb:nn = m.da.length+1:=by
   have h1:=Qv m9.da;rw [h1,hd9,hd8] at vH;simp at vH;omega
  rw [hfv,jb] at c11;have hlN:∀ x,zj Tryz.prog 118 (.osl ro x 0 (m.da.length+1) 5) = some (.int .i64 ((m.da.length:Int)+1)):=fun x=>by simp
  have wN:IntKind.i64.wrap (m.da.length:Int) = (m.da.length:Int):=by rw [wrap_i64] <;> omega
  simp [-qe,-ql,-qo,-zj,-qM,-Kn.ea,p0,p3,p5,pv6,r0,qY,c5,hlen,qq,e1,e2,Zk,vm,g0,YR,hpf,hob,rt2,cl2,d48,cfs,cfsN,ctm,csl,d144,d121,d138,hha,rt3,k3q,hmxN,s138,l4,d134,hz,s134,l5,d144b,kp,jP,rt5,vz,hp6,hA,rt7,hlt7,s144,Jo,g8b,hfld,e9,l9,c9,y9,hget8,wA,wA2,wB,hput1,hput2,e11,c11,hlN,wN];dsimp only at hb10 hb11;refine ⟨m.da.length,K11,⟨rfl,rfl⟩,_,(gx.trans gr9).trans ⟨w11,o11,?_,?_,rfl,rfl,rfl,rfl,rfl,rfl,rfl,rfl,rfl,?_⟩,?_,?_,?_,?_,?_,?_⟩
  ·have z1:Ext (m9.names q) K9 K10:=x10.mono fun i hi=>by rw [List.mem_singleton.1 hi];exact J0
   have z2:Ext (m9.names q) K10 K11:=x11.mono fun i hi=>by rw [List.mem_singleton.1 hi];exact J0
   exact z1.trans z2 (NewL.refl _ _)
  ·exact NewL.refl _ _
  ·simp only;omega
  ·simp only;rw [hd9,hd8];simp
  ·simp only;omega
  ·simp only;rw [hd9,hd8];simp
  ·simp only;rw [hf8] at hf9;omega
  ·simp only;rw [hd9,hd8];simp
  ·intro k hk9;simp only at hk9;rw [hd9,hd8] at hk9;rcases List.mem_append.1 hk9 with h1 | h1
   ·exact .inl h1
   ·rw [List.mem_singleton.1 h1,Qo];exact .inr rfl
theorem qh3 [MaxL] [TxtC] (i:Nat) (hi:i≤1000):call cx 118 [.int .i64 i] [] = some (.int .i64 (Qz i:Nat),[]):=by
 by_cases h:i≤6
 ·have:i = 0∨i = 1∨i = 2∨i = 3∨i = 4∨i = 5∨i = 6:=by omega
  rcases this with rfl | rfl | rfl | rfl | rfl | rfl | rfl <;>
  ·refine qA Tryz.func118 rfl ⟨rfl,rfl⟩ ?_;simp [Tryz.f118,Qz]
   try decide
 ·have h0:(6:Int) < (i:Int):=by omega
  have h1:¬ (i:Int) < 0:=by omega
  have h2:¬ i < 6:=by omega
  have h3:6 < i:=by omega
  refine qA Tryz.func118 rfl ⟨rfl,rfl⟩ ?_;simp [Tryz.f118,Qz,h0,h1,h2]
theorem qee {bl:Nat} {arrs:List Nat} {n:Nat} (h:ArrOk bl arrs n):arrs.length≤n:=by
 cases hl:arrs.length with
 | zero=>omega
 | succ j =>
  have h1:=h.lo j hl
  have:∀ k,k≤jm k:=fun k=>by
   induction k with
   | zero=>exact qv _
   | succ k ih =>
    have:=qe8 (j:=k);omega
  have:=this j;omega
theorem qlO (k:Nat):jm k≤256 * k:=by
 induction k with
 | zero=>exact qv _
 | succ k ih =>
  have:=qcW k;simp only [jm];omega
theorem qbe {H T:qd} {q:Nat} {m:Jm} {L:List Nat} (h:JmW H q m) (he:Ext L H T) (hd:∀ i,i∈m.names q→i ∉ L):JmW T q m :=
 { h with
  root:=he.get h.root (hd _ Jb)
  bytes:=he.get h.bytes (hd _ J0)
  rowD:=h.rowD.ext he (fun i hi=>hd i (qdl hi))
  rowF:=h.rowF.ext he (fun i hi=>hd i (qis hi)) }
theorem qjK (H:qd) (i:Nat):Ext [i] H (jq H [i]):=⟨by rw [Qk];exact qv _,fun j _ hn=>Xi hn⟩
theorem qtt (K:qd) (nl:Bool) (arrs:List Nat) (a:Nat) (zq:nl = true→arrs = []) (hl:arrs.length≤1000) :
  ∃ d1 T1 d2 T2 r,qM Tryz.prog (qo K []) 91 91 (.osl K.length 0 0 0 1) (.vsl nl (qy .u64 arrs) arrs.length) = some (d1,T1)∧qM Tryz.prog (qo T1 [.int .u64 (a:Nat)]) 91 91 d1 (.osl T1.length 1 0 1 1) = some (.osl r (arrs.length+1) 0 (arrs.length+1) 1,T2)∧qe T2 r = some (qy .u64 (arrs ++ [a]))∧Ext [] K T2∧K.length≤r∧d2 = r:=by
 have x0:=Ext.new K [];have g0:qe (qo K []) K.length = some []:=by rw [qN]
 have r0:RowA (qo K []) 1 (.osl K.length 0 0 0 1) [] [K.length]:=RowA.of (by simp) g0
 obtain ⟨d1,T1,L1,hA,hR,hX,hN⟩:∃ d1 T1 L1,qM Tryz.prog (qo K []) 91 91 (.osl K.length 0 0 0 1) (.vsl nl (qy .u64 arrs) arrs.length) = some (d1,T1)∧RowA T1 1 d1 (qy .u64 arrs) L1∧Ext [K.length] (qo K []) T1∧NewL [K.length] L1 (qo K []).length:=by
  by_cases h0:arrs = []
  ·subst h0;exact ⟨.osl K.length 0 0 0 1,qo K [],[K.length],by simp [-qo,-qe,qy,g0];exact qa8 g0,r0,Ext.refl _ _,NewL.refl _ _⟩
  ·have hp:arrs.length≠0:=fun h=>h0 (List.length_eq_zero_iff.1 h)
   have hf:nl = false:=by
    cases nl with
    | false=>rfl
    | true=>exact absurd (zq rfl) h0
   subst hf;exact r0.append (P:=Tryz.prog) (st:=91) (xt:=91) (e:=25) (x:=.vsl false (qy .u64 arrs) arrs.length) (xs:=qy .u64 arrs) (m:=arrs.length) (by simp) (by simp) (by simp [-qe]) (by simp) hp (by simp) (by omega) (by simp [qw];omega) (by simp [qw];omega)
 have g1:qe (qo T1 [.int .u64 (a:Nat)]) T1.length = some [.int .u64 (a:Nat)]:=by rw [qN]
 have r1:=hR.ext (Ext.new T1 [.int .u64 (a:Nat)]) (fun _ _=>by simp);obtain ⟨d2,T2,L2,Ki,hR2,hX2,hN2⟩:=r1.append (P:=Tryz.prog) (st:=91) (xt:=91) (e:=25) (x:=.osl T1.length 1 0 1 1) (xs:=[.int .u64 (a:Nat)]) (m:=1) (by simp) (by simp) (by simp [-qe,-qo,g1]) (by simp) (by omega) (by simp) (by omega) (by simp [qw];omega) (by simp [qw];omega);have e2:qy .u64 arrs ++ [.int .u64 (a:Nat)] = qy .u64 (arrs ++ [a]):=by rw [qfq];rfl
 rw [e2] at hR2;obtain ⟨r,n,rfl,hn,hg,hL⟩:=hR2.own (by rw [← e2];simp);rw [qfp] at hn Ki;have hn':n = arrs.length+1:=by simp at hn;omega
 subst hn';rw [qX,List.length_singleton] at Ki
 have k1:∀ i,i∈L1→K.length≤i:=fun i hi=>by
  rcases hN i hi with h | h
  ·rw [List.mem_singleton.1 h];exact qv _
  ·rw [zG] at h;omega
 have y1:Ext [] K T1:=by
  refine ⟨by have:=hX.len;rw [zG] at this;omega,fun i hi _=>?_⟩;rw [hX.out i (by rw [zG];omega) (by simp;omega),jF hi]
 have y2:Ext [] K T2:=by
  have z:=hX2.len;rw [zG] at z;refine ⟨by have:=y1.len;omega,fun i hi _=>?_⟩;have hi1:i < T1.length:=jr hi y1.len;rw [hX2.out i (by rw [zG];omega) (fun hc=>by have:=k1 i hc;omega),jF hi1,y1.out i hi (by simp)]
 refine ⟨d1,T1,r,T2,r,hA,Ki,hg,y2,?_,rfl⟩;have hrL:r∈L2:=by rw [hL];simp
 rcases hN2 r hrL with h | h
 ·exact k1 r h
 ·rw [zG] at h;have:=y1.len;omega
set_option maxHeartbeats 8000000 in
set_option maxRecDepth 10000 in
theorem qiN [MaxL] [TxtC] {H:qd} {q:Nat} {m:Jm} (h:JmW H q m) (hk:m.Ok) (nl:Bool) (arrs:List Nat) (n a0 v:Nat) (zq:nl = true→arrs = []) (ha:ArrOk m.b.length arrs n) (hn:n≤1000) (Jn:a0+8≤m.b.length) (_hv:v < 18446744073709551616) (Zl:m.b.length+5000≤1000000) :
  ∃ T m' arrs' z,call cx 82 [.optr q 147 0,.vsl nl (qy .u64 arrs) arrs.length,.int .i64 n,.int .u64 a0,.int .u64 v] H = some (.tup [.vsl false (qy .u64 arrs') arrs'.length,.int .i64 (z:Nat)],T)∧z≤256∧JGrow H T q m m'∧ArrOk m'.b.length arrs' (n+1)∧m'.b.length≤m.b.length+(24+8 * Qz arrs.length)∧m'.da = m.da∧m'.fi = m.fi:=by
 suffices hs:∃ r,call cx 82 [.optr q 147 0,.vsl nl (qy .u64 arrs) arrs.length,.int .i64 n,.int .u64 a0,.int .u64 v] H = some r∧∃ (T:qd) (m':Jm) (arrs':List Nat) (z:Nat),r = (.tup [.vsl false (qy .u64 arrs') arrs'.length,.int .i64 (z:Nat)],T)∧z≤256∧JGrow H T q m m'∧ArrOk m'.b.length arrs' (n+1)∧m'.b.length≤m.b.length+(24+8 * Qz arrs.length)∧m'.da = m.da∧m'.fi = m.fi by
  obtain ⟨r,hc,T,m',arrs',z,rfl,h1⟩:=hs;exact ⟨T,m',arrs',z,hc,h1⟩
 refine Zt (X:=cx) (f:=82) _ Tryz.func82 rfl ⟨rfl,rfl⟩ ?_;have vI:=qee ha;simp [-qe,-ql,-qo,-zj,-qM,Tryz.f82];refine Run.loopThen (fun (i:Nat) e K=>i≤arrs.length∧qg e 0 = some (.optr q 147 0)∧qg e 1 = some (.vsl nl (qy .u64 arrs) arrs.length)∧qg e 2 = some (.int .i64 n)∧qg e 3 = some (.int .u64 a0)∧qg e 4 = some (.int .u64 v)∧qg e 12 = some (.int .i64 (jm (i - 1):Nat))∧qg e 13 = some (.int .i64 (jm i:Nat))∧qg e 14 = some (.int .i64 i)∧K = H) (fun i=>arrs.length - i) 0 ?_ ?_
 ·exact ⟨vf _,by simp,by simp,by simp,by simp,by simp,by simp [jm],by simp [jm],by simp,rfl⟩
 rintro i e K ⟨hi,p0,p1,p2,p3,p4,p12,p13,p14,rfl⟩;by_cases qi:i < arrs.length
 ·have qq:(i:Int) < (arrs.length:Int):=by omega
  have hw:IntKind.i64.wrap ((i:Int)+1) = ((i+1:Nat):Int):=by rw [wrap_i64] <;> omega
  have hr:=qh3 i (by omega);have h1:=qlO i;have h2:=qcW i
  have zp:IntKind.i64.wrap ((jm i:Int)+(Qz i:Int)) = ((jm (i+1):Nat):Int):=by
   simp only [jm];rw [wrap_i64] <;> omega
  simp [-qe,-ql,-qo,p0,p1,p2,p3,p4,p12,p13,p14,qq,hw,hr,zp];exact ⟨i+1,by omega,by omega,by simp,by simp,by simp⟩
 ·have qq:¬ (i:Int) < (arrs.length:Int):=by omega
  have Q3:i = arrs.length:=by omega
  subst Q3;by_cases YJ:n = jm arrs.length
  ·obtain ⟨r,hr⟩:∃ r,r = Qz arrs.length:=⟨_,rfl⟩;have hr1:=qeM arrs.length;have hr2:=qcW arrs.length;have hrm:=qh3 arrs.length (by omega);rw [← hr] at hrm;have e0:(n:Int) = (jm arrs.length:Int):=(by omega);obtain ⟨zs,Xy⟩:∃ z:List D,z = List.replicate r (.int .u64 0):=⟨_,rfl⟩;have Qa:zs.length = r:=(by rw [Xy];simp);obtain ⟨qp,jT,tb,htb,rfl⟩:=qn7 0 (by omega) false zs (fun d hd=>by rw [Xy] at hd;rw [List.eq_of_mem_replicate hd];exact ⟨0,rfl,by omega⟩) (by simp) (by omega) (by omega);rw [Qa] at jT htb;replace jT:call cx 119 [.agg [.int .u64 0,.vsl false zs r]] [] = some (.vsl false (qf tb) tb.length,[]):=jT
   have hmb:8 * (r:Int)≤(qw:Int)∧r≤qw:=by
    simp only [qw];omega
   have hfree:∀ x,x∈zs→idFree x = true:=fun d hd=>by
    rw [Xy] at hd;rw [List.eq_of_mem_replicate hd];rfl
   have Zq:idFree.idFreeL zs = true:=(by rw [kO];exact List.all_eq_true.2 hfree);have hzt:List.take r zs = zs:=(by rw [← Qa];exact List.take_length);obtain ⟨K0,vm⟩:∃ T,qo K zs = T:=⟨_,rfl⟩;have g0:qe K0 K.length = some zs:=(by rw [← vm,qN]);obtain ⟨K1,jv⟩:∃ T,jq K0 [K.length] = T:=⟨_,rfl⟩;have YR:List.set K0 K.length none = K1:=jv
   have x1:Ext [] K K1:=by
    refine ⟨?_,fun j hj _=>?_⟩
    ·rw [← jv,Qk,← vm,zG];omega
    ·rw [← jv,Xi (by simp;omega),← vm,jF hj]
   have hbm:=hk.bmax;have w1:=Va h x1;obtain ⟨K2,cs2,hob,w2,o2,x2,l2⟩:=qdx w1 hk tb (by omega) (by omega);have r2:=w2.root;have l2':=w2.len;obtain ⟨_,hd137,v137,rfl,hv137⟩:=w2.nums 137 (by omega) (by omega);simp only at r2 l2' hd137;have d137:=zD hd137;have hz16:=qan ((v137:Int)+1);unfold zH at hz16;obtain ⟨z16,hz⟩:∃ z:Nat,IntKind.u64.wrap ((v137:Int)+1) = (z:Int):=⟨(IntKind.u64.wrap ((v137:Int)+1)).toNat,by rw [Int.toNat_of_nonneg hz16.1]⟩;have w5:=Vb w2 (i:=137) rfl (d:=.int .u64 (z16:Int)) ⟨z16,rfl,by omega⟩;simp only at w5;obtain ⟨C5,Zs⟩:∃ C,C = cs2.set 137 (.int .u64 (z16:Int)):=⟨_,rfl⟩;have s137:List.take 137 cs2 ++ D.int .u64 (z16:Int) :: List.drop 138 cs2 = C5:=(by rw [Zs];exact jo (by omega));rw [← Zs] at w5;obtain ⟨K5,jP⟩:∃ T,ql K2 q C5 = T:=⟨_,rfl⟩;rw [jP] at w5
   obtain ⟨pa,hpa8,hcase⟩:∃ pa,pa+8≤m.b.length∧((arrs.length = 0∧pa = a0)∨(∃ j a,arrs.length = j+1∧arrs[j]? = some a∧pa = a+16)):=by
    cases hl:arrs.length with
    | zero=>exact ⟨a0,Jn,.inl ⟨rfl,rfl⟩⟩
    | succ j =>
     have zm:j < arrs.length:=(by omega);have h9:=ha.at_ j arrs[j] (qU zm);exact ⟨arrs[j]+16,by omega,.inr ⟨j,arrs[j],rfl,qU zm,rfl⟩⟩
   obtain ⟨m5,hm5⟩:∃ x,x = ({ m with b:=m.b ++ tb,cs:=C5 }:Jm):=⟨_,rfl⟩;rw [← hm5] at w5;have o5:m5.Ok:=(by rw [hm5];exact { o2 with });have m5b:m5.b.length = m.b.length+tb.length:=(by rw [hm5];simp);obtain ⟨K6,b6,hput6,hb6,w6,o6,x6,l6⟩:=KC w5 o5 pa m.b.length (by omega);obtain ⟨d1,T1,d2,T2,r2i,hA1,Ki,hgr,xg,hri,-⟩:=qtt K6 nl arrs m.b.length zq (by omega);obtain ⟨T1',hT1'⟩:∃ T,qo T1 [.int .u64 (m.b.length:Nat)] = T:=⟨_,rfl⟩;rw [hT1'] at Ki;have w7:=Va w6 xg;obtain ⟨p24,hp24⟩:∃ p,p = m.b.length+24:=⟨_,rfl⟩;obtain ⟨T8,b8,hput8,VE,w8,o8,x8,l8⟩:=KC w7 o6 p24 v (by simp only;omega);have hbi6:m5.bi < K6.length:=qt w6.bytes;have g8:qe T8 r2i = some (qy .u64 (arrs ++ [m.b.length])):=x8.get hgr (by simp only [qaG];omega);have wl:IntKind.i64.wrap (arrs.length:Int) = (arrs.length:Int):=by rw [wrap_i64] <;> omega
   have hda:(qy .u64 (arrs ++ [m.b.length])).drop arrs.length = [.int .u64 (m.b.length:Nat)]:=by
    rw [qfq];simp [qy]
   have wlt:(arrs.length:Int) < (arrs.length:Int)+1:=(by omega);have wb:IntKind.u64.wrap ((m.b.length:Int)+24) = (p24:Int):=(by rw [qF] <;> omega);have wb2:IntKind.u64.wrap (p24:Int) = (p24:Int):=(by rw [qF] <;> omega);have wz:IntKind.i64.wrap 0 = 0:=rfl;have wz2:IntKind.u64.wrap 0 = 0:=rfl;obtain ⟨T9,hT9⟩:∃ T,jq T8 [r2i] = T:=⟨_,rfl⟩;have hT9':List.set T8 r2i none = T9:=hT9;dsimp only at VE;have hb88:b8.length = m.b.length+tb.length:=(by omega);have z1:Ext (m.names q) K K1:=x1.mono fun i hi=>by simp at hi
   have z2:Ext (m.names q) K1 K2:=x2.mono fun i hi=>by
    simp only [zA,List.not_mem_nil,or_false] at hi;rcases hi with rfl | rfl
    ·exact Jb
    ·exact J0
   have z5:Ext (m.names q) K2 K5:=jP ▸ (Ext.set K2 q C5).mono fun i hi=>by rw [List.mem_singleton.1 hi];exact Jb
   have b5:m5.bi = m.bi:=(by rw [hm5]);have z6:Ext (m.names q) K5 K6:=x6.mono fun i hi=>by rw [List.mem_singleton.1 hi,b5];exact J0
   have z7:Ext (m.names q) K6 T2:=xg.mono fun i hi=>by simp at hi
   have z8:Ext (m.names q) T2 T8:=x8.mono fun i hi=>by
    simp only [qaG] at hi;rw [hi,b5];exact J0
   have z9:Ext [r2i] T8 T9:=hT9 ▸ qjK T8 r2i;have y8:=((((z1.trans z2 (NewL.refl _ _)).trans z5 (NewL.refl _ _)).trans z6 (NewL.refl _ _)).trans z7 (NewL.refl _ _)).trans z8 (NewL.refl _ _)
   have hKr:K.length≤r2i:=by
    have:=(((z1.trans z2 (NewL.refl _ _)).trans z5 (NewL.refl _ _)).trans z6 (NewL.refl _ _)).len;omega
   have y9:Ext (m.names q) K T9:=y8.trans z9 fun i hi=>.inr (by rw [List.mem_singleton.1 hi];exact hKr)
   have w9:=qbe w8 z9 (fun i hi hc=>by
    have:=Yx w6 hi;rw [List.mem_singleton.1 hc] at this;omega)
   have ka:=ArrOk.new (YJ ▸ ha) (bl':=b8.length) (a:=m.b.length) (by omega) (by omega);have vD:List.take (arrs.length+1) (qy .u64 (arrs ++ [m.b.length])) = qy .u64 (arrs ++ [m.b.length]):=qP (by simp)
   have JB:∃ (T:qd) (m':Jm) (arrs':List Nat) (z:Nat),(((List.take (arrs.length+1) (qy .u64 (arrs ++ [m.b.length])) = qy .u64 arrs'∧arrs.length+1 = arrs'.length)∧(1:Int) = z)∧T9 = T)∧z≤256∧JGrow K T q m m'∧ArrOk m'.b.length arrs' (jm arrs.length+1)∧m'.b.length≤m.b.length+(24+8 * Qz arrs.length)∧m'.da = m.da∧m'.fi = m.fi:=by
    refine ⟨T9,_,arrs ++ [m.b.length],1,⟨⟨⟨vD,by simp⟩,rfl⟩,rfl⟩,by omega,⟨w9,o8,y9,?_,?_,?_,?_,?_,?_,?_,?_,?_,?_,?_⟩,ka,?_,?_,?_⟩
    ·subst hm5;exact NewL.refl _ _
    all_goals first
     | (subst hm5;rfl)
     | (simp only;omega)
   rcases hcase with ⟨hae,rfl⟩ | ⟨j,a,hj,Zp,Vi⟩
   ·have ea:arrs = []:=List.length_eq_zero_iff.1 hae;have ez:((arrs.length:Int) == 0) = true:=(by rw [hae];rfl);simp [-qe,-ql,-qo,-qM,p0,p1,p2,p3,p4,p12,p13,p14,qq,YJ,hrm,hmb,← Xy,eq_true hfree,Qa,vm,g0,jT,Zq,hzt,YR,hob,r2,l2',d137,hz,s137,jP,hput6,hA1,hT1',Ki,hgr,wl,wlt,hda,wb,wz,wz2,wb2,hput8,g8,hT9',ez];exact JB
   ·have jZ:nl = false:=by
     cases nl with
     | false=>rfl
     | true=>rw [zq rfl] at hj;simp at hj
    subst jZ;have zm:j < arrs.length:=by omega
    have hdj:(qy .u64 arrs).drop j = .int .u64 (a:Nat) :: qy .u64 (arrs.drop (j+1)):=by
     rw [qa6 zm];rw [qU zm] at Zp;injection Zp with Zp;rw [Zp]
    have ea:arrs≠[]:=fun h0=>by rw [h0] at hj;simp at hj
    have ez:((arrs.length:Int) == 0) = false:=(by simp [ea]);have e1:IntKind.i64.wrap ((arrs.length:Int) - 1) = (j:Int):=(by rw [wrap_i64] <;> omega);have h9:=ha.at_ j a Zp;have e2:IntKind.u64.wrap ((a:Int)+16) = (pa:Int):=(by rw [qF] <;> omega);simp [-qe,-ql,-qo,-qM,p0,p1,p2,p3,p4,p12,p13,p14,qq,YJ,hrm,hmb,← Xy,eq_true hfree,Qa,vm,g0,jT,Zq,hzt,YR,hob,r2,l2',d137,hz,s137,jP,hput6,hA1,hT1',Ki,hgr,wl,wlt,hda,wb,wz,wz2,wb2,hput8,g8,hT9',ez,zm,hdj,e1,e2];exact JB
  ·obtain ⟨j,a,hj,Zp,Zn,hro,hab,hmo⟩:=ha.more YJ;have hbm:=hk.bmax
   have jZ:nl = false:=by
    cases nl with
    | false=>rfl
    | true=>rw [zq rfl] at hj;simp at hj
   subst jZ;have zm:j < arrs.length:=by omega
   have hdj:(qy .u64 arrs).drop j = .int .u64 (a:Nat) :: qy .u64 (arrs.drop (j+1)):=by
    rw [qa6 zm];rw [qU zm] at Zp;injection Zp with Zp;rw [Zp]
   obtain ⟨d,hd⟩:∃ d,d = n - jm j:=⟨_,rfl⟩;obtain ⟨T,b,hput,jG,w1,o1,x1,l1⟩:=KC h hk (a+24+8 * d) v (by omega);have e0:¬ (n:Int) = (jm arrs.length:Int):=(by omega);have e1:IntKind.i64.wrap ((arrs.length:Int) - 1) = (j:Int):=(by rw [wrap_i64] <;> omega);have e2:IntKind.u64.wrap ((a:Int)+24) = ((a+24:Nat):Int):=(by rw [qF] <;> omega);have JA:jm (arrs.length - 1) = jm j:=(by rw [hj];rfl);have e3:IntKind.i64.wrap ((n:Int) - (jm j:Int)) = (d:Int):=(by rw [wrap_i64] <;> omega);have e4:IntKind.i64.wrap (8 * (d:Int)) = ((8 * d:Nat):Int):=(by rw [wrap_i64] <;> omega);have e5:IntKind.u64.wrap ((8 * d:Nat):Int) = ((8 * d:Nat):Int):=(by rw [qF] <;> omega);have e6:IntKind.u64.wrap (((a+24:Nat):Int)+((8 * d:Nat):Int)) = ((a+24+8 * d:Nat):Int):=(by rw [qF] <;> omega);have e7:IntKind.i64.wrap ((d:Int)+1) = ((d+1:Nat):Int):=(by rw [wrap_i64] <;> omega);rw [JA] at p12;simp [-qe,-ql,-qo,-Int.natCast_add,-Int.natCast_mul,p0,p1,p2,p3,p4,p12,p13,p14,qq,e0,e1,e2,e3,e4,e5,e6,e7,hput,zm,hdj];have hr5:=qcW j;refine ⟨T,_,arrs,d+1,⟨⟨⟨rfl,rfl⟩,rfl⟩,rfl⟩,by omega,⟨w1,o1,x1.mono fun i hi=>by rw [List.mem_singleton.1 hi];exact J0,NewL.refl _ _,rfl,rfl,rfl,rfl,rfl,rfl,rfl,rfl,rfl,?_⟩,?_,?_,rfl,rfl⟩
   ·simp only;omega
   ·simp only;rw [jG];exact hmo
   ·simp only;omega
theorem qiM {H:qd} {q:Nat} {m:Jm} (h:JmW H q m) {n:Nat} (hn:H.length≤n):∀ x,x∈m.cs→closed n x = true:=by
 intro x hx;obtain ⟨i,he⟩:=List.getElem?_of_mem hx
 have QR:i < 147:=by
  have:=(List.getElem?_eq_some_iff.1 he).1;rw [h.len] at this;exact this
 have row:∀ {v:D} {cs:List D} {L:List Nat},RowA H 5 v cs L→closed n v = true:=fun hr=>by
  rcases hr with ⟨hv,_⟩ | ⟨r,k,hv,_,hg,_⟩
  ·rw [hv];simp [closed]
  ·rw [hv];have:=qt hg;simp [closed];omega
 by_cases h1:i < 143
 ·exact KH x (h.free i x h1 he)
 ·have:i = 143∨i = 144∨i = 145∨i = 146:=by omega
  rcases this with rfl | rfl | rfl | rfl
  ·rw [h.c143] at he;injection he with he;subst he;have:=qt h.bytes;simp [closed];omega
  ·rw [h.c144] at he;injection he with he;subst he;exact row h.rowD
  ·rw [h.c145] at he;injection he with he;subst he;exact row h.rowF
  ·rw [h.c146] at he;injection he with he;subst he;exact KH _ (by simp [idFree])
theorem qvU {bl:Nat} {arrs:List Nat} {ne:Nat} (h:ArrW bl arrs ne):arrs.length≤ne+1:=by
 obtain ⟨n,h1,h2⟩:=h;exact jA (qee h2) h1
theorem qkg (K:qd) (nl:Bool) (arrs:List Nat) (zq:nl = true→arrs = []) (hl:arrs.length≤1000) :
  ∃ r n T,qM Tryz.prog (qo K []) 91 91 (.osl K.length 0 0 0 1) (.vsl nl (qy .u64 arrs) arrs.length) = some (.osl r n 0 n 1,T)∧Ext [] K T∧r < T.length:=by
 have g0:qe (qo K []) K.length = some []:=by rw [qN]
 have r0:RowA (qo K []) 1 (.osl K.length 0 0 0 1) [] [K.length]:=RowA.of (by simp) g0;by_cases h0:arrs = []
 ·subst h0;exact ⟨K.length,0,qo K [],by simp [-qo,-qe,qy,g0];exact qa8 g0,Ext.new K [],by rw [zG];omega⟩
 ·have hp:arrs.length≠0:=fun h=>h0 (List.length_eq_zero_iff.1 h)
  have hf:nl = false:=by
   cases nl with
   | false=>rfl
   | true=>exact absurd (zq rfl) h0
  subst hf;obtain ⟨d1,T1,L1,hA,hR,hX,hN⟩:=r0.append (P:=Tryz.prog) (st:=91) (xt:=91) (e:=25) (x:=.vsl false (qy .u64 arrs) arrs.length) (xs:=qy .u64 arrs) (m:=arrs.length) (by simp) (by simp) (by simp [-qe]) (by simp) hp (by simp) (by omega) (by simp [qw];omega) (by simp [qw];omega);obtain ⟨r,j,hv,hj,hg,_⟩:=hR.own (by intro h;have:=congrArg List.length h;simp at this;exact h0 this);rw [hj,Nat.mul_one] at hv;refine ⟨r,j,T1,by rw [hA,hv],⟨by have:=hX.len;rw [zG] at this;omega,fun i hi _=>?_⟩,qt hg⟩;rw [hX.out i (by rw [zG];omega) (by simp;omega),jF hi]
theorem qu6 (K:qd) {b:List UInt8} {bi:Nat} (hb:qe K bi = some (qf b)) (h0:b≠[]) (hl:b.length≤1000000) :
  ∃ r n T,qM Tryz.prog (qo K []) 26 26 (.osl K.length 0 0 0 1) (.osl bi b.length 0 b.length 1) = some (.osl r n 0 n 1,T)∧Ext [] K T∧r < T.length:=by
 have g0:qe (qo K []) K.length = some []:=by rw [qN]
 have r0:RowA (qo K []) 1 (.osl K.length 0 0 0 1) [] [K.length]:=RowA.of (by simp) g0;have qI:qe (qo K []) bi = some (qf b):=by rw [jF (qt hb)];exact hb
 have hp:b.length≠0:=fun h=>h0 (List.length_eq_zero_iff.1 h);obtain ⟨d1,T1,L1,hA,hR,hX,hN⟩:=r0.append (P:=Tryz.prog) (st:=26) (xt:=26) (e:=5) (x:=.osl bi b.length 0 b.length 1) (xs:=qf b) (m:=b.length) (by simp) (by simp) (by simp [-qe,-qo,qI]) (by simp) hp (by simp) (by omega) (by simp [qw];omega) (by simp [qw];omega);obtain ⟨r,j,hv,hj,hg,_⟩:=hR.own (by intro h;have:=congrArg List.length h;simp at this;exact h0 this);rw [hj,Nat.mul_one] at hv;refine ⟨r,j,T1,by rw [hA,hv],⟨by have:=hX.len;rw [zG] at this;omega,fun i hi _=>?_⟩,qt hg⟩;rw [hX.out i (by rw [zG];omega) (by simp;omega),jF hi]
theorem qwd {H:qd} {x:D} {cs:List D} {L:List Nat} (h:RowA H 5 x cs L) (hl:cs.length≤5000) :
  ∃ d T,qM Tryz.prog H 118 118 (.vsl true [] 0) x = some (d,T)∧Ext [] H T∧(d = .vsl true [] 0∨∃ r z k,d = .osl r z 0 k 5∧r < T.length):=by
 rcases h with ⟨rfl,rfl,rfl⟩ | ⟨r,n,rfl,h2,h3,rfl⟩
 ·exact ⟨.vsl true [] 0,H,by simp,Ext.refl _ _,.inl rfl⟩
 ·by_cases hn:n = 0
  ·subst hn;have VD:cs = []:=List.length_eq_zero_iff.1 (by omega);subst VD;exact ⟨.vsl true [] 0,H,by simp [-qe,h3],Ext.refl _ _,.inl rfl⟩
  ·obtain ⟨d,T,L',hA,hR,hX,hN⟩:=(RowA.nil H 5).append (P:=Tryz.prog) (st:=118) (xt:=118) (e:=157) (x:=.osl r cs.length 0 n 5) (xs:=cs) (m:=n) (by simp) (by simp) (by simp [-qe,h3,h2];exact qP (by omega)) (by simp) hn h2 (by omega) (by simp [qw];omega) (by simp [qw];omega);obtain ⟨r',j,hv,hj,hg,_⟩:=hR.own (by intro h0;have:=congrArg List.length h0;simp at this;rw [this] at h2;simp at h2;omega);exact ⟨d,T,hA,hX,.inr ⟨r',_,j,hv,qt hg⟩⟩
theorem Y6 (H:qd) (a b:List D):ql (qo H a) H.length b = qo H b:=by simp [ql,qo]
set_option maxHeartbeats 8000000 in
set_option maxRecDepth 10000 in
theorem qso [MaxL] [TxtC] {H:qd} {q:Nat} {m:Jm} (h:JmW H q m) (hk:m.Ok) :
  ∃ T p,call cx 76 [.optr q 147 0] H = some (.optr p 147 0,T)∧Ext [] H T:=by
 suffices hs:∃ r,call cx 76 [.optr q 147 0] H = some r∧∃ (T:qd) (p:Nat),r = (.optr p 147 0,T)∧Ext [] H T by
  obtain ⟨r,hc,T,p,rfl,h1⟩:=hs;exact ⟨T,p,hc,h1⟩
 refine Zt (X:=cx) (f:=76) _ Tryz.func76 rfl ⟨rfl,rfl⟩ ?_;have r0:=h.root;have qY:=h.len;have c143:=zD h.c143;have c144:=zD h.c144;have vD:List.take 147 m.cs = m.cs:=qP (by omega);have hcl1:∀ n,H.length≤n→(∀ x,x∈m.cs→closed n x = true) = True:=fun n hn=>eq_true (qiM h hn);have j7:∀ a,H.length≤(qo H a).length:=fun a=>by rw [zG];omega
 have jG:=hk.bl;have hbm:=hk.bmax;have hbn:m.b≠[]:=fun h0=>by rw [h0] at jG;simp at jG;have:=hk.ft;omega
 obtain ⟨K0,vm⟩:∃ T,qo H m.cs = T:=⟨_,rfl⟩;have x0:Ext [] H K0:=vm ▸ Ext.new H _;have hp0:qe K0 H.length = some m.cs:=by rw [← vm,qN]
 have w0:=Va h x0;have q1:qe (qo K0 []) q = some m.cs:=by rw [jF (qt w0.root)];exact w0.root
 obtain ⟨a1,n1,K1,hA1,x1,lt1⟩:=qu6 K0 w0.bytes hbn hbm;have p1:qe K1 H.length = some m.cs:=x1.get hp0 (by simp);obtain ⟨C1,ZF⟩:∃ C,C = m.cs.set 143 (.osl a1 n1 0 n1 1):=⟨_,rfl⟩;have s1:List.take 143 m.cs ++ D.osl a1 n1 0 n1 1 :: List.drop 144 m.cs = C1:=by rw [ZF];exact jo (by omega)
 have l1:C1.length = 147:=by rw [ZF,vt];exact qY
 obtain ⟨K2,jQ⟩:∃ T,ql K1 H.length C1 = T:=⟨_,rfl⟩;have hq:q < H.length:=qt h.root;have y2:Ext [H.length] K1 K2:=jQ ▸ Ext.set K1 _ _
 have z2:Ext [] H K2:=⟨by have:=x0.len;have:=x1.len;have:=y2.len;omega,fun i hi _=>by
  rw [y2.out i (by have:=x0.len;have:=x1.len;omega) (by simp;omega),x1.out i (by have:=x0.len;omega) (by simp),x0.out i hi (by simp)]⟩
 have w2:=Va h z2;have q3:qe (qo K2 []) q = some m.cs:=by rw [jF (qt w2.root)];exact w2.root
 have c146:=zD h.c146;obtain ⟨a3,n3,K3,hA3,x3,lt3⟩:=qkg K2 m.mn m.main hk.mn (by have:=qvU hk.main;have:=hk.ne;omega);have p2:qe K2 H.length = some C1:=by rw [← jQ];exact qV (qt p1)
 have p3:qe K3 H.length = some C1:=x3.get p2 (by simp);obtain ⟨C3,JG⟩:∃ C,C = C1.set 146 (.osl a3 n3 0 n3 1):=⟨_,rfl⟩;have s3:List.take 146 C1 ++ D.osl a3 n3 0 n3 1 :: List.drop 147 C1 = C3:=by rw [JG];exact jo (by omega)
 have l3:C3.length = 147:=by rw [JG,vt];exact l1
 obtain ⟨K4,JF⟩:∃ T,ql K3 H.length C3 = T:=⟨_,rfl⟩;have p4:qe K4 H.length = some C3:=by rw [← JF];exact qV (qt p3)
 obtain ⟨C5,Zs⟩:∃ C,C = C3.set 144 (.vsl true [] 0):=⟨_,rfl⟩;have s5:List.take 144 C3 ++ D.vsl true [] 0 :: List.drop 145 C3 = C5:=by rw [Zs];exact jo (by omega)
 have l5:C5.length = 147:=by rw [Zs,vt];exact l3
 obtain ⟨K5,jP⟩:∃ T,ql K4 H.length C5 = T:=⟨_,rfl⟩;have p5:qe K5 H.length = some C5:=by rw [← jP];exact qV (qt p4)
 obtain ⟨C6,YS⟩:∃ C,C = C5.set 145 (.vsl true [] 0):=⟨_,rfl⟩;have s6:List.take 145 C5 ++ D.vsl true [] 0 :: List.drop 146 C5 = C6:=by rw [YS];exact jo (by omega)
 have l6:C6.length = 147:=by rw [YS,vt];exact l5
 obtain ⟨K6,vz⟩:∃ T,ql K5 H.length C6 = T:=⟨_,rfl⟩;have p6:qe K6 H.length = some C6:=by rw [← vz];exact qV (qt p5)
 have own:∀ {A B:qd} {C:List D},Ext [] H A→ql A H.length C = B→Ext [] H B:=fun {A B C} ha hb=>by
  have y:Ext [H.length] A B:=hb ▸ Ext.set A _ _;exact ⟨by have:=ha.len;have:=y.len;omega,fun i hi _=>by rw [y.out i (by have:=ha.len;omega) (by simp;omega),ha.out i hi (by simp)]⟩
 have z6:Ext [] H K6:=own (own (own (z2.trans x3 (NewL.refl _ _)) JF) jP) vz;have hnda:=hk.nda;simp [-qe,-ql,-qo,-zj,-qM,Tryz.f76,r0,qY,vD,hcl1,j7,qN,Y6,c143,vm,q1,hA1,p1,lt1,s1,l1,jQ,q3,c146,hA3,p3,lt3,s3,l3,JF,p4,s5,jP,p5,l5,s6,vz];refine Run.loopThen (fun (i:Nat) e K=>i≤m.da.length∧qg e 0 = some (.optr q 147 0)∧qg e 3 = some (.optr H.length 147 0)∧qg e 4 = some (.int .i64 i)∧Ext [] H K∧∃ C v cs L,qe K H.length = some C∧C.length = 147∧C[144]? = some v∧C[145]? = some (.vsl true [] 0)∧RowA K 5 v cs L∧cs.length = i * 5∧(∀ j,j∈L→H.length < j)) (fun i=>m.da.length - i) 0 ?_ ?_
 ·exact ⟨vf _,by simp,by simp,by simp,z6,C6,.vsl true [] 0,[],[],p6,l6,by rw [YS,List.getElem?_set_ne (by omega),Zs,List.getElem?_set_self (by omega)],by rw [YS,List.getElem?_set_self (by omega)],RowA.nil _ _,rfl,by simp⟩
 rintro i e K ⟨hi,k0,k3,k4,zK,C,v,cs,L,gC,lC,v144,v145,hR,hcs,hpL⟩;have wK:=Va h zK;have rK:=wK.root;by_cases qi:i < m.da.length
 ·have qq:(i:Int) < (m.da.length:Int):=by omega
  have hw:IntKind.i64.wrap ((i:Int)+1) = ((i+1:Nat):Int):=by rw [wrap_i64] <;> omega
  obtain ⟨k,r,Ji,jU,vc,Qt,zN⟩:=Y1 qi;have qH:qk m.da≠[]:=fun e0=>by rw [e0] at jU;simp at jU
  obtain ⟨ro,nn,hfv,vH,Qq,hLf⟩:=wK.rowD.own qH
  have jb:nn = m.da.length:=by
   have:=Qv m.da;rw [this] at vH;simp at vH;omega
  have zJ:(qk m.da).length = m.da.length * 5:=by rw [vH,jb]
  rw [jb] at hfv;rw [hfv] at c144;have hka:=hk.da k Ji;have hkc:=hk.cn k Ji;have Qo:=hk.ne;have XE:=qee hka.arr;obtain ⟨Ka,ky⟩:∃ T,qo K [.str k.text,.int .u64 (k.at_:Nat),.int .i64 (k.slot:Nat),.int .i64 (k.cnt:Nat),.vsl k.nil (qy .u64 k.arrs) k.arrs.length] = T:=⟨_,rfl⟩;have xa:Ext [] K Ka:=ky ▸ Ext.new K _;have ta:qe Ka K.length = some [.str k.text,.int .u64 (k.at_:Nat),.int .i64 (k.slot:Nat),.int .i64 (k.cnt:Nat),.vsl k.nil (qy .u64 k.arrs) k.arrs.length]:=by rw [← ky,qN]
  have ta2:qe (qo Ka []) K.length = some [.str k.text,.int .u64 (k.at_:Nat),.int .i64 (k.slot:Nat),.int .i64 (k.cnt:Nat),.vsl k.nil (qy .u64 k.arrs) k.arrs.length]:=by rw [jF (qt ta)];exact ta
  obtain ⟨ab,nb,Kb,hAb,xb,ltb⟩:=qkg Ka k.nil k.arrs hka.nil (by omega);have tb:qe Kb K.length = some [.str k.text,.int .u64 (k.at_:Nat),.int .i64 (k.slot:Nat),.int .i64 (k.cnt:Nat),.vsl k.nil (qy .u64 k.arrs) k.arrs.length]:=xb.get ta (by simp);obtain ⟨c5,XM⟩:∃ c:List D,c = [.str k.text,.int .u64 (k.at_:Nat),.int .i64 (k.slot:Nat),.int .i64 (k.cnt:Nat),.osl ab nb 0 nb 1]:=⟨_,rfl⟩;obtain ⟨Kc,QT⟩:∃ T,ql Kb K.length c5 = T:=⟨_,rfl⟩;have tc:qe Kc K.length = some c5:=by rw [← QT];exact qV (qt tb)
  have yc:Ext [K.length] Kb Kc:=QT ▸ Ext.set Kb _ _;have hpK:H.length < K.length:=qt gC;have pC:qe Kc H.length = some C:=yc.get (xb.get (xa.get gC (by simp)) (by simp)) (by simp;omega);have Q5:=zD v144;have l5c:c5.length = 5:=by rw [XM];rfl
  have t5c:List.take 5 c5 = c5:=qP (by omega);obtain ⟨Kd,hKd⟩:∃ T,qo Kc c5 = T:=⟨_,rfl⟩;have xd:Ext [] Kc Kd:=hKd ▸ Ext.new Kc _;have td:qe Kd Kc.length = some c5:=by rw [← hKd,qN]
  obtain ⟨pc,hpc⟩:∃ p,p = Kc.length:=⟨_,rfl⟩
  have cl5:(∀ x,x∈c5→closed pc x = true) = True:=eq_true (fun x hx=>by
   have hab:ab < pc:=(by have:=yc.len;omega);rw [XM] at hx;simp only [zA,List.not_mem_nil,or_false] at hx;rcases hx with rfl | rfl | rfl | rfl | rfl
   ·rfl
   ·rfl
   ·rfl
   ·rfl
   ·simp [closed];exact hab)
  rw [← hpc] at td
  have hKne:Kc≠[]:=fun h0=>by
   have:=qt tc;rw [h0] at this;simp at this
  have rd:=(((hR.ext xa (fun _ _=>by simp)).ext xb (fun _ _=>by simp)).ext yc (fun j hj hc=>by
   have:=hR.lt hj;rw [List.mem_singleton.1 hc] at this;omega)).ext xd (fun _ _=>by simp)
  obtain ⟨v',Ke,L',hAe,hRe,xe,ne⟩:=rd.append (P:=Tryz.prog) (st:=118) (xt:=118) (e:=157) (x:=.osl pc 5 0 1 5) (xs:=c5) (m:=1) (by simp) (by simp) (by simp [-qe,td,l5c,t5c]) (by simp) (by omega) (by rw [l5c]) (by omega) (by rw [hcs];simp [qw];omega) (by rw [hcs];simp [qw];omega)
  have hnec:cs ++ c5≠[]:=fun h0=>by
   have:=congrArg List.length h0;simp at this;rw [this.2] at l5c;simp at l5c
  obtain ⟨re,je,hve,KR,vd,hLe⟩:=hRe.own hnec;obtain ⟨ze,hze⟩:∃ z,z = (cs ++ c5).length:=⟨_,rfl⟩;rw [← hze] at hve;have hlte:re < Ke.length:=qt vd;subst hve;have pD:qe Kd H.length = some C:=xd.get pC (by simp);have pE:qe Ke H.length = some C:=xe.get pD (fun hc=>Nat.lt_irrefl _ (hpL _ hc));obtain ⟨C',hC'⟩:∃ C',C' = C.set 144 (D.osl re ze 0 je 5):=⟨_,rfl⟩;have s144:List.take 144 C ++ D.osl re ze 0 je 5 :: List.drop 145 C = C':=by rw [hC'];exact jo (by omega)
  obtain ⟨Kf,hKf⟩:∃ T,ql Ke H.length C' = T:=⟨_,rfl⟩;simp [-qe,-ql,-qo,-qM,-Kn.ea,k0,k3,k4,rK,qY,c144,qq,hw,Qq,zJ,jU,qN,Y6,ky,ta2,hAb,tb,ltb,← XM,QT,tc,pC,lC,Q5,l5c,t5c,← hpc,hKd,hKne,hAe,pE,hlte,s144,hKf];have hlenE:H.length < Ke.length:=qt pE
  have zE:Ext [] H Ke:=by
   refine ⟨by omega,fun j hj _=>?_⟩;have e1:=zK.len;have e2:=xa.len;have e3:=xb.len;have e4:=yc.len;have e5:=xd.len;rw [xe.out j (by omega) (fun hc=>by have:=hpL j hc;omega),xd.out j (by omega) (by simp),yc.out j (by omega) (by simp;omega),xb.out j (by omega) (by simp),xa.out j (by omega) (by simp),zK.out j hj (by simp)]
  have hL':∀ j,j∈L'→H.length < j:=fun j hj=>by
   rcases ne j hj with h1 | h1
   ·exact hpL j h1
   ·have:=qt pD;omega
  have rf:=hRe.ext (hKf ▸ Ext.set Ke H.length C':Ext [H.length] Ke Kf) (fun j hj hc=>by
   have:=hL' j hj;rw [List.mem_singleton.1 hc] at this;omega)
  exact ⟨i+1,by omega,by omega,rfl,own zE hKf,C',by rw [← hKf];exact qV hlenE,by rw [hC',vt];exact lC,_,by rw [hC'];exact List.getElem?_set_self (by omega),by rw [hC',List.getElem?_set_ne (by omega)];exact v145,cs ++ c5,L',rf,by rw [qX,hcs,l5c];omega,hL'⟩
 ·have qq:¬ (i:Int) < (m.da.length:Int):=by omega
  have hlenD:zj Tryz.prog 118 m.dv = some (.int .i64 m.da.length):=by
   have zJ:=Qv m.da;rcases h.rowD with ⟨hv,VD,_⟩ | ⟨ro,nn,hv,Q9,_,_⟩
   ·rw [VD] at zJ;have:m.da.length = 0:=(by simp at zJ;omega);rw [hv,this];simp
   ·have:nn = m.da.length:=by
     rw [zJ] at Q9;simp at Q9;omega
    rw [hv,this];simp
  have c145:=zD h.c145;have d145:=zD v145;have hnfi:=hk.nfi;obtain ⟨dv,Kg,hAg,xg,XL⟩:=qwd wK.rowF (by rw [Qv];simp;omega);have pg:qe Kg H.length = some C:=xg.get gC (by simp);obtain ⟨Cg,hCg⟩:∃ X,X = C.set 145 dv:=⟨_,rfl⟩;have sg:List.take 145 C ++ dv :: List.drop 146 C = Cg:=by rw [hCg];exact jo (by omega)
  obtain ⟨Kh,hKh⟩:∃ T,ql Kg H.length Cg = T:=⟨_,rfl⟩;have zh:Ext [] H Kh:=own (zK.trans xg (NewL.refl _ _)) hKh;rcases XL with rfl | ⟨r,z,k,rfl,hr⟩
  ·simp [-qe,-ql,-qo,-zj,-qM,k0,k3,k4,rK,qY,c144,c145,d145,qq,hlenD,gC,lC,hAg,pg,sg,hKh];exact zh
  ·simp [-qe,-ql,-qo,-zj,-qM,k0,k3,k4,rK,qY,c144,c145,d145,qq,hlenD,gC,lC,hAg,pg,sg,hKh,hr];exact zh
theorem qfz [MaxL] [TxtC] {H:qd} {q:Nat} {m:Jm} (h:JmW H q m):call cx 52 [.optr q 147 0] H = some (.int .u64 (m.tl:Nat),H):=by
 refine Zt (X:=cx) (f:=52) (fun r=>r = (.int .u64 (m.tl:Nat),H)) Tryz.func52 rfl ⟨rfl,rfl⟩ ?_ |>.elim fun r hr=>by rw [hr.1,hr.2]
 have r0:=h.root;have qY:=h.len;have c:=zD h.c128;simp [-qe,-ql,-qo,Tryz.f52,r0,qY,c]
theorem qtf (v0 v1:Nat) (st:Int) (ids:List UInt8) (ns:List D) (v2 v3 v4:Nat) (V6:Zh ns):idFree.idFreeL (Jk v0 v1 st ids ns v2 v3 v4) = true:=by
 rw [kO];unfold Jk;have:=qa7 V6;simp only [qal,List.all_append,this];simp [idFree]
theorem qr8 {H:qd} {q:Nat} {m:Jm} (h:JmW H q m):∃ (ids:List UInt8) (ns:List D) (v2 v3 v4:Nat),ids.length = 64∧Zh ns∧ns.length = 20∧v2 < 4294967296∧v3 < 4294967296∧v4 < 18446744073709551616∧List.take 90 (List.drop 52 m.cs) = Jk 2 (if m.key then 4 else 0) 1 ids ns v2 v3 v4:=by
 have qY:=h.len;have d52:=zD h.c52;have d53:=zD h.c53;have d54:=zD h.c54;obtain ⟨a,b,c,d,hids⟩:=h.ids;obtain ⟨v2,h139,zQ⟩:=h.c139;obtain ⟨v3,h140,hv3⟩:=h.c140;obtain ⟨_,h141,v4,rfl,hv4⟩:=h.c141;have d139:=zD h139;have d140:=zD h140;have d141:=zD h141;obtain ⟨ns,V6⟩:∃ ns,ns = List.take 20 (List.drop 119 m.cs):=⟨_,rfl⟩
 have e55:List.drop 55 m.cs = List.take 64 (List.drop 55 m.cs) ++ List.drop 119 m.cs:=by
  have:=(qem 64 (List.drop 55 m.cs)).symm
  rwa [kA] at this
 have e119:List.drop 119 m.cs = ns ++ List.drop 139 m.cs:=by
  have:=(qem 20 (List.drop 119 m.cs)).symm;rw [kA] at this;rw [V6];exact this
 have zq:ns.length = 20:=by rw [V6,kt,Zb,qY];rfl
 have la:=a.h;have lb:=b.h;have lc:=c.h;have ld:=d.h;refine ⟨a.l ++ (b.l ++ (c.l ++ d.l)),ns,v2,v3,v4,by simp [la,lb,lc,ld],fun x hx=>?_,zq,zQ,hv3,hv4,?_⟩
 ·obtain ⟨i,he⟩:=List.getElem?_of_mem hx
  have hi:i < 20:=by
   have:=(List.getElem?_eq_some_iff.1 he).1;omega
  rw [V6] at he;rw [List.getElem?_take_of_lt hi,ke] at he;obtain ⟨y,hy,hu⟩:=h.nums (119+i) (by omega) (by omega);rw [hy] at he;injection he with he;exact he ▸ hu
 ·have jH:List.drop 52 m.cs = Jk 2 (if m.key then 4 else 0) 1 (a.l ++ (b.l ++ (c.l ++ d.l))) ns v2 v3 v4 ++ List.drop 142 m.cs:=by
   rw [d52,d53,d54,e55,hids,e119,d139,d140,d141];unfold Jk;cases m.key <;> simp [qf]
  rw [jH];exact List.take_left' (by unfold Jk;simp [zq,la,lb,lc,ld])
set_option maxHeartbeats 8000000 in
set_option maxRecDepth 10000 in
theorem qrF [MaxL] [TxtC] {H:qd} {q:Nat} {m:Jm} (h:JmW H q m) (hk:m.Ok) :
  ∃ T s,call cx 21 [.optr q 147 0,.int .i64 1] H = some (.vsl false (qf s) s.length,T)∧Ext [] H T∧s.length = m.b.length:=by
 suffices hs:∃ r,call cx 21 [.optr q 147 0,.int .i64 1] H = some r∧∃ (T:qd) (s:List UInt8),r = (.vsl false (qf s) s.length,T)∧Ext [] H T∧s.length = m.b.length by
  obtain ⟨r,hc,T,s,rfl,h1⟩:=hs;exact ⟨T,s,hc,h1⟩
 refine Zt (X:=cx) (f:=21) _ Tryz.func21 rfl ⟨rfl,rfl⟩ ?_;have r0:=h.root;have qY:=h.len;obtain ⟨HC,hHC⟩:∃ c,c = List.take 90 (List.drop 52 m.cs):=⟨_,rfl⟩;have lHC:HC.length = 90:=by rw [hHC,kt,Zb,qY];rfl
 have tHC:List.take 90 HC = HC:=qP (by omega);have hcl1:∀ n,H.length≤n→(∀ x,x∈HC→closed n x = true) = True:=fun n hn=>eq_true (fun x hx=>qiM h hn x (by rw [hHC] at hx;exact QG (JQ hx)));have j7:∀ a,H.length≤(qo H a).length:=fun a=>by rw [zG];omega
 have hq:q < H.length:=qt h.root;have c143:=zD h.c143;obtain ⟨_,hd142,dp,rfl,hdp⟩:=h.c142;have d142:=zD hd142;have jG:=hk.bl;have hbm:=hk.bmax;have hft:=hk.ft;obtain ⟨C2,jh⟩:∃ C,C = HC.set 2 (.int .i64 1):=⟨_,rfl⟩;have s2:List.take 2 HC ++ D.int .i64 1 :: List.drop 3 HC = C2:=by rw [jh];exact jo (by omega)
 have l2:C2.length = 90:=by rw [jh,vt];exact lHC
 obtain ⟨z,hz⟩:∃ z,z = m.b.length - 272:=⟨_,rfl⟩;have w1:IntKind.i64.wrap ((m.b.length:Int) - 272) = (z:Int):=by rw [wrap_i64] <;> omega
 have w2:IntKind.u64.wrap (z:Int) = (z:Int):=by rw [qF] <;> omega
 obtain ⟨C3,JG⟩:∃ C,C = C2.set 68 (.int .u64 (z:Nat)):=⟨_,rfl⟩;have s3:List.take 68 C2 ++ D.int .u64 (z:Nat) :: List.drop 69 C2 = C3:=by rw [JG];exact jo (by omega)
 have l3:C3.length = 90:=by rw [JG,vt];exact l2
 have t3:List.take 90 C3 = C3:=qP (by omega);have gq:∀ a,qe (qo H a) q = some m.cs:=fun a=>by rw [jF hq];exact r0
 have e272:(272:Int)≤(m.b.length:Int):=by omega
 have e272n:272 < m.b.length:=by omega
 obtain ⟨ids,ns,v2,v3,v4,KT,V6,zq,zQ,hv3,hv4,hH⟩:=qr8 h
 have hns':Zh (ns.set 1 (.int .u64 (z:Nat))):=fun d hd=>by
  rcases qb7 hd with h1 | h1
  ·exact V6 d h1
  ·exact ⟨z,h1,by omega⟩
 have hC3h:C3 = Jk 2 (if m.key then 4 else 0) 1 ids (ns.set 1 (.int .u64 (z:Nat))) v2 v3 v4:=by
  rw [JG,jh,hHC,hH];unfold Jk;simp [KT,zq]
 obtain ⟨_,hhb,sh,lsh,rfl⟩:=qsW 2 (if m.key then 4 else 0) 1 ids (ns.set 1 (.int .u64 (z:Nat))) v2 v3 v4 dp (by omega) (by split <;> omega) KT hns' (by rw [vt];exact zq) zQ hv3 hv4 hdp;rw [← hC3h] at hhb;have hfr:idFree.idFreeL C3 = true:=by rw [hC3h];exact qtf _ _ _ _ _ _ _ _ hns'
 replace hhb:call cx 55 [.agg C3,.int .u64 dp] [] = some (.osl 0 272 0 272 1,[some (qf sh)]):=hhb;obtain ⟨K1,jv⟩:∃ T,qo H C3 = T:=⟨_,rfl⟩;obtain ⟨K2,jQ⟩:∃ T:qd,K1 ++ [some (qf sh)] = T:=⟨_,rfl⟩;have hK2':qo K1 (qf sh) = K2:=jQ;have t1:qe K1 H.length = some C3:=by rw [← jv,qN]
 have q1:qe K1 q = some m.cs:=by rw [← jv];exact gq _
 have x1:Ext [] H K1:=jv ▸ Ext.new H _;have x2:Ext [] K1 K2:=hK2' ▸ Ext.new K1 _;have x12:=x1.trans x2 (NewL.refl _ _);have q2:qe K2 q = some m.cs:=x12.get r0 (by simp);have b2:qe K2 m.bi = some (qf m.b):=x12.get h.bytes (by simp);obtain ⟨p1,vx⟩:∃ p,p = K1.length:=⟨_,rfl⟩;have g1:qe K2 p1 = some (qf sh):=by rw [← hK2',vx,qN]
 have hrow:RowA K2 1 (.osl p1 272 0 272 1) (qf sh) [p1]:=by
  have:=RowA.of (H:=K2) (k:=1) (n:=272) (cs:=qf sh) (by simp [lsh]) g1;rw [Xv,lsh] at this;exact this
 have xdl:((qf m.b).drop 272).length = z:=by simp;omega
 obtain ⟨d,T,L,hA,hR,hX,hN⟩:=hrow.append (P:=Tryz.prog) (st:=26) (xt:=26) (e:=5) (x:=.osl m.bi m.b.length 272 z 1) (xs:=(qf m.b).drop 272) (m:=z) (by simp) (by simp) (by have ht:List.take z (List.drop 272 (qf m.b)) = List.drop 272 (qf m.b):=qP (by omega);have hb:272+z≤m.b.length:=(by omega);simp [-qe,b2,ht,hb]) (by simp) (by omega) (by rw [xdl];omega) (by omega) (by simp [qw];omega) (by simp [qw];omega);have hcat:qf sh ++ (qf m.b).drop 272 = qf (sh ++ m.b.drop 272):=by simp [qf]
 rw [hcat] at hR;have ko:(sh ++ m.b.drop 272).length = m.b.length:=by simp [lsh];omega
 obtain ⟨S,hS⟩:∃ S,S = sh ++ m.b.drop 272:=⟨_,rfl⟩;rw [← hS] at hR ko;obtain ⟨r,j,rfl,hj,hgT,hL⟩:=hR.own (by intro h0;have:=congrArg List.length h0;simp at this;rw [this] at ko;simp at ko;omega);rw [Xv,Nat.mul_one] at hj;subst hj;rw [Xv] at hA;simp [-qe,-ql,-qo,-qM,Tryz.f21,r0,qY,qN,Y6,← hHC,lHC,hcl1,j7,c143,d142,s2,l2,w1,w2,s3,l3,t3,gq,hfr,hhb,e272,e272n,← hz,jv,jQ,t1,q1,q2,← vx,hA,hgT]
 have hrH:H.length≤r:=by
  rcases hN r (by rw [hL];simp) with h1 | h1
  ·rw [List.mem_singleton.1 h1,vx];exact x1.len
  ·have:=x12.len;omega
 have hp1H:H.length≤p1:=by rw [vx];exact x1.len
 have zc:=qjK T r;refine ⟨_,S,⟨⟨rfl,rfl⟩,rfl⟩,⟨?_,fun i hi _=>?_⟩,ko⟩
 ·have e1:=x12.len;have e2:=hX.len;have e3:=zc.len;exact jA e1 (jA e2 e3)
 ·have e1:=x12.len;have e2:=hX.len;have e4:=zc.out i (by omega) (by simp;omega);have e5:=hX.out i (by omega) (by simp;omega);have e6:=x12.out i hi (by simp);exact e4.trans (e5.trans e6)
theorem qr5 {H:qd} {q:Nat} {m:Jm} (h:JmW H q m) (v:Nat) (hv:v < 18446744073709551616):JmW (ql H q (m.cs.set 127 (.int .u64 (v:Nat)))) q { m with cs:=(m.cs.set 127 (.int .u64 (v:Nat))),ne:=v }:=by
 obtain ⟨q1,q2,q3⟩:=J2 h;have qi:127 < m.cs.length:=by rw [h.len];omega
 have hs:∀ {j:Nat} {x:D},127≠j→m.cs[j]? = some x→(m.cs.set 127 (.int .u64 (v:Nat)))[j]? = some x:=fun hj hx=>Xo hj hx
 exact { h with
  root:=qV (qt h.root)
  len:=by simp only;rw [vt];exact h.len
  file:=by simp only;rw [List.take_set_of_le (by omega)];exact h.file
  ids:=by
   obtain ⟨a,b,c,e,he⟩:=h.ids;refine ⟨a,b,c,e,?_⟩;simp only;rw [List.drop_set,if_neg (by omega),List.take_set_of_le (by omega)];exact he
  c48:=hs (by omega) h.c48
  c49:=hs (by omega) h.c49
  c50:=hs (by omega) h.c50
  c51:=hs (by omega) h.c51
  c52:=hs (by omega) h.c52
  c53:=hs (by omega) h.c53
  c54:=hs (by omega) h.c54
  c119:=hs (by omega) h.c119
  c121:=hs (by omega) h.c121
  c122:=hs (by omega) h.c122
  c123:=hs (by omega) h.c123
  c124:=hs (by omega) h.c124
  c127:=by simp only;rw [List.getElem?_set_self qi]
  c128:=hs (by omega) h.c128
  c143:=hs (by omega) h.c143
  c144:=hs (by omega) h.c144
  c145:=hs (by omega) h.c145
  c146:=hs (by omega) h.c146
  nums:=fun j h1 h2=>by
   by_cases qR:127 = j
   ·subst qR;exact ⟨_,by simp only;rw [List.getElem?_set_self qi],v,rfl,hv⟩
   ·obtain ⟨x,hx,hu⟩:=h.nums j h1 h2;exact ⟨x,hs qR hx,hu⟩
  c139:=by obtain ⟨v,hv,zQ⟩:=h.c139;exact ⟨v,hs (by omega) hv,zQ⟩
  c140:=by obtain ⟨v,hv,zQ⟩:=h.c140;exact ⟨v,hs (by omega) hv,zQ⟩
  c141:=by obtain ⟨x,hx,hu⟩:=h.c141;exact ⟨x,hs (by omega) hx,hu⟩
  c142:=by obtain ⟨x,hx,hu⟩:=h.c142;exact ⟨x,hs (by omega) hx,hu⟩
  free:=XS h.free (fun _=>rfl)
  bytes:=by rw [qZ q1];exact h.bytes
  rowD:=h.rowD.ext (Ext.set H q _) (fun j hj e=>q2 (by rw [← List.mem_singleton.1 e];exact hj))
  rowF:=h.rowF.ext (Ext.set H q _) (fun j hj e=>q3 (by rw [← List.mem_singleton.1 e];exact hj)) }
theorem qr3 {H:qd} {q:Nat} {m:Jm} (h:JmW H q m) (v:Nat) (hv:v < 18446744073709551616):JmW (ql H q (m.cs.set 128 (.int .u64 (v:Nat)))) q { m with cs:=(m.cs.set 128 (.int .u64 (v:Nat))),tl:=v }:=by
 obtain ⟨q1,q2,q3⟩:=J2 h;have qi:128 < m.cs.length:=by rw [h.len];omega
 have hs:∀ {j:Nat} {x:D},128≠j→m.cs[j]? = some x→(m.cs.set 128 (.int .u64 (v:Nat)))[j]? = some x:=fun hj hx=>Xo hj hx
 exact { h with
  root:=qV (qt h.root)
  len:=by simp only;rw [vt];exact h.len
  file:=by simp only;rw [List.take_set_of_le (by omega)];exact h.file
  ids:=by
   obtain ⟨a,b,c,e,he⟩:=h.ids;refine ⟨a,b,c,e,?_⟩;simp only;rw [List.drop_set,if_neg (by omega),List.take_set_of_le (by omega)];exact he
  c48:=hs (by omega) h.c48
  c49:=hs (by omega) h.c49
  c50:=hs (by omega) h.c50
  c51:=hs (by omega) h.c51
  c52:=hs (by omega) h.c52
  c53:=hs (by omega) h.c53
  c54:=hs (by omega) h.c54
  c119:=hs (by omega) h.c119
  c121:=hs (by omega) h.c121
  c122:=hs (by omega) h.c122
  c123:=hs (by omega) h.c123
  c124:=hs (by omega) h.c124
  c127:=hs (by omega) h.c127
  c128:=by simp only;rw [List.getElem?_set_self qi]
  c143:=hs (by omega) h.c143
  c144:=hs (by omega) h.c144
  c145:=hs (by omega) h.c145
  c146:=hs (by omega) h.c146
  nums:=fun j h1 h2=>by
   by_cases qR:128 = j
   ·subst qR;exact ⟨_,by simp only;rw [List.getElem?_set_self qi],v,rfl,hv⟩
   ·obtain ⟨x,hx,hu⟩:=h.nums j h1 h2;exact ⟨x,hs qR hx,hu⟩
  c139:=by obtain ⟨v,hv,zQ⟩:=h.c139;exact ⟨v,hs (by omega) hv,zQ⟩
  c140:=by obtain ⟨v,hv,zQ⟩:=h.c140;exact ⟨v,hs (by omega) hv,zQ⟩
  c141:=by obtain ⟨x,hx,hu⟩:=h.c141;exact ⟨x,hs (by omega) hx,hu⟩
  c142:=by obtain ⟨x,hx,hu⟩:=h.c142;exact ⟨x,hs (by omega) hx,hu⟩
  free:=XS h.free (fun _=>rfl)
  bytes:=by rw [qZ q1];exact h.bytes
  rowD:=h.rowD.ext (Ext.set H q _) (fun j hj e=>q2 (by rw [← List.mem_singleton.1 e];exact hj))
  rowF:=h.rowF.ext (Ext.set H q _) (fun j hj e=>q3 (by rw [← List.mem_singleton.1 e];exact hj)) }
theorem qr2 {H:qd} {q:Nat} {m:Jm} (h:JmW H q m) (v:Nat) (hv:v < 4294967296):JmW (ql H q (m.cs.set 139 (.int .u32 (v:Nat)))) q { m with cs:=(m.cs.set 139 (.int .u32 (v:Nat))) }:=by
 obtain ⟨q1,q2,q3⟩:=J2 h;have qi:139 < m.cs.length:=by rw [h.len];omega
 have hs:∀ {j:Nat} {x:D},139≠j→m.cs[j]? = some x→(m.cs.set 139 (.int .u32 (v:Nat)))[j]? = some x:=fun hj hx=>Xo hj hx
 exact { h with
  root:=qV (qt h.root)
  len:=by simp only;rw [vt];exact h.len
  file:=by simp only;rw [List.take_set_of_le (by omega)];exact h.file
  ids:=by
   obtain ⟨a,b,c,e,he⟩:=h.ids;refine ⟨a,b,c,e,?_⟩;simp only;rw [List.drop_set,if_neg (by omega),List.take_set_of_le (by omega)];exact he
  c48:=hs (by omega) h.c48
  c49:=hs (by omega) h.c49
  c50:=hs (by omega) h.c50
  c51:=hs (by omega) h.c51
  c52:=hs (by omega) h.c52
  c53:=hs (by omega) h.c53
  c54:=hs (by omega) h.c54
  c119:=hs (by omega) h.c119
  c121:=hs (by omega) h.c121
  c122:=hs (by omega) h.c122
  c123:=hs (by omega) h.c123
  c124:=hs (by omega) h.c124
  c127:=hs (by omega) h.c127
  c128:=hs (by omega) h.c128
  c143:=hs (by omega) h.c143
  c144:=hs (by omega) h.c144
  c145:=hs (by omega) h.c145
  c146:=hs (by omega) h.c146
  nums:=fun j h1 h2=>by
   obtain ⟨x,hx,hu⟩:=h.nums j h1 h2;exact ⟨x,hs (by omega) hx,hu⟩
  c139:=⟨v,by simp only;rw [List.getElem?_set_self qi],hv⟩
  c140:=by obtain ⟨v,hv,zQ⟩:=h.c140;exact ⟨v,hs (by omega) hv,zQ⟩
  c141:=by obtain ⟨x,hx,hu⟩:=h.c141;exact ⟨x,hs (by omega) hx,hu⟩
  c142:=by obtain ⟨x,hx,hu⟩:=h.c142;exact ⟨x,hs (by omega) hx,hu⟩
  free:=XS h.free (fun _=>rfl)
  bytes:=by rw [qZ q1];exact h.bytes
  rowD:=h.rowD.ext (Ext.set H q _) (fun j hj e=>q2 (by rw [← List.mem_singleton.1 e];exact hj))
  rowF:=h.rowF.ext (Ext.set H q _) (fun j hj e=>q3 (by rw [← List.mem_singleton.1 e];exact hj)) }
theorem qr1 {H:qd} {q:Nat} {m:Jm} (h:JmW H q m) (v:Nat) (hv:v < 4294967296):JmW (ql H q (m.cs.set 140 (.int .u32 (v:Nat)))) q { m with cs:=(m.cs.set 140 (.int .u32 (v:Nat))) }:=by
 obtain ⟨q1,q2,q3⟩:=J2 h;have qi:140 < m.cs.length:=by rw [h.len];omega
 have hs:∀ {j:Nat} {x:D},140≠j→m.cs[j]? = some x→(m.cs.set 140 (.int .u32 (v:Nat)))[j]? = some x:=fun hj hx=>Xo hj hx
 exact { h with
  root:=qV (qt h.root)
  len:=by simp only;rw [vt];exact h.len
  file:=by simp only;rw [List.take_set_of_le (by omega)];exact h.file
  ids:=by
   obtain ⟨a,b,c,e,he⟩:=h.ids;refine ⟨a,b,c,e,?_⟩;simp only;rw [List.drop_set,if_neg (by omega),List.take_set_of_le (by omega)];exact he
  c48:=hs (by omega) h.c48
  c49:=hs (by omega) h.c49
  c50:=hs (by omega) h.c50
  c51:=hs (by omega) h.c51
  c52:=hs (by omega) h.c52
  c53:=hs (by omega) h.c53
  c54:=hs (by omega) h.c54
  c119:=hs (by omega) h.c119
  c121:=hs (by omega) h.c121
  c122:=hs (by omega) h.c122
  c123:=hs (by omega) h.c123
  c124:=hs (by omega) h.c124
  c127:=hs (by omega) h.c127
  c128:=hs (by omega) h.c128
  c143:=hs (by omega) h.c143
  c144:=hs (by omega) h.c144
  c145:=hs (by omega) h.c145
  c146:=hs (by omega) h.c146
  nums:=fun j h1 h2=>by
   obtain ⟨x,hx,hu⟩:=h.nums j h1 h2;exact ⟨x,hs (by omega) hx,hu⟩
  c139:=by obtain ⟨v,hv,zQ⟩:=h.c139;exact ⟨v,hs (by omega) hv,zQ⟩
  c140:=⟨v,by simp only;rw [List.getElem?_set_self qi],hv⟩
  c141:=by obtain ⟨x,hx,hu⟩:=h.c141;exact ⟨x,hs (by omega) hx,hu⟩
  c142:=by obtain ⟨x,hx,hu⟩:=h.c142;exact ⟨x,hs (by omega) hx,hu⟩
  free:=XS h.free (fun _=>rfl)
  bytes:=by rw [qZ q1];exact h.bytes
  rowD:=h.rowD.ext (Ext.set H q _) (fun j hj e=>q2 (by rw [← List.mem_singleton.1 e];exact hj))
  rowF:=h.rowF.ext (Ext.set H q _) (fun j hj e=>q3 (by rw [← List.mem_singleton.1 e];exact hj)) }
theorem qr6 {H:qd} {q:Nat} {m:Jm} (h:JmW H q m) (arrs:List Nat):JmW (ql H q (m.cs.set 146 (.vsl false (qy .u64 arrs) arrs.length))) q { m with cs:=(m.cs.set 146 (.vsl false (qy .u64 arrs) arrs.length)),mn:=false,main:=arrs }:=by
 obtain ⟨q1,q2,q3⟩:=J2 h;have qi:146 < m.cs.length:=by rw [h.len];omega
 have hs:∀ {j:Nat} {x:D},146≠j→m.cs[j]? = some x→(m.cs.set 146 (.vsl false (qy .u64 arrs) arrs.length))[j]? = some x:=fun hj hx=>Xo hj hx
 exact { h with
  root:=qV (qt h.root)
  len:=by simp only;rw [vt];exact h.len
  file:=by simp only;rw [List.take_set_of_le (by omega)];exact h.file
  ids:=by
   obtain ⟨a,b,c,e,he⟩:=h.ids;refine ⟨a,b,c,e,?_⟩;simp only;rw [List.drop_set,if_neg (by omega),List.take_set_of_le (by omega)];exact he
  c48:=hs (by omega) h.c48
  c49:=hs (by omega) h.c49
  c50:=hs (by omega) h.c50
  c51:=hs (by omega) h.c51
  c52:=hs (by omega) h.c52
  c53:=hs (by omega) h.c53
  c54:=hs (by omega) h.c54
  c119:=hs (by omega) h.c119
  c121:=hs (by omega) h.c121
  c122:=hs (by omega) h.c122
  c123:=hs (by omega) h.c123
  c124:=hs (by omega) h.c124
  c127:=hs (by omega) h.c127
  c128:=hs (by omega) h.c128
  c143:=hs (by omega) h.c143
  c144:=hs (by omega) h.c144
  c145:=hs (by omega) h.c145
  c146:=by simp only;rw [List.getElem?_set_self qi]
  nums:=fun j h1 h2=>by
   obtain ⟨x,hx,hu⟩:=h.nums j h1 h2;exact ⟨x,hs (by omega) hx,hu⟩
  c139:=by obtain ⟨v,hv,zQ⟩:=h.c139;exact ⟨v,hs (by omega) hv,zQ⟩
  c140:=by obtain ⟨v,hv,zQ⟩:=h.c140;exact ⟨v,hs (by omega) hv,zQ⟩
  c141:=by obtain ⟨x,hx,hu⟩:=h.c141;exact ⟨x,hs (by omega) hx,hu⟩
  c142:=by obtain ⟨x,hx,hu⟩:=h.c142;exact ⟨x,hs (by omega) hx,hu⟩
  free:=XS h.free (fun hi=>by omega)
  bytes:=by rw [qZ q1];exact h.bytes
  rowD:=h.rowD.ext (Ext.set H q _) (fun j hj e=>q2 (by rw [← List.mem_singleton.1 e];exact hj))
  rowF:=h.rowF.ext (Ext.set H q _) (fun j hj e=>q3 (by rw [← List.mem_singleton.1 e];exact hj)) }
theorem qrB {H:qd} {q:Nat} {m:Jm} (h:JmW H q m) (o:ID):JmW (ql H q (List.take 87 m.cs ++ (qf o.l ++ List.drop 103 m.cs))) q { m with cs:=(List.take 87 m.cs ++ (qf o.l ++ List.drop 103 m.cs)) }:=by
 obtain ⟨q1,q2,q3⟩:=J2 h;have l1:(List.take 87 m.cs).length = 87:=by rw [kt,h.len];rfl
 have hs:∀ {j:Nat} {x:D},j < 87∨103≤j→m.cs[j]? = some x→(List.take 87 m.cs ++ (qf o.l ++ List.drop 103 m.cs))[j]? = some x:=fun {j x} hj hx=>by
  rcases hj with hj | hj
  ·rw [jX (by rw [l1];exact hj),List.getElem?_take_of_lt hj,hx]
  ·rw [ku (by rw [l1];omega),l1,ku (by rw [Xv,o.h];omega),Xv,o.h,ke,show 103+(j - 87 - 16) = j by omega,hx]
 exact { h with
  root:=qV (qt h.root)
  len:=by simp only [qX,kt,Zb,Xv,o.h,h.len];rfl
  file:=by simp only;rw [List.take_append_of_le_length (by rw [kt,h.len];omega),List.take_take];exact h.file
  ids:=by
   obtain ⟨a,b,c,e,he⟩:=h.ids;have la:=a.h;have lb:=b.h;have lc:=c.h;have le:=e.h;refine ⟨a,b,o,e,?_⟩
   have e1:List.drop 55 (List.take 87 m.cs) = qf a.l ++ qf b.l:=by
    have:=congrArg (List.take 32) he;rw [List.take_take] at this;rw [List.drop_take,show 87 - 55 = min 32 64 from rfl,this];simp [kR,la,lb,qP]
   have e2:List.take 16 (List.drop 103 m.cs) = qf e.l:=by
    have:=congrArg (List.drop 48) he;rw [List.drop_take,kA] at this;rw [show 16 = 64 - 48 from rfl,show 103 = 55+48 from rfl,this];simp [zk,la,lb,lc,List.drop_of_length_le]
   simp only;have l1:(List.take 87 m.cs).length = 87:=(by rw [kt,h.len];rfl);rw [List.drop_append_of_le_length (by omega),e1]
   have e3:List.take 64 ((qf a.l ++ qf b.l) ++ (qf o.l ++ List.drop 103 m.cs)) = (qf a.l ++ qf b.l) ++ (qf o.l ++ List.take 16 (List.drop 103 m.cs)):=by
    simp [kR,la,lb,o.h,qP]
   rw [e3,e2,ZT]
  c48:=hs (by omega) h.c48
  c49:=hs (by omega) h.c49
  c50:=hs (by omega) h.c50
  c51:=hs (by omega) h.c51
  c52:=hs (by omega) h.c52
  c53:=hs (by omega) h.c53
  c54:=hs (by omega) h.c54
  c119:=hs (by omega) h.c119
  c121:=hs (by omega) h.c121
  c122:=hs (by omega) h.c122
  c123:=hs (by omega) h.c123
  c124:=hs (by omega) h.c124
  c127:=hs (by omega) h.c127
  c128:=hs (by omega) h.c128
  c143:=hs (by omega) h.c143
  c144:=hs (by omega) h.c144
  c145:=hs (by omega) h.c145
  c146:=hs (by omega) h.c146
  nums:=fun j h1 h2=>by
   obtain ⟨x,hx,hu⟩:=h.nums j h1 h2;exact ⟨x,hs (by omega) hx,hu⟩
  c139:=by obtain ⟨v,hv,zQ⟩:=h.c139;exact ⟨v,hs (by omega) hv,zQ⟩
  c140:=by obtain ⟨v,hv,zQ⟩:=h.c140;exact ⟨v,hs (by omega) hv,zQ⟩
  c141:=by obtain ⟨x,hx,hu⟩:=h.c141;exact ⟨x,hs (by omega) hx,hu⟩
  c142:=by obtain ⟨x,hx,hu⟩:=h.c142;exact ⟨x,hs (by omega) hx,hu⟩
  free:=fun i d hi he=>by
   simp only at he;by_cases h1:i < 87
   ·rw [jX (by rw [l1];exact h1),List.getElem?_take_of_lt h1] at he;exact h.free i d hi he
   ·rw [ku (by rw [l1];omega),l1] at he;by_cases h2:i < 103
    ·rw [jX (by rw [Xv,o.h];omega)] at he;obtain ⟨c,_,rfl⟩:=List.mem_map.1 (ZS he);rfl
    ·rw [ku (by rw [Xv,o.h];omega),Xv,o.h,ke] at he;exact h.free i d hi (by rw [show i = 103+(i - 87 - 16) by omega];exact he)
  bytes:=by rw [qZ q1];exact h.bytes
  rowD:=h.rowD.ext (Ext.set H q _) (fun j hj e=>q2 (by rw [← List.mem_singleton.1 e];exact hj))
  rowF:=h.rowF.ext (Ext.set H q _) (fun j hj e=>q3 (by rw [← List.mem_singleton.1 e];exact hj)) }
theorem Qu:∀ (l:List Kn) (j:Nat) (k:Kn),j < l.length→qk (l.set j k) = List.take (j * 5) (qk l) ++ (Enc.cells k ++ List.drop (j * 5+5) (qk l))
 | [],j,k,h=>by simp at h
 | a :: l,0,k,_=>by
  have hl:(Enc.cells a).length = 5:=rfl;simp only [List.set_cons_zero,Nat.zero_mul,List.take_zero,JP,Zx];show Enc.cells k ++ qk l = Enc.cells k ++ List.drop 5 (Enc.cells a ++ qk l);rw [VH hl]
 | a :: l,j+1,k,h=>by
  have hl:(Enc.cells a).length = 5:=rfl;have ih:=Qu l j k (by simpa using h);simp only [List.set_cons_succ];show Enc.cells a ++ qk (l.set j k) = List.take ((j+1) * 5) (Enc.cells a ++ qk l) ++ (Enc.cells k ++ List.drop ((j+1) * 5+5) (Enc.cells a ++ qk l));rw [ih,kR,zk,hl,qP (l:=Enc.cells a) (by omega),List.drop_of_length_le (l:=Enc.cells a) (by omega),show (j+1) * 5 - 5 = j * 5 by omega,show (j+1) * 5+5 - 5 = j * 5+5 by omega];simp
theorem qr4 {H:qd} {q:Nat} {m:Jm} (h:JmW H q m) {j:Nat} (k:Kn) {r:Nat} (hr:m.Ld = [r]) (hv:m.dv = .osl r (m.da.length * 5) 0 m.da.length 5) (hg:(qe H r).isSome = true):JmW (ql H r (qk (m.da.set j k))) q { m with da:=m.da.set j k }:=by
 obtain ⟨q1,q2,q3⟩:=J2 h;have hnd:=h.nodup;unfold Jm.names at hnd;simp only [List.nodup_cons,zA,ji,not_or,List.nodup_append] at hnd;obtain ⟨n1,n2,n3,n4,n5⟩:=hnd;rw [hr] at q2 n2 n5;obtain ⟨ds,JD⟩:=Option.isSome_iff_exists.1 hg;have hl:(qk (m.da.set j k)).length = m.da.length * 5:=by rw [Qv,vt];rfl
 exact { h with
  root:=by rw [qZ (fun e=>q2 (by rw [e];simp))];exact h.root
  bytes:=by rw [qZ (fun e=>n2.1 (by rw [e];simp))];exact h.bytes
  rowD:=.inr ⟨r,m.da.length,by simp only;rw [hl];exact hv,by rw [hl],qV (qt JD),hr⟩
  rowF:=h.rowF.ext (Ext.set H r _) (fun i hi e=>n5 r (by simp) i hi (List.mem_singleton.1 e).symm) }
theorem qaQ {H:qd} {r n:Nat} {cs xs:List D} {t e:TypeId} {x:D} (hg:qe H r = some cs) (hu:Tryz.prog.underlying t = some (.slice e)) (hk:qr Tryz.prog e = 1) (VE:bytesOf Tryz.prog e≤100) (hz:(Zd Tryz.prog e 0).isSome = true) (J8:Ku Tryz.prog H e t x = some (xs,n)) (Xz:xs.length = n) {c:Nat} (hc:cs.length = c) (hl:c+n≤1000000) :
  qM Tryz.prog H t t (.osl r c 0 c 1) x = some (.osl r (c+n) 0 (c+n) 1,ql H r (cs ++ xs)):=by
 obtain ⟨z,hz⟩:=Option.isSome_iff_exists.1 hz;have h1:(c+n) * bytesOf Tryz.prog e≤1000000 * 100:=Nat.mul_le_mul hl VE;unfold qM;simp only [hu,J8,hz,hg,hk];rw [if_pos ⟨hc,trivial,Nat.mul_one _,by simp only [qw];omega,by simp only [qw];omega⟩,Xz]
theorem qsv (K:qd) (nl:Bool) (w:List Nat) (a k:Nat) (ha:a≤w.length) (hl:w.length≤1000) :
  ∃ T1 T2 T3,qM Tryz.prog (qo K []) 28 28 (.osl K.length 0 0 0 1) (.vsl nl (List.take a (qy .i64 w)) a) = some (.osl K.length a 0 a 1,T1)∧qM Tryz.prog T1 28 28 (.osl K.length a 0 a 1) (.vsl false [.int .i64 (k:Nat)] 1) = some (.osl K.length (a+1) 0 (a+1) 1,T2)∧qM Tryz.prog T2 28 28 (.osl K.length (a+1) 0 (a+1) 1) (.vsl nl (List.drop a (qy .i64 w)) (w.length - a)) = some (.osl K.length (w.length+1) 0 (w.length+1) 1,T3)∧qe T3 K.length = some (qy .i64 (w.take a ++ k :: w.drop a))∧Ext [] K T3∧T1.length = K.length+1:=by
 have g0:qe (qo K []) K.length = some []:=by rw [qN]
 have l1:(List.take a (qy .i64 w)).length = a:=by simp;omega
 have l2:(List.drop a (qy .i64 w)).length = w.length - a:=by simp
 have a1:=qaQ (t:=28) (e:=3) (n:=a) (x:=.vsl nl (List.take a (qy .i64 w)) a) (xs:=List.take a (qy .i64 w)) g0 (by simp) (by simp) (by simp) (by simp) (by simp;omega) l1 rfl (c:=0) (by omega);simp only [Zx,JP] at a1;obtain ⟨T1,hT1⟩:∃ T,ql (qo K []) K.length (List.take a (qy .i64 w)) = T:=⟨_,rfl⟩;rw [hT1] at a1;have t1:qe T1 K.length = some (List.take a (qy .i64 w)):=by rw [← hT1];exact qV (qt g0)
 have n1:T1.length = K.length+1:=by rw [← hT1,kN,zG]
 have a2:=qaQ (t:=28) (e:=3) (n:=1) (x:=.vsl false [.int .i64 (k:Nat)] 1) (xs:=[.int .i64 (k:Nat)]) t1 (by simp) (by simp) (by simp) (by simp) (by simp) rfl l1 (by omega);obtain ⟨T2,ZE⟩:∃ T,ql T1 K.length (List.take a (qy .i64 w) ++ [.int .i64 (k:Nat)]) = T:=⟨_,rfl⟩;rw [ZE] at a2;have t3:qe T2 K.length = some (List.take a (qy .i64 w) ++ [.int .i64 (k:Nat)]):=by rw [← ZE];exact qV (qt t1)
 have a3:=qaQ (t:=28) (e:=3) (n:=w.length - a) (x:=.vsl nl (List.drop a (qy .i64 w)) (w.length - a)) (xs:=List.drop a (qy .i64 w)) t3 (by simp) (by simp) (by simp) (by simp) (by simp) l2 (c:=a+1) (by simp <;> omega) (by omega);rw [show a+1+(w.length - a) = w.length+1 by omega] at a3;refine ⟨T1,T2,_,a1,a2,a3,?_,⟨?_,fun i hi _=>?_⟩,n1⟩
 ·rw [qV (qt t3)];simp [qy]
 ·rw [kN,← ZE,kN];omega
 ·rw [qZ (by omega),← ZE,qZ (by omega),← hT1,qZ (by omega),jF hi]
theorem qgR {H:qd} {x y:D} {l:List Nat} (hx:zF H 9 x = some (y,l)):∀ {pc:List D},pc.all idFree = true→jJ (zF H 9) (pc ++ [x]) = some (pc ++ [y],l)
 | [],_=>by simp only [JP,jJ,hx,Xm]
 | d :: pc,hf=>by
  simp only [qal,zL] at hf
  have h1:zF H 9 d = some (d,[]):=by
   unfold zF;rw [if_pos hf.1]
  simp only [Jx,jJ,h1,qgR hx hf.2,JP]
theorem qn2 (K:qd) {pD:D} {pc:List D} {Lp:List Nat} (hR:RowA K 1 pD pc Lp) (hf:pc.all idFree = true) (s:List UInt8) (hl:pc.length≤100) :
  ∃ r K4 K5,qM Tryz.prog (qo (qo K (qf s)) [.osl K.length s.length 0 s.length 1]) 152 152 pD (.osl (qo K (qf s)).length 1 0 1 1) = some (.osl r (pc.length+1) 0 (pc.length+1) 1,K4)∧kh K4 r = some K5∧qe K5 r = some (pc ++ [.vsl false (qf s) s.length])∧Ext Lp K K5∧(r∈Lp∨K.length≤r):=by
 obtain ⟨K2,jQ⟩:∃ T,qo K (qf s) = T:=⟨_,rfl⟩;have n2:K2.length = K.length+1:=by rw [← jQ,zG]
 have x2:Ext [] K K2:=jQ ▸ Ext.new K _;have g2:qe K2 K.length = some (qf s):=by rw [← jQ,qN]
 rw [jQ];obtain ⟨K3,Vp⟩:∃ T,qo K2 [.osl K.length s.length 0 s.length 1] = T:=⟨_,rfl⟩;have x3:Ext [] K2 K3:=Vp ▸ Ext.new K2 _;have g3:qe K3 K2.length = some [.osl K.length s.length 0 s.length 1]:=by rw [← Vp,qN]
 rw [Vp];have r3:=(hR.ext x2 (fun _ _=>by simp)).ext x3 (fun _ _=>by simp);obtain ⟨v',K4,L',hA,hR4,x4,n4⟩:=r3.append (P:=Tryz.prog) (st:=152) (xt:=152) (e:=26) (x:=.osl K2.length 1 0 1 1) (xs:=[.osl K.length s.length 0 s.length 1]) (m:=1) (by simp) (by simp) (by simp [-qe,g3]) (by simp) (by omega) (by simp) (by omega) (by simp [qw];omega) (by simp [qw];omega);obtain ⟨r,n,rfl,hn,hg4,hL'⟩:=hR4.own (by simp);have hn':n = pc.length+1:=by simp at hn;omega
 subst hn';have KO:∀ i,i∈Lp→i < K.length:=fun i hi=>hR.lt hi;have hrL:r∈L':=by rw [hL'];simp
 have hr:r∈Lp∨K3.length≤r:=n4 r hrL;have n3:K3.length = K2.length+1:=by rw [← Vp,zG]
 have g4:qe K4 K.length = some (qf s):=x4.get (x3.get g2 (by simp)) (fun hc=>by have:=KO _ hc;omega)
 have qH:K.length≠r:=fun e=>by
  rcases hr with h | h
  ·have:=KO _ h;omega
  ·omega
 have hst:zF K4 9 (.osl K.length s.length 0 s.length 1) = some (.vsl false (qf s) s.length,[K.length]):=by
  unfold zF;rw [if_neg (by simp [idFree])];simp only [g4];rw [if_pos ⟨by simp,by omega⟩,if_pos (by rw [kO];simp [qf,idFree])];simp
 have jZ:¬ (pc ++ [D.osl K.length s.length 0 s.length 1]).all idFree = true:=by simp [idFree]
 have hblk:kh K4 r = some (ql (jq K4 [K.length]) r (pc ++ [.vsl false (qf s) s.length])):=by
  unfold kh;simp only [hg4];rw [if_neg jZ,qgR hst hf];simp only;rw [if_neg (by simp only [qaG];exact fun e=>qH e.symm)]
 refine ⟨r,K4,_,?_,hblk,?_,⟨?_,fun i hi hn=>?_⟩,?_⟩
 ·rw [hA];simp
 ·exact qV (by rw [Qk];exact qt hg4)
 ·rw [kN,Qk];have e1:=x2.len;have e2:=x3.len;have e3:=x4.len;omega
 ·have hir:i≠r:=fun e=>by
   rcases hr with h | h
   ·exact hn (e ▸ h)
   ·omega
  rw [qZ hir,Xi (by simp only [qaG];omega),x4.out i (by omega) hn,x3.out i (by omega) (by simp),x2.out i hi (by simp)]
 ·rcases hr with h | h
  ·exact .inl h
  ·exact .inr (by omega)
def jz (cf ids:List D) (v0 v1:Nat) (st:Int) (n0 n2 n3 n4 n5 n6 n7 n9:Nat) (bd:D):List D :=
 cf ++ (.int .u32 v0 :: .int .u32 v1 :: .int .i64 st :: (ids ++ [.int .u64 n0,.int .u64 0,.int .u64 n2,.int .u64 n3,.int .u64 n4,.int .u64 n5,.int .u64 n6,.int .u64 n7,.int .u64 0,.int .u64 n9,.int .u64 0,.int .u64 0,.int .u64 0,.int .u64 0,.int .u64 0,.int .u64 0,.int .u64 0,.int .u64 0,.int .u64 0,.int .u64 0,.int .u32 0,.int .u32 0,.int .u64 0,.int .u64 0,bd,.vsl true [] 0,.vsl true [] 0,.vsl true [] 0]))
section
variable {cf ids:List D} (hc:cf.length = 52) (hi:ids.length = 64) (v0 v1:Nat) (st:Int) (n0 n2 n3 n4 n5 n6 n7 n9:Nat) (bd:D)
include hc hi
theorem kw:(jz cf ids v0 v1 st n0 n2 n3 n4 n5 n6 n7 n9 bd).length = 147:=by simp [jz,hc,hi]
theorem qfy (x:D):List.take 143 (jz cf ids v0 v1 st n0 n2 n3 n4 n5 n6 n7 n9 bd) ++ x :: List.drop 144 (jz cf ids v0 v1 st n0 n2 n3 n4 n5 n6 n7 n9 bd) = jz cf ids v0 v1 st n0 n2 n3 n4 n5 n6 n7 n9 x:=by
 rw [jo (by rw [kw hc hi];omega)];simp [jz,hc,hi]
theorem qrw (x:Nat):List.take 119 (jz cf ids v0 v1 st n0 n2 n3 n4 n5 n6 n7 n9 bd) ++ D.int .u64 x :: List.drop 120 (jz cf ids v0 v1 st n0 n2 n3 n4 n5 n6 n7 n9 bd) = jz cf ids v0 v1 st x n2 n3 n4 n5 n6 n7 n9 bd:=by
 rw [jo (by rw [kw hc hi];omega)];simp [jz,hc,hi]
theorem qrv (x:Nat):List.take 121 (jz cf ids v0 v1 st n0 n2 n3 n4 n5 n6 n7 n9 bd) ++ D.int .u64 x :: List.drop 122 (jz cf ids v0 v1 st n0 n2 n3 n4 n5 n6 n7 n9 bd) = jz cf ids v0 v1 st n0 x n3 n4 n5 n6 n7 n9 bd:=by
 rw [jo (by rw [kw hc hi];omega)];simp [jz,hc,hi]
theorem qru (x:Nat):List.take 122 (jz cf ids v0 v1 st n0 n2 n3 n4 n5 n6 n7 n9 bd) ++ D.int .u64 x :: List.drop 123 (jz cf ids v0 v1 st n0 n2 n3 n4 n5 n6 n7 n9 bd) = jz cf ids v0 v1 st n0 n2 x n4 n5 n6 n7 n9 bd:=by
 rw [jo (by rw [kw hc hi];omega)];simp [jz,hc,hi]
theorem qrt (x:Nat):List.take 123 (jz cf ids v0 v1 st n0 n2 n3 n4 n5 n6 n7 n9 bd) ++ D.int .u64 x :: List.drop 124 (jz cf ids v0 v1 st n0 n2 n3 n4 n5 n6 n7 n9 bd) = jz cf ids v0 v1 st n0 n2 n3 x n5 n6 n7 n9 bd:=by
 rw [jo (by rw [kw hc hi];omega)];simp [jz,hc,hi]
theorem qrs (x:Nat):List.take 124 (jz cf ids v0 v1 st n0 n2 n3 n4 n5 n6 n7 n9 bd) ++ D.int .u64 x :: List.drop 125 (jz cf ids v0 v1 st n0 n2 n3 n4 n5 n6 n7 n9 bd) = jz cf ids v0 v1 st n0 n2 n3 n4 x n6 n7 n9 bd:=by
 rw [jo (by rw [kw hc hi];omega)];simp [jz,hc,hi]
theorem qrr (x:Nat):List.take 125 (jz cf ids v0 v1 st n0 n2 n3 n4 n5 n6 n7 n9 bd) ++ D.int .u64 x :: List.drop 126 (jz cf ids v0 v1 st n0 n2 n3 n4 n5 n6 n7 n9 bd) = jz cf ids v0 v1 st n0 n2 n3 n4 n5 x n7 n9 bd:=by
 rw [jo (by rw [kw hc hi];omega)];simp [jz,hc,hi]
theorem qrq (x:Nat):List.take 126 (jz cf ids v0 v1 st n0 n2 n3 n4 n5 n6 n7 n9 bd) ++ D.int .u64 x :: List.drop 127 (jz cf ids v0 v1 st n0 n2 n3 n4 n5 n6 n7 n9 bd) = jz cf ids v0 v1 st n0 n2 n3 n4 n5 n6 x n9 bd:=by
 rw [jo (by rw [kw hc hi];omega)];simp [jz,hc,hi]
theorem qrp (x:Nat):List.take 128 (jz cf ids v0 v1 st n0 n2 n3 n4 n5 n6 n7 n9 bd) ++ D.int .u64 x :: List.drop 129 (jz cf ids v0 v1 st n0 n2 n3 n4 n5 n6 n7 n9 bd) = jz cf ids v0 v1 st n0 n2 n3 n4 n5 n6 n7 x bd:=by
 rw [jo (by rw [kw hc hi];omega)];simp [jz,hc,hi]
theorem qro (x:Nat):List.take 53 (jz cf ids v0 v1 st n0 n2 n3 n4 n5 n6 n7 n9 bd) ++ D.int .u32 x :: List.drop 54 (jz cf ids v0 v1 st n0 n2 n3 n4 n5 n6 n7 n9 bd) = jz cf ids v0 x st n0 n2 n3 n4 n5 n6 n7 n9 bd:=by
 rw [jo (by rw [kw hc hi];omega)];simp [jz,hc]
end
set_option maxHeartbeats 4000000 in
theorem qr7 {T:qd} {q bi:Nat} {A B S:ID} {ds fs n1 aft:Nat} {key:Bool} {b:List UInt8} {cf I:List D} (kP:cf = qf A.l ++ (qf B.l ++ (qf S.l ++ [.int .i64 (ds:Nat),.int .i64 (fs:Nat),.int .i64 32768,.bool key]))) (hI:I = qf A.l ++ (qf B.l ++ (qf (List.replicate 16 0) ++ qf S.l)))
  (hq:qe T q = some (jz cf I 2 (if key then 4 else 0) 1 272 288 (16 * ds) (n1+16) (16 * fs) n1 2 aft (.osl bi b.length 0 b.length 1))) (hb:qe T bi = some (qf b)) (qH:q≠bi) (YN:aft < 18446744073709551616) (jf:n1 < 1000000) (JD:ds≤64) (hfs:fs≤64) :
  JmW T q ⟨jz cf I 2 (if key then 4 else 0) 1 272 288 (16 * ds) (n1+16) (16 * fs) n1 2 aft (.osl bi b.length 0 b.length 1),b,[],[],ds,fs,key,A,n1+16,0,aft,true,[],.vsl true [] 0,.vsl true [] 0,bi,[],[]⟩:=by
 have la:=A.h;have lb:=B.h;have ls:=S.h;have lcf:cf.length = 52:=by rw [kP];simp [la,lb,ls]
 have lI:I.length = 64:=by rw [hI];simp [la,lb,ls]
 have hz:(ID.mk (List.replicate 16 0) (by simp)).l = List.replicate 16 0:=rfl
 exact {
  root:=hq
  len:=kw lcf lI ..
  file:=by simp only [jz];rw [List.take_append_of_le_length (by omega),kP];simp [la]
  c48:=by simp only [jz];rw [jX (by omega),kP];simp [la,lb,ls]
  c49:=by simp only [jz];rw [jX (by omega),kP];simp [la,lb,ls]
  c50:=by simp only [jz];rw [jX (by omega),kP];simp [la,lb,ls]
  c51:=by simp only [jz];rw [jX (by omega),kP];simp [la,lb,ls]
  c52:=by simp [jz,lcf,lI]
  c53:=by cases key <;> simp [jz,lcf,lI]
  c54:=by simp [jz,lcf,lI]
  ids:=by
   refine ⟨A,B,⟨List.replicate 16 0,by simp⟩,S,?_⟩;rw [hz,← hI];simp [jz,zk,List.drop_of_length_le,lcf,lI]
  c119:=by simp [jz,lcf,lI]
  c121:=by simp [jz,lcf,lI]
  c122:=by simp [jz,lcf,lI]
  c123:=by simp [jz,lcf,lI]
  c124:=by simp [jz,lcf,lI]
  c127:=by simp [jz,lcf,lI]
  c128:=by simp [jz,lcf,lI]
  nums:=fun i h1 h2=>by
   obtain ⟨j,rfl⟩:∃ j,i = 119+j:=⟨i - 119,by omega⟩;have hj:j < 20:=by omega
   have e:∀ (l:List D),(cf ++ (.int .u32 ((2:Nat):Int) :: .int .u32 ((if key then 4 else 0:Nat):Int) :: .int .i64 1 :: (I ++ l)))[119+j]? = l[j]?:=fun l=>by
    rw [ku (by omega),lcf,show 119+j - 52 = 64+j+1+1+1 by omega,qb8,qb8,qb8,ku (by omega),lI,show 64+j - 64 = j by omega]
   simp only [jz];rw [e];have hjc:j = 0∨j = 1∨j = 2∨j = 3∨j = 4∨j = 5∨j = 6∨j = 7∨j = 8∨j = 9∨j = 10∨j = 11∨j = 12∨j = 13∨j = 14∨j = 15∨j = 16∨j = 17∨j = 18∨j = 19:=(by omega);rcases hjc with rfl | rfl | rfl | rfl | rfl | rfl | rfl | rfl | rfl | rfl | rfl | rfl | rfl | rfl | rfl | rfl | rfl | rfl | rfl | rfl <;> first | exact ⟨_,rfl,0,rfl,by decide⟩ | exact ⟨_,rfl,272,rfl,by decide⟩ | exact ⟨_,rfl,288,rfl,by decide⟩ | exact ⟨_,rfl,2,rfl,by decide⟩ | exact ⟨_,rfl,_,rfl,by omega⟩
  c139:=⟨0,by simp [jz,lcf,lI],by omega⟩
  c140:=⟨0,by simp [jz,lcf,lI],by omega⟩
  c141:=⟨_,by simp [jz,lcf,lI],0,rfl,by omega⟩
  c142:=⟨_,by simp [jz,lcf,lI],0,rfl,by omega⟩
  c143:=by simp [jz,lcf,lI]
  c144:=by simp [jz,lcf,lI]
  c145:=by simp [jz,lcf,lI]
  c146:=by simp [jz,lcf,lI,qy]
  bytes:=hb
  rowD:=RowA.nil _ _
  rowF:=RowA.nil _ _
  nodup:=by simp [Jm.names,qH]
  free:=fun i d hi he=>by
   simp only [jz] at he;by_cases h1:i < 52
   ·rw [jX (by omega)] at he;have:=ZS he;rw [kP] at this;simp only [ji,zA,List.not_mem_nil,or_false,qf,kI] at this;rcases this with ⟨_,_,rfl⟩ | ⟨_,_,rfl⟩ | ⟨_,_,rfl⟩ | rfl | rfl | rfl | rfl <;> rfl
   ·rw [ku (by omega),lcf] at he;by_cases h2:i < 143
    ·have hm:∃ X,(.int .u32 ((2:Nat):Int) :: .int .u32 ((if key then 4 else 0:Nat):Int) :: .int .i64 1 :: (I ++ [D.int .u64 ((272:Nat):Int),.int .u64 0,.int .u64 ((288:Nat):Int),.int .u64 ((16 * ds:Nat):Int),.int .u64 ((n1+16:Nat):Int),.int .u64 ((16 * fs:Nat):Int),.int .u64 (n1:Int),.int .u64 ((2:Nat):Int),.int .u64 0,.int .u64 (aft:Int),.int .u64 0,.int .u64 0,.int .u64 0,.int .u64 0,.int .u64 0,.int .u64 0,.int .u64 0,.int .u64 0,.int .u64 0,.int .u64 0,.int .u32 0,.int .u32 0,.int .u64 0,.int .u64 0])) = X∧X.length = 91:=⟨_,rfl,by simp [lI]⟩;obtain ⟨X,hX,lX⟩:=hm
     have he2:X[i - 52]? = some d:=by
      rw [← he,← hX];have:=lX;rw [← hX] at this;have e3:∀ (l r:List D),(.int .u32 ((2:Nat):Int) :: .int .u32 ((if key then 4 else 0:Nat):Int) :: .int .i64 1 :: (I ++ (l ++ r)):List D) = (.int .u32 ((2:Nat):Int) :: .int .u32 ((if key then 4 else 0:Nat):Int) :: .int .i64 1 :: (I ++ l)) ++ r:=fun l r=>by simp
      rw [show ∀ a b c d1 d2 d3 d4 d5 d6 d7 d8 d9:D,∀ e1 e2 e3 e4 e5 e6 e7 e8 e9 e10 e11 e12 f1 f2 f3 f4:D,[a,b,c,d1,d2,d3,d4,d5,d6,d7,d8,d9,e1,e2,e3,e4,e5,e6,e7,e8,e9,e10,e11,e12,f1,f2,f3,f4] = [a,b,c,d1,d2,d3,d4,d5,d6,d7,d8,d9,e1,e2,e3,e4,e5,e6,e7,e8,e9,e10,e11,e12] ++ [f1,f2,f3,f4] from by intros;rfl,e3,jX (by omega)]
     have:=ZS he2;rw [← hX] at this;simp only [ji,zA,List.not_mem_nil,or_false] at this;rw [hI] at this;simp only [ji,qf,kI] at this;rcases this with rfl | rfl | rfl | (⟨_,_,rfl⟩ | ⟨_,_,rfl⟩ | ⟨_,_,rfl⟩ | ⟨_,_,rfl⟩) | h
     all_goals first
      | rfl
      | (repeat' (first | (rcases h with rfl | h;· rfl) | (subst h;rfl)))
    ·omega }
set_option maxHeartbeats 8000000 in
set_option maxRecDepth 10000 in
theorem qr0 [MaxL] [TxtC] (H:qd) (A B S:ID) (ds fs:Nat) (JD:1≤ds∧ds≤64) (hfs:1≤fs∧fs≤64) (key:Bool) (aft:Nat) (YN:aft < 18446744073709551616) :
  ∃ T q m,call cx 49 [.agg (qf A.l ++ (qf B.l ++ (qf S.l ++ [.int .i64 (ds:Nat),.int .i64 (fs:Nat),.int .i64 32768,.bool key]))),.int .u64 aft] H = some (.optr q 147 0,T)∧JmW T q m∧m.Ok∧Ext [] H T∧(∀ i,i∈m.names q→H.length≤i)∧m.ne = 0∧m.tl = aft∧m.b.length = 304+16 * ds+16 * fs∧m.da = []∧m.fi = []∧m.main = []:=by
 suffices hs:∃ r,call cx 49 [.agg (qf A.l ++ (qf B.l ++ (qf S.l ++ [.int .i64 (ds:Nat),.int .i64 (fs:Nat),.int .i64 32768,.bool key]))),.int .u64 aft] H = some r∧∃ (T:qd) (q:Nat) (m:Jm),r = (.optr q 147 0,T)∧JmW T q m∧m.Ok∧Ext [] H T∧(∀ i,i∈m.names q→H.length≤i)∧m.ne = 0∧m.tl = aft∧m.b.length = 304+16 * ds+16 * fs∧m.da = []∧m.fi = []∧m.main = [] by
  obtain ⟨r,hc,T,q,m,rfl,h1⟩:=hs;exact ⟨T,q,m,hc,h1⟩
 refine Zt (X:=cx) (f:=49) _ Tryz.func49 rfl ⟨rfl,rfl⟩ ?_;obtain ⟨cf,kP⟩:∃ c,c = qf A.l ++ (qf B.l ++ (qf S.l ++ [.int .i64 (ds:Nat),.int .i64 (fs:Nat),.int .i64 32768,.bool key])):=⟨_,rfl⟩;have la:=A.h;have lb:=B.h;have ls:=S.h;have lcf:cf.length = 52:=by rw [kP];simp [la,lb,ls]
 rw [← kP];obtain ⟨K1,jv⟩:∃ T,qo H cf = T:=⟨_,rfl⟩;have g1:qe K1 H.length = some cf:=by rw [← jv,qN]
 have fcf:cf.all idFree = true:=by rw [kP];simp [qf,idFree]
 have ccf:∀ n,(∀ x,x∈cf→closed n x = true) = True:=fun n=>eq_true fun x hx=>KH x (List.all_eq_true.1 fcf x hx);have gq1:∀ X,qe (qo K1 X) H.length = some cf:=fun X=>by rw [jF (qt g1)];exact g1
 obtain ⟨K2,jQ⟩:∃ T,qo K1 [.int .u8 0,.int .u8 0,.int .u8 0,.int .u8 0,.int .u8 0,.int .u8 0,.int .u8 0,.int .u8 0,.int .u8 0,.int .u8 0,.int .u8 0,.int .u8 0,.int .u8 0,.int .u8 0,.int .u8 0,.int .u8 0,.int .u8 0,.int .u8 0,.int .u8 0,.int .u8 0,.int .u8 0,.int .u8 0,.int .u8 0,.int .u8 0,.int .u8 0,.int .u8 0,.int .u8 0,.int .u8 0,.int .u8 0,.int .u8 0,.int .u8 0,.int .u8 0,.int .u8 0,.int .u8 0,.int .u8 0,.int .u8 0,.int .u8 0,.int .u8 0,.int .u8 0,.int .u8 0,.int .u8 0,.int .u8 0,.int .u8 0,.int .u8 0,.int .u8 0,.int .u8 0,.int .u8 0,.int .u8 0,.int .u8 0,.int .u8 0,.int .u8 0,.int .u8 0,.int .u8 0,.int .u8 0,.int .u8 0,.int .u8 0,.int .u8 0,.int .u8 0,.int .u8 0,.int .u8 0,.int .u8 0,.int .u8 0,.int .u8 0,.int .u8 0,.int .u8 0,.int .u8 0,.int .u8 0,.int .u8 0,.int .u8 0,.int .u8 0,.int .u8 0,.int .u8 0,.int .u8 0,.int .u8 0,.int .u8 0,.int .u8 0,.int .u8 0,.int .u8 0,.int .u8 0,.int .u8 0,.int .u8 0,.int .u8 0,.int .u8 0,.int .u8 0,.int .u8 0,.int .u8 0,.int .u8 0,.int .u8 0,.int .u8 0,.int .u8 0,.int .u8 0,.int .u8 0,.int .u8 0,.int .u8 0,.int .u8 0,.int .u8 0,.int .u8 0,.int .u8 0,.int .u8 0,.int .u8 0,.int .u8 0,.int .u8 0,.int .u8 0,.int .u8 0,.int .u8 0,.int .u8 0,.int .u8 0,.int .u8 0,.int .u8 0,.int .u8 0,.int .u8 0,.int .u8 0,.int .u8 0,.int .u8 0,.int .u8 0,.int .u8 0,.int .u8 0,.int .u8 0,.int .u8 0,.int .u8 0,.int .u8 0,.int .u8 0,.int .u8 0,.int .u8 0,.int .u8 0,.int .u8 0,.int .u8 0,.int .u8 0,.int .u8 0,.int .u8 0,.int .u8 0,.int .u8 0,.int .u8 0,.int .u8 0,.int .u8 0,.int .u8 0,.int .u8 0,.int .u8 0,.int .u8 0,.int .u8 0,.int .u8 0,.int .u8 0,.int .u8 0,.int .u8 0,.int .u8 0,.int .u8 0,.int .u8 0,.int .u8 0,.int .u8 0,.int .u8 0,.int .u8 0,.int .u8 0,.int .u8 0,.int .u8 0,.int .u8 0,.int .u8 0,.int .u8 0,.int .u8 0,.int .u8 0,.int .u8 0,.int .u8 0,.int .u8 0,.int .u8 0,.int .u8 0,.int .u8 0,.int .u8 0,.int .u8 0,.int .u8 0,.int .u8 0,.int .u8 0,.int .u8 0,.int .u8 0,.int .u8 0,.int .u8 0,.int .u8 0,.int .u8 0,.int .u8 0,.int .u8 0,.int .u8 0,.int .u8 0,.int .u8 0,.int .u8 0,.int .u8 0,.int .u8 0,.int .u8 0,.int .u8 0,.int .u8 0,.int .u8 0,.int .u8 0,.int .u8 0,.int .u8 0,.int .u8 0,.int .u8 0,.int .u8 0,.int .u8 0,.int .u8 0,.int .u8 0,.int .u8 0,.int .u8 0,.int .u8 0,.int .u8 0,.int .u8 0,.int .u8 0,.int .u8 0,.int .u8 0,.int .u8 0,.int .u8 0,.int .u8 0,.int .u8 0,.int .u8 0,.int .u8 0,.int .u8 0,.int .u8 0,.int .u8 0,.int .u8 0,.int .u8 0,.int .u8 0,.int .u8 0,.int .u8 0,.int .u8 0,.int .u8 0,.int .u8 0,.int .u8 0,.int .u8 0,.int .u8 0,.int .u8 0,.int .u8 0,.int .u8 0,.int .u8 0,.int .u8 0,.int .u8 0,.int .u8 0,.int .u8 0,.int .u8 0,.int .u8 0,.int .u8 0,.int .u8 0,.int .u8 0,.int .u8 0,.int .u8 0,.int .u8 0,.int .u8 0,.int .u8 0,.int .u8 0,.int .u8 0,.int .u8 0,.int .u8 0,.int .u8 0,.int .u8 0,.int .u8 0,.int .u8 0,.int .u8 0,.int .u8 0,.int .u8 0,.int .u8 0,.int .u8 0,.int .u8 0,.int .u8 0,.int .u8 0,.int .u8 0,.int .u8 0,.int .u8 0,.int .u8 0,.int .u8 0,.int .u8 0,.int .u8 0,.int .u8 0,.int .u8 0,.int .u8 0,.int .u8 0,.int .u8 0,.int .u8 0] = T:=⟨_,rfl⟩
 have g2:qe K2 K1.length = some (qf (List.replicate 272 0)):=by
  rw [← jQ,qN];rfl
 have x1:Ext [] H K1:=jv ▸ Ext.new H _;have x2:Ext [] K1 K2:=jQ ▸ Ext.new K1 _;have gq2:qe K2 H.length = some cf:=x2.get g1 (by simp);have h272:(272:Int)≤(qw:Int):=by decide
 have tcf:List.take 52 cf = cf:=qP (by omega);obtain ⟨Zm,hZm⟩:∃ Z,Z = [D.int .u32 0,.int .u32 0,.int .i64 0,.int .u8 0,.int .u8 0,.int .u8 0,.int .u8 0,.int .u8 0,.int .u8 0,.int .u8 0,.int .u8 0,.int .u8 0,.int .u8 0,.int .u8 0,.int .u8 0,.int .u8 0,.int .u8 0,.int .u8 0,.int .u8 0,.int .u8 0,.int .u8 0,.int .u8 0,.int .u8 0,.int .u8 0,.int .u8 0,.int .u8 0,.int .u8 0,.int .u8 0,.int .u8 0,.int .u8 0,.int .u8 0,.int .u8 0,.int .u8 0,.int .u8 0,.int .u8 0,.int .u8 0,.int .u8 0,.int .u8 0,.int .u8 0,.int .u8 0,.int .u8 0,.int .u8 0,.int .u8 0,.int .u8 0,.int .u8 0,.int .u8 0,.int .u8 0,.int .u8 0,.int .u8 0,.int .u8 0,.int .u8 0,.int .u8 0,.int .u8 0,.int .u8 0,.int .u8 0,.int .u8 0,.int .u8 0,.int .u8 0,.int .u8 0,.int .u8 0,.int .u8 0,.int .u8 0,.int .u8 0,.int .u8 0,.int .u8 0,.int .u8 0,.int .u8 0,.int .u64 0,.int .u64 0,.int .u64 0,.int .u64 0,.int .u64 0,.int .u64 0,.int .u64 0,.int .u64 0,.int .u64 0,.int .u64 0,.int .u64 0,.int .u64 0,.int .u64 0,.int .u64 0,.int .u64 0,.int .u64 0,.int .u64 0,.int .u64 0,.int .u64 0,.int .u64 0,.int .u32 0,.int .u32 0,.int .u64 0,.int .u64 0,.vsl true [] 0,.vsl true [] 0,.vsl true [] 0,.vsl true [] 0]:=⟨_,rfl⟩;have fZm:Zm.all idFree = true:=by rw [hZm];simp [idFree]
 have lZm:Zm.length = 95:=by rw [hZm];rfl
 have fA:∀ x,x∈cf ++ Zm→∀ n,closed n x = true:=fun x hx n=>KH x (by
  rcases List.mem_append.1 hx with h | h
  ·exact List.all_eq_true.1 fcf x h
  ·exact List.all_eq_true.1 fZm x h)
 have ct:∀ n k,(∀ x,x∈List.take k (cf ++ Zm)→closed n x = true) = True:=fun n k=>eq_true fun x hx=>fA x (JQ hx) n;have cd:∀ n k,(∀ x,x∈List.drop k (cf ++ Zm)→closed n x = true) = True:=fun n k=>eq_true fun x hx=>fA x (QG hx) n;obtain ⟨I0,hI0⟩:∃ I,I = qf (List.replicate 64 0):=⟨_,rfl⟩;have lI0:I0.length = 64:=by rw [hI0];rfl
 have ez:cf ++ Zm = jz cf I0 0 0 0 0 0 0 0 0 0 0 0 (.vsl true [] 0):=by rw [hZm,hI0];rfl
 have s1:=qfy lcf lI0 0 0 0 0 0 0 0 0 0 0 0 (.vsl true [] 0) (.osl K1.length 272 0 272 1);rw [← ez] at s1;obtain ⟨C1,ZF⟩:∃ C,jz cf I0 0 0 0 0 0 0 0 0 0 0 0 (.osl K1.length 272 0 272 1) = C:=⟨_,rfl⟩;rw [ZF] at s1;obtain ⟨K3,Vp⟩:∃ T,qo K2 C1 = T:=⟨_,rfl⟩;have k12:K1.length < K2.length:=qt g2;have lC1:C1.length = 147:=by rw [← ZF];exact kw lcf lI0 ..
 have cC1:(∀ x,x∈C1→closed K2.length x = true) = True:=eq_true fun x hx=>by
  rw [← s1] at hx;rcases List.mem_append.1 hx with h | h
  ·exact fA x (JQ h) _
  ·rcases List.mem_cons.1 h with rfl | h
   ·simp [closed];exact k12
   ·exact fA x (QG h) _
 have g3:qe K3 K2.length = some C1:=by rw [← Vp,qN]
 have x3:Ext [] K2 K3:=Vp ▸ Ext.new K2 _;have gq3:qe K3 H.length = some cf:=x3.get gq2 (by simp);have d143:∀ {v1:Nat} {st:Int} {v0:Nat} {n0 n2 n3 n4 n5 n6 n7 n9:Nat} {bd:D} {ids:List D},ids.length = 64→List.drop 143 (jz cf ids v0 v1 st n0 n2 n3 n4 n5 n6 n7 n9 bd) = bd :: List.drop 144 (jz cf ids v0 v1 st n0 n2 n3 n4 n5 n6 n7 n9 bd):=fun h=>by simp [jz,zk,List.drop_of_length_le,lcf,h]
 have c143:=d143 (v1:=0) (st:=0) (v0:=0) (n0:=0) (n2:=0) (n3:=0) (n4:=0) (n5:=0) (n6:=0) (n7:=0) (n9:=0) (bd:=.osl K1.length 272 0 272 1) lI0;rw [ZF] at c143;have f48:List.drop 48 cf = .int .i64 (ds:Nat) :: List.drop 49 cf:=by rw [kP];simp [zk,List.drop_of_length_le,la,lb,ls]
 have f49:List.drop 49 cf = .int .i64 (fs:Nat) :: List.drop 50 cf:=by rw [kP];simp [zk,List.drop_of_length_le,la,lb,ls]
 obtain ⟨B0,hB0⟩:∃ b:List UInt8,b = List.replicate 272 0:=⟨_,rfl⟩;have lB0:B0.length = 272:=by rw [hB0];simp
 rw [← hB0] at g2;have bK3:qe K3 K1.length = some (qf B0):=x3.get g2 (by simp);have gK3:=g3;have gqK3:=gq3;have hk1:H.length < K1.length:=qt g1;obtain ⟨za,hza⟩:∃ z,(List.replicate ds [D.int .u64 0,D.int .u64 0]).flatten = z:=⟨_,rfl⟩;have lza:za.length = ds * 2:=by rw [← hza];simp
 have uza:Zh za:=fun d hd=>by
  rw [← hza] at hd;obtain ⟨l,hl,hd⟩:=List.mem_flatten.1 hd;rw [(List.mem_replicate.1 hl).2] at hd;simp only [zA,List.not_mem_nil,or_false,or_self] at hd;exact ⟨0,hd,by omega⟩
 have fza:idFree.idFreeL za = true:=by rw [kO];exact qa7 uza
 have aza:(∀ x,x∈za→idFree x = true) = True:=eq_true fun x hx=>qf1 (uza x hx);have tza:List.take (ds * 2) za = za:=qP (by omega);have mbza:16 * (ds:Int)≤(qw:Int)∧ds≤qw:=by simp only [qw];omega
 obtain ⟨K4,JF⟩:∃ T,qo K3 za = T:=⟨_,rfl⟩;have gK4:qe K4 K3.length = some za:=by rw [← JF,qN]
 obtain ⟨K5,jP⟩:∃ T,jq K4 [K3.length] = T:=⟨_,rfl⟩;have hK5':List.set K4 K3.length none = K5:=jP
 have xK5:Ext [] K3 K5:=by
  refine ⟨?_,fun j hj _=>?_⟩
  ·rw [← jP,Qk,← JF,zG];omega
  ·rw [← jP,Xi (by simp;omega),← JF,jF hj]
 obtain ⟨_,ptb,tb,htb,rfl⟩:=qhL 4 (.inl rfl) false za ds uza lza (by simp) (by omega) (by omega);replace ptb:call cx 73 [.int .i64 4,.vsl false za ds] [] = some (.vsl false (qf tb) tb.length,[]):=ptb;have bK5:qe K5 K1.length = some (qf B0):=xK5.get bK3 (by simp);have aK6:=qaQ (t:=26) (e:=5) (n:=tb.length) (x:=.vsl false (qf tb) tb.length) (xs:=qf tb) bK5 (by simp) (by simp) (by simp) (by simp) (by simp) (by simp) (c:=272) (by simp [lB0]) (by omega);obtain ⟨n1,jf⟩:∃ n,272+tb.length = n:=⟨_,rfl⟩;obtain ⟨B1,hB1⟩:∃ b,b = B0 ++ tb:=⟨_,rfl⟩;have lB1:B1.length = n1:=by rw [hB1,qX,lB0,jf]
 rw [← qfi,← hB1,jf] at aK6;obtain ⟨K6,vz⟩:∃ T,ql K5 K1.length (qf B1) = T:=⟨_,rfl⟩;rw [vz] at aK6;have xK6:Ext [K1.length] K5 K6:=vz ▸ Ext.set K5 _ _;have gK6:qe K6 K2.length = some C1:=xK6.get (xK5.get gK3 (by simp)) (by simp;omega);have kK6:K1.length < K6.length:=xK6.lt (xK5.lt (qt bK3));have gqK6:qe K6 H.length = some cf:=xK6.get (xK5.get gqK3 (by simp)) (by simp;omega);have sC2:=qfy lcf lI0 0 0 0 0 0 0 0 0 0 0 0 (.osl K1.length 272 0 272 1) (.osl K1.length n1 0 n1 1);rw [ZF] at sC2;obtain ⟨C2,jh⟩:∃ C,jz cf I0 0 0 0 0 0 0 0 0 0 0 0 (.osl K1.length n1 0 n1 1) = C:=⟨_,rfl⟩;rw [jh] at sC2;have lC2:C2.length = 147:=by rw [← jh];exact kw lcf lI0 ..
 have cC2:=d143 (v1:=0) (st:=0) (v0:=0) (n0:=0) (n2:=0) (n3:=0) (n4:=0) (n5:=0) (n6:=0) (n7:=0) (n9:=0) (bd:=.osl K1.length n1 0 n1 1) lI0;rw [jh] at cC2;obtain ⟨K7,hK7⟩:∃ T,ql K6 K2.length C2 = T:=⟨_,rfl⟩;have xK7:Ext [K2.length] K6 K7:=hK7 ▸ Ext.set K6 _ _;have gK7:qe K7 K2.length = some C2:=by rw [← hK7];exact qV (qt gK6)
 have bK7:qe K7 K1.length = some (qf B1):=xK7.get (by rw [← vz];exact qV (qt bK5)) (by simp;omega);have gqK7:qe K7 H.length = some cf:=xK7.get gqK6 (by simp;omega);obtain ⟨zb,hzb⟩:∃ z,(List.replicate fs [D.int .u64 0,D.int .u64 0]).flatten = z:=⟨_,rfl⟩;have lzb:zb.length = fs * 2:=by rw [← hzb];simp
 have uzb:Zh zb:=fun d hd=>by
  rw [← hzb] at hd;obtain ⟨l,hl,hd⟩:=List.mem_flatten.1 hd;rw [(List.mem_replicate.1 hl).2] at hd;simp only [zA,List.not_mem_nil,or_false,or_self] at hd;exact ⟨0,hd,by omega⟩
 have fzb:idFree.idFreeL zb = true:=by rw [kO];exact qa7 uzb
 have azb:(∀ x,x∈zb→idFree x = true) = True:=eq_true fun x hx=>qf1 (uzb x hx);have tzb:List.take (fs * 2) zb = zb:=qP (by omega);have mbzb:16 * (fs:Int)≤(qw:Int)∧fs≤qw:=by simp only [qw];omega
 obtain ⟨K8,Jo⟩:∃ T,qo K7 zb = T:=⟨_,rfl⟩;have gK8:qe K8 K7.length = some zb:=by rw [← Jo,qN]
 obtain ⟨K9,YQ⟩:∃ T,jq K8 [K7.length] = T:=⟨_,rfl⟩;have hK9':List.set K8 K7.length none = K9:=YQ
 have xK9:Ext [] K7 K9:=by
  refine ⟨?_,fun j hj _=>?_⟩
  ·rw [← YQ,Qk,← Jo,zG];omega
  ·rw [← YQ,Xi (by simp;omega),← Jo,jF hj]
 obtain ⟨_,ptc,tc,htc,rfl⟩:=qhL 5 (.inr rfl) false zb fs uzb lzb (by simp) (by omega) (by omega);replace ptc:call cx 73 [.int .i64 5,.vsl false zb fs] [] = some (.vsl false (qf tc) tc.length,[]):=ptc;have bK9:qe K9 K1.length = some (qf B1):=xK9.get bK7 (by simp);have aK10:=qaQ (t:=26) (e:=5) (n:=tc.length) (x:=.vsl false (qf tc) tc.length) (xs:=qf tc) bK9 (by simp) (by simp) (by simp) (by simp) (by simp) (by simp) (c:=n1) (by simp [lB1]) (by omega);obtain ⟨n2,jO⟩:∃ n,n1+tc.length = n:=⟨_,rfl⟩;obtain ⟨B2,hB2⟩:∃ b,b = B1 ++ tc:=⟨_,rfl⟩;have lB2:B2.length = n2:=by rw [hB2,qX,lB1,jO]
 rw [← qfi,← hB2,jO] at aK10;obtain ⟨K10,hK10⟩:∃ T,ql K9 K1.length (qf B2) = T:=⟨_,rfl⟩;rw [hK10] at aK10;have xK10:Ext [K1.length] K9 K10:=hK10 ▸ Ext.set K9 _ _;have gK10:qe K10 K2.length = some C2:=xK10.get (xK9.get gK7 (by simp)) (by simp;omega);have kK10:K1.length < K10.length:=xK10.lt (xK9.lt (qt bK7));have gqK10:qe K10 H.length = some cf:=xK10.get (xK9.get gqK7 (by simp)) (by simp;omega);have sC3:=qfy lcf lI0 0 0 0 0 0 0 0 0 0 0 0 (.osl K1.length n1 0 n1 1) (.osl K1.length n2 0 n2 1);rw [jh] at sC3;obtain ⟨C3,JG⟩:∃ C,jz cf I0 0 0 0 0 0 0 0 0 0 0 0 (.osl K1.length n2 0 n2 1) = C:=⟨_,rfl⟩;rw [JG] at sC3;have lC3:C3.length = 147:=by rw [← JG];exact kw lcf lI0 ..
 have cC3:=d143 (v1:=0) (st:=0) (v0:=0) (n0:=0) (n2:=0) (n3:=0) (n4:=0) (n5:=0) (n6:=0) (n7:=0) (n9:=0) (bd:=.osl K1.length n2 0 n2 1) lI0;rw [JG] at cC3;obtain ⟨K11,hK11⟩:∃ T,ql K10 K2.length C3 = T:=⟨_,rfl⟩;have xK11:Ext [K2.length] K10 K11:=hK11 ▸ Ext.set K10 _ _;have gK11:qe K11 K2.length = some C3:=by rw [← hK11];exact qV (qt gK10)
 have bK11:qe K11 K1.length = some (qf B2):=xK11.get (by rw [← hK10];exact qV (qt bK9)) (by simp;omega);have gqK11:qe K11 H.length = some cf:=xK11.get gqK10 (by simp;omega);have leK5:K4.length≤K5.length:=by rw [← jP,Qk];exact qv _
 have qK4:qe K4 K2.length = some C1:=by rw [← JF,jF (qt gK3)];exact gK3
 have qK5:qe K5 K2.length = some C1:=xK5.get gK3 (by simp);have leK9:K8.length≤K9.length:=by rw [← YQ,Qk];exact qv _
 have qK8:qe K8 K2.length = some C2:=by rw [← Jo,jF (qt gK7)];exact gK7
 have qK9:qe K9 K2.length = some C2:=xK9.get gK7 (by simp);have tA:List.take 16 cf = qf A.l:=by rw [kP];simp [la]
 have tB:List.take 16 (List.drop 16 cf) = qf B.l:=by rw [kP];simp [la,lb]
 have tS:List.take 16 (List.drop 32 cf) = qf S.l:=by rw [kP];simp [zk,List.drop_of_length_le,la,lb,ls]
 have eD:List.drop 32 (qf A.l ++ [D.int .u8 0,.int .u8 0,.int .u8 0,.int .u8 0,.int .u8 0,.int .u8 0,.int .u8 0,.int .u8 0,.int .u8 0,.int .u8 0,.int .u8 0,.int .u8 0,.int .u8 0,.int .u8 0,.int .u8 0,.int .u8 0,.int .u8 0,.int .u8 0,.int .u8 0,.int .u8 0,.int .u8 0,.int .u8 0,.int .u8 0,.int .u8 0,.int .u8 0,.int .u8 0,.int .u8 0,.int .u8 0,.int .u8 0,.int .u8 0,.int .u8 0,.int .u8 0,.int .u8 0,.int .u8 0,.int .u8 0,.int .u8 0,.int .u8 0,.int .u8 0,.int .u8 0,.int .u8 0,.int .u8 0,.int .u8 0,.int .u8 0,.int .u8 0,.int .u8 0,.int .u8 0,.int .u8 0,.int .u8 0,.int .u64 0,.int .u64 0,.int .u64 0,.int .u64 0,.int .u64 0,.int .u64 0,.int .u64 0,.int .u64 0,.int .u64 0,.int .u64 0,.int .u64 0,.int .u64 0,.int .u64 0,.int .u64 0,.int .u64 0,.int .u64 0,.int .u64 0,.int .u64 0,.int .u64 0,.int .u64 0,.int .u32 0,.int .u32 0,.int .u64 0]) = [D.int .u8 0,.int .u8 0,.int .u8 0,.int .u8 0,.int .u8 0,.int .u8 0,.int .u8 0,.int .u8 0,.int .u8 0,.int .u8 0,.int .u8 0,.int .u8 0,.int .u8 0,.int .u8 0,.int .u8 0,.int .u8 0,.int .u8 0,.int .u8 0,.int .u8 0,.int .u8 0,.int .u8 0,.int .u8 0,.int .u8 0,.int .u8 0,.int .u8 0,.int .u8 0,.int .u8 0,.int .u8 0,.int .u8 0,.int .u8 0,.int .u8 0,.int .u8 0,.int .u64 0,.int .u64 0,.int .u64 0,.int .u64 0,.int .u64 0,.int .u64 0,.int .u64 0,.int .u64 0,.int .u64 0,.int .u64 0,.int .u64 0,.int .u64 0,.int .u64 0,.int .u64 0,.int .u64 0,.int .u64 0,.int .u64 0,.int .u64 0,.int .u64 0,.int .u64 0,.int .u32 0,.int .u32 0,.int .u64 0]:=by simp [zk,List.drop_of_length_le,la]
 have e48:List.take 48 (qf A.l ++ (qf B.l ++ [D.int .u8 0,.int .u8 0,.int .u8 0,.int .u8 0,.int .u8 0,.int .u8 0,.int .u8 0,.int .u8 0,.int .u8 0,.int .u8 0,.int .u8 0,.int .u8 0,.int .u8 0,.int .u8 0,.int .u8 0,.int .u8 0,.int .u8 0,.int .u8 0,.int .u8 0,.int .u8 0,.int .u8 0,.int .u8 0,.int .u8 0,.int .u8 0,.int .u8 0,.int .u8 0,.int .u8 0,.int .u8 0,.int .u8 0,.int .u8 0,.int .u8 0,.int .u8 0,.int .u64 0,.int .u64 0,.int .u64 0,.int .u64 0,.int .u64 0,.int .u64 0,.int .u64 0,.int .u64 0,.int .u64 0,.int .u64 0,.int .u64 0,.int .u64 0,.int .u64 0,.int .u64 0,.int .u64 0,.int .u64 0,.int .u64 0,.int .u64 0,.int .u64 0,.int .u64 0,.int .u32 0,.int .u32 0,.int .u64 0])) = qf A.l ++ (qf B.l ++ [D.int .u8 0,.int .u8 0,.int .u8 0,.int .u8 0,.int .u8 0,.int .u8 0,.int .u8 0,.int .u8 0,.int .u8 0,.int .u8 0,.int .u8 0,.int .u8 0,.int .u8 0,.int .u8 0,.int .u8 0,.int .u8 0]):=by simp [kR,qP,la,lb]
 have e64:List.drop 64 (qf A.l ++ (qf B.l ++ [D.int .u8 0,.int .u8 0,.int .u8 0,.int .u8 0,.int .u8 0,.int .u8 0,.int .u8 0,.int .u8 0,.int .u8 0,.int .u8 0,.int .u8 0,.int .u8 0,.int .u8 0,.int .u8 0,.int .u8 0,.int .u8 0,.int .u8 0,.int .u8 0,.int .u8 0,.int .u8 0,.int .u8 0,.int .u8 0,.int .u8 0,.int .u8 0,.int .u8 0,.int .u8 0,.int .u8 0,.int .u8 0,.int .u8 0,.int .u8 0,.int .u8 0,.int .u8 0,.int .u64 0,.int .u64 0,.int .u64 0,.int .u64 0,.int .u64 0,.int .u64 0,.int .u64 0,.int .u64 0,.int .u64 0,.int .u64 0,.int .u64 0,.int .u64 0,.int .u64 0,.int .u64 0,.int .u64 0,.int .u64 0,.int .u64 0,.int .u64 0,.int .u64 0,.int .u64 0,.int .u32 0,.int .u32 0,.int .u64 0])) = [D.int .u64 0,.int .u64 0,.int .u64 0,.int .u64 0,.int .u64 0,.int .u64 0,.int .u64 0,.int .u64 0,.int .u64 0,.int .u64 0,.int .u64 0,.int .u64 0,.int .u64 0,.int .u64 0,.int .u64 0,.int .u64 0,.int .u64 0,.int .u64 0,.int .u64 0,.int .u64 0,.int .u32 0,.int .u32 0,.int .u64 0]:=by simp [zk,List.drop_of_length_le,la,lb]
 obtain ⟨I1,hI1⟩:∃ I,I = qf A.l ++ (qf B.l ++ (qf (List.replicate 16 0) ++ qf S.l)):=⟨_,rfl⟩;have lI1:I1.length = 64:=by rw [hI1];simp [la,lb,ls]
 obtain ⟨C4,Xc⟩:∃ C,jz cf I1 2 0 1 0 0 0 0 0 0 0 0 (.osl K1.length n2 0 n2 1) = C:=⟨_,rfl⟩
 have s4:List.take 52 C3 ++ D.int .u32 2 :: D.int .u32 0 :: D.int .i64 1 :: (qf A.l ++ (qf B.l ++ D.int .u8 0 :: D.int .u8 0 :: D.int .u8 0 :: D.int .u8 0 :: D.int .u8 0 :: D.int .u8 0 :: D.int .u8 0 :: D.int .u8 0 :: D.int .u8 0 :: D.int .u8 0 :: D.int .u8 0 :: D.int .u8 0 :: D.int .u8 0 :: D.int .u8 0 :: D.int .u8 0 :: D.int .u8 0 :: (qf S.l ++ D.int .u64 0 :: D.int .u64 0 :: D.int .u64 0 :: D.int .u64 0 :: D.int .u64 0 :: D.int .u64 0 :: D.int .u64 0 :: D.int .u64 0 :: D.int .u64 0 :: D.int .u64 0 :: D.int .u64 0 :: D.int .u64 0 :: D.int .u64 0 :: D.int .u64 0 :: D.int .u64 0 :: D.int .u64 0 :: D.int .u64 0 :: D.int .u64 0 :: D.int .u64 0 :: D.int .u64 0 :: D.int .u32 0 :: D.int .u32 0 :: D.int .u64 0 :: List.drop 142 C3))) = C4:=by
  rw [← JG,← Xc,hI1];simp [jz,zk,List.drop_of_length_le,lcf,lI0,qf]
 have lC4:C4.length = 147:=by rw [← Xc];exact kw lcf lI1 ..
 have gS:∀ C,qe (ql K11 K2.length C) K2.length = some C:=fun C=>qV (qt gK11);have gqS:∀ C,qe (ql K11 K2.length C) H.length = some cf:=fun C=>by rw [qZ (by omega)];exact gqK11
 have bS:∀ C,qe (ql K11 K2.length C) K1.length = some (qf B2):=fun C=>by rw [qZ (by omega)];exact bK11
 have f51:List.drop 51 cf = [.bool key]:=by rw [kP];simp [zk,List.drop_of_length_le,la,lb,ls]
 obtain ⟨v1,Ve⟩:∃ v1:Nat,v1 = if key then 4 else 0:=⟨_,rfl⟩;obtain ⟨x16,hx16⟩:∃ x,x = 16 * ds:=⟨_,rfl⟩;obtain ⟨y16,hy16⟩:∃ x,x = 16 * fs:=⟨_,rfl⟩;obtain ⟨n17,hn17⟩:∃ x,x = n1+16:=⟨_,rfl⟩;have wn1:IntKind.u64.wrap (n1:Int) = (n1:Int):=by rw [qF] <;> omega
 have wx:IntKind.i64.wrap (16 * (ds:Int)) = (x16:Int):=by rw [wrap_i64] <;> omega
 have wx2:IntKind.u64.wrap (x16:Int) = (x16:Int):=by rw [qF] <;> omega
 have wy:IntKind.i64.wrap (16 * (fs:Int)) = (y16:Int):=by rw [wrap_i64] <;> omega
 have wy2:IntKind.u64.wrap (y16:Int) = (y16:Int):=by rw [qF] <;> omega
 have wn:IntKind.u64.wrap ((n1:Int)+16) = (n17:Int):=by rw [qF] <;> omega
 obtain ⟨C5,Zs⟩:∃ C,jz cf I1 2 v1 1 0 0 0 0 0 0 0 0 (.osl K1.length n2 0 n2 1) = C:=⟨_,rfl⟩
 have s5:key = true→List.take 53 C4 ++ D.int .u32 4 :: List.drop 54 C4 = C5:=fun hk=>by
  have:=qro lcf lI1 2 0 1 0 0 0 0 0 0 0 0 (.osl K1.length n2 0 n2 1) 4;rw [Xc] at this;rw [show D.int .u32 4 = D.int .u32 ((4:Nat):Int) from rfl,this,← Zs,Ve,hk];rfl
 have e5:key = false→C4 = C5:=fun hk=>by rw [← Xc,← Zs,Ve,hk];rfl
 have lC5:C5.length = 147:=by rw [← Zs];exact kw lcf lI1 ..
 obtain ⟨C6,YS⟩:∃ C,jz cf I1 2 v1 1 272 0 0 0 0 0 0 0 (.osl K1.length n2 0 n2 1) = C:=⟨_,rfl⟩
 have sC6:List.take 119 C5 ++ D.int .u64 272 :: List.drop 120 C5 = C6:=by
  have:=qrw lcf lI1 2 v1 1 0 0 0 0 0 0 0 0 (.osl K1.length n2 0 n2 1) 272;rw [Zs,YS] at this;exact this
 have lC6:C6.length = 147:=by rw [← YS];exact kw lcf lI1 ..
 obtain ⟨C7,hC7⟩:∃ C,jz cf I1 2 v1 1 272 288 0 0 0 0 0 0 (.osl K1.length n2 0 n2 1) = C:=⟨_,rfl⟩
 have sC7:List.take 121 C6 ++ D.int .u64 288 :: List.drop 122 C6 = C7:=by
  have:=qrv lcf lI1 2 v1 1 272 0 0 0 0 0 0 0 (.osl K1.length n2 0 n2 1) 288;rw [YS,hC7] at this;exact this
 have lC7:C7.length = 147:=by rw [← hC7];exact kw lcf lI1 ..
 obtain ⟨C8,XO⟩:∃ C,jz cf I1 2 v1 1 272 288 x16 0 0 0 0 0 (.osl K1.length n2 0 n2 1) = C:=⟨_,rfl⟩
 have sC8:List.take 122 C7 ++ D.int .u64 (x16:Nat) :: List.drop 123 C7 = C8:=by
  have:=qru lcf lI1 2 v1 1 272 288 0 0 0 0 0 0 (.osl K1.length n2 0 n2 1) x16;rw [hC7,XO] at this;exact this
 have lC8:C8.length = 147:=by rw [← XO];exact kw lcf lI1 ..
 obtain ⟨C9,hC9⟩:∃ C,jz cf I1 2 v1 1 272 288 x16 n17 0 0 0 0 (.osl K1.length n2 0 n2 1) = C:=⟨_,rfl⟩
 have sC9:List.take 123 C8 ++ D.int .u64 (n17:Nat) :: List.drop 124 C8 = C9:=by
  have:=qrt lcf lI1 2 v1 1 272 288 x16 0 0 0 0 0 (.osl K1.length n2 0 n2 1) n17;rw [XO,hC9] at this;exact this
 have lC9:C9.length = 147:=by rw [← hC9];exact kw lcf lI1 ..
 obtain ⟨C10,hC10⟩:∃ C,jz cf I1 2 v1 1 272 288 x16 n17 y16 0 0 0 (.osl K1.length n2 0 n2 1) = C:=⟨_,rfl⟩
 have sC10:List.take 124 C9 ++ D.int .u64 (y16:Nat) :: List.drop 125 C9 = C10:=by
  have:=qrs lcf lI1 2 v1 1 272 288 x16 n17 0 0 0 0 (.osl K1.length n2 0 n2 1) y16;rw [hC9,hC10] at this;exact this
 have lC10:C10.length = 147:=by rw [← hC10];exact kw lcf lI1 ..
 obtain ⟨C11,hC11⟩:∃ C,jz cf I1 2 v1 1 272 288 x16 n17 y16 n1 0 0 (.osl K1.length n2 0 n2 1) = C:=⟨_,rfl⟩
 have sC11:List.take 125 C10 ++ D.int .u64 (n1:Nat) :: List.drop 126 C10 = C11:=by
  have:=qrr lcf lI1 2 v1 1 272 288 x16 n17 y16 0 0 0 (.osl K1.length n2 0 n2 1) n1;rw [hC10,hC11] at this;exact this
 have lC11:C11.length = 147:=by rw [← hC11];exact kw lcf lI1 ..
 obtain ⟨C12,hC12⟩:∃ C,jz cf I1 2 v1 1 272 288 x16 n17 y16 n1 2 0 (.osl K1.length n2 0 n2 1) = C:=⟨_,rfl⟩
 have sC12:List.take 126 C11 ++ D.int .u64 2 :: List.drop 127 C11 = C12:=by
  have:=qrq lcf lI1 2 v1 1 272 288 x16 n17 y16 n1 0 0 (.osl K1.length n2 0 n2 1) 2;rw [hC11,hC12] at this;exact this
 have lC12:C12.length = 147:=by rw [← hC12];exact kw lcf lI1 ..
 obtain ⟨C13,hC13⟩:∃ C,jz cf I1 2 v1 1 272 288 x16 n17 y16 n1 2 aft (.osl K1.length n2 0 n2 1) = C:=⟨_,rfl⟩
 have sC13:List.take 128 C12 ++ D.int .u64 (aft:Nat) :: List.drop 129 C12 = C13:=by
  have:=qrp lcf lI1 2 v1 1 272 288 x16 n17 y16 n1 2 0 (.osl K1.length n2 0 n2 1) aft;rw [hC12,hC13] at this;exact this
 have lC13:C13.length = 147:=by rw [← hC13];exact kw lcf lI1 ..
 have JB:∃ (T:qd) (q:Nat),(K2.length = q∧ql K11 K2.length C13 = T)∧∃ (m:Jm),JmW T q m∧m.Ok∧Ext [] H T∧(∀ i,i∈m.names q→H.length≤i)∧m.ne = 0∧m.tl = aft∧m.b.length = 304+16 * ds+16 * fs∧m.da = []∧m.fi = []∧m.main = []:=by
  have w:=qr7 (T:=ql K11 K2.length C13) (q:=K2.length) (bi:=K1.length) (b:=B2) (n1:=n1) (aft:=aft) kP hI1 (by rw [gS,lB2,← hx16,← hn17,← hy16,← Ve,hC13]) (bS C13) (by omega) YN (by omega) (by omega) (by omega);refine ⟨_,_,⟨rfl,rfl⟩,_,w,?_,?_,fun i hi=>?_,rfl,rfl,by simp only;omega,rfl,rfl,rfl⟩
  ·exact ⟨JD,hfs,by simp only;omega,by simp only;omega,by simp only;omega,by simp only;omega,fun k hk=>by simp at hk,fun k hk=>by simp at hk,⟨0,by simp only;omega,ArrOk.zero _⟩,fun _=>rfl,YN,by simp only;omega,by simp,by simp,fun k hk=>by simp at hk⟩
  ·have n1':NewL [] [K1.length] H.length:=fun i hi=>.inr (by rw [List.mem_singleton.1 hi];omega);have n2':NewL [] [K2.length] H.length:=fun i hi=>.inr (by rw [List.mem_singleton.1 hi];omega);exact (((((((((x1.trans x2 (NewL.refl _ _)).trans x3 (NewL.refl _ _)).trans xK5 (NewL.refl _ _)).trans xK6 n1').trans xK7 n2').trans xK9 (NewL.refl _ _)).trans xK10 n1').trans xK11 n2').trans (Ext.set K11 K2.length C13) n2')
  ·simp only [Jm.names,zA,List.not_mem_nil,or_false,Xm] at hi;rcases hi with rfl | rfl <;> omega
 cases hkey:key with
 | true =>
  have s5':=s5 hkey;rw [hkey] at f51;simp [-qe,-ql,-qo,-qM,Tryz.f49,jv,g1,lcf,ccf,jQ,h272,tcf,← hZm,lZm,s1,Vp,lC1,cC1,g3,gq3,c143,f48,f49,hza,lza,fza,aza,tza,mbza,JF,gK4,hK5',ptb,bK5,aK6,kK6,gK6,sC2,lC2,cC2,hK7,gK7,gqK7,hzb,lzb,fzb,azb,tzb,mbzb,Jo,gK8,hK9',ptc,bK9,aK10,kK10,gK10,sC3,lC3,hK11,gK11,gqK11,leK5,qK4,qK5,leK9,qK8,qK9,tA,tB,tS,eD,e48,e64,s4,lC4,gS,gqS,f51,kp,wn1,wx,wx2,wy,wy2,wn,lC5,sC6,lC6,sC7,lC7,sC8,lC8,sC9,lC9,sC10,lC10,sC11,lC11,sC12,lC12,sC13,s5'];exact JB
 | false =>
  have s5':=e5 hkey;rw [hkey] at f51;simp [-qe,-ql,-qo,-qM,Tryz.f49,jv,g1,lcf,ccf,jQ,h272,tcf,← hZm,lZm,s1,Vp,lC1,cC1,g3,gq3,c143,f48,f49,hza,lza,fza,aza,tza,mbza,JF,gK4,hK5',ptb,bK5,aK6,kK6,gK6,sC2,lC2,cC2,hK7,gK7,gqK7,hzb,lzb,fzb,azb,tzb,mbzb,Jo,gK8,hK9',ptc,bK9,aK10,kK10,gK10,sC3,lC3,hK11,gK11,gqK11,leK5,qK4,qK5,leK9,qK8,qK9,tA,tB,tS,eD,e48,e64,s4,gS,gqS,f51,kp,wn1,wx,wx2,wy,wy2,wn,lC5,sC6,lC6,sC7,lC7,sC8,lC8,sC9,lC9,sC10,lC10,sC11,lC11,sC12,lC12,sC13,s5'];exact JB
end Go.Ev.S
namespace Go.Ev.S
open Go Go.Proofs Go.Ev
theorem JGrow.side {H K T:qd} {q:Nat} {m m':Jm} {L:List Nat} (g:JGrow H K q m m') (x:Ext L K T) (h1:∀ i,i∈L→H.length≤i) (h2:∀ i,i∈m'.names q→i ∉ L):JGrow H T q m m' :=
 { g with w:=qbe g.w x h2,ext:=g.ext.trans x (fun i hi=>.inr (h1 i hi)) }
structure ApA (H:qd) (q:Nat) (m:Jm) (o:ID) (i:Nat) (K:qd) (m':Jm) (w:List Nat) (wD pD:D) (pc:List D) (Lw Lp:List Nat):Prop where
 g:JGrow H K q m m'
 da:m'.da.length≤m.da.length+i
 fi:m'.fi.length≤m.fi.length+i
 bl:m'.b.length≤m.b.length+171 * i
 cn:∀ k,k∈m'.da→k.cnt≤4 * m.ne
 id:qe K H.length = some (qf o.l)
 idN:H.length ∉ m'.names q
 wR:RowA K 1 wD (qy .i64 w) Lw
 pR:RowA K 1 pD pc Lp
 wl:w.length = i
 pl:pc.length = i
 wb:∀ j,j∈w→j < m'.da.length
 ps:qf3 pc
 wN:∀ j,j∈Lw→j ∉ m'.names q∧H.length < j
 pN:∀ j,j∈Lp→j ∉ m'.names q∧H.length < j∧j ∉ Lw
theorem qiQ {cs:List D} (h:qf3 cs):cs.all idFree = true:=List.all_eq_true.2 fun d hd=>by
 obtain ⟨s,rfl,_⟩:=h d hd;rfl
theorem ApA.next {H K K1 K5 K6 T3:qd} {q:Nat} {m m' m1:Jm} {o:ID} {i:Nat} {w:List Nat} {wD pD:D} {pc:List D} {Lw Lp:List Nat} (h:ApA H q m o i K m' w wD pD pc Lw Lp) (gr:JGrow K K1 q m' m1)
  {kk:Nat} (KQ:kk < m1.da.length) (hb:m1.b.length≤m'.b.length+171) (hd:m1.da.length≤m'.da.length+1) (hmono:m'.da.length≤m1.da.length) (hf:m1.fi.length≤m'.fi.length+1) (VC:∀ k,k∈m1.da→k∈m'.da∨k.cnt = 0)
  {s:List UInt8} (hs:s.length≤1000) {r:Nat} (hg5:qe K5 r = some (pc ++ [.vsl false (qf s) s.length])) (x5:Ext Lp K1 K5) (hr:r∈Lp∨K1.length≤r) (x6:Ext Lw K5 K6) (x7:Ext [] K6 T3) {a:Nat} (ha:a≤w.length)
  (g7:qe T3 K6.length = some (qy .i64 (w.take a ++ kk :: w.drop a))) :
  ApA H q m o (i+1) T3 m1 (w.take a ++ kk :: w.drop a) (.osl K6.length (w.length+1) 0 (w.length+1) 1) (.osl r (pc.length+1) 0 (pc.length+1) 1) (pc ++ [.vsl false (qf s) s.length]) [K6.length] [r]:=by
 have n1:∀ j,j < K.length→j ∉ m'.names q→j ∉ m1.names q:=fun j hj hn hc=>(gr.new j hc).elim hn (fun vd=>by omega);have hHK:H.length < K.length:=qt h.id;have vE:∀ j,j∈Lp→j < K.length:=fun j hj=>h.pR.lt hj;have km:∀ j,j∈Lw→j < K.length:=fun j hj=>h.wR.lt hj;have l1:=gr.ext.len;have l5:=x5.len;have l6:=x6.len;have l7:=x7.len;have m1l:∀ j,j∈m1.names q→j < K1.length:=fun j hj=>Yx gr.w hj;have pN1:∀ j,j∈m1.names q→j ∉ Lp:=fun j hj hc=>n1 j (vE j hc) (h.pN j hc).1 hj;have wN1:∀ j,j∈m1.names q→j ∉ Lw:=fun j hj hc=>n1 j (km j hc) (h.wN j hc).1 hj
 have rLw:r ∉ Lw:=fun hc=>by
  rcases hr with h1 | h1
  ·exact (h.pN r h1).2.2 hc
  ·have:=km r hc;omega
 have rlt:r < K5.length:=qt hg5;have g5:=(((h.g.trans gr).side x5 (fun j hj=>by have:=(h.pN j hj).2.1;omega) pN1).side x6 (fun j hj=>by have:=(h.wN j hj).2;omega) wN1).side x7 (fun j hj=>by simp at hj) (fun j _=>by simp);have idK:H.length ∉ Lp∧H.length ∉ Lw:=⟨fun hc=>by have:=(h.pN _ hc).2.1;omega,fun hc=>by have:=(h.wN _ hc).2;omega⟩;refine ⟨g5,by have:=h.da;omega,by have:=h.fi;omega,by have:=h.bl;omega,fun k hk=>?_,?_,n1 _ hHK h.idN,?_,?_,?_,?_,?_,?_,?_,?_⟩
 ·rcases VC k hk with h1 | h1
  ·exact h.cn k h1
  ·omega
 ·exact x7.get (x6.get (x5.get (gr.ext.get h.id h.idN) idK.1) idK.2) (by simp)
 ·have:=RowA.of (H:=T3) (k:=1) (n:=w.length+1) (cs:=qy .i64 (w.take a ++ kk :: w.drop a)) (by simp;omega) g7;have hl:(qy .i64 (w.take a ++ kk :: w.drop a)).length = w.length+1:=by simp;omega
  rw [hl] at this;exact this
 ·have hg:=x7.get (x6.get hg5 rLw) (by simp);have:=RowA.of (H:=T3) (k:=1) (n:=pc.length+1) (by simp) hg;rw [qX,List.length_singleton] at this;exact this
 ·have:=h.wl;simp;omega
 ·rw [qX,h.pl];rfl
 ·intro j hj;simp only [ji,zA] at hj;rcases hj with hj | rfl | hj
  ·exact jr (h.wb j (JQ hj)) hmono
  ·exact KQ
  ·exact jr (h.wb j (QG hj)) hmono
 ·intro d hd;rcases List.mem_append.1 hd with h1 | h1
  ·exact h.ps d h1
  ·exact ⟨Sl.mk false s (by simp),List.mem_singleton.1 h1,by simp only;omega⟩
 ·intro j hj;rw [List.mem_singleton.1 hj];exact ⟨fun hc=>by have:=m1l _ hc;omega,by omega⟩
 ·intro j hj;rw [List.mem_singleton.1 hj];refine ⟨fun hc=>?_,?_,by simp;omega⟩
  ·rcases hr with h1 | h1
   ·exact pN1 r hc h1
   ·have:=m1l _ hc;omega
  ·rcases hr with h1 | h1
   ·exact (h.pN r h1).2.1
   ·omega
theorem qlY {H:qd} {v:D} {cs:List D} {L:List Nat} {k n:Nat} (h:RowA H k v cs L) (hf:cs.all idFree = true) (hn:cs.length = n * k) (hk:0 < k):∃ nl,zF H 9 v = some (.vsl nl cs n,L)∧(nl = true→n = 0):=by
 rcases h with ⟨rfl,rfl,rfl⟩ | ⟨r,n',rfl,h2,h3,rfl⟩
 ·have h0:n * k = 0:=by simpa using hn.symm
  have Qb:n = 0:=(Nat.mul_eq_zero.1 h0).resolve_right (by omega);subst Qb;exact ⟨true,by simp [zF,idFree],fun _=>rfl⟩
 ·have jb:n' = n:=Nat.eq_of_mul_eq_mul_right hk (by omega);subst jb;refine ⟨false,?_,fun h=>by simp at h⟩;unfold zF;rw [if_neg (by simp [idFree])];simp only [h3];rw [if_pos ⟨trivial,by omega⟩,if_pos (by rw [kO];exact hf),List.drop_zero,qP (by omega)]
structure ApE (H T:qd) (q:Nat) (m m':Jm):Prop where
 w:JmW T q m'
 ok:m'.Ok
 main:ArrOk m'.b.length m'.main m'.ne
 cn:∀ k,k∈m'.da→k.cnt≤4 * m'.ne
 ext:Ext (m.names q) H T
 new:NewL (m.names q) (m'.names q) H.length
 ne:m'.ne = m.ne+1
 tl:m'.tl = m.tl+1
 bl:m'.b.length≤m.b.length+2200
 da:m'.da.length≤m.da.length+4
 fi:m'.fi.length≤m.fi.length+4
structure ApC (H:qd) (q:Nat) (m:Jm) (o:ID) (i:Nat) (K:qd) (m':Jm) (itD:D) (ic:List D) (Li:List Nat):Prop where
 g:JGrow H K q m m'
 id:qe K H.length = some (qf o.l)
 iR:RowA K 2 itD ic Li
 il:ic.length = i * 2
 iu:Zh ic
 iN:∀ j,j∈Li→j ∉ m'.names q∧H.length < j
def apJ (q:Nat) (H:qd) (m m':Jm) (o:ID) (w:List Nat) (pc:List D) (nl nl2:Bool) (rt mo p:Nat) (i:Nat) (e:qn) (K:qd):Prop :=
 i≤w.length∧qg e 0 = some (.optr q 147 0)∧qg e 2 = some (.int .u64 rt)∧qg e 3 = some (.int .u64 mo)∧qg e 9 = some (.optr H.length 16 0)∧qg e 14 = some (.optr p 147 0)∧qg e 16 = some (.vsl nl (qy .i64 w) w.length)∧qg e 17 = some (.vsl nl2 pc pc.length)∧qg e 21 = some (.int .i64 i)∧∃ itD ic Li,qg e 15 = some itD∧ApC H q m o i K m' itD ic Li
structure ApD (H:qd) (q:Nat) (m:Jm) (o:ID) (dl:Nat) (i:Nat) (K:qd) (m5:Jm):Prop where
 w:JmW K q m5
 ok:m5.Ok
 ext:Ext (m.names q) H K
 new:NewL (m.names q) (m5.names q) H.length
 ne:m5.ne = m.ne
 tl:m5.tl = m.tl
 main:ArrOk m5.b.length m5.main (m.ne+1)
 bl:m5.b.length≤m.b.length+(1000+280 * i)
 dl:m5.da.length = dl
 da:m5.da.length≤m.da.length+4
 fi:m5.fi.length≤m.fi.length+4
 cn:∀ k,k∈m5.da→k.cnt≤4 * m.ne+i
 id:qe K H.length = some (qf o.l)
 idN:H.length ∉ m5.names q
def apK (q:Nat) (H:qd) (m:Jm) (o:ID) (w:List Nat) (nl:Bool) (rt mo p seq a dl:Nat) (i:Nat) (e:qn) (K:qd):Prop :=
 i≤w.length∧qg e 0 = some (.optr q 147 0)∧qg e 2 = some (.int .u64 rt)∧qg e 3 = some (.int .u64 mo)∧qg e 9 = some (.optr H.length 16 0)∧qg e 14 = some (.optr p 147 0)∧qg e 16 = some (.vsl nl (qy .i64 w) w.length)∧qg e 23 = some (.int .u64 seq)∧qg e 24 = some (.int .u64 a)∧qg e 26 = some (.int .i64 m.ne)∧qg e 27 = some (.int .i64 i)∧∃ m5,ApD H q m o dl i K m5
theorem qlN {j k:Nat} (h:j≤k):jm j≤jm k:=by
 induction h with
 | refl=>exact qv _
 | step _ ih=>have:=@qe8;exact jA ih (Nat.le_of_lt qe8)
theorem qkN {bl:Nat} {arrs:List Nat} {n:Nat} (h:ArrOk bl arrs n) {k:Nat} (hk:n≤jm k):arrs.length≤k:=by
 cases hl:arrs.length with
 | zero=>omega
 | succ j =>
  have h1:=h.lo j hl;by_cases XF:j < k
  ·omega
  ·have:=qlN (show k≤j by omega);omega
theorem qh2 {a k:Nat} (h:a≤k) (hk:k≤5):Qz a≤4 * 2 ^ k:=by
 unfold Qz;rw [if_pos (by omega)];exact Nat.mul_le_mul_left _ (qb6 (by omega) h)
def apI (q:Nat) (H:qd) (m:Jm) (o:ID) (out:List Pr) (rt mo p:Nat) (i:Nat) (e:qn) (K:qd):Prop :=
 i≤out.length∧qg e 0 = some (.optr q 147 0)∧qg e 2 = some (.int .u64 rt)∧qg e 3 = some (.int .u64 mo)∧qg e 9 = some (.optr H.length 16 0)∧qg e 12 = some (.vsl false (qk out) out.length)∧qg e 14 = some (.optr p 147 0)∧qg e 15 = some (.vsl true [] 0)∧qg e 18 = some (.int .i64 i)∧∃ m' w wD pD pc Lw Lp,qg e 16 = some wD∧qg e 17 = some pD∧ApA H q m o i K m' w wD pD pc Lw Lp
set_option maxHeartbeats 8000000 in
set_option maxRecDepth 10000 in
theorem qsp [MaxL] [TxtC] {H:qd} {q:Nat} {m:Jm} (h:JmW H q m) (hk:m.Ok) (hmain:ArrOk m.b.length m.main m.ne) (VC:∀ k,k∈m.da→k.cnt≤4 * m.ne) (ps:List Pr) (vx:1≤ps.length) (hp4:ps.length≤4) (hpo:∀ p∈ps,Jc p = true) (rt mo:Nat) (hrt:rt < 18446744073709551616) (hmo:mo < 18446744073709551616) (o:ID) (qH:m.ne≤4) (jG:m.b.length≤25000) (htl:m.tl < 1000000) (hda:m.da.length≤500) (Jj:m.fi.length≤500) :
  ∃ T m',call cx 53 [.optr q 147 0,.vsl false (qk ps) ps.length,.int .u64 rt,.int .u64 mo,.agg (qf o.l)] H = some (.tup [.int .u64 (m.tl+1:Nat),.int .i64 0],T)∧ApE H T q m m':=by
 suffices hs:∃ r,call cx 53 [.optr q 147 0,.vsl false (qk ps) ps.length,.int .u64 rt,.int .u64 mo,.agg (qf o.l)] H = some r∧∃ (T:qd) (m':Jm),r = (.tup [.int .u64 (m.tl+1:Nat),.int .i64 0],T)∧ApE H T q m m' by
  obtain ⟨r,hc,T,m',rfl,h1⟩:=hs;exact ⟨T,m',hc,h1⟩
 refine Zt (X:=cx) (f:=53) _ Tryz.func53 rfl ⟨rfl,rfl⟩ ?_;obtain ⟨K1,jv⟩:∃ T,qo H (qf o.l) = T:=⟨_,rfl⟩;have x1:Ext [] H K1:=jv ▸ Ext.new H _;have gid1:qe K1 H.length = some (qf o.l):=by rw [← jv,qN]
 obtain ⟨_,hlist,out,X8,ho4,hoo,rfl⟩:=qiE ps vx hp4 hpo;have g1:=(JGrow.refl h hk).side x1 (fun i hi=>by simp at hi) (fun i _=>by simp);have htail:=qfz g1.w;obtain ⟨K2,p,Jl,x2⟩:=qso g1.w hk;have g2:=g1.side x2 (fun i hi=>by simp at hi) (fun i _=>by simp);have gid2:qe K2 H.length = some (qf o.l):=x2.get gid1 (by simp);have htm:¬ (m.tl:Int) = 18446744073709551615:=by omega
 have htmn:¬ m.tl = 18446744073709551615:=by omega
 have lo:=o.h
 have co:(∀ x,x∈qf o.l→closed H.length x = true) = True:=eq_true fun x hx=>by
  simp only [qf,kI] at hx;obtain ⟨_,_,rfl⟩:=hx;rfl
 simp [-qe,-ql,-qo,-qM,-zF,-kh,Tryz.f53,lo,jv,hlist,htail,htm,Jl];refine KB (apI q H m o out rt mo p) (fun i=>out.length - i) 0 (fun ex e K=>ex = .exit 0∧apI q H m o out rt mo p out.length e K) ?_ ?_ ?_
 ·refine ⟨vf _,by simp,by simp,by simp,by simp,by simp,by simp,by simp,by simp,m,[],.vsl true [] 0,.vsl true [] 0,[],[],[],by simp,by simp,g2,by omega,by omega,by omega,VC,gid2,?_,RowA.nil _ _,RowA.nil _ _,rfl,rfl,fun j hj=>by simp at hj,fun d hd=>by simp at hd,fun j hj=>by simp at hj,fun j hj=>by simp at hj⟩;intro hc;have:=Yx h hc;omega
 ·rintro i e K ⟨hi,p0,p2,p3,p9,p12,p14,p15,p18,m',w,wD,pD,pc,Lw,Lp,p16,p17,A⟩;by_cases qi:i < out.length
  ·have qq:(i:Int) < (out.length:Int):=(by omega);have hw:IntKind.i64.wrap ((i:Int)+1) = ((i+1:Nat):Int):=(by rw [wrap_i64] <;> omega);have hp:=qo6 (hoo _ (vQ qi));have hA1:=A.da;have Ki:=A.fi;have hA3:=A.bl;have hA4:=A.wl;have hA5:=A.pl;obtain ⟨K1',m1,kk,hdat,gr,KQ,Xa,Qt,hf1,hmono1,hcn1⟩:=qsn A.g.w A.g.ok out[i] (by omega) (by omega) (by omega) (by omega) (by omega);have hEp:(Enc.cells out[i]:List D) = [.str out[i].name,.str out[i].value]:=rfl
   have V7:qk m1.da≠[]:=fun e0=>by
    have:=Qv m1.da;rw [e0] at this;simp at this;omega
   obtain ⟨ro,nn,hfv,vH,Qq,hLd⟩:=gr.w.rowD.own V7
   have jb:nn = m1.da.length:=by
    have:=Qv m1.da;rw [this] at vH;simp at vH;omega
   subst jb;have zJ:(qk m1.da).length = m1.da.length * 5:=vH;have rt1:=gr.w.root;have cl1:=gr.w.len;have c144:=zD gr.w.c144;rw [hfv,zJ] at c144;obtain ⟨k,r0,Ji,jU,vc,hd01,hd02⟩:=Y1 KQ;have V9:=(gr.ok.da k Ji).txt;have hkk':(kk:Int) < (m1.da.length:Int):=(by omega);obtain ⟨r,K4,K5,hA4',hst,g5,x5,hr⟩:=qn2 K1' (A.pR.ext gr.ext (fun j hj=>(A.pN j hj).1)) (qiQ A.ps) k.text (by omega);obtain ⟨Ka,ky⟩:∃ T,qo K1' (qf k.text) = T:=⟨_,rfl⟩;rw [ky] at hA4';have lka:K1'.length < Ka.length:=(by rw [← ky,zG];omega);have hKa0:Ka≠[]:=fun e0=>by rw [e0] at lka;simp at lka
   obtain ⟨Kb,hKb⟩:∃ T,qo Ka [.osl K1'.length k.text.length 0 k.text.length 1] = T:=⟨_,rfl⟩;rw [hKb] at hA4';have wR5:=(A.wR.ext gr.ext (fun j hj=>(A.wN j hj).1)).ext x5 (fun j hj hc=>(A.pN j hc).2.2 hj);obtain ⟨nl,Je,zq⟩:=qcN wR5 (by simp [qy,idFree]);rw [qfp] at Je;obtain ⟨K6,vz⟩:∃ T,jq K5 Lw = T:=⟨_,rfl⟩;have x6:Ext Lw K5 K6:=vz ▸ qcB Lw
   have pN1:∀ j,j∈m1.names q→j ∉ Lp:=fun j hj hc=>by
    have:=A.pR.lt hc;rcases gr.new j hj with h1 | h1
    ·exact (A.pN j hc).1 h1
    ·omega
   have wN1:∀ j,j∈m1.names q→j ∉ Lw:=fun j hj hc=>by
    have:=A.wR.lt hc;rcases gr.new j hj with h1 | h1
    ·exact (A.wN j hc).1 h1
    ·omega
   have rt6:qe K6 q = some m1.cs:=x6.get (x5.get rt1 (pN1 _ Jb)) (wN1 _ Jb);have hro:ro∈m1.names q:=qdl (by rw [hLd];simp);have ge6:qe K6 ro = some (qk m1.da):=x6.get (x5.get Qq (pN1 _ hro)) (wN1 _ hro);simp [-qe,-ql,-qo,-qM,-zF,-kh,-jq,-Kn.ea,p0,p2,p3,p9,p12,p14,p15,p16,p17,p18,qi,qq,hdat,rt1,cl1,c144,hkk',Qq,zJ,jU,ky,hKb,hKa0,hA4',hst,Je,vz];clear p0 p2 p3 p9 p12 p14 p15 p16 p17 p18;obtain ⟨IB,hIB⟩:∃ I:Nat→qn→qd→Prop,I = fun (a:Nat) (e:qn) (K':qd)=>a≤w.length∧qg e 0 = some (.optr q 147 0)∧qg e 2 = some (.int .u64 rt)∧qg e 3 = some (.int .u64 mo)∧qg e 9 = some (.optr H.length 16 0)∧qg e 12 = some (.vsl false (qk out) out.length)∧qg e 14 = some (.optr p 147 0)∧qg e 15 = some (.vsl true [] 0)∧qg e 18 = some (.int .i64 i)∧qg e 16 = some (.vsl nl (qy .i64 w) w.length)∧qg e 17 = some (.osl r (pc.length+1) 0 (pc.length+1) 1)∧qg e 19 = some (.int .i64 kk)∧qg e 20 = some (.int .i64 a)∧K' = K6:=⟨_,rfl⟩;refine KB IB (fun a=>a) w.length (fun ex e K'=>ex = .exit 2∧∃ a,IB a e K') ?_ ?_ ?_
   ·rw [hIB];exact ⟨qv _,by simp,by simp,by simp,by simp,by simp,by simp,by simp,by simp,by simp,by simp,by simp,by simp,rfl⟩
   ·rw [hIB];rintro a e K' ⟨ha,p0,p2,p3,p9,p12,p14,p15,p18,p16,p17,p19,p20,rfl⟩;by_cases Jn:a = 0
    ·subst Jn;simp [-qe,-ql,-qo,p0,p2,p3,p9,p12,p14,p15,p16,p17,p18,p19,p20];exact ⟨0,by omega,rfl⟩
    ·obtain ⟨b,rfl⟩:∃ b,a = b+1:=⟨a - 1,by omega⟩;have jG:b < w.length:=(by omega);have hbl':(b:Int) < (w.length:Int):=(by omega);have hwa:IntKind.i64.wrap ((b:Int)+1 - 1) = (b:Int):=(by rw [wrap_i64] <;> omega);have hwb:IntKind.i64.wrap (b:Int) = (b:Int):=(by rw [wrap_i64] <;> omega);have hgt:(0:Int) < (b:Int)+1:=(by omega);have zC:=qa6 (k:=.i64) jG;obtain ⟨j1,Qp⟩:∃ j,w[b] = j:=⟨_,rfl⟩;rw [Qp] at zC;have VA:j1 < m1.da.length:=jr (A.wb j1 (Qp ▸ vQ jG)) hmono1;have hjd':(j1:Int) < (m1.da.length:Int):=(by omega);obtain ⟨k2,r2,hkm2,he0,hki2,he01,he02⟩:=Y1 VA
     have jZ:nl = false:=by
      cases hnl2:nl with
      | false=>rfl
      | true =>
       have h0:w = []:=(by simpa [qy] using zq hnl2);rw [h0] at jG;simp at jG
     subst jZ;by_cases hgr:k.at_ < k2.at_
     ·have hgr':(k.at_:Int) < (k2.at_:Int):=(by omega);simp [-qe,-ql,-qo,-Kn.ea,p0,p2,p3,p9,p12,p14,p15,p16,p17,p18,p19,p20,hbl',hwb,hgt,zC,hjd',rt6,cl1,c144,ge6,zJ,he01,hd01,hkk',hgr'];exact ⟨b,by omega,by omega,rfl⟩
     ·have hgr':¬ (k.at_:Int) < (k2.at_:Int):=(by omega);simp [-qe,-ql,-qo,-Kn.ea,p0,p2,p3,p9,p12,p14,p15,p16,p17,p18,p19,p20,hbl',hwb,hgt,zC,hjd',rt6,cl1,c144,ge6,zJ,he01,hd01,hkk',hgr'];exact ⟨b+1,ha,by omega⟩
   ·rw [hIB];rintro ex e K' ⟨rfl,a,ha,p0,p2,p3,p9,p12,p14,p15,p18,p16,p17,p19,p20,rfl⟩;obtain ⟨T1,T2,T3,i1,i2,i3,g7,x7,lt1⟩:=qsv K' nl w a kk ha (by omega);obtain ⟨K7,hK7⟩:∃ T,qo K' [] = T:=⟨_,rfl⟩;rw [hK7] at i1;have ZD:(a:Int)≤(w.length:Int):=(by omega);have htd:List.take (w.length - a) (List.drop a (qy .i64 w)) = List.drop a (qy .i64 w):=qP (by simp);have V8:qo [] [D.int .i64 (kk:Nat)] = [some [.int .i64 (kk:Nat)]]:=rfl;simp [-qe,-ql,-qo,-qM,p0,p2,p3,p9,p12,p14,p15,p16,p17,p18,p19,p20,ZD,hK7,i1,i2,i3,hw,V8,htd];exact ⟨i+1,by omega,by omega,by simp,by simp,by simp,by simp,by simp,by simp,by simp,by simp,m1,w.take a ++ kk :: w.drop a,.osl K'.length (w.length+1) 0 (w.length+1) 1,.osl r (pc.length+1) 0 (pc.length+1) 1,_,_,_,by simp,by simp,A.next gr KQ (by omega) Qt hmono1 hf1 hcn1 V9 g5 x5 hr x6 x7 ha g7⟩
  ·have qq:¬ (i:Int) < (out.length:Int):=(by omega);have Q3:i = out.length:=(by omega);subst Q3;simp [-qe,-ql,-qo,p0,p2,p3,p9,p12,p14,p15,p16,p17,p18];exact ⟨qv _,by simp,by simp,by simp,by simp,by simp,by simp,by simp,by simp,m',w,wD,pD,pc,Lw,Lp,by simp,by simp,A⟩
 ·rintro ex e K ⟨rfl,-,p0,p2,p3,p9,p12,p14,p15,p18,m',w,wD,pD,pc,Lw,Lp,p16,p17,A⟩;have km:=A.wl;have vE:=A.pl;have hbl2:=A.bl;have hnat:(qy .i64 w).all idFree = true:=by simp
  obtain ⟨nl,Je,zq⟩:=qcN A.wR hnat;obtain ⟨nl2,hs17,hnl2⟩:=qcN A.pR (qiQ A.ps);rw [qfp] at Je;obtain ⟨K8,Jo⟩:∃ T,jq K (Lw ++ Lp) = T:=⟨_,rfl⟩;have x8:Ext (Lw ++ Lp) K K8:=Jo ▸ qcB _
  have g8:=A.g.side x8 (fun j hj=>by
   rcases List.mem_append.1 hj with h1 | h1
   ·have:=(A.wN j h1).2;omega
   ·have:=(A.pN j h1).2.1;omega) (fun j hj hc=>by
   rcases List.mem_append.1 hc with h1 | h1
   ·exact (A.wN j h1).1 hj
   ·exact (A.pN j h1).1 hj)
  have gid8:qe K8 H.length = some (qf o.l):=x8.get A.id (fun hc=>by
   rcases List.mem_append.1 hc with h1 | h1
   ·have:=(A.wN _ h1).2;omega
   ·have:=(A.pN _ h1).2.1;omega)
  simp [-qe,-ql,-qo,-qM,-zF,-kh,-jq,p0,p2,p3,p9,p14,p15,p16,p17,Je,hs17,Jo];refine KB (apJ q H m m' o w pc nl nl2 rt mo p) (fun i=>w.length - i) 0 (fun ex e K=>ex = .exit 4∧apJ q H m m' o w pc nl nl2 rt mo p w.length e K) ?_ ?_ ?_
  ·exact ⟨vf _,by simp,by simp,by simp,by simp,by simp,by simp,by simp,by simp,.vsl true [] 0,[],[],by simp,g8,gid8,RowA.nil _ _,rfl,qsr,fun j hj=>by simp at hj⟩
  ·clear p0 p2 p3 p9 p12 p14 p15 p16 p17 p18;rintro i e K' ⟨hi,p0,p2,p3,p9,p14,p16,p17,p21,itD,ic,Li,p15,C⟩;by_cases qi:i < w.length
   ·have qq:(i:Int) < (w.length:Int):=(by omega);have hw:IntKind.i64.wrap ((i:Int)+1) = ((i+1:Nat):Int):=by rw [wrap_i64] <;> omega
    have jZ:nl = false:=by
     cases hnl3:nl with
     | false=>rfl
     | true =>
      have h0:w = []:=(by simpa [qy] using zq hnl3);rw [h0] at qi;simp at qi
    subst jZ;have zC:=qa6 (k:=.i64) qi;obtain ⟨j1,Qp⟩:∃ j,w[i] = j:=⟨_,rfl⟩;rw [Qp] at zC;have VA:j1 < m'.da.length:=A.wb j1 (Qp ▸ vQ qi);have hjd':(j1:Int) < (m'.da.length:Int):=(by omega);obtain ⟨k,r0,Ji,jU,vc,hd01,hd02⟩:=Y1 VA;have V7:qk m'.da≠[]:=fun e0=>by rw [e0] at jU;simp at jU
    obtain ⟨ro,nn,hfv,vH,Qq,hLd⟩:=C.g.w.rowD.own V7
    have jb:nn = m'.da.length:=by
     have:=Qv m'.da;rw [this] at vH;simp at vH;omega
    subst jb;have zJ:(qk m'.da).length = m'.da.length * 5:=vH;have rt1:=C.g.w.root;have cl1:=C.g.w.len;have c144:=zD C.g.w.c144;rw [hfv,zJ] at c144;have c51:=zD C.g.w.c51;have cfile:=C.g.w.file;have V9:=(C.g.ok.da k Ji).txt;have hka:=(C.g.ok.da k Ji).at_;have hbm:=C.g.ok.bmax;obtain ⟨Ka,ky⟩:∃ T,qo K' [.str k.text,.int .u64 (k.at_:Nat),.int .i64 (k.slot:Nat),.int .i64 (k.cnt:Nat),.vsl k.nil (qy .u64 k.arrs) k.arrs.length] = T:=⟨_,rfl⟩;have xa:Ext [] K' Ka:=ky ▸ Ext.new K' _;have ga:qe Ka K'.length = some [.str k.text,.int .u64 (k.at_:Nat),.int .i64 (k.slot:Nat),.int .i64 (k.cnt:Nat),.vsl k.nil (qy .u64 k.arrs) k.arrs.length]:=(by rw [← ky,qN]);have rta:qe Ka q = some m'.cs:=xa.get rt1 (by simp);obtain ⟨qh,Zk,xh,QP,rfl⟩:=qfh m'.key m'.file (Sl.mk false k.text (by simp)) (by simp only;omega);unfold zH at QP;obtain ⟨xn,rfl⟩:∃ xn:Nat,xh = (xn:Int):=⟨xh.toNat,by omega⟩;have hxn:xn < 18446744073709551616:=(by omega);replace Zk:call cx 78 [.bool m'.key,.agg (qf m'.file.l),.vsl false (qf k.text) k.text.length] [] = some (.int .u64 (xn:Int),[]):=Zk;obtain ⟨Kb,hKb⟩:∃ T,qo Ka (qf k.text) = T:=⟨_,rfl⟩;have xb:Ext [] Ka Kb:=hKb ▸ Ext.new Ka _;have gb:qe Kb Ka.length = some (qf k.text):=(by rw [← hKb,qN]);obtain ⟨Kc,QT⟩:∃ T,qo Kb [.int .u64 (k.at_:Nat),.int .u64 (xn:Nat)] = T:=⟨_,rfl⟩;have xc:Ext [] Kb Kc:=QT ▸ Ext.new Kb _;have gc:qe Kc Kb.length = some [.int .u64 (k.at_:Nat),.int .u64 (xn:Nat)]:=(by rw [← QT,qN]);have lka:K'.length < Ka.length:=qt ga;have lkb:Ka.length < Kb.length:=qt gb;have txk:List.take k.text.length (qf k.text) = qf k.text:=qP (by simp);have QR:=C.il;obtain ⟨itD',Kd,Li',hA,hRd,xd,nd⟩:=(((C.iR.ext xa (fun _ _=>by simp)).ext xb (fun _ _=>by simp)).ext xc (fun _ _=>by simp)).append (P:=Tryz.prog) (st:=151) (xt:=151) (e:=160) (x:=.osl Kb.length 2 0 1 2) (xs:=[.int .u64 (k.at_:Nat),.int .u64 (xn:Nat)]) (m:=1) (by simp) (by simp) (by simp [-qe,gc]) (by simp) (by omega) (by simp) (by omega) (by simp [qw];omega) (by simp [qw];omega);simp [-qe,-ql,-qo,-qM,-Kn.ea,p0,p2,p3,p9,p14,p15,p16,p17,p21,qq,zC,hw,hjd',rt1,cl1,c144,Qq,zJ,jU,qN,Y6,ky,ga,rta,c51,cfile,Zk,hKb,gb,QT,hA,txk];have idLi:H.length ∉ Li:=fun hc=>by have:=(C.iN _ hc).2;omega
    refine ⟨i+1,by omega,by omega,by simp,by simp,by simp,by simp,by simp,by simp,by simp,by simp,itD',ic ++ [.int .u64 (k.at_:Nat),.int .u64 (xn:Nat)],Li',by simp,?_,?_,hRd,?_,?_,fun j hj=>?_⟩
    ·exact (((C.g.side xa (fun j hj=>by simp at hj) (fun j _=>by simp)).side xb (fun j hj=>by simp at hj) (fun j _=>by simp)).side xc (fun j hj=>by simp at hj) (fun j _=>by simp)).side xd (fun j hj=>by have:=(C.iN j hj).2;omega) (fun j hj hc=>(C.iN j hc).1 hj)
    ·exact xd.get (xc.get (xb.get (xa.get C.id (by simp)) (by simp)) (by simp)) idLi
    ·rw [qX,QR];simp;omega
    ·intro d hd;rcases List.mem_append.1 hd with h1 | h1
     ·exact C.iu d h1
     ·simp only [zA,List.not_mem_nil,or_false] at h1;rcases h1 with rfl | rfl
      ·exact ⟨_,rfl,by omega⟩
      ·exact ⟨_,rfl,hxn⟩
    ·rcases nd j hj with h1 | h1
     ·exact C.iN j h1
     ·have e1:=xa.len;have e2:=xb.len;have e3:=xc.len;have e4:=qt C.id;exact ⟨fun hc=>by have:=Yx C.g.w hc;omega,by omega⟩
   ·have qq:¬ (i:Int) < (w.length:Int):=(by omega);have Q3:i = w.length:=(by omega);subst Q3;simp [-qe,-ql,-qo,p0,p2,p3,p9,p14,p15,p16,p17,p21];exact ⟨qv _,by simp,by simp,by simp,by simp,by simp,by simp,by simp,by simp,itD,ic,Li,by simp,C⟩
  ·clear p0 p2 p3 p9 p12 p14 p15 p16 p17 p18;rintro ex e K' ⟨rfl,-,p0,p2,p3,p9,p14,p16,p17,p21,itD,ic,Li,p15,C⟩;obtain ⟨nl3,hs15,hnl3⟩:=qlY C.iR (qa7 C.iu) C.il (by omega);obtain ⟨K9,YQ⟩:∃ T,jq K' Li = T:=⟨_,rfl⟩;have x9:Ext Li K' K9:=YQ ▸ qcB _;have g9:=C.g.side x9 (fun j hj=>by have:=(C.iN j hj).2;omega) (fun j hj hc=>(C.iN j hc).1 hj);have gid9:qe K9 H.length = some (qf o.l):=x9.get C.id (fun hc=>by have:=(C.iN _ hc).2;omega);have htail9:=qfz g9.w;rw [g9.tl] at htail9;obtain ⟨seq,hseq⟩:∃ s,s = m.tl+1:=⟨_,rfl⟩;have wtl:IntKind.u64.wrap ((m.tl:Int)+1) = (seq:Int):=(by rw [qF] <;> omega);obtain ⟨_,hxor,xx,hxx,rfl⟩:=qlo nl2 pc A.ps hnl2 (by omega);unfold zH at hxx;obtain ⟨xm,rfl⟩:∃ xm:Nat,xx = (xm:Int):=⟨xx.toNat,by omega⟩;have hxm:xm < 18446744073709551616:=(by omega);obtain ⟨_,Vi,te,hte,rfl⟩:=qn0 seq rt mo o xm (by omega) hrt hmo hxm nl3 ic w.length C.iu C.il hnl3 (by omega);replace Vi:call cx 80 [.agg (.int .u64 (seq:Nat) :: .int .u64 (rt:Nat) :: .int .u64 (mo:Nat) :: (qf o.l ++ [.int .u64 (xm:Nat),.vsl nl3 ic w.length]))] [] = some (.vsl false (qf te) te.length,[]):=Vi;have hok9:=g9.ok.bmod;obtain ⟨K10,cs10,hobj,w10,o10,x10,l10⟩:=qdx g9.w g9.ok te (by omega) (by omega);obtain ⟨m10,KN⟩:∃ x,x = ({ m' with b:=m'.b ++ te,cs:=cs10 }:Jm):=⟨_,rfl⟩;rw [← KN] at w10 o10;have m10b:m10.b.length = m'.b.length+te.length:=(by rw [KN];simp);have m10c:m10.cs = cs10:=(by rw [KN]);have m10mn:m10.mn = m'.mn:=(by rw [KN]);have m10mm:m10.main = m'.main:=(by rw [KN]);have m10ne:m10.ne = m.ne:=(by rw [KN];exact g9.ne);have rt10:=w10.root;have cl10:=w10.len;have c127:=zD w10.c127;have c146:=zD w10.c146;rw [m10mn,m10mm] at c146;rw [m10ne] at c127;have wne:IntKind.i64.wrap (m.ne:Int) = (m.ne:Int):=by rw [wrap_i64] <;> omega
   have hma:ArrOk m10.b.length m'.main m.ne:=by
    rw [g9.main];exact hmain.mono (by have:=g9.bl;omega)
   have hft:=g9.ok.ft;have hblo:=g9.ok.bl;obtain ⟨K11,m11,arrs,z,hlink,hz,gr11,ha11,hb11,hd11,hf11⟩:=qiN w10 o10 m'.mn m'.main m.ne 176 m'.b.length g9.ok.mn hma (by omega) (by omega) (by omega) (by omega)
   have hlast:∃ al rest,arrs = al :: rest:=by
    cases hars:arrs with
    | nil=>exact absurd (ha11.nil hars) (by omega)
    | cons al rest=>exact ⟨al,rest,rfl⟩
   have clr0:jq K9 [] = K9:=rfl;obtain ⟨al,rest,rfl⟩:=hlast;obtain ⟨arrs,harrs⟩:∃ a,a = al :: rest:=⟨_,rfl⟩;rw [← harrs] at hlink ha11;rw [show ((176:Nat):Int) = 176 from rfl] at hlink;have larb:=qee ha11;have lar:arrs.length = rest.length+1:=(by rw [harrs];rfl);have hnc:qy .u64 arrs = .int .u64 (al:Nat) :: qy .u64 rest:=(by rw [harrs];rfl);have hrl:rest.length < arrs.length:=(by omega);have hla:=qa6 (k:=.u64) hrl;obtain ⟨lv,hlv⟩:∃ v,arrs[rest.length] = v:=⟨_,rfl⟩;rw [hlv] at hla;have hrll:(rest.length:Int) < (arrs.length:Int):=(by omega);have ar0:(0:Int) < (arrs.length:Int):=(by omega);have ar0n:0 < arrs.length:=(by omega);have warl:IntKind.i64.wrap ((arrs.length:Int) - 1) = (rest.length:Int):=(by rw [wrap_i64] <;> omega);have rt11:=gr11.w.root;have cl11:=gr11.w.len;have w12:=qr6 gr11.w arrs;obtain ⟨C12,hC12⟩:∃ C,C = m11.cs.set 146 (.vsl false (qy .u64 arrs) arrs.length):=⟨_,rfl⟩;have s12:List.take 146 m11.cs ++ D.vsl false (qy .u64 arrs) arrs.length :: List.drop 147 m11.cs = C12:=(by rw [hC12];exact jo (by omega));rw [← hC12] at w12;have gS:∀ C,qe (ql K11 q C) q = some C:=fun C=>qV (qt rt11);have l12:C12.length = 147:=w12.len;have d146:=zD w12.c146;simp only at d146
   have alu:∀ a,a∈arrs→a < 18446744073709551616:=fun a ha=>by
    obtain ⟨j,hj⟩:=List.getElem?_of_mem ha;have:=ha11.at_ j a hj;have:=gr11.ok.bmax;omega
   have vI:al < 18446744073709551616:=alu al (by rw [harrs];simp);have w13:=Vb w12 (i:=130) rfl (d:=.int .u64 (al:Nat)) ⟨al,rfl,vI⟩;simp only [kp] at w13;obtain ⟨C13,hC13⟩:∃ C,C = C12.set 130 (.int .u64 (al:Nat)):=⟨_,rfl⟩;have s13:List.take 130 C12 ++ D.int .u64 (al:Nat) :: List.drop 131 C12 = C13:=(by rw [hC13];exact jo (by omega));rw [← hC13] at w13;have l13:C13.length = 147:=w13.len;have d146b:=zD w13.c146;simp only at d146b;have hlvb:=ha11.at_ rest.length lv (by rw [qU hrl,hlv]);have hbm11:=gr11.ok.bmax;obtain ⟨v32,hv32e⟩:∃ v,v = lv:=⟨_,rfl⟩;have hv32l:v32 < 4294967296:=(by omega);have hv32:IntKind.u32.wrap (lv:Int) = (v32:Int):=(by rw [hv32e,qaI];omega);have hz32:IntKind.u32.wrap (z:Int) = (z:Int):=(by rw [qaI];omega);have w14:=qr2 w13 v32 hv32l;simp only [kp] at w14;obtain ⟨C14,hC14⟩:∃ C,C = C13.set 139 (.int .u32 (v32:Nat)):=⟨_,rfl⟩;have s14:List.take 139 C13 ++ D.int .u32 (v32:Nat) :: List.drop 140 C13 = C14:=(by rw [hC14];exact jo (by omega));rw [← hC14] at w14;have l14:C14.length = 147:=w14.len;have w15:=qr1 w14 z (by omega);simp only [kp] at w15;obtain ⟨C15,hC15⟩:∃ C,C = C14.set 140 (.int .u32 (z:Nat)):=⟨_,rfl⟩;have s15:List.take 140 C14 ++ D.int .u32 (z:Nat) :: List.drop 141 C14 = C15:=(by rw [hC15];exact jo (by omega));rw [← hC15] at w15;have l15:C15.length = 147:=w15.len;rw [hnc] at s12 d146 d146b hla;have e17a:List.drop 17 (qf o.l ++ [D.int .u64 0,.vsl true [] 0]) = [.vsl true [] 0]:=(by simp [zk,List.drop_of_length_le,lo]);have e17:List.take 17 (qf o.l ++ [D.int .u64 (xm:Nat),.vsl true [] 0]) = qf o.l ++ [D.int .u64 (xm:Nat)]:=(by simp [kR,qP,lo]);have e18:List.drop 18 (qf o.l ++ [D.int .u64 (xm:Nat),.vsl true [] 0]) = []:=(by simp [lo]);have hic:ic.all idFree = true:=qa7 C.iu
   have hsa:zF K9 9 (.agg (.int .u64 (seq:Nat) :: .int .u64 (rt:Nat) :: .int .u64 (mo:Nat) :: (qf o.l ++ [.int .u64 (xm:Nat),.vsl nl3 ic w.length]))) = some (.agg (.int .u64 (seq:Nat) :: .int .u64 (rt:Nat) :: .int .u64 (mo:Nat) :: (qf o.l ++ [.int .u64 (xm:Nat),.vsl nl3 ic w.length])),[]):=by
    unfold zF;rw [if_pos (by simp [idFree,kO,qf])]
   simp [-qe,-ql,-qo,-qM,-zF,-jq,p0,p2,p3,p9,p14,p15,p16,p17,hs15,YQ,gid9,htail9,wtl,hxor,Vi,hobj,rt10,cl10,c127,c146,wne,hlink,lo,e17a,e17,e18,hsa,clr0,rt11,cl11,s12,gS,l12,d146,hnc,ar0n,s13,kp,l13,d146b,warl,hrll,hla,hv32,hz32,s14,l14,s15,kN];have hm1l:=qkN hma (k:=1) (by rw [show jm 1 = 4 from rfl];omega);have hrm:=qh2 hm1l (by omega);obtain ⟨K12,hK12⟩:∃ T,ql K11 q C15 = T:=⟨_,rfl⟩;rw [hK12] at w15 ⊢;obtain ⟨m12,KM⟩:∃ x,x = ({ m11 with mn:=false,main:=arrs,cs:=C15 }:Jm):=⟨_,rfl⟩;have w15':JmW K12 q m12:=(by rw [KM];exact w15);have nm10:m10.names q = m'.names q:=(by rw [KN];rfl);have nm12:m12.names q = m11.names q:=(by rw [KM];rfl);have hHK:H.length < K9.length:=qt gid9;have idN':H.length ∉ m'.names q:=A.idN
   have idN11:H.length ∉ m11.names q:=fun hc=>by
    rcases gr11.new _ hc with h1 | h1
    ·rw [nm10] at h1;exact idN' h1
    ·omega
   have x10':Ext (m'.names q) K9 K10:=x10.mono fun i hi=>by
    simp only [zA,List.not_mem_nil,or_false] at hi;rcases hi with rfl | rfl
    ·exact Jb
    ·exact J0
   have x11':Ext (m'.names q) K10 K11:=(by rw [← nm10];exact gr11.ext);have x12':Ext (m'.names q) K11 K12:=(hK12 ▸ Ext.set K11 q C15:Ext [q] K11 K12).mono fun i hi=>by rw [List.mem_singleton.1 hi];exact Jb
   have x912:=(x10'.trans x11' (NewL.refl _ _)).trans x12' (NewL.refl _ _);have hd12:m12.da = m'.da:=(by rw [KM];simp only;rw [hd11,KN]);have hf12:m12.fi = m'.fi:=(by rw [KM];simp only;rw [hf11,KN]);have hb12:m12.b.length = m11.b.length:=by rw [KM]
   have D0:ApD H q m o m'.da.length 0 K12 m12:=by
    refine ⟨w15',?_,g9.ext.trans x912 g9.new,?_,?_,?_,?_,?_,by rw [hd12],by rw [hd12];have:=A.da;omega,by rw [hf12];have:=A.fi;omega,by rw [hd12];exact A.cn,x912.get gid9 idN',by rw [nm12];exact idN11⟩
    ·rw [KM]
     exact { gr11.ok with
      main:=⟨m11.ne+1,by simp only;omega,by simp only;rw [gr11.ne,m10ne];exact ha11⟩
      mn:=fun h=>by simp at h }
    ·rw [nm12];intro i hi;rcases gr11.new i hi with h1 | h1
     ·rw [nm10] at h1;exact g9.new i h1
     ·exact .inr (by omega)
    ·rw [KM];simp only;rw [gr11.ne,m10ne]
    ·rw [KM];simp only;rw [gr11.tl,KN];exact g9.tl
    ·rw [KM];exact ha11
    ·omega
   have hwb:∀ j,j∈w→j < m'.da.length:=A.wb;obtain ⟨dl,kG⟩:∃ d,d = m'.da.length:=⟨_,rfl⟩;obtain ⟨atp,hatp⟩:∃ a,a = m'.b.length:=⟨_,rfl⟩;rw [← kG] at D0 hwb;rw [← hatp];have hatb:atp < 18446744073709551616:=(by have:=g9.ok.bmax;omega);have KI:w.length≤4:=(by omega);have hnlw:nl = true→w = []:=fun h=>by simpa [qy] using zq h
   clear KM hK12 YQ hobj hlink Vi hxor hd12 hf12 hsa p0 p2 p3 p9 p14 p15 p16 p17 p21 x912 x10' x11' x12' gr11 w15 w14 w13 w12 A C;refine KB (apK q H m o w nl rt mo p seq atp dl) (fun i=>w.length - i) 0 (fun ex e K=>ex = .exit 6∧apK q H m o w nl rt mo p seq atp dl w.length e K) ?_ ?_ ?_
   ·exact ⟨vf _,by simp,by simp,by simp,by simp,by simp,by simp,by simp,by simp,by simp,by simp,m12,D0⟩
   ·rintro i e K' ⟨hi,p0,p2,p3,p9,p14,p16,p23,p24,p26,p27,m5,A5⟩;by_cases qi:i < w.length
    ·have qq:(i:Int) < (w.length:Int):=(by omega);have hw:IntKind.i64.wrap ((i:Int)+1) = ((i+1:Nat):Int):=by rw [wrap_i64] <;> omega
     have jZ:nl = false:=by
      cases hnl3:nl with
      | false=>rfl
      | true =>
       rw [hnlw hnl3] at qi;simp at qi
     subst jZ;have zC:=qa6 (k:=.i64) qi;obtain ⟨j1,Qp⟩:∃ j,w[i] = j:=⟨_,rfl⟩;rw [Qp] at zC;have VA:j1 < m5.da.length:=(by rw [A5.dl];exact hwb j1 (Qp ▸ vQ qi));have hjd':(j1:Int) < (m5.da.length:Int):=(by omega);obtain ⟨k,r0,Ji,jU,vc,hd01,hd02⟩:=Y1 VA;have V7:qk m5.da≠[]:=fun e0=>by rw [e0] at jU;simp at jU
     obtain ⟨ro,nn,hfv,vH,Qq,hLd⟩:=A5.w.rowD.own V7
     have jb:nn = m5.da.length:=by
      have:=Qv m5.da;rw [this] at vH;simp at vH;omega
     subst jb;have zJ:(qk m5.da).length = m5.da.length * 5:=vH;have rt1:=A5.w.root;have cl1:=A5.w.len;have c144:=zD A5.w.c144;rw [hfv,zJ] at c144;have hkok:=A5.ok.da k Ji;have hka:=hkok.at_;have hkc:=A5.cn k Ji;have hbm:=A5.ok.bmax;have hb5:=A5.bl;have hne5:=A5.ne;obtain ⟨Ka,ky⟩:∃ T,qo K' [.str k.text,.int .u64 (k.at_:Nat),.int .i64 (k.slot:Nat),.int .i64 (k.cnt:Nat),.vsl k.nil (qy .u64 k.arrs) k.arrs.length] = T:=⟨_,rfl⟩;have xa:Ext [] K' Ka:=ky ▸ Ext.new K' _;have ga:qe Ka K'.length = some [.str k.text,.int .u64 (k.at_:Nat),.int .i64 (k.slot:Nat),.int .i64 (k.cnt:Nat),.vsl k.nil (qy .u64 k.arrs) k.arrs.length]:=(by rw [← ky,qN]);have wa:=Va A5.w xa;have hnK:∀ j,j∈m5.names q→j < K'.length:=fun j hj=>Yx A5.w hj;obtain ⟨p40,hp40⟩:∃ x,x = k.at_+40:=⟨_,rfl⟩;obtain ⟨p48,hp48⟩:∃ x,x = k.at_+48:=⟨_,rfl⟩;obtain ⟨p56,hp56⟩:∃ x,x = k.at_+56:=⟨_,rfl⟩;obtain ⟨c1,KZ⟩:∃ x,x = k.cnt - 1:=⟨_,rfl⟩;obtain ⟨c2,Q9⟩:∃ x,x = k.cnt+1:=⟨_,rfl⟩;have w40:IntKind.u64.wrap ((k.at_:Int)+40) = (p40:Int):=(by rw [qF] <;> omega);have w48:IntKind.u64.wrap ((k.at_:Int)+48) = (p48:Int):=(by rw [qF] <;> omega);have w56:IntKind.u64.wrap ((k.at_:Int)+56) = (p56:Int):=(by rw [qF] <;> omega);have wc2:IntKind.i64.wrap ((k.cnt:Int)+1) = (c2:Int):=(by rw [wrap_i64] <;> omega);have wc2u:IntKind.u64.wrap (c2:Int) = (c2:Int):=(by rw [qF] <;> omega);have hj5:j1 * 5+5≤m5.da.length * 5:=by omega
     have key:∀ (Kb:qd) (m6:Jm) (nk:Bool) (ar:List Nat),JGrow Ka Kb q m5 m6→m6.da = m5.da→m6.fi = m5.fi→m6.b.length≤m5.b.length+280→ArrOk m6.b.length ar (c2 - 1)→(nk = true→ar = []) →
       ∃ Kd T m7 ro2,call cx 83 [.optr q 147 0,.int .u64 p56,.int .u64 c2] (ql Kb K'.length [.str k.text,.int .u64 (k.at_:Nat),.int .i64 (k.slot:Nat),.int .i64 (c2:Nat),.vsl nk (qy .u64 ar) ar.length]) = some (.tup [],Kd)
        ∧ qe Kb K'.length = some [.str k.text,.int .u64 (k.at_:Nat),.int .i64 (k.slot:Nat),.int .i64 (k.cnt:Nat),.vsl k.nil (qy .u64 k.arrs) k.arrs.length]
        ∧ qe Kd q = some m6.cs∧m6.cs.length = 147∧List.drop 144 m6.cs = .osl ro2 (m5.da.length * 5) 0 m5.da.length 5 :: List.drop 145 m6.cs
        ∧ qe Kd K'.length = some [.str k.text,.int .u64 (k.at_:Nat),.int .i64 (k.slot:Nat),.int .i64 (c2:Nat),.vsl nk (qy .u64 ar) ar.length]
        ∧ qe Kd ro2 = some (qk m5.da)
        ∧ ql Kd ro2 (qk (List.take j1 m5.da) ++ (.str k.text :: .int .u64 (k.at_:Nat) :: .int .i64 (k.slot:Nat) :: .int .i64 (c2:Nat) :: .vsl nk (qy .u64 ar) ar.length :: List.drop (j1 * 5+5) (qk m5.da))) = T
        ∧ ApD H q m o dl (i+1) T m7:=by
      intro Kb m6 nk ar g6 YM hfi6 hb6 har hnk;have lKa:Ka.length = K'.length+1:=(by rw [← ky,zG]);have gb:qe Kb K'.length = some [.str k.text,.int .u64 (k.at_:Nat),.int .i64 (k.slot:Nat),.int .i64 (k.cnt:Nat),.vsl k.nil (qy .u64 k.arrs) k.arrs.length]:=g6.ext.get ga (fun hc=>by have:=hnK _ hc;omega)
      have nb:∀ j,j∈m6.names q→j≠K'.length:=fun j hj e=>by
       rcases g6.new j hj with h1 | h1
       ·have:=hnK j h1;omega
       ·omega
      obtain ⟨kc2,hkc2⟩:∃ c:List D,c = [.str k.text,.int .u64 (k.at_:Nat),.int .i64 (k.slot:Nat),.int .i64 (c2:Nat),.vsl nk (qy .u64 ar) ar.length]:=⟨_,rfl⟩;rw [← hkc2];obtain ⟨Kc,QT⟩:∃ T,ql Kb K'.length kc2 = T:=⟨_,rfl⟩;have xc:Ext [K'.length] Kb Kc:=QT ▸ Ext.set Kb _ _;have gc:qe Kc K'.length = some kc2:=(by rw [← QT];exact qV (qt gb));have wc:=qbe g6.w xc (fun j hj hc=>nb j hj (List.mem_singleton.1 hc));have hb56:=g6.bl;obtain ⟨Kd,b7,hput,hb7,wd,okd,xd,ld⟩:=KC wc g6.ok p56 c2 (by omega);rw [QT];have hne6:qk m6.da≠[]:=(by rw [YM];exact V7);obtain ⟨ro2,n2,hfv2,hcl22,hget2,hLd2⟩:=wd.rowD.own hne6;simp only at hfv2 hcl22 hget2 hLd2;rw [YM] at hfv2 hcl22 hget2;have jO:n2 = m5.da.length:=(by rw [zJ] at hcl22;omega);subst jO;rw [zJ] at hfv2;have c144d:=zD wd.c144;simp only at c144d;rw [hfv2] at c144d;have hbi6:m6.bi∈m6.names q:=J0;have hro6:ro2∈m6.names q:=qdl (by rw [hLd2];simp);have gd:qe Kd K'.length = some kc2:=xd.get gc (fun hc=>nb _ hbi6 (List.mem_singleton.1 hc).symm);obtain ⟨k',hk'⟩:∃ x:Kn,x = ⟨k.text,k.at_,k.slot,c2,nk,ar⟩:=⟨_,rfl⟩;have hcells:(Enc.cells k':List D) = kc2:=(by rw [hk',hkc2];rfl);have we:=qr4 (j:=j1) wd k' (by simp only;exact hLd2) (by simp only;rw [YM];exact hfv2) (by rw [hget2];rfl);simp only at we;have hset5:=Qu m5.da j1 k' VA;rw [QU (n:=5) rfl,hcells] at hset5;obtain ⟨T,hT⟩:∃ T,ql Kd ro2 (qk (m5.da.set j1 k')) = T:=⟨_,rfl⟩;rw [YM,hT] at we;refine ⟨Kd,T,_,ro2,hput,gb,wd.root,wd.len,c144d,gd,hget2,by rw [← hT,hset5,hkc2];rfl,we,?_,?_,?_,?_,?_,?_,?_,?_,?_,?_,?_,?_,?_⟩
      ·exact { okd with
        da:=fun x hx=>by
         simp only at hx ⊢;rcases qb7 hx with h1 | h1
         ·exact okd.da x (by simp only;rw [YM];exact h1)
         ·rw [h1,hk'];have e7:b7.length = m6.b.length:=hb7;exact ⟨by simp only;omega,by simp only;rw [g6.ds];exact hkok.slot,by simp only;rw [e7];exact har,by simp only;exact hnk,by simp only;exact hkok.txt⟩
        nda:=by
         have:=A5.ok.nda;simp only;rw [vt];exact this
        cn:=fun x hx=>by
         simp only at hx ⊢;rcases qb7 hx with h1 | h1
         ·exact okd.cn x (by simp only;rw [YM];exact h1)
         ·have:=g6.ne;rw [h1,hk'];simp only;omega }
      ·have hHK':=A5.ext.len;have n6:NewL (m.names q) (m6.names q) H.length:=A5.new.trans g6.new (by have:=xa.len;omega);have z1:=A5.ext.trans xa (fun j hj=>by simp at hj);have z2:=z1.trans g6.ext A5.new;have z3:=z2.trans xc (fun j hj=>.inr (by rw [List.mem_singleton.1 hj];exact hHK'));have z4:=z3.trans xd (fun j hj=>by rw [List.mem_singleton.1 hj];exact n6 _ hbi6);exact z4.trans (hT ▸ Ext.set Kd ro2 _:Ext [ro2] Kd T) (fun j hj=>by rw [List.mem_singleton.1 hj];exact n6 _ hro6)
      ·exact A5.new.trans g6.new (by have:=xa.len;have:=A5.ext.len;omega)
      ·exact g6.ne.trans A5.ne
      ·exact g6.tl.trans A5.tl
      ·simp only;rw [g6.main];exact A5.main.mono (by rw [hb7];exact g6.bl)
      ·simp only;rw [hb7];omega
      ·simp only;rw [vt];exact A5.dl
      ·simp only;rw [vt];exact A5.da
      ·simp only;rw [hfi6];exact A5.fi
      ·intro x hx;simp only at hx;rcases qb7 hx with h1 | h1
       ·have:=A5.cn x h1;omega
       ·rw [h1,hk'];simp only;omega
      ·have KT:=A5.id;have e1:=qt KT;have g1:=g6.ext.get (xa.get KT (by simp)) A5.idN
       have idN6:H.length ∉ m6.names q:=fun hc=>by
        rcases g6.new _ hc with h1 | h1
        ·exact A5.idN h1
        ·omega
       have g2:=xd.get (xc.get g1 (by simp;omega)) (fun hc=>idN6 (by rw [List.mem_singleton.1 hc];exact hbi6));exact (hT ▸ Ext.set Kd ro2 _:Ext [ro2] Kd T).get g2 (fun hc=>idN6 (by rw [List.mem_singleton.1 hc];exact hro6))
      ·intro hc;have e1:=qt A5.id;rcases g6.new _ hc with h1 | h1
       ·exact A5.idN h1
       ·omega
     by_cases hcz:k.cnt = 0
     ·have hcz':((k.cnt:Int) == 0) = true:=(by rw [hcz];rfl);have hcz2:=eq_true hcz;obtain ⟨Kb,b1,hput1,Xa,wb,okb,xb,lb⟩:=KC wa A5.ok p40 atp (by omega);have g6:JGrow Ka Kb q m5 { m5 with b:=b1 }:=⟨wb,okb,xb.mono (fun i hi=>by rw [List.mem_singleton.1 hi];exact J0),NewL.refl _ _,rfl,rfl,rfl,rfl,rfl,rfl,rfl,rfl,rfl,by simp only;omega⟩;obtain ⟨Kd,T,m7,ro2,hput2,gb,rtd,cld,c144d,gd,gro,hT,A6⟩:=key Kb _ k.nil k.arrs g6 rfl rfl (by simp only;omega) (by simp only;rw [Xa,show c2 - 1 = k.cnt - 1 by omega];exact hkok.arr) hkok.nil;simp only at c144d rtd cld
      have hro2:ro2 = ro:=by
       rw [c144] at c144d;injection c144d with h1 _;injection h1 with h2 _ _ _ _;exact h2.symm
      subst hro2;have gSb:∀ X,qe (ql Kb K'.length X) K'.length = some X:=fun X=>qV (qt gb);simp [-qe,-ql,-qo,-qM,-Kn.ea,p0,p2,p3,p9,p14,p16,p23,p24,p26,p27,qq,zC,hw,hjd',rt1,cl1,c144,Qq,zJ,jU,qN,Y6,ky,ga,hcz',w40,hput1,gSb,gb,wc2,w56,wc2u,hput2,rtd,gd,gro,hT,hj5];exact ⟨i+1,by omega,by omega,by simp,by simp,by simp,by simp,by simp,by simp,by simp,by simp,by simp,by simp,m7,A6⟩
     ·have hcz':¬ (k.cnt:Int) = 0:=(by omega);have wc1:IntKind.i64.wrap ((k.cnt:Int) - 1) = (c1:Int):=(by rw [wrap_i64] <;> omega);have hal5:=qkN (KZ ▸ hkok.arr) (k:=3) (by rw [show jm 3 = 28 from rfl];omega);have hrm5:=qh2 hal5 (by omega);obtain ⟨Kb,m6,ar,z2,hlink2,QO,g6,har,hb6,YM,hfi6⟩:=qiN wa A5.ok k.nil k.arrs c1 p48 atp hkok.nil (KZ ▸ hkok.arr) (by omega) (by omega) hatb (by omega);obtain ⟨Kd,T,m7,ro2,hput2,gb,rtd,cld,c144d,gd,gro,hT,A6⟩:=key Kb m6 false ar g6 YM hfi6 (by omega) (by rw [show c2 - 1 = c1+1 by omega];exact har) (fun h=>by simp at h);have gSb:∀ X,qe (ql Kb K'.length X) K'.length = some X:=fun X=>qV (qt gb);simp [-qe,-ql,-qo,-qM,-Kn.ea,p0,p2,p3,p9,p14,p16,p23,p24,p26,p27,qq,zC,hw,hjd',rt1,cl1,c144,Qq,zJ,jU,qN,Y6,ky,ga,gSb,hcz,w48,wc1,hlink2,gb,wc2,w56,wc2u,hput2,rtd,cld,c144d,gd,gro,hT,kp,hj5];exact ⟨i+1,by omega,by omega,by simp,by simp,by simp,by simp,by simp,by simp,by simp,by simp,by simp,by simp,m7,A6⟩
    ·have qq:¬ (i:Int) < (w.length:Int):=(by omega);have Q3:i = w.length:=(by omega);subst Q3;simp [-qe,-ql,-qo,p0,p2,p3,p9,p14,p16,p23,p24,p26,p27];exact ⟨qv _,by simp,by simp,by simp,by simp,by simp,by simp,by simp,by simp,by simp,by simp,m5,A5⟩
   ·rintro ex e K' ⟨rfl,-,p0,p2,p3,p9,p14,p16,p23,p24,p26,p27,m5,A5⟩;have rt5:=A5.w.root;have cl5:=A5.w.len;have c143:=zD A5.w.c143;have c50:=zD A5.w.c50;have hb5:=A5.bl;have hmost:¬ (32768:Int) < (m5.b.length:Int):=(by omega);have hmostn:¬ 32768 < m5.b.length:=by omega
    have cob:∀ n,(∀ x,x∈qf o.l→closed n x = true) = True:=fun n=>eq_true fun x hx=>by
     simp only [qf,kI] at hx;obtain ⟨_,_,rfl⟩:=hx;rfl
    obtain ⟨ne1,V7⟩:∃ n,n = m.ne+1:=⟨_,rfl⟩;have wne1:IntKind.u64.wrap ((m.ne:Int)+1) = (ne1:Int):=(by rw [qF] <;> omega);have gS5:∀ C,qe (ql K' q C) q = some C:=fun C=>qV (qt rt5)
    have hidq:∀ C,qe (ql K' q C) H.length = some (qf o.l):=fun C=>by
     rw [qZ (fun e=>A5.idN (by rw [e];exact Jb))];exact A5.id
    have hseqb:seq < 18446744073709551616:=by omega
    have fin:∀ C2,JmW (ql K' q C2) q { m5 with cs:=C2 }→∃ C3 C4 C5 C6 C7 C8,List.drop 127 C2 = .int .u64 (m.ne:Nat) :: List.drop 128 C2∧C2.length = 147
      ∧ List.take 127 C2 ++ D.int .u64 (ne1:Nat) :: List.drop 128 C2 = C3∧C3.length = 147
      ∧ List.take 128 C3 ++ D.int .u64 (seq:Nat) :: List.drop 129 C3 = C4∧C4.length = 147
      ∧ List.take 132 C4 ++ D.int .u64 (rt:Nat) :: List.drop 133 C4 = C5∧C5.length = 147
      ∧ List.take 133 C5 ++ D.int .u64 (mo:Nat) :: List.drop 134 C5 = C6∧C6.length = 147
      ∧ List.take 87 C6 ++ (qf o.l ++ List.drop 103 C6) = C7∧C7.length = 147
      ∧ List.take 141 C7 ++ D.int .u64 (atp:Nat) :: List.drop 142 C7 = C8
      ∧ ∃ m',ApE H (ql K' q C8) q m m':=by
     intro C2 w2;have l2:C2.length = 147:=w2.len;have d127:=zD w2.c127;simp only [A5.ne] at d127;have w3:=qr5 w2 ne1 (by omega);simp only [kp] at w3;have w4:=qr3 w3 seq hseqb;simp only [kp] at w4;have w5:=Vb w4 (i:=132) rfl (d:=.int .u64 (rt:Nat)) ⟨rt,rfl,hrt⟩;simp only [kp] at w5;have w6:=Vb w5 (i:=133) rfl (d:=.int .u64 (mo:Nat)) ⟨mo,rfl,hmo⟩;simp only [kp] at w6;have w7:=qrB w6 o;simp only [kp] at w7;have w8:=Vb w7 (i:=141) rfl (d:=.int .u64 (atp:Nat)) ⟨atp,rfl,hatb⟩;simp only [kp] at w8;have l3:=w3.len;have l4:=w4.len;have l5:=w5.len;have l6:=w6.len;have l7:=w7.len;simp only at l3 l4 l5 l6 l7;refine ⟨_,_,_,_,_,_,d127,l2,jo (by omega),l3,jo (by omega),l4,jo (by omega),l5,jo (by omega),l6,rfl,l7,jo (by omega),_,w8,?_,?_,?_,?_,?_,?_,?_,?_,?_,?_⟩
     ·exact { A5.ok with
       tl:=by simp only;omega
       ne:=by simp only;omega
       main:=⟨ne1,by simp only;omega,by simp only;rw [V7];exact A5.main⟩
       cn:=fun x hx=>by have:=A5.cn x hx;simp only;omega }
     ·simp only;rw [V7];exact A5.main
     ·intro x hx;have:=A5.cn x hx;simp only;omega
     ·exact A5.ext.trans (Ext.set K' q _) (fun j hj=>.inl (by rw [List.mem_singleton.1 hj];exact Jb))
     ·exact A5.new
     ·exact V7
     ·exact hseq
     ·simp only;omega
     ·exact A5.da
     ·exact A5.fi
    by_cases J6:m.ne = 0
    ·have hz0':((m.ne:Int) == 0) = true:=(by rw [J6];rfl);have hz02:=eq_true J6;have w1:=Vb A5.w (i:=129) rfl (d:=.int .u64 (seq:Nat)) ⟨seq,rfl,hseqb⟩;have w2:=Vb w1 (i:=131) rfl (d:=.int .u64 (rt:Nat)) ⟨rt,rfl,hrt⟩;simp only [kp] at w2;have l1:(m5.cs.set 129 (.int .u64 (seq:Nat))).length = 147:=(by rw [vt];exact cl5);obtain ⟨C1,ZF⟩:∃ C,C = m5.cs.set 129 (.int .u64 (seq:Nat)):=⟨_,rfl⟩;have s1:List.take 129 m5.cs ++ D.int .u64 (seq:Nat) :: List.drop 130 m5.cs = C1:=(by rw [ZF];exact jo (by omega));rw [← ZF] at w2 l1;obtain ⟨C2,jh⟩:∃ C,C = C1.set 131 (.int .u64 (rt:Nat)):=⟨_,rfl⟩;have s2:List.take 131 C1 ++ D.int .u64 (rt:Nat) :: List.drop 132 C1 = C2:=(by rw [jh];exact jo (by omega));rw [← jh] at w2;obtain ⟨C3,C4,C5,C6,C7,C8,d127,l2,s3,l3,s4,l4,s5,l5,s6,l6,s7,l7,s8,mE,hE⟩:=fin C2 w2;simp [-qe,-ql,-qo,-qM,p0,p2,p3,p9,p14,p23,p24,p26,rt5,cl5,c143,c50,hmost,hz0',s1,gS5,l1,s2,kp,d127,l2,s3,l3,s4,l4,s5,l5,s6,l6,lo,s7,l7,s8,hidq,wne1];exact ⟨_,⟨by omega,rfl⟩,mE,hE⟩
    ·have hz0':((m.ne:Int) == 0) = false:=(by simp [J6]);have hz02:=eq_false J6;obtain ⟨C3,C4,C5,C6,C7,C8,d127,l2,s3,l3,s4,l4,s5,l5,s6,l6,s7,l7,s8,mE,hE⟩:=fin m5.cs (by rw [qa8 rt5];exact A5.w);simp [-qe,-ql,-qo,-qM,p0,p2,p3,p9,p14,p23,p24,p26,rt5,cl5,c143,c50,hmost,hz0',gS5,kp,d127,s3,l3,s4,l4,s5,l5,s6,l6,lo,s7,l7,s8,hidq,wne1];exact ⟨_,⟨by omega,rfl⟩,mE,hE⟩
def qwx (n:Nat) (r:Rec):Prop:=r.seq = n∧r.Ok∧1≤r.fields.l.length∧r.fields.l.length≤4∧∀ p∈r.fields.l,Jc p = true
theorem qe2 {n:Nat} (h:n < 18446744073709551616):zH (n:Int):=by
 unfold zH;omega
set_option maxHeartbeats 1000000 in
theorem qo0 [MaxL] [TxtC] (nil:Bool) (zs:List Int) (qQ:nil = true→zs = []) (hz:zs.length≤1000000) (k:Nat) (n:Nat) (hn:n < 18446744073709551616) :
  ∃ (r:Rec) (k':Nat),qwx n r∧call cx 51 [.optr 0 2 0,.int .u64 n] [some (jy nil zs k)] = some (.agg (Enc.cells r),[some (jy nil zs k')]):=by
 obtain ⟨q,h1,l,k1,KP,hl4,hp,rfl⟩:=qo1 nil zs qQ hz k;obtain ⟨q,h2,out,X8,ho4,kx,rfl⟩:=qiE l KP hl4 hp;obtain ⟨x,k2,hx,-,h3⟩:=QL nil zs qQ hz k1 40 (by decide) (by decide);obtain ⟨y,k3,hy,-,h4⟩:=QL nil zs qQ hz k2 9 (by decide) (by decide);obtain ⟨z,k4,hz3,-,h5⟩:=QL nil zs qQ hz k3 3 (by decide) (by decide);have h6:=qo8 (j:=z) (by omega);refine ⟨⟨n,x,y,idN z,.of out⟩,k4,⟨rfl,⟨qe2 hn,qe2 (by omega),qe2 (by omega)⟩,X8,ho4,kx⟩,?_⟩;have sf:=qbL nil zs;have sl:=qbK nil zs;have sc:=qbM nil zs;have hx64:IntKind.u64.wrap (x:Int) = (x:Int):=by rw [qF];omega
 have hy64:IntKind.u64.wrap (y:Int) = (y:Int):=by rw [qF];omega
 have hi:=(idN z).h;generalize idN z = iz at *;have ht:List.take 16 (qf iz.l) = qf iz.l:=qP (by simp);have hd:List.drop 17 (qf iz.l ++ [D.vsl true [] 0]) = []:=JS (by simp);refine qA Tryz.func51 rfl ⟨rfl,rfl⟩ ?_;simp [Tryz.f51,h1,h2,h3,h4,h5,h6,sf,sc,hx64,hy64,Rec.cells,hi,hd,kR]
set_option maxHeartbeats 4000000 in
theorem qoC [MaxL] [TxtC] {H:qd} {s:Nat} (nil:Bool) (zs:List Int) (qQ:nil = true→zs = []) (hz:zs.length≤1000000) (k:Nat) (hg:qe H s = some (jy nil zs k)) :
  ∃ r,call cx 48 [.optr s 2 0] H = some r∧∃ (j1 j2 j3 x4 x5:Nat) (x6:Nat) (k':Nat) (T:qd),r = (.agg (qf (idN j1).l ++ (qf (idN j2).l ++ (qf (idN j3).l ++ [.int .i64 (x4+1:Nat),.int .i64 (x5+1:Nat),.int .i64 32768,.bool ((x6:Int) == 1)]))),T)∧x4 < 7∧x5 < 4∧qe T s = some (jy nil zs k')∧Ext [s] H T:=by
 have hs:=qt hg;obtain ⟨Z,hZ⟩:∃ Z:List D,Z = List.replicate 104 (.int .u8 0):=⟨_,rfl⟩;obtain ⟨x1,k1,X1,-,h1⟩:=QL nil zs qQ hz k 5 (by decide) (by decide);obtain ⟨j1,Qp,i1⟩:=qdn x1;obtain ⟨x2,k2,hx2,-,h2⟩:=QL nil zs qQ hz k1 5 (by decide) (by decide);obtain ⟨j2,hj2,i2⟩:=qdn x2;obtain ⟨x3,k3,hx3,-,h3⟩:=QL nil zs qQ hz k2 5 (by decide) (by decide);obtain ⟨j3,hj3,i3⟩:=qdn x3;obtain ⟨x4,k4,hx4,-,h4⟩:=QL nil zs qQ hz k3 7 (by decide) (by decide);obtain ⟨x5,k5,hx5,-,h5⟩:=QL nil zs qQ hz k4 4 (by decide) (by decide);obtain ⟨x6,k6,hx6,-,h6⟩:=QL nil zs qQ hz k5 2 (by decide) (by decide);have w4:IntKind.i64.wrap ((x4:Int)+1) = ((x4+1:Nat):Int):=by rw [wrap_i64] <;> omega
 have w5:IntKind.i64.wrap ((x5:Int)+1) = ((x5+1:Nat):Int):=by rw [wrap_i64] <;> omega
 have gs:∀ a,qe (qo H a) s = some (jy nil zs k):=fun a=>by rw [jF hs];exact hg
 have XP:∀ a X,qe (ql (qo H a) s X) s = some X:=fun a X=>qV (by rw [zG];omega);have gs3:∀ a X,qe (ql (qo H a) s X) H.length = some a:=fun a X=>by rw [qZ (by omega),qN]
 have gs4:∀ a X C,qe (ql (ql (qo H a) s X) H.length C) H.length = some C:=fun a X C=>qV (by rw [kN,zG];omega);have sl:=qbK nil zs;have sf:=qbL nil zs;have sc:=qbM nil zs;refine Zt (X:=cx) (f:=48) _ Tryz.func48 rfl ⟨rfl,rfl⟩ ?_;simp [-qe,-ql,-qo,Tryz.f48,w4,w5,gs,XP,gs3,gs4,kp,sf,h1,h2,h3,h4,h5,h6,i1,i2,i3,(idN j1).h,(idN j2).h,(idN j3).h,kR,zk,qP,List.drop_of_length_le];refine ⟨j1,j2,j3,x4,x5,x6,k6,_,⟨rfl,rfl⟩,by omega,by omega,?_,?_⟩
 ·rw [qZ (by omega)];exact XP _ _
 ·refine ⟨by rw [kN,kN,zG];omega,fun i hi hn=>?_⟩;have:i≠s:=fun h0=>hn (by rw [h0];simp);rw [qZ (by omega),qZ this,jF hi]
end Go.Ev.S
