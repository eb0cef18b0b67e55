import Derived.Test.YtdmkldmbjclifaaGreatDoorC5
import Derived.Shelf.Strings.BuilderF
import Derived.Test.YtdmkldmbjclifaaGreatDoorProg
namespace Go.Ev.S
open Go Go.Proofs Go.Ev
theorem bytesclone_ev [TxtC] (s:Sl UInt8) (hn:s.l.length≤140737488355328) :
  call cx 107 [(.vsl s.nil (ofBytes s.l) s.l.length)] [] = if s.nil then some (.vsl true [] 0,[]) else some (.osl 0 s.l.length 0 s.l.length 1,[some (ofBytes s.l)]):=by
 obtain ⟨nil,l,hnil⟩:=s
 simp only at hn ⊢
 cases nil with
 | true =>
  have hl0:=hnil rfl
  subst hl0
  rw [if_pos rfl]
  refine call_run Tryz.func107 rfl ⟨rfl,rfl⟩ ?_
  simp [Tryz.f107]
 | false =>
  rw [if_neg (by decide)]
  refine call_run Tryz.func107 rfl ⟨rfl,rfl⟩ ?_
  simp [Tryz.f107,maxBytes,hn]
theorem leB_val (v:Nat) {i:Nat} (hi:i≤7):IntKind.u8.wrap ((v:Int).fdiv (2 ^ min (8 * i) 64)) = ((UInt8.ofNat (v / 256 ^ i % 256)).toNat:Int):=by
 have e1:min (8 * i) 64 = 8 * i:=by omega
 have e2:((2:Int) ^ (8 * i)) = ((256 ^ i:Nat):Int):=by rw [Int.pow_mul];simp
 have e3:(v:Int).fdiv ((256 ^ i:Nat):Int) = ((v / 256 ^ i:Nat):Int):=by
  rw [Int.fdiv_eq_ediv_of_nonneg _ (Int.natCast_nonneg _)]
  exact (Int.natCast_ediv v (256 ^ i)).symm
 rw [e1,e2,e3,UInt8.toNat_ofNat_of_lt' (Nat.mod_lt _ (by decide))]
 simp only [IntKind.wrap,IntKind.signed,IntKind.bits]
 simp
def Buf (d:D) (H:Heap) (l:List UInt8):Prop:=(d = .vsl true [] 0∧l = []∧H = [])∨(d = .osl 0 l.length 0 l.length 1∧H = [some (ofBytes l)])
def leAdd (l:List UInt8) (n:Int) (v:Nat):List UInt8:=if szOk n then l ++ leB n.toNat v else l
theorem buf_pack {d:D} {H:Heap} {l:List UInt8} (h:Buf d H l):pack 0 H d = some (d,H):=by
 rcases h with ⟨rfl,rfl,rfl⟩ | ⟨rfl,rfl⟩ <;> simp
set_option maxHeartbeats 1000000 in
theorem leadd_ev [TxtC] (s:Sl UInt8) (n:Int) (v:Nat) (hn:s.l.length≤140737488355000) :
  ∃ d H,Buf d H (leAdd s.l n v)∧call cx 90 [(.vsl s.nil (ofBytes s.l) s.l.length),.int .i64 n,.int .u64 v] [] = some (d,H):=by
 have hc:=bytesclone_ev s (by omega)
 have hs:=lesize_ev n
 have hcl:∃ d H,Buf d H s.l∧call cx 107 [(.vsl s.nil (ofBytes s.l) s.l.length)] [] = some (d,H)∧shift 0 d = d:=by
  cases hnil:s.nil with
  | true =>
   rw [hnil,if_pos rfl] at hc
   exact ⟨_,_,.inl ⟨rfl,s.h hnil,rfl⟩,hc,rfl⟩
  | false =>
   rw [hnil,if_neg (by decide)] at hc
   exact ⟨_,_,.inr ⟨rfl,rfl⟩,hc,rfl⟩
 obtain ⟨d0,H0,hb0,hc0,hsh⟩:=hcl
 cases hz:szOk n with
 | false =>
  rw [hz] at hs
  have hla:leAdd s.l n v = s.l:=by simp [leAdd,hz]
  rw [hla]
  refine ⟨d0,H0,hb0,?_⟩
  refine call_run Tryz.func90 rfl ⟨rfl,rfl⟩ ?_
  simp [Tryz.f90,hc0,hs,hsh,buf_pack hb0,-pack]
 | true =>
  have hb:=szOk_le hz
  rw [hz] at hs
  obtain ⟨k,rfl⟩:∃ k:Nat,n = k:=⟨n.toNat,by omega⟩
  have hla:leAdd s.l k v = s.l ++ leB k v:=by simp [leAdd,hz]
  have hR:∃ d H,Buf d H (leAdd s.l k v):=⟨_,_,.inr ⟨rfl,rfl⟩⟩
  refine ⟨.osl 0 (leAdd s.l k v).length 0 (leAdd s.l k v).length 1,[some (ofBytes (leAdd s.l k v))],.inr ⟨rfl,rfl⟩,?_⟩
  refine call_run Tryz.func90 rfl ⟨rfl,rfl⟩ ?_
  simp [Tryz.f90,hc0,hs,hsh,-pack]
  refine Run.loopThen (fun (i:Nat) e H=>i≤k∧(∃ d,look e 7 = some d∧Buf d H (s.l ++ leB i v))∧look e 2 = some (.int .u64 v)∧look e 15 = some (.int .i64 k)∧look e 16 = some (.int .i64 i)) (fun i=>k - i) 0 (by simp [leB,hb0]) ?_
  rintro i e H ⟨hi,⟨d,h7,hbuf⟩,h2,h15,h16⟩
  by_cases hlt:i < k
  ·have hlt':(i:Int) < (k:Int):=by omega
   have hw:IntKind.i64.wrap ((i:Int)+1) = ((i+1:Nat):Int):=by rw [wrap_i64] <;> omega
   have hw8:IntKind.i64.wrap (8 * (i:Int)) = 8 * (i:Int):=by rw [wrap_i64];omega
   have hng:¬ (8 * (i:Int) < 0):=by omega
   have htn:(8 * (i:Int)).toNat = 8 * i:=by omega
   have hv:=leB_val v (i:=i) (by omega)
   have hl:(s.l ++ leB i v).length≤140737488355100:=by simp;omega
   have hsn:s.l ++ leB (i+1) v = (s.l ++ leB i v) ++ [UInt8.ofNat (v / 256 ^ i % 256)]:=by rw [leB_snoc,List.append_assoc]
   generalize s.l ++ leB i v = l at *
   generalize UInt8.ofNat (v / 256 ^ i % 256) = c at *
   have hmx:l.length+1≤140737488355328:=by omega
   rcases hbuf with ⟨rfl,rfl,rfl⟩ | ⟨rfl,rfl⟩
   ·simp [h7,h2,h15,h16,hlt',hw,hw8,hng,htn,IntKind.bits,hv,maxBytes]
    exact ⟨i+1,by omega,by omega,.inr (by simp [hsn,ofBytes]),rfl⟩
   ·simp [h7,h2,h15,h16,hlt',hw,hw8,hng,htn,IntKind.bits,hv,maxBytes,hmx]
    exact ⟨i+1,by omega,by omega,.inr (by simp [hsn,ofBytes]),rfl⟩
  ·have hlt':¬ (i:Int) < (k:Int):=by omega
   have hik:i = k:=by omega
   subst hik
   rw [← hla] at hbuf
   have hlen:1≤(leAdd s.l i v).length:=by rw [hla];simp;omega
   rcases hbuf with ⟨rfl,hnil,rfl⟩ | ⟨rfl,rfl⟩
   ·rw [hnil] at hlen;simp at hlen
   ·simp [h7,h2,h15,h16,hlt']
end Go.Ev.S
namespace Go.Ev.S
open Go Go.Proofs Go.Ev
set_option maxHeartbeats 1000000 in
theorem rxor_ev [TxtC] (s:Sl Pr) (hn:s.l.length < 1000000) (hb:∀ p∈s.l,PrB p):call cx 76 [(.vsl s.nil (encs s.l) s.l.length)] [] = some (.int .u64 (xorP (s.l.map payL) 0),[]):=by
 refine call_run Tryz.func76 rfl ⟨rfl,rfl⟩ ?_
 obtain ⟨r,hr⟩:∃ r,xorP (s.l.map payL) 0 = r:=⟨_,rfl⟩
 rw [hr]
 simp [Tryz.f76]
 refine Run.loopThen (fun (q:Nat × Int) e H'=>q.1≤s.l.length∧xorP ((s.l.map payL).drop q.1) q.2 = r∧look e 0 = some (.vsl s.nil (encs s.l) s.l.length)∧look e 3 = some (.int .u64 q.2)∧look e 4 = some (.int .i64 (q.1:Nat))∧H' = []) (fun q=>s.l.length - q.1) (0,0) ?_ ?_
 ·simp [hr]
 rintro ⟨k,v⟩ e H' ⟨hk,hR,k0,k3,k4,rfl⟩
 simp only at hk hR k3 k4
 by_cases hlt:k < s.l.length
 ·have hlt':(k:Int) < (s.l.length:Int):=by omega
  have hw:IntKind.i64.wrap ((k:Int)+1) = ((k+1:Nat):Int):=by rw [wrap_i64] <;> omega
  rw [← List.map_drop,List.drop_eq_getElem_cons hlt,List.map_cons,xorP,List.map_drop] at hR
  have hpb:=hb s.l[k] (List.getElem_mem hlt)
  have hp:=pay_ev s.l[k] hpb.1 hpb.2
  have hpl:=payL_len hpb
  have hl:=rlookup_ev (.of (payL s.l[k])) (by show (payL s.l[k]).length < _;omega)
  replace hl:call cx 99 [.vsl false (ofBytes (payL s.l[k])) (payL s.l[k]).length] [] = some (.int .u64 (lookN (payL s.l[k])),[]):=hl
  generalize payL s.l[k] = b at *
  generalize lookN b = z at *
  simp [k0,k3,k4,hlt',hlt,hw,Sl.nn hlt,hp,hl]
  exact ⟨k+1,by omega,by omega,_,hR,rfl,by omega⟩
 ·have hlt':¬ (k:Int) < (s.l.length:Int):=by omega
  rw [List.drop_eq_nil_of_le (by simp;omega),xorP] at hR
  subst hR
  simp [k0,k3,k4,hlt']
theorem rcof_ev [TxtC] (q:ID) (r:Rec) (hn:r.fields.l.length < 1000000) (hb:∀ p∈r.fields.l,PrB p):call cx 44 [.agg (ofBytes q.l),.agg (Enc.cells r)] [] = some (.agg (Enc.cells (cOfP q r)),[]):=by
 have hx:=rxor_ev r.fields hn hb
 have hL:Enc.cells r = [.int .u64 r.seq,.int .u64 r.real,.int .u64 r.mono] ++ (ofBytes r.boot.l ++ [(.vsl r.fields.nil (encs r.fields.l) r.fields.l.length)]):=Rec.cells r
 have hC:Enc.cells (cOfP q r) = ofBytes q.l ++ ([.int .u64 r.seq] ++ (ofBytes r.boot.l ++ [.int .u64 r.mono,.int .u64 r.real,.int .u64 (xorP (r.fields.l.map payL) 0)])):=rfl
 rw [hL,hC]
 generalize xorP (r.fields.l.map payL) 0 = z at *
 refine call_run Tryz.func44 rfl ⟨rfl,rfl⟩ ?_
 simp [Tryz.f44,hx,List.drop_append,List.take_append,drop_bytes]
theorem low_ev [TxtC] (v:Nat) (hv:v < 18446744073709551616):call cx 77 [.int .u64 v,.int .i64 8] [] = some (.vsl false (ofBytes (leB 8 v)) 8,[]):=by
 refine call_run Tryz.func77 rfl ⟨rfl,rfl⟩ ?_
 simp [Tryz.f77]
 refine Run.loopThen (fun (i:Nat) e H=>i≤8∧(∃ d,look e 5 = some d∧Buf d H (leB i v))∧look e 0 = some (.int .u64 (v / 256 ^ i:Nat))∧look e 1 = some (.int .i64 8)∧look e 6 = some (.int .i64 i)) (fun i=>8 - i) 0 ?_ ?_
 ·simp [leB,Buf]
 rintro i e H ⟨hi,⟨d,h5,hbuf⟩,h0,h1,h6⟩
 by_cases hlt:i < 8
 ·have hlt':(i:Int) < 8:=by omega
  have hw:IntKind.i64.wrap ((i:Int)+1) = ((i+1:Nat):Int):=by rw [wrap_i64] <;> omega
  have hsn:=leB_snoc i v
  have hl:(leB i v).length≤8:=by simp;omega
  have hq:v / 256 ^ i < 18446744073709551616:=Nat.lt_of_le_of_lt (Nat.div_le_self _ _) hv
  have hnx:v / 256 ^ (i+1) = v / 256 ^ i / 256:=by rw [Nat.pow_succ,Nat.div_div_eq_div_mul]
  generalize v / 256 ^ i = x at *
  have ht1:(x:Int).tmod 256 = ((x % 256:Nat):Int):=by
   rw [Int.tmod_eq_emod_of_nonneg (Int.natCast_nonneg _)];rfl
  have ht2:(x:Int).tdiv 256 = ((x / 256:Nat):Int):=by
   rw [Int.tdiv_eq_ediv_of_nonneg (Int.natCast_nonneg _)];rfl
  have hx256:x % 256 < 256:=Nat.mod_lt _ (by decide)
  have hw1:IntKind.u8.wrap ((x % 256:Nat):Int) = ((UInt8.ofNat (x % 256)).toNat:Int):=by
   rw [UInt8.toNat_ofNat_of_lt' hx256]
   clear hv hq
   generalize x % 256 = y at *
   rw [wrap_u8]
   omega
  have hw2:IntKind.u64.wrap ((x / 256:Nat):Int) = ((x / 256:Nat):Int):=by
   have:x / 256 < 18446744073709551616:=Nat.lt_of_le_of_lt (Nat.div_le_self _ _) hq
   clear hv hq
   generalize x / 256 = y at *
   rw [wrap_u64]
   omega
  generalize UInt8.ofNat (x % 256) = c at *
  clear hv hq
  generalize leB i v = l at *
  have hmx:l.length+1≤140737488355328:=Nat.le_trans (Nat.add_le_add_right hl 1) (by decide)
  rcases hbuf with ⟨rfl,rfl,rfl⟩ | ⟨rfl,rfl⟩
  ·simp [h5,h0,h1,h6,hlt',hw,ht1,ht2,hw1,hw2,maxBytes,-Int.natCast_emod,-Int.natCast_ediv]
   clear hmx
   exact ⟨i+1,by omega,by omega,.inr (by simp [hsn,ofBytes]),by rw [hnx],rfl⟩
  ·simp [h5,h0,h1,h6,hlt',hw,ht1,ht2,hw1,hw2,maxBytes,hmx,-Int.natCast_emod,-Int.natCast_ediv]
   clear hmx
   exact ⟨i+1,by omega,by omega,.inr (by simp [hsn,ofBytes]),by rw [hnx],rfl⟩
 ·have hlt':¬ (i:Int) < 8:=by omega
  have h8:i = 8:=by omega
  subst h8
  have hl:(leB 8 v).length = 8:=leB_len 8 v
  generalize leB 8 v = l at *
  rcases hbuf with ⟨rfl,rfl,rfl⟩ | ⟨rfl,rfl⟩
  ·simp at hl
  ·simp [h5,h0,h1,h6,hl,List.take_of_length_le]
end Go.Ev.S
namespace Go.Ev.S
open Go Go.Proofs Go.Ev
theorem fright_evX [TxtC] (p:Pr):call cx 85 [.agg (Enc.cells p)] [] = some (.bool (prOk p),[]):=by
 have hn:=fname_evX p.name
 refine call_run Tryz.func85 rfl ⟨rfl,rfl⟩ ?_
 unfold prOk
 cases hq:nameOk p.name with
 | false =>
  rw [hq] at hn
  simp [Tryz.f85,hn,Pr.cells]
 | true =>
  rw [hq] at hn
  by_cases hv:p.value.length≤256
  ·have hv':(p.value.length:Int)≤256:=by omega
   simp [Tryz.f85,hn,Pr.cells,hv,hv']
  ·have hv':¬ (p.value.length:Int)≤256:=by omega
   simp [Tryz.f85,hn,Pr.cells,hv,hv']
theorem number_ev [TxtC] (v:Nat) (h:v < 18446744073709551616):call cx 58 [.int .u64 v] [] = some (.str (dec v),[]):=by
 have hf:=fu_ev v h
 refine call_run Tryz.func58 rfl ⟨rfl,rfl⟩ ?_
 simp [Tryz.f58,hf]

set_option maxHeartbeats 4000000 in
theorem wright_gap [TxtC] (it:It) (hg:it.gap = true):call cx 57 [.agg (Enc.cells it)] [] = some (.bool (gapOk it),[]):=by
 refine call_run Tryz.func57 rfl ⟨rfl,rfl⟩ ?_
 unfold gapOk
 have ht17:List.take 17 (ofBytes it.rc.boot.l ++ [(.vsl it.rc.fields.nil (encs it.rc.fields.l) it.rc.fields.l.length)]) = ofBytes it.rc.boot.l ++ [(.vsl it.rc.fields.nil (encs it.rc.fields.l) it.rc.fields.l.length)]:=List.take_of_length_le (by simp)

 rcases Classical.em (¬ (1≤it.fr)) with hfr | hfr
 ·simp [Tryz.f57,hg,hfr,ht17]
 replace hfr:=Classical.not_not.1 hfr
 rcases Classical.em (¬ (it.fr≤it.til)) with htil | htil
 ·simp [Tryz.f57,hg,hfr,htil,ht17]
 replace htil:=Classical.not_not.1 htil
 rcases Classical.em (¬ (it.rc.seq = 0)) with hseq | hseq
 ·simp [Tryz.f57,hg,hfr,htil,hseq,ht17]
 replace hseq:=Classical.not_not.1 hseq
 rcases Classical.em (¬ (it.rc.real = 0)) with hreal | hreal
 ·simp [Tryz.f57,hg,hfr,htil,hseq,hreal,ht17]
 replace hreal:=Classical.not_not.1 hreal
 rcases Classical.em (¬ (it.rc.mono = 0)) with hmono | hmono
 ·simp [Tryz.f57,hg,hfr,htil,hseq,hreal,hmono,ht17]
 replace hmono:=Classical.not_not.1 hmono
 have he:=cellsEq16 it.rc.boot ID.zero
 replace he:cellsEq [.i,.i,.i,.i,.i,.i,.i,.i,.i,.i,.i,.i,.i,.i,.i,.i] (ofBytes it.rc.boot.l) [.int .u8 0,.int .u8 0,.int .u8 0,.int .u8 0,.int .u8 0,.int .u8 0,.int .u8 0,.int .u8 0,.int .u8 0,.int .u8 0,.int .u8 0,.int .u8 0,.int .u8 0,.int .u8 0,.int .u8 0,.int .u8 0] = some (it.rc.boot == ID.zero):=he
 rcases Classical.em (¬ (it.rc.boot = ID.zero)) with hboot | hboot
 ·have hbe:(it.rc.boot == ID.zero) = false:=beq_eq_false_iff_ne.2 hboot
  rw [hbe] at he
  simp [Tryz.f57,hg,hfr,htil,hseq,hreal,hmono,hboot,he,ht17,List.drop_append]
 replace hboot:=Classical.not_not.1 hboot
 have hbe:(it.rc.boot == ID.zero) = true:=by rw [hboot];simp
 rw [hbe] at he
 have hbd:decide (it.rc.boot = ID.zero) = true:=decide_eq_true hboot
 clear hbe hboot
 by_cases hlen:it.rc.fields.l.length = 0
 ·have hlen':(it.rc.fields.l.length:Int) = 0:=by omega
  have hld:decide (it.rc.fields.l.length = 0) = true:=decide_eq_true hlen
  simp [-decide_eq_true_eq,Tryz.f57,hg,hfr,htil,hseq,hreal,hmono,hbd,he,hlen',ht17,List.drop_append]
  exact List.length_eq_zero_iff.1 hlen
 ·have hlen':¬ (it.rc.fields.l.length:Int) = 0:=by omega
  simp [Tryz.f57,hg,hfr,htil,hseq,hreal,hmono,hbd,hlen,he,ht17,List.drop_append]
set_option maxHeartbeats 4000000 in
theorem wright_recX [TxtC] (it:It) (hg:it.gap = false):call cx 57 [.agg (Enc.cells it)] [] = some (.bool (recOk it),[]):=by
 refine call_run Tryz.func57 rfl ⟨rfl,rfl⟩ ?_
 unfold recOk
 have ht17:List.take 17 (ofBytes it.rc.boot.l ++ [(.vsl it.rc.fields.nil (encs it.rc.fields.l) it.rc.fields.l.length)]) = ofBytes it.rc.boot.l ++ [(.vsl it.rc.fields.nil (encs it.rc.fields.l) it.rc.fields.l.length)]:=List.take_of_length_le (by simp)
 rcases Classical.em (¬ (it.fr = 0)) with hfr | hfr
 ·simp [Tryz.f57,hg,hfr,ht17]
 replace hfr:=Classical.not_not.1 hfr
 rcases Classical.em (¬ (it.til = 0)) with htil | htil
 ·simp [Tryz.f57,hg,hfr,htil,ht17]
 replace htil:=Classical.not_not.1 htil
 by_cases hseq:it.rc.seq = 0
 ·simp [Tryz.f57,hg,hfr,htil,hseq,ht17]
 by_cases hl1:it.rc.fields.l.length < 1
 ·have hl1':(it.rc.fields.l.length:Int) < 1:=by omega
  have hd:decide (1≤it.rc.fields.l.length) = false:=decide_eq_false (by omega)
  rw [hd]
  simp [Tryz.f57,hg,hfr,htil,hseq,hl1',ht17]
 have hl1':¬ (it.rc.fields.l.length:Int) < 1:=by omega
 have hd1:decide (1≤it.rc.fields.l.length) = true:=decide_eq_true (by omega)
 rw [hd1]
 by_cases hl2:16 < it.rc.fields.l.length
 ·have hl2':(16:Int) < (it.rc.fields.l.length:Int):=by omega
  have hd:decide (it.rc.fields.l.length≤16) = false:=decide_eq_false (by omega)
  rw [hd]
  simp [Tryz.f57,hg,hfr,htil,hseq,hl1',hl2',ht17]
 have hl2':¬ (16:Int) < (it.rc.fields.l.length:Int):=by omega
 have hd2:decide (it.rc.fields.l.length≤16) = true:=decide_eq_true (by omega)
 rw [hd2,decide_eq_true hfr,decide_eq_true htil,decide_eq_true hseq]
 simp only [Bool.true_and]
 obtain ⟨r,hr⟩:∃ r,it.rc.fields.l.all prOk = r:=⟨_,rfl⟩
 rw [hr]
 simp [Tryz.f57,hg,hfr,htil,hseq,hl1',hl2',ht17]
 generalize it.rc.fields = F at *
 refine Run.loopThen (fun (k:Nat) e H'=>k≤F.l.length∧(F.l.drop k).all prOk = r∧look e 73 = some (.vsl F.nil (encs F.l) F.l.length)∧look e 74 = some (.int .i64 F.l.length)∧look e 75 = some (.int .i64 k)∧(H' = [some (Enc.cells it),some (.int .u64 it.rc.seq :: .int .u64 it.rc.real :: .int .u64 it.rc.mono :: (ofBytes it.rc.boot.l ++ [(.vsl F.nil (encs F.l) F.l.length)]))]∨∃ p:Pr,H' = [some (Enc.cells p)])) (fun k=>F.l.length - k) 0 ?_ ?_
 ·simpa using hr
 rintro k e H' ⟨hk,hR,k73,k74,k75,hH⟩
 by_cases hlt:k < F.l.length
 ·have hlt':(k:Int) < (F.l.length:Int):=by omega
  have hw:IntKind.i64.wrap ((k:Int)+1) = ((k+1:Nat):Int):=by rw [wrap_i64] <;> omega
  rw [List.drop_eq_getElem_cons hlt,List.all_cons] at hR
  have hf:=fright_evX F.l[k]
  have hnn:=Sl.nn hlt
  cases hp:prOk F.l[k] with
  | true =>
   rw [hp] at hf
   rw [hp,Bool.true_and] at hR
   rcases hH with rfl | ⟨p,rfl⟩
   ·simp [k73,k74,k75,hlt,hlt',hw,hnn,hf]
    exact ⟨k+1,by omega,by omega,by simpa using hR,by omega,_,rfl⟩
   ·simp [k73,k74,k75,hlt,hlt',hw,hnn,hf]
    exact ⟨k+1,by omega,by omega,by simpa using hR,by omega,_,rfl⟩
  | false =>
   rw [hp] at hf
   rw [hp,Bool.false_and] at hR
   subst hR
   rcases hH with rfl | ⟨p,rfl⟩
   ·simp [k73,k74,k75,hlt,hlt',hnn,hf]
   ·simp [k73,k74,k75,hlt,hlt',hnn,hf]
 ·have hlt':¬ (k:Int) < (F.l.length:Int):=by omega
  rw [List.drop_eq_nil_of_le (by omega)] at hR
  have:r = true:=hR.symm
  subst this
  rcases hH with rfl | ⟨p,rfl⟩
  ·simp [k73,k74,k75,hlt']
  ·simp [k73,k74,k75,hlt']

theorem wright_evX [TxtC] (it:It):call cx 57 [.agg (Enc.cells it)] [] = some (.bool (itOk it),[]):=by
 unfold itOk
 cases hg:it.gap with
 | true=>rw [if_pos rfl];exact wright_gap it hg
 | false=>rw [if_neg (by decide)];exact wright_recX it hg
theorem wright_ev [TxtC] (it:It) (_:∀ p∈it.rc.fields.l,PrB p) (_:it.rc.fields.l.length < 1000000):call cx 57 [.agg (Enc.cells it)] [] = some (.bool (itOk it),[]):=wright_evX it
end Go.Ev.S
namespace Go.Ev.S
open Go Go.Proofs Go.Ev
set_option maxHeartbeats 2000000 in
theorem pair_ev [TxtC] (p:Pr) (hb:PrB p):call cx 63 [.agg (Enc.cells p)] [] = some (.str (pairL p),[]):=by
 obtain ⟨h1,h2⟩:=hb
 have hp:=plain_ev p.value h2
 refine call_run Tryz.func63 rfl ⟨rfl,rfl⟩ ?_
 unfold pairL
 cases hv:plainV p.value with
 | true =>
  rw [hv] at hp
  have x1:p.name.length+1≤4611686018427387904:=by omega
  have x2:p.name.length+1+p.value.length≤4611686018427387904:=by omega
  have x3:p.name.length+(p.value.length+1)≤4611686018427387904:=by omega
  have x4:p.name.length+(p.value.length+1)+1≤4611686018427387904:=by omega
  have x5:p.name.length+(p.value.length+1+1)≤4611686018427387904:=by omega
  simp [Tryz.f63,hp,Pr.cells,x1,x2,x4]
 | false =>
  rw [hv] at hp
  obtain ⟨d,H,hB,hc⟩:=leadd_ev (Sl.none (α:=UInt8)) 8 p.value.length (by show (0:Nat)≤_;omega)
  have hla:leAdd (Sl.none (α:=UInt8)).l 8 p.value.length = leB 8 p.value.length:=rfl
  rw [hla] at hB
  have hl8:(leB 8 p.value.length).length = 8:=by simp
  generalize leB 8 p.value.length = L at *
  replace hc:call cx 90 [.vsl true [] 0,.int .i64 8,.int .u64 (p.value.length:Nat)] [] = some (d,H):=hc
  rcases hB with ⟨_,rfl,_⟩ | ⟨rfl,rfl⟩
  ·simp at hl8
  have hw:IntKind.u64.wrap (p.value.length:Int) = (p.value.length:Int):=by rw [wrap_u64] <;> omega
  have x1:p.name.length+1≤4611686018427387904:=by omega
  have x2:p.name.length+1+8≤4611686018427387904:=by omega
  have x3:p.name.length+(8+1)≤4611686018427387904:=by omega
  have x4:p.name.length+(8+1)+p.value.length≤4611686018427387904:=by omega
  have x5:p.name.length+(8+1+p.value.length)≤4611686018427387904:=by omega
  have x6:p.name.length+(p.value.length+(8+1))≤4611686018427387904:=by omega
  have x7:p.name.length+(8+p.value.length+1)≤4611686018427387903:=by omega
  simp [Tryz.f63,hp,Pr.cells,hc,hw,hl8,x1,x2,x4,x7]
end Go.Ev.S
namespace Go.Ev.S
open Go Go.Proofs Go.Ev
theorem nums1_ev [TxtC] (a:Nat) (ha:a < 18446744073709551616):call cx 46 [.vsl false [.int .u64 a] 1] [] = some (.vsl false (ofBytes (leB 8 a)) 8,[]):=by
 have h1:=low_ev a ha
 clear ha
 refine call_run Tryz.func46 rfl ⟨rfl,rfl⟩ ?_
 simp [Tryz.f46]
 iterate 2
  refine run_unroll ?_
  simp [h1,List.take_of_length_le,maxBytes]
theorem rdec_ev [TxtC] (v:Nat) (hv:v < 18446744073709551616):call cx 41 [.int .u64 v] [] = some (.str (dec v),[]):=by
 have h:=fu_ev v hv
 refine call_run Tryz.func41 rfl ⟨rfl,rfl⟩ ?_
 simp [Tryz.f41,h]
theorem rplain_ev [TxtC] (s:List UInt8) (_:s.length < 1000000):call cx 45 [.str s] [] = some (.bool (plainV s),[]):=by
 refine call_run Tryz.func45 rfl ⟨rfl,rfl⟩ ?_
 unfold plainV
 obtain ⟨r,hr⟩:∃ r,s.all plainC = r:=⟨_,rfl⟩
 rw [hr]
 simp [Tryz.f45]
 refine Run.loopThen (fun (k:Nat) e H'=>k≤s.length∧(s.drop k).all plainC = r∧look e 0 = some (.str s)∧look e 3 = some (.int .i64 k)∧H' = []) (fun k=>s.length - k) 0 ?_ ?_
 ·simpa using hr
 rintro k e H' ⟨hk,hR,k0,k3,rfl⟩
 by_cases hlt:k < s.length
 ·have hlt':(k:Int) < (s.length:Int):=by omega
  have hw:IntKind.i64.wrap ((k:Int)+1) = ((k+1:Nat):Int):=by rw [wrap_i64] <;> omega
  have hat:s[k]? = some s[k]:=List.getElem?_eq_getElem hlt
  rw [List.drop_eq_getElem_cons hlt,List.all_cons] at hR
  generalize s[k] = c at *
  by_cases h2:c.toNat = 9
  ·have h2':(c.toNat:Int) = 9:=by omega
   have hc:plainC c = true:=by simp [plainC,h2]
   rw [hc,Bool.true_and] at hR
   simp [k0,k3,hlt',hat,hw,h2]
   exact ⟨k+1,by omega,by omega,by simpa using hR,by omega⟩
  ·have h2':¬ (c.toNat:Int) = 9:=by omega
   by_cases h1:c.toNat < 32
   ·have h1':(c.toNat:Int) < 32:=by omega
    have hc:plainC c = false:=by simp [plainC,h1,h2]
    rw [hc,Bool.false_and] at hR
    subst hR
    simp [k0,k3,hlt',hat,h1',h2']
   ·have h1':¬ (c.toNat:Int) < 32:=by omega
    have hc:plainC c = true:=by simp [plainC,h1]
    rw [hc,Bool.true_and] at hR
    simp [k0,k3,hlt',hat,hw,h1',h2']
    exact ⟨k+1,by omega,by omega,by simpa using hR,by omega⟩
 ·have hlt':¬ (k:Int) < (s.length:Int):=by omega
  rw [List.drop_eq_nil_of_le (by omega)] at hR
  have:r = true:=hR.symm
  subst this
  simp [k0,k3,hlt']
def nameG:List UInt8→Nat→Bool
 | [],_=>true
 | c :: l,k=>(nameC c && (decide (0 < k) || !digC c)) && nameG l (k+1)
theorem nameG_pos:∀ (l:List UInt8) (k:Nat),0 < k→nameG l k = l.all nameC
 | [],_,_=>rfl
 | c :: l,k,h=>by rw [nameG,nameG_pos l (k+1) (by omega)];simp [h]
theorem nameOk_G (s:List UInt8):nameOk s = (nameG s 0 && (decide (1≤s.length) && decide (s.length≤64))):=by
 cases s with
 | nil=>rfl
 | cons c l =>
  rw [nameOk,nameG,nameG_pos l 1 (by omega),List.all_cons]
  simp
  cases nameC c <;> cases digC c <;> cases l.all nameC <;> simp
set_option maxHeartbeats 4000000 in
theorem rname_evX [TxtC] (s:List UInt8) (_:s.length≤9223372036854775807):call cx 38 [.str s] [] = some (.bool (nameOk s),[]):=by
 refine call_run Tryz.func38 rfl ⟨rfl,rfl⟩ ?_
 rw [nameOk_G]
 obtain ⟨r,hr⟩:∃ r,(nameG s 0 && (decide (1≤s.length) && decide (s.length≤64))) = r:=⟨_,rfl⟩
 rw [hr]
 simp [Tryz.f38]
 refine Run.loopThen (fun (k:Nat) e H'=>k≤s.length∧(nameG (s.drop k) k && (decide (1≤s.length) && decide (s.length≤64))) = r∧look e 0 = some (.str s)∧look e 3 = some (.int .i64 k)∧H' = []) (fun k=>s.length - k) 0 ?_ ?_
 ·simpa using hr
 rintro k e H' ⟨hk,hR,k0,k3,rfl⟩
 by_cases hlt:k < s.length
 ·have hlt':(k:Int) < (s.length:Int):=by omega
  have hw:IntKind.i64.wrap ((k:Int)+1) = ((k+1:Nat):Int):=by rw [wrap_i64] <;> omega
  have hat:s[k]? = some s[k]:=List.getElem?_eq_getElem hlt
  rw [List.drop_eq_getElem_cons hlt,nameG] at hR
  generalize s[k] = c at *
  have hnx:(nameC c && (decide (0 < k) || !digC c)) = true→∃ j:Nat,s.length - j < s.length - k∧j≤s.length∧(nameG (s.drop j) j && (decide (1≤s.length) && decide (s.length≤64))) = r∧(j:Int) = (k:Int)+1:=fun h=>⟨k+1,by omega,by omega,by rw [h,Bool.true_and] at hR;exact hR,by omega⟩
  have hno:(nameC c && (decide (0 < k) || !digC c)) = false→r = false:=fun h=>by rw [h,Bool.false_and,Bool.false_and] at hR;exact hR.symm
  cases hb:(nameC c && (decide (0 < k) || !digC c)) with
  | true =>
   obtain ⟨j,j1,j2,j3,j4⟩:=hnx hb
   simp [nameC,digC] at hb
   by_cases h1:(48:Int)≤(c.toNat:Int) <;> by_cases h2:(c.toNat:Int)≤57 <;> rcases (show ((k = 0) = True∧(0 < k) = False)∨((k = 0) = False∧(0 < k) = True) by by_cases hk0:k = 0;exact .inl ⟨eq_true hk0,eq_false (by omega)⟩;exact .inr ⟨eq_false hk0,eq_true (by omega)⟩) with ⟨h3,h3'⟩ | ⟨h3,h3'⟩ <;> by_cases h4:(65:Int)≤(c.toNat:Int) <;> by_cases h5:(c.toNat:Int)≤90 <;> by_cases h6:(c.toNat:Int) = 95 <;> try (exfalso;simp at h3;omega)
   all_goals simp [k0,k3,hlt',hat,hw,h1,h2,h3',h4,h5,h6]
   all_goals exact ⟨j,j1,j2,j3,by omega⟩
  | false =>
   have:=hno hb
   subst this
   simp [nameC,digC] at hb
   by_cases h1:(48:Int)≤(c.toNat:Int) <;> by_cases h2:(c.toNat:Int)≤57 <;> rcases (show ((k = 0) = True∧(0 < k) = False)∨((k = 0) = False∧(0 < k) = True) by by_cases hk0:k = 0;exact .inl ⟨eq_true hk0,eq_false (by omega)⟩;exact .inr ⟨eq_false hk0,eq_true (by omega)⟩) with ⟨h3,h3'⟩ | ⟨h3,h3'⟩ <;> by_cases h4:(65:Int)≤(c.toNat:Int) <;> by_cases h5:(c.toNat:Int)≤90 <;> by_cases h6:(c.toNat:Int) = 95 <;> try (exfalso;simp at h3;omega)
   all_goals simp [k0,k3,hlt',hat,h1,h2,h3',h4,h5,h6]
 ·have hlt':¬ (k:Int) < (s.length:Int):=by omega
  rw [List.drop_eq_nil_of_le (by omega),nameG,Bool.true_and] at hR
  by_cases h1:1≤s.length
  ·have h1':(1:Int)≤(s.length:Int):=by omega
   by_cases h2:s.length≤64
   ·have h2':(s.length:Int)≤64:=by omega
    simp only [h1,h2,decide_true,Bool.and_self] at hR
    subst hR
    simp [k0,k3,hlt',h1',h2']
   ·have h2':¬ (s.length:Int)≤64:=by omega
    simp only [h1,h2,decide_true,decide_false,Bool.and_false] at hR
    subst hR
    simp [k0,k3,hlt',h1',h2']
  ·have h1':¬ (1:Int)≤(s.length:Int):=by omega
   simp only [h1,decide_false,Bool.false_and] at hR
   subst hR
   simp [k0,k3,hlt',h1']
theorem rname_ev [TxtC] (s:List UInt8) (hs:s.length < 1000000):call cx 38 [.str s] [] = some (.bool (nameOk s),[]):=rname_evX s (by omega)
theorem rright1_evX [TxtC] (p:Pr) (hb:p.name.length≤9223372036854775807):call cx 40 [.agg (Enc.cells p)] [] = some (.bool (prOk p),[]):=by
 have h:=rname_evX p.name hb
 refine call_run Tryz.func40 rfl ⟨rfl,rfl⟩ ?_
 unfold prOk
 cases hn:nameOk p.name with
 | false =>
  rw [hn] at h
  simp [Tryz.f40,h,Pr.cells]
 | true =>
  rw [hn] at h
  by_cases h2:p.value.length≤256
  ·have h2':(p.value.length:Int)≤256:=by omega
   simp [Tryz.f40,h,Pr.cells,h2,h2']
  ·have h2':¬ (p.value.length:Int)≤256:=by omega
   simp [Tryz.f40,h,Pr.cells,h2,h2']
end Go.Ev.S
namespace Go.Ev.S
open Go Go.Proofs Go.Ev
set_option maxHeartbeats 4000000 in
theorem rright_gap [TxtC] (it:It) (hg:it.gap = true):call cx 21 [.agg (Enc.cells it)] [] = some (.bool (gapOk it),[]):=by
 refine call_run Tryz.func21 rfl ⟨rfl,rfl⟩ ?_
 unfold gapOk
 have ht17:List.take 17 (ofBytes it.rc.boot.l ++ [(.vsl it.rc.fields.nil (encs it.rc.fields.l) it.rc.fields.l.length)]) = ofBytes it.rc.boot.l ++ [(.vsl it.rc.fields.nil (encs it.rc.fields.l) it.rc.fields.l.length)]:=List.take_of_length_le (by simp)

 rcases Classical.em (¬ (1≤it.fr)) with hfr | hfr
 ·simp [Tryz.f21,hg,hfr,ht17]
 replace hfr:=Classical.not_not.1 hfr
 rcases Classical.em (¬ (it.fr≤it.til)) with htil | htil
 ·simp [Tryz.f21,hg,hfr,htil,ht17]
 replace htil:=Classical.not_not.1 htil
 rcases Classical.em (¬ (it.rc.seq = 0)) with hseq | hseq
 ·simp [Tryz.f21,hg,hfr,htil,hseq,ht17]
 replace hseq:=Classical.not_not.1 hseq
 rcases Classical.em (¬ (it.rc.real = 0)) with hreal | hreal
 ·simp [Tryz.f21,hg,hfr,htil,hseq,hreal,ht17]
 replace hreal:=Classical.not_not.1 hreal
 rcases Classical.em (¬ (it.rc.mono = 0)) with hmono | hmono
 ·simp [Tryz.f21,hg,hfr,htil,hseq,hreal,hmono,ht17]
 replace hmono:=Classical.not_not.1 hmono
 have he:=cellsEq16 it.rc.boot ID.zero
 replace he:cellsEq [.i,.i,.i,.i,.i,.i,.i,.i,.i,.i,.i,.i,.i,.i,.i,.i] (ofBytes it.rc.boot.l) [.int .u8 0,.int .u8 0,.int .u8 0,.int .u8 0,.int .u8 0,.int .u8 0,.int .u8 0,.int .u8 0,.int .u8 0,.int .u8 0,.int .u8 0,.int .u8 0,.int .u8 0,.int .u8 0,.int .u8 0,.int .u8 0] = some (it.rc.boot == ID.zero):=he
 rcases Classical.em (¬ (it.rc.boot = ID.zero)) with hboot | hboot
 ·have hbe:(it.rc.boot == ID.zero) = false:=beq_eq_false_iff_ne.2 hboot
  rw [hbe] at he
  simp [Tryz.f21,hg,hfr,htil,hseq,hreal,hmono,hboot,he,ht17,List.drop_append]
 replace hboot:=Classical.not_not.1 hboot
 have hbe:(it.rc.boot == ID.zero) = true:=by rw [hboot];simp
 rw [hbe] at he
 have hbd:decide (it.rc.boot = ID.zero) = true:=decide_eq_true hboot
 clear hbe hboot
 by_cases hlen:it.rc.fields.l.length = 0
 ·have hlen':(it.rc.fields.l.length:Int) = 0:=by omega
  have hld:decide (it.rc.fields.l.length = 0) = true:=decide_eq_true hlen
  simp [-decide_eq_true_eq,Tryz.f21,hg,hfr,htil,hseq,hreal,hmono,hbd,he,hlen',ht17,List.drop_append]
  exact List.length_eq_zero_iff.1 hlen
 ·have hlen':¬ (it.rc.fields.l.length:Int) = 0:=by omega
  simp [Tryz.f21,hg,hfr,htil,hseq,hreal,hmono,hbd,hlen,he,ht17,List.drop_append]
set_option maxHeartbeats 4000000 in
theorem rright_recX [TxtC] (it:It) (hi:it.Ok) (hg:it.gap = false) (hb:∀ p∈it.rc.fields.l,p.name.length≤9223372036854775807) (hn:it.rc.fields.l.length < 1000000):call cx 21 [.agg (Enc.cells it)] [] = some (.bool (recOk it),[]):=by
 refine call_run Tryz.func21 rfl ⟨rfl,rfl⟩ ?_
 have hsq:=hi.rc.seq
 unfold isU64 at hsq
 obtain ⟨R,hR0⟩:∃ R,R = (decide (it.fr = 0) && decide (it.til = 0) && decide (it.rc.seq≠0) && decide (1≤it.rc.fields.l.length) && decide (it.rc.fields.l.length≤16)):=⟨_,rfl⟩
 have hrec:recOk it = (R && it.rc.fields.l.all prOk):=by unfold recOk;rw [hR0]
 rw [hrec]
 have ht17:List.take 17 (ofBytes it.rc.boot.l ++ [(.vsl it.rc.fields.nil (encs it.rc.fields.l) it.rc.fields.l.length)]) = ofBytes it.rc.boot.l ++ [(.vsl it.rc.fields.nil (encs it.rc.fields.l) it.rc.fields.l.length)]:=List.take_of_length_le (by simp)
 obtain ⟨r,hr⟩:∃ r,(R && it.rc.fields.l.all prOk) = r:=⟨_,rfl⟩
 rw [hr]
 obtain ⟨cit,hcit⟩:∃ l,l = Enc.cells it:=⟨_,rfl⟩
 simp [Tryz.f21,hg,ht17]
 refine Run.loopThen (fun (k:Nat) e H'=>k≤it.rc.fields.l.length∧(R && (it.rc.fields.l.drop k).all prOk) = r∧look e 1 = some (.optr 0 39 0)∧look e 3 = some (.optr 1 20 0)∧look e 4 = some (.int .i64 k)∧H' = [some (Enc.cells it),some (.int .u64 it.rc.seq :: .int .u64 it.rc.real :: .int .u64 it.rc.mono :: (ofBytes it.rc.boot.l ++ [(.vsl it.rc.fields.nil (encs it.rc.fields.l) it.rc.fields.l.length)]))]) (fun k=>it.rc.fields.l.length - k) 0 ?_ ?_
 ·simpa using hr
 rintro k e H' ⟨hk,hR,k1,k3,k4,rfl⟩
 by_cases hlt:k < it.rc.fields.l.length
 ·have hlt':(k:Int) < (it.rc.fields.l.length:Int):=by omega
  have hw:IntKind.i64.wrap ((k:Int)+1) = ((k+1:Nat):Int):=by rw [wrap_i64] <;> omega
  rw [List.drop_eq_getElem_cons hlt,List.all_cons] at hR
  have hf:=rright1_evX it.rc.fields.l[k] (hb _ (List.getElem_mem hlt))
  have hnn:=Sl.nn hlt
  cases hp:prOk it.rc.fields.l[k] with
  | true =>
   rw [hp] at hf
   rw [hp,Bool.true_and] at hR
   simp [k1,k3,k4,hlt,hlt',hw,hnn,hf]
   exact ⟨k+1,by omega,by omega,by simpa using hR,by omega⟩
  | false =>
   rw [hp] at hf
   rw [hp,Bool.false_and,Bool.and_false] at hR
   subst hR
   simp [k1,k3,k4,hlt,hlt',hnn,hf]
 ·have hlt':¬ (k:Int) < (it.rc.fields.l.length:Int):=by omega
  rw [List.drop_eq_nil_of_le (by omega)] at hR
  have hr2:r = R:=by rw [← hR];simp
  subst hr2
  rw [hR0]
  by_cases hfr:it.fr = 0
  ·by_cases htil:it.til = 0
   ·by_cases hseq:it.rc.seq = 0
    ·simp [k1,k3,k4,hlt',hfr,htil,hseq]
    ·have hs1:1≤it.rc.seq:=by omega
     by_cases h1:1≤it.rc.fields.l.length
     ·have h1':(1:Int)≤(it.rc.fields.l.length:Int):=by omega
      by_cases h2:it.rc.fields.l.length≤16
      ·have h2':(it.rc.fields.l.length:Int)≤16:=by omega
       simp [-decide_eq_true_eq,k1,k3,k4,hlt',hfr,htil,hseq,hs1,h1',h2',decide_eq_true h1,decide_eq_true h2]
      ·have h2':¬ (it.rc.fields.l.length:Int)≤16:=by omega
       simp [-decide_eq_true_eq,k1,k3,k4,hlt',hfr,htil,hseq,hs1,h1',h2',decide_eq_true h1,decide_eq_false h2]
     ·have h1':¬ (1:Int)≤(it.rc.fields.l.length:Int):=by omega
      simp [-decide_eq_true_eq,k1,k3,k4,hlt',hfr,htil,hseq,hs1,h1',decide_eq_false h1]
   ·simp [k1,k3,k4,hlt',hfr,htil]
  ·simp [k1,k3,k4,hlt',hfr]
theorem rright_evX [TxtC] (it:It) (hi:it.Ok) (hb:∀ p∈it.rc.fields.l,p.name.length≤9223372036854775807) (hn:it.rc.fields.l.length < 1000000):call cx 21 [.agg (Enc.cells it)] [] = some (.bool (itOk it),[]):=by
 unfold itOk
 cases hg:it.gap with
 | true=>rw [if_pos rfl];exact rright_gap it hg
 | false=>rw [if_neg (by decide)];exact rright_recX it hi hg hb hn
theorem rright_ev [TxtC] (it:It) (hi:it.Ok) (hb:∀ p∈it.rc.fields.l,PrB p) (hn:it.rc.fields.l.length < 1000000):call cx 21 [.agg (Enc.cells it)] [] = some (.bool (itOk it),[]):=rright_evX it hi (fun p hp=>by have:=(hb p hp).1;omega) hn
end Go.Ev.S
namespace Go.Ev
open Go Go.Proofs Go.RowKit
section
variable {X:Cx} {ok:Nat→Prop} {w w':World} {ι:Iota} {H H':Heap}
theorem cell_same {a:Addr} {j:Nat} {v:Value} (hk:w'.heap[a.block]? = w.heap[a.block]?) (h:w.cell? (a.add j) = some v):w'.cell? (a.add j) = some v:=by
 rw [World.cell?_of_block (w:=w)]
 ·exact h
 ·rw [add_block]
  exact hk
theorem Rep.same {d:D} {v:Value} (h:Rep ok w ι H d v) (hk:∀ b,ok b→w'.heap[b]? = w.heap[b]?):Rep ok w' ι H d v:=by
 induction h with
 | bool b=>exact .bool b
 | int k n=>exact .int k n
 | str s=>exact .str s
 | nilp=>exact .nilp
 | nilf=>exact .nilf
 | nili=>exact .nili
 | raw v=>exact .raw v
 | agg hl hc h ih=>exact .agg hl hc fun j d hj=>ih j d hj
 | tup hl h ih=>exact .tup hl fun j d hj=>ih j d hj
 | vptr a f ha hc hr h ih=>exact .vptr a f ha hc (fun j d hj=>cell_same (hk _ (ha d (mem_of_get? hj))) (hr j d hj)) fun j d hj=>ih j d hj
 | optr a hi h=>exact .optr a hi h
 | vnil=>exact .vnil
 | vsl a f ha hc hr h hlc ih=>exact .vsl a f ha hc (fun j d hj=>cell_same (hk _ (ha d (mem_of_get? hj))) (hr j d hj)) (fun j d hj=>ih j d hj) hlc
 | osl a hi h hlc=>exact .osl a hi h hlc
 | fn hl h ih=>exact .fn hl fun j d hj=>ih j d hj
 | iface h ih=>exact .iface ih
theorem sim_same (hs:Sim X ok w ι H) (hsz:w.heap.size≤w'.heap.size) (hk:∀ b,ok b→w'.heap[b]? = w.heap[b]?) (hn:∀ i ds b s,hget H i = some ds→ι i = some (b,s)→w'.heap[b]? = w.heap[b]?):Sim X ok w' ι H:=by
 refine ⟨fun b h=>Nat.lt_of_lt_of_le (hs.okS b h) hsz,fun g cs hg=>(hs.glob g cs hg).same hk,hs.inj,fun i ds hd=>?_⟩
 obtain ⟨b,arr,e,fr,q1,q2,q3,q4,q5,q6,q7,q8⟩:=hs.blk i ds hd
 exact ⟨b,arr,e,fr,q1,q2,by rw [hn i ds b _ hd q1];exact q3,q4,q5,q6,q7,fun j d hj=>(q8 j d hj).same hk⟩
theorem env_same {e:Env} {ts:Array Value} (he:EnvRep ok w ι H e ts) (hk:∀ b,ok b→w'.heap[b]? = w.heap[b]?):EnvRep ok w' ι H e ts:=fun t d ht=>⟨(he t d ht).1,(he t d ht).2.same hk⟩
theorem evOps_app {F:CallF} (hF:SoundF X F) {nt:Nat} {drw:Bool} {ops:Array Oper} {Q:Exit→Act→World→Prop} {r:List Oper}:∀ {l:List Oper} {e e':Env} {H H':Heap} {ok:Nat→Prop} {w:World} {ι:Iota} {a:Act},evOps X F nt drw ops l e H = some (e',H') →
  Sim X ok w ι H→EnvRep ok w ι H e a.tmps→nt≤a.tmps.size→(∀ a' w',Out X H.length ok w ι H a e' H' a' w'→wpList X.P ops Q r a' w')→wpList X.P ops Q (l ++ r) a w
 | [],e,e',H,H',ok,w,ι,a,h,hs,he,hn,hQ=>by
  simp only [evOps,Option.some.injEq,Prod.mk.injEq] at h
  obtain ⟨rfl,rfl⟩:=h
  exact hQ a w ⟨rfl,rfl,ι,ok,hs,he,.refl _ (Nat.le_refl _)⟩
 | o :: l,e,e',H,H',ok,w,ι,a,h,hs,he,hn,hQ=>by
  simp only [evOps] at h
  split at h
  ·rename_i hdst hg
   split at h
   ·rename_i d H1 ho
    have hw:=wanted_of_guard he hg
    simp only [List.cons_append,wpList,hw,if_true]
    refine .inl ?_
    unfold Oper.wp
    refine Goes.upon ((opW_goes hF hs he ho).mono fun v w1 hp=>?_)
    obtain ⟨ι1,ok1,k1,k2,k3⟩:=hp
    obtain ⟨s1,s2⟩:=put_size a o.dst v
    refine evOps_app hF h k1 (put_env (he.evol' hs k3) k2 hn hdst) (by omega) fun a2 w2 hout=>hQ a2 w2 ?_
    obtain ⟨t1,t2,ι2,ok2,u1,u2,u3⟩:=hout
    exact ⟨by omega,by rw [t2,s2],ι2,ok2,u1,u2,k3.trans (u3.mono k3.nle.2)⟩
   ·cases h
  ·rename_i hdst hg
   have hw:=wanted_of_guard he hg
   simp only [List.cons_append,wpList,hw,Bool.false_eq_true,if_false]
   obtain ⟨s1,s2⟩:=put_size a o.dst undef
   refine evOps_app hF h hs (put_env he undef_rep hn hdst) (by omega) fun a2 w2 hout=>hQ a2 w2 ?_
   obtain ⟨t1,t2,rest⟩:=hout
   exact ⟨by omega,by rw [t2,s2],rest⟩
  ·cases h
theorem wp_callOp {P:Program} {ops:Array Oper} {Q:Exit→Act→World→Prop} {r:List Oper} {o:Oper} {c:Call} {f:Nat} {a:Act} (hg:o.guard = none) (ho:o.op = .call c) (hc:c.callee = .value (.func f))
  (h:Goes P (callFunc f (c.args.toList.map a.eval).toArray) w fun v w1=>wpList P ops Q r (a.put o.dst v) w1):wpList P ops Q (o :: r) a w:=by
 have hw:Region.wanted o (yielded ops a.tmps) = true:=by unfold Region.wanted;rw [hg]
 simp only [wpList,hw,if_true]
 refine .inl ?_
 unfold Oper.wp
 have e:execOp a.eval o = callFunc f (c.args.toList.map a.eval).toArray:=by
  simp only [execOp,ho,resolve,hc,Act.eval,Deferred.ofValue]
  simp only [pure_bind,invoke]
  congr 1
  apply Array.ext'
  simp
 rw [e]
 exact Goes.upon h
theorem code_sound (hG:Good X) {f nt n0:Nat} {c:Code} {e e':Env} {ex:Ex} {a:Act} (h:code X f nt n0 c e H = some (ex,e',H')) (hok:okCode X f c = true) (hn:n0≤H.length) (hs:Sim X ok w ι H) (he:EnvRep ok w ι H e a.tmps) (ht:nt≤a.tmps.size) :
  c.wp X.P (CQ X n0 ok w ι H a ex e' H') a w:=by
 obtain ⟨n,hn'⟩:=code_some.1 h
 exact (sound hG n).2 f nt n0 c e e' H H' ex ok w ι a hn' hok hn hs he ht
end
end Go.Ev
namespace Go.Ev
open Go Go.Proofs Go.RowKit Go.Shelf
section
variable {P:Program} {ρ:Ren}
def FreshAt (w:World) (v v':Value):Prop:= ∀ k,v'.ownBlock = some k→v.ownBlock = some k∨w.heap.size≤k
theorem append_fresh (w:World) (base:Nat) (t u ty e:TypeId) (i:TypeInfo) (ht:P.underlying t = some (.slice e)) (hu:P.underlying u = some .string) (hi:P.info? e = some i) (hz:i.zero = some (.int .u8 0))
  (hsize:i.size = 1) (hby:i.bytes = 1) (v:Value) (n:Nat) (xs:List Value) (hown:w.ownsRowF base e 1 v n xs) (s:ByteArray)
  (h63:n+s.size≤maxLen) (hbytes:n+s.size≤140737488355328) (hbase:base≤w.heap.size) :
  ∃ v' w',(Builtin.append_ #[t,u] ty #[v,.string s]).run P w = .ok v' w'∧w'.ownsRowF base e 1 v' (n+s.size) (xs ++ Lib.strCells s)∧w.grownBy w' v.ownBlock∧FreshAt w v v':=by
 obtain ⟨v',w',h1,h2,h3,-⟩:=Lib.run_append_own_stringF (P:=P) w base t u ty e i ht hu hi hz hsize hby v n xs hown s h63 hbytes hbase
 refine ⟨v',w',h1,h2,h3,?_⟩
 rcases hown.2 with ⟨rfl,rfl⟩ | ⟨g,cap,cur,fz,rfl,hbg,hg,hfz,hnc,hcm,hcs,htake⟩
 ·obtain ⟨v1,w1,q1,q2,-,-⟩:=Lib.run_append_own_stringF (P:=P) w w.heap.size t u ty e i ht hu hi hz hsize hby (.slice none 0 0) 0 xs ⟨hown.1,.inl ⟨rfl,rfl⟩⟩ s h63 hbytes (Nat.le_refl _)
  rw [h1] at q1
  injection q1 with e1 e2
  subst e1;subst e2
  intro k hk
  rcases q2.2 with ⟨rfl,_⟩ | ⟨g,cap,cur,fz,rfl,hbg,_⟩
  ·simp [Value.ownBlock] at hk
  ·simp only [Value.ownBlock,Option.some.injEq] at hk
   exact .inr (by omega)
 ·have hxl:xs.length = n:=by simpa using hown.1
  by_cases hroom:n+s.size≤cap
  ·have hcs':cur.size = cap:=by simpa using hcs
   have hr:=Lib.run_append_room_stringF (P:=P) w t u ty e i ht hu hi hsize g n cap cur fz hg (by simpa using hfz) s hroom (by omega)
   rw [h1] at hr
   injection hr with e1 e2
   subst e1
   intro k hk
   exact .inl hk
  ·have holds:∀ j u,xs[j]? = some u→w.cell? ((⟨g,0,none⟩:Addr).add j) = some u:=hown.cells (g:=g) rfl
   have hr:=Lib.run_append_grow_string (P:=P) w t u ty e i (.int .u8 0) ht hu hi hz ⟨g,0,none⟩ n cap xs (by rw [hsize];simpa using hxl) holds s (by omega) (by simp only [maxLen] at h63;omega) (by rw [hby];exact growslice_fits (by omega) (by omega))
   rw [h1] at hr
   injection hr with e1 e2
   subst e1
   intro k hk
   simp only [Value.ownBlock,Option.some.injEq] at hk
   exact .inr (by omega)
theorem wpList_append_x {ops:Array Oper} {rest:List Oper} {o:Oper} {a:Act} {Q:Exit→Act→World→Prop} {w:World} (hgd:o.guard = none) (sl x:Operand) (t u:TypeId)
  (ho:o.op = .call { callee:=.builtin .append,args:= #[sl,x],argTypes:= #[t,u] })
  (base:Nat) (e:TypeId) (i:TypeInfo) (ht:P.underlying t = some (.slice e)) (hu:P.underlying u = some .string) (hi:P.info? e = some i) (hz:i.zero = some (.int .u8 0))
  (hsize:i.size = 1) (hby:i.bytes = 1)
  (v:Value) (n:Nat) (xs:List Value) (hs:a.eval sl = v) (hown:w.ownsRowF base e 1 v n xs) (s:ByteArray) (hx:a.eval x = .string s)
  (h63:n+s.size≤maxLen) (hbytes:n+s.size≤140737488355328) (hbase:base≤w.heap.size)
  (h:∀ v' w',w'.ownsRowF base e 1 v' (n+s.size) (xs ++ Lib.strCells s)→w.grownBy w' v.ownBlock→FreshAt w v v'→wpList P ops Q rest (a.put o.dst v') w'):wpList P ops Q (o :: rest) a w:=by
 refine wpList_plain hgd fun K hK=>?_
 obtain ⟨v',w',hr,h2,h3,h4⟩:=append_fresh (P:=P) w base t u o.type e i ht hu hi hz hsize hby v n xs hown s h63 hbytes hbase
 unfold Oper.wp execOp
 simp only [ho,resolve,invoke,builtin,Sem.run_bind,Sem.run_pure,Result.andThen_ok,List.map_toArray,List.map_cons,List.map_nil,hs,hx,hr]
 exact hK _ _ (h v' w' h2 h3 h4)
theorem copyCheck_x (L:Lays.n240 P ρ) (X:Builder.X72 P ρ) (B b:Nat) (bs:List Value) (w:World) (h:Lib.IsBuilderF (ρ.t 72) (ρ.t 5) B b bs w) :
  Calls P (ρ.f 240) #[.pointer (some ⟨b,0,none⟩)] w fun e w'=>e = .returned (.tuple #[])∧(Lib.BuilderAtF (ρ.t 72) (ρ.t 5) B b (.pointer (some ⟨b,0,none⟩)) bs w'∧Below B w w'∧w'.heap.size = w.heap.size∧(∀ k,k≠b→w'.heap[k]? = w.heap[k]?)∧w'.cell? ⟨b,1,none⟩ = w.cell? ⟨b,1,none⟩):=by
 rcases h with h | h
 ·refine (Any.Builder_copyCheck_fresh L X b w h.cell0 h.shape h.frozen0).mono ?_
  rintro e w' ⟨rfl,rfl⟩
  refine ⟨rfl,h.used _,(Below.refl B w).setCell (p:=⟨b,0,none⟩) h.1 _,by simp [World.setCell],fun k hk=>Below.heap_setCell _ _ _ _ (fun e=>hk e),?_⟩
  obtain ⟨_,v,hb,_⟩:=h
  simp [World.cell?,World.setCell,Array.getElem?_modify,hb]
 ·refine (Any.Builder_copyCheck_used L X b w h.cell0).mono ?_
  rintro e w' ⟨rfl,rfl⟩
  exact ⟨rfl,h,Below.refl B _,rfl,fun _ _=>rfl,rfl⟩
set_option maxHeartbeats 2000000 in
set_option maxRecDepth 100000 in
theorem writeString_x (L:Lays.n166 P ρ) (X:Builder.Extra P ρ) (B b:Nat) (bs:List Value) (s:ByteArray) (w:World) (h:Lib.IsBuilderF (ρ.t 72) (ρ.t 5) B b bs w) (hlen:bs.length+s.size≤140737488355328) (hBw:B≤w.heap.size) :
  Calls P (ρ.f 166) #[.pointer (some ⟨b,0,none⟩),.string s] w fun e w'=>e = .returned (.tuple #[.int .i64 s.size,.nilIface])∧(Lib.BuilderAtF (ρ.t 72) (ρ.t 5) B b (.pointer (some ⟨b,0,none⟩)) (bs ++ Lib.strCells s) w'∧Below B w w' ∧
   (∀ k,k < w.heap.size→k≠b→(∀ v,w.cell? ⟨b,1,none⟩ = some v→v.ownBlock≠some k)→w'.heap[k]? = w.heap[k]?) ∧
   ∀ v v',w.cell? ⟨b,1,none⟩ = some v→w'.cell? ⟨b,1,none⟩ = some v'→FreshAt w v v'):=by
 obtain ⟨i0,hi,hz0,hz1,hz2⟩:=info_parts X.infoByte
 have mixed:=L.mixed
 have t72:=L.t72;have a72:=L.a72;have z72:=L.z72;have v72:=L.v72;have u72:=run_underlying L.t72
 have t70:=L.t70;have a70:=L.a70;have z70:=L.z70;have v70:=L.v70;have u70:=run_underlying L.t70
 have t37:=L.t37;have a37:=L.a37;have z37:=L.z37;have v37:=L.v37;have u37:=run_underlying L.t37
 have t3:=L.t3;have a3:=L.a3;have z3:=L.z3;have v3:=L.v3;have u3:=run_underlying L.t3
 have t9:=L.t9;have a9:=L.a9;have z9:=L.z9;have v9:=L.v9;have u9:=run_underlying L.t9
 have t4:=L.t4;have a4:=L.a4;have z4:=L.z4;have v4:=L.v4;have u4:=run_underlying L.t4
 have t164:=L.t164;have a164:=L.a164;have z164:=L.z164;have v164:=L.v164;have u164:=run_underlying L.t164
 have t5:=X.t5;have a5:=X.a5;have z5:=X.z5;have v5:=X.v5;have u5:=run_underlying X.t5
 have e240:∀ args w,(callFunc (ρ.f 240) args).run P w = .ok (.enter (ρ.f 240) args) w:=enters_of L.f240 (by kernel_rfl) rfl
 go_enter L.f166,Body.n166_ntmps ρ
 go_wp2_with (go_at_fn (ρ.f 240);refine (copyCheck_x { L with } X.toX72 B b bs _ h).mono ?_)
 rintro e w1 ⟨rfl,h1,hb1,hz1',hk1,hc1⟩
 obtain ⟨hB,v,hbk,hown,hne⟩:=h1
 have c0:w1.cell? ⟨b,0,none⟩ = some (.pointer (some ⟨b,0,none⟩)):=by rw [Lib.cell_of_heap hbk];rfl
 have c1:w1.cell? ⟨b,1,none⟩ = some v:=by rw [Lib.cell_of_heap hbk];rfl
 have c1':=hc1.symm.trans c1
 clear hc1
 go_wp2_with (at_builtin;refine wpList_append_x rfl _ _ (ρ.t 37) (ρ.t 9) rfl B (ρ.t 5) i0 L.t37 L.t9 hi hz0 hz1 hz2 _ _ _ rfl hown s rfl ?c3 ?c4 ?c5 ?_)
 case c3=>unfold maxLen;omega
 case c4=>omega
 case c5=>have:=hb1.size;omega
 intro v' w2 hown' hgrow hfresh
 have hlt:b < w1.heap.size:=by
  rcases Nat.lt_or_ge b w1.heap.size with h' | h'
  ·exact h'
  ·simp [Array.getElem?_eq_none h'] at hbk
 have hb2:w2.heap[b]? = some (.cells #[.pointer (some ⟨b,0,none⟩),v] (ρ.t 72) (0,0)):=by
  rw [hgrow.block b hlt (fun e=>hne e.symm)]
  exact hbk
 have d0:w2.cell? ⟨b,0,none⟩ = some (.pointer (some ⟨b,0,none⟩)):=by rw [Lib.cell_of_heap hb2];rfl
 have d1:w2.cell? ⟨b,1,none⟩ = some v:=by rw [Lib.cell_of_heap hb2];rfl
 have f1:w2.frozen? ⟨b,1,none⟩ = false:=Lib.frozen_of_heap hb2 1
 obtain ⟨ao,n',cap,rfl⟩:∃ ao n' cap,v' = .slice ao n' cap:=by
  rcases hown'.2 with ⟨hv,_⟩ | ⟨g,cap,cur,fz,hv,_⟩
  ·exact ⟨_,_,_,hv⟩
  ·exact ⟨_,_,_,hv⟩
 go_wp2
 go_ret2
 refine ⟨rfl,?_,?_,?_,?_⟩
 ·exact Lib.BuilderAtF.put (T:=(ρ.t 72)) (e:=(ρ.t 5)) hB hb2 (bs':=bs ++ Lib.strCells s) (by simpa [Lib.strCells_length] using hown') X.neB5
 ·exact (hb1.grown hgrow (by have:=hb1.size;omega) (fun k hk=>(hown.lt k hk).1)).setCell (p:=⟨b,1,none⟩) hB _
 ·intro k hk hkb hkv
  rw [Below.heap_setCell _ _ _ _ (fun e=>hkb e),hgrow.block k (by omega) (fun e=>hkv v c1' e.symm),hk1 k hkb]
 ·intro v0 v1 h0 h1 k hk
  have e0:v0 = v:=Option.some.inj (h0.symm.trans c1')
  subst e0
  have e1:(w2.setCell ⟨b,1,none⟩ (.slice ao n' cap)).cell? ⟨b,1,none⟩ = some (.slice ao n' cap):=by
   simp [World.cell?,World.setCell,Array.getElem?_modify,hb2]
  have e2:v1 = .slice ao n' cap:=Option.some.inj (h1.symm.trans e1)
  subst e2
  have:=hfresh k hk
  rw [hz1'] at this
  exact this
end
end Go.Ev
namespace Go.Ev
open Go Go.Proofs Go.RowKit Go.Shelf
def Cov (w:World) (b k:Nat):Prop:=k = b∨∃ v,w.cell? ⟨b,1,none⟩ = some v∧v.ownBlock = some k
section
variable {T e:TypeId} {B b:Nat} {bs:List Value} {w w':World}
theorem bld_open (h:Lib.IsBuilderF T e B b bs w):∃ p v,w.heap[b]? = some (.cells #[p,v] T (0,0))∧w.ownsRowF B e 1 v bs.length bs∧v.ownBlock≠some b∧w.cell? ⟨b,1,none⟩ = some v∧B≤b:=by
 rcases h with ⟨hB,v,hb,hown,hne⟩ | ⟨hB,v,hb,hown,hne⟩
 ·exact ⟨_,v,hb,hown,hne,by rw [Lib.cell_of_heap hb];rfl,hB⟩
 ·exact ⟨_,v,hb,hown,hne,by rw [Lib.cell_of_heap hb];rfl,hB⟩
theorem lt_of_heap {k:Nat} {o:Obj} (h:w.heap[k]? = some o):k < w.heap.size:=by
 rcases Nat.lt_or_ge k w.heap.size with h' | h'
 ·exact h'
 ·rw [Array.getElem?_eq_none h'] at h;cases h
theorem cov_lt (h:Lib.IsBuilderF T e B b bs w) {k:Nat} (hk:Cov w b k):k < w.heap.size∧B≤k:=by
 obtain ⟨p,v,h1,h2,h3,h4,h5⟩:=bld_open h
 rcases hk with rfl | ⟨v',hv,hk⟩
 ·exact ⟨lt_of_heap h1,h5⟩
 ·obtain rfl:=Option.some.inj (hv.symm.trans h4)
  rcases h2.2 with ⟨rfl,_⟩ | ⟨g,cap,cur,fz,rfl,hbg,hg,_⟩
  ·simp [Value.ownBlock] at hk
  ·simp only [Value.ownBlock,Option.some.injEq] at hk
   subst hk
   exact ⟨lt_of_heap hg,hbg⟩
theorem owns_same {v:Value} {n:Nat} {xs:List Value} (h:w.ownsRowF B e 1 v n xs) (hk:∀ k,v.ownBlock = some k→w'.heap[k]? = w.heap[k]?):w'.ownsRowF B e 1 v n xs:=by
 refine ⟨h.1,?_⟩
 rcases h.2 with h | ⟨g,cap,cur,fz,rfl,hbg,hg,rest⟩
 ·exact .inl h
 ·exact .inr ⟨g,cap,cur,fz,rfl,hbg,by rw [hk g rfl];exact hg,rest⟩
theorem bld_same (h:Lib.IsBuilderF T e B b bs w) (hk:∀ k,Cov w b k→w'.heap[k]? = w.heap[k]?):Lib.IsBuilderF T e B b bs w'∧w'.cell? ⟨b,1,none⟩ = w.cell? ⟨b,1,none⟩:=by
 have hb:=hk b (.inl rfl)
 have hc:w'.cell? ⟨b,1,none⟩ = w.cell? ⟨b,1,none⟩:=World.cell?_of_block hb
 refine ⟨?_,hc⟩
 have hrow:∀ v,w.cell? ⟨b,1,none⟩ = some v→∀ k,v.ownBlock = some k→w'.heap[k]? = w.heap[k]?:=fun v hv k hvk=>hk k (.inr ⟨v,hv,hvk⟩)
 rcases h with ⟨hB,v,h1,hown,hne⟩ | ⟨hB,v,h1,hown,hne⟩
 ·exact .inl ⟨hB,v,by rw [hb];exact h1,owns_same hown (hrow v (by rw [Lib.cell_of_heap h1];rfl)),hne⟩
 ·exact .inr ⟨hB,v,by rw [hb];exact h1,owns_same hown (hrow v (by rw [Lib.cell_of_heap h1];rfl)),hne⟩
end
structure HSt (X:Cx) (ok0:Nat→Prop) (w0:World) (T e:TypeId) (b:Nat) (l:List UInt8) (ev:Env) (H:Heap) (a:Act) (w:World):Prop where
 st:∃ ok ι,Sim X ok w ι H∧EnvRep ok w ι H ev a.tmps∧Evol 0 ok0 w0 iota0 [] ok w ι H∧∀ k,Cov w b k→¬ ok k∧∀ i ds s,hget H i = some ds→ι i≠some (k,s)
 lo:w0.heap.size≤b
 bl:Lib.IsBuilderF T e b b (Lib.byteCells l) w
section
variable {X:Cx} {ok0:Nat→Prop} {w0:World} {T e:TypeId} {b:Nat} {l:List UInt8} {ev ev':Env} {H H':Heap} {a:Act} {w:World}
theorem hst_out {ok:Nat→Prop} {ι:Iota} (_:Sim X ok w ι H) (hev:Evol 0 ok0 w0 iota0 [] ok w ι H) (hap:∀ k,Cov w b k→¬ ok k∧∀ i ds s,hget H i = some ds→ι i≠some (k,s))
  (hlo:w0.heap.size≤b) (hbl:Lib.IsBuilderF T e b b (Lib.byteCells l) w) {n:Nat} {a':Act} {w':World} (ho:Out X n ok w ι H a ev' H' a' w'):HSt X ok0 w0 T e b l ev' H' a' w':=by
 obtain ⟨t1,t2,ι',ok',s1,s2,s3⟩:=ho
 have hk:∀ k,Cov w b k→w'.heap[k]? = w.heap[k]?:=fun k hc=>s3.frame k (cov_lt hbl hc).1 (hap k hc).2
 obtain ⟨hbl',hc'⟩:=bld_same hbl hk
 refine ⟨⟨ok',ι',s1,s2,hev.trans (s3.mono (Nat.zero_le _)),?_⟩,hlo,hbl'⟩
 intro k hc
 have hcw:Cov w b k:=by
  rcases hc with rfl | ⟨v,hv,hvk⟩
  ·exact .inl rfl
  ·exact .inr ⟨v,by rw [← hc'];exact hv,hvk⟩
 have hlt:=(cov_lt hbl hcw).1
 obtain ⟨h1,h2⟩:=hap k hcw
 refine ⟨fun hok=>?_,fun i ds s hd he=>?_⟩
 ·rcases s3.okN k hok hlt with h | ⟨i,ds,s,hd,he⟩
  ·exact h1 h
  ·exact h2 i ds s hd he
 ·obtain ⟨j,ds',s',hd',he'⟩:=s3.own i ds k s hd he hlt
  exact h2 j ds' s' hd' he'
theorem HSt.code (hG:Good X) (h:HSt X ok0 w0 T e b l ev H a w) {f nt:Nat} {c:Code} {ex:Ex} (hc:Ev.code X f nt 0 c ev H = some (ex,ev',H')) (hok:okCode X f c = true) (ht:nt≤a.tmps.size) {Q:Exit→Act→World→Prop}
  (hQ:∀ a' w',a'.tmps.size = a.tmps.size→a'.defers = a.defers→HSt X ok0 w0 T e b l ev' H' a' w'→Q (exOf ex) a' w'):c.wp X.P Q a w:=by
 obtain ⟨ok,ι,hs,he,hev,hap⟩:=h.st
 refine wp_mono (code_sound hG hc hok (Nat.zero_le _) hs he ht) ?_
 rintro x a' w' ⟨rfl,hout⟩
 exact hQ a' w' hout.1 hout.2.1 (hst_out hs hev hap h.lo h.bl hout)
theorem HSt.ops (hG:Good X) (h:HSt X ok0 w0 T e b l ev H a w) {nt:Nat} {ops:Array Oper} {l1 l2:List Oper} (hc:evOps X (call X) nt false ops l1 ev H = some (ev',H')) (ht:nt≤a.tmps.size) {Q:Exit→Act→World→Prop}
  (hQ:∀ a' w',a'.tmps.size = a.tmps.size→a'.defers = a.defers→HSt X ok0 w0 T e b l ev' H' a' w'→wpList X.P ops Q l2 a' w'):wpList X.P ops Q (l1 ++ l2) a w:=by
 obtain ⟨ok,ι,hs,he,hev,hap⟩:=h.st
 exact evOps_app (call_sound hG) hc hs he ht fun a' w' hout=>hQ a' w' hout.1 hout.2.1 (hst_out hs hev hap h.lo h.bl hout)
theorem HSt.slot (h:HSt X ok0 w0 T e b l ev H a w) {t:Nat} {v:Value} (ht:look ev t = some (.raw v)):a.tmps.getD t undef = v:=by
 obtain ⟨ok,ι,hs,he,hev,hap⟩:=h.st
 have:=(he t _ ht).2
 generalize a.tmps.getD t undef = x at this ⊢
 cases this
 rfl
theorem HSt.slotS (h:HSt X ok0 w0 T e b l ev H a w) {t:Nat} {s:List UInt8} (ht:look ev t = some (.str s)):a.tmps.getD t undef = .string ⟨s.toArray⟩:=by
 obtain ⟨ok,ι,hs,he,hev,hap⟩:=h.st
 have:=(he t _ ht).2
 generalize a.tmps.getD t undef = x at this ⊢
 cases this
 rfl
end
section
variable {X:Cx} {ρ:Ren} {ok0:Nat→Prop} {w0:World} {b:Nat} {l:List UInt8} {ev:Env} {H:Heap} {a:Act} {w:World}
theorem HSt.write (L:Lays.n166 X.P ρ) (E:Builder.Extra X.P ρ) (h:HSt X ok0 w0 (ρ.t 72) (ρ.t 5) b l ev H a w) (s:List UInt8) (hl:l.length+s.length≤140737488355328) :
  Goes X.P (callFunc (ρ.f 166) #[.pointer (some ⟨b,0,none⟩),.string ⟨s.toArray⟩]) w fun v w'=>HSt X ok0 w0 (ρ.t 72) (ρ.t 5) b (l ++ s) ev H a w'∧Rep (fun _=>False) w' iota0 [] (.tup [.int .i64 s.length,.nili]) v:=by
 obtain ⟨ok,ι,hs,he,hev,hap⟩:=h.st
 have hen:∀ args w,(callFunc (ρ.f 166) args).run X.P w = .ok (.enter (ρ.f 166) args) w:=Go.Proofs.enters_of L.f166 (by kernel_rfl) rfl
 have hsz:(⟨s.toArray⟩:ByteArray).size = s.length:=ba_size s
 have hbs:=cov_lt h.bl (.inl rfl)
 unfold Goes
 rw [hen]
 refine (writeString_x L E b b _ ⟨s.toArray⟩ w h.bl (by rw [Lib.byteCells_length,hsz];exact hl) (by omega)).mono ?_
 rintro e w' ⟨rfl,hbl',hbel,hx,hfr⟩
 have hun:∀ k,k < w.heap.size→¬ Cov w b k→w'.heap[k]? = w.heap[k]?:=fun k hk hc=>hx k hk (fun e=>hc (.inl e)) (fun v hv e=>hc (.inr ⟨v,hv,e⟩))
 have hok:∀ k,ok k→w'.heap[k]? = w.heap[k]?:=fun k hk=>hun k (hs.okS k hk) fun hc=>(hap k hc).1 hk
 have hnm:∀ i ds c s,hget H i = some ds→ι i = some (c,s)→w'.heap[c]? = w.heap[c]?:=fun i ds c s hd hi=>hun c (hs.lt hd hi) fun hc=>(hap c hc).2 i ds s hd hi
 have hcat:Lib.byteCells l ++ Lib.strCells ⟨s.toArray⟩ = Lib.byteCells (l ++ s):=by
  rw [Lib.strCells_eq,← Lib.byteCells_append]
 rw [hcat] at hbl'
 refine ⟨_,rfl,⟨⟨ok,ι,sim_same hs hbel.size hok hnm,env_same he hok,?_,?_⟩,h.lo,.inr hbl'⟩,?_⟩
 ·refine ⟨hbel.os.trans hev.os,hbel.tape.trans hev.tape,hbel.output.trans hev.output,Nat.le_trans hev.size hbel.size,fun k hk hno=>?_,hev.okU,hev.okN,hev.nle,hev.heap,hev.own⟩
  rw [hbel.block k (Nat.lt_of_lt_of_le hk h.lo)]
  exact hev.frame k hk hno
 ·intro k hc
  rcases hc with rfl | ⟨v',hv',hk⟩
  ·exact hap _ (.inl rfl)
  ·obtain ⟨p,v,q1,q2,q3,q4,q5⟩:=bld_open h.bl
   rcases hfr v v' q4 hv' k hk with h1 | h1
   ·exact hap k (.inr ⟨v,q4,h1⟩)
   ·refine ⟨fun hok=>?_,fun i ds s hd hi=>?_⟩
    ·have:=hs.okS k hok
     omega
    ·have:=hs.lt hd hi
     omega
 ·refine .tup rfl fun j d hj=>?_
  match j,hj with
  | 0,hj =>
   simp at hj
   subst hj
   rw [hsz]
   exact .int .i64 _
  | 1,hj =>
   simp at hj
   subst hj
   exact .nili
  | j+2,hj=>simp at hj
end
end Go.Ev
namespace Go.Ev
open Go Go.Proofs Go.RowKit Go.Shelf
section
variable {X:Cx} {ok0:Nat→Prop} {w0:World} {T e:TypeId} {b:Nat} {l:List UInt8} {ev ev':Env} {H H':Heap} {a:Act} {w:World}
theorem run_code {f nt n0:Nat} {Q:Ex→Env→Heap→Prop} {o:Option (Ex × Env × Heap)} (h:Run X f nt n0 Q [] o):∃ ex e1 H1,o = some (ex,e1,H1)∧Q ex e1 H1:=by
 cases o with
 | none=>rw [run_none] at h;exact h.elim
 | some q =>
  obtain ⟨ex,e1,H1⟩:=q
  rw [run_nil] at h
  exact ⟨ex,e1,H1,rfl,h⟩
theorem HSt.run (hG:Good X) (h:HSt X ok0 w0 T e b l ev H a w) {f nt:Nat} {c:Code} (hok:okCode X f c = true) (ht:nt≤a.tmps.size) {K:Exit→Act→World→Prop}
  (hR:Run X f nt 0 (fun ex e1 H1=>∀ a' w',a'.tmps.size = a.tmps.size→a'.defers = a.defers→HSt X ok0 w0 T e b l e1 H1 a' w'→K (exOf ex) a' w') [] (Ev.code X f nt 0 (stripC c) ev H)):c.wp X.P K a w:=by
 obtain ⟨ex,e1,H1,h1,h2⟩:=run_code hR
 rw [code_strip] at h1
 exact h.code hG h1 hok ht h2
structure PSt (X:Cx) (ok0:Nat→Prop) (w0:World) (ev:Env) (H:Heap) (a:Act) (w:World):Prop where
 st:∃ ok ι,Sim X ok w ι H∧EnvRep ok w ι H ev a.tmps∧Evol 0 ok0 w0 iota0 [] ok w ι H
theorem PSt.run (hG:Good X) (h:PSt X ok0 w0 ev H a w) {f nt:Nat} {c:Code} (hok:okCode X f c = true) (ht:nt≤a.tmps.size) {K:Exit→Act→World→Prop}
  (hR:Run X f nt 0 (fun ex e1 H1=>∀ a' w',a'.tmps.size = a.tmps.size→a'.defers = a.defers→PSt X ok0 w0 e1 H1 a' w'→K (exOf ex) a' w') [] (Ev.code X f nt 0 (stripC c) ev H)):c.wp X.P K a w:=by
 obtain ⟨ex,e1,H1,h1,h2⟩:=run_code hR
 rw [code_strip] at h1
 obtain ⟨ok,ι,hs,he,hev⟩:=h.st
 refine wp_mono (code_sound hG h1 hok (Nat.zero_le _) hs he ht) ?_
 rintro x a' w' ⟨rfl,t1,t2,ι',ok',s1,s2,s3⟩
 exact h2 a' w' t1 t2 ⟨⟨ok',ι',s1,s2,hev.trans (s3.mono (Nat.zero_le _))⟩⟩
theorem PSt.make (h:PSt X ok0 w0 ev H a w) {t nt:Nat} {T e:TypeId} (_:T≠e) (ht:t < nt) (hn:nt≤a.tmps.size) :
  HSt X ok0 w0 T e w.heap.size [] ((t,.raw (.pointer (some ⟨w.heap.size,0,none⟩))) :: ev) H (a.put (some t) (.pointer (some ⟨w.heap.size,0,none⟩))) (w.alloc (.cells #[.pointer none,.slice none 0 0] T)):=by
 obtain ⟨ok,ι,hs,he,hev⟩:=h.st
 have hold:∀ k,k < w.heap.size→(w.alloc (.cells #[.pointer none,.slice none 0 0] T)).heap[k]? = w.heap[k]?:=fun k hk=>Lib.alloc_old w _ k hk
 have hsz:w.heap.size≤(w.alloc (.cells #[.pointer none,.slice none 0 0] T)).heap.size:=by simp
 have hok:∀ k,ok k→(w.alloc (.cells #[.pointer none,.slice none 0 0] T)).heap[k]? = w.heap[k]?:=fun k hk=>hold k (hs.okS k hk)
 have hfr:=Lib.IsBuilderF.of (Lib.fresh_isBuilder T e w)
 refine ⟨⟨ok,ι,sim_same hs hsz hok fun i ds c s hd hi=>hold c (hs.lt hd hi),?_,?_,?_⟩,hev.size,hfr⟩
 ·exact put_env (dst:=some t) (env_same he hok) (.raw _) hn (by simpa [dstOk] using ht)
 ·refine ⟨hev.os,hev.tape,hev.output,Nat.le_trans hev.size hsz,fun k hk hno=>?_,hev.okU,hev.okN,hev.nle,hev.heap,hev.own⟩
  rw [hold k (Nat.lt_of_lt_of_le hk hev.size)]
  exact hev.frame k hk hno
 ·intro k hc
  have hge:w.heap.size≤k:=by
   have:=cov_lt hfr hc
   exact this.2
  refine ⟨fun hk=>?_,fun i ds s hd hi=>?_⟩
  ·have:=hs.okS k hk
   omega
  ·have:=hs.lt hd hi
   omega
end
end Go.Ev
namespace Go.Proofs
open Go.Shelf
def Tryz.layW_ren:Go.Shelf.Ren:=⟨fun | 166=>62 | 240=>88 | 276=>106 | n=>n,fun | 0=>0 | 3=>3 | 4=>4 | 5=>5 | 9=>9 | 20=>20 | 37=>65 | 70=>111 | 72=>113 | 75=>118 | 80=>122 | 164=>154 | n=>n,fun n=>n⟩
theorem Tryz.layW:Lays.n166 Tryz.prog Tryz.layW_ren:={
 mixed:=by kernel_rfl
 f166:=Tryz.func62.trans (congrArg some (by kernel_rfl))
 f240:=Tryz.func88.trans (congrArg some (by kernel_rfl))
 f276:=Tryz.func106.trans (congrArg some (by kernel_rfl))
 t0:=Tryz.underlying0
 a0:=Tryz.isAgg0
 z0:=Tryz.sizeOf0
 v0:=Tryz.zeroValue0
 t3:=Tryz.underlying3
 a3:=Tryz.isAgg3
 z3:=Tryz.sizeOf3
 v3:=Tryz.zeroValue3
 t4:=Tryz.underlying4
 a4:=Tryz.isAgg4
 z4:=Tryz.sizeOf4
 v4:=Tryz.zeroValue4
 t9:=Tryz.underlying9
 a9:=Tryz.isAgg9
 z9:=Tryz.sizeOf9
 v9:=Tryz.zeroValue9
 t20:=Tryz.underlying20
 a20:=Tryz.isAgg20
 z20:=Tryz.sizeOf20
 v20:=Tryz.zeroValue20
 t37:=Tryz.underlying65
 a37:=Tryz.isAgg65
 z37:=Tryz.sizeOf65
 v37:=Tryz.zeroValue65
 t70:=Tryz.underlying111
 a70:=Tryz.isAgg111
 z70:=Tryz.sizeOf111
 v70:=Tryz.zeroValue111
 t72:=Tryz.underlying113
 a72:=Tryz.isAgg113
 z72:=Tryz.sizeOf113
 v72:=Tryz.zeroValue113
 t75:=Tryz.underlying118
 a75:=Tryz.isAgg118
 z75:=Tryz.sizeOf118
 v75:=Tryz.zeroValue118
 t164:=Tryz.underlying154
 a164:=Tryz.isAgg154
 z164:=Tryz.sizeOf154
 v164:=Tryz.zeroValue154 }
theorem Tryz.layW_X:Builder.Extra Tryz.prog Tryz.layW_ren:={
 sizeBuilder:=by kernel_rfl
 liesBuilder:=by kernel_rfl
 t5:=Tryz.underlying5
 a5:=Tryz.isAgg5
 z5:=Tryz.sizeOf5
 v5:=Tryz.zeroValue5
 infoByte:=by kernel_rfl
 cellsByte:=by kernel_rfl
 sizeByte:=by kernel_rfl
 neB5:=by decide }
end Go.Proofs
namespace Go.Ev.S
open Go Go.Proofs Go.Ev Go.RowKit
def kPlace:List UInt8:=[95,95,67,85,82,83,79,82,61]
def kReal:List UInt8:=[95,95,82,69,65,76,84,73,77,69,95,84,73,77,69,83,84,65,77,80,61]
def kMono:List UInt8:=[95,95,77,79,78,79,84,79,78,73,67,95,84,73,77,69,83,84,65,77,80,61]
def kSeq:List UInt8:=[95,95,83,69,81,78,85,77,61]
def kId:List UInt8:=[95,95,83,69,81,78,85,77,95,73,68,61]
def kBoot:List UInt8:=[95,66,79,79,84,95,73,68,61]
def sixL (it:It):List (List UInt8):=[kPlace ++ showL (cOfP it.id it.rc),kReal ++ dec it.rc.real.toNat,kMono ++ dec it.rc.mono.toNat,kSeq ++ dec it.rc.seq.toNat,kId ++ hexs it.id.l,kBoot ++ hexs it.rc.boot.l]
def headL (L:List (List UInt8)):List UInt8:=(L.map (· ++ [10])).flatten
def bodyL (F:List Pr):List UInt8:=(F.map pairL).flatten
def textR (it:It):List UInt8:=headL (sixL it) ++ bodyL it.rc.fields.l ++ [10]
def sL:Code→Code
 | .seq a _=>a
 | c=>c
def sR:Code→Code
 | .seq _ b=>b
 | c=>c
def cB:Code→Code
 | .block _ c=>c
 | .loop c=>c
 | c=>c
theorem wp_ofSeq {P:Program} {c:Code} {Q:Exit→Act→World→Prop} {a:Act} {w:World} (hc:c = .seq (sL c) (sR c)) (h:∀ K:Exit→Act→World→Prop,(∀ a w,(sR c).wp P Q a w→K .normal a w)→(∀ x a w,x≠.normal→Q x a w→K x a w)→(sL c).wp P K a w):c.wp P Q a w:=by
 rw [hc]
 refine wp_seq (h _ (fun a w h=>h) fun x a w hx hq=>?_)
 cases x <;> first | exact absurd rfl hx | exact hq
noncomputable def tx0:Code:=bodyOf Tryz.f34
noncomputable def tx1:Code:=sR tx0
noncomputable def tx2:Code:=sR tx1
noncomputable def tx3:Code:=sR tx2
noncomputable def tx4:Code:=sR tx3
noncomputable def tx5:Code:=sR tx4
set_option maxHeartbeats 4000000 in
set_option maxRecDepth 4000 in
theorem text_pre [TxtC] (hT:TxtRun) (it:It) (hg:it.gap = false) (hr:recOk it = true) (hb:∀ p∈it.rc.fields.l,PrB p) (hn:it.rc.fields.l.length < 1000000)
  (ok0:Nat→Prop) (w0:World) (a:Act) (hs:Sim cx ok0 w0 iota0 []) (he:EnvRep ok0 w0 iota0 [] (argEnv 0 [.agg (Enc.cells it)]) a.tmps) (ht:83≤a.tmps.size) {K:Exit→Act→World→Prop}
  (hK:∀ a' w' e',a'.tmps.size = a.tmps.size→a'.defers = a.defers→look e' 3 = some (.optr 1 20 0)→look e' 1 = some (.optr 0 39 0)→PSt cx ok0 w0 e' [some (Enc.cells it),some (Enc.cells it.rc)] a' w'→tx4.wp cx.P K a' w') :
  tx0.wp cx.P K a w0:=by
 have hG:=good hT
 have hp0:PSt cx ok0 w0 (argEnv 0 [.agg (Enc.cells it)]) [] a w0:=⟨⟨ok0,iota0,hs,he,.refl _ (Nat.le_refl _)⟩⟩
 have hw:=wright_ev it hb hn
 unfold itOk at hw
 rw [hg,if_neg (by decide),hr] at hw
 have ht17:List.take 17 (ofBytes it.rc.boot.l ++ [(.vsl it.rc.fields.nil (encs it.rc.fields.l) it.rc.fields.l.length)]) = ofBytes it.rc.boot.l ++ [(.vsl it.rc.fields.nil (encs it.rc.fields.l) it.rc.fields.l.length)]:=List.take_of_length_le (by simp)
 refine wp_ofSeq (c:=tx0) rfl fun K0 k0 _=>?_
 refine hp0.run hG (f:=34) (nt:=83) (by kernel_rfl) ht ?_
 simp [sL,tx0,bodyOf,Tryz.f34]
 intro a1 w1 s1 d1 h1
 refine k0 _ _ ?_
 refine wp_ofSeq (c:=tx1) rfl fun K1 k1 _=>?_
 refine h1.run hG (f:=34) (nt:=83) (by kernel_rfl) (by omega) ?_
 simp [sL,sR,tx1,tx0,bodyOf,Tryz.f34,hw]
 intro a2 w2 s2 d2 h2
 refine k1 _ _ ?_
 refine wp_ofSeq (c:=tx2) rfl fun K2 k2 _=>?_
 refine h2.run hG (f:=34) (nt:=83) (by kernel_rfl) (by omega) ?_
 simp [sL,sR,tx2,tx1,tx0,bodyOf,Tryz.f34,hg]
 intro a3 w3 s3 d3 h3
 refine k2 _ _ ?_
 refine wp_ofSeq (c:=tx3) rfl fun K3 k3 _=>?_
 refine h3.run hG (f:=34) (nt:=83) (by kernel_rfl) (by omega) ?_
 simp [sL,sR,tx3,tx2,tx1,tx0,bodyOf,Tryz.f34,ht17]
 intro a4 w4 s4 d4 h4
 exact k3 _ _ (hK a4 w4 _ (by omega) (by simp [d4,d3,d2,d1]) (by simp) (by simp) h4)
end Go.Ev.S
namespace Go.Ev
open Go Go.Proofs Go.RowKit Go.Shelf
theorem wp_allocOp {P:Program} {ops:Array Oper} {Q:Exit→Act→World→Prop} {r:List Oper} {o:Oper} {t:TypeId} {zv:Value} {a:Act} {w:World} (hg:o.guard = none) (ho:o.op = .alloc t) (hz:∀ w,(zeroValue t).run P w = .ok zv w)
  (h:wpList P ops Q r (a.put o.dst (.pointer (some ⟨w.heap.size,0,none⟩))) (w.alloc (.cells zv.cells t))):wpList P ops Q (o :: r) a w:=by
 have hw:Region.wanted o (yielded ops a.tmps) = true:=by unfold Region.wanted;rw [hg]
 simp only [wpList,hw,if_true]
 refine .inl ?_
 unfold Oper.wp
 refine Goes.upon (Goes.value (v:=.pointer (some ⟨w.heap.size,0,none⟩)) (w':=w.alloc (.cells zv.cells t)) ?_ h)
 simp [execOp,ho,Instr.alloc,hz,newVar,newRow]
section
variable {X:Cx} {ok0:Nat→Prop} {w0:World} {T e:TypeId} {b:Nat} {l:List UInt8} {ev ev':Env} {H H':Heap} {a:Act} {w:World}
theorem HSt.slotI (h:HSt X ok0 w0 T e b l ev H a w) {t:Nat} {k:IntKind} {n:Int} (ht:look ev t = some (.int k n)):a.tmps.getD t undef = .int k n:=by
 obtain ⟨ok,ι,hs,he,hev,hap⟩:=h.st
 have:=(he t _ ht).2
 generalize a.tmps.getD t undef = x at this ⊢
 cases this
 rfl
theorem HSt.put (h:HSt X ok0 w0 T e b l ev H a w) {t:Nat} {d:D} {v:Value} (hd:Rep (fun _=>False) w iota0 [] d v) (ht:t < a.tmps.size):HSt X ok0 w0 T e b l ((t,d) :: ev) H (a.put (some t) v) w:=by
 obtain ⟨ok,ι,hs,he,hev,hap⟩:=h.st
 refine ⟨⟨ok,ι,hs,?_,hev,hap⟩,h.lo,h.bl⟩
 exact put_env (nt:=a.tmps.size) (dst:=some t) he ((hd.okMono fun b hb=>hb.elim).lift) (Nat.le_refl _) (by simpa [dstOk] using ht)
end
end Go.Ev
namespace Go.Ev.S
open Go Go.Proofs Go.Ev Go.RowKit
theorem xorI_u64 (a b:Int):isU64 (xorI .u64 a b):=by
 unfold xorI isU64
 simp only [IntKind.wrap,IntKind.signed,IntKind.bits]
 simp
 omega
theorem xorP_u64:∀ (L:List (List UInt8)) (v:Int),isU64 v→isU64 (xorP L v)
 | [],v,h=>h
 | b :: l,v,h=>by rw [xorP];exact xorP_u64 l _ (xorI_u64 _ _)
theorem cOfP_ok (q:ID) (r:Rec) (h:r.Ok):CurOk (cOfP q r):=⟨h.seq,h.mono,h.real,xorP_u64 _ _ (by unfold isU64;omega)⟩
set_option maxHeartbeats 4000000 in
set_option maxRecDepth 4000 in
theorem text_make [TxtC] (_:TxtRun) (it:It) (ok0:Nat→Prop) (w0:World) (a:Act) (w:World) (e:Env) (ht:83≤a.tmps.size) (k3:look e 3 = some (.optr 1 20 0)) (k1:look e 1 = some (.optr 0 39 0))
  (h:PSt cx ok0 w0 e [some (Enc.cells it),some (Enc.cells it.rc)] a w) {K:Exit→Act→World→Prop}
  (hK:∀ a' w' e' b,a'.tmps.size = a.tmps.size→a'.defers = a.defers→look e' 3 = some (.optr 1 20 0)→look e' 1 = some (.optr 0 39 0)→look e' 4 = some (.raw (.pointer (some ⟨b,0,none⟩))) →
   HSt cx ok0 w0 113 5 b [] e' [some (Enc.cells it),some (Enc.cells it.rc)] a' w'→tx5.wp cx.P K a' w'):tx4.wp cx.P K a w:=by
 refine wp_ofSeq (c:=tx4) rfl fun K4 k4 _=>?_
 refine wp_region_list (wp_allocOp rfl rfl Tryz.zeroValue113 ?_)
 have hm:=h.make (t:=4) (nt:=83) (T:=113) (e:=5) (by decide) (by omega) ht
 exact k4 _ _ (hK _ _ _ _ (by simp [Act.put]) (by simp [Act.put]) (by simpa [look] using k3) (by simpa [look] using k1) (by simp [look]) hm)
theorem sub5 {P:Program} {Q:Exit→Act→World→Prop} {a:Act} {w:World} (h:(sL (sL tx5)).wp P (Exit.then ((sR (sL tx5)).wp P (Exit.then ((sR tx5).wp P Q) Q)) (Exit.then ((sR tx5).wp P Q) Q)) a w):tx5.wp P Q a w:=by
 have e1:tx5 = .seq (.seq (sL (sL tx5)) (sR (sL tx5))) (sR tx5):=rfl
 rw [e1]
 exact wp_seq (wp_seq h)
set_option maxHeartbeats 4000000 in
set_option maxRecDepth 4000 in
theorem text_six [TxtC] (hT:TxtRun) (it:It) (hi:it.Ok) (hb:∀ p∈it.rc.fields.l,PrB p) (hn:it.rc.fields.l.length < 1000000) (ok0:Nat→Prop) (w0:World) (a:Act) (w:World) (e:Env) (b:Nat) (ht:83≤a.tmps.size) (k3:look e 3 = some (.optr 1 20 0)) (k1:look e 1 = some (.optr 0 39 0)) (k4:look e 4 = some (.raw (.pointer (some ⟨b,0,none⟩))))
  (h:HSt cx ok0 w0 113 5 b [] e [some (Enc.cells it),some (Enc.cells it.rc)] a w) {K:Exit→Act→World→Prop}
  (hK:∀ a' w' e',a'.tmps.size = a.tmps.size→a'.defers = a.defers→look e' 3 = some (.optr 1 20 0)→look e' 4 = some (.raw (.pointer (some ⟨b,0,none⟩))) →
   look e' 59 = some (.vsl false ((sixL it).map D.str) 6)→look e' 60 = some (.int .i64 6)→look e' 61 = some (.int .i64 0) →
   HSt cx ok0 w0 113 5 b [] e' [some (Enc.cells it),some (Enc.cells it.rc)] a' w'→K .normal a' w'):(sL (sL tx5)).wp cx.P K a w:=by
 have hG:=good hT
 have hof:=cof_ev it.id it.rc hn hb
 have hok:=cOfP_ok it.id it.rc hi.rc
 have hsh:=show_ev _ hok
 have hr1:=hi.rc.real
 have hr2:=hi.rc.mono
 have hr3:=hi.rc.seq
 unfold isU64 at hr1 hr2 hr3
 have n1:=number_ev it.rc.real.toNat (by omega)
 have n2:=number_ev it.rc.mono.toNat (by omega)
 have n3:=number_ev it.rc.seq.toNat (by omega)
 have e1:((it.rc.real.toNat:Nat):Int) = it.rc.real:=by omega
 have e2:((it.rc.mono.toNat:Nat):Int) = it.rc.mono:=by omega
 have e3:((it.rc.seq.toNat:Nat):Int) = it.rc.seq:=by omega
 rw [e1] at n1
 rw [e2] at n2
 rw [e3] at n3
 have x1:=hex_ev it.id.l it.id.h
 have x2:=hex_ev it.rc.boot.l it.rc.boot.h
 have l0:=(showL_len (cOfP it.id it.rc)).2
 have l4:=hexs_len it.id.l
 have l5:=hexs_len it.rc.boot.l
 rw [it.id.h] at l4
 rw [it.rc.boot.h] at l5
 have hL:Enc.cells it.rc = .int .u64 it.rc.seq :: .int .u64 it.rc.real :: .int .u64 it.rc.mono :: (ofBytes it.rc.boot.l ++ [(.vsl it.rc.fields.nil (encs it.rc.fields.l) it.rc.fields.l.length)]):=Rec.cells it.rc
 have ht17:List.take 17 (ofBytes it.rc.boot.l ++ [(.vsl it.rc.fields.nil (encs it.rc.fields.l) it.rc.fields.l.length)]) = ofBytes it.rc.boot.l ++ [(.vsl it.rc.fields.nil (encs it.rc.fields.l) it.rc.fields.l.length)]:=List.take_of_length_le (by simp)
 refine h.run hG (f:=34) (nt:=83) (by kernel_rfl) ht ?_
 rw [hL] at hof ⊢
 unfold sixL kPlace kReal kMono kSeq kId kBoot at hK
 have d1:=dec_len it.rc.real.toNat
 have d2:=dec_len it.rc.mono.toNat
 have d3:=dec_len it.rc.seq.toNat
 generalize showL (cOfP it.id it.rc) = s0 at *
 generalize dec it.rc.real.toNat = s1 at *
 generalize dec it.rc.mono.toNat = s2 at *
 generalize dec it.rc.seq.toNat = s3 at *
 generalize hexs it.id.l = s4 at *
 generalize hexs it.rc.boot.l = s5 at *
 have c0:9+s0.length≤4611686018427387904:=by omega
 have c1:21+s1.length≤4611686018427387904:=by omega
 have c2:22+s2.length≤4611686018427387904:=by omega
 have c3:9+s3.length≤4611686018427387904:=by omega
 have c4:12+s4.length≤4611686018427387904:=by omega
 have c5:9+s5.length≤4611686018427387904:=by omega
 simp [sL,sR,tx5,tx4,tx3,tx2,tx1,tx0,bodyOf,Tryz.f34,k1,k3,k4,hof,hsh,n1,n2,n3,x1,x2,ht17,List.drop_append,c0,c1,c2,c3,c4,c5]
 intro a1 w1 z1 z2 h1
 rw [← hL] at h1
 exact hK a1 w1 _ z1 z2 (by simp) (by simp) (by simp) (by simp) (by simp) h1
end Go.Ev.S
namespace Go.Ev.S
open Go Go.Proofs Go.Ev Go.RowKit
theorem wp_hide {P:Program} {c:Code} {Q:Exit→Act→World→Prop} {a:Act} {w:World} (h:∀ K:Exit→Act→World→Prop,(∀ x a w,Q x a w→K x a w)→c.wp P K a w):c.wp P Q a w:=h Q fun _ _ _ h=>h
def rgOps:Code→Array Oper
 | .region _ ops _=>ops
 | _=>#[]
noncomputable def bd1:Code:=cB (cB (sR (sL tx5)))
noncomputable def ops10:Array Oper:=rgOps (sR (cB (sL (sR (sR bd1)))))
theorem strs_at' {l:List (List UInt8)} {i:Nat} (h:i < l.length):(l.map D.str).drop i = .str l[i] :: (l.map D.str).drop (i+1):=by
 rw [List.drop_eq_getElem_cons (by simpa using h)]
 simp
theorem headL_snoc {L:List (List UInt8)} {k:Nat} (h:k < L.length):headL (L.take k) ++ (L[k] ++ [10]) = headL (L.take (k+1)):=by
 unfold headL
 rw [List.take_succ_eq_append_getElem h,List.map_append,List.flatten_append]
 simp
theorem headL_le (L:List (List UInt8)) (h:∀ s∈L,s.length≤300):(headL L).length≤L.length * 301:=by
 induction L with
 | nil=>simp [headL]
 | cons a l ih =>
  have h1:=h a (by simp)
  have h2:=ih fun s hs=>h s (by simp [hs])
  unfold headL at *
  simp only [List.map_cons,List.flatten_cons,List.length_append,List.length_cons,List.length_nil] at *
  omega
set_option maxHeartbeats 4000000 in
set_option maxRecDepth 4000 in
theorem text_loop1 [TxtC] (hT:TxtRun) (L:List (List UInt8)) (hL6:L.length = 6) (hLl:∀ s∈L,s.length≤300) (ok0:Nat→Prop) (w0:World) (a:Act) (w:World) (e:Env) (b:Nat) (H:Heap) (_:H.length = 2) (ht:83≤a.tmps.size) (k3:look e 3 = some (.optr 1 20 0)) (k4:look e 4 = some (.raw (.pointer (some ⟨b,0,none⟩))))
  (k59:look e 59 = some (.vsl false (L.map D.str) 6)) (k60:look e 60 = some (.int .i64 6)) (k61:look e 61 = some (.int .i64 0))
  (h:HSt cx ok0 w0 113 5 b [] e H a w) {Q:Exit→Act→World→Prop}
  (hQ:∀ a' w' e',a'.tmps.size = a.tmps.size→a'.defers = a.defers→look e' 3 = some (.optr 1 20 0)→look e' 4 = some (.raw (.pointer (some ⟨b,0,none⟩))) →
   HSt cx ok0 w0 113 5 b (headL L) e' H a' w'→Q .normal a' w'):(sR (sL tx5)).wp cx.P Q a w:=by
 have hG:=good hT
 have eB:sR (sL tx5) = .block 0 (.loop bd1):=rfl
 rw [eB]
 refine wp_block (wp_loop (fun a' w'=>∃ (k:Nat) (e':Env),k≤6∧a'.tmps.size = a.tmps.size∧a'.defers = a.defers∧look e' 3 = some (.optr 1 20 0)∧look e' 4 = some (.raw (.pointer (some ⟨b,0,none⟩)))∧look e' 59 = some (.vsl false (L.map D.str) 6)∧look e' 60 = some (.int .i64 6)∧look e' 61 = some (.int .i64 k) ∧
   HSt cx ok0 w0 113 5 b (headL (L.take k)) e' H a' w') (fun a' _=>6 - (intOf (a'.tmps.getD 61 undef)).toNat) ⟨0,e,by omega,rfl,rfl,k3,k4,k59,k60,k61,h⟩ ?_)
 rintro a1 w1 ⟨k,e1,hk,z1,z2,j3,j4,j59,j60,j61,h1⟩
 have hmu:=h1.slotI j61
 rw [hmu]
 refine wp_ofSeq (c:=bd1) rfl fun K1 f1 g1=>?_
 by_cases hlt:k < 6
 ·have hlt':(k:Int) < 6:=by omega
  refine h1.run hG (f:=34) (nt:=83) (by kernel_rfl) (by omega) ?_
  simp [sL,sR,cB,bd1,tx5,tx4,tx3,tx2,tx1,tx0,bodyOf,Tryz.f34,j3,j4,j59,j60,j61,hlt']
  intro a2 w2 s2 d2 h2
  refine f1 _ _ ?_
  refine wp_ofSeq (c:=sR bd1) rfl fun K2 f2 g2=>?_
  refine h2.run hG (f:=34) (nt:=83) (by kernel_rfl) (by omega) ?_
  simp [sL,sR,cB,bd1,tx5,tx4,tx3,tx2,tx1,tx0,bodyOf,Tryz.f34]
  intro a3 w3 s3 d3 h3
  refine f2 _ _ ?_
  refine wp_ofSeq (c:=sR (sR bd1)) rfl fun K3 f3 g3=>?_
  have eB1:sL (sR (sR bd1)) = .block 1 (cB (sL (sR (sR bd1)))):=rfl
  rw [eB1]
  refine wp_block (wp_ofSeq rfl fun K4 f4 g4=>?_)
  have hkL:k < L.length:=by omega
  have hat:=strs_at' hkL
  refine h3.run hG (f:=34) (nt:=83) (by kernel_rfl) (by omega) ?_
  simp [sL,sR,cB,bd1,tx5,tx4,tx3,tx2,tx1,tx0,bodyOf,Tryz.f34,hlt',hat]
  intro a4 w4 s4 d4 h4
  refine f4 _ _ ?_
  have eR:sR (cB (sL (sR (sR bd1)))) = .region 10 ops10 false:=rfl
  rw [eR]
  refine wp_region_list ?_
  have eo:ops10.toList = ops10.toList.take 2 ++ ops10.toList.drop 2:=(List.take_append_drop 2 _).symm
  rw [eo]
  have hl1:=hLl L[k] (List.getElem_mem hkL)
  have hll:=headL_le (L.take k) (fun s hs=>hLl s (List.mem_of_mem_take hs))
  rw [List.length_take] at hll
  have hsn:=headL_snoc hkL
  generalize L[k] = x at *
  have x1:x.length+1≤4611686018427387904:=by omega
  refine h4.ops hG (nt:=83) (ops:=ops10) (l1:=ops10.toList.take 2) (ev':=(66,.str (x ++ [10])) :: (65,.str x) :: [(6,.str x),(64,.str x),(63,.vptr (.str x :: List.drop (k+1) (List.map D.str L))),(3,.optr 1 20 0),(4,.raw (.pointer (some ⟨b,0,none⟩))),(59,.vsl false (List.map D.str L) 6),(60,.int .i64 6),(61,.int .i64 k)]) (H':=H) ?_ (by omega) ?_
  ·simp [ops10,rgOps,sL,sR,cB,bd1,tx5,tx4,tx3,tx2,tx1,tx0,bodyOf,Tryz.f34,evOps,guardQ,x1]
  intro a5 w5 s5 d5 h5
  have eo2:ops10.toList.drop 2 = [(ops10.toList.drop 2).headD default]:=rfl
  rw [eo2]
  refine wp_callOp rfl rfl rfl ?_
  have ea:∀ a:Act,#[a.tmps.getD 4 undef,a.tmps.getD 66 undef] = #[a.tmps.getD 4 undef,a.tmps.getD 66 undef]:=fun _=>rfl
  have q4:=h5.slot (t:=4) (v:=.pointer (some ⟨b,0,none⟩)) (by simp)
  have q66:=h5.slotS (t:=66) (s:=x ++ [10]) (by simp)
  show Goes _ (callFunc 62 #[a5.tmps.getD 4 undef,a5.tmps.getD 66 undef]) _ _
  rw [q4,q66]
  refine (h5.write (ρ:=Tryz.layW_ren) Tryz.layW Tryz.layW_X (x ++ [10]) ?_).mono ?_
  ·simp only [List.length_append,List.length_cons,List.length_nil]
   omega
  rintro v w6 ⟨h6,hv⟩
  rw [hsn] at h6
  replace h6:HSt cx ok0 w0 113 5 b (headL (L.take (k+1))) _ H a5 w6:=h6
  have hp:=h6.put (t:=67) hv (by omega)
  show K3 .normal (a5.put (some 67) v) w6
  refine f3 _ _ ?_
  have hw:IntKind.i64.wrap ((k:Int)+1) = ((k+1:Nat):Int):=by rw [wrap_i64] <;> omega
  have z5:(a5.put (some 67) v).tmps.size = a5.tmps.size:=by simp [Act.put]
  have z6:(a5.put (some 67) v).defers = a5.defers:=rfl
  refine wp_hide fun K5 f5=>?_
  refine hp.run hG (f:=34) (nt:=83) (by kernel_rfl) (by omega) ?_
  simp [sL,sR,cB,bd1,tx5,tx4,tx3,tx2,tx1,tx0,bodyOf,Tryz.f34,hw]
  intro a7 w7 s7 d7 h7
  refine f5 .normal _ _ ?_
  have hm7:=h7.slotI (t:=61) (k:=.i64) (n:=((k+1:Nat):Int)) (by simp)
  refine ⟨⟨k+1,_,by omega,by omega,by rw [d7,z6,d5,d4,d3,d2,z2],?_,?_,?_,?_,?_,h7⟩,?_⟩
  ·simp
  ·simp
  ·simp
  ·simp
  ·simp
  ·rw [hm7]
   show 6 - (((k+1:Nat):Int)).toNat < 6 - ((k:Int)).toNat
   omega
 ·have hlt':¬ (k:Int) < 6:=by omega
  have hke:k = 6:=by omega
  have htk:L.take k = L:=List.take_of_length_le (by omega)
  rw [htk] at h1
  refine h1.run hG (f:=34) (nt:=83) (by kernel_rfl) (by omega) ?_
  simp [sL,sR,cB,bd1,tx5,tx4,tx3,tx2,tx1,tx0,bodyOf,Tryz.f34,j3,j4,j59,j60,j61,hlt']
  intro a2 w2 s2 d2 h2
  refine f1 _ _ ?_
  refine wp_ofSeq (c:=sR bd1) rfl fun K2 f2 g2=>?_
  refine h2.run hG (f:=34) (nt:=83) (by kernel_rfl) (by omega) ?_
  simp [sL,sR,cB,bd1,tx5,tx4,tx3,tx2,tx1,tx0,bodyOf,Tryz.f34]
  intro a3 w3 s3 d3 h3
  refine g2 (.exit 0) a3 w3 (by intro h;cases h) ?_
  show Q .normal a3 w3
  exact hQ a3 w3 _ (by omega) (by rw [d3,d2,z2]) (by simp) (by simp) h3
end Go.Ev.S
namespace Go.Ev.S
open Go Go.Proofs Go.Ev Go.RowKit
noncomputable def tx6:Code:=sR tx5
noncomputable def bd2:Code:=cB (cB (sR (sL tx6)))
noncomputable def ops15:Array Oper:=rgOps (sR (cB (sL (sR (sR bd2)))))
theorem bodyL_snoc {F:List Pr} {k:Nat} (h:k < F.length):bodyL (F.take k) ++ pairL F[k] = bodyL (F.take (k+1)):=by
 unfold bodyL
 rw [List.take_succ_eq_append_getElem h,List.map_append,List.flatten_append]
 simp
theorem pairL_len (p:Pr):(pairL p).length≤p.name.length+p.value.length+10:=by
 unfold pairL
 split
 ·simp
  omega
 ·simp
  omega
theorem bodyL_le (F:List Pr) (n:Nat) (h:∀ p∈F,(pairL p).length≤n):(bodyL F).length≤F.length * n:=by
 induction F with
 | nil=>simp [bodyL]
 | cons a l ih =>
  have h1:=h a (by simp)
  have h2:=ih fun s hs=>h s (by simp [hs])
  unfold bodyL at *
  simp only [List.map_cons,List.flatten_cons,List.length_append,List.length_cons]
  rw [Nat.add_mul]
  omega
theorem sub6 {P:Program} {Q:Exit→Act→World→Prop} {a:Act} {w:World} (h:(sL (sL tx6)).wp P (Exit.then ((sR (sL tx6)).wp P (Exit.then ((sR tx6).wp P Q) Q)) (Exit.then ((sR tx6).wp P Q) Q)) a w):tx6.wp P Q a w:=by
 have e1:tx6 = .seq (.seq (sL (sL tx6)) (sR (sL tx6))) (sR tx6):=rfl
 rw [e1]
 exact wp_seq (wp_seq h)
set_option maxHeartbeats 4000000 in
set_option maxRecDepth 4000 in
theorem text_12 [TxtC] (hT:TxtRun) (it:It) (ok0:Nat→Prop) (w0:World) (a:Act) (w:World) (e:Env) (b:Nat) (l:List UInt8) (ht:83≤a.tmps.size) (k3:look e 3 = some (.optr 1 20 0)) (k4:look e 4 = some (.raw (.pointer (some ⟨b,0,none⟩))))
  (h:HSt cx ok0 w0 113 5 b l e [some (Enc.cells it),some (Enc.cells it.rc)] a w) {K:Exit→Act→World→Prop}
  (hK:∀ a' w' e',a'.tmps.size = a.tmps.size→a'.defers = a.defers→look e' 4 = some (.raw (.pointer (some ⟨b,0,none⟩))) →
   look e' 70 = some (.vsl it.rc.fields.nil (encs it.rc.fields.l) it.rc.fields.l.length)→look e' 71 = some (.int .i64 it.rc.fields.l.length)→look e' 72 = some (.int .i64 0) →
   HSt cx ok0 w0 113 5 b l e' [some (Enc.cells it),some (Enc.cells it.rc)] a' w'→K .normal a' w'):(sL (sL tx6)).wp cx.P K a w:=by
 have hG:=good hT
 have hL:Enc.cells it.rc = .int .u64 it.rc.seq :: .int .u64 it.rc.real :: .int .u64 it.rc.mono :: (ofBytes it.rc.boot.l ++ [(.vsl it.rc.fields.nil (encs it.rc.fields.l) it.rc.fields.l.length)]):=Rec.cells it.rc
 refine h.run hG (f:=34) (nt:=83) (by kernel_rfl) ht ?_
 rw [hL]
 simp [sL,sR,tx6,tx5,tx4,tx3,tx2,tx1,tx0,bodyOf,Tryz.f34,k3,k4]
 intro a1 w1 z1 z2 h1
 rw [← hL] at h1
 exact hK a1 w1 _ z1 z2 (by simp) (by simp) (by simp) (by simp) h1
set_option maxHeartbeats 4000000 in
set_option maxRecDepth 4000 in
theorem text_loop2 [TxtC] (hT:TxtRun) (it:It) (l0:List UInt8) (hl0:l0.length≤3000) (F:Sl Pr) (hF16:F.l.length≤16) (hb:∀ p∈F.l,PrB p) (hpl:∀ p∈F.l,(pairL p).length≤3000) (ok0:Nat→Prop) (w0:World) (a:Act) (w:World) (e:Env) (b:Nat) (ht:83≤a.tmps.size) (k4:look e 4 = some (.raw (.pointer (some ⟨b,0,none⟩))))
  (k70:look e 70 = some (.vsl F.nil (encs F.l) F.l.length)) (k71:look e 71 = some (.int .i64 F.l.length)) (k72:look e 72 = some (.int .i64 0))
  (h:HSt cx ok0 w0 113 5 b l0 e [some (Enc.cells it),some (Enc.cells it.rc)] a w) {Q:Exit→Act→World→Prop}
  (hQ:∀ a' w' e' H',a'.tmps.size = a.tmps.size→a'.defers = a.defers→look e' 4 = some (.raw (.pointer (some ⟨b,0,none⟩))) →
   HSt cx ok0 w0 113 5 b (l0 ++ bodyL F.l) e' H' a' w'→Q .normal a' w'):(sR (sL tx6)).wp cx.P Q a w:=by
 have hG:=good hT
 have eB:sR (sL tx6) = .block 2 (.loop bd2):=rfl
 rw [eB]
 refine wp_block (wp_loop (fun a' w'=>∃ (k:Nat) (e':Env) (H':Heap),k≤F.l.length∧a'.tmps.size = a.tmps.size∧a'.defers = a.defers∧look e' 4 = some (.raw (.pointer (some ⟨b,0,none⟩)))∧look e' 70 = some (.vsl F.nil (encs F.l) F.l.length)∧look e' 71 = some (.int .i64 F.l.length)∧look e' 72 = some (.int .i64 k) ∧
   (H' = [some (Enc.cells it),some (Enc.cells it.rc)]∨∃ p:Pr,H' = [some (Enc.cells p)]) ∧
   HSt cx ok0 w0 113 5 b (l0 ++ bodyL (F.l.take k)) e' H' a' w') (fun a' _=>F.l.length - (intOf (a'.tmps.getD 72 undef)).toNat) ⟨0,e,_,by omega,rfl,rfl,k4,k70,k71,k72,.inl rfl,by simpa [bodyL] using h⟩ ?_)
 rintro a1 w1 ⟨k,e1,H1,hk,z1,z2,j4,j70,j71,j72,hH,h1⟩
 have hmu:=h1.slotI j72
 rw [hmu]
 have hstart:∀ (c:Bool),decide (k < F.l.length) = c→∀ K:Exit→Act→World→Prop,(∀ a' w' e' H',a'.tmps.size = a1.tmps.size→a'.defers = a1.defers→look e' 4 = some (.raw (.pointer (some ⟨b,0,none⟩)))→look e' 70 = some (.vsl F.nil (encs F.l) F.l.length)→look e' 71 = some (.int .i64 F.l.length)→look e' 72 = some (.int .i64 k)→look e' 73 = some (.bool c)→H' = [] →
   HSt cx ok0 w0 113 5 b (l0 ++ bodyL (F.l.take k)) e' H' a' w'→K .normal a' w')→(sL bd2).wp cx.P K a1 w1:=by
  intro c hc K hK
  rcases hH with rfl | ⟨p,rfl⟩
  ·refine h1.run hG (f:=34) (nt:=83) (by kernel_rfl) (by omega) ?_
   simp [sL,sR,cB,bd2,tx6,tx5,tx4,tx3,tx2,tx1,tx0,bodyOf,Tryz.f34,j4,j70,j71,j72]
   intro a2 w2 s2 d2 h2
   exact hK a2 w2 _ _ s2 d2 (by simp) (by simp) (by simp) (by simp) (by simp [hc]) rfl h2
  ·refine h1.run hG (f:=34) (nt:=83) (by kernel_rfl) (by omega) ?_
   simp [sL,sR,cB,bd2,tx6,tx5,tx4,tx3,tx2,tx1,tx0,bodyOf,Tryz.f34,j4,j70,j71,j72]
   intro a2 w2 s2 d2 h2
   exact hK a2 w2 _ _ s2 d2 (by simp) (by simp) (by simp) (by simp) (by simp [hc]) rfl h2
 refine wp_ofSeq (c:=bd2) rfl fun K1 f1 g1=>?_
 by_cases hlt:k < F.l.length
 ·refine hstart true (by simpa using hlt) K1 fun a2 w2 e2 H2 s2 d2 j4 j70 j71 j72 j73 hH2 h2=>?_
  subst hH2
  refine f1 _ _ ?_
  refine wp_ofSeq (c:=sR bd2) rfl fun K2 f2 g2=>?_
  refine h2.run hG (f:=34) (nt:=83) (by kernel_rfl) (by omega) ?_
  simp [sL,sR,cB,bd2,tx6,tx5,tx4,tx3,tx2,tx1,tx0,bodyOf,Tryz.f34,j73]
  intro a3 w3 s3 d3 h3
  refine f2 _ _ ?_
  refine wp_ofSeq (c:=sR (sR bd2)) rfl fun K3 f3 g3=>?_
  have eB1:sL (sR (sR bd2)) = .block 3 (cB (sL (sR (sR bd2)))):=rfl
  rw [eB1]
  refine wp_block (wp_ofSeq rfl fun K4 f4 g4=>?_)
  have hkL:(k:Int) < (F.l.length:Int):=by omega
  have hat:=encs_at (α:=Pr) (n:=2) rfl hlt
  have hb1:=hb F.l[k] (List.getElem_mem hlt)
  have hp1:=pair_ev F.l[k] hb1
  have hnil:F.nil = false:=Sl.nn hlt
  refine h3.run hG (f:=34) (nt:=83) (by kernel_rfl) (by omega) ?_
  simp [sL,sR,cB,bd2,tx6,tx5,tx4,tx3,tx2,tx1,tx0,bodyOf,Tryz.f34,j4,j70,j71,j72,hkL,hat,hnil]
  intro a4 w4 s4 d4 h4
  refine f4 _ _ ?_
  have eR:sR (cB (sL (sR (sR bd2)))) = .region 15 ops15 false:=rfl
  rw [eR]
  refine wp_region_list ?_
  have eo:ops15.toList = ops15.toList.take 2 ++ ops15.toList.drop 2:=(List.take_append_drop 2 _).symm
  rw [eo]
  have hll:=bodyL_le (F.l.take k) 3000 (fun p hp=>hpl p (List.mem_of_mem_take hp))
  have hl1:=hpl F.l[k] (List.getElem_mem hlt)
  rw [List.length_take] at hll
  have hsn:=bodyL_snoc hlt
  generalize F.l[k] = p at *
  refine h4.ops hG (nt:=83) (ops:=ops15) (l1:=ops15.toList.take 2) (ev':=(77,.str (pairL p)) :: (76,.agg (Enc.cells p)) :: [(8,D.optr 0 2 0),(75,D.agg (Enc.cells p)),(74,D.vptr (Enc.cells p ++ encs (List.drop (k+1) F.l))),(4,D.raw (Value.pointer (some { block:=b,off:=0 }))),(70,D.vsl false (encs F.l) F.l.length),(71,D.int IntKind.i64 F.l.length),(72,D.int IntKind.i64 k)]) (H':=[some (Enc.cells p)]) ?_ (by omega) ?_
  ·simp [ops15,rgOps,sL,sR,cB,bd2,tx6,tx5,tx4,tx3,tx2,tx1,tx0,bodyOf,Tryz.f34,evOps,guardQ,hp1]
  intro a5 w5 s5 d5 h5
  have eo2:ops15.toList.drop 2 = [(ops15.toList.drop 2).headD default]:=rfl
  rw [eo2]
  refine wp_callOp rfl rfl rfl ?_
  have q4:=h5.slot (t:=4) (v:=.pointer (some ⟨b,0,none⟩)) (by simp)
  have q77:=h5.slotS (t:=77) (s:=pairL p) (by simp)
  show Goes _ (callFunc 62 #[a5.tmps.getD 4 undef,a5.tmps.getD 77 undef]) _ _
  rw [q4,q77]
  refine (h5.write (ρ:=Tryz.layW_ren) Tryz.layW Tryz.layW_X (pairL p) ?_).mono ?_
  ·simp only [List.length_append]
   omega
  rintro v w6 ⟨h6,hv⟩
  rw [List.append_assoc,hsn] at h6
  replace h6:HSt cx ok0 w0 113 5 b (l0 ++ bodyL (F.l.take (k+1))) _ [some (Enc.cells p)] a5 w6:=h6
  have hp:=h6.put (t:=78) hv (by omega)
  show K3 .normal (a5.put (some 78) v) w6
  refine f3 _ _ ?_
  have hw:IntKind.i64.wrap ((k:Int)+1) = ((k+1:Nat):Int):=by rw [wrap_i64] <;> omega
  have z5:(a5.put (some 78) v).tmps.size = a5.tmps.size:=by simp [Act.put]
  have z6:(a5.put (some 78) v).defers = a5.defers:=rfl
  refine wp_hide fun K5 f5=>?_
  refine hp.run hG (f:=34) (nt:=83) (by kernel_rfl) (by omega) ?_
  simp [sL,sR,cB,bd2,tx6,tx5,tx4,tx3,tx2,tx1,tx0,bodyOf,Tryz.f34,hw]
  intro a7 w7 s7 d7 h7
  refine f5 .normal _ _ ?_
  have hm7:=h7.slotI (t:=72) (k:=.i64) (n:=((k+1:Nat):Int)) (by simp)
  refine ⟨⟨k+1,_,_,by omega,by omega,by rw [d7,z6,d5,d4,d3,d2,z2],?_,?_,?_,?_,?_,h7⟩,?_⟩
  ·simp
  ·simp [hnil]
  ·simp [look]
  ·simp [look]
  ·exact .inr ⟨p,rfl⟩
  ·rw [hm7]
   show F.l.length - (((k+1:Nat):Int)).toNat < F.l.length - ((k:Int)).toNat
   omega
 ·refine hstart false (by simpa using hlt) K1 fun a2 w2 e2 H2 s2 d2 j4 j70 j71 j72 j73 hH2 h2=>?_
  subst hH2
  refine f1 _ _ ?_
  have hke:k = F.l.length:=by omega
  have htk:F.l.take k = F.l:=List.take_of_length_le (by omega)
  rw [htk] at h2
  refine wp_ofSeq (c:=sR bd2) rfl fun K2 f2 g2=>?_
  refine h2.run hG (f:=34) (nt:=83) (by kernel_rfl) (by omega) ?_
  simp [sL,sR,cB,bd2,tx6,tx5,tx4,tx3,tx2,tx1,tx0,bodyOf,Tryz.f34,j73]
  intro a3 w3 s3 d3 h3
  refine g2 (.exit 2) a3 w3 (by intro h;cases h) ?_
  show Q .normal a3 w3
  exact hQ a3 w3 _ _ (by omega) (by rw [d3,d2,z2]) j4 h3
end Go.Ev.S
namespace Go.Ev
open Go Go.Proofs Go.RowKit Go.Shelf
section
variable {X:Cx} {ρ:Ren} {ok0:Nat→Prop} {w0:World} {T e:TypeId} {b:Nat} {l:List UInt8} {ev ev':Env} {H H':Heap} {a:Act} {w:World}
theorem HSt.below (h:HSt X ok0 w0 T e b l ev H a w):Below w0.heap.size w0 w:=by
 obtain ⟨ok,ι,hs,he,hev,hap⟩:=h.st
 exact ⟨hev.os,hev.tape,hev.output,hev.size,fun k hk=>hev.frame k hk fun i ds s hd=>by simp [hget] at hd⟩
theorem HSt.str (L:Lays.n169 X.P ρ) (E:Builder.Extra X.P ρ) (h:HSt X ok0 w0 (ρ.t 72) (ρ.t 5) b l ev H a w) :
  Goes X.P (callFunc (ρ.f 169) #[.pointer (some ⟨b,0,none⟩)]) w fun v w'=>v = .string ⟨l.toArray⟩∧Below w0.heap.size w0 w':=by
 have hen:∀ args w,(callFunc (ρ.f 169) args).run X.P w = .ok (.enter (ρ.f 169) args) w:=Go.Proofs.enters_of L.f169 (by kernel_rfl) rfl
 have hbs:=cov_lt h.bl (.inl rfl)
 have hb:=h.below
 have hlo:=h.lo
 unfold Goes
 rw [hen]
 refine (Any.Builder_String_any_f L E b b l w h.bl (by omega)).mono ?_
 rintro x w' ⟨rfl,-,hbel⟩
 refine ⟨_,rfl,rfl,⟨hbel.os.trans hb.os,hbel.tape.trans hb.tape,hbel.output.trans hb.output,Nat.le_trans hb.size hbel.size,fun k hk=>?_⟩⟩
 rw [hbel.block k (Nat.lt_of_lt_of_le hk hlo),hb.block k hk]
theorem pst_below (hs:Sim X ok0 w0 iota0 []) (hb:Below w0.heap.size w0 w):PSt X ok0 w0 [] [] a w :=
 ⟨⟨ok0,iota0,below_sim hs hb,fun t d h=>by simp [look] at h,below_evol (Nat.zero_le _) hb⟩⟩
theorem PSt.put (h:PSt X ok0 w0 ev H a w) {t:Nat} {d:D} {v:Value} (hd:Rep (fun _=>False) w iota0 [] d v) (ht:t < a.tmps.size):PSt X ok0 w0 ((t,d) :: ev) H (a.put (some t) v) w:=by
 obtain ⟨ok,ι,hs,he,hev⟩:=h.st
 refine ⟨⟨ok,ι,hs,?_,hev⟩⟩
 exact put_env (nt:=a.tmps.size) (dst:=some t) he ((hd.okMono fun b hb=>hb.elim).lift) (Nat.le_refl _) (by simpa [dstOk] using ht)
theorem PSt.ops (hG:Good X) (h:PSt X ok0 w0 ev H a w) {nt:Nat} {ops:Array Oper} {l1 l2:List Oper} (hc:evOps X (call X) nt false ops l1 ev H = some (ev',H')) (ht:nt≤a.tmps.size) {Q:Exit→Act→World→Prop}
  (hQ:∀ a' w',a'.tmps.size = a.tmps.size→a'.defers = a.defers→PSt X ok0 w0 ev' H' a' w'→wpList X.P ops Q l2 a' w'):wpList X.P ops Q (l1 ++ l2) a w:=by
 obtain ⟨ok,ι,hs,he,hev⟩:=h.st
 refine evOps_app (call_sound hG) hc hs he ht fun a' w' hout=>?_
 obtain ⟨t1,t2,ι',ok',s1,s2,s3⟩:=hout
 exact hQ a' w' t1 t2 ⟨⟨ok',ι',s1,s2,hev.trans (s3.mono (Nat.zero_le _))⟩⟩
theorem call_hand {f : Nat} {fn : Func} {c : Code} {args : List D} {vs : List Value} {r : D} {w : World} {ι : Iota} {ok : Nat → Prop} (hf : X.P.funcs[f]? = some fn) (hb : fn.body = some c) (hng : (fn.name == "runtime.NumGoroutine") = false) (hfree : ∀ d ∈ args, idFree d = true)
  (hs:Sim X ok w ι []) (hv:RepL ok w ι [] args vs)
  (h:∀ a,a.tmps.size = max vs.length fn.ntmps→a.defers = []→EnvRep ok w iota0 [] (argEnv 0 args) a.tmps→Sim X ok w iota0 [] →
   c.wp X.P (fun x a' w'=>(x = .normal∨x = .ret)∧a'.defers = []∧∃ e' H' ds,PSt X ok w e' H' a' w'∧resD X e' H' fn.results.toList = some ds∧packR (X.fzr f) 0 H' (oneOrTup ds) = some (r,[])) a w) :
  Goes X.P (callFunc f vs.toArray) w (CallPost X ok w ι [] r []):=by
 have henter:(callFunc f vs.toArray).run X.P w = .ok (.enter f vs.toArray) w:=Go.Proofs.enters_of hf hng hb _ _
 have hs0:Sim X ok w iota0 []:=⟨hs.okS,hs.glob,fun i j ds es b s s' hd=>by simp [hget] at hd,fun i ds hd=>by simp [hget] at hd⟩
 unfold Goes
 rw [henter]
 simp only
 refine calls_of_wp hf hb (wp_mono (h ⟨vs.toArray ++ Array.replicate (fn.ntmps - vs.toArray.size) undef,[]⟩ ?_ rfl ?_ hs0) ?_)
 ·simp
  omega
 ·intro t d ht
  obtain ⟨_,h2⟩:=argEnv_look args 0 t d ht
  rw [Nat.sub_zero] at h2
  have hlt:t < vs.length:=by rw [hv.1];exact (List.getElem?_eq_some_iff.1 h2).1
  refine ⟨by simp;omega,?_⟩
  have:=(hv.2 t d h2).free (hfree d (mem_of_get? h2)) iota0 []
  rw [Array.getD_eq_getD_getElem?,Array.getElem?_append_left (by simpa using hlt)]
  simpa [List.getD_eq_getElem?_getD] using this
 ·rintro x a' w' ⟨hex,k2,e',H1,ds,⟨ok1,ι1,k3,k4,k5⟩,hr,hp⟩
  obtain ⟨v,q1,q2⟩:=results_run (fn:=fn) k3 k4 hr
  obtain ⟨ok2,ι2,p1,p2,p3,p4⟩:=packR_rep k5.nle.2 k3 q2 hp
  have hev:=k5.trans p3
  have hpost:CallPost X ok w ι [] r [] v w':=⟨ι2,ok2,p1,p2,⟨hev.os,hev.tape,hev.output,hev.size,fun b hb _=>hev.frame b hb fun i ds s hd=>by simp [hget] at hd,hev.okU,fun b h1 h2=>(hev.okN b h1 h2).imp id fun ⟨i,ds,s,hd,_⟩=>by simp [hget] at hd,⟨Nat.le_refl _,Nat.le_refl _⟩,fun i hi=>by simp at hi,fun i ds' b s hd=>by simp [hget] at hd⟩,p4⟩
  rcases hex with rfl | rfl
  ·exact ⟨k2,v,q1,v,rfl,hpost⟩
  ·exact ⟨k2,v,q1,v,rfl,hpost⟩
end
end Go.Ev
namespace Go.Ev.S
open Go Go.Proofs Go.Ev Go.RowKit
noncomputable def tx7:Code:=sR tx6
noncomputable def tx8:Code:=sR tx7
noncomputable def ops17:Array Oper:=rgOps (sL tx7)
noncomputable def ops18:Array Oper:=rgOps (sL tx8)
set_option maxHeartbeats 4000000 in
set_option maxRecDepth 4000 in
theorem text_end [TxtC] (hT:TxtRun) (l:List UInt8) (hl:l.length≤1000000) (ok0:Nat→Prop) (w0:World) (hs0:Sim cx ok0 w0 iota0 []) (a:Act) (w:World) (e:Env) (b:Nat) (H:Heap) (ht:83≤a.tmps.size) (hd:a.defers = []) (k4:look e 4 = some (.raw (.pointer (some ⟨b,0,none⟩))))
  (h:HSt cx ok0 w0 113 5 b l e H a w) {Q:Exit→Act→World→Prop}
  (hQ:∀ a' w' e' H',a'.defers = []→look e' 2 = some (.osl 0 (l.length+1) 0 (l.length+1) 1)→H' = [some (ofBytes (l ++ [10]))]→PSt cx ok0 w0 e' H' a' w'→Q .ret a' w'):tx7.wp cx.P Q a w:=by
 have hG:=good hT
 refine wp_ofSeq (c:=tx7) rfl fun K1 f1 g1=>?_
 have eR:sL tx7 = .region 17 ops17 false:=rfl
 rw [eR]
 refine wp_region_list ?_
 have eo:ops17.toList = [(ops17.toList).headD default]:=rfl
 rw [eo]
 refine wp_callOp rfl rfl rfl ?_
 have q4:=h.slot k4
 show Goes _ (callFunc 62 #[a.tmps.getD 4 undef,.string ⟨#[10]⟩]) _ _
 rw [q4]
 refine (h.write (ρ:=Tryz.layW_ren) Tryz.layW Tryz.layW_X [10] ?_).mono ?_
 ·simp only [List.length_cons,List.length_nil]
  omega
 rintro v w1 ⟨h1,hv⟩
 replace h1:HSt cx ok0 w0 113 5 b (l ++ [10]) e H a w1:=h1
 have hp:=h1.put (t:=80) hv (by omega)
 show K1 .normal (a.put (some 80) v) w1
 refine f1 _ _ ?_
 have z5:(a.put (some 80) v).tmps.size = a.tmps.size:=by simp [Act.put]
 have z6:(a.put (some 80) v).defers = a.defers:=rfl
 have k4':look ((80,.tup [.int .i64 (([10]:List UInt8).length:Nat),.nili]) :: e) 4 = some (.raw (.pointer (some ⟨b,0,none⟩))):=by simpa [look] using k4
 generalize ((80,D.tup [.int .i64 (([10]:List UInt8).length:Nat),.nili]) :: e) = e1 at *
 have q4':=hp.slot k4'
 generalize a.put (some 80) v = a1 at *
 refine wp_ofSeq (c:=tx8) rfl fun K2 f2 g2=>?_
 have eR:sL tx8 = .region 18 ops18 false:=rfl
 rw [eR]
 refine wp_region_list ?_
 have eo:ops18.toList = (ops18.toList).headD default :: (ops18.toList.drop 1):=rfl
 rw [eo]
 refine wp_callOp rfl rfl rfl ?_
 show Goes _ (callFunc 64 #[a1.tmps.getD 4 undef]) _ _
 rw [q4']
 refine (hp.str (ρ:=Tryz.lays169_ren) Tryz.lays169 Tryz.Builder_Extra_169).mono ?_
 rintro v2 w2 ⟨rfl,hb2⟩
 have hp2:=(pst_below (a:=a1) hs0 hb2).put (t:=81) (.str (l ++ [10])) (by omega)
 show wpList _ _ _ (ops18.toList.drop 1) (a1.put (some 81) _) w2
 have z7:(a1.put (some 81) (.string ⟨(l ++ [10]).toArray⟩)).tmps.size = a1.tmps.size:=by simp [Act.put]
 have z8:(a1.put (some 81) (.string ⟨(l ++ [10]).toArray⟩)).defers = a1.defers:=rfl
 have eo:ops18.toList.drop 1 = ops18.toList.drop 1 ++ []:=(List.append_nil _).symm
 rw [eo]
 refine hp2.ops hG (nt:=83) (ops:=ops18) (l1:=ops18.toList.drop 1) (ev':=[(2,.osl 0 (l.length+1) 0 (l.length+1) 1),(82,.osl 0 (l.length+1) 0 (l.length+1) 1),(81,.str (l ++ [10]))]) (H':=[some (ofBytes (l ++ [10]))]) ?_ (by omega) ?_
 ·simp [ops18,rgOps,sL,sR,tx8,tx7,tx6,tx5,tx4,tx3,tx2,tx1,tx0,bodyOf,Tryz.f34,evOps,guardQ]
 intro a3 w3 s3 d3 h3
 show K2 .normal a3 w3
 refine f2 _ _ ?_
 show (Code.ret).wp cx.P Q a3 w3
 exact wp_ret (hQ a3 w3 _ _ (by rw [d3,z8,z6,hd]) (by simp [look]) rfl h3)
end Go.Ev.S
namespace Go.Ev.S
open Go Go.Proofs Go.Ev Go.RowKit
theorem prOk_b {it:It} (hr:recOk it = true):it.rc.fields.l.length≤16∧(∀ p∈it.rc.fields.l,PrB p)∧∀ p∈it.rc.fields.l,(pairL p).length≤400:=by
 unfold recOk at hr
 simp only [Bool.and_eq_true,decide_eq_true_eq,List.all_eq_true] at hr
 have h:∀ p∈it.rc.fields.l,p.name.length≤64∧p.value.length≤256:=by
  intro p hp
  have:=hr.2 p hp
  unfold prOk at this
  simp only [Bool.and_eq_true,decide_eq_true_eq] at this
  refine ⟨?_,this.2⟩
  have h1:=this.1
  unfold nameOk at h1
  split at h1
  ·cases h1
  ·rename_i c l e
   simp only [Bool.and_eq_true,decide_eq_true_eq] at h1
   rw [e]
   exact h1.1.1
 refine ⟨hr.1.2,fun p hp=>?_,fun p hp=>?_⟩
 ·obtain ⟨h1,h2⟩:=h p hp
  exact ⟨by omega,by omega⟩
 ·obtain ⟨h1,h2⟩:=h p hp
  have:=pairL_len p
  omega
theorem sixL_le (it:It) (_:it.Ok):∀ s∈sixL it,s.length≤300:=by
 have l0:=(showL_len (cOfP it.id it.rc)).2
 have l4:=hexs_len it.id.l
 have l5:=hexs_len it.rc.boot.l
 rw [it.id.h] at l4
 rw [it.rc.boot.h] at l5
 have d1:=dec_len it.rc.real.toNat
 have d2:=dec_len it.rc.mono.toNat
 have d3:=dec_len it.rc.seq.toNat
 intro s hs
 simp only [sixL,List.mem_cons,List.not_mem_nil,or_false] at hs
 rcases hs with rfl | rfl | rfl | rfl | rfl | rfl <;> simp only [List.length_append,kPlace,kReal,kMono,kSeq,kId,kBoot,List.length_cons,List.length_nil] <;> omega
set_option maxHeartbeats 4000000 in
set_option maxRecDepth 4000 in
theorem text_body [TxtC] (hT:TxtRun) (it:It) (hi:it.Ok) (hg:it.gap = false) (hr:recOk it = true) (ok0:Nat→Prop) (w0:World) (a:Act) (hs:Sim cx ok0 w0 iota0 []) (he:EnvRep ok0 w0 iota0 [] (argEnv 0 [.agg (Enc.cells it)]) a.tmps) (ht:83≤a.tmps.size) (hd:a.defers = []) :
  tx0.wp cx.P (fun x a' w'=>x = .ret∧a'.defers = []∧∃ e' H',look e' 2 = some (.osl 0 (textR it).length 0 (textR it).length 1)∧H' = [some (ofBytes (textR it))]∧PSt cx ok0 w0 e' H' a' w') a w0:=by
 obtain ⟨hn,hb,hpl⟩:=prOk_b hr
 have h6:(sixL it).length = 6:=rfl
 have hsl:=sixL_le it hi
 have hll:=headL_le (sixL it) hsl
 have hbl:=bodyL_le it.rc.fields.l 400 hpl
 refine text_pre hT it hg hr hb (by omega) ok0 w0 a hs he ht fun a1 w1 e1 z1 y1 k3 k1 h1=>?_
 refine text_make hT it ok0 w0 a1 w1 e1 (by omega) k3 k1 h1 fun a2 w2 e2 b z2 y2 k3 k1 k4 h2=>?_
 refine sub5 (text_six hT it hi hb (by omega) ok0 w0 a2 w2 e2 b (by omega) k3 k1 k4 h2 fun a3 w3 e3 z3 y3 k3 k4 k59 k60 k61 h3=>?_)
 show (sR (sL tx5)).wp _ _ _ _
 refine text_loop1 hT (sixL it) h6 hsl ok0 w0 a3 w3 e3 b _ rfl (by omega) k3 k4 k59 k60 k61 h3 fun a4 w4 e4 z4 y4 k3 k4 h4=>?_
 show (sR tx5).wp _ _ _ _
 refine sub6 (text_12 hT it ok0 w0 a4 w4 e4 b _ (by omega) k3 k4 h4 fun a5 w5 e5 z5 y5 k4 k70 k71 k72 h5=>?_)
 show (sR (sL tx6)).wp _ _ _ _
 refine text_loop2 hT it _ (by omega) it.rc.fields hn hb (fun p hp=>Nat.le_trans (hpl p hp) (by omega)) ok0 w0 a5 w5 e5 b (by omega) k4 k70 k71 k72 h5 fun a6 w6 e6 H6 z6 y6 k4 h6=>?_
 show tx7.wp _ _ _ _
 refine text_end hT _ ?_ ok0 w0 hs a6 w6 e6 b H6 (by omega) (by simp [y6,y5,y4,y3,y2,y1,hd]) k4 h6 fun a7 w7 e7 H7 y7 k2 hH h7=>?_
 ·rw [List.length_append]
  omega
 ·have e1:headL (sixL it) ++ bodyL it.rc.fields.l ++ [10] = textR it:=rfl
  have e2:(headL (sixL it) ++ bodyL it.rc.fields.l).length+1 = (textR it).length:=by rw [← e1,List.length_append,List.length_append,List.length_append];rfl
  rw [e2] at k2
  rw [e1] at hH
  show _∧_
  exact ⟨rfl,y7,e7,H7,k2,hH,h7⟩
end Go.Ev.S
namespace Go.Ev.S
open Go Go.Proofs Go.Ev Go.RowKit
theorem encs_inj:∀ {a b:List Pr},encs a = encs b→a = b
 | [],[],_=>rfl
 | [],p :: l,h=>by simp [encs_cons,Pr.cells] at h
 | p :: l,[],h=>by simp [encs_cons,Pr.cells] at h
 | p :: l,q :: m,h=>by
  obtain ⟨pn,pv⟩:=p
  obtain ⟨qn,qv⟩:=q
  simp only [encs_cons,Pr.cells,List.cons_append,List.nil_append,List.cons.injEq,D.str.injEq] at h
  obtain ⟨rfl,rfl,h⟩:=h
  rw [encs_inj h]
theorem ofB_inj:∀ {a b:List UInt8},ofBytes a = ofBytes b→a = b
 | [],[],_=>rfl
 | [],p :: l,h=>by simp [ofBytes] at h
 | p :: l,[],h=>by simp [ofBytes] at h
 | p :: l,q :: m,h=>by
  simp only [ofBytes,List.map_cons,List.cons.injEq,D.int.injEq,true_and] at h
  obtain ⟨h1,h2⟩:=h
  have h3:p = q:=UInt8.toNat_inj.1 (by omega)
  rw [ofB_inj h2,h3]
theorem id_inj {a b:ID} (h:ofBytes a.l = ofBytes b.l):a = b:=by
 obtain ⟨a,ha⟩:=a
 obtain ⟨b,hb⟩:=b
 have e:a = b:=ofB_inj h
 subst e
 rfl
theorem it_inj {a b:It} (h:Enc.cells a = Enc.cells b):a = b:=by
 obtain ⟨ai,ag,af,at',⟨a1,ar,am,ab,⟨an,al,ah⟩⟩⟩:=a
 obtain ⟨bi,bg,bf,bt,⟨b1,br,bm,bb,⟨bn,bl,bh⟩⟩⟩:=b
 have h1:=congrArg (List.take 16) h
 have h2:=congrArg (List.drop 16) h
 have h3:=congrArg (fun l=>(List.drop 22 l).take 16) h
 have h4:=congrArg (List.drop 38) h
 rw [It.t16,It.t16] at h1
 rw [It.d16,It.d16] at h2
 simp [It.d22] at h3
 simp only [It.d38,List.cons.injEq,D.vsl.injEq,and_true] at h4
 have e1:=id_inj h1
 have e3:=id_inj h3
 obtain ⟨e4,e5,-⟩:=h4
 have e6:=encs_inj e5
 simp only [List.cons.injEq,D.bool.injEq,D.int.injEq,true_and] at h2
 obtain ⟨x1,x2,x3,x4,x5,x6,-⟩:=h2
 subst_vars
 simp_all
open Classical in
noncomputable def conText (args:List D) (H:Heap):Option (D × Heap) :=
 if h:H = []∧∃ it:It,args = [.agg (Enc.cells it)]∧it.Ok∧it.gap = false∧recOk it = true then some (.vsl false (ofBytes (textR h.2.choose)) (textR h.2.choose).length,[]) else none
theorem conText_right {it:It} (hi:it.Ok) (hg:it.gap = false) (hr:recOk it = true):conText [.agg (Enc.cells it)] [] = some (.vsl false (ofBytes (textR it)) (textR it).length,[]):=by
 have h:([]:Heap) = []∧∃ it':It,[D.agg (Enc.cells it)] = [.agg (Enc.cells it')]∧it'.Ok∧it'.gap = false∧recOk it' = true:=⟨rfl,it,rfl,hi,hg,hr⟩
 unfold conText
 rw [dif_pos h]
 have e:it = h.2.choose:=by
  have:=h.2.choose_spec.1
  injection this with this _
  injection this with this
  exact it_inj this
 rw [← e]
theorem conText_none {it:It} (h:it.gap = true∨recOk it = false):conText [.agg (Enc.cells it)] [] = none:=by
 unfold conText
 rw [dif_neg]
 rintro ⟨-,it',e,-,hg,hr⟩
 simp only [List.cons.injEq,D.agg.injEq,and_true] at e
 have:=it_inj e
 subst this
 rcases h with h | h
 ·rw [hg] at h;cases h
 ·rw [hr] at h;cases h
theorem conText_inv {args:List D} {H:Heap} {q:D × Heap} (h:conText args H = some q):H = []∧∃ it:It,args = [.agg (Enc.cells it)]∧it.Ok∧it.gap = false∧recOk it = true∧q = (.vsl false (ofBytes (textR it)) (textR it).length,[]):=by
 unfold conText at h
 split at h
 ·rename_i hx
  have hs:=hx.2.choose_spec
  exact ⟨hx.1,hx.2.choose,hs.1,hs.2.1,hs.2.2.1,hs.2.2.2,(Option.some.inj h).symm⟩
 ·cases h
@[instance_reducible] def txt0:TxtC:=⟨fun _ _ _=>none⟩
theorem txt0_run:@TxtRun txt0:=fun h=>by cases h
set_option maxRecDepth 4000 in
theorem conText_run {T:TxtC} {args:List D} {H:Heap} {r:D} {H':Heap} (h:conText args H = some (r,H')) {ok:Nat→Prop} {w:World} {ι:Iota} {vs:List Value} (hs:Sim (@cx T) ok w ι H) (hv:RepL ok w ι H args vs):Goes Tryz.prog (callFunc 34 vs.toArray) w (CallPost (@cx T) ok w ι H r H'):=by
 obtain ⟨rfl,it,rfl,hi,hg,hr,e⟩:=conText_inv h
 injection e with e1 e2
 subst e1
 subst e2
 have h0:=@text_body txt0 txt0_run it hi hg hr
 have:=call_hand (X:=@cx txt0) (f:=34) (c:=tx0) (r:=.vsl false (ofBytes (textR it)) (textR it).length) Tryz.func34 rfl rfl (by intro d hd;simp only [List.mem_singleton] at hd;subst hd;simp [idFree]) ⟨hs.okS,hs.glob,hs.inj,hs.blk⟩ hv fun a z1 z2 he hs0=>wp_mono (h0 ok w a hs0 he (by rw [z1];exact Nat.le_max_right _ _) z2) ?_
 ·refine this.mono ?_
  rintro v w' ⟨ι',ok',k1,k2,k3,k4⟩
  exact ⟨ι',ok',⟨k1.okS,k1.glob,k1.inj,k1.blk⟩,k2,k3,k4⟩
 ·rintro x a' w' ⟨rfl,y1,e',H',k2,rfl,hp⟩
  refine ⟨.inr rfl,y1,e',_,[.osl 0 (textR it).length 0 (textR it).length 1],hp,?_,?_⟩
  ·simp [Tryz.f34,resD,k2]
  ·simp [packR,oneOrTup]
end Go.Ev.S
namespace Go.Ev.S
open Go Go.Proofs Go.Ev Go.RowKit
noncomputable instance txt1:TxtC:=⟨fun f=>if f = 34 then conText else fun _ _=>none⟩
set_option maxRecDepth 100000 in
theorem txt1_run:TxtRun:=by
 intro f args H r H' h ok w ι vs hs hv
 replace h:(if f = 34 then conText else fun _ _=>none) args H = some (r,H'):=h
 by_cases h1:f = 34
 ·rw [if_pos h1] at h
  subst h1
  exact conText_run h hs hv
 ·rw [if_neg h1] at h
  cases h
end Go.Ev.S
namespace Go.Ev.S
open Go Go.Proofs Go.Ev Go.RowKit
theorem ite_run {X:Cx} {f nt n0:Nat} {K:Ex→Env→Heap→Prop} {fr:List Fr} {dr:Bool} {l:List SOp} {e:Env} {d:Option Tmp} {a b:Nat} {x:D × Heap} (h:a≤b) (hr:RunK X f nt n0 K fr dr l e d (some x)):RunK X f nt n0 K fr dr l e d (if a≤b then some x else none):=by rw [if_pos h];exact hr
def kGap:List UInt8:=[95,95,71,65,80,61]
def textG (it:It):List UInt8:=kGap ++ (dec it.fr.toNat ++ (45 :: (dec it.til.toNat ++ (10 :: (kId ++ (hexs it.id.l ++ [10,10]))))))
def textL (it:It):List UInt8:=if it.gap then textG it else textR it
def textD (it:It):D:=if itOk it then .vsl false (ofBytes (textL it)) (textL it).length else .vsl true [] 0
set_option maxHeartbeats 4000000 in
theorem text_bad (it:It) (hb:∀ p∈it.rc.fields.l,PrB p) (hn:it.rc.fields.l.length < 1000000) (ho:itOk it = false):call cx 34 [.agg (Enc.cells it)] [] = some (.vsl true [] 0,[]):=by
 have hw:=wright_ev it hb hn
 rw [ho] at hw
 have hcon:cx.con 34 [.agg (Enc.cells it)] [] = none:=by
  refine conText_none ?_
  unfold itOk at ho
  cases hg:it.gap with
  | true=>exact .inl rfl
  | false=>rw [hg,if_neg (by decide)] at ho;exact .inr ho
 refine call_run Tryz.func34 rfl ⟨rfl,hcon⟩ ?_
 simp [Tryz.f34,hw]
set_option maxHeartbeats 4000000 in
set_option maxRecDepth 4000 in
theorem text_gap (it:It) (hi:it.Ok) (hg:it.gap = true) (hb:∀ p∈it.rc.fields.l,PrB p) (hn:it.rc.fields.l.length < 1000000) (ho:itOk it = true):call cx 34 [.agg (Enc.cells it)] [] = some (.vsl false (ofBytes (textG it)) (textG it).length,[]):=by
 have hw:=wright_ev it hb hn
 rw [ho] at hw
 have hcon:cx.con 34 [.agg (Enc.cells it)] [] = none:=conText_none (.inl hg)
 have hr1:=hi.fr
 have hr2:=hi.til
 unfold isU64 at hr1 hr2
 have n1:=number_ev it.fr.toNat (by omega)
 have n2:=number_ev it.til.toNat (by omega)
 have e1:((it.fr.toNat:Nat):Int) = it.fr:=by omega
 have e2:((it.til.toNat:Nat):Int) = it.til:=by omega
 rw [e1] at n1
 rw [e2] at n2
 have x1:=hex_ev it.id.l it.id.h
 have l4:=hexs_len it.id.l
 rw [it.id.h] at l4
 have d1:=dec_len it.fr.toNat
 have d2:=dec_len it.til.toNat
 unfold textG kGap kId
 generalize dec it.fr.toNat = s1 at *
 generalize dec it.til.toNat = s2 at *
 generalize hexs it.id.l = s4 at *
 refine call_run Tryz.func34 rfl ⟨rfl,hcon⟩ ?_
 have c0:6+s1.length≤4611686018427387904:=by omega
 have c1:s1.length≤4611686018427387897:=by omega
 simp [Tryz.f34,hw,hg,n1,n2,c0,c1]
 iterate
  refine ite_run (by omega) ?_
  try simp [x1]
theorem text_ev (it:It) (hi:it.Ok) (hb:∀ p∈it.rc.fields.l,PrB p) (hn:it.rc.fields.l.length < 1000000):call cx 34 [.agg (Enc.cells it)] [] = some (textD it,[]):=by
 unfold textD textL
 cases ho:itOk it with
 | false=>exact text_bad it hb hn ho
 | true =>
  cases hg:it.gap with
  | true=>exact text_gap it hi hg hb hn ho
  | false =>
   unfold itOk at ho
   rw [hg,if_neg (by decide)] at ho
   exact call_con (conText_right hi hg ho)
end Go.Ev.S
namespace Go.Ev.S
open Go Go.Proofs Go.Ev
set_option maxHeartbeats 4000000 in
set_option maxRecDepth 4000 in
theorem rtext_bad (it:It) (hi:it.Ok) (hb:∀ p∈it.rc.fields.l,PrB p) (hn:it.rc.fields.l.length < 1000000) (ho:itOk it = false):call cx 22 [.agg (Enc.cells it)] [] = some (.vsl true [] 0,[]):=by
 have hw:=rright_ev it hi hb hn
 rw [ho] at hw
 refine call_run Tryz.func22 rfl ⟨rfl,rfl⟩ ?_
 simp [Tryz.f22,hw]
set_option maxHeartbeats 4000000 in
set_option maxRecDepth 4000 in
theorem rtext_gap (it:It) (hi:it.Ok) (hg:it.gap = true) (hb:∀ p∈it.rc.fields.l,PrB p) (hn:it.rc.fields.l.length < 1000000) (ho:itOk it = true):call cx 22 [.agg (Enc.cells it)] [] = some (.vsl false (ofBytes (textG it)) (textG it).length,[]):=by
 have hw:=rright_ev it hi hb hn
 rw [ho] at hw
 have hr1:=hi.fr
 have hr2:=hi.til
 unfold isU64 at hr1 hr2
 have n1:=rdec_ev it.fr.toNat (by omega)
 have n2:=rdec_ev it.til.toNat (by omega)
 have e1:((it.fr.toNat:Nat):Int) = it.fr:=by omega
 have e2:((it.til.toNat:Nat):Int) = it.til:=by omega
 rw [e1] at n1
 rw [e2] at n2
 have x1:=rhex_ev it.id.l it.id.h
 have l4:=hexs_len it.id.l
 rw [it.id.h] at l4
 have d1:=dec_len it.fr.toNat
 have d2:=dec_len it.til.toNat
 unfold textG kGap kId
 generalize dec it.fr.toNat = s1 at *
 generalize dec it.til.toNat = s2 at *
 generalize hexs it.id.l = s4 at *
 have ht17:List.take 17 (ofBytes it.rc.boot.l ++ [(.vsl it.rc.fields.nil (encs it.rc.fields.l) it.rc.fields.l.length)]) = ofBytes it.rc.boot.l ++ [(.vsl it.rc.fields.nil (encs it.rc.fields.l) it.rc.fields.l.length)]:=List.take_of_length_le (by simp)
 refine call_run Tryz.func22 rfl ⟨rfl,rfl⟩ ?_
 have c0:6+s1.length≤4611686018427387904:=by omega
 have c1:s1.length≤4611686018427387897:=by omega
 simp [Tryz.f22,hw,hg,n1,n2,c0,c1,ht17]
 iterate
  refine ite_run (by omega) ?_
  try simp [x1]
end Go.Ev.S
namespace Go.Ev.S
open Go Go.Proofs Go.Ev
set_option maxHeartbeats 8000000 in
set_option maxRecDepth 8000 in
theorem rtext_rec (it:It) (hi:it.Ok) (hg:it.gap = false) (ho:itOk it = true):call cx 22 [.agg (Enc.cells it)] [] = some (.vsl false (ofBytes (textR it)) (textR it).length,[]):=by
 have hr:recOk it = true:=by
  unfold itOk at ho
  rwa [hg,if_neg (by decide)] at ho
 obtain ⟨hn,hb,hpl⟩:=prOk_b hr
 have hw:=rright_ev it hi hb (by omega)
 rw [ho] at hw
 have hbd:=bodyL_le it.rc.fields.l 400 hpl
 have hof:=rcof_ev it.id it.rc (by omega) hb
 have hsh:=rshow_ev (cOfP it.id it.rc) (cOfP_ok it.id it.rc hi.rc)
 have hr1:=hi.rc.real
 have hr2:=hi.rc.mono
 have hr3:=hi.rc.seq
 unfold isU64 at hr1 hr2 hr3
 have n1:=rdec_ev it.rc.real.toNat (by omega)
 have n2:=rdec_ev it.rc.mono.toNat (by omega)
 have n3:=rdec_ev it.rc.seq.toNat (by omega)
 have e1:((it.rc.real.toNat:Nat):Int) = it.rc.real:=by omega
 have e2:((it.rc.mono.toNat:Nat):Int) = it.rc.mono:=by omega
 have e3:((it.rc.seq.toNat:Nat):Int) = it.rc.seq:=by omega
 rw [e1] at n1
 rw [e2] at n2
 rw [e3] at n3
 have x1:=rhex_ev it.id.l it.id.h
 have x2:=rhex_ev it.rc.boot.l it.rc.boot.h
 have l0:=(showL_len (cOfP it.id it.rc)).2
 have l4:=hexs_len it.id.l
 have l5:=hexs_len it.rc.boot.l
 rw [it.id.h] at l4
 rw [it.rc.boot.h] at l5
 have d1:=dec_len it.rc.real.toNat
 have d2:=dec_len it.rc.mono.toNat
 have d3:=dec_len it.rc.seq.toNat
 obtain ⟨S0,hS0⟩:∃ S0,S0 = headL (sixL it):=⟨_,rfl⟩
 have hS0l:S0.length≤1806:=by
  rw [hS0]
  exact headL_le (sixL it) (sixL_le it hi)
 have hT:textR it = S0 ++ bodyL it.rc.fields.l ++ [10]:=by rw [hS0];rfl
 rw [hT]
 simp only [headL,sixL,kPlace,kReal,kMono,kSeq,kId,kBoot,List.map_cons,List.map_nil,List.flatten_cons,List.flatten_nil,List.append_assoc,List.cons_append,List.nil_append,List.append_nil] at hS0
 generalize showL (cOfP it.id it.rc) = s0 at *
 generalize dec it.rc.real.toNat = s1 at *
 generalize dec it.rc.mono.toNat = s2 at *
 generalize dec it.rc.seq.toNat = s3 at *
 generalize hexs it.id.l = s4 at *
 generalize hexs it.rc.boot.l = s5 at *
 have ht17:List.take 17 (ofBytes it.rc.boot.l ++ [(.vsl it.rc.fields.nil (encs it.rc.fields.l) it.rc.fields.l.length)]) = ofBytes it.rc.boot.l ++ [(.vsl it.rc.fields.nil (encs it.rc.fields.l) it.rc.fields.l.length)]:=List.take_of_length_le (by simp)
 have hb16:List.take 16 (ofBytes it.rc.boot.l ++ [(.vsl it.rc.fields.nil (encs it.rc.fields.l) it.rc.fields.l.length)]) = ofBytes it.rc.boot.l:=List.take_left' (by simp)
 rw [Rec.cells] at hof
 simp only [List.cons_append,List.nil_append] at hof
 refine call_run Tryz.func22 rfl ⟨rfl,rfl⟩ ?_
 have c0:s0.length≤4611686018427387895:=by omega
 simp [Tryz.f22,hw,hg,hof,hsh,ht17]
 iterate 20
  try refine ite_run (by omega) ?_
  try simp [n1,n2,n3,x1,x2,hb16,List.drop_append]
 rw [← hS0]
 clear hS0 n1 n2 n3 x1 x2 hof hsh c0 l0 d1 d2 d3 l4 l5
 obtain ⟨F,hF⟩:∃ F,F = it.rc.fields:=⟨_,rfl⟩
 rw [← hF] at hn hb hpl hbd ht17 hb16 ⊢
 obtain ⟨X,hX⟩:∃ X:List D,X = .int .u64 it.rc.seq :: .int .u64 it.rc.real :: .int .u64 it.rc.mono :: ofBytes it.rc.boot.l:=⟨_,rfl⟩
 have hXl:X.length = 19:=by rw [hX];simp [it.rc.boot.h]
 have hXf:idFree.idFreeL X = true:=by rw [hX];simp [idFree]
 have hE:D.int .u64 it.rc.seq :: .int .u64 it.rc.real :: .int .u64 it.rc.mono :: (ofBytes it.rc.boot.l ++ [(.vsl F.nil (encs F.l) F.l.length)]) = X ++ [(.vsl F.nil (encs F.l) F.l.length)]:=by rw [hX];rfl
 rw [hE]
 have hXd:List.drop 19 X = []:=List.drop_eq_nil_of_le (by omega)
 have hXc:∀ n,(∀ x,x∈X→closed n x = true) = True:=fun n=>eq_true (by
  have:=closedL_free n X hXf
  rw [closedL_all] at this
  exact List.all_eq_true.1 this)
 clear hE hX hF
 refine Run.loopThen (fun (k:Nat) e H'=>k≤F.l.length∧(H' = [some (Enc.cells it),some (X ++ [(.vsl F.nil (encs F.l) F.l.length)])]∨∃ p:Pr,H' = [some (Enc.cells it),some (X ++ [(.vsl F.nil (encs F.l) F.l.length)]),some [.str p.name,.str p.value]])∧look e 3 = some (.optr 1 20 0)∧look e 4 = some (.str (S0 ++ bodyL (F.l.take k)))∧look e 5 = some (.int .i64 k)) (fun k=>F.l.length - k) 0 ?_ ?_
 ·exact ⟨by omega,.inl rfl,by simp,by simp [bodyL],by simp⟩
 rintro k e H' ⟨hk,hH,k3,k4,k5⟩
 by_cases hlt:k < F.l.length
 ·have hlt':(k:Int) < (F.l.length:Int):=by omega
  have hw1:IntKind.i64.wrap ((k:Int)+1) = ((k+1:Nat):Int):=by rw [wrap_i64] <;> omega
  have hnn:=Sl.nn hlt
  have hpb:=hb _ (List.getElem_mem hlt)
  have hpl1:=hpl _ (List.getElem_mem hlt)
  have hp:=rplain_ev F.l[k].value hpb.2
  have hbs:=bodyL_snoc hlt
  have hbk:=bodyL_le (F.l.take k) 400 (fun p hp=>hpl p (List.mem_of_mem_take hp))
  have hlk:(F.l.take k).length≤16:=by simp;omega
  have hkl:(bodyL (F.l.take k)).length≤6400:=by
   have:(F.l.take k).length * 400≤16 * 400:=Nat.mul_le_mul_right _ hlk
   omega
  unfold pairL at hbs hpl1
  have hvl:=hpb.2
  have hnu:=nums1_ev F.l[k].value.length (by omega)
  obtain ⟨p,hp0⟩:∃ p,F.l[k] = p:=⟨_,rfl⟩
  rw [hp0] at hpb hpl1 hp hbs hvl hnu
  have hl8:=leB_len 8 p.value.length
  generalize leB 8 p.value.length = l8 at *
  have hwv:IntKind.u64.wrap (p.value.length:Int) = (p.value.length:Int):=by rw [wrap_u64] <;> omega
  generalize bodyL (F.l.take k) = B at *
  have hpn:=hpb.1
  have c2:S0.length+(B.length+p.name.length)≤4611686018427387904:=by omega
  cases hpv:plainV p.value with
  | true =>
   rw [hpv] at hp hpl1 hbs
   simp only [if_true] at hpl1 hbs
   simp only [List.length_append,List.length_cons,List.length_nil] at hpl1
   rcases hH with rfl | ⟨q,rfl⟩
   ·simp [k3,k4,k5,hlt',hlt,hnn,hp0,Pr.cells,hp,hXl]
    iterate 8
     try refine ite_run (by omega) ?_
     try simp [hw1]
    exact ⟨k+1,by omega,by omega,⟨p,rfl,rfl⟩,by rw [← hbs];simp,rfl⟩
   ·simp [k3,k4,k5,hlt',hlt,hnn,hp0,Pr.cells,hp,hXl,hXc]
    iterate 8
     try refine ite_run (by omega) ?_
     try simp [hw1]
    exact ⟨k+1,by omega,by omega,⟨p,rfl,rfl⟩,by rw [← hbs];simp,rfl⟩
  | false =>
   rw [hpv] at hp hpl1 hbs
   simp only [Bool.false_eq_true,if_false] at hpl1 hbs
   simp only [List.length_append,List.length_cons,List.length_nil] at hpl1
   have e0:S0.length+B.length+p.name.length≤4611686018427387904:=by omega
   have e1:S0.length+(B.length+p.name.length)≤4611686018427387903:=by omega
   have e2:S0.length+(B.length+(p.name.length+1))≤4611686018427387896:=by omega
   have e3:S0.length+(B.length+(p.name.length+9))+p.value.length≤4611686018427387904:=by omega
   have e4:S0.length+(B.length+(p.name.length+(8+p.value.length+1)))≤4611686018427387903:=by omega
   rcases hH with rfl | ⟨q,rfl⟩
   ·simp [k3,k4,k5,hlt',hlt,hw1,hnn,hp0,Pr.cells,hp,hnu,hl8,hwv,hXl,e0,e1,e2,e3,e4]
    iterate 8
     try refine ite_run (by omega) ?_
     try simp [k3,k4,k5,hlt',hlt,hw1,hnn,hp0,Pr.cells,hp,hnu,hl8,hwv,hXl,hXd,hXc,List.drop_append,e0,e1,e2,e3,e4]
    exact ⟨k+1,by omega,by omega,⟨p,rfl,rfl⟩,by rw [← hbs];simp,rfl⟩
   ·simp [k3,k4,k5,hlt',hlt,hw1,hnn,hp0,Pr.cells,hp,hnu,hl8,hwv,hXl,hXc,e0,e1,e2,e3,e4]
    iterate 8
     try refine ite_run (by omega) ?_
     try simp [k3,k4,k5,hlt',hlt,hw1,hnn,hp0,Pr.cells,hp,hnu,hl8,hwv,hXl,hXd,hXc,List.drop_append,e0,e1,e2,e3,e4]
    exact ⟨k+1,by omega,by omega,⟨p,rfl,rfl⟩,by rw [← hbs];simp,rfl⟩
 ·have hlt':¬ (k:Int) < (F.l.length:Int):=by omega
  have hke:k = F.l.length:=by omega
  subst hke
  rw [List.take_length] at k4
  have c1:S0.length+(bodyL F.l).length≤4611686018427387903:=by omega
  rcases hH with rfl | ⟨q,rfl⟩
  ·simp [k3,k4,k5,hlt',hXl,c1]
  ·simp [k3,k4,k5,hlt',hXl,hXc,c1]
end Go.Ev.S
namespace Go.Ev.S
open Go Go.Proofs Go.Ev
theorem mnumber_ev [TxtC] (n b:Int):call cx 27 [.int .i64 n,.int .i64 b] [] = some (.int .i64 (if b < 1 then 0 else (IntKind.i64.wrap (n.tmod b+b)).tmod b),[]):=by
 refine call_run Tryz.func27 rfl ⟨rfl,rfl⟩ ?_
 by_cases h1:b < 1
 ·simp [Tryz.f27,h1]
 ·have h2:b≠0:=by omega
  simp [Tryz.f27,h1,h2]
theorem num_ev [TxtC] (n:Int) (b:Nat) (hb:1≤b) (hb2:b≤1000000):∃ x:Nat,x < b∧call cx 27 [.int .i64 n,.int .i64 b] [] = some (.int .i64 x,[]):=by
 have h1:n.tmod b < b:=Int.tmod_lt_of_pos _ (by omega)
 have h2:-(b:Int) < n.tmod b:=by
  have:=Int.tmod_lt_of_pos (-n) (show (0:Int) < b by omega)
  rw [Int.neg_tmod] at this
  omega
 have h:=mnumber_ev n b
 rw [if_neg (by omega)] at h
 generalize n.tmod b = x at *
 have hw:IntKind.i64.wrap (x+b) = x+b:=by rw [wrap_i64];omega
 rw [hw] at h
 have h3:0≤x+b:=by omega
 have h4:=Int.tmod_nonneg (b:Int) h3
 have h5:=Int.tmod_lt_of_pos (x+b) (show (0:Int) < b by omega)
 refine ⟨((x+b).tmod b).toNat,by omega,?_⟩
 rw [h]
 congr 3
 omega
end Go.Ev.S
namespace Go.Ev.S
open Go Go.Proofs Go.Ev
def seqD (nil:Bool) (zs:List Int) (k:Nat):List D:=[.vsl nil (intsK .i64 zs) zs.length,.int .i64 k]
theorem intsK_at {k:IntKind} {l:List Int} {i:Nat} (h:i < l.length):(intsK k l).drop i = .int k l[i] :: intsK k (l.drop (i+1)):=by
 unfold intsK
 rw [← List.map_drop,List.drop_eq_getElem_cons h]
 rfl
@[simp] theorem intsK_len (k:IntKind) (l:List Int):(intsK k l).length = l.length:=by simp [intsK]
theorem seqD_free (nil:Bool) (zs:List Int) (k:Nat):(∀ x,x∈seqD nil zs k→idFree x = true) = True:=eq_true (by
 unfold seqD
 simp)
theorem seqD_len (nil:Bool) (zs:List Int) (k:Nat):(seqD nil zs k).length = 2:=rfl
theorem seqD_cl (nil:Bool) (zs:List Int) (k n:Nat):(∀ x,x∈seqD nil zs k→closed n x = true) = True:=eq_true (by
 unfold seqD
 simp)
theorem more_ev [TxtC] (nil:Bool) (zs:List Int) (k:Nat):call cx 31 [.optr 0 2 0] [some (seqD nil zs k)] = some (.bool (decide (k < zs.length)),[some (seqD nil zs k)]):=by
 refine call_run Tryz.func31 rfl ⟨rfl,rfl⟩ ?_
 unfold seqD
 by_cases h:k < zs.length
 ·have h':(k:Int) < (zs.length:Int):=by omega
  simp [Tryz.f31,h,h']
 ·have h':¬ (k:Int) < (zs.length:Int):=by omega
  simp [Tryz.f31,h,h']
theorem numI_ev [TxtC] (n b:Int) (hb:1≤b) (hb2:b≤1000000):∃ x:Nat,(x:Int) < b∧call cx 27 [.int .i64 n,.int .i64 b] [] = some (.int .i64 x,[]):=by
 obtain ⟨x,h1,h2⟩:=num_ev n b.toNat (by omega) (by omega)
 rw [show ((b.toNat:Nat):Int) = b by omega] at h2
 exact ⟨x,by omega,h2⟩
theorem n_ev [TxtC] (nil:Bool) (zs:List Int) (hnil:nil = true→zs = []) (hz:zs.length≤1000000) (k:Nat) (b:Int) (hb:1≤b) (hb2:b≤1000000) :
  ∃ x k':Nat,(x:Int) < b∧(k < zs.length→k < k')∧call cx 29 [.optr 0 2 0,.int .i64 b] [some (seqD nil zs k)] = some (.int .i64 x,[some (seqD nil zs k')]):=by
 unfold seqD
 by_cases hlt:k < zs.length
 ·have hnf:nil = false:=by
   cases nil with
   | false=>rfl
   | true=>rw [hnil rfl] at hlt;simp at hlt
  subst hnf
  have hlt':¬ (zs.length:Int)≤(k:Int):=by omega
  have hlt2:(k:Int) < (zs.length:Int):=by omega
  have hw:IntKind.i64.wrap ((k:Int)+1) = ((k+1:Nat):Int):=by rw [wrap_i64] <;> omega
  have hw2:IntKind.i64.wrap (((k+1:Nat):Int) - 1) = (k:Int):=by rw [wrap_i64] <;> omega
  have hw3:IntKind.i64.wrap (k:Int) = (k:Int):=by rw [wrap_i64];omega
  obtain ⟨x,hx,hn⟩:=numI_ev zs[k] b hb hb2
  refine ⟨x,k+1,hx,fun _=>Nat.lt_succ_self k,?_⟩
  refine call_run Tryz.func29 rfl ⟨rfl,rfl⟩ ?_
  simp [Tryz.f29,hlt',hw,hlt2,hw3,intsK_at hlt,hn]
 ·have hlt':(zs.length:Int)≤(k:Int):=by omega
  refine ⟨0,k,by omega,fun h=>absurd h hlt,?_⟩
  refine call_run Tryz.func29 rfl ⟨rfl,rfl⟩ ?_
  simp [Tryz.f29,hlt']
def namesL:List (List UInt8):=[[65],[66],[77,69,83,83,65,71,69],[95,80,73,68],[88,95,49],[80,82,73,79,82,73,84,89]]
def valuesL:List (List UInt8):=[[],[48],[49],[50,50],[97,61,98],[111,110,101,10,116,119,111],[0,255],[116,97,98,9,104,101,114,101],[108,111,110,103,32,108,111,110,103,32,108,111,110,103,32,108,111,110,103,32,108,111,110,103,32,108,111,110,103,32,108,111,110,103],[126,127,128]]
def strD (l:List (List UInt8)):List D:=l.map D.str
theorem strD_at {l:List (List UInt8)} {i:Nat} (h:i < l.length):(strD l).drop i = .str l[i] :: strD (l.drop (i+1)):=by
 unfold strD
 rw [← List.map_drop,List.drop_eq_getElem_cons h]
 rfl
theorem names_ev [TxtC]:call cx 101 [] [] = some (.vsl false (strD namesL) 6,[]):=by
 refine call_some.2 ⟨60,?_⟩
 kernel_rfl
theorem values_ev [TxtC]:call cx 102 [] [] = some (.vsl false (strD valuesL) 10,[]):=by
 refine call_some.2 ⟨60,?_⟩
 kernel_rfl
def mkOk (p:Pr):Bool:=prOk p && (decide (p.name.length≤8) && decide (p.value.length≤36))
theorem mkOk_ok {p:Pr} (h:mkOk p = true):prOk p = true:=by
 unfold mkOk at h
 rw [Bool.and_eq_true] at h
 exact h.1
theorem pairs_ok:∀ n∈namesL,∀ v∈valuesL,mkOk ⟨n,v⟩ = true:=by decide
set_option maxHeartbeats 1000000 in
theorem mpair_ev [TxtC] (nil:Bool) (zs:List Int) (hnil:nil = true→zs = []) (hz:zs.length≤1000000) (k:Nat) :
  ∃ (p:Pr) (k':Nat),mkOk p = true∧call cx 82 [.optr 0 2 0] [some (seqD nil zs k)] = some (.agg (Enc.cells p),[some (seqD nil zs k')]):=by
 obtain ⟨x,k1,hx,-,h1⟩:=n_ev nil zs hnil hz k 6 (by decide) (by decide)
 obtain ⟨y,k2,hy,-,h2⟩:=n_ev nil zs hnil hz k1 10 (by decide) (by decide)
 have hx':x < namesL.length:=by show x < 6;omega
 have hy':y < valuesL.length:=by show y < 10;omega
 have g1:=names_ev
 have g2:=values_ev
 refine ⟨⟨namesL[x],valuesL[y]⟩,k2,pairs_ok _ (List.getElem_mem hx') _ (List.getElem_mem hy'),?_⟩
 have a1:=strD_at hx'
 have a2:=strD_at hy'
 generalize namesL[x] = n at *
 generalize valuesL[y] = v at *
 generalize strD namesL = N at *
 generalize strD valuesL = V at *
 refine call_run Tryz.func82 rfl ⟨rfl,rfl⟩ ?_
 unfold seqD at h1 h2 ⊢
 simp [Tryz.f82,h1,h2,g1,g2,a1,a2,hx,hy,Pr.cells]
def idN (j:Nat):ID:=⟨[94,0,0,0,0,0,0,0,0,0,0,0,0,0,0,UInt8.ofNat j],rfl⟩
theorem mid_small [TxtC] {j:Nat} (hj:j < 5):call cx 30 [.int .i64 j] [] = some (.agg (ofBytes (idN j).l),[]):=by
 have h:j = 0∨j = 1∨j = 2∨j = 3∨j = 4:=by omega
 refine call_some.2 ⟨60,?_⟩
 rcases h with rfl | rfl | rfl | rfl | rfl <;> kernel_rfl
end Go.Ev.S
namespace Go.Ev.S
open Go Go.Proofs Go.Ev
theorem nameOk_len {n:List UInt8} (h:nameOk n = true):n.length≤64:=by
 unfold nameOk at h
 split at h
 ·cases h
 ·simp only [Bool.and_eq_true,decide_eq_true_eq] at h
  exact h.1.1
theorem prOk_len {p:Pr} (h:prOk p = true):nameOk p.name = true∧p.name.length≤64∧p.value.length≤256:=by
 unfold prOk at h
 simp only [Bool.and_eq_true,decide_eq_true_eq] at h
 exact ⟨h.1,nameOk_len h.1,h.2⟩
theorem join_ev [TxtC] (p:Pr) (h:prOk p = true):call cx 80 [.agg (Enc.cells p)] [] = some (.tup [.vsl false (ofBytes (payL p)) (payL p).length,.int .i64 0],[]):=by
 obtain ⟨hn,hn2,hv⟩:=prOk_len h
 have hnm:=rname_ev p.name (by omega)
 rw [hn] at hnm
 have hp:=pay_ev p (by omega) (by omega)
 have hv':¬ (256:Int) < (p.value.length:Int):=by omega
 refine call_run Tryz.func80 rfl ⟨rfl,rfl⟩ ?_
 rw [Pr.cells] at hp ⊢
 have hl:(payL p).length≤321:=by unfold payL;simp;omega
 have hne:(payL p).length≠0:=by unfold payL;simp
 generalize payL p = w at *
 have hm:w.length≤140737488355328:=by omega
 simp [Tryz.f80,hnm,hp,hv']
theorem loopJ {X:Cx} {f nt n0:Nat} {Q:Ex→Env→Heap→Prop} {fs:List Fr} {c:Code} {σ:Type} (I:σ→Env→Heap→Prop) (m:σ→Nat) (s:σ) (J:Ex→Env→Heap→Prop) {e:Env} {H:Heap} (h0:I s e H)
  (step:∀ s e H,I s e H→Run X f nt n0 (fun ex e' H'=>match ex with | .normal=>∃ s',m s' < m s∧I s' e' H' | ex=>J ex e' H') [] (code X f nt n0 c e H))
  (done:∀ ex e H,J ex e H→Run X f nt n0 Q fs (some (ex,e,H))):Run X f nt n0 Q fs (code X f nt n0 (.loop c) e H):=by
 refine Run.loopThen I m s h0 fun s e H hi=>Run.mono (step s e H hi) fun ex e H hq=>?_
 rw [run_nil]
 cases ex with
 | normal=>exact hq
 | _=>exact done _ _ _ hq
def LsM (L:List Pr) (d:D) (H:Heap):Prop :=
 ∃ n k t,n = L.length * 2∧k = L.length∧((d = .osl 1 n 0 k 2∧H = [some t,some (encs L)])∨(d = .osl 0 n 0 k 2∧H = [some (encs L),some t])∨(d = .osl 0 n 0 k 2∧H = [some (encs L)]))
def LsH (out:List Pr) (d:D) (H:Heap):Prop :=
 (out = []∧d = .vsl true [] 0∧H = [])∨(out≠[]∧LsM out d H)
def LsQ (q:D × Heap):Prop:= ∃ out:List Pr,1≤out.length∧out.length≤4∧(∀ p∈out,mkOk p = true)∧q = (.tup [.vsl false (encs out) out.length,.int .i64 0],[])
set_option maxHeartbeats 4000000 in
theorem list_ev [TxtC] (l:List Pr) (h1:1≤l.length) (h4:l.length≤4) (hok:∀ p∈l,mkOk p = true):∃ q,call cx 53 [.vsl false (encs l) l.length] [] = some q∧LsQ q:=by
 refine call_runE (X:=cx) (f:=53) (args:=[.vsl false (encs l) l.length]) (H:=[]) LsQ Tryz.func53 rfl ⟨rfl,rfl⟩ ?_
 have hz:¬ l.length = 0:=by omega
 simp [Tryz.f53,hz]
 refine Run.loopThen (fun (q:Nat × List Pr) e H'=>q.1≤l.length∧q.2.length≤q.1∧(1≤q.1→1≤q.2.length)∧(∀ p∈q.2,mkOk p = true)∧look e 0 = some (.vsl false (encs l) l.length)∧look e 5 = some (.int .i64 (q.1:Nat))∧∃ d,look e 4 = some d∧LsH q.2 d H') (fun q=>l.length - q.1) (0,[]) ?_ ?_
 ·exact ⟨by simp,by simp,by simp,by simp,by simp,by simp,_,by simp,.inl ⟨rfl,rfl,rfl⟩⟩
 rintro ⟨i,out⟩ e H' ⟨hi,ho,ho1,hp,k0,k5,d,k4,hH⟩
 simp only at hi ho ho1 hp k5 hH
 by_cases hlt:i < l.length
 ·have hlt':(i:Int) < (l.length:Int):=by omega
  have hj:=join_ev l[i] (mkOk_ok (hok _ (List.getElem_mem hlt)))
  have hpl:=hok _ (List.getElem_mem hlt)
  obtain ⟨-,hb1,hb2⟩:=prOk_len (mkOk_ok hpl)
  have hw5:IntKind.i64.wrap ((i:Int)+1) = ((i+1:Nat):Int):=by rw [wrap_i64] <;> omega
  rw [Pr.cells] at hj
  rcases hH with ⟨rfl,rfl,rfl⟩ | ⟨hne,n,k,t,hn,hk,hH⟩
  ·simp [k0,k4,k5,hlt,hlt',hj,Pr.cells]
   refine run_unroll ?_
   simp [maxBytes]
   refine run_unroll ?_
   simp [hlt,hlt',Pr.cells,hw5]
   exact ⟨i+1,by omega,by omega,[l[i]],by simp,fun _=>by simp,by simp [hpl],by simp,.inr ⟨by simp,2,1,_,rfl,rfl,.inl ⟨rfl,rfl⟩⟩⟩
  have htk:List.take n (encs out) = encs out:=List.take_of_length_le (by simp;omega)
  have hlk:out.length = k:=hk.symm
  have hkn:k * 2 = n:=by omega
  have hm1:(k+1) * 32≤140737488355328:=by omega
  have hm2:k+1≤140737488355328:=by omega
  have hwk:IntKind.i64.wrap (k:Int) = (k:Int):=by rw [wrap_i64];omega
  rcases hH with ⟨rfl,rfl⟩ | ⟨rfl,rfl⟩ | ⟨rfl,rfl⟩
  all_goals
   simp [k0,k4,k5,hlt,hlt',hj,Pr.cells]
   refine loopJ (fun (z:Nat) e H'=>z≤k∧look e 0 = some (.vsl false (encs l) l.length)∧look e 4 = some (.osl 0 n 0 k 2)∧look e 5 = some (.int .i64 (i:Nat))∧look e 8 = some (.int .i64 (z:Nat))∧H' = [some (encs out)]) (fun z=>k - z) 0
    (fun ex e H'=>ex = .exit 2∧∃ z,z≤k∧look e 0 = some (.vsl false (encs l) l.length)∧look e 4 = some (.osl 0 n 0 k 2)∧look e 5 = some (.int .i64 (i:Nat))∧look e 8 = some (.int .i64 (z:Nat))∧H' = [some (encs out)]) ⟨Nat.zero_le _,by simp,by simp,by simp,by simp,rfl⟩ ?_ ?_
   ·clear k0 k4 k5
    rintro z e H' ⟨hz,k0,k4,k5,k8,rfl⟩
    have hwz:IntKind.i64.wrap ((z:Int)+1) = ((z+1:Nat):Int):=by rw [wrap_i64] <;> omega
    by_cases hzl:z < k
    ·have hzo:z < out.length:=by omega
     obtain ⟨-,c1,c2⟩:=prOk_len (mkOk_ok (hp _ (List.getElem_mem hzo)))
     have p1:=pay_ev out[z] (by omega) (by omega)
     have p2:=pay_ev l[i] (by omega) (by omega)
     rw [Pr.cells] at p1 p2
     generalize payL out[z] = w1 at *
     generalize payL l[i] = w2 at *
     cases hb:Op.bytesLess w1 w2 with
     | true =>
      simp [k0,k4,k5,k8,hzl,hlt,hlt',Pr.cells,p1,p2,hb,hwz,hlk,hkn]
      exact ⟨z+1,by omega,by omega,rfl⟩
     | false =>
      simp [k0,k4,k5,k8,hzl,hlt,hlt',Pr.cells,p1,p2,hb,hlk,hkn]
      exact ⟨z,hz,rfl⟩
    ·simp [k0,k4,k5,k8,hzl]
     exact ⟨z,hz,rfl⟩
   ·clear k0 k4 k5
    rintro ex e H' ⟨rfl,z,hz,k0,k4,k5,k8,rfl⟩
    have hcase:(∃ h:z < out.length,out[z].name = l[i].name∧out[z].value = l[i].value)∨(∃ h:z < out.length,¬ out[z].name = l[i].name)∨(∃ h:z < out.length,out[z].name = l[i].name∧¬ out[z].value = l[i].value)∨¬ z < k:=by
     by_cases h:z < out.length
     ·by_cases h1:out[z].name = l[i].name
      ·by_cases h2:out[z].value = l[i].value
       ·exact .inl ⟨h,h1,h2⟩
       ·exact .inr (.inr (.inl ⟨h,h1,h2⟩))
      ·exact .inr (.inl ⟨h,h1⟩)
     ·exact .inr (.inr (.inr (by omega)))
    have hcon:=fun (h:z < out.length)=>(show z < k by omega)
    rcases hcase with ⟨hzo,e1,e2⟩ | ⟨hzo,e1⟩ | ⟨hzo,e1,e2⟩ | hzl
    ·simp [k0,k4,k5,k8,hcon hzo,hlt,hlt',Pr.cells,e1,e2,hlk,hkn,hw5]
     exact ⟨i+1,by omega,by omega,out,by omega,fun _=>by omega,hp,by simp,.inr ⟨hne,n,k,t,hn,hk,.inr (.inr ⟨rfl,rfl⟩)⟩⟩
    all_goals
     first
      | simp [k0,k4,k5,k8,hcon hzo,hlt,hlt',Pr.cells,e1,e2,hlk,hkn,hwk,hm1,hm2,maxBytes]
      | simp [k0,k4,k5,k8,hcon hzo,hlt,hlt',Pr.cells,e1,hlk,hkn,hwk,hm1,hm2,maxBytes]
      | simp [k0,k4,k5,k8,hzl,hlk,hkn,hwk,hm1,hm2,maxBytes]
     refine loopJ (fun (q:Nat × List Pr) e H'=>z≤q.1∧q.1≤k∧q.2.length = k+1∧(∀ x (h:x < q.2.length),x≠q.1→mkOk q.2[x] = true)∧look e 0 = some (.vsl false (encs l) l.length)∧look e 4 = some (.osl 0 (n+2) 0 (k+1) 2)∧look e 5 = some (.int .i64 (i:Nat))∧look e 8 = some (.int .i64 (z:Nat))∧look e 9 = some (.int .i64 (q.1:Nat))∧H' = [some (encs q.2),some [.str [],.str []]]) (fun q=>q.1 - z) (k,out ++ [⟨[],[]⟩])
      (fun ex e H'=>ex = .exit 4∧∃ L:List Pr,L.length = k+1∧(∀ x (h:x < L.length),x≠z→mkOk L[x] = true)∧look e 0 = some (.vsl false (encs l) l.length)∧look e 4 = some (.osl 0 (n+2) 0 (k+1) 2)∧look e 5 = some (.int .i64 (i:Nat))∧look e 8 = some (.int .i64 (z:Nat))∧H' = [some (encs L),some [.str [],.str []]]) ?_ ?_ ?_
     ·refine ⟨hz,Nat.le_refl _,by simp [hlk],fun x h hx=>?_,by simp,by simp,by simp,by simp,by simp,by rw [encs_snoc];rfl⟩
      have hxo:x < out.length:=by simp at h;omega
      simp only [List.getElem_append_left hxo]
      exact hp _ (List.getElem_mem hxo)
     ·clear k0 k4 k5 k8
      rintro ⟨j,L⟩ e H' ⟨hzj,hjk,hLl,hLp,k0,k4,k5,k8,k9,rfl⟩
      simp only at hzj hjk hLl hLp k9
      by_cases hj2:z < j
      ·obtain ⟨a,rfl⟩:∃ a,j = a+1:=⟨j - 1,by omega⟩
       have hwa:IntKind.i64.wrap (((a+1:Nat):Int) - 1) = (a:Int):=by rw [wrap_i64] <;> omega
       have hwb:IntKind.i64.wrap ((a:Int)+1 - 1) = (a:Int):=by rw [wrap_i64] <;> omega
       have hwc:IntKind.i64.wrap (a:Int) = (a:Int):=by rw [wrap_i64];omega
       have hak:a < k:=by omega
       have ha1:(a:Int) < (k:Int)+1:=by omega
       have hza:(z:Int) < (a:Int)+1:=by omega
       have hza2:z < a+1:=hj2
       have h0a:(0:Int)≤(a:Int)+1:=by omega
       have ha2n:(a+1) * 2≤n:=by omega
       have ha2:a < L.length:=by omega
       have ha3:a+1 < L.length:=by omega
       have hLn:L.length * 2 = n+2:=by omega
       simp [k0,k4,k5,k8,k9,hwc,hak,ha1,ha2,ha3,hLn,hza,h0a,ha2n]
       refine ⟨a,by omega,by omega,by omega,_,by simp [hLl],fun x h hx=>?_,rfl,rfl⟩
       rw [List.getElem_set]
       split
       ·exact hLp a ha2 (by omega)
       ·exact hLp x (by simpa using h) (by omega)
      ·simp [k0,k4,k5,k8,k9,hj2]
       exact ⟨L,hLl,fun x h hx=>hLp x h (by omega),rfl⟩
     ·clear k0 k4 k5 k8
      rintro ex e H' ⟨rfl,L,hLl,hLp,k0,k4,k5,k8,rfl⟩
      have hzl2:z < L.length:=by omega
      have hz1:(z:Int) < (k:Int)+1:=by omega
      have hz2:z * 2≤n:=by omega
      have hLn:L.length * 2 = n+2:=by omega
      simp [k0,k4,k5,k8,hzl2,hlt,hlt',hw5,hz1,hz2,hLn]
      refine ⟨i+1,by omega,by omega,L.set z l[i],by simp [hLl];omega,fun _=>by simp [hLl],fun p hp=>?_,by simp,.inr ⟨fun h=>?_,n+2,k+1,_,by simp [hLn],by simp [hLl],.inr (.inl ⟨rfl,rfl⟩)⟩⟩
      ·obtain ⟨x,hx,rfl⟩:=List.mem_iff_getElem.1 hp
       rw [List.getElem_set]
       split
       ·exact hpl
       ·exact hLp x (by simpa using hx) (by omega)
      ·have:=congrArg List.length h
       simp [hLl] at this
 ·have hlt':¬ (i:Int) < (l.length:Int):=by omega
  have ho2:=ho1 (by omega)
  rcases hH with ⟨rfl,rfl,rfl⟩ | ⟨hne,n,k,t,hn,hk,hH⟩
  ·simp at ho2
  have h16:¬ (16:Int) < (k:Int):=by omega
  have htk:List.take n (encs out) = encs out:=List.take_of_length_le (by simp;omega)
  have hlk:out.length = k:=hk.symm
  have hkn:k * 2 = n:=by omega
  rcases hH with ⟨rfl,rfl⟩ | ⟨rfl,rfl⟩ | ⟨rfl,rfl⟩
  all_goals
   simp [k0,k4,k5,hlt',h16,htk,hlk,hkn]
   exact ⟨out,by omega,by omega,hp,by rw [hlk]⟩
end Go.Ev.S
namespace Go.Ev.S
open Go Go.Proofs Go.Ev
def GrowH {α:Type} [Enc α] (S:List D) (sz:Nat) (l:List α) (d:D) (H:Heap):Prop :=
 (l = []∧d = .vsl true [] 0∧H = [some S])∨(l≠[]∧∃ n k t,n = l.length * sz∧k = l.length∧((d = .osl 2 n 0 k sz∧H = [some S,some t,some (encs l)])∨(d = .osl 1 n 0 k sz∧H = [some S,some (encs l),some t])))
def PrsQ (nil:Bool) (zs:List Int) (q:D × Heap):Prop:= ∃ (l:List Pr) (k':Nat),1≤l.length∧l.length≤4∧(∀ p∈l,mkOk p = true)∧q = (.vsl false (encs l) l.length,[some (seqD nil zs k')])
set_option maxHeartbeats 1000000 in
theorem mpairs_ev [TxtC] (nil:Bool) (zs:List Int) (hnil:nil = true→zs = []) (hz:zs.length≤1000000) (k:Nat) :
  ∃ q,call cx 54 [.optr 0 2 0,.int .i64 4] [some (seqD nil zs k)] = some q∧PrsQ nil zs q:=by
 obtain ⟨x,k1,hx,-,h1⟩:=n_ev nil zs hnil hz k 4 (by decide) (by decide)
 refine call_runE (X:=cx) (f:=54) (args:=[.optr 0 2 0,.int .i64 4]) (H:=[some (seqD nil zs k)]) (PrsQ nil zs) Tryz.func54 rfl ⟨rfl,rfl⟩ ?_
 have hw:IntKind.i64.wrap ((x:Int)+1) = ((x+1:Nat):Int):=by rw [wrap_i64] <;> omega
 have sf:=seqD_free nil zs
 have sl:=seqD_len nil zs
 have sc:=seqD_cl nil zs
 simp [Tryz.f54,h1,sf]
 refine Run.loopThen (fun (q:List Pr × Nat × Nat) e H'=>q.1.length+q.2.1 = x+1∧(∀ p∈q.1,mkOk p = true)∧look e 0 = some (.optr 0 2 0)∧look e 6 = some (.int .i64 (q.2.1:Nat))∧∃ d,look e 5 = some d∧GrowH (seqD nil zs q.2.2) 2 q.1 d H') (fun q=>q.2.1) ([],x+1,k1) ?_ ?_
 ·exact ⟨by simp,by simp,by simp,by simp [hw],_,by simp,.inl ⟨rfl,rfl,rfl⟩⟩
 rintro ⟨l,i,k2⟩ e H' ⟨hi,hok,k0,k6,d,k5,hH⟩
 simp only at hi hok k6 hH
 obtain ⟨p,k3,hp,h2⟩:=mpair_ev nil zs hnil hz k2
 rcases hH with ⟨rfl,rfl,rfl⟩ | ⟨hne,n,m,t,hn,hm,hH⟩
 ·have hi0:0 < i:=by simp at hi;omega
  have hw2:IntKind.i64.wrap ((i:Int) - 1) = ((i - 1:Nat):Int):=by rw [wrap_i64] <;> (simp at hi;omega)
  simp [k0,k5,k6,hi0,h2,sf,sc,hw2,Pr.cells,maxBytes]
  exact ⟨[p],i - 1,by omega,by simp at hi ⊢;omega,by simp [hp],rfl,k3,.inr ⟨by simp,2,1,_,rfl,rfl,.inl ⟨rfl,rfl⟩⟩⟩
 ·have hm1:(m+1) * 32≤140737488355328:=by omega
  have hm2:m+1≤140737488355328:=by omega
  have hlk:l.length = m:=hm.symm
  have hkn:m * 2 = n:=by omega
  have htk:List.take n (encs l) = encs l:=List.take_of_length_le (by simp;omega)
  by_cases hi0:0 < i
  ·have hw2:IntKind.i64.wrap ((i:Int) - 1) = ((i - 1:Nat):Int):=by rw [wrap_i64] <;> omega
   rcases hH with ⟨rfl,rfl⟩ | ⟨rfl,rfl⟩
   all_goals
    simp [k0,k5,k6,hi0,h2,sf,sc,hw2,Pr.cells,maxBytes,hlk,hkn,hm1,hm2]
    refine ⟨l ++ [p],i - 1,by omega,by simp;omega,fun q hq=>?_,rfl,k3,.inr ⟨by simp,n+2,m+1,_,by simp;omega,by simp [hlk],.inr ⟨rfl,by rw [encs_snoc];rfl⟩⟩⟩
    rcases List.mem_append.1 hq with h | h
    ·exact hok q h
    ·rw [List.mem_singleton.1 h];exact hp
  ·have hie:l.isEmpty = false:=by simpa using hne
   have hl1:1≤l.length:=by
    cases l with
    | nil=>exact absurd rfl hne
    | cons=>simp
   rcases hH with ⟨rfl,rfl⟩ | ⟨rfl,rfl⟩
   all_goals
    simp [k0,k5,k6,hi0,sc,hlk,hkn,htk]
    exact ⟨l,k2,hl1,by omega,hok,by rw [hlk]⟩
end Go.Ev.S
namespace Go.Ev.S
open Go Go.Proofs Go.Ev
def RecR (n:Nat) (r:Rec):Prop:=r.seq = n∧r.Ok∧1≤r.fields.l.length∧r.fields.l.length≤4∧∀ p∈r.fields.l,mkOk p = true
theorem u64_of {n:Nat} (h:n < 18446744073709551616):isU64 (n:Int):=by
 unfold isU64
 omega
set_option maxHeartbeats 1000000 in
theorem mrec_ev [TxtC] (nil:Bool) (zs:List Int) (hnil:nil = true→zs = []) (hz:zs.length≤1000000) (k:Nat) (n:Nat) (hn:n < 18446744073709551616) :
  ∃ (r:Rec) (k':Nat),RecR n r∧call cx 32 [.optr 0 2 0,.int .u64 n] [some (seqD nil zs k)] = some (.agg (Enc.cells r),[some (seqD nil zs k')]):=by
 obtain ⟨q,h1,l,k1,hl1,hl4,hp,rfl⟩:=mpairs_ev nil zs hnil hz k
 obtain ⟨q,h2,out,ho1,ho4,hop,rfl⟩:=list_ev l hl1 hl4 hp
 obtain ⟨x,k2,hx,-,h3⟩:=n_ev nil zs hnil hz k1 40 (by decide) (by decide)
 obtain ⟨y,k3,hy,-,h4⟩:=n_ev nil zs hnil hz k2 9 (by decide) (by decide)
 obtain ⟨z,k4,hz3,-,h5⟩:=n_ev nil zs hnil hz k3 3 (by decide) (by decide)
 have h6:=mid_small (j:=z) (by omega)
 refine ⟨⟨n,x,y,idN z,.of out⟩,k4,⟨rfl,⟨u64_of hn,u64_of (by omega),u64_of (by omega)⟩,ho1,ho4,hop⟩,?_⟩
 have sf:=seqD_free nil zs
 have sl:=seqD_len nil zs
 have sc:=seqD_cl nil zs
 have hx64:IntKind.u64.wrap (x:Int) = (x:Int):=by rw [wrap_u64];omega
 have hy64:IntKind.u64.wrap (y:Int) = (y:Int):=by rw [wrap_u64];omega
 have hi:=(idN z).h
 generalize idN z = iz at *
 have ht:List.take 16 (ofBytes iz.l) = ofBytes iz.l:=List.take_of_length_le (by simp)
 have hd:List.drop 17 (ofBytes iz.l ++ [D.vsl true [] 0]) = []:=List.drop_eq_nil_of_le (by simp)
 refine call_run Tryz.func32 rfl ⟨rfl,rfl⟩ ?_
 simp [Tryz.f32,h1,h2,h3,h4,h5,h6,sf,sc,hx64,hy64,Rec.cells,hi,hd,List.take_append]

end Go.Ev.S
namespace Go.Ev
open Go Go.Proofs
mutual
theorem noZ_free:∀ (d:D),idFree d = true→noZ d = true
 | .agg cs,h=>by simp only [idFree] at h;simp only [noZ];exact noZL_free cs h
 | .tup cs,h=>by simp only [idFree] at h;simp only [noZ];exact noZL_free cs h
 | .fn _ cs,h=>by simp only [idFree] at h;simp only [noZ];exact noZL_free cs h
 | .iface _ d,h=>by simp only [idFree] at h;simp only [noZ];exact noZ_free d h
 | .optr ..,h=>by simp [idFree] at h
 | .osl ..,h=>by simp [idFree] at h
 | .bool _,_=>rfl
 | .int _ _,_=>rfl
 | .str _,_=>rfl
 | .nilp,_=>rfl
 | .nilf,_=>rfl
 | .nili,_=>rfl
 | .vptr _,_=>rfl
 | .vsl ..,_=>rfl
 | .raw _,_=>rfl
theorem noZL_free:∀ (l:List D),idFree.idFreeL l = true→noZ.noZL l = true
 | [],_=>rfl
 | d :: l,h=>by
  simp only [idFree.idFreeL,Bool.and_eq_true] at h
  simp only [noZ.noZL,noZ_free d h.1,noZL_free l h.2,Bool.and_self]
end
@[simp] theorem noZL_append (a b:List D):noZ.noZL (a ++ b) = (noZ.noZL a && noZ.noZL b):=by
 induction a with
 | nil=>simp [noZ.noZL]
 | cons d l ih=>simp [noZ.noZL,ih,Bool.and_assoc]
@[simp] theorem noZL_of (l:List UInt8):noZ.noZL (ofBytes l) = true:=noZL_free _ (by simp)
@[simp] theorem noZL_cells {α:Type} [Enc α] (a:α):noZ.noZL (Enc.cells a) = true:=noZL_free _ (cells_idFreeL a)
@[simp] theorem noZL_encs {α:Type} [Enc α] (l:List α):noZ.noZL (encs l) = true:=noZL_free _ (encs_idFreeL l)
end Go.Ev
namespace Go.Ev.S
open Go Go.Proofs Go.Ev
def MadeI (it:It):Prop:=it.Ok∧itOk it = true∧it.rc.fields.l.length≤4∧∀ p∈it.rc.fields.l,mkOk p = true
theorem u64_zero':isU64 0:=by unfold isU64;decide
def recZ:Rec:=⟨0,0,0,ID.zero,.none⟩
theorem made_gap (q:ID) {n t:Nat} (h1:1≤n) (h2:n≤t) (h3:t < 18446744073709551616):MadeI ⟨q,true,n,t,recZ⟩:=by
 refine ⟨⟨u64_of (by omega),u64_of (by omega),⟨u64_zero',u64_zero',u64_zero'⟩⟩,?_,Nat.zero_le _,fun p hp=>by cases hp⟩
 unfold itOk gapOk
 simp [recZ,Sl.none]
 omega
theorem made_rec (q:ID) {n:Nat} {r:Rec} (h1:1≤n) (h:RecR n r):MadeI ⟨q,false,0,0,r⟩:=by
 obtain ⟨a,b,c,d,e⟩:=h
 refine ⟨⟨u64_zero',u64_zero',b⟩,?_,d,e⟩
 unfold itOk recOk
 simp [a]
 exact ⟨⟨⟨by omega,c⟩,by omega⟩,fun p hp=>mkOk_ok (e p hp)⟩
theorem intsK_set {k:IntKind} {l:List Int} {i:Nat} {v:Int} (h:i < l.length):setRange (intsK k l) i [.int k v] = intsK k (l.set i v):=by
 have hi:i < (intsK k l).length:=by simpa using h
 have e:(intsK k l).set i (.int k v) = intsK k (l.set i v):=by unfold intsK;rw [List.map_set]
 rw [← e,List.set_eq_take_append_cons_drop,if_pos hi]
 unfold setRange
 simp
theorem gap_cells (q:ID) (n t:Int):Enc.cells (⟨q,true,n,t,recZ⟩:It) = ofBytes q.l ++ [.bool true,.int .u64 n,.int .u64 t,.int .u64 0,.int .u64 0,.int .u64 0,.int .u8 0,.int .u8 0,.int .u8 0,.int .u8 0,.int .u8 0,.int .u8 0,.int .u8 0,.int .u8 0,.int .u8 0,.int .u8 0,.int .u8 0,.int .u8 0,.int .u8 0,.int .u8 0,.int .u8 0,.int .u8 0,.vsl true [] 0]:=by
 rw [It.cells]
 rfl
theorem rec_cells (q:ID) (r:Rec):Enc.cells (⟨q,false,0,0,r⟩:It) = ofBytes q.l ++ (.bool false :: .int .u64 0 :: .int .u64 0 :: Enc.cells r):=by
 rw [It.cells,Rec.cells]
 rfl
theorem rec_noZ (r:Rec):noZ.noZL (Enc.cells r) = true:=by
 rw [Rec.cells]
 simp
def ItsH (S:List D) (out:List It) (last:List Int) (d5 d6:D) (H:Heap):Prop :=
 (out = []∧d5 = .vsl true [] 0∧d6 = .optr 1 3 0∧H = [some S,some (intsK .u64 last)]) ∨
 (out≠[]∧∃ n m t,n = out.length * 39∧m = out.length∧((d5 = .osl 3 n 0 m 39∧d6 = .optr 1 3 0∧H = [some S,some (intsK .u64 last),some t,some (encs out)])∨(d5 = .osl 1 n 0 m 39∧d6 = .optr 2 3 0∧H = [some S,some (encs out),some (intsK .u64 last),some t])))
end Go.Ev.S
namespace Go.Ev.S
open Go Go.Proofs Go.Ev
end Go.Ev.S
namespace Go.Ev.S
open Go Go.Proofs Go.Ev
def fstN (x:It):Int:=if x.gap then x.fr else x.rc.seq
def lstN (x:It):Int:=if x.gap then x.til else x.rc.seq
def RiseI (L:List It):Prop:= ∀ i j (hi:i < j) (hj:j < L.length),(L[i]'(by omega)).id = L[j].id→lstN (L[i]'(by omega)) < fstN L[j]
structure SeqR (L:List It):Prop where
 rise:RiseI L
 num:∀ x∈L,∃ j,j < 3∧x.id = idN j∧1≤fstN x∧fstN x≤lstN x∧lstN x≤L.length * 6
structure GoodL (L:List It) (last:List Int):Prop where
 rise:RiseI L
 num:∀ x∈L,∃ j,j < 3∧x.id = idN j∧1≤fstN x∧fstN x≤lstN x∧∀ h:j < last.length,lstN x≤last[j]
theorem goodL_nil (last:List Int):GoodL [] last:=⟨fun i j _ hj=>absurd hj (Nat.not_lt_zero _),fun x hx=>by cases hx⟩
theorem seqR_nil:SeqR []:=⟨fun i j _ hj=>absurd hj (Nat.not_lt_zero _),fun x hx=>by cases hx⟩
theorem seqR_of {L:List It} {last:List Int} (h:GoodL L last) (h3:last.length = 3) (hb:∀ v∈last,0≤v∧v≤L.length * 6):SeqR L:=by
 refine ⟨h.rise,fun x hx=>?_⟩
 obtain ⟨j,h1,h2,h4,h5,h6⟩:=h.num x hx
 have hj:j < last.length:=by omega
 have h7:=h6 hj
 have h8:=(hb _ (List.getElem_mem hj)).2
 exact ⟨j,h1,h2,h4,h5,by omega⟩
theorem idN_inj:∀ i < 4,∀ j < 4,idN i = idN j→i = j:=by decide
theorem goodL_add {L:List It} {last:List Int} (h:GoodL L last) (h3:last.length = 3) {k:Nat} (hk:k < 3) {v:Nat} (hv:last[k]'(by omega) = (v:Int)) (y:It) (hy:y.id = idN k) (a b:Nat) (ha:fstN y = (a:Int)) (hb:lstN y = (b:Int)) (h1:v < a) (h2:a≤b):GoodL (L ++ [y]) (last.set k (b:Int)):=by
 have hkl:k < last.length:=by omega
 have old:∀ x∈L,x.id = y.id→lstN x < fstN y:=by
  intro x hx he
  obtain ⟨j,j1,j2,j3,j4,j5⟩:=h.num x hx
  have:j = k:=idN_inj j (by omega) k (by omega) (by rw [← j2,← hy,he])
  subst this
  have:=j5 hkl
  omega
 refine ⟨fun i j hi hj he=>?_,fun x hx=>?_⟩
 ·rw [List.length_append,List.length_singleton] at hj
  by_cases hjl:j < L.length
  ·have hil:i < L.length:=by omega
   simp only [List.getElem_append_left hjl,List.getElem_append_left hil] at he ⊢
   exact h.rise i j hi hjl he
  ·have hil:i < L.length:=by omega
   have hje:j = L.length:=by omega
   subst hje
   simp only [List.getElem_append_left hil,List.getElem_concat_length] at he ⊢
   exact old _ (List.getElem_mem hil) he
 ·rcases List.mem_append.1 hx with hx | hx
  ·obtain ⟨j,j1,j2,j3,j4,j5⟩:=h.num x hx
   refine ⟨j,j1,j2,j3,j4,fun hj=>?_⟩
   rw [List.length_set] at hj
   rw [List.getElem_set]
   split
   ·rename_i hkj
    subst hkj
    have:=j5 hkl
    omega
   ·exact j5 hj
  ·rw [List.mem_singleton.1 hx]
   refine ⟨k,hk,hy,by omega,by omega,fun hj=>?_⟩
   rw [List.getElem_set_self]
   omega
def ItsR (nil:Bool) (zs:List Int) (most k:Nat) (q:D × Heap):Prop:= ∃ (out:List It) (k':Nat),out.length≤most∧(∀ it∈out,MadeI it)∧(k < zs.length→0 < most→out≠[])∧SeqR out ∧
 ((out = []∧q = (.vsl true [] 0,[some (seqD nil zs k')]))∨(out≠[]∧∃ n m,n = out.length * 39∧m = out.length∧q = (.osl 1 n 0 m 39,[some (seqD nil zs k'),some (encs out)])))
set_option maxHeartbeats 4000000 in
theorem items_evr [TxtC] (nil:Bool) (zs:List Int) (hnil:nil = true→zs = []) (hz:zs.length≤1000000) (k:Nat) (most:Nat) (hmost:most≤100) :
  ∃ q,call cx 13 [.optr 0 2 0,.int .i64 most] [some (seqD nil zs k)] = some q∧ItsR nil zs most k q:=by
 refine call_runE (X:=cx) (f:=13) (args:=[.optr 0 2 0,.int .i64 most]) (H:=[some (seqD nil zs k)]) (ItsR nil zs most k) Tryz.func13 rfl ⟨rfl,rfl⟩ ?_
 have sf:=seqD_free nil zs
 have sl:=seqD_len nil zs
 have sc:=seqD_cl nil zs
 simp [Tryz.f13]
 refine Run.loopThen (fun (q:List It × List Int × Nat) e H'=>q.1.length≤most∧(∀ it∈q.1,MadeI it)∧q.2.1.length = 3∧(∀ v∈q.2.1,0≤v∧v≤q.1.length * 6)∧look e 0 = some (.optr 0 2 0)∧look e 1 = some (.int .i64 most)∧∃ d5 d6,look e 5 = some d5∧look e 6 = some d6∧ItsH (seqD nil zs q.2.2) q.1 q.2.1 d5 d6 H'∧(q.1 = []→q.2.2 = k)∧GoodL q.1 q.2.1) (fun q=>most - q.1.length) ([],[0,0,0],k) ?_ ?_
 ·exact ⟨by simp,by simp,by simp,by simp,by simp,by simp,_,_,by simp,by simp,.inl ⟨rfl,rfl,rfl,rfl⟩,fun _=>rfl,goodL_nil _⟩
 rintro ⟨out,last,k1⟩ e H' ⟨ho,hmade,hl3,hlast,k0,k1',d5,d6,k5,k6,hH,hk0,hGL⟩
 simp only at ho hmade hl3 hlast hH hk0 hGL
 have hmo:=more_ev nil zs k1
 have hlf:(∀ x,x∈intsK .u64 last→idFree x = true) = True:=eq_true (by simp [intsK])
 have hlc:∀ n,(∀ x,x∈intsK .u64 last→closed n x = true) = True:=fun n=>eq_true (by simp [intsK])
 obtain ⟨x1,k2,hx1,-,c1⟩:=n_ev nil zs hnil hz k1 3 (by decide) (by decide)
 obtain ⟨x2,k3,hx2,-,c2⟩:=n_ev nil zs hnil hz k2 3 (by decide) (by decide)
 obtain ⟨x3,k4,hx3,-,c3⟩:=n_ev nil zs hnil hz k3 4 (by decide) (by decide)
 obtain ⟨x4,k5',hx4,-,c4⟩:=n_ev nil zs hnil hz k4 4 (by decide) (by decide)
 have hid:=mid_small (j:=x1) (by omega)
 have hx1l:x1 < last.length:=by omega
 have hat:=intsK_at (k:=.u64) hx1l
 have hx1i:(x1:Int) < 3:=hx1
 have hxn:x1 < 3:=by omega
 have hxn2:x1+1≤3:=by omega
 obtain ⟨hv0,hv1⟩:=hlast _ (List.getElem_mem hx1l)
 obtain ⟨v,hv⟩:∃ v:Nat,last[x1] = (v:Int):=⟨last[x1].toNat,by omega⟩
 have hx1n:x1 < 3:=by omega
 rw [hv] at hat hv0 hv1
 have w1:IntKind.u64.wrap ((v:Int)+1) = (v:Int)+1:=by rw [wrap_u64];omega
 have w2:IntKind.u64.wrap (x2:Int) = (x2:Int):=by rw [wrap_u64];omega
 have w3:IntKind.u64.wrap ((v:Int)+1+(x2:Int)) = (v:Int)+1+(x2:Int):=by rw [wrap_u64];omega
 have w4:IntKind.u64.wrap (x4:Int) = (x4:Int):=by rw [wrap_u64];omega
 have w5:IntKind.u64.wrap ((v:Int)+1+(x2:Int)+(x4:Int)) = (v:Int)+1+(x2:Int)+(x4:Int):=by rw [wrap_u64];omega
 obtain ⟨r,k6',hr,c6⟩:=mrec_ev nil zs hnil hz k4 (v+1+x2) (by omega)
 rw [show ((v+1+x2:Nat):Int) = (v:Int)+1+x2 by omega] at c6
 have hq:=(idN x1).h
 have hgm:=made_gap (idN x1) (n:=v+1+x2) (t:=v+1+x2+x4) (by omega) (by omega) (by omega)
 have hrm:=made_rec (idN x1) (n:=v+1+x2) (by omega) hr
 rw [show ((v+1+x2:Nat):Int) = (v:Int)+1+x2 by omega] at hgm
 rw [show ((v+1+x2+x4:Nat):Int) = (v:Int)+1+x2+x4 by omega] at hgm
 have hSR:=seqR_of hGL hl3 hlast
 have hG1:=goodL_add hGL hl3 hx1n hv ⟨idN x1,true,((v+1+x2:Nat):Int),((v+1+x2+x4:Nat):Int),recZ⟩ rfl (v+1+x2) (v+1+x2+x4) rfl rfl (by omega) (by omega)
 have hG2:=goodL_add hGL hl3 hx1n hv ⟨idN x1,false,0,0,r⟩ rfl (v+1+x2) (v+1+x2) hr.1 hr.1 (by omega) (by omega)
 rw [show ((v+1+x2:Nat):Int) = (v:Int)+1+x2 by omega] at hG2
 rw [show ((v+1+x2:Nat):Int) = (v:Int)+1+x2 by omega,show ((v+1+x2+x4:Nat):Int) = (v:Int)+1+x2+x4 by omega] at hG1
 generalize idN x1 = iq at *
 have hq16:List.take 16 (ofBytes iq.l) = ofBytes iq.l:=List.take_of_length_le (by simp)
 have hq39:List.take 39 (ofBytes iq.l) = ofBytes iq.l:=List.take_of_length_le (by simp)
 have hset1:=fun x=>intsK_set (k:=.u64) (v:=x) hx1l
 have hlast1:∀ x:Int,0≤x→x≤(out.length+1:Nat) * 6→∀ y∈last.set x1 x,0≤y∧y≤(out.length+1:Nat) * 6:=by
  intro x h1 h2 y hy
  rcases List.mem_or_eq_of_mem_set hy with h | rfl
  ·have:=hlast y h
   omega
  ·exact ⟨h1,h2⟩
 have hrz:=rec_noZ r
 by_cases h0:out.length < most
 case neg =>
  rcases hH with ⟨rfl,rfl,rfl,rfl⟩ | ⟨hne,n,m,t,hn,hm,hH⟩
  ·have h00:¬ 0 < most:=h0
   simp [k0,k1',k5,k6,sc,hlf,h00]
   exact ⟨[],k1,by simp,by simp,fun _ h=>absurd h h00,seqR_nil,.inl ⟨rfl,rfl⟩⟩
  have h00:¬ m < most:=by omega
  have hkn:m * 39 = n:=by omega
  have hlk:out.length = m:=hm.symm
  have htk:List.take n (encs out) = encs out:=List.take_of_length_le (by simp;omega)
  rcases hH with ⟨rfl,rfl,rfl⟩ | ⟨rfl,rfl,rfl⟩
  all_goals
   simp [k0,k1',k5,k6,sc,hlf,h00,hlk]
   exact ⟨out,k1,by omega,hmade,fun _ _=>hne,hSR,.inr ⟨hne,n,m,by omega,by omega,rfl⟩⟩
 cases hmm:decide (k1 < zs.length) with
 | false =>
  rw [hmm] at hmo
  rcases hH with ⟨rfl,rfl,rfl,rfl⟩ | ⟨hne,n,m,t,hn,hm,hH⟩
  ·have h00:0 < most:=h0
   simp [k0,k1',k5,k6,hmo,sf,sc,hlf,h00]
   exact ⟨[],k1,by simp,by simp,fun h _=>(by rw [hk0 rfl,decide_eq_true h] at hmm;cases hmm),seqR_nil,.inl ⟨rfl,rfl⟩⟩
  have h00:m < most:=by omega
  have hkn:m * 39 = n:=by omega
  have hlk:out.length = m:=hm.symm
  have htk:List.take n (encs out) = encs out:=List.take_of_length_le (by simp;omega)
  rcases hH with ⟨rfl,rfl,rfl⟩ | ⟨rfl,rfl,rfl⟩
  all_goals
   simp [k0,k1',k5,k6,hmo,sf,sc,hlf,h00,hlk]
   exact ⟨out,k1,by omega,hmade,fun _ _=>hne,hSR,.inr ⟨hne,n,m,by omega,by omega,rfl⟩⟩
 | true =>
  rw [hmm] at hmo
  rcases hH with ⟨rfl,rfl,rfl,rfl⟩ | ⟨hne,n,m,t,hn,hm,hH⟩
  ·have h00:0 < most:=h0
   by_cases h3:x3 = 0
   ·subst h3
    simp [k0,k1',k5,k6,hmo,sf,sc,hlf,hl3,h00,c1,c2,c3,c4,hat,hx1i,hxn2,w1,w2,w3,w4,w5,hid,maxBytes,hq,hq39,List.take_append,List.drop_append,drop_bytes,hset1]
    refine ⟨[⟨iq,true,(v:Int)+1+x2,(v:Int)+1+x2+x4,recZ⟩],by simp;omega,by simp;omega,by simpa using hgm,last.set x1 ((v:Int)+1+x2+x4),by simp [hl3],hlast1 _ (by omega) (by simp at hv1 ⊢;omega),k5',.inr ⟨by simp,39,1,_,rfl,rfl,.inl ⟨rfl,rfl,by rw [encs_one,gap_cells]⟩⟩,fun h=>by simp at h,hG1⟩
   ·have h3':¬ (x3:Int) = 0:=by omega
    simp [k0,k1',k5,k6,hmo,sf,sc,hlf,hl3,h00,c1,c2,c3,h3,c6,hrz,hat,hx1i,hxn2,w1,w2,w3,hid,maxBytes,hq,hq39,List.take_append,List.drop_append,drop_bytes,hset1]
    refine ⟨[⟨iq,false,0,0,r⟩],by simp;omega,by simp;omega,by simpa using hrm,last.set x1 ((v:Int)+1+x2),by simp [hl3],hlast1 _ (by omega) (by simp at hv1 ⊢;omega),k6',.inr ⟨by simp,39,1,_,rfl,rfl,.inl ⟨rfl,rfl,by rw [encs_one,rec_cells]⟩⟩,fun h=>by simp at h,hG2⟩
  have h00:m < most:=by omega
  have hkn:m * 39 = n:=by omega
  have hlk:out.length = m:=hm.symm
  have htk:List.take n (encs out) = encs out:=List.take_of_length_le (by simp;omega)
  have hm1:(m+1) * 104≤140737488355328:=by omega
  have hm2:m+1≤140737488355328:=by omega
  rcases hH with ⟨rfl,rfl,rfl⟩ | ⟨rfl,rfl,rfl⟩
  all_goals
   by_cases h3:x3 = 0
   ·subst h3
    simp [k0,k1',k5,k6,hmo,sf,sc,hlf,hl3,h00,hkn,hlk,hm1,hm2,c1,c2,c3,c4,hat,hx1i,hxn2,w1,w2,w3,w4,w5,hid,maxBytes,hq,hq39,List.take_append,List.drop_append,drop_bytes,hset1]
    refine ⟨out ++ [⟨iq,true,(v:Int)+1+x2,(v:Int)+1+x2+x4,recZ⟩],by simp;omega,by simp;omega,fun it h=>?_,last.set x1 ((v:Int)+1+x2+x4),by simp [hl3],by simpa using hlast1 _ (by omega) (by simp at hv1 ⊢;omega),k5',.inr ⟨by simp,n+39,m+1,_,by simp;omega,by simp [hlk],.inr ⟨rfl,rfl,by rw [encs_snoc,gap_cells]⟩⟩,fun h=>by simp at h,hG1⟩
    rcases List.mem_append.1 h with h | h
    ·exact hmade it h
    ·rw [List.mem_singleton.1 h];exact hgm
   ·have h3':¬ (x3:Int) = 0:=by omega
    simp [k0,k1',k5,k6,hmo,sf,sc,hlf,hl3,h00,hkn,hlk,hm1,hm2,c1,c2,c3,h3,c6,hrz,hat,hx1i,hxn2,w1,w2,w3,hid,maxBytes,hq,hq39,List.take_append,List.drop_append,drop_bytes,hset1]
    refine ⟨out ++ [⟨iq,false,0,0,r⟩],by simp;omega,by simp;omega,fun it h=>?_,last.set x1 ((v:Int)+1+x2),by simp [hl3],by simpa using hlast1 _ (by omega) (by simp at hv1 ⊢;omega),k6',.inr ⟨by simp,n+39,m+1,_,by simp;omega,by simp [hlk],.inr ⟨rfl,rfl,by rw [encs_snoc,rec_cells]⟩⟩,fun h=>by simp at h,hG2⟩
    rcases List.mem_append.1 h with h | h
    ·exact hmade it h
    ·rw [List.mem_singleton.1 h];exact hrm
end Go.Ev.S
namespace Go.Ev.S
open Go Go.Proofs Go.Ev
theorem rtext_ev (it:It) (hi:it.Ok) (hb:∀ p∈it.rc.fields.l,PrB p) (hn:it.rc.fields.l.length < 1000000):call cx 22 [.agg (Enc.cells it)] [] = some (textD it,[]):=by
 unfold textD textL
 cases ho:itOk it with
 | false=>exact rtext_bad it hi hb hn ho
 | true =>
  cases hg:it.gap with
  | true=>exact rtext_gap it hi hg hb hn ho
  | false=>exact rtext_rec it hi hg ho
theorem gap_is {it:It} (hi:it.Ok) (ho:itOk it = true) (hg:it.gap = true):it.fr.toNat < 18446744073709551616∧it.til.toNat < 18446744073709551616∧((it.fr.toNat:Nat):Int) = it.fr∧((it.til.toNat:Nat):Int) = it.til∧it.rc.seq = 0∧it.rc.real = 0∧it.rc.mono = 0∧it.rc.boot = ID.zero∧it.rc.fields.l = []∧gapOk it = true:=by
 have h1:=hi.fr
 have h2:=hi.til
 unfold isU64 at h1 h2
 unfold itOk at ho
 rw [hg,if_pos rfl] at ho
 have ho':=ho
 unfold gapOk at ho
 simp only [Bool.and_eq_true,decide_eq_true_eq] at ho
 obtain ⟨⟨⟨⟨⟨⟨a1,a2⟩,a3⟩,a4⟩,a5⟩,a6⟩,a7⟩:=ho
 exact ⟨by omega,by omega,by omega,by omega,a3,a4,a5,a6,List.eq_nil_of_length_eq_zero a7,ho'⟩
theorem rec_is {it:It} (hi:it.Ok) (ho:itOk it = true) (hg:it.gap = false):(it.rc.real.toNat < 18446744073709551616∧it.rc.mono.toNat < 18446744073709551616∧it.rc.seq.toNat < 18446744073709551616)∧(((it.rc.real.toNat:Nat):Int) = it.rc.real∧((it.rc.mono.toNat:Nat):Int) = it.rc.mono∧((it.rc.seq.toNat:Nat):Int) = it.rc.seq)∧it.fr = 0∧it.til = 0∧1≤it.rc.fields.l.length∧it.rc.fields.l.length≤16∧(∀ p∈it.rc.fields.l,prOk p = true)∧recOk it = true:=by
 have h1:=hi.rc.seq
 have h2:=hi.rc.real
 have h3:=hi.rc.mono
 unfold isU64 at h1 h2 h3
 unfold itOk at ho
 rw [hg,if_neg (by decide)] at ho
 have ho':=ho
 unfold recOk at ho
 simp only [Bool.and_eq_true,decide_eq_true_eq,List.all_eq_true] at ho
 obtain ⟨⟨⟨⟨⟨a1,a2⟩,a3⟩,a4⟩,a5⟩,a6⟩:=ho
 exact ⟨⟨by omega,by omega,by omega⟩,⟨by omega,by omega,by omega⟩,a1,a2,a4,a5,a6,ho'⟩
theorem made_b {x:It} (hi:x.Ok) (ho:itOk x = true):x.rc.fields.l.length < 1000000∧∀ p∈x.rc.fields.l,PrB p:=by
 cases hg:x.gap with
 | true =>
  obtain ⟨-,-,-,-,-,-,-,-,h,-⟩:=gap_is hi ho hg
  rw [h]
  exact ⟨by decide,fun p hp=>by cases hp⟩
 | false =>
  obtain ⟨-,-,-,-,-,h16,hp,-⟩:=rec_is hi ho hg
  refine ⟨by omega,fun p hq=>?_⟩
  obtain ⟨-,h1,h2⟩:=prOk_len (hp p hq)
  exact ⟨by omega,by omega⟩
theorem textL_len {it:It} (hi:it.Ok) (ho:itOk it = true):(textL it).length≤10000∧1≤(textL it).length:=by
 unfold textL
 cases hg:it.gap with
 | true =>
  rw [if_pos rfl]
  have l1:=dec_len it.fr.toNat
  have l2:=dec_len it.til.toNat
  have l3:=hexs_len it.id.l
  rw [it.id.h] at l3
  unfold textG kGap kId
  simp
  omega
 | false =>
  rw [if_neg (by decide)]
  obtain ⟨-,-,-,-,-,-,-,h⟩:=rec_is hi ho hg
  obtain ⟨b1,-,b3⟩:=prOk_b h
  have h1:=headL_le (sixL it) (sixL_le it hi)
  have h2:=bodyL_le it.rc.fields.l 400 b3
  have h3:(sixL it).length = 6:=rfl
  rw [h3] at h1
  unfold textR
  simp only [List.length_append,List.length_cons,List.length_nil]
  have h4:it.rc.fields.l.length * 400≤16 * 400:=Nat.mul_le_mul_right _ b1
  omega
end Go.Ev.S
namespace Go.Ev.S
open Go Go.Proofs Go.Ev
theorem kcompare_ev [TxtC] (x y:Sl UInt8):call cx 84 [(.vsl x.nil (ofBytes x.l) x.l.length),(.vsl y.nil (ofBytes y.l) y.l.length)] [] = some (.int .i64 (cmpB x.l y.l),[]):=by
 have h:call cx 104 [(.vsl x.nil (ofBytes x.l) x.l.length),(.vsl y.nil (ofBytes y.l) y.l.length)] [] = some (.int .i64 (cmpB x.l y.l),[]):=by
  rw [call_ext (X:=cx) (f:=104) rfl Tryz.func104 rfl,ex104,cmpExt_bytes x.nil y.nil x.l y.l x.h y.h]
  rfl
 refine call_run Tryz.func84 rfl ⟨rfl,rfl⟩ ?_
 simp [Tryz.f84,h]
theorem compare_id [TxtC] (x y:ID):call cx 84 [.vsl false (ofBytes x.l) 16,.vsl false (ofBytes y.l) 16] [] = some (.int .i64 (cmpB x.l y.l),[]):=by
 have h:=kcompare_ev (.of x.l) (.of y.l)
 simpa using h
theorem kcmpm_ev [TxtC] (x y:Mk):call cx 96 [.agg (Enc.cells x),.agg (Enc.cells y)] [] = some (.int .i64 (cmpB x.id.l y.id.l),[]):=by
 have h:=compare_id x.id y.id
 refine call_run Tryz.func96 rfl ⟨rfl,rfl⟩ ?_
 simp [Tryz.f96,Mk.cells,h]

def lenTab:Nat→Int
 | 0=>0 | 1=>1 | 2=>2 | 3=>2 | 4=>3 | 5=>3 | 6=>3 | 7=>3 | _=>4
theorem klen_ev [TxtC] (n:Nat) (hn:n≤13):call cx 113 [.int .u64 n] [] = some (.int .i64 (lenTab n),[]):=by
 have h:n = 0∨n = 1∨n = 2∨n = 3∨n = 4∨n = 5∨n = 6∨n = 7∨n = 8∨n = 9∨n = 10∨n = 11∨n = 12∨n = 13:=by omega
 refine call_some.2 ⟨60,?_⟩
 rcases h with rfl | rfl | rfl | rfl | rfl | rfl | rfl | rfl | rfl | rfl | rfl | rfl | rfl | rfl <;> kernel_rfl

def swp (l:List Mk) (j:Nat):List Mk :=
 match l[j]?,l[j - 1]? with
 | some a,some b=>(l.set j b).set (j - 1) a
 | _,_=>l
def sink:Nat→List Mk→List Mk
 | 0,l=>l
 | j+1,l=>match l[j+1]?,l[j]? with
  | some a,some b=>if cmpB a.id.l b.id.l < 0 then sink j (swp l (j+1)) else l
  | _,_=>l
def insFrom:Nat→Nat→List Mk→List Mk
 | 0,_,l=>l
 | k+1,i,l=>insFrom k (i+1) (sink i l)
theorem swp_len (l:List Mk) (j:Nat):(swp l j).length = l.length:=by
 unfold swp
 split <;> simp
theorem sink_len:∀ (j:Nat) (l:List Mk),(sink j l).length = l.length
 | 0,l=>rfl
 | j+1,l=>by
  unfold sink
  split
  ·split
   ·rw [sink_len j,swp_len]
   ·rfl
  ·rfl
theorem insFrom_len:∀ (k i:Nat) (l:List Mk),(insFrom k i l).length = l.length
 | 0,_,_=>rfl
 | k+1,i,l=>by rw [insFrom,insFrom_len k,sink_len]

set_option maxHeartbeats 4000000 in
theorem kisort_ev [TxtC] (n:Nat) (hn:n≤12) (H:Heap) (b:Nat) (hcl:H.all (blkClosed H.length) = true) (l:List Mk) (hln:l.length = n) (hg:hget H b = some (encs l)) :
  call cx 123 [.osl b (n * 19) 0 n 19,.int .i64 0,.int .i64 n,.fn 96 []] H = some (.tup [],H.set b (some (encs (insFrom (n - 1) 1 l)))):=by
 have hb:b < H.length:=by
  rcases Nat.lt_or_ge b H.length with h | h
  ·exact h
  ·rw [hget,List.getElem?_eq_none h] at hg;cases hg
 have hset:H.set b (some (encs l)) = H:=by
  rw [hget,List.getElem?_eq_getElem hb] at hg
  simp only [Option.getD_some] at hg
  rw [← hg,List.set_getElem_self]
 refine call_run Tryz.func123 rfl ⟨rfl,rfl⟩ ?_
 simp [Tryz.f123]
 refine Run.loopThen (fun (s:Nat × List Mk) e H'=>1≤s.1∧s.2.length = n∧H' = H.set b (some (encs s.2))∧insFrom (n - s.1) s.1 s.2 = insFrom (n - 1) 1 l∧look e 0 = some (.osl b (n * 19) 0 n 19)∧look e 1 = some (.int .i64 0)∧look e 2 = some (.int .i64 n)∧look e 3 = some (.fn 96 [])∧look e 8 = some (.int .i64 s.1)) (fun s=>n - s.1) (1,l) (by simp [hln,hset]) ?_
 rintro ⟨i,l'⟩ e H' ⟨hi,hln',rfl,hs,h0,h1,h2,h3,h8⟩
 simp only at hi hln' hs h8
 by_cases hin:i < n
 ·have hin':(i:Int) < (n:Int):=by omega
  have hw:IntKind.i64.wrap ((i:Int)+1) = ((i+1:Nat):Int):=by rw [wrap_i64] <;> omega
  have hsn:insFrom (n - i) i l' = insFrom (n - (i+1)) (i+1) (sink i l'):=by
   have:n - i = (n - (i+1))+1:=by omega
   rw [this,insFrom]
  rw [hsn] at hs
  simp [h0,h1,h2,h3,h8,hin']
  clear h0 h1 h2 h3 h8 e
  refine Run.loopThen (fun (s:Nat × List Mk) e H'=>s.1≤i∧s.2.length = n∧H' = H.set b (some (encs s.2))∧sink s.1 s.2 = sink i l'∧look e 0 = some (.osl b (n * 19) 0 n 19)∧look e 1 = some (.int .i64 0)∧look e 2 = some (.int .i64 n)∧look e 3 = some (.fn 96 [])∧look e 8 = some (.int .i64 i)∧look e 9 = some (.int .i64 s.1)) (fun s=>s.1) (i,l') (by simp [hln']) ?_
  rintro ⟨j,l''⟩ e H' ⟨hj,hln'',rfl,hs2,h0,h1,h2,h3,h8,h9⟩
  simp only at hj hln'' hs2 h9
  have hlen:(encs l'').length = n * 19:=by rw [Mk.el,hln'']
  have hg:((H.set b (some (encs l'')))[b]?).getD none = some (encs l''):=by rw [List.getElem?_set_self hb];rfl
  cases j with
  | zero =>
   rw [sink] at hs2
   subst hs2
   simp [h0,h1,h2,h3,h8,h9,hw]
   exact ⟨i+1,by omega,by omega,_,by rw [sink_len,hln'],rfl,hs,rfl⟩
  | succ k =>
   obtain ⟨j,hjk⟩:∃ j,j = k+1:=⟨_,rfl⟩
   rw [← hjk] at hj h9 hs2
   have hj0:0 < j:=by omega
   have hjn:(j:Int) < (n:Int):=by omega
   have hkn:(k:Int) < (n:Int):=by omega
   have hwk:IntKind.i64.wrap ((j:Int) - 1) = (k:Int):=by rw [wrap_i64] <;> omega
   have hjl:j < l''.length:=by omega
   have hkl:k < l''.length:=by omega
   have hc:=kcmpm_ev l''[j] l''[k]
   have hsk:sink j l'' = if cmpB l''[j].id.l l''[k].id.l < 0 then sink k (swp l'' j) else l'':=by
    subst hjk
    rw [sink,List.getElem?_eq_getElem hjl,List.getElem?_eq_getElem hkl]
   have hsw:swp l'' j = (l''.set j l''[k]).set k l''[j]:=by
    have:j - 1 = k:=by omega
    rw [swp,this,List.getElem?_eq_getElem hjl,List.getElem?_eq_getElem hkl]
   by_cases hlt:cmpB l''[j].id.l l''[k].id.l < 0
   ·rw [hsk,if_pos hlt,hsw] at hs2
    have h19:j * 19+19≤n * 19:=by omega
    have h19':k * 19+19≤n * 19:=by omega
    have hkl2:k < (l''.set j l''[k]).length:=by simpa using hkl
    have hlen2:(encs (l''.set j l''[k])).length = n * 19:=by rw [Mk.el,List.length_set,hln'']
    simp [h0,h1,h2,h3,h8,h9,hj0,hjn,hkn,hwk,hlen,hjl,hkl,hc,hlt,h19,h19',hb,hlen2]
    exact ⟨k,by omega,by omega,_,by simp [hln''],rfl,hs2,rfl⟩
   ·rw [hsk,if_neg hlt] at hs2
    subst hs2
    simp [h0,h1,h2,h3,h8,h9,hj0,hjn,hkn,hwk,hg,hlen,hjl,hkl,hc,hlt,hw]
    exact ⟨i+1,by omega,by omega,_,by rw [sink_len,hln'],rfl,hs,rfl⟩
 ·have hin':¬ (i:Int) < (n:Int):=by omega
  have h0n:n - i = 0:=by omega
  rw [h0n,insFrom] at hs
  subst hs
  simp [h0,h1,h2,h3,h8,hin']
  refine ⟨fun x hx=>?_,List.take_of_length_le (by simp)⟩
  have hx':=List.mem_of_mem_take hx
  rcases List.mem_or_eq_of_mem_set hx' with h | rfl
  ·exact List.all_eq_true.1 hcl x h
  ·exact encs_closed _ _
end Go.Ev.S
namespace Go.Ev.S
open Go Go.Proofs Go.Ev
theorem closed_set {H:Heap} {b:Nat} {ds:List D} (hcl:H.all (blkClosed H.length) = true) (hd:ds.all (closed H.length) = true) {x:Option (List D)} {n:Nat} (hx:x∈(H.set b (some ds)).take n):blkClosed H.length x = true:=by
 have hx':=List.mem_of_mem_take hx
 rcases List.mem_or_eq_of_mem_set hx' with h | rfl
 ·exact List.all_eq_true.1 hcl x h
 ·exact hd
theorem kpdq_ev [TxtC] (n:Nat) (hn:n≤12) (k:Int) (H:Heap) (b:Nat) (hcl:H.all (blkClosed H.length) = true) (l:List Mk) (hln:l.length = n) (hg:hget H b = some (encs l)) :
  call cx 112 [.osl b (n * 19) 0 n 19,.int .i64 0,.int .i64 n,.int .i64 k,.fn 96 []] H = some (.tup [],H.set b (some (encs (insFrom (n - 1) 1 l)))):=by
 have h:=kisort_ev n hn H b hcl l hln hg
 have hw:IntKind.i64.wrap (n:Int) = (n:Int):=by rw [wrap_i64];omega
 have hn':(n:Int)≤12:=by omega
 refine call_run Tryz.func112 rfl ⟨rfl,rfl⟩ ?_
 simp [Tryz.f112]
 refine run_loop1 ?_
 simp [hw,hn',h]
 exact ⟨fun x hx=>closed_set hcl (encs_closed _ _) hx,List.take_of_length_le (by simp)⟩

theorem ksort_ev [TxtC] (n:Nat) (hn:n≤12) (H:Heap) (b:Nat) (hcl:H.all (blkClosed H.length) = true) (l:List Mk) (hln:l.length = n) (hg:hget H b = some (encs l)) :
  call cx 95 [.osl b (n * 19) 0 n 19,.fn 96 []] H = some (.tup [],H.set b (some (encs (insFrom (n - 1) 1 l)))):=by
 have h:=kpdq_ev n hn (lenTab n) H b hcl l hln hg
 have hlen:=klen_ev n (by omega)
 have hw:IntKind.u64.wrap (n:Int) = (n:Int):=by rw [wrap_u64];omega
 refine call_run Tryz.func95 rfl ⟨rfl,rfl⟩ ?_
 simp [Tryz.f95,h,hlen,hw]
 exact ⟨fun x hx=>closed_set hcl (encs_closed _ _) hx,List.take_of_length_le (by simp)⟩

theorem kclone_ev [TxtC] (s:Sl Mk) (hn:s.l.length≤3000000000) :
  call cx 94 [(.vsl s.nil (encs s.l) s.l.length)] [] = if s.nil then some (.vsl true [] 0,[]) else some (.osl 0 (s.l.length * 19) 0 s.l.length 19,[some (encs s.l)]):=by
 have h40:s.l.length * 40≤140737488355328:=by omega
 have hmx:s.l.length≤140737488355328:=by omega
 obtain ⟨nil,l,hnil⟩:=s
 simp only at hn h40 hmx ⊢
 cases nil with
 | true =>
  have hl0:=hnil rfl
  subst hl0
  rw [if_pos rfl]
  refine call_run Tryz.func94 rfl ⟨rfl,rfl⟩ ?_
  simp [Tryz.f94]
 | false =>
  rw [if_neg (by decide)]
  refine call_run Tryz.func94 rfl ⟨rfl,rfl⟩ ?_
  simp [Tryz.f94,h40,hmx,maxBytes]

def putM (l:List Mk) (m:Mk):List Mk :=
 if find? (fun x=>x.id == m.id) l 0 < 0 then insFrom l.length 1 (l ++ [m]) else l.set (find? (fun x=>x.id == m.id) l 0).toNat m

theorem kput_ev [TxtC] (s:Sl Mk) (hn:s.l.length≤11) (m:Mk) :
  call cx 71 [(.vsl s.nil (encs s.l) s.l.length),.agg (Enc.cells m)] [] = some (.vsl false (encs (putM s.l m)) (putM s.l m).length,[]):=by
 have hc:=kclone_ev s (by omega)
 have hf:=kfind_ev s (by omega) m.id
 have htk:(Enc.cells m).take 16 = ofBytes m.id.l:=by simp [Mk.cells]
 have htl:(encs s.l).take (s.l.length * 19) = encs s.l:=List.take_of_length_le (by simp)
 by_cases hnil:s.nil = true
 ·have hl0:=s.h hnil
  rw [hnil,hl0] at hc hf
  have hs:=ksort_ev 1 (by decide) [some (Enc.cells m),some (Enc.cells m),some (Enc.cells m)] 2 (by simp [blkClosed]) [m] rfl (by simp [hget,encs_one])
  simp at hc hf hs
  have hp:putM s.l m = [m]:=by rw [hl0];rfl
  refine call_run Tryz.func71 rfl ⟨rfl,rfl⟩ ?_
  simp [Tryz.f71,hnil,hl0,hc,hf,htk,maxBytes,find?,hs,insFrom,encs_one]
  rw [← hl0,hp]
  simp [encs_one]
 ·have hnf:s.nil = false:=by simpa using hnil
  rw [hnf] at hc hf
  rw [if_neg (by decide)] at hc
  rcases find?_spec (fun x=>x.id == m.id) s.l 0 with ⟨i,m',h1,h2,h3,h4,h5⟩ | ⟨h1,h2⟩
  ·rw [h4] at hf
   have hp:putM s.l m = s.l.set i m:=by
    unfold putM
    rw [h4,if_neg (by omega)]
    congr 1
    omega
   have h19:i * 19+19≤s.l.length * 19:=by omega
   refine call_run Tryz.func71 rfl ⟨rfl,rfl⟩ ?_
   simp [Tryz.f71,hnf,hc,hf,htk,htl,h2,h19,hp,List.take_of_length_le]
  ·rw [h1] at hf
   have hp:putM s.l m = insFrom s.l.length 1 (s.l ++ [m]):=by
    unfold putM
    rw [h1,if_pos (by decide)]
   have hs:=ksort_ev (s.l.length+1) (by omega) [some (Enc.cells m),some (encs s.l ++ Enc.cells m),some (Enc.cells m)] 1 (by simp [blkClosed]) (s.l ++ [m]) (by simp) (by simp [hget,encs_snoc])
   have hsz:s.l.length * 19+19 = (s.l.length+1) * 19:=by omega
   have h40:(s.l.length+1) * 40≤140737488355328:=by omega
   have hmx:s.l.length+1≤140737488355328:=by omega
   have hil:(insFrom s.l.length 1 (s.l ++ [m])).length = s.l.length+1:=by rw [insFrom_len];simp
   simp at hs
   refine call_run Tryz.func71 rfl ⟨rfl,rfl⟩ ?_
   simp [Tryz.f71,hnf,hc,hf,htk,htl,maxBytes,h40,hmx,hsz,hs,hp,hil,List.take_of_length_le]

def u64max:Int:=18446744073709551615
def moreM (v n:Int):Int:=if IntKind.u64.wrap (u64max - v) < n then u64max else IntKind.u64.wrap (v+n)
theorem kmore_ev [TxtC] (v n:Int):call cx 70 [.int .u64 v,.int .u64 n] [] = some (.int .u64 (moreM v n),[]):=by
 refine call_run Tryz.func70 rfl ⟨rfl,rfl⟩ ?_
 by_cases h:IntKind.u64.wrap (18446744073709551615 - v) < n
 ·simp [Tryz.f70,h,moreM,u64max]
 ·simp [Tryz.f70,h,moreM,u64max]
theorem moreM_eq {v n:Int} (hv:isU64 v) (hn:isU64 n):moreM v n = if u64max - v < n then u64max else v+n:=by
 unfold isU64 at hv hn
 have e:IntKind.u64.wrap (u64max - v) = u64max - v:=by rw [wrap_u64];unfold u64max;omega
 unfold moreM
 rw [e]
 split
 ·rfl
 ·rw [wrap_u64]
  unfold u64max at *
  omega

def risesM:List Mk→Bool
 | a :: b :: l=>decide (cmpB a.id.l b.id.l < 0) && risesM (b :: l)
 | _=>true
def rightM (l:List Mk):Bool:=decide (l.length≤4) && risesM l

theorem kright_ev [TxtC] (s:Sl Mk) (hn:s.l.length < 4611686018427387904) :
  call cx 56 [(.vsl s.nil (encs s.l) s.l.length)] [] = some (.bool (rightM s.l),[]):=by
 refine call_run Tryz.func56 rfl ⟨rfl,rfl⟩ ?_
 by_cases h4:s.l.length≤4
 ·have h4':¬ (4:Int) < (s.l.length:Int):=by omega
  simp [Tryz.f56,h4',rightM,h4]
  refine Run.loopThen (fun (i:Nat) e H=>1≤i∧(i≤s.l.length∨i = 1)∧H = []∧look e 0 = some (.vsl s.nil (encs s.l) s.l.length)∧look e 3 = some (.int .i64 i)∧risesM s.l = risesM (s.l.drop (i - 1))) (fun i=>s.l.length - i) 1 (by simp) ?_
  rintro i e H ⟨hi,hil,rfl,h0,h3,hr⟩
  by_cases hlt:i < s.l.length
  ·obtain ⟨k,hk⟩:∃ k,k+1 = i:=⟨i - 1,by omega⟩
   have hlt':(i:Int) < (s.l.length:Int):=by omega
   have hkl:k < s.l.length:=by omega
   have hkl':(k:Int) < (s.l.length:Int):=by omega
   have hw:IntKind.i64.wrap ((i:Int) - 1) = (k:Int):=by rw [wrap_i64] <;> omega
   have hw2:IntKind.i64.wrap ((i:Int)+1) = ((i+1:Nat):Int):=by rw [wrap_i64] <;> omega
   have hc:=compare_id s.l[k].id s.l[i].id
   have hr2:risesM s.l = (decide (cmpB s.l[k].id.l s.l[i].id.l < 0) && risesM (s.l.drop i)):=by
    have e1:i - 1 = k:=by omega
    have e2:s.l.drop k = s.l[k] :: s.l[i] :: s.l.drop (i+1):=by
     rw [List.drop_eq_getElem_cons hkl]
     congr 1
     rw [hk,List.drop_eq_getElem_cons hlt]
    rw [hr,e1,e2,risesM,List.drop_eq_getElem_cons hlt]
   have h16:∀ k,(16≤19+k) = True:=fun k=>eq_true (by omega)
   have ht:∀ (m:Mk) (r:List D),(Enc.cells m ++ r).take 16 = ofBytes m.id.l:=fun m r=>by simp [Mk.cells]
   by_cases hcm:cmpB s.l[k].id.l s.l[i].id.l < 0
   ·have hcm':¬ 0≤cmpB s.l[k].id.l s.l[i].id.l:=by omega
    rw [decide_eq_true hcm,Bool.true_and] at hr2
    simp [h0,h3,hlt',hw,hkl',Sl.nn hlt,h16,hlt,hkl,ht,hc,hcm',hw2]
    exact ⟨i+1,by omega,by omega,.inl (by omega),rfl,by simpa using hr2⟩
   ·have hcm':0≤cmpB s.l[k].id.l s.l[i].id.l:=by omega
    rw [decide_eq_false hcm,Bool.false_and] at hr2
    simp [h0,h3,hlt',hw,hkl',Sl.nn hlt,h16,hlt,hkl,ht,hc,hcm',hr2]
  ·have hlt':¬ (i:Int) < (s.l.length:Int):=by omega
   have hr2:risesM s.l = true:=by
    rw [hr]
    have:(s.l.drop (i - 1)).length≤1:=by rw [List.length_drop];omega
    match s.l.drop (i - 1),this with
    | [],_=>rfl
    | [a],_=>rfl
   simp [h0,h3,hlt',hr2]
 ·have h4':(4:Int) < (s.l.length:Int):=by omega
  simp [Tryz.f56,h4',rightM,h4]
end Go.Ev.S
namespace Go.Ev.S
open Go Go.Proofs Go.Ev
def mayM (l:List Mk) (id:ID):Int :=
 if rightM l = false then 1 else if l.length = 4∧find? (fun m=>m.id == id) l 0 < 0 then 15 else 0
theorem kmay_ev [TxtC] (s:Sl Mk) (hn:s.l.length < 4611686018427387904) (id:ID) :
  call cx 68 [(.vsl s.nil (encs s.l) s.l.length),.agg (ofBytes id.l)] [] = some (.int .i64 (mayM s.l id),[]):=by
 have hr:=kright_ev s hn
 have hf:=kfind_ev s hn id
 refine call_run Tryz.func68 rfl ⟨rfl,rfl⟩ ?_
 cases h:rightM s.l with
 | false =>
  rw [h] at hr
  simp [Tryz.f68,hr,mayM,h]
 | true =>
  rw [h] at hr
  by_cases h4:s.l.length = 4
  ·rw [h4] at hf hr
   by_cases hlt:find? (fun m=>m.id == id) s.l 0 < 0
   ·simp [Tryz.f68,hr,mayM,h,h4,hf,hlt]
   ·simp [Tryz.f68,hr,mayM,h,h4,hf,hlt]
  ·have h4':¬ ((s.l.length:Int) = 4):=by omega
   simp [Tryz.f68,hr,mayM,h,h4,h4']
theorem mayM_le {l:List Mk} {id:ID} (h:mayM l id = 0):l.length≤4:=by
 unfold mayM at h
 split at h
 ·cases h
 ·rename_i hr
  rw [Bool.not_eq_false,rightM,Bool.and_eq_true] at hr
  exact of_decide_eq_true hr.1

def resM (c:Int) (l:List Mk):D:=if c = 0 then .vsl false (encs l) l.length else .vsl true [] 0
def stepM (m:Mk) (it:It) (over:Bool):Mk :=
 if it.gap then { m with seq:=it.til,lost:=moreM m.lost (IntKind.u64.wrap (IntKind.u64.wrap (it.til - it.fr)+1)) }
 else { m with seq:=it.rc.seq,over:=if over then moreM m.over 1 else m.over }
def goesM (m:Mk) (it:It):Bool :=
 if it.gap then !(decide (it.fr≤m.seq) || decide (it.til < it.fr)) else !decide (it.rc.seq≤m.seq)
def takeC (l:List Mk) (it:It):Int:=if mayM l it.id≠0 then mayM l it.id else if goesM (getM l it.id) it then 0 else 13
def takeL (l:List Mk) (it:It) (over:Bool):List Mk:=putM l (stepM (getM l it.id) it over)
set_option maxRecDepth 4000 in
set_option maxHeartbeats 1000000 in
theorem ktake_ev [TxtC] (s:Sl Mk) (hn:s.l.length < 4611686018427387904) (it:It) (over:Bool) :
  call cx 36 [(.vsl s.nil (encs s.l) s.l.length),.agg (Enc.cells it),.bool over] [] = some (.tup [resM (takeC s.l it) (takeL s.l it over),.int .i64 (takeC s.l it)],[]):=by
 have hm:=kmay_ev s hn it.id
 have hge:=kget_ev s hn it.id
 have hgid:=getM_id s.l it.id
 refine call_run Tryz.func36 rfl ⟨rfl,rfl⟩ ?_
 by_cases hc:mayM s.l it.id = 0
 ·rw [hc] at hm
  have hp:=kput_ev s (by have:=mayM_le hc;omega) (stepM (getM s.l it.id) it over)
  unfold takeC takeL
  rw [if_neg (by simpa using hc)]
  generalize getM s.l it.id = g at *
  generalize putM s.l (stepM g it over) = pm at *
  cases hgap:it.gap with
  | true =>
   by_cases h1:it.fr≤g.seq
   ·simp [Tryz.f36,It.cells,hm,List.drop_append,drop_bytes,hge,hgid,hgap,Mk.cells,h1,goesM,resM]
   ·by_cases h2:it.til < it.fr
    ·simp [Tryz.f36,It.cells,hm,List.drop_append,drop_bytes,hge,hgid,hgap,Mk.cells,h1,h2,goesM,resM]
    ·have hmo:=kmore_ev g.lost (IntKind.u64.wrap (IntKind.u64.wrap (it.til - it.fr)+1))
     simp only [stepM,hgap,if_true,Mk.cells,hgid] at hp
     simp [Tryz.f36,It.cells,hm,List.take_append,List.drop_append,drop_bytes,hge,hgid,hgap,Mk.cells,h1,h2,goesM,resM,hmo]
     simp [hp]
  | false =>
   by_cases h1:it.rc.seq≤g.seq
   ·simp [Tryz.f36,It.cells,hm,List.drop_append,drop_bytes,hge,hgid,hgap,Mk.cells,h1,goesM,resM]
   ·have hmo:=kmore_ev g.over 1
    simp only [stepM,hgap,Mk.cells,hgid] at hp
    cases over with
    | false =>
     simp at hp
     simp [Tryz.f36,It.cells,hm,List.take_append,List.drop_append,drop_bytes,hge,hgid,hgap,Mk.cells,h1,goesM,resM,hp]
    | true =>
     simp at hp
     simp [Tryz.f36,It.cells,hm,List.take_append,List.drop_append,drop_bytes,hge,hgid,hgap,Mk.cells,h1,goesM,resM,hp,hmo]
 ·have e:takeC s.l it = mayM s.l it.id:=by unfold takeC;rw [if_pos hc]
  simp [Tryz.f36,It.cells,hm,hc,List.drop_append,resM,e]
end Go.Ev.S
namespace Go.Ev.S
open Go Go.Proofs Go.Ev
theorem putM_len (l:List Mk) (m:Mk):(putM l m).length≤l.length+1:=by
 unfold putM
 split
 ·rw [insFrom_len];simp
 ·rw [List.length_set];omega
def resS {α:Type} (c:Int) (s:Sl α):Sl α:=if c = 0 then s else .none
theorem rightM_le {l:List Mk} (h:rightM l = true):l.length≤4:=by
 rw [rightM,Bool.and_eq_true] at h
 exact of_decide_eq_true h.1
end Go.Ev.S
namespace Go.Ev.S
open Go Go.Proofs Go.Ev
def sameFrom:List Mk→List Mk→Bool
 | a :: x,b :: y=>a == b && sameFrom x y
 | [],[]=>true
 | _,_=>false
theorem sameFrom_eq:∀ (x y:List Mk),sameFrom x y = (x == y)
 | [],[]=>rfl
 | [],_ :: _=>rfl
 | _ :: _,[]=>rfl
 | a :: x,b :: y=>by rw [sameFrom,sameFrom_eq x y,List.cons_beq_cons]
end Go.Ev.S
namespace Go.Ev.S
end Go.Ev.S
namespace Go.Ev.S
open Go Go.Proofs Go.Ev
theorem korder_ev [TxtC] (a b:Int):call cx 73 [.int .u64 a,.int .u64 b] [] = some (.int .i64 (if a < b then -1 else if b < a then 1 else 0),[]):=by
 refine call_run Tryz.func73 rfl ⟨rfl,rfl⟩ ?_
 by_cases h1:a < b
 ·simp [Tryz.f73,h1]
 ·by_cases h2:b < a
  ·simp [Tryz.f73,h1,h2]
  ·simp [Tryz.f73,h1,h2]
theorem cmpB_step:∀ {x y:List UInt8} {i:Nat} (hx:i < x.length) (hy:i < y.length),cmpB (x.drop i) (y.drop i) = if x[i] = y[i] then cmpB (x.drop (i+1)) (y.drop (i+1)) else if x[i] < y[i] then -1 else 1:=by
 intro x y i hx hy
 rw [List.drop_eq_getElem_cons hx,List.drop_eq_getElem_cons hy,cmpB]
set_option maxHeartbeats 1000000 in
theorem kids_ev [TxtC] (x y:ID):call cx 39 [.agg (ofBytes x.l),.agg (ofBytes y.l)] [] = some (.int .i64 (cmpB x.l y.l),[]):=by
 refine call_run Tryz.func39 rfl ⟨rfl,rfl⟩ ?_
 simp [Tryz.f39]
 refine Run.loopThen (fun (i:Nat) e H=>i≤16∧H = [some (ofBytes x.l),some (ofBytes y.l)]∧look e 2 = some (.optr 0 16 0)∧look e 3 = some (.optr 1 16 0)∧look e 5 = some (.int .i64 i)∧cmpB x.l y.l = cmpB (x.l.drop i) (y.l.drop i)) (fun i=>16 - i) 0 (by simp) ?_
 rintro i e H ⟨hi,rfl,h2,h3,h5,hr⟩
 by_cases hlt:i < 16
 ·have hlt':(i:Int) < 16:=by omega
  have hx:i < x.l.length:=by simp;omega
  have hy:i < y.l.length:=by simp;omega
  have hw:IntKind.i64.wrap ((i:Int)+1) = ((i+1:Nat):Int):=by rw [wrap_i64] <;> omega
  have hwx:IntKind.u64.wrap (x.l[i].toNat:Int) = (x.l[i].toNat:Int):=by rw [wrap_u64];have:=x.l[i].toNat_lt;omega
  have hwy:IntKind.u64.wrap (y.l[i].toNat:Int) = (y.l[i].toNat:Int):=by rw [wrap_u64];have:=y.l[i].toNat_lt;omega
  have ho:=korder_ev (x.l[i].toNat:Int) (y.l[i].toNat:Int)
  rw [cmpB_step hx hy] at hr
  by_cases he:x.l[i] = y.l[i]
  ·rw [if_pos he] at hr
   simp [h2,h3,h5,hlt',ofBytes_at hx,ofBytes_at hy,he,hw]
   exact ⟨i+1,by omega,by omega,rfl,hr⟩
  ·have hne:¬ ((x.l[i].toNat:Int) = (y.l[i].toNat:Int)):=by
    intro h
    exact he (UInt8.toNat_inj.1 (by omega))
   have hne':¬ (x.l[i].toNat = y.l[i].toNat):=fun h=>he (UInt8.toNat_inj.1 h)
   rw [if_neg he] at hr
   have ho':(if (x.l[i].toNat:Int) < (y.l[i].toNat:Int) then (-1:Int) else if (y.l[i].toNat:Int) < (x.l[i].toNat:Int) then 1 else 0) = cmpB x.l y.l:=by
    rw [hr]
    by_cases hl:x.l[i] < y.l[i]
    ·have:x.l[i].toNat < y.l[i].toNat:=hl
     rw [if_pos hl,if_pos (by omega)]
    ·have:¬ x.l[i].toNat < y.l[i].toNat:=hl
     rw [if_neg hl,if_neg (by omega),if_pos (by omega)]
   rw [ho'] at ho
   simp [h2,h3,h5,hlt',ofBytes_at hx,ofBytes_at hy,hne,hwx,hwy,ho]
 ·have hlt':¬ (i:Int) < 16:=by omega
  have h16:i = 16:=by omega
  subst h16
  have e1:x.l.drop 16 = []:=List.drop_eq_nil_of_le (by simp)
  have e2:y.l.drop 16 = []:=List.drop_eq_nil_of_le (by simp)
  rw [e1,e2,cmpB] at hr
  simp [h2,h3,h5,hr]

def hasM (l:List Mk) (id:ID):Bool:=l.any fun m=>m.id == id
set_option maxHeartbeats 1000000 in
theorem krget_ev [TxtC] (s:Sl Mk) (hn:s.l.length < 4611686018427387904) (id:ID) :
  call cx 47 [(.vsl s.nil (encs s.l) s.l.length),.agg (ofBytes id.l)] [] = some (.tup [.agg (Enc.cells (getM s.l id)),.bool (hasM s.l id)],[]):=by
 refine call_run Tryz.func47 rfl ⟨rfl,rfl⟩ ?_
 simp [Tryz.f47]
 refine Run.loopThen (fun (i:Nat) e H=>i≤s.l.length∧(∃ z:Mk,H = [some (ofBytes id.l),some (Enc.cells z)])∧look e 0 = some (.vsl s.nil (encs s.l) s.l.length)∧look e 3 = some (.optr 0 16 0)∧look e 4 = some (.optr 1 19 0)∧look e 6 = some (.int .i64 i)∧getM s.l id = getM (s.l.drop i) id∧hasM s.l id = hasM (s.l.drop i) id) (fun i=>s.l.length - i) 0 ?_ ?_
 ·simp
  exact ⟨⟨ID.zero,0,0,0⟩,by simp [Mk.cells,ID.zero,ofBytes]⟩
 rintro i e H ⟨hi,⟨z,rfl⟩,h0,h3,h4,h6,hr,hr2⟩
 by_cases hlt:i < s.l.length
 ·have hlt':(i:Int) < (s.l.length:Int):=by omega
  have hw:IntKind.i64.wrap ((i:Int)+1) = ((i+1:Nat):Int):=by rw [wrap_i64] <;> omega
  rw [List.drop_eq_getElem_cons hlt] at hr hr2
  have h16:∀ k,(16≤19+k) = True:=fun k=>eq_true (by omega)
  cases he:s.l[i].id == id with
  | true =>
   simp only [getM,List.find?_cons,he,Option.getD_some] at hr
   simp only [hasM,List.any_cons,he,Bool.true_or] at hr2
   simp [h0,h3,h4,h6,hlt',hlt,Sl.nn hlt,h16,he,getM,hasM,hr,hr2]
  | false =>
   simp only [getM,List.find?_cons,he] at hr
   simp only [hasM,List.any_cons,he,Bool.false_or] at hr2
   simp [h0,h3,h4,h6,hlt',hlt,Sl.nn hlt,h16,he,hw,-List.any_eq_true]
   exact ⟨i+1,by omega,by omega,⟨z,rfl⟩,rfl,hr,hr2⟩
 ·have hlt':¬ (i:Int) < (s.l.length:Int):=by omega
  have hd:s.l.drop i = []:=List.drop_eq_nil_of_le (by omega)
  rw [hd] at hr hr2
  have e1:getM [] id = ⟨id,0,0,0⟩:=rfl
  have e2:hasM [] id = false:=rfl
  rw [e1] at hr
  rw [e2] at hr2
  simp [h0,h3,h4,h6,hlt',hr,hr2,List.take_of_length_le,Mk.cells,List.take_append,List.drop_append,drop_bytes]

set_option maxHeartbeats 1000000 in
theorem krright_ev [TxtC] (s:Sl Mk) (hn:s.l.length < 4611686018427387904) :
  call cx 20 [(.vsl s.nil (encs s.l) s.l.length)] [] = some (.bool (rightM s.l),[]):=by
 refine call_run Tryz.func20 rfl ⟨rfl,rfl⟩ ?_
 simp [Tryz.f20]
 refine Run.loopThen (fun (i:Nat) e H=>1≤i∧(i≤s.l.length∨i = 1)∧H = []∧look e 0 = some (.vsl s.nil (encs s.l) s.l.length)∧look e 3 = some (.int .i64 i)∧risesM s.l = risesM (s.l.drop (i - 1))) (fun i=>s.l.length - i) 1 (by simp) ?_
 rintro i e H ⟨hi,hil,rfl,h0,h3,hr⟩
 by_cases hlt:i < s.l.length
 ·obtain ⟨k,hk⟩:∃ k,k+1 = i:=⟨i - 1,by omega⟩
  have hlt':(i:Int) < (s.l.length:Int):=by omega
  have hkl:k < s.l.length:=by omega
  have hkl':(k:Int) < (s.l.length:Int):=by omega
  have hw:IntKind.i64.wrap ((i:Int) - 1) = (k:Int):=by rw [wrap_i64] <;> omega
  have hw2:IntKind.i64.wrap ((i:Int)+1) = ((i+1:Nat):Int):=by rw [wrap_i64] <;> omega
  have hc:=kids_ev s.l[k].id s.l[i].id
  have hr2:risesM s.l = (decide (cmpB s.l[k].id.l s.l[i].id.l < 0) && risesM (s.l.drop i)):=by
   have e1:i - 1 = k:=by omega
   have e2:s.l.drop k = s.l[k] :: s.l[i] :: s.l.drop (i+1):=by
    rw [List.drop_eq_getElem_cons hkl]
    congr 1
    rw [hk,List.drop_eq_getElem_cons hlt]
   rw [hr,e1,e2,risesM,List.drop_eq_getElem_cons hlt]
  have h16:∀ k,(16≤19+k) = True:=fun k=>eq_true (by omega)
  by_cases hcm:cmpB s.l[k].id.l s.l[i].id.l < 0
  ·have hcm':¬ 0≤cmpB s.l[k].id.l s.l[i].id.l:=by omega
   rw [decide_eq_true hcm,Bool.true_and] at hr2
   simp [h0,h3,hlt',hw,hkl',Sl.nn hlt,h16,hlt,hkl,hc,hcm',hw2]
   exact ⟨i+1,by omega,by omega,.inl (by omega),rfl,by simpa using hr2⟩
  ·have hcm':0≤cmpB s.l[k].id.l s.l[i].id.l:=by omega
   rw [decide_eq_false hcm,Bool.false_and] at hr2
   simp [h0,h3,hlt',hw,hkl',Sl.nn hlt,h16,hlt,hkl,hc,hcm',hr2,rightM]
 ·have hlt':¬ (i:Int) < (s.l.length:Int):=by omega
  have hr2:risesM s.l = true:=by
   rw [hr]
   have:(s.l.drop (i - 1)).length≤1:=by rw [List.length_drop];omega
   match s.l.drop (i - 1),this with
   | [],_=>rfl
   | [a],_=>rfl
  by_cases h4:s.l.length≤4
  ·have h4':(s.l.length:Int)≤4:=by omega
   simp [h0,h3,hlt',hr2,h4,h4',rightM]
  ·have h4':¬ (s.l.length:Int)≤4:=by omega
   simp [h0,h3,hlt',hr2,h4,h4',rightM]
set_option maxHeartbeats 1000000 in
theorem krsame_ev [TxtC] (a b:Sl Mk) (ha:a.l.length < 4611686018427387904) :
  call cx 26 [(.vsl a.nil (encs a.l) a.l.length),(.vsl b.nil (encs b.l) b.l.length)] [] = some (.bool (a.l == b.l),[]):=by
 refine call_run Tryz.func26 rfl ⟨rfl,rfl⟩ ?_
 by_cases hl:a.l.length = b.l.length
 ·simp [Tryz.f26,hl]
  refine Run.loopThen (fun (i:Nat) e H=>i≤b.l.length∧H = []∧look e 0 = some (.vsl a.nil (encs a.l) a.l.length)∧look e 1 = some (.vsl b.nil (encs b.l) b.l.length)∧look e 5 = some (.int .i64 i)∧sameFrom a.l b.l = sameFrom (a.l.drop i) (b.l.drop i)) (fun i=>b.l.length - i) 0 (by simp [hl]) ?_
  rintro i e H ⟨hi,rfl,h0,h1,h5,hr⟩
  rw [sameFrom_eq a.l b.l] at hr
  by_cases hlt:i < b.l.length
  ·have hlt':(i:Int) < (b.l.length:Int):=by omega
   have hla:i < a.l.length:=by omega
   have hw:IntKind.i64.wrap ((i:Int)+1) = ((i+1:Nat):Int):=by rw [wrap_i64] <;> omega
   rw [List.drop_eq_getElem_cons hlt,List.drop_eq_getElem_cons hla,sameFrom] at hr
   have hc:=cellsEqMk a.l[i] b.l[i]
   cases he:a.l[i] == b.l[i] with
   | true =>
    rw [he] at hr hc
    rw [Bool.true_and] at hr
    simp [h0,h1,h5,hl,hlt',hlt,Sl.nn hlt,Sl.nn hla,hc,hw]
    exact ⟨i+1,by omega,by omega,rfl,by rw [sameFrom_eq a.l b.l];exact hr⟩
   | false =>
    rw [he] at hr hc
    rw [Bool.false_and] at hr
    simp [h0,h1,h5,hl,hlt',hlt,Sl.nn hlt,Sl.nn hla,hc,hr]
  ·have hlt':¬ (i:Int) < (b.l.length:Int):=by omega
   have h1d:a.l.drop i = []:=List.drop_eq_nil_of_le (by omega)
   have h2d:b.l.drop i = []:=List.drop_eq_nil_of_le (by omega)
   rw [h1d,h2d,sameFrom] at hr
   simp [h0,h1,h5,hl,hlt',hr]
 ·have hl':¬ ((a.l.length:Int) = (b.l.length:Int)):=by omega
  have he:(a.l == b.l) = false:=by
   rw [beq_eq_false_iff_ne]
   intro h
   exact hl (by rw [h])
  simp [Tryz.f26,hl',he]
end Go.Ev.S
namespace Go.Ev.S
open Go Go.Proofs Go.Ev
def rsetGo (m:Mk):List Mk→Bool→List Mk × Bool
 | [],i=>([],i)
 | x :: l,i=>let c:=cmpB x.id.l m.id.l
  let r:=rsetGo m l (i || decide (0≤c))
  ((if !i && decide (0≤c) then [m] else []) ++ (if c≠0 then [x] else []) ++ r.1,r.2)
def rsetL (l:List Mk) (m:Mk):List Mk:=(rsetGo m l false).1 ++ (if (rsetGo m l false).2 then [] else [m])
def rsetC (l:List Mk) (m:Mk):Int:=if rightM l then (if !hasM l m.id && decide (4≤l.length) then 15 else 0) else 1
theorem rsetGo_len (m:Mk):∀ (l:List Mk) (i:Bool),(rsetGo m l i).1.length≤2 * l.length
 | [],_=>by simp [rsetGo]
 | x :: l,i=>by
  have:=rsetGo_len m l (i || decide (0≤cmpB x.id.l m.id.l))
  simp only [rsetGo,List.length_append,List.length_cons]
  have h1:(if (!i && decide (0≤cmpB x.id.l m.id.l)) = true then [m] else []).length≤1:=by split <;> simp
  have h2:(if cmpB x.id.l m.id.l≠0 then [x] else []).length≤1:=by split <;> simp
  omega
theorem rsetGo_app (m:Mk):∀ (a b:List Mk) (i:Bool),rsetGo m (a ++ b) i = ((rsetGo m a i).1 ++ (rsetGo m b (rsetGo m a i).2).1,(rsetGo m b (rsetGo m a i).2).2)
 | [],b,i=>by simp [rsetGo]
 | x :: a,b,i=>by
  simp only [List.cons_append,rsetGo,rsetGo_app m a b,List.append_assoc]
def RS (m:Mk) (g:List Mk) (d:D) (H:Heap):Prop:=(d = .vsl true [] 0∧g = []∧H = [some (Enc.cells m)])∨(d = .osl 1 (g.length * 19) 0 g.length 19∧H = [some (Enc.cells m),some (encs g)]∧g≠[])
theorem RS.app {m:Mk} {g:List Mk} {n k:Nat} {cs:List D} (hne:g≠[]) (hn:n = g.length * 19) (hk:k = g.length) (hc:cs = encs g):RS m g (.osl 1 n 0 k 19) [some (Enc.cells m),some cs]:=by
 subst hn;subst hk;subst hc
 exact .inr ⟨rfl,rfl,hne⟩
theorem RS.nil {m:Mk}:RS m [] (.vsl true [] 0) [some (Enc.cells m)]:=.inl ⟨rfl,rfl,rfl⟩
theorem rsetGo_ne (m:Mk):∀ (l:List Mk),(rsetGo m l false).2 = true→(rsetGo m l false).1≠[]
 | [],h=>by simp [rsetGo] at h
 | x :: l,h=>by
  simp only [rsetGo]
  by_cases hc:0≤cmpB x.id.l m.id.l
  ·simp [hc]
  ·have h0:¬ cmpB x.id.l m.id.l = 0:=fun h0=>hc (by rw [h0];decide)
   simp [h0]
theorem tri (c:Int):(c < 0∧¬ 0≤c∧¬ c = 0)∨(c = 0∧0≤c)∨(0≤c∧¬ c = 0):=by omega
theorem bnd40 {n:Nat} (h:n≤1000):n * 40≤140737488355328∧n≤140737488355328:=by omega
noncomputable def LSet:Code:=cAt [1,1,1,1,1,1,0,1,0,0] (stripC (bodyOf Tryz.f49))
set_option maxRecDepth 4000 in
set_option maxHeartbeats 2000000 in
theorem rset_loop [TxtC] (s:Sl Mk) (hl4:s.l.length≤4) (m:Mk) (e:Env) (h0:look e 0 = some (.vsl s.nil (encs s.l) s.l.length)) (h3:look e 3 = some (.optr 0 19 0)) (h10:look e 10 = some (.int .i64 0)) (h9:look e 9 = some (.bool false)) (h8:look e 8 = some (.vsl true [] 0)) :
  Run cx 49 69 0 (fun ex e H=>ex = .exit 0∧look e 3 = some (.optr 0 19 0)∧look e 9 = some (.bool (rsetGo m s.l false).2)∧∃ d,look e 8 = some d∧RS m (rsetGo m s.l false).1 d H) [] (code cx 49 69 0 (.loop LSet) e [some (Enc.cells m)]):=by
 refine Run.loopThen (fun (i:Nat) e H=>i≤s.l.length∧look e 0 = some (.vsl s.nil (encs s.l) s.l.length)∧look e 3 = some (.optr 0 19 0)∧look e 10 = some (.int .i64 i)∧look e 9 = some (.bool (rsetGo m (s.l.take i) false).2) ∧
  (∃ d,look e 8 = some d∧RS m (rsetGo m (s.l.take i) false).1 d H)) (fun i=>s.l.length - i) 0 ?_ ?_
 ·simp [rsetGo,h0,h3,h10,h9,h8,RS.nil]
 clear h0 h3 h10 h9 h8 e
 rintro i e H ⟨hi,h0,h3,h10,h9,d,h8,hst⟩
 by_cases hlt:i < s.l.length
 ·have hlt':(i:Int) < (s.l.length:Int):=by omega
  have hw:IntKind.i64.wrap ((i:Int)+1) = ((i+1:Nat):Int):=by rw [wrap_i64] <;> omega
  have h16:∀ k,(16≤19+k) = True:=fun k=>eq_true (by omega)
  have hc:=kids_ev s.l[i].id m.id
  have hgl:=rsetGo_len m (s.l.take i) false
  rw [List.length_take,Nat.min_eq_left hi] at hgl
  have hsn:rsetGo m (s.l.take (i+1)) false = ((rsetGo m (s.l.take i) false).1 ++ (rsetGo m [s.l[i]] (rsetGo m (s.l.take i) false).2).1,(rsetGo m [s.l[i]] (rsetGo m (s.l.take i) false).2).2):=by
   rw [List.take_succ_eq_append_getElem hlt,rsetGo_app]
  generalize rsetGo m (s.l.take i) false = g at *
  obtain ⟨g1,g2⟩:=g
  simp only at h9 hst hgl hsn
  have hb0:g1.length≤100:=by omega
  have hb1:g1.length * 40+40≤140737488355328∧g1.length+1≤140737488355328:=by have:=bnd40 (n:=g1.length+1) (by omega);rwa [Nat.add_mul] at this
  have hb3:g1.length * 40+80≤140737488355328∧g1.length+2≤140737488355328:=by have:=bnd40 (n:=g1.length+2) (Nat.le_trans (Nat.add_le_add_right hb0 2) (by decide));rwa [Nat.add_mul] at this
  clear hb0
  simp only [rsetGo,List.append_nil] at hsn
  have hcc:(cmpB s.l[i].id.l m.id.l < 0∧¬ 0≤cmpB s.l[i].id.l m.id.l∧¬ cmpB s.l[i].id.l m.id.l = 0)∨(cmpB s.l[i].id.l m.id.l = 0∧0≤cmpB s.l[i].id.l m.id.l)∨(0≤cmpB s.l[i].id.l m.id.l∧¬ cmpB s.l[i].id.l m.id.l = 0):=tri _
  generalize cmpB s.l[i].id.l m.id.l = c at *
  simp only [LSet,cAt,bodyOf,Tryz.f49,Option.getD,stripC,stripL,stripOp]
  cases g2 <;> rcases hcc with ⟨c1,c2,c3⟩ | ⟨rfl,c1⟩ | ⟨c1,c2⟩ <;> rcases hst with ⟨rfl,rfl,rfl⟩ | ⟨rfl,rfl,hne⟩ <;>
   first
    | simp [h0,h3,h10,h9,h8,hlt',hlt,Sl.nn hlt,h16,hc,c2,c3,hw,hb1,maxBytes,Nat.add_mul]
    | simp [h0,h3,h10,h9,h8,hlt',hlt,Sl.nn hlt,h16,hc,c1,c2,hw,hb1,hb3,maxBytes,Nat.add_assoc,Nat.add_mul]
    | simp [h0,h3,h10,h9,h8,hlt',hlt,Sl.nn hlt,h16,hc,hw,hb1,maxBytes,Nat.add_mul]
  all_goals
   clear hb1 hb3
   refine ⟨i+1,by omega,by omega,rfl,?_,?_⟩
   ·first | (rw [hsn];done) | (rw [hsn];simp [c2];done) | (rw [hsn];simp [c1];done) | (rw [hsn];simp;done)
   ·rw [hsn]
    first
     | exact RS.nil
     | (refine RS.app ?_ ?_ ?_ ?_ <;> first | simp [c2,c3,encs_append,Nat.add_mul,encs_cons] | simp [c1,c2,encs_append,Nat.add_mul,encs_cons] | simp [encs_append,Nat.add_mul,encs_cons,hne] | simp [encs_cons])
 ·have hlt':¬ (i:Int) < (s.l.length:Int):=by omega
  have hit:s.l.take i = s.l:=List.take_of_length_le (by omega)
  rw [hit] at h9 hst
  simp only [LSet,cAt,bodyOf,Tryz.f49,Option.getD,stripC,stripL,stripOp]
  simp [h0,h3,h10,h9,h8,hlt']
  exact hst
set_option maxRecDepth 4000 in
set_option maxHeartbeats 1000000 in
theorem krset_ev [TxtC] (s:Sl Mk) (hn:s.l.length < 4611686018427387904) (m:Mk) :
  call cx 49 [(.vsl s.nil (encs s.l) s.l.length),.agg (Enc.cells m)] [] = some (.tup [(.vsl (resS (rsetC s.l m) (.of (rsetL s.l m))).nil (encs (resS (rsetC s.l m) (.of (rsetL s.l m))).l) (resS (rsetC s.l m) (.of (rsetL s.l m))).l.length),.int .i64 (rsetC s.l m)],[]):=by
 have hr:=krright_ev s hn
 have hg:=krget_ev s hn m.id
 refine call_run Tryz.func49 rfl ⟨rfl,rfl⟩ ?_
 cases h1:rightM s.l with
 | false =>
  rw [h1] at hr
  simp [Tryz.f49,hr,rsetC,h1,resS]
 | true =>
  rw [h1] at hr
  have hl4:=rightM_le h1
  by_cases hfull:hasM s.l m.id = false∧4≤s.l.length
  ·obtain ⟨h2,h3⟩:=hfull
   have h3':(4:Int)≤(s.l.length:Int):=by clear hn;omega
   rw [h2] at hg
   simp [Tryz.f49,hr,hg,rsetC,h1,h2,h3,h3',resS]
  ·have hc0:rsetC s.l m = 0:=by
    unfold rsetC
    rw [h1,if_pos rfl,if_neg]
    simp only [Bool.and_eq_true,Bool.not_eq_true',decide_eq_true_eq]
    exact hfull
   rw [hc0]
   have hb2:hasM s.l m.id = false→¬ (4:Int)≤(s.l.length:Int):=fun h h4=>hfull ⟨h,by clear hn;omega⟩
   have hlp:=rset_loop s hl4 m
   simp only [LSet,cAt,bodyOf,Tryz.f49,Option.getD,stripC,stripL,stripOp] at hlp
   have hgl:=rsetGo_len m s.l false
   have hb1:(rsetGo m s.l false).1.length * 40+40≤140737488355328∧(rsetGo m s.l false).1.length+1≤140737488355328:=by have:=bnd40 (n:=(rsetGo m s.l false).1.length+1) (by clear hn;omega);rwa [Nat.add_mul] at this
   have hne0:=rsetGo_ne m s.l
   cases hb:hasM s.l m.id
   ·have hb2':=hb2 hb
    rw [hb] at hg
    simp [Tryz.f49,hr,hg,hb2',resS]
    refine Run.mono (hlp _ ?_ ?_ ?_ ?_ ?_) ?_
    iterate 5 simp
    rintro ex e H ⟨rfl,h3,h9,d,h8,hst⟩
    unfold rsetL
    rcases hst with ⟨rfl,hz,rfl⟩ | ⟨rfl,rfl,hne⟩ <;> cases hg2:(rsetGo m s.l false).2 <;> simp [h3,h9,h8,hg2,maxBytes,hb1,Nat.add_mul,← encs_snoc,List.take_of_length_le]
    ·rw [hz];simp [encs_one]
    ·exact hne0 hg2 hz
   ·rw [hb] at hg
    simp [Tryz.f49,hr,hg,resS]
    refine Run.mono (hlp _ ?_ ?_ ?_ ?_ ?_) ?_
    iterate 5 simp
    rintro ex e H ⟨rfl,h3,h9,d,h8,hst⟩
    unfold rsetL
    rcases hst with ⟨rfl,hz,rfl⟩ | ⟨rfl,rfl,hne⟩ <;> cases hg2:(rsetGo m s.l false).2 <;> simp [h3,h9,h8,hg2,maxBytes,hb1,Nat.add_mul,← encs_snoc,List.take_of_length_le]
    ·rw [hz];simp [encs_one]
    ·exact hne0 hg2 hz
end Go.Ev.S
namespace Go.Ev.S
open Go Go.Proofs Go.Ev
def rmoreM (v n:Int):Int:=if IntKind.u64.wrap (u64max - n) < v then u64max else IntKind.u64.wrap (v+n)
theorem krmore_ev [TxtC] (v n:Int):call cx 48 [.int .u64 v,.int .u64 n] [] = some (.int .u64 (rmoreM v n),[]):=by
 refine call_run Tryz.func48 rfl ⟨rfl,rfl⟩ ?_
 by_cases h:IntKind.u64.wrap (18446744073709551615 - n) < v
 ·simp [Tryz.f48,h,rmoreM,u64max]
 ·simp [Tryz.f48,h,rmoreM,u64max]
def rstepM (m:Mk) (it:It) (over:Bool):Mk :=
 if it.gap then { m with seq:=it.til,lost:=rmoreM m.lost (rmoreM (IntKind.u64.wrap (it.til - it.fr)) 1) }
 else { m with seq:=it.rc.seq,over:=if over then rmoreM m.over 1 else m.over }
def rtakeL (l:List Mk) (it:It) (over:Bool):List Mk:=rsetL l (rstepM (getM l it.id) it over)
def rtakeC (l:List Mk) (it:It) (over:Bool):Int :=
 let c:=rsetC l (rstepM (getM l it.id) it over)
 if c≠0 then c else if goesM (getM l it.id) it then 0 else 13
set_option maxRecDepth 4000 in
set_option maxHeartbeats 2000000 in
theorem krtake_ev [TxtC] (s:Sl Mk) (hn:s.l.length < 4611686018427387904) (it:It) (over:Bool) :
  call cx 24 [(.vsl s.nil (encs s.l) s.l.length),.agg (Enc.cells it),.bool over] [] = some (.tup [(.vsl (resS (rtakeC s.l it over) (.of (rtakeL s.l it over))).nil (encs (resS (rtakeC s.l it over) (.of (rtakeL s.l it over))).l) (resS (rtakeC s.l it over) (.of (rtakeL s.l it over))).l.length),.int .i64 (rtakeC s.l it over)],[]):=by
 have hge:=krget_ev s hn it.id
 have hgid:=getM_id s.l it.id
 have hse:=krset_ev s hn (rstepM (getM s.l it.id) it over)
 refine call_run Tryz.func24 rfl ⟨rfl,rfl⟩ ?_
 unfold rtakeC rtakeL
 generalize getM s.l it.id = g at *
 have hm1:=krmore_ev (IntKind.u64.wrap (it.til - it.fr)) 1
 have hm2:=krmore_ev g.lost (rmoreM (IntKind.u64.wrap (it.til - it.fr)) 1)
 have hm3:=krmore_ev g.over 1
 have key:∀ (st:Mk) (hst:rstepM g it over = st),∀ c (hc:rsetC s.l st = c),∀ d (hd:rsetL s.l st = d),True:=fun _ _ _ _ _ _=>trivial
 cases hgap:it.gap with
 | true =>
  have hst:rstepM g it over = { g with seq:=it.til,lost:=rmoreM g.lost (rmoreM (IntKind.u64.wrap (it.til - it.fr)) 1) }:=by simp [rstepM,hgap]
  rw [hst] at hse ⊢
  generalize rsetC s.l { g with seq:=it.til,lost:=rmoreM g.lost (rmoreM (IntKind.u64.wrap (it.til - it.fr)) 1) } = c at *
  generalize rsetL s.l { g with seq:=it.til,lost:=rmoreM g.lost (rmoreM (IntKind.u64.wrap (it.til - it.fr)) 1) } = d at *
  by_cases hc:c = 0
  ·subst hc
   by_cases h1:it.fr≤g.seq
   ·simp [Tryz.f24,hge,hgap,hm1,hm2,hse,h1,goesM,resS]
   ·by_cases h2:it.til < it.fr
    ·simp [Tryz.f24,hge,hgap,hm1,hm2,hse,h1,h2,goesM,resS]
    ·simp [Tryz.f24,hge,hgap,hm1,hm2,hse,h1,h2,goesM,resS]
  ·simp [Tryz.f24,hge,hgap,hm1,hm2,hse,hc,resS]
 | false =>
  have hst:rstepM g it over = { g with seq:=it.rc.seq,over:=if over then rmoreM g.over 1 else g.over }:=by simp [rstepM,hgap]
  rw [hst] at hse ⊢
  cases over with
  | false =>
   simp only [Bool.false_eq_true,if_false] at hse ⊢
   generalize rsetC s.l { g with seq:=it.rc.seq,over:=g.over } = c at *
   generalize rsetL s.l { g with seq:=it.rc.seq,over:=g.over } = d at *
   by_cases hc:c = 0
   ·subst hc
    by_cases h1:it.rc.seq≤g.seq
    ·simp [Tryz.f24,hge,hgap,hse,h1,goesM,resS]
    ·simp [Tryz.f24,hge,hgap,hse,h1,goesM,resS]
   ·simp [Tryz.f24,hge,hgap,hse,hc,resS]
  | true =>
   simp only [if_true] at hse ⊢
   generalize rsetC s.l { g with seq:=it.rc.seq,over:=rmoreM g.over 1 } = c at *
   generalize rsetL s.l { g with seq:=it.rc.seq,over:=rmoreM g.over 1 } = d at *
   by_cases hc:c = 0
   ·subst hc
    by_cases h1:it.rc.seq≤g.seq
    ·simp [Tryz.f24,hge,hgap,hm3,hse,h1,goesM,resS]
    ·simp [Tryz.f24,hge,hgap,hm3,hse,h1,goesM,resS]
   ·simp [Tryz.f24,hge,hgap,hm3,hse,hc,resS]
end Go.Ev.S
namespace Go.Ev.S
open Go Go.Proofs Go.Ev
theorem rsetL_len (l:List Mk) (m:Mk):(rsetL l m).length+1≤2 * (l.length+1):=by
 have:=rsetGo_len m l false
 unfold rsetL
 rw [List.length_append]
 have:(if (rsetGo m l false).2 = true then [] else [m]).length≤1:=by split <;> simp
 omega
end Go.Ev.S
namespace Go.Ev.S
open Go Go.Proofs Go.Ev
theorem cmpB_self:∀ (x:List UInt8),cmpB x x = 0
 | []=>rfl
 | a :: x=>by simp [cmpB,cmpB_self x]
theorem cmpB_swap:∀ (x y:List UInt8),cmpB y x = - cmpB x y
 | [],[]=>rfl
 | [],_ :: _=>rfl
 | _ :: _,[]=>rfl
 | a :: x,b :: y=>by
  simp only [cmpB]
  by_cases h:a = b
  ·subst h;simp [cmpB_swap x y]
  ·have h':¬ b = a:=fun e=>h e.symm
   rw [if_neg h,if_neg h']
   by_cases hl:a < b
   ·have:¬ b < a:=UInt8.not_lt.2 (UInt8.le_of_lt hl)
    rw [if_pos hl,if_neg this];rfl
   ·have:b < a:=UInt8.lt_of_le_of_ne (UInt8.not_lt.1 hl) h'
    rw [if_neg hl,if_pos this]
theorem cmpB_eq:∀ {x y:List UInt8},cmpB x y = 0→x = y
 | [],[],_=>rfl
 | [],_ :: _,h=>by simp [cmpB] at h
 | _ :: _,[],h=>by simp [cmpB] at h
 | a :: x,b :: y,h=>by
  simp only [cmpB] at h
  by_cases e:a = b
  ·rw [if_pos e] at h
   rw [e,cmpB_eq h]
  ·rw [if_neg e] at h
   split at h <;> simp at h
theorem cmpB_rng:∀ (x y:List UInt8),cmpB x y = -1∨cmpB x y = 0∨cmpB x y = 1
 | [],[]=>by simp [cmpB]
 | [],_ :: _=>by simp [cmpB]
 | _ :: _,[]=>by simp [cmpB]
 | a :: x,b :: y=>by
  simp only [cmpB]
  split
  ·exact cmpB_rng x y
  ·split <;> simp
theorem cmpB_trans:∀ {x y z:List UInt8},cmpB x y < 0→cmpB y z < 0→cmpB x z < 0
 | [],[],_,h,_=>by simp [cmpB] at h
 | [],_ :: _,[],_,h=>by simp [cmpB] at h
 | [],_ :: _,_ :: _,_,_=>by simp [cmpB]
 | _ :: _,[],_,h,_=>by simp [cmpB] at h
 | _ :: _,_ :: _,[],_,h=>by simp [cmpB] at h
 | a :: x,b :: y,c :: z,h1,h2=>by
  simp only [cmpB] at h1 h2 ⊢
  by_cases e1:a = b
  ·subst e1
   rw [if_pos rfl] at h1
   by_cases e2:a = c
   ·subst e2
    rw [if_pos rfl] at h2 ⊢
    exact cmpB_trans h1 h2
   ·rw [if_neg e2] at h2 ⊢
    exact h2
  ·rw [if_neg e1] at h1
   have l1:a < b:=by
    by_cases l:a < b
    ·exact l
    ·rw [if_neg l] at h1;simp at h1
   by_cases e2:b = c
   ·subst e2
    rw [if_neg e1,if_pos l1]
    decide
   ·rw [if_neg e2] at h2
    have l2:b < c:=by
     by_cases l:b < c
     ·exact l
     ·rw [if_neg l] at h2;simp at h2
    have l3:a < c:=UInt8.lt_trans l1 l2
    rw [if_neg (UInt8.ne_of_lt l3),if_pos l3]
    decide
theorem id_of_cmp {a b:ID} (h:cmpB a.l b.l = 0):a = b:=ID.ext' (cmpB_eq h)

def below (l:List Mk) (id:ID):Prop:= ∀ x∈l,cmpB x.id.l id.l < 0
theorem rises_cons {a:Mk} {l:List Mk}:risesM (a :: l) = true↔(∀ x∈l,cmpB a.id.l x.id.l < 0)∧risesM l = true:=by
 induction l generalizing a with
 | nil=>simp [risesM]
 | cons b l ih =>
  simp only [risesM,Bool.and_eq_true,decide_eq_true_eq,List.mem_cons,forall_eq_or_imp]
  constructor
  ·rintro ⟨h1,h2⟩
   exact ⟨⟨h1,fun x hx=>cmpB_trans h1 ((ih.1 h2).1 x hx)⟩,h2⟩
  ·rintro ⟨⟨h1,_⟩,h2⟩
   exact ⟨h1,h2⟩
theorem rises_append {a b:List Mk}:risesM (a ++ b) = true↔risesM a = true∧risesM b = true∧∀ x∈a,∀ y∈b,cmpB x.id.l y.id.l < 0:=by
 induction a with
 | nil=>simp [risesM]
 | cons x a ih =>
  rw [List.cons_append,rises_cons,rises_cons,ih]
  constructor
  ·rintro ⟨h1,h2,h3,h4⟩
   refine ⟨⟨fun y hy=>h1 y (List.mem_append_left _ hy),h2⟩,h3,fun y hy z hz=>?_⟩
   rcases List.mem_cons.1 hy with rfl | hy
   ·exact h1 z (List.mem_append_right _ hz)
   ·exact h4 y hy z hz
  ·rintro ⟨⟨h1,h2⟩,h3,h4⟩
   refine ⟨fun y hy=>?_,h2,h3,fun y hy z hz=>h4 y (List.mem_cons_of_mem _ hy) z hz⟩
   rcases List.mem_append.1 hy with h | h
   ·exact h1 y h
   ·exact h4 x (List.mem_cons_self ..) y h
def insM (m:Mk):List Mk→List Mk
 | []=>[m]
 | x :: l=>if cmpB x.id.l m.id.l < 0 then x :: insM m l else m :: x :: l
theorem insM_mem (m:Mk):∀ (l:List Mk) (x:Mk),x∈insM m l↔x = m∨x∈l
 | [],x=>by simp [insM]
 | y :: l,x=>by
  unfold insM
  split
  ·simp only [List.mem_cons,insM_mem m l]
   constructor
   ·rintro (h | h | h)
    ·exact .inr (.inl h)
    ·exact .inl h
    ·exact .inr (.inr h)
   ·rintro (h | h | h)
    ·exact .inr (.inl h)
    ·exact .inl h
    ·exact .inr (.inr h)
  ·simp
theorem insM_below {m:Mk}:∀ {l:List Mk},below l m.id→insM m l = l ++ [m]
 | [],_=>rfl
 | x :: l,h=>by
  rw [insM,if_pos (h x (List.mem_cons_self ..)),insM_below fun y hy=>h y (List.mem_cons_of_mem _ hy)]
  rfl
theorem insM_snoc {m x:Mk}:∀ {l:List Mk},¬ cmpB x.id.l m.id.l < 0→insM m (l ++ [x]) = insM m l ++ [x]
 | [],h=>by simp [insM,h]
 | y :: l,h=>by
  simp only [List.cons_append,insM]
  split
  ·rw [insM_snoc h];rfl
  ·rfl
theorem hasM_false {l:List Mk} {id:ID}:hasM l id = false↔∀ x∈l,x.id≠id:=by
 simp [hasM]
theorem getElem?_mid {α:Type} (a:List α) (x:α) (b:List α):(a ++ x :: b)[a.length]? = some x:=by
 rw [List.getElem?_append_right (Nat.le_refl _),Nat.sub_self];rfl
theorem sink_ins (m:Mk):∀ (n:Nat) (l t:List Mk),l.length = n→risesM l = true→(∀ x∈l,x.id≠m.id)→sink n (l ++ m :: t) = insM m l ++ t
 | 0,l,t,hl,_,_=>by
  have:l = []:=List.eq_nil_of_length_eq_zero hl
  subst this
  rfl
 | n+1,l,t,hl,hr,hne=>by
  obtain ⟨l',x,rfl⟩:∃ l' x,l = l' ++ [x]:=⟨l.dropLast,l.getLast (by intro h;subst h;simp at hl),(List.dropLast_concat_getLast _).symm⟩
  have hl':l'.length = n:=by simpa using hl
  obtain ⟨r1,_,r2⟩:=rises_append.1 hr
  have hx:=hne x (by simp)
  have e1:(l' ++ [x] ++ m :: t)[n+1]? = some m:=by
   rw [show n+1 = (l' ++ [x]).length by simp [hl']]
   exact getElem?_mid _ _ _
  have e2:(l' ++ [x] ++ m :: t)[n]? = some x:=by
   rw [List.append_assoc,← hl']
   exact getElem?_mid l' x (m :: t)
  rw [sink,e1,e2]
  simp only
  by_cases hc:cmpB m.id.l x.id.l < 0
  ·rw [if_pos hc]
   have hsw:swp (l' ++ [x] ++ m :: t) (n+1) = l' ++ m :: (x :: t):=by
    unfold swp
    rw [e1,Nat.add_sub_cancel,e2]
    simp only
    subst hl'
    rw [List.append_assoc,List.singleton_append,List.set_append_right _ _ (Nat.le_succ _),show l'.length+1 - l'.length = 1 by omega,List.set_append_right _ _ (Nat.le_refl _),Nat.sub_self]
    rfl
   have hxm:¬ cmpB x.id.l m.id.l < 0:=by rw [cmpB_swap];omega
   rw [hsw,sink_ins m n l' (x :: t) hl' r1 (fun y hy=>hne y (List.mem_append_left _ hy)),insM_snoc hxm]
   simp
  ·rw [if_neg hc]
   have hxm:cmpB x.id.l m.id.l < 0:=by
    rcases cmpB_rng x.id.l m.id.l with h | h | h
    ·omega
    ·exact absurd (id_of_cmp h) hx
    ·rw [cmpB_swap] at hc;omega
   have hb:below (l' ++ [x]) m.id:=by
    intro y hy
    rcases List.mem_append.1 hy with h | h
    ·exact cmpB_trans (r2 y h x (by simp)) hxm
    ·rw [List.mem_singleton.1 h];exact hxm
   rw [insM_below hb]
   simp
theorem sink_stay {l:List Mk} {t:List Mk} (hr:risesM l = true) {i:Nat} (hi:i < l.length):sink i (l ++ t) = l ++ t:=by
 cases i with
 | zero=>rfl
 | succ j =>
  have hj:j < l.length:=by omega
  rw [sink,List.getElem?_append_left hi,List.getElem?_append_left hj,List.getElem?_eq_getElem hi,List.getElem?_eq_getElem hj]
  simp only
  rw [if_neg]
  have hlt:cmpB l[j].id.l l[j+1].id.l < 0:=by
   have hsp:l = l.take (j+1) ++ l.drop (j+1):=(List.take_append_drop _ _).symm
   rw [hsp] at hr
   refine (rises_append.1 hr).2.2 _ ?_ _ ?_
   ·rw [List.mem_take_iff_getElem]
    exact ⟨j,by omega,rfl⟩
   ·rw [List.drop_eq_getElem_cons hi]
    exact List.mem_cons_self ..
  rw [cmpB_swap]
  omega
theorem insFrom_stay {l:List Mk} {m:Mk} (hr:risesM l = true) (hne:∀ x∈l,x.id≠m.id):∀ (k i:Nat),k+i = l.length+1→1≤i→insFrom k i (l ++ [m]) = if k = 0 then l ++ [m] else insM m l
 | 0,i,_,_=>rfl
 | k+1,i,h,hi=>by
  rw [insFrom,if_neg (by omega)]
  rcases Nat.lt_or_ge i l.length with hlt | hge
  ·rw [sink_stay hr hlt,insFrom_stay hr hne k (i+1) (by omega) (by omega),if_neg (by omega)]
  ·have:i = l.length:=by omega
   have hk:k = 0:=by omega
   subst hk
   rw [insFrom,sink_ins m i l [] this.symm hr hne]
   simp
theorem find?_neg {l:List Mk} {id:ID}:find? (fun m=>m.id == id) l 0 < 0↔hasM l id = false:=by
 rcases find?_spec (fun m=>m.id == id) l 0 with ⟨i,m,h1,h2,h3,h4,h5⟩ | ⟨h1,h2⟩
 ·rw [h4]
  constructor
  ·intro h;omega
  ·intro h
   have:=hasM_false.1 h m (List.mem_of_getElem? h1)
   simp at h3
   exact absurd h3 this
 ·rw [h1]
  constructor
  ·intro _
   rw [hasM_false]
   intro x hx he
   have:=List.find?_eq_none.1 h2 x hx
   simp [he] at this
  ·intro _;decide
theorem putM_new {l:List Mk} {m:Mk} (hr:risesM l = true) (hh:hasM l m.id = false):putM l m = insM m l:=by
 unfold putM
 rw [if_pos (find?_neg.2 hh)]
 cases l with
 | nil=>rfl
 | cons a l=>rw [insFrom_stay hr (hasM_false.1 hh) _ 1 rfl (Nat.le_refl _),if_neg (by simp)]

theorem rsetGo_in (m:Mk):∀ (l:List Mk),(∀ x∈l,cmpB x.id.l m.id.l≠0)→rsetGo m l true = (l,true)
 | [],_=>rfl
 | x :: l,h=>by
  have ih:=rsetGo_in m l fun y hy=>h y (List.mem_cons_of_mem _ hy)
  have hx:=h x (List.mem_cons_self ..)
  simp only [rsetGo,Bool.true_or,ih,Bool.not_true,Bool.false_and,Bool.false_eq_true,if_false,List.nil_append,ne_eq,hx,not_false_eq_true,if_true,List.singleton_append]
theorem above_ne {m:Mk} {x:Mk} {l:List Mk} (hr:risesM (x :: l) = true) (hx:0≤cmpB x.id.l m.id.l):∀ y∈l,cmpB y.id.l m.id.l≠0:=by
 intro y hy h0
 have h1:=(rises_cons.1 hr).1 y hy
 have:y.id = m.id:=id_of_cmp h0
 rw [this] at h1
 omega
theorem rsetL_new {m:Mk}:∀ {l:List Mk},risesM l = true→hasM l m.id = false→rsetL l m = insM m l
 | [],_,_=>rfl
 | x :: l,hr,hh=>by
  have hx:cmpB x.id.l m.id.l≠0:=fun h=>hasM_false.1 hh x (List.mem_cons_self ..) (id_of_cmp h)
  have hh':hasM l m.id = false:=hasM_false.2 fun y hy=>hasM_false.1 hh y (List.mem_cons_of_mem _ hy)
  by_cases hc:cmpB x.id.l m.id.l < 0
  ·have hc':¬ 0≤cmpB x.id.l m.id.l:=by omega
   have ih:=rsetL_new (rises_cons.1 hr).2 hh'
   rw [insM,if_pos hc,← ih]
   simp [rsetL,rsetGo,hc',hx]
  ·have hc':0≤cmpB x.id.l m.id.l:=by omega
   rw [insM,if_neg hc]
   have:=rsetGo_in m l (above_ne hr hc')
   simp [rsetL,rsetGo,hc',hx,this]
def repM (m:Mk):List Mk→List Mk
 | []=>[]
 | x :: l=>if x.id == m.id then m :: l else x :: repM m l
theorem rsetL_rep {m:Mk}:∀ {l:List Mk},risesM l = true→hasM l m.id = true→rsetL l m = repM m l
 | [],_,h=>by simp [hasM] at h
 | x :: l,hr,hh=>by
  by_cases he:x.id = m.id
  ·have h0:cmpB x.id.l m.id.l = 0:=by rw [he];exact cmpB_self _
   have:=rsetGo_in m l (above_ne hr (by omega))
   have hs:=cmpB_self m.id.l
   simp [rsetL,rsetGo,this,repM,he,hs]
  ·have hx:cmpB x.id.l m.id.l≠0:=fun h=>he (id_of_cmp h)
   have hh':hasM l m.id = true:=by simpa [hasM,he] using hh
   have hc:cmpB x.id.l m.id.l < 0:=by
    obtain ⟨y,hy,hye⟩:∃ y∈l,y.id = m.id:=by simpa [hasM] using hh'
    rw [← hye]
    exact (rises_cons.1 hr).1 y hy
   have hc':¬ 0≤cmpB x.id.l m.id.l:=by omega
   have ih:=rsetL_rep (rises_cons.1 hr).2 hh'
   have hb:(x.id == m.id) = false:=by simpa using he
   rw [repM,hb,← ih]
   simp [rsetL,rsetGo,hc',hx]
theorem find?_set {m:Mk}:∀ {l:List Mk} (k:Nat),hasM l m.id = true→∃ i,find? (fun x=>x.id == m.id) l k = ((k+i:Nat):Int)∧i < l.length∧l.set i m = repM m l
 | [],_,h=>by simp [hasM] at h
 | x :: l,k,h=>by
  cases he:x.id == m.id with
  | true=>exact ⟨0,by simp [find?,he],by simp,by simp [repM,he]⟩
  | false =>
   have h':hasM l m.id = true:=by simpa [hasM,he] using h
   obtain ⟨i,h1,h2,h3⟩:=find?_set (k+1) h'
   refine ⟨i+1,?_,by simpa using h2,by simp [repM,he,h3]⟩
   simp only [find?,he,Bool.false_eq_true,if_false]
   have e:(k:Int)+1 = ((k+1:Nat):Int):=by omega
   rw [e,h1]
   omega
theorem putM_rep {l:List Mk} {m:Mk} (hh:hasM l m.id = true):putM l m = repM m l:=by
 obtain ⟨i,h1,h2,h3⟩:=find?_set 0 hh
 have h1':find? (fun x=>x.id == m.id) l 0 = (i:Int):=by simpa using h1
 unfold putM
 rw [h1',if_neg (by omega)]
 simpa using h3
theorem put_rset {l:List Mk} {m:Mk} (hr:risesM l = true):putM l m = rsetL l m:=by
 cases hh:hasM l m.id with
 | true=>rw [putM_rep hh,rsetL_rep hr hh]
 | false=>rw [putM_new hr hh,rsetL_new hr hh]
theorem may_rset (l:List Mk) (m:Mk):mayM l m.id = rsetC l m:=by
 unfold mayM rsetC
 cases hr:rightM l with
 | false=>simp
 | true =>
  have h4:=rightM_le hr
  simp only [Bool.true_eq_false,if_false,if_true]
  cases hh:hasM l m.id with
  | true =>
   have:¬ find? (fun x=>x.id == m.id) l 0 < 0:=fun h=>by rw [find?_neg.1 h] at hh;cases hh
   simp [this]
  | false =>
   have:=find?_neg.2 hh
   by_cases h:l.length = 4
   ·simp [this,h]
   ·have h':¬ 4≤l.length:=by omega
    simp [h,h']
theorem rises_of_right {l:List Mk} (h:rightM l = true):risesM l = true:=by
 rw [rightM,Bool.and_eq_true] at h
 exact h.2
theorem right_of_may {l:List Mk} {id:ID} (h:mayM l id = 0):rightM l = true:=by
 unfold mayM at h
 cases hr:rightM l with
 | true=>rfl
 | false=>rw [hr] at h;simp at h
theorem rstepM_id (m:Mk) (it:It) (o:Bool):(rstepM m it o).id = m.id:=by unfold rstepM;split <;> rfl
theorem take_code (l:List Mk) (it:It) (o:Bool):takeC l it = rtakeC l it o:=by
 unfold takeC rtakeC
 have h:=may_rset l (rstepM (getM l it.id) it o)
 rw [rstepM_id,getM_id] at h
 rw [h]
theorem rmoreM_eq {v n:Int} (hv:isU64 v) (hn:isU64 n):rmoreM v n = if u64max - n < v then u64max else v+n:=by
 unfold isU64 at hv hn
 have e:IntKind.u64.wrap (u64max - n) = u64max - n:=by rw [wrap_u64];unfold u64max;omega
 unfold rmoreM
 rw [e]
 split
 ·rfl
 ·rw [wrap_u64]
  unfold u64max at *
  omega
theorem step_law {m:Mk} {it:It} {o:Bool} (hm:m.Ok) (hi:it.Ok) (hg:goesM m it = true):stepM m it o = rstepM m it o:=by
 have h1:=hm.seq
 have h2:=hm.lost
 have h3:=hm.over
 have h4:=hi.fr
 have h5:=hi.til
 unfold stepM rstepM
 unfold goesM at hg
 cases hgap:it.gap with
 | true =>
  rw [hgap] at hg
  simp only [if_true,Bool.not_eq_true',Bool.or_eq_false_iff,decide_eq_false_iff_not] at hg ⊢
  unfold isU64 at h1 h2 h4 h5
  have w1:IntKind.u64.wrap (it.til - it.fr) = it.til - it.fr:=by rw [wrap_u64];omega
  have w2:IntKind.u64.wrap (it.til - it.fr+1) = it.til - it.fr+1:=by rw [wrap_u64];omega
  have r1:rmoreM (it.til - it.fr) 1 = it.til - it.fr+1:=by
   rw [rmoreM_eq (by unfold isU64;omega) (by unfold isU64;omega),if_neg (by unfold u64max;omega)]
  rw [w1,w2,r1,moreM_eq (by unfold isU64;omega) (by unfold isU64;omega),rmoreM_eq (by unfold isU64;omega) (by unfold isU64;omega)]
  congr 1
  unfold u64max
  split <;> split <;> omega
 | false =>
  simp only [Bool.false_eq_true,if_false]
  cases o with
  | false=>rfl
  | true =>
   simp only [if_true]
   rw [moreM_eq h3 (by unfold isU64;omega),rmoreM_eq h3 (by unfold isU64;omega)]
   congr 1
   unfold u64max
   split <;> split <;> omega
theorem take_law {l:List Mk} {it:It} (o:Bool) (hl:∀ m∈l,m.Ok) (hi:it.Ok) (hc:takeC l it = 0):takeL l it o = rtakeL l it o:=by
 have hm0:mayM l it.id = 0∧goesM (getM l it.id) it = true:=by
  unfold takeC at hc
  by_cases h:mayM l it.id = 0
  ·refine ⟨h,?_⟩
   rw [if_neg (by simpa using h)] at hc
   cases hg:goesM (getM l it.id) it with
   | true=>rfl
   | false=>rw [hg] at hc;simp at hc
  ·rw [if_pos h] at hc
   exact absurd hc h
 unfold takeL rtakeL
 rw [step_law (getM_ok hl it.id) hi hm0.2,put_rset (rises_of_right (right_of_may hm0.1))]

theorem repM_mem {m:Mk}:∀ {l:List Mk} {y:Mk},y∈repM m l→y = m∨y∈l
 | [],y,h=>by simp [repM] at h
 | x :: l,y,h=>by
  unfold repM at h
  split at h
  ·rcases List.mem_cons.1 h with h | h
   ·exact .inl h
   ·exact .inr (List.mem_cons_of_mem _ h)
  ·rcases List.mem_cons.1 h with h | h
   ·exact .inr (by rw [h];exact List.mem_cons_self ..)
   ·rcases repM_mem h with h | h
    ·exact .inl h
    ·exact .inr (List.mem_cons_of_mem _ h)
end Go.Ev.S
namespace Go.Ev.S
open Go Go.Proofs Go.Ev
def mx:Option Mk→Option Mk→Option Mk
 | none,o=>o
 | some x,none=>some x
 | some x,some y=>if y.seq≤x.seq then some x else some y
end Go.Ev.S
namespace Go.Ev
structure Lim where
 count:Int
 bytes:Int
 hard:Int
instance:Enc Lim:=⟨3,fun m=>[.int .i64 m.count,.int .i64 m.bytes,.int .i64 m.hard],fun _=>rfl,fun _=>rfl⟩
@[simp] theorem Lim.cells (m:Lim):Enc.cells m = [.int .i64 m.count,.int .i64 m.bytes,.int .i64 m.hard]:=rfl
structure BatS where
 items:List It
 fin:List Mk
 used:Nat
 bytes:Nat
def BatS.none:BatS:=⟨[],[],0,0⟩
section
variable (tc:List Mk→It→Int) (tl:List Mk→It→Bool→List Mk) (hd:List Pr→Bool) (sz:It→Nat) (lim:Lim)
def askedB (x:It):Bool:=x.gap || hd x.rc.fields.l
def overB (x:It):Bool:=askedB hd x && (!x.gap && decide (lim.hard < (sz x:Int)))
def goesB (x:It):Bool:=askedB hd x && !overB hd sz lim x
def stopB (s:BatS) (x:It):Bool:=goesB hd sz lim x && (decide ((s.items.length:Int) = lim.count) || (decide (0 < s.items.length) && decide (lim.bytes < (s.bytes:Int)+(sz x:Int))))
def stepB (s:BatS) (x:It):BatS:=⟨if goesB hd sz lim x then s.items ++ [x] else s.items,tl s.fin x (overB hd sz lim x),s.used+1,if goesB hd sz lim x then s.bytes+sz x else s.bytes⟩
def bldGo:List It→BatS→BatS × Int
 | [],s=>(s,0)
 | x :: l,s=>if stopB hd sz lim s x then (s,0) else if tc s.fin x≠0 then (if s.used = 0 then (BatS.none,tc s.fin x) else (s,0)) else bldGo l (stepB tl hd sz lim s x)
def finB (l:List It) (f:List Mk):List Mk:=l.foldl (fun f x=>tl f x (overB hd sz lim x)) f
def sumB (l:List It):Nat:=(l.map sz).sum
structure BldIs (l:List It) (s r:BatS) (n:Nat):Prop where
 le:n≤l.length
 used:r.used = s.used+n
 items:r.items = s.items ++ (l.take n).filter (goesB hd sz lim)
 bytes:r.bytes = s.bytes+sumB sz ((l.take n).filter (goesB hd sz lim))
 fin:r.fin = finB tl hd sz lim (l.take n) s.fin
 stop:∀ h:n < l.length,stopB hd sz lim r l[n] = true∨tc r.fin l[n]≠0
 went:∀ k (_:k < n) (h:k < l.length),tc (finB tl hd sz lim (l.take k) s.fin) l[k] = 0
end
theorem bld_same2 {tc rc:List Mk→It→Int} {tl rl:List Mk→It→Bool→List Mk} {hd:List Pr→Bool} {sz:It→Nat} {lim:Lim} {G:List Mk→Prop} {O:It→Prop} (hc:∀ f x,G f→O x→tc f x = rc f x) (hl:∀ f x o,G f→O x→tc f x = 0→tl f x o = rl f x o∧G (tl f x o)) :
  ∀ (l:List It) (s:BatS),G s.fin→(∀ x∈l,O x)→bldGo tc tl hd sz lim l s = bldGo rc rl hd sz lim l s
 | [],_,_,_=>rfl
 | x :: l,s,hs,ho=>by
  have hx:=ho x (List.mem_cons_self ..)
  unfold bldGo
  rw [← hc s.fin x hs hx]
  split
  ·rfl
  ·by_cases h0:tc s.fin x = 0
   ·obtain ⟨h1,h2⟩:=hl s.fin x (overB hd sz lim x) hs hx h0
    have e:stepB tl hd sz lim s x = stepB rl hd sz lim s x:=by
     unfold stepB
     rw [h1]
    rw [if_neg (fun h=>h h0),if_neg (fun h=>h h0),← e]
    exact bld_same2 hc hl l _ h2 fun y hy=>ho y (List.mem_cons_of_mem _ hy)
   ·rw [if_pos h0,if_pos h0]
end Go.Ev
namespace Go.Ev.S
open Go Go.Proofs Go.Ev
structure MarkI (f:List Mk) (S:List It):Prop where
 rises:risesM f = true
 ids:∀ m∈f,∃ j,j < 3∧m.id = idN j
 seq:∀ id,(getM f id).seq = 0∨∃ x∈S,x.id = id∧lstN x = (getM f id).seq
 last:∀ x∈S,lstN x≤(getM f x.id).seq
theorem put_mem {f:List Mk} {m:Mk} (hr:risesM f = true):∀ x∈putM f m,x = m∨x∈f:=by
 intro x hx
 cases h:hasM f m.id with
 | true =>
  rw [putM_rep h] at hx
  exact repM_mem hx
 | false =>
  rw [putM_new hr h] at hx
  exact (insM_mem m f x).1 hx
section
variable (hd:List Pr→Bool) (sz:It→Nat) (lim:Lim)
end
end Go.Ev.S
namespace Go.Ev.S
open Go Go.Proofs Go.Ev
theorem wrap_isU64 (z:Int):isU64 (IntKind.u64.wrap z):=by
 simp only [IntKind.wrap,IntKind.signed,IntKind.bits]
 simp
 unfold isU64
 omega
theorem more_isU64 (v n:Int):isU64 (moreM v n):=by
 unfold moreM
 split
 ·unfold u64max isU64
  decide
 ·exact wrap_isU64 _
theorem step_isOk {m:Mk} {x:It} (hm:m.Ok) (hx:x.Ok) (o:Bool):(stepM m x o).Ok:=by
 unfold stepM
 split
 ·exact ⟨hx.til,more_isU64 _ _,hm.over⟩
 ·refine ⟨hx.rc.seq,hm.lost,?_⟩
  simp only
  split
  ·exact more_isU64 _ _
  ·exact hm.over
def OkM (f:List Mk):Prop:= ∀ m∈f,m.Ok
theorem take_ok {f:List Mk} {x:It} (hf:OkM f) (hx:x.Ok) (h0:takeC f x = 0) (o:Bool):OkM (takeL f x o):=by
 have hr:risesM f = true:=by
  unfold takeC at h0
  by_cases hm:mayM f x.id = 0
  ·exact rises_of_right (right_of_may hm)
  ·rw [if_pos hm] at h0
   exact absurd h0 hm
 intro m hm
 rcases put_mem hr m hm with rfl | hm
 ·exact step_isOk (getM_ok hf x.id) hx o
 ·exact hf m hm
theorem bld_ref (hd:List Pr→Bool) (sz:It→Nat) (lim:Lim) (l:List It) (s:BatS) (hs:OkM s.fin) (hl:∀ x∈l,x.Ok):bldGo takeC takeL hd sz lim l s = bldGo (fun f x=>rtakeC f x (overB hd sz lim x)) rtakeL hd sz lim l s :=
 bld_same2 (G:=OkM) (O:=It.Ok) (fun f x _ _=>take_code f x _) (fun _ _ o hf hx h0=>⟨take_law o hf hx h0,take_ok hf hx h0 o⟩) l s hs hl
def limOk (lim:Lim):Bool:=(decide (1≤lim.count) && decide (lim.count≤64)) && ((decide (1≤lim.bytes) && decide (lim.bytes≤32768)) && (decide (1≤lim.hard) && decide (lim.hard≤16384)))
end Go.Ev.S
namespace Go.Ev.S
open Go Go.Proofs Go.Ev
theorem has_Lim {n:Nat} {cs:List D} (h:HasT Tryz.prog (n+1+1) 24 cs):∃ m:Lim,cs = Enc.cells m∧(isI64 m.count∧isI64 m.bytes∧isI64 m.hard):=by
 have h:=has_struct (P:=Tryz.prog) (n:=n+1) (t:=24) Tryz.underlying24 h
 simp only [HasFs] at h
 obtain ⟨a,b,rfl,-,ha,c,d,rfl,-,hc,e,f,rfl,-,he,rfl⟩:=h
 obtain ⟨x1,rfl,w1⟩:=has_i64 un3 ha
 obtain ⟨x2,rfl,w2⟩:=has_i64 un3 hc
 obtain ⟨x3,rfl,w3⟩:=has_i64 un3 he
 exact ⟨⟨x1,x2,x3⟩,by simp,w1,w2,w3⟩
end Go.Ev.S
namespace Go.Ev.S
open Go Go.Proofs Go.Ev
theorem blim_ev (m:Lim):call cx 17 [.agg [.int .i64 m.count,.int .i64 m.bytes,.int .i64 m.hard]] [] = some (.bool (limOk m),[]):=by
 obtain ⟨a,b,c⟩:=m
 refine call_run Tryz.func17 rfl ⟨rfl,rfl⟩ ?_
 unfold limOk
 simp only
 by_cases hal:1≤a
 case neg=>simp [Tryz.f17,hal]
 by_cases hah:a≤64
 case neg=>simp [Tryz.f17,hal,hah]
 by_cases hbl:1≤b
 case neg=>simp [Tryz.f17,hal,hah,hbl]
 by_cases hbh:b≤32768
 case neg=>simp [Tryz.f17,hal,hah,hbl,hbh]
 by_cases hcl:1≤c
 case neg=>simp [Tryz.f17,hal,hah,hbl,hbh,hcl]
 by_cases hch:c≤16384
 case neg=>simp [Tryz.f17,hal,hah,hbl,hbh,hcl,hch]
 simp [Tryz.f17,hal,hah,hbl,hbh,hcl,hch]
theorem rlim_ev (m:Lim):call cx 18 [.agg [.int .i64 m.count,.int .i64 m.bytes,.int .i64 m.hard]] [] = some (.bool (limOk m),[]):=by
 obtain ⟨a,b,c⟩:=m
 refine call_run Tryz.func18 rfl ⟨rfl,rfl⟩ ?_
 unfold limOk
 simp only
 by_cases hal:1≤a
 case neg=>simp [Tryz.f18,hal]
 by_cases hah:a≤64
 case neg=>simp [Tryz.f18,hal,hah]
 by_cases hbl:1≤b
 case neg=>simp [Tryz.f18,hal,hah,hbl]
 by_cases hbh:b≤32768
 case neg=>simp [Tryz.f18,hal,hah,hbl,hbh]
 by_cases hcl:1≤c
 case neg=>simp [Tryz.f18,hal,hah,hbl,hbh,hcl]
 by_cases hch:c≤16384
 case neg=>simp [Tryz.f18,hal,hah,hbl,hbh,hcl,hch]
 simp [Tryz.f18,hal,hah,hbl,hbh,hcl,hch]
def mayB (l:List It) (m:Mat) (lim:Lim) (d:List Mk):Bool:=limOk lim && (matOk m.rows.l && (rightM d && l.all itOk))
set_option maxHeartbeats 1000000 in
theorem may_evB (l:Sl It) (hl:l.l.length < 1000000) (m:Mat) (hm:MatB m.rows.l) (lim:Lim) (d:Sl Mk) (hd:d.l.length < 4611686018427387904) :
  call cx 33 [(.vsl l.nil (encs l.l) l.l.length),.agg [(.vsl m.rows.nil (encs m.rows.l) m.rows.l.length)],.agg [.int .i64 lim.count,.int .i64 lim.bytes,.int .i64 lim.hard],(.vsl d.nil (encs d.l) d.l.length)] [] = some (.bool (mayB l.l m lim d.l),[]):=by
 have f1:=blim_ev lim
 have f2:=mright_ev m hm
 have f3:=kright_ev d hd
 refine call_run Tryz.func33 rfl ⟨rfl,rfl⟩ ?_
 unfold mayB
 cases h1:limOk lim with
 | false =>
  rw [h1] at f1
  simp [Tryz.f33,f1]
 | true =>
 rw [h1] at f1
 cases h2:matOk m.rows.l with
 | false =>
  rw [h2] at f2
  simp [Tryz.f33,f1,f2]
 | true =>
 rw [h2] at f2
 cases h3:rightM d.l with
 | false =>
  rw [h3] at f3
  simp [Tryz.f33,f1,f2,f3]
 | true =>
 rw [h3] at f3
 obtain ⟨r,hr⟩:∃ r,l.l.all itOk = r:=⟨_,rfl⟩
 rw [hr]
 simp [Tryz.f33,f1,f2,f3]
 refine Run.loopThen (fun (i:Nat) e H=>i≤l.l.length∧H = []∧look e 24 = some (.vsl l.nil (encs l.l) l.l.length)∧look e 25 = some (.int .i64 l.l.length)∧look e 26 = some (.int .i64 i)∧(l.l.drop i).all itOk = r) (fun i=>l.l.length - i) 0 ⟨Nat.zero_le _,rfl,by simp,by simp,by simp,by simpa using hr⟩ ?_
 rintro i e H ⟨hi,rfl,k24,k25,k26,hf⟩
 by_cases hlt:i < l.l.length
 ·have hlt':(i:Int) < (l.l.length:Int):=by omega
  have hw:IntKind.i64.wrap ((i:Int)+1) = ((i+1:Nat):Int):=by rw [wrap_i64] <;> omega
  have hs:=wright_evX l.l[i]
  have hea:List.drop (i * 39) (encs l.l) = Enc.cells l.l[i] ++ encs (l.l.drop (i+1)):=It.ea hlt
  have hnn:=Sl.nn hlt
  rw [List.drop_eq_getElem_cons hlt,List.all_cons] at hf
  generalize l.l[i] = x at *
  cases hx:itOk x with
  | true =>
   rw [hx] at hs hf
   simp [-It.ea,k24,k25,k26,hlt',hnn,hea,hs,hw]
   exact ⟨i+1,by omega,by omega,by omega,by simpa using hf⟩
  | false =>
   rw [hx,Bool.false_and] at hf
   rw [hx] at hs
   simp [-It.ea,k24,k25,k26,hlt',hnn,hea,hs,← hf]
 ·rw [List.drop_eq_nil_of_le (by omega)] at hf
  replace hf:true = r:=hf
  subst hf
  have hlt':¬ (i:Int) < (l.l.length:Int):=by omega
  simp [k24,k25,k26,hlt']
end Go.Ev.S
