import Derived.Test.YtkfojmihnjnhfaaGreatDoorC7
import Derived.Handed
import Derived.LaidMore
namespace Go.Ev.S
open Go Go.Proofs Go.Ev
theorem mbytesA_ev [MaxL] (s:Sl UInt8) (h2:s.l.length≤1000000):call cx 92 [(.vsl s.nil (ofBytes s.l) s.l.length)] [] = some (.osl 0 s.l.length 0 s.l.length 1,[some (ofBytes s.l)]):=by
 have hm:s.l.length≤140737488355328:=by omega
 refine call_run Tryz.func92 rfl ⟨rfl,rfl⟩ ?_
 simp [Tryz.f92,maxBytes,hm]
theorem ofBytes_put {o:List UInt8} {j:Nat} (h:j < o.length) {x:Nat} (hx:x < 256):List.take j (ofBytes o) ++ D.int .u8 (x:Int) :: List.drop (j+1) (ofBytes o) = ofBytes (o.set j (UInt8.ofNat x)):=by
 rw [List.set_eq_take_append_cons_drop,if_pos h,ofBytes_append,ofBytes_cons,ofBytes_take,ofBytes_drop,UInt8.toNat_ofNat_of_lt' hx]
def SpoilQ (b:List UInt8) (q:D × Heap):Prop:= ∃ o:List UInt8,o.length = b.length∧q = (.vsl false (ofBytes o) o.length,[])
set_option maxHeartbeats 2000000 in
theorem spoil_ev [MaxL] (b:Sl UInt8) (hb:b.l.length≤100000) (nil:Bool) (zs:List Int) (hnil:nil = true→zs = []) (hz:zs.length≤1000000) (y:UInt8):∃ q,call cx 57 [(.vsl b.nil (ofBytes b.l) b.l.length),.vsl nil (intsK .i64 zs) zs.length,.int .u8 y.toNat] [] = some q∧SpoilQ b.l q:=by
 refine call_runE (X:=cx) (f:=57) (args:=[(.vsl b.nil (ofBytes b.l) b.l.length),.vsl nil (intsK .i64 zs) zs.length,.int .u8 y.toNat]) (H:=[]) (SpoilQ b.l) Tryz.func57 rfl ⟨rfl,rfl⟩ ?_
 have c1:=mbytesA_ev b (by omega)
 simp [Tryz.f57,c1]
 refine Run.loopThen (fun (q:Nat × List UInt8) e H'=>q.1≤zs.length∧q.2.length = b.l.length∧H' = [some (ofBytes q.2)]∧look e 1 = some (.vsl nil (intsK .i64 zs) zs.length)∧look e 2 = some (.int .u8 (y.toNat:Nat))∧look e 7 = some (.osl 0 b.l.length 0 b.l.length 1)∧look e 8 = some (.int .i64 (q.1:Nat))) (fun q=>zs.length - q.1) (0,b.l) ⟨Nat.zero_le _,rfl,by simp,by simp,by simp,by simp,by simp⟩ ?_
 rintro ⟨k,o⟩ e H' ⟨hk,ho,rfl,k1,k2,k7,k8⟩
 simp only at hk ho k8
 by_cases hlt:k < zs.length
 ·have hlt':(k:Int) < (zs.length:Int):=by omega
  have hnf:nil = false:=by
   cases nil with
   | false=>rfl
   | true=>rw [hnil rfl] at hlt;exact absurd hlt (Nat.not_lt_zero _)
  have hw:IntKind.i64.wrap ((k:Int)+1) = ((k+1:Nat):Int):=by rw [wrap_i64] <;> omega
  have hat:=intsK_at (k:=.i64) hlt
  by_cases h0:0 < b.l.length
  ·obtain ⟨j,hj,c2⟩:=numI_ev zs[k] b.l.length (by omega) (by omega)
   have hjo:j < o.length:=by omega
   have hx:=xor8 (a:=o[j].toNat) (b:=y.toNat) (UInt8.toNat_lt _) (UInt8.toNat_lt _)
   have hat2:=ofBytes_at hjo
   have hjb:j < b.l.length:=by omega
   have hj1:j+1≤b.l.length:=by omega
   have hput:=ofBytes_put hjo (x:=o[j].toNat ^^^ y.toNat) (Nat.xor_lt_two_pow (n:=8) (UInt8.toNat_lt _) (UInt8.toNat_lt _))
   simp [k1,k2,k7,k8,hlt',hw,hat,hnf,h0,c2,hx,hat2,hjb,ho,hj1,hput]
   exact ⟨k+1,by omega,by omega,_,by simp [ho],rfl,by omega⟩
  ·have hl0:b.l.length = 0:=by omega
   have ho0:o = []:=List.eq_nil_of_length_eq_zero (by omega)
   subst ho0
   simp [k1,k2,k7,k8,hlt',hl0]
   exact ⟨[],by rw [hl0];rfl,rfl⟩
 ·have hlt':¬ (k:Int) < (zs.length:Int):=by omega
  have htk:List.take b.l.length (ofBytes o) = ofBytes o:=List.take_of_length_le (by simp [ho])
  simp [k1,k2,k7,k8,hlt',htk,ho]
  exact ⟨o,ho,by rw [ho]⟩
end Go.Ev.S
namespace Go.Ev.S
open Go Go.Proofs Go.Ev
theorem wrapU_isU64 (z:Int):isU64 (IntKind.u64.wrap z):=by
 simp only [IntKind.wrap,IntKind.signed,IntKind.bits]
 simp
 unfold isU64
 omega
def MksOk (f:List Mk):Prop:= ∀ m∈f,m.Ok
theorem rmoreU (v n:Int):isU64 (rmoreM v n):=by
 unfold rmoreM
 split
 ·unfold u64max isU64
  decide
 ·exact wrapU_isU64 _
theorem rstep_isOk {m:Mk} {x:It} (hm:m.Ok) (hx:x.Ok) (o:Bool):(rstepM m x o).Ok:=by
 unfold rstepM
 split
 ·exact ⟨hx.til,rmoreU _ _,hm.over⟩
 ·refine ⟨hx.rc.seq,hm.lost,?_⟩
  simp only
  split
  ·exact rmoreU _ _
  ·exact hm.over
theorem rsetGo_mem (m:Mk):∀ (l:List Mk) (i:Bool) (y:Mk),y∈(rsetGo m l i).1→y = m∨y∈l
 | [],i,y,h=>by simp [rsetGo] at h
 | a :: l,i,y,h=>by
  have ih:=rsetGo_mem m l
  simp only [rsetGo,List.mem_append] at h
  rcases h with (h | h) | h
  ·split at h
   ·exact .inl (List.mem_singleton.1 h)
   ·cases h
  ·split at h
   ·exact .inr (List.mem_cons.2 (.inl (List.mem_singleton.1 h)))
   ·cases h
  ·rcases ih _ _ h with h | h
   ·exact .inl h
   ·exact .inr (List.mem_cons_of_mem _ h)
theorem rtake_ok {f:List Mk} {x:It} (hf:MksOk f) (hx:x.Ok) (o:Bool):MksOk (rtakeL f x o):=by
 intro y hy
 unfold rtakeL rsetL at hy
 rcases List.mem_append.1 hy with h | h
 ·rcases rsetGo_mem _ _ _ _ h with rfl | h
  ·exact rstep_isOk (getM_ok hf x.id) hx o
  ·exact hf y h
 ·split at h
  ·cases h
  ·rw [List.mem_singleton.1 h]
   exact rstep_isOk (getM_ok hf x.id) hx o
theorem rtake_len {f:List Mk} {x:It} {o:Bool} (h:rtakeC f x o = 0):(rtakeL f x o).length≤9:=by
 have hr:rightM f = true:=by
  cases hc:rightM f with
  | true=>rfl
  | false =>
   unfold rtakeC rsetC at h
   simp [hc] at h
 have h4:=rightM_le hr
 unfold rtakeL rsetL
 have:=rsetGo_len (rstepM (getM f x.id) x o) f false
 rw [List.length_append]
 split <;> simp <;> omega
theorem put_le (l:List It) (m:List Mk):(putS l m).l.length≤65536:=by
 unfold putS
 split
 ·rename_i h
  rw [Bool.and_eq_true,decide_eq_true_eq] at h
  simpa using h.2
 ·simp
@[simp] theorem It.s17 (m:It) (x:Int):setRange (Enc.cells m) 17 [.int .u64 x] = Enc.cells { m with fr:=x }:=by simp [setRange,It.cells,List.take_append,List.drop_append,drop_bytes,List.take_of_length_le]
@[simp] theorem It.s18 (m:It) (x:Int):setRange (Enc.cells m) 18 [.int .u64 x] = Enc.cells { m with til:=x }:=by simp [setRange,It.cells,List.take_append,List.drop_append,drop_bytes,List.take_of_length_le]
@[simp] theorem It.s19 (m:It) (x:Int):setRange (Enc.cells m) 19 [.int .u64 x] = Enc.cells { m with rc:={ m.rc with seq:=x } }:=by simp [setRange,It.cells,List.take_append,List.drop_append,drop_bytes,List.take_of_length_le]
def laterI (it:It) (n:Int):It:=if it.gap then { it with fr:=IntKind.u64.wrap (it.fr+n),til:=IntKind.u64.wrap (it.til+n) } else { it with rc:={ it.rc with seq:=IntKind.u64.wrap (it.rc.seq+n) } }
theorem later_ev [MaxL] (it:It) (n:Int):call cx 53 [.agg (Enc.cells it),.int .u64 n] [] = some (.agg (Enc.cells (laterI it n)),[]):=by
 refine call_run Tryz.func53 rfl ⟨rfl,rfl⟩ ?_
 unfold laterI
 cases hg:it.gap with
 | true =>
  simp [Tryz.f53,hg]
 | false =>
  simp [Tryz.f53,hg]
theorem later_B {it:It} {n:Int} (h:it.Ok∧it.rc.fields.l.length < 1000000∧∀ p∈it.rc.fields.l,PrB p):(laterI it n).Ok∧(laterI it n).rc.fields.l.length < 1000000∧∀ p∈(laterI it n).rc.fields.l,PrB p:=by
 obtain ⟨h1,h2,h3⟩:=h
 unfold laterI
 split
 ·exact ⟨⟨wrapU_isU64 _,wrapU_isU64 _,h1.rc⟩,h2,h3⟩
 ·exact ⟨⟨h1.fr,h1.til,⟨wrapU_isU64 _,h1.rc.real,h1.rc.mono⟩⟩,h2,h3⟩
end Go.Ev.S
namespace Go.Ev.S
open Go Go.Proofs Go.Ev
def BatQ (q:D × Heap):Prop:= ∃ o:Sl UInt8,o.l.length≤65536∧q = ((.vsl o.nil (ofBytes o.l) o.l.length),[])
theorem made_itsB {L:List It} (h:∀ x∈L,MadeI x):ItsB L:=fun x hx=>by
 obtain ⟨h1,h2,h3,h4⟩:=h x hx
 refine ⟨h1,by omega,fun p hp=>?_⟩
 have:=mkOk_len (h4 p hp)
 exact ⟨by omega,by omega⟩
set_option maxHeartbeats 4000000 in
set_option maxRecDepth 8000 in
theorem batch_ev [MaxL] (kd ep nm:Int) (n1:Bool) (z1:List Int) (h1:n1 = true→z1 = []) (hz1:z1.length≤60) (n2:Bool) (z2:List Int) (h2:n2 = true→z2 = []) (hz2:z2.length≤4) (y:UInt8) (b:Sl UInt8) (R:RcD) (hR:MksOk R.marks.l) (hRn:R.marks.l.length≤1000000) :
  ∃ q,call cx 29 [.agg [.int .i64 kd,.int .i64 ep,.int .i64 nm,.vsl n1 (intsK .i64 z1) z1.length,.vsl n2 (intsK .i64 z2) z2.length,.int .u8 y.toNat,(.vsl b.nil (ofBytes b.l) b.l.length)],.vptr (Enc.cells R)] [] = some q∧BatQ q:=by
 refine call_runE (X:=cx) (f:=29) (args:=[.agg [.int .i64 kd,.int .i64 ep,.int .i64 nm,.vsl n1 (intsK .i64 z1) z1.length,.vsl n2 (intsK .i64 z2) z2.length,.int .u8 y.toNat,(.vsl b.nil (ofBytes b.l) b.l.length)],.vptr (Enc.cells R)]) (H:=[]) BatQ Tryz.func29 rfl ⟨rfl,rfl⟩ ?_
 have sf:=seqD_free n1 z1
 have sl:=seqD_len n1 z1
 have sc:=seqD_cl n1 z1
 obtain ⟨q,hq,L,k',hL4,hLm,hsh⟩:=items_ev n1 z1 h1 (by omega) 0 4 (by decide)
 have tailE:∀ (S:Sl It),ItsB S.l→∀ (E:Sl Mk),(∀ x∈E.l,x.Ok)→E.l.length≤1000000→∃ o:Sl UInt8,o.l.length≤65536∧call cx 55 [(.vsl S.nil (encs S.l) S.l.length),(.vsl E.nil (encs E.l) E.l.length)] [] = some ((.vsl o.nil (ofBytes o.l) o.l.length),[]):=fun S hS E hE hEn=>⟨putS S.l E.l,put_le _ _,rput_ev S E hS hE (by omega)⟩
 have tail:∀ (o:Sl UInt8),o.l.length≤65536→∀ (nn:Nat),nn = o.l.length→4 < nn→0 < z2.length→∃ o2:List UInt8,o2.length≤65536∧call cx 57 [.vsl o.nil (ofBytes (o.l.take (nn - 4))) (nn - 4),.vsl n2 (intsK .i64 z2) z2.length,.int .u8 y.toNat] [] = some (.vsl false (ofBytes o2) o2.length,[])∧o2.length = nn - 4∧call cx 56 [.vsl false (ofBytes o2) o2.length] [] = some (.vsl false (ofBytes (sealB o2)) (sealB o2).length,[]):=by
  intro o ho nn hnn h4 hz
  have hnf:o.nil = false:=by
   cases hn:o.nil with
   | false=>rfl
   | true=>have:=o.h hn;rw [this] at hnn;simp at hnn;omega
  have hl:(o.l.take (nn - 4)).length = nn - 4:=by rw [List.length_take];omega
  obtain ⟨q2,c1,o2,ho2,rfl⟩:=spoil_ev (.of (o.l.take (nn - 4))) (by simp;omega) n2 z2 h2 (by omega) y
  have c2:=rseal_ev (.of o2) (by simp at ho2 ⊢;omega)
  simp only [Sl.of_l,Sl.of_nil,hl] at c1 c2 ho2
  refine ⟨o2,by omega,by rw [hnf];exact c1,ho2,c2⟩
 obtain ⟨m7,hm7⟩:∃ m7,kd.tmod 7 = m7:=⟨_,rfl⟩
 obtain ⟨m4,hm4⟩:∃ m4,kd.tmod 4 = m4:=⟨_,rfl⟩
 rcases hsh with ⟨rfl,rfl⟩ | ⟨hne,n,m,hn,hm,rfl⟩
 ·replace hq:call cx 30 [.optr 0 2 0,.int .i64 4] [some [.vsl n1 (intsK .i64 z1) z1.length,.int .i64 0]] = some (.vsl true [] 0,[some (seqD n1 z1 k')]):=hq
  simp [Tryz.f29,hq,sf]
  refine run_loop1 ?_
  simp
  by_cases c7:m7 = 0
  ·obtain ⟨qm,hqm,M,kz,hM,rfl⟩:=mmarks_ev n1 z1 h1 (by omega) k'
   replace hqm:call cx 54 [.optr 0 2 0] [some (seqD n1 z1 k')] = some (.vsl M.isEmpty (encs M) M.length,[some (seqD n1 z1 kz)]):=hqm
   have hM4:=hM.len
   obtain ⟨o,ho,hp⟩:=tailE .none (by intro x hx;simp at hx) ⟨M.isEmpty,M,fun h=>by simpa using h⟩ hM.ok (by simp only;omega)
   simp only [Sl.none_l,Sl.none_nil,encs_nil,List.length_nil] at hp
   obtain ⟨nn,hnn⟩:∃ nn,nn = o.l.length:=⟨_,rfl⟩
   rw [← hnn] at hp
   by_cases c8:0 < z2.length
   ·have c8':(0:Int) < (z2.length:Int):=by omega
    by_cases c9:4 < nn
    ·have c9':(4:Int) < (nn:Int):=by omega
     obtain ⟨o2,t1,t2,t3,t4⟩:=tail o ho nn hnn c9 c8
     have hw4:IntKind.i64.wrap ((nn:Int) - 4) = ((nn - 4:Nat):Int):=by rw [wrap_i64] <;> omega
     have ht:List.take (nn - 4) (ofBytes o.l) = ofBytes (o.l.take (nn - 4)):=ofBytes_take _ _
     have hle:((nn - 4:Nat):Int)≤(nn:Int):=by omega
     have hsl:=sealB_len o2
     generalize sealB o2 = o3 at *
     generalize o.l.take (nn - 4) = o4 at *
     obtain ⟨n4,hn4⟩:∃ n4,n4 = nn - 4:=⟨_,rfl⟩
     rw [← hn4] at *
     simp [sf,hm7,c7,hqm,hp,c8,c9',hw4,ht,hle,t2,t4,hnn.symm]
     exact ⟨.of o3,by rw [Sl.of_l];omega,rfl⟩
    ·have c9':¬ (4:Int) < (nn:Int):=by omega
     simp [sf,hm7,c7,hqm,hp,c8,c9']
     exact ⟨o,ho,by rw [← hnn]⟩
   ·have c8':¬ (0:Int) < (z2.length:Int):=by omega
    simp [sf,hm7,c7,hqm,hp,c8]
    exact ⟨o,ho,by rw [← hnn]⟩
  ·obtain ⟨o,ho,hp⟩:=tailE .none (by intro x hx;simp at hx) R.marks hR hRn
   simp only [Sl.none_l,Sl.none_nil,encs_nil,List.length_nil] at hp
   obtain ⟨nn,hnn⟩:∃ nn,nn = o.l.length:=⟨_,rfl⟩
   rw [← hnn] at hp
   by_cases c8:0 < z2.length
   ·have c8':(0:Int) < (z2.length:Int):=by omega
    by_cases c9:4 < nn
    ·have c9':(4:Int) < (nn:Int):=by omega
     obtain ⟨o2,t1,t2,t3,t4⟩:=tail o ho nn hnn c9 c8
     have hw4:IntKind.i64.wrap ((nn:Int) - 4) = ((nn - 4:Nat):Int):=by rw [wrap_i64] <;> omega
     have ht:List.take (nn - 4) (ofBytes o.l) = ofBytes (o.l.take (nn - 4)):=ofBytes_take _ _
     have hle:((nn - 4:Nat):Int)≤(nn:Int):=by omega
     have hsl:=sealB_len o2
     generalize sealB o2 = o3 at *
     generalize o.l.take (nn - 4) = o4 at *
     obtain ⟨n4,hn4⟩:∃ n4,n4 = nn - 4:=⟨_,rfl⟩
     rw [← hn4] at *
     simp [hm7,c7,hp,c8,c9',hw4,ht,hle,t2,t4,hnn.symm]
     exact ⟨.of o3,by rw [Sl.of_l];omega,rfl⟩
    ·have c9':¬ (4:Int) < (nn:Int):=by omega
     simp [hm7,c7,hp,c8,c9']
     exact ⟨o,ho,by rw [← hnn]⟩
   ·have c8':¬ (0:Int) < (z2.length:Int):=by omega
    simp [hm7,c7,hp,c8]
    exact ⟨o,ho,by rw [← hnn]⟩
 ·replace hq:call cx 30 [.optr 0 2 0,.int .i64 4] [some [.vsl n1 (intsK .i64 z1) z1.length,.int .i64 0]] = some (.osl 1 n 0 m 39,[some (seqD n1 z1 k'),some (encs L)]):=hq
  simp [Tryz.f29,hq,sf]
  refine Run.loopThen (fun (q:Nat × Sl Mk × List It) e H=>q.1≤m∧(MksOk q.2.1.l∧q.2.1.l.length≤1000000)∧q.2.2.length = m∧ItsB q.2.2∧(H = [some [.int .i64 kd,.int .i64 ep,.int .i64 nm,.vsl n1 (intsK .i64 z1) z1.length,.vsl n2 (intsK .i64 z2) z2.length,.int .u8 y.toNat,(.vsl b.nil (ofBytes b.l) b.l.length)],some (seqD n1 z1 k'),some (encs q.2.2)]∨∃ w,H = [some [.int .i64 kd,.int .i64 ep,.int .i64 nm,.vsl n1 (intsK .i64 z1) z1.length,.vsl n2 (intsK .i64 z2) z2.length,.int .u8 y.toNat,(.vsl b.nil (ofBytes b.l) b.l.length)],some (seqD n1 z1 k'),some (encs q.2.2),w]) ∧
   look e 1 = some (.vptr (Enc.cells R))∧look e 2 = some (.optr 0 7 0)∧look e 5 = some (.optr 1 2 0)∧look e 6 = some (.osl 2 n 0 m 39)∧look e 7 = some (.vsl q.2.1.nil (encs q.2.1.l) q.2.1.l.length)∧look e 8 = some (.int .i64 q.1)) (fun q=>m - q.1) (0,R.marks,L) ?_ ?_
  ·exact ⟨Nat.zero_le _,⟨hR,hRn⟩,hm.symm,made_itsB hLm,.inl rfl,by simp,by simp,by simp,by simp,by simp,by simp⟩
  rintro ⟨i,E,L'⟩ e H ⟨hi,⟨hE,hEn⟩,hL',hB,hH,k1,k2,k5,k6,k7,k8⟩
  simp only at hi hE hEn hL' hB hH k7 k8
  have hnl:n = L'.length * 39:=by omega
  by_cases hlt:i < m
  ·have hlt':(i:Int) < (m:Int):=by omega
   have hltL:i < L'.length:=by omega
   have hw:IntKind.i64.wrap ((i:Int)+1) = ((i+1:Nat):Int):=by rw [wrap_i64] <;> omega
   have hxB:=hB L'[i] (List.getElem_mem hltL)
   have hea:List.drop (i * 39) (encs L') = Enc.cells L'[i] ++ encs (L'.drop (i+1)):=It.ea hltL
   have hge:=rmget_ev R.marks (by omega) L'[i].id
   generalize getM R.marks.l L'[i].id = g at *
   generalize hasM R.marks.l L'[i].id = gh at *
   have hlat:=later_ev L'[i] g.seq
   have hlB:=later_B (n:=g.seq) hxB
   have htk:∀ x:It,x.Ok→∃ (c:Int) (E2:Sl Mk),call cx 19 [(.vsl E.nil (encs E.l) E.l.length),.agg (Enc.cells x),.bool false] [] = some (.tup [(.vsl E2.nil (encs E2.l) E2.l.length),.int .i64 c],[])∧(c = 0→MksOk E2.l∧E2.l.length≤1000000):=fun x hx=>by
    refine ⟨_,_,rtake_ev E (by omega) x false,fun hc=>?_⟩
    unfold resS
    rw [if_pos hc,Sl.of_l]
    have:=rtake_len hc
    exact ⟨rtake_ok hE hx false,by omega⟩
   have hi39:i * 39+39≤m * 39:=by omega
   have h16:16≤39+(m - (i+1)) * 39:=by omega
   by_cases c4:0 < m4
   ·have hset:setRange (encs L') (i * 39) (Enc.cells (laterI L'[i] g.seq)) = encs (L'.set i (laterI L'[i] g.seq)):=It.es _ hltL
    have hltS:i < (L'.set i (laterI L'[i] g.seq)).length:=by rw [List.length_set];exact hltL
    have hea2:List.drop (i * 39) (encs (L'.set i (laterI L'[i] g.seq))) = Enc.cells (laterI L'[i] g.seq) ++ encs ((L'.set i (laterI L'[i] g.seq)).drop (i+1)):=by
     rw [It.ea hltS,List.getElem_set_self]
    have hBS:ItsB (L'.set i (laterI L'[i] g.seq)):=fun x hx=>by
     rcases List.mem_or_eq_of_mem_set hx with h | rfl
     ·exact hB x h
     ·exact hlB
    have hLS:(L'.set i (laterI L'[i] g.seq)).length = m:=by rw [List.length_set];exact hL'
    obtain ⟨c,E2,ht,hc2⟩:=htk _ hlB.1
    generalize hLL:L'.set i (laterI L'[i] g.seq) = L2 at *
    generalize laterI L'[i] g.seq = x2 at *
    generalize L'[i] = x at *
    by_cases hc:c = 0
    ·rcases hH with rfl | ⟨w,rfl⟩
     ·simp [-It.ea,-It.es,k1,k2,k5,k6,k7,k8,hlt',hnl,hL',hea,hge,hm4,c4,hlat,hset,hea2,hLS,ht,hc,hw,hi39,h16]
      exact ⟨i+1,by omega,by omega,E2,hc2 hc,L2,hLS,hBS,rfl,⟨rfl,rfl,rfl⟩,by omega⟩
     ·simp [-It.ea,-It.es,k1,k2,k5,k6,k7,k8,hlt',sc,hnl,hL',hea,hge,hm4,c4,hlat,hset,hea2,hLS,ht,hc,hw,hi39,h16]
      exact ⟨i+1,by omega,by omega,E2,hc2 hc,L2,hLS,hBS,rfl,⟨rfl,rfl,rfl⟩,by omega⟩
    ·rcases hH with rfl | ⟨w,rfl⟩
     ·simp [-It.ea,-It.es,k1,k2,k5,k6,k7,k8,hlt',hnl,hL',hea,hge,hm4,c4,hlat,hset,hea2,hLS,ht,hc,hw,hi39,h16]
      exact ⟨i+1,by omega,by omega,E,⟨hE,hEn⟩,L2,hLS,hBS,rfl,⟨rfl,rfl,rfl⟩,by omega⟩
     ·simp [-It.ea,-It.es,k1,k2,k5,k6,k7,k8,hlt',sc,hnl,hL',hea,hge,hm4,c4,hlat,hset,hea2,hLS,ht,hc,hw,hi39,h16]
      exact ⟨i+1,by omega,by omega,E,⟨hE,hEn⟩,L2,hLS,hBS,rfl,⟨rfl,rfl,rfl⟩,by omega⟩
   ·obtain ⟨c,E2,ht,hc2⟩:=htk _ hxB.1
    generalize L'[i] = x at *
    by_cases hc:c = 0
    ·rcases hH with rfl | ⟨w,rfl⟩
     ·simp [-It.ea,k1,k2,k5,k6,k7,k8,hlt',hnl,hL',hea,hge,hm4,c4,ht,hc,hw,h16]
      exact ⟨i+1,by omega,by omega,E2,hc2 hc,L',hL',hB,rfl,⟨rfl,rfl,rfl⟩,by omega⟩
     ·simp [-It.ea,k1,k2,k5,k6,k7,k8,hlt',sc,hnl,hL',hea,hge,hm4,c4,ht,hc,hw,h16]
      exact ⟨i+1,by omega,by omega,E2,hc2 hc,L',hL',hB,rfl,⟨rfl,rfl,rfl⟩,by omega⟩
    ·rcases hH with rfl | ⟨w,rfl⟩
     ·simp [-It.ea,k1,k2,k5,k6,k7,k8,hlt',hnl,hL',hea,hge,hm4,c4,ht,hc,hw,h16]
      exact ⟨i+1,by omega,by omega,E,⟨hE,hEn⟩,L',hL',hB,rfl,⟨rfl,rfl,rfl⟩,by omega⟩
     ·simp [-It.ea,k1,k2,k5,k6,k7,k8,hlt',sc,hnl,hL',hea,hge,hm4,c4,ht,hc,hw,h16]
      exact ⟨i+1,by omega,by omega,E,⟨hE,hEn⟩,L',hL',hB,rfl,⟨rfl,rfl,rfl⟩,by omega⟩
  ·have hlt':¬ (i:Int) < (m:Int):=by omega
   have hit:List.take (m * 39) (encs L') = encs L':=List.take_of_length_le (by rw [It.el];omega)
   rcases hH with rfl | ⟨w,rfl⟩
   ·by_cases c7:m7 = 0
    ·obtain ⟨qm,hqm,M,kz,hM,rfl⟩:=mmarks_ev n1 z1 h1 (by omega) k'
     replace hqm:call cx 54 [.optr 0 2 0] [some (seqD n1 z1 k')] = some (.vsl M.isEmpty (encs M) M.length,[some (seqD n1 z1 kz)]):=hqm
     have hM4:=hM.len
     obtain ⟨o,ho,hp⟩:=tailE (.of L') (by rw [Sl.of_l];exact hB) ⟨M.isEmpty,M,fun h=>by simpa using h⟩ hM.ok (by simp only;omega)
     simp only [Sl.of_l,Sl.of_nil,hL'] at hp
     obtain ⟨nn,hnn⟩:∃ nn,nn = o.l.length:=⟨_,rfl⟩
     rw [← hnn] at hp
     by_cases c8:0 < z2.length
     ·have c8':(0:Int) < (z2.length:Int):=by omega
      by_cases c9:4 < nn
      ·have c9':(4:Int) < (nn:Int):=by omega
       obtain ⟨o2,t1,t2,t3,t4⟩:=tail o ho nn hnn c9 c8
       have hw4:IntKind.i64.wrap ((nn:Int) - 4) = ((nn - 4:Nat):Int):=by rw [wrap_i64] <;> omega
       have ht:List.take (nn - 4) (ofBytes o.l) = ofBytes (o.l.take (nn - 4)):=ofBytes_take _ _
       have hle:((nn - 4:Nat):Int)≤(nn:Int):=by omega
       have hsl:=sealB_len o2
       generalize sealB o2 = o3 at *
       generalize o.l.take (nn - 4) = o4 at *
       obtain ⟨n4,hn4⟩:∃ n4,n4 = nn - 4:=⟨_,rfl⟩
       rw [← hn4] at *
       simp [k1,k2,k5,k6,k7,k8,hlt',sf,hnl,hL',hit,hm7,c7,hqm,hp,c8,c9',hw4,ht,hle,t2,t4,hnn.symm]
       exact ⟨.of o3,by rw [Sl.of_l];omega,rfl⟩
      ·have c9':¬ (4:Int) < (nn:Int):=by omega
       simp [k1,k2,k5,k6,k7,k8,hlt',sf,hnl,hL',hit,hm7,c7,hqm,hp,c8,c9']
       exact ⟨o,ho,by rw [← hnn]⟩
     ·have c8':¬ (0:Int) < (z2.length:Int):=by omega
      simp [k1,k2,k5,k6,k7,k8,hlt',sf,hnl,hL',hit,hm7,c7,hqm,hp,c8]
      exact ⟨o,ho,by rw [← hnn]⟩
    ·obtain ⟨o,ho,hp⟩:=tailE (.of L') (by rw [Sl.of_l];exact hB) E hE hEn
     simp only [Sl.of_l,Sl.of_nil,hL'] at hp
     obtain ⟨nn,hnn⟩:∃ nn,nn = o.l.length:=⟨_,rfl⟩
     rw [← hnn] at hp
     by_cases c8:0 < z2.length
     ·have c8':(0:Int) < (z2.length:Int):=by omega
      by_cases c9:4 < nn
      ·have c9':(4:Int) < (nn:Int):=by omega
       obtain ⟨o2,t1,t2,t3,t4⟩:=tail o ho nn hnn c9 c8
       have hw4:IntKind.i64.wrap ((nn:Int) - 4) = ((nn - 4:Nat):Int):=by rw [wrap_i64] <;> omega
       have ht:List.take (nn - 4) (ofBytes o.l) = ofBytes (o.l.take (nn - 4)):=ofBytes_take _ _
       have hle:((nn - 4:Nat):Int)≤(nn:Int):=by omega
       have hsl:=sealB_len o2
       generalize sealB o2 = o3 at *
       generalize o.l.take (nn - 4) = o4 at *
       obtain ⟨n4,hn4⟩:∃ n4,n4 = nn - 4:=⟨_,rfl⟩
       rw [← hn4] at *
       simp [k1,k2,k5,k6,k7,k8,hlt',hnl,hL',hit,hm7,c7,hp,c8,c9',hw4,ht,hle,t2,t4,hnn.symm]
       exact ⟨.of o3,by rw [Sl.of_l];omega,rfl⟩
      ·have c9':¬ (4:Int) < (nn:Int):=by omega
       simp [k1,k2,k5,k6,k7,k8,hlt',hnl,hL',hit,hm7,c7,hp,c8,c9']
       exact ⟨o,ho,by rw [← hnn]⟩
     ·have c8':¬ (0:Int) < (z2.length:Int):=by omega
      simp [k1,k2,k5,k6,k7,k8,hlt',hnl,hL',hit,hm7,c7,hp,c8]
      exact ⟨o,ho,by rw [← hnn]⟩
   ·by_cases c7:m7 = 0
    ·obtain ⟨qm,hqm,M,kz,hM,rfl⟩:=mmarks_ev n1 z1 h1 (by omega) k'
     replace hqm:call cx 54 [.optr 0 2 0] [some (seqD n1 z1 k')] = some (.vsl M.isEmpty (encs M) M.length,[some (seqD n1 z1 kz)]):=hqm
     have hM4:=hM.len
     obtain ⟨o,ho,hp⟩:=tailE (.of L') (by rw [Sl.of_l];exact hB) ⟨M.isEmpty,M,fun h=>by simpa using h⟩ hM.ok (by simp only;omega)
     simp only [Sl.of_l,Sl.of_nil,hL'] at hp
     obtain ⟨nn,hnn⟩:∃ nn,nn = o.l.length:=⟨_,rfl⟩
     rw [← hnn] at hp
     by_cases c8:0 < z2.length
     ·have c8':(0:Int) < (z2.length:Int):=by omega
      by_cases c9:4 < nn
      ·have c9':(4:Int) < (nn:Int):=by omega
       obtain ⟨o2,t1,t2,t3,t4⟩:=tail o ho nn hnn c9 c8
       have hw4:IntKind.i64.wrap ((nn:Int) - 4) = ((nn - 4:Nat):Int):=by rw [wrap_i64] <;> omega
       have ht:List.take (nn - 4) (ofBytes o.l) = ofBytes (o.l.take (nn - 4)):=ofBytes_take _ _
       have hle:((nn - 4:Nat):Int)≤(nn:Int):=by omega
       have hsl:=sealB_len o2
       generalize sealB o2 = o3 at *
       generalize o.l.take (nn - 4) = o4 at *
       obtain ⟨n4,hn4⟩:∃ n4,n4 = nn - 4:=⟨_,rfl⟩
       rw [← hn4] at *
       simp [k1,k2,k5,k6,k7,k8,hlt',sf,sc,hnl,hL',hit,hm7,c7,hqm,hp,c8,c9',hw4,ht,hle,t2,t4,hnn.symm]
       exact ⟨.of o3,by rw [Sl.of_l];omega,rfl⟩
      ·have c9':¬ (4:Int) < (nn:Int):=by omega
       simp [k1,k2,k5,k6,k7,k8,hlt',sf,sc,hnl,hL',hit,hm7,c7,hqm,hp,c8,c9']
       exact ⟨o,ho,by rw [← hnn]⟩
     ·have c8':¬ (0:Int) < (z2.length:Int):=by omega
      simp [k1,k2,k5,k6,k7,k8,hlt',sf,sc,hnl,hL',hit,hm7,c7,hqm,hp,c8]
      exact ⟨o,ho,by rw [← hnn]⟩
    ·obtain ⟨o,ho,hp⟩:=tailE (.of L') (by rw [Sl.of_l];exact hB) E hE hEn
     simp only [Sl.of_l,Sl.of_nil,hL'] at hp
     obtain ⟨nn,hnn⟩:∃ nn,nn = o.l.length:=⟨_,rfl⟩
     rw [← hnn] at hp
     by_cases c8:0 < z2.length
     ·have c8':(0:Int) < (z2.length:Int):=by omega
      by_cases c9:4 < nn
      ·have c9':(4:Int) < (nn:Int):=by omega
       obtain ⟨o2,t1,t2,t3,t4⟩:=tail o ho nn hnn c9 c8
       have hw4:IntKind.i64.wrap ((nn:Int) - 4) = ((nn - 4:Nat):Int):=by rw [wrap_i64] <;> omega
       have ht:List.take (nn - 4) (ofBytes o.l) = ofBytes (o.l.take (nn - 4)):=ofBytes_take _ _
       have hle:((nn - 4:Nat):Int)≤(nn:Int):=by omega
       have hsl:=sealB_len o2
       generalize sealB o2 = o3 at *
       generalize o.l.take (nn - 4) = o4 at *
       obtain ⟨n4,hn4⟩:∃ n4,n4 = nn - 4:=⟨_,rfl⟩
       rw [← hn4] at *
       simp [k1,k2,k5,k6,k7,k8,hlt',sc,hnl,hL',hit,hm7,c7,hp,c8,c9',hw4,ht,hle,t2,t4,hnn.symm]
       exact ⟨.of o3,by rw [Sl.of_l];omega,rfl⟩
      ·have c9':¬ (4:Int) < (nn:Int):=by omega
       simp [k1,k2,k5,k6,k7,k8,hlt',sc,hnl,hL',hit,hm7,c7,hp,c8,c9']
       exact ⟨o,ho,by rw [← hnn]⟩
     ·have c8':¬ (0:Int) < (z2.length:Int):=by omega
      simp [k1,k2,k5,k6,k7,k8,hlt',sc,hnl,hL',hit,hm7,c7,hp,c8]
      exact ⟨o,ho,by rw [← hnn]⟩
end Go.Ev.S
namespace Go.Ev.S
open Go Go.Proofs Go.Ev
end Go.Ev.S
namespace Go.Ev.S
open Go Go.Proofs Go.Ev
def DoI.Fit (d:DoI):Prop:=0≤d.byv∧d.byv < 256
theorem has_I6 {n:Nat} {cs:List D} (h:HasT Tryz.prog (n+1) 3 cs):∃ a:I6,cs = Enc.cells a∧isI64 a.v:=by
 obtain ⟨x,rfl,w⟩:=has_i64 un3 h
 exact ⟨⟨x⟩,rfl,w⟩
theorem has_Do {n:Nat} {cs:List D} (h:HasT Tryz.prog (n+2+1) 36 cs):∃ d:DoI,cs = Enc.cells d∧DoI.Fit d:=by
 have h:=has_struct (P:=Tryz.prog) (n:=n+2) (t:=36) Tryz.underlying36 h
 simp only [HasFs] at h
 obtain ⟨a,b,rfl,-,ha,c,d,rfl,-,hc,e,f,rfl,-,he,g,k,rfl,-,hg,i,j,rfl,-,hi,l,m,rfl,-,hl,o,p,rfl,-,ho,rfl⟩:=h
 obtain ⟨x1,rfl,w1⟩:=has_i64 un3 ha
 obtain ⟨x2,rfl,w2⟩:=has_i64 un3 hc
 obtain ⟨x3,rfl,w3⟩:=has_i64 un3 he
 obtain ⟨s1,rfl,u1,u2⟩:=has_slice (α:=I6) un33 (fun l=>has_I6) hg
 obtain ⟨s2,rfl,u3,u4⟩:=has_slice (α:=I6) un33 (fun l=>has_I6) hi
 obtain ⟨y,rfl⟩:=has_u8 un5 hl
 obtain ⟨b,rfl,u5⟩:=has_bytes un34 un5 ho
 have hy:=UInt8.toNat_lt y
 exact ⟨⟨x1,x2,x3,s1,s2,y.toNat,b⟩,by simp [DoI.cells],by unfold DoI.Fit;simp only;omega⟩
end Go.Ev.S
namespace Go.Ev.S
open Go Go.Proofs Go.Ev
theorem do_cells (d:DoI) (hd:DoI.Fit d):∃ (kd ep nm:Int) (n1:Bool) (z1:List Int) (n2:Bool) (z2:List Int) (y:UInt8) (b:Sl UInt8),Enc.cells d = [.int .i64 kd,.int .i64 ep,.int .i64 nm,.vsl n1 (intsK .i64 z1) z1.length,.vsl n2 (intsK .i64 z2) z2.length,.int .u8 y.toNat,(.vsl b.nil (ofBytes b.l) b.l.length)]∧(n1 = true→z1 = [])∧(n2 = true→z2 = []):=by
 refine ⟨d.kind,d.epoch,d.number,d.ln.nil,d.ln.l.map (·.v),d.ats.nil,d.ats.l.map (·.v),UInt8.ofNat d.byv.toNat,d.b,?_,fun h=>by rw [d.ln.h h];rfl,fun h=>by rw [d.ats.h h];rfl⟩
 obtain ⟨h1,h2⟩:=hd
 simp [DoI.cells,encs_I6]
 omega
theorem dolight_ev [MaxL] (kd ep nm:Int) (n1:Bool) (z1:List Int) (n2:Bool) (z2:List Int) (y:Int) (b:Sl UInt8):call cx 10 [.agg [.int .i64 kd,.int .i64 ep,.int .i64 nm,.vsl n1 (intsK .i64 z1) z1.length,.vsl n2 (intsK .i64 z2) z2.length,.int .u8 y,(.vsl b.nil (ofBytes b.l) b.l.length)]] [] =
  some (.bool (decide (z1.length≤60) && (decide (b.l.length≤300) && decide (z2.length≤4))),[]):=by
 refine call_run Tryz.func10 rfl ⟨rfl,rfl⟩ ?_
 by_cases a1:z1.length≤60
 ·have a1':(z1.length:Int)≤60:=by omega
  by_cases a2:b.l.length≤300
  ·have a2':(b.l.length:Int)≤300:=by omega
   by_cases a3:z2.length≤4
   ·have a3':(z2.length:Int)≤4:=by omega
    simp [Tryz.f10,a1,a1',a2,a2',a3,a3']
   ·have a3':¬ (z2.length:Int)≤4:=by omega
    simp [Tryz.f10,a1,a1',a2,a2',a3,a3']
  ·have a2':¬ (b.l.length:Int)≤300:=by omega
   simp [Tryz.f10,a1,a1',a2,a2']
 ·have a1':¬ (z1.length:Int)≤60:=by omega
  simp [Tryz.f10,a1,a1']
theorem fence_step [MaxL] (x w n:Nat) (hx:x < 1000) (hw:x < w) (hw2:w < 3000) (hn:n < 3) (p:List UInt8) (hp:p = helloL∨p = batchL) (o:Sl UInt8) (ho:o.l.length≤65536) :
  ∃ m r:Sl UInt8,call cx 28 [.agg [.str p,.int .u64 x,.int .u64 n,(.vsl o.nil (ofBytes o.l) o.l.length)]] [] = some ((.vsl m.nil (ofBytes m.l) m.l.length),[]) ∧
   call cx 12 [.optr 0 4 0,(.vsl m.nil (ofBytes m.l) m.l.length)] [some [.int .u64 w,.int .u64 0,.vsl true [] 0,.vsl true [] 0]] = some ((.vsl r.nil (ofBytes r.l) r.l.length),[some [.int .u64 w,.int .u64 0,.vsl true [] 0,.vsl true [] 0]]) ∧
   call cx 21 [(.vsl r.nil (ofBytes r.l) r.l.length)] [] = some (.tup [.agg [.int .i64 409,.int .u64 w,.int .u64 n,.vsl false [] 0],.int .i64 0],[]):=by
 have ux:isU64 x:=by unfold isU64;omega
 have uw:isU64 w:=by unfold isU64;omega
 have un:isU64 n:=by unfold isU64;omega
 have h1:=putrq_ev ⟨p,x,n,o⟩ ux un (by show p.length≤100;rcases hp with rfl | rfl <;> decide) (by show o.l.length≤_;omega)
 rw [putrq_eq p hp x n o ho] at h1
 have hb:=rdRq_back x n (by omega) (by omega) o.l ho p hp
 have hl:=rq_len p hp x n o.l
 have h2:=hear_less w 0 (.vsl true [] 0) (.vsl true [] 0) rfl rfl (fun _=>rfl) (fun _=>rfl) (.of (beginL p ++ (numsL x n o.l.length ++ o.l))) (by rw [Sl.of_l];omega) p x n (.of o.l) (by rw [Sl.of_l];exact hb) (by omega) uw un
 have e3:=putrs_eq 409 (by simp) w n .none (by simp)
 rw [e3] at h2
 have hb2:=rdRs_back w n (by omega) (by omega) [] (by simp) 409 (by simp)
 have hl2:=rs_len 409 w n []
 have h3:=rdrs_ev (.of (statusL 409 ++ (numsL w n 0 ++ []))) (by rw [Sl.of_l];simp only [List.length_nil] at hl2;omega)
 simp only [List.length_nil] at hb2
 rw [Sl.of_l,hb2] at h3
 refine ⟨_,_,by simpa [Rq.cells] using h1,h2,?_⟩
 have q1:(Int.toNat (w:Int)) = w:=rfl
 have q2:(Int.toNat (n:Int)) = n:=rfl
 simpa [Rs.cells,q1,q2] using h3
end Go.Ev.S
namespace Go.Ev.S
open Go Go.Proofs Go.Ev
theorem fence_hello [MaxL] (w:Nat) (hw:0 < w) (hw2:w < 3000) :
  ∃ m r t:Sl UInt8,call cx 28 [.agg [.str [47,104,101,108,108,111],.int .u64 w,.int .u64 0,.vsl true [] 0]] [] = some ((.vsl m.nil (ofBytes m.l) m.l.length),[]) ∧
   call cx 12 [.optr 0 4 0,(.vsl m.nil (ofBytes m.l) m.l.length)] [some [.int .u64 0,.int .u64 0,.vsl true [] 0,.vsl true [] 0]] = some ((.vsl r.nil (ofBytes r.l) r.l.length),[some [.int .u64 w,.int .u64 0,.vsl true [] 0,.vsl true [] 0]]) ∧
   call cx 21 [(.vsl r.nil (ofBytes r.l) r.l.length)] [] = some (.tup [.agg [.int .i64 200,.int .u64 w,.int .u64 0,(.vsl t.nil (ofBytes t.l) t.l.length)],.int .i64 0],[]):=by
 have uw:isU64 w:=by unfold isU64;omega
 have u0:isU64 0:=by unfold isU64;omega
 have hp:helloL = helloL∨helloL = batchL:=.inl rfl
 have h1:=putrq_ev ⟨helloL,w,0,.none⟩ uw u0 (by show helloL.length≤100;decide) (by simp)
 rw [putrq_eq helloL hp w 0 .none (by simp)] at h1
 have hb:=rdRq_back w 0 (by omega) (by omega) [] (by simp) helloL hp
 have hl:=rq_len helloL hp w 0 []
 have h2:=hear_hello 0 0 (.vsl true [] 0) rfl (fun _=>rfl) .none (by simp) (by simp) (.of (beginL helloL ++ (numsL w 0 0 ++ []))) (by rw [Sl.of_l];simp only [List.length_nil] at hl;omega) w 0 (.of []) (by simp) (by rw [Sl.of_l];exact hb) (by omega) uw u0
 obtain ⟨t,ht⟩:∃ t:Sl UInt8,t = bytesS (Sl.none:Sl Mk).l:=⟨_,rfl⟩
 have htl:t.l.length≤1000:=by rw [ht];decide
 rw [← ht] at h2
 clear ht
 rw [putrs_eq 200 (by simp) w 0 t (by omega)] at h2
 have hb2:=rdRs_back w 0 (by omega) (by omega) t.l (by omega) 200 (by simp)
 have hl2:=rs_len 200 w 0 t.l
 have h3:=rdrs_ev (.of (statusL 200 ++ (numsL w 0 t.l.length ++ t.l))) (by rw [Sl.of_l];omega)
 rw [Sl.of_l,hb2] at h3
 simp [Rq.cells] at h1
 refine ⟨.of (beginL helloL ++ (numsL w 0 0 ++ [])),_,.of t.l,?_,h2,?_⟩
 ·simp
  exact h1
 ·have q1:(Int.toNat (w:Int)) = w:=rfl
  simpa [Rs.cells,q1] using h3
set_option maxHeartbeats 4000000 in
set_option maxRecDepth 8000 in
theorem fences_ev [MaxL] (s:Sl DoI) (hs:∀ d∈s.l,DoI.Fit d) (x y:Int):call cx 6 [(.vsl s.nil (encs s.l) s.l.length),.int .i64 x,.int .i64 y] [] = some (.bool true,[]):=by
 have f0:=first_ev30
 have fn:=new_ev
 refine call_run Tryz.func6 rfl ⟨rfl,rfl⟩ ?_
 by_cases h12:s.l.length≤12
 case neg =>
  have h12':(12:Int) < (s.l.length:Int):=by omega
  simp [Tryz.f6,f0,h12']
 have h12':¬ (12:Int) < (s.l.length:Int):=by omega
 obtain ⟨a,ha,c1⟩:=num_ev x 1000 (by omega) (by omega)
 obtain ⟨b,hb,c2⟩:=num_ev y 1000 (by omega) (by omega)
 replace c1:call cx 24 [.int .i64 x,.int .i64 1000] [] = some (.int .i64 a,[]):=c1
 replace c2:call cx 24 [.int .i64 y,.int .i64 1000] [] = some (.int .i64 b,[]):=c2
 obtain ⟨w,hw⟩:∃ w:Nat,w = a+1+b:=⟨_,rfl⟩
 have w1:IntKind.u64.wrap (a:Int) = (a:Int):=by rw [wrap_u64];omega
 have w2:IntKind.u64.wrap ((a:Int)+1) = (a:Int)+1:=by rw [wrap_u64];omega
 have w3:IntKind.u64.wrap (b:Int) = (b:Int):=by rw [wrap_u64];omega
 have w4:IntKind.u64.wrap ((a:Int)+1+(b:Int)) = (w:Int):=by rw [wrap_u64] <;> omega
 obtain ⟨m0,r0,t0,g1,g2,g3⟩:=fence_hello w (by omega) (by omega)
 have i0:=items0_ev w 0 (.vsl true [] 0) rfl fun _=>rfl
 have m0':=marks0_ev w 0 (.vsl true [] 0) rfl fun _=>rfl
 have e0:=epoch_ev w 0 (.vsl true [] 0) (.vsl true [] 0) rfl rfl (fun _=>rfl) fun _=>rfl
 have l0:=rlast_ev w 0 (.vsl true [] 0) (.vsl true [] 0) rfl rfl (fun _=>rfl) fun _=>rfl
 simp [Tryz.f6,f0,h12',fn,c1,c2,w1,w2,w3,w4,g1,g2,g3]
 refine Run.loopThen (fun (i:Nat) e H=>i≤s.l.length∧((∃ u,H = [some [.int .u64 w,.int .u64 0,.vsl true [] 0,.vsl true [] 0],u])∨∃ u v x,H = [some [.int .u64 w,.int .u64 0,.vsl true [] 0,.vsl true [] 0],u,v,x])∧look e 0 = some (.vsl s.nil (encs s.l) s.l.length)∧look e 7 = some (.bool true)∧look e 8 = some (.optr 0 4 0)∧look e 9 = some (.int .u64 a)∧look e 10 = some (.int .u64 w)∧look e 13 = some (.int .i64 i)) (fun i=>s.l.length - i) 0 ?_ ?_
 ·exact ⟨Nat.zero_le _,.inl ⟨_,rfl⟩,by simp,by simp,by simp,by simp,by simp,by simp⟩
 rintro i e H ⟨hi,hH,k0,k7,k8,k9,k10,k13⟩
 by_cases hlt:i < s.l.length
 ·have hlt':(i:Int) < (s.l.length:Int):=by omega
  have hw5:IntKind.i64.wrap ((i:Int)+1) = ((i+1:Nat):Int):=by rw [wrap_i64] <;> omega
  obtain ⟨kd,ep,nm,n1,z1,n2,z2,yy,bb,hc,q1,q2⟩:=do_cells s.l[i] (hs _ (List.getElem_mem hlt))
  have hea:List.drop (i * 7) (encs s.l) = Enc.cells s.l[i] ++ encs (s.l.drop (i+1)):=DoI.ea hlt
  rw [hc] at hea
  have hnil:s.nil = false:=Sl.nn hlt
  have hli:=dolight_ev kd ep nm n1 z1 n2 z2 yy.toNat bb
  obtain ⟨k,hk,c3⟩:=num_ev kd 2 (by omega) (by omega)
  obtain ⟨n,hn,c4⟩:=num_ev nm 3 (by omega) (by omega)
  replace c3:call cx 24 [.int .i64 kd,.int .i64 2] [] = some (.int .i64 k,[]):=c3
  replace c4:call cx 24 [.int .i64 nm,.int .i64 3] [] = some (.int .i64 n,[]):=c4
  have w5:IntKind.u64.wrap (n:Int) = (n:Int):=by rw [wrap_u64];omega
  cases hL:(decide (z1.length≤60) && (decide (bb.l.length≤300) && decide (z2.length≤4))) with
  | false =>
   rw [hL] at hli
   rcases hH with ⟨u,rfl⟩ | ⟨u,v,x,rfl⟩
   ·simp [-DoI.ea,k0,k7,k8,k9,k10,k13,hlt',hnil,hea,hli]
   ·simp [-DoI.ea,k0,k7,k8,k9,k10,k13,hlt',hnil,hea,hli]
  | true =>
   rw [hL] at hli
   simp only [Bool.and_eq_true,decide_eq_true_eq] at hL
   obtain ⟨l1,l2,l3⟩:=hL
   obtain ⟨q,hq,o,ho,rfl⟩:=batch_ev kd ep nm n1 z1 q1 l1 n2 z2 q2 l3 yy bb ⟨0,0,.none,.none⟩ (by intro m hm;simp at hm) (by simp)
   replace hq:call cx 29 [.agg [.int .i64 kd,.int .i64 ep,.int .i64 nm,.vsl n1 (intsK .i64 z1) z1.length,.vsl n2 (intsK .i64 z2) z2.length,.int .u8 yy.toNat,(.vsl bb.nil (ofBytes bb.l) bb.l.length)],.vptr [.int .u64 0,.int .u64 0,.vsl true [] 0,.vsl true [] 0]] [] = some ((.vsl o.nil (ofBytes o.l) o.l.length),[]):=hq
   obtain hk0 | hk1:k = 0∨k = 1:=by omega
   ·subst hk0
    obtain ⟨m,r,p1,p2,p3⟩:=fence_step a w n (by omega) (by omega) (by omega) hn helloL (.inl rfl) o ho
    replace p1:call cx 28 [.agg [.str [47,104,101,108,108,111],.int .u64 a,.int .u64 n,(.vsl o.nil (ofBytes o.l) o.l.length)]] [] = some ((.vsl m.nil (ofBytes m.l) m.l.length),[]):=p1
    rcases hH with ⟨u,rfl⟩ | ⟨u,v,x,rfl⟩
    ·simp [-DoI.ea,k0,k7,k8,k9,k10,k13,hlt',hnil,hea,hli,c3,c4,w5,hq,p1,p2,p3,hw5,i0,m0',e0,l0]
     exact ⟨i+1,by omega,by omega,by omega⟩
    ·simp [-DoI.ea,k0,k7,k8,k9,k10,k13,hlt',hnil,hea,hli,c3,c4,w5,hq,p1,p2,p3,hw5,i0,m0',e0,l0]
     exact ⟨i+1,by omega,by omega,by omega⟩
   ·subst hk1
    obtain ⟨m,r,p1,p2,p3⟩:=fence_step a w n (by omega) (by omega) (by omega) hn batchL (.inr rfl) o ho
    replace p1:call cx 28 [.agg [.str [47,98,97,116,99,104],.int .u64 a,.int .u64 n,(.vsl o.nil (ofBytes o.l) o.l.length)]] [] = some ((.vsl m.nil (ofBytes m.l) m.l.length),[]):=p1
    rcases hH with ⟨u,rfl⟩ | ⟨u,v,x,rfl⟩
    ·simp [-DoI.ea,k0,k7,k8,k9,k10,k13,hlt',hnil,hea,hli,c3,c4,w5,hq,p1,p2,p3,hw5,i0,m0',e0,l0]
     exact ⟨i+1,by omega,by omega,by omega⟩
    ·simp [-DoI.ea,k0,k7,k8,k9,k10,k13,hlt',hnil,hea,hli,c3,c4,w5,hq,p1,p2,p3,hw5,i0,m0',e0,l0]
     exact ⟨i+1,by omega,by omega,by omega⟩
 ·have hlt':¬ (i:Int) < (s.l.length:Int):=by omega
  rcases hH with ⟨u,rfl⟩ | ⟨u,v,x,rfl⟩
  ·simp [k0,k7,k8,k9,k10,k13,hlt']
  ·simp [k0,k7,k8,k9,k10,k13,hlt']
end Go.Ev.S
namespace Go.Ev
open Go Go.Proofs Go.ChangeShapes Go.WideShapes Go.ChangeAt Go.RowKit
theorem handed_shaped {H:Type} {enc:TypeId × Value→H} {a:Assume} {C:Checked} {os:Os} {f:FuncId} {fn:Func} {s:ChangeSpec} {conds:List PathCond} {apart fresh handsOn again:Bool} {X:World→Array Value→Prop}
  (hX:∀ (w w':World) (args:Array Value),w.heap = w'.heap→X w args→X w' args)
  (own:ownKnob C.prog.godebug = none) (started:os.Started) (noInit:C.prog.inits.idxOf? f = none) (hfn:C.prog.funcs[f]? = some fn)
  (witness:∃ (w:World) (tape:Tape) (i:Input),w.os = os∧(w.forCall tape i).Shaped C.prog∧i.vars = []∧Input.okWide C.prog (w.forCall tape i) .any w.heap.size f i ∧
   ((s.pre enc C.prog fn conds apart (w.forCall tape i).memory i.args∧X (w.forCall tape i).memory i.args)∧sizedMet enc C.prog fn (OpenSpec.ofChange s) apart (w.forCall tape i).memory i.args)∧a.holds C.prog (lone (Frame.enter C.prog f i.args .normal) [] (w.forCall tape i)))
  (contract:∀ (W:World) (base:Nat) (args:Array Value) (ds gs:List (DataW H)) (before:List MemPlace),
   (∀ (j:Nat) t v,fn.params[j]? = some t→args[j]? = some v→Value.okWide C.prog W .any base t v) →
   DataW.Whole enc C.prog fn.params.toList s.vars apart W args.toList ds gs before→X W args→W.ShapedOpen C.prog →
   Calls C.prog f args W fun e W'=>∃ v,e = .returned v∧s.post enc C.prog fn apart fresh handsOn again W args v W') :
  ReturnsInHanded a C os f .any (fun w args=>(s.pre enc C.prog fn conds apart w args∧X w args)∧sizedMet enc C.prog fn (OpenSpec.ofChange s) apart w args) (s.post enc C.prog fn apart fresh handsOn again):=by
 refine returnsInHanded_of_calls own started noInit witness ?_
 intro w tape i _ hsh _ hok hpre _
 obtain ⟨_,_,_,fn',hfn',_,_,_,_,hval⟩:=hok
 have e:fn' = fn:=Option.some.inj (hfn'.symm.trans hfn)
 subst e
 obtain ⟨⟨⟨ds,gs,before,hw,hc⟩,hx⟩,hz⟩:=hpre
 have hw':=DataW.Whole.of_heap (w':=w.forCall tape i) (by rfl) hw
 refine (contract (w.forCall tape i) w.heap.size i.args ds gs before hval hw' (hX _ _ _ (by rfl) hx) hsh).mono fun e W' ⟨v,he,hp⟩=>?_
 subst he
 exact ChangeSpec.post_blind hp
end Go.Ev
