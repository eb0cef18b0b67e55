import Derived.Test.YtkfojmihnjnhfaaGreatDoorC5
namespace Go.Ev.S
open Go Go.Proofs Go.Ev
theorem bequal_ev [MaxL] (a b:Sl UInt8) (_:a.l.length < 1000000) (_:b.l.length < 1000000):call cx 122 [(.vsl a.nil (ofBytes a.l) a.l.length),(.vsl b.nil (ofBytes b.l) b.l.length)] [] = some (.bool (a.l == b.l),[]):=by
 have t1:List.take a.l.length (ofBytes a.l) = ofBytes a.l:=List.take_of_length_le (by simp)
 have t2:List.take b.l.length (ofBytes b.l) = ofBytes b.l:=List.take_of_length_le (by simp)
 refine call_run Tryz.func122 rfl ⟨rfl,rfl⟩ ?_
 simp [Tryz.f122]
theorem bpfx_ev [MaxL] (s:Sl UInt8) (p:List UInt8) (hs:s.l.length < 1000000) (hp:p.length < 1000000) (h1:1≤p.length):call cx 108 [(.vsl s.nil (ofBytes s.l) s.l.length),.vsl false (ofBytes p) p.length] [] = some (.bool (pre p s.l),[]):=by
 unfold pre
 refine call_run Tryz.func108 rfl ⟨rfl,rfl⟩ ?_
 by_cases hle:p.length≤s.l.length
 ·have hle':(p.length:Int)≤(s.l.length:Int):=by omega
  have hnn:s.nil = false:=Sl.nn (i:=0) (by omega)
  have he:=bequal_ev (.of (s.l.take p.length)) (.of p) (by simp;omega) hp
  simp only [Sl.of_l,Sl.of_nil] at he
  have t1:List.take p.length (ofBytes s.l) = ofBytes (s.l.take p.length):=ofBytes_take _ _
  have l1:(s.l.take p.length).length = p.length:=by simp;omega
  rw [l1] at he
  simp [Tryz.f108,hle',hnn,t1,he]
 ·have hle':¬ (p.length:Int)≤(s.l.length:Int):=by omega
  have hne:(s.l.take p.length == p) = false:=by
   refine beq_eq_false_iff_ne.2 fun e=>?_
   have:=congrArg List.length e
   simp at this
   omega
  rw [hne]
  simp [Tryz.f108,hle']
def It.zero:It:=⟨ID.zero,false,0,0,Rec.zero⟩
theorem pu_lt {s:List UInt8}:(pu 10 s).getD 0 < 18446744073709551616:=by
 cases h:pu 10 s with
 | none=>decide
 | some v =>
  unfold pu at h
  split at h
  ·cases h
  ·exact puGo_lt 10 _ _ _ (by decide) h
theorem nmI_lt (p b:List UInt8):isU64 (nmI p b:Nat):=by
 have:nmI p b < 18446744073709551616:=pu_lt
 unfold isU64
 omega
theorem u64_zero:isU64 0:=by unfold isU64;decide
theorem Rec.zero_ok:Rec.zero.Ok:=⟨u64_zero,u64_zero,u64_zero⟩
theorem gapP_ok (b:List UInt8):(gapP b).Ok:=by
 have h1:=pu_lt (s:=(cutL [45] (trimL kGap (lnL b))).1)
 have h2:=pu_lt (s:=(cutL [45] (trimL kGap (lnL b))).2.1)
 refine ⟨?_,?_,Rec.zero_ok⟩ <;> (unfold gapP isU64;simp only;omega)
theorem entP_ok (b:List UInt8):(entP b).Ok:=⟨u64_zero,u64_zero,nmI_lt _ _,nmI_lt _ _,nmI_lt _ _⟩
theorem pairP_b {b:List UInt8} {p:Pr} {r:List UInt8} (h:pairP b = some (p,r)):p.name.length≤b.length∧p.value.length≤b.length:=by
 unfold pairP at h
 split at h
 ·cases h
 ·split at h
  ·injection h with h
   injection h with h _
   rw [← h]
   exact ⟨by simp;omega,Nat.le_trans (lnL_len _) (by simp)⟩
  ·split at h
   ·cases h
   ·split at h
    ·cases h
    ·injection h with h
     injection h with h _
     rw [← h]
     constructor
     ·simp;omega
     ·simp;omega
theorem fldP_b:∀ (n:Nat) (b:List UInt8),(∀ p∈fldP n b,p.name.length≤b.length∧p.value.length≤b.length)∧(fldP n b).length≤n
 | 0,b=>⟨fun p h=>by simp [fldP] at h,by simp [fldP]⟩
 | n+1,b=>by
  rw [fldP]
  cases h:pairP b with
  | none=>exact ⟨fun p h=>by simp at h,by simp⟩
  | some q =>
   obtain ⟨p,r⟩:=q
   simp only
   obtain ⟨h1,h2⟩:=fldP_b n r
   have hr:=pairP_len h
   refine ⟨fun x hx=>?_,by simpa using h2⟩
   rcases List.mem_cons.1 hx with rfl | hx
   ·exact pairP_b h
   ·have:=h1 x hx
    omega
def itemP (b:List UInt8):It:=if pre kGap b then gapP b else entP b
theorem itemP_ok (b:List UInt8):(itemP b).Ok:=by
 unfold itemP
 split
 ·exact gapP_ok b
 ·exact entP_ok b
theorem itemP_b (b:List UInt8) (hb:b.length < 1000000):(∀ p∈(itemP b).rc.fields.l,PrB p)∧(itemP b).rc.fields.l.length < 1000000:=by
 unfold itemP
 split
 ·exact ⟨fun p hp=>(by cases hp),(by show (0:Nat) < 1000000;decide)⟩
 ·obtain ⟨h1,h2⟩:=fldP_b 17 (lnR (lnR (lnR (lnR (lnR (lnR b))))))
  have l1:=lnR_len b
  have l2:=lnR_len (lnR b)
  have l3:=lnR_len (lnR (lnR b))
  have l4:=lnR_len (lnR (lnR (lnR b)))
  have l5:=lnR_len (lnR (lnR (lnR (lnR b))))
  have l6:=lnR_len (lnR (lnR (lnR (lnR (lnR b)))))
  refine ⟨fun p hp=>?_,?_⟩
  ·obtain ⟨q1,q2⟩:=h1 p hp
   exact ⟨by omega,by omega⟩
  ·show (fldP 17 _).length < _
   omega
def readOk (b:List UInt8):Bool:=itOk (itemP b) && pre (textL (itemP b)) b
def readD (b:List UInt8):D:=if readOk b then .tup [.agg (Enc.cells (itemP b)),.int .i64 (textL (itemP b)).length,.int .i64 0] else .tup [.agg (Enc.cells It.zero),.int .i64 0,.int .i64 20]
set_option maxHeartbeats 4000000 in
set_option maxRecDepth 8000 in
theorem read_ev [MaxL] (s:Sl UInt8) (hs:s.l.length < 1000000) (hlong:itOk (itemP s.l) = true→(textL (itemP s.l)).length < 1000000∧1≤(textL (itemP s.l)).length):call cx 109 [(.vsl s.nil (ofBytes s.l) s.l.length)] [] = some (readD s.l,[]):=by
 have hok:=itemP_ok s.l
 obtain ⟨hb,hn⟩:=itemP_b s.l hs
 have ht:=text_ev (itemP s.l) hok hb hn
 have hpg:=bpfx_ev s kGap hs (by decide) (by decide)
 obtain ⟨rg,hgap⟩:=gap_ev s hs
 obtain ⟨qe,hent,re,rfl⟩:=entry_ev s hs
 have hI:itemP s.l = if pre kGap s.l then gapP s.l else entP s.l:=rfl
 unfold readD readOk
 unfold textD at ht
 generalize itemP s.l = it at *
 replace hpg:call cx 108 [(.vsl s.nil (ofBytes s.l) s.l.length),.vsl false [.int .u8 95,.int .u8 95,.int .u8 71,.int .u8 65,.int .u8 80,.int .u8 61] 6] [] = some (.bool (pre kGap s.l),[]):=hpg
 refine call_run Tryz.func109 rfl ⟨rfl,rfl⟩ ?_
 cases hp:pre kGap s.l with
 | true =>
  rw [hp] at hI hpg
  simp only [if_true] at hI
  rw [← hI] at hgap
  cases ho:itOk it with
  | true =>
   obtain ⟨q1,q2⟩:=hlong ho
   rw [ho] at ht
   simp only [if_true] at ht
   have hps:=bpfx_ev s (textL it) hs q1 q2
   have hne:¬ (textL it).length = 0:=by omega
   generalize textL it = t at *
   cases hpt:pre t s.l with
   | true =>
    rw [hpt] at hps
    simp [Tryz.f109,hpg,hgap,ht,hps,hne]
   | false =>
    rw [hpt] at hps
    simp [Tryz.f109,hpg,hgap,ht,hps,hne]
    rfl
  | false =>
   rw [ho] at ht
   simp [Tryz.f109,hpg,hgap,ht]
   rfl
 | false =>
  rw [hp] at hI hpg
  simp only [Bool.false_eq_true,if_false] at hI
  rw [← hI] at hent
  cases ho:itOk it with
  | true =>
   obtain ⟨q1,q2⟩:=hlong ho
   rw [ho] at ht
   simp only [if_true] at ht
   have hps:=bpfx_ev s (textL it) hs q1 q2
   have hne:¬ (textL it).length = 0:=by omega
   generalize textL it = t at *
   cases hpt:pre t s.l with
   | true =>
    rw [hpt] at hps
    simp [Tryz.f109,hpg,hent,ht,hps,hne]
   | false =>
    rw [hpt] at hps
    simp [Tryz.f109,hpg,hent,ht,hps,hne]
    rfl
  | false =>
   rw [ho] at ht
   simp [Tryz.f109,hpg,hent,ht]
   rfl
end Go.Ev.S
namespace Go.Ev.S
open Go Go.Proofs Go.Ev
end Go.Ev.S
namespace Go.Ev.S
open Go Go.Proofs Go.Ev
end Go.Ev.S
namespace Go.Ev.S
open Go Go.Proofs Go.Ev
end Go.Ev.S
namespace Go.Ev.S
open Go Go.Proofs Go.Ev
end Go.Ev.S
namespace Go.Ev.S
open Go Go.Proofs Go.Ev
end Go.Ev.S
namespace Go.Ev.S
open Go Go.Proofs Go.Ev
theorem It.zero_ok:It.zero.Ok:=⟨u64_zero,u64_zero,Rec.zero_ok⟩
structure ReadQ (b:List UInt8) (q:It × Nat × Bool):Prop where
 ok:q.1.Ok
 bs:∀ p∈q.1.rc.fields.l,p.name.length≤b.length∧p.value.length≤b.length
 n:q.1.rc.fields.l.length≤17
 le:q.2.1≤b.length
end Go.Ev.S
namespace Go.Ev.S
open Go Go.Proofs Go.Ev
theorem dval_dig {k:Nat} (h:k < 10):dval (UInt8.ofNat (48+k)) = some k:=by
 have e:(UInt8.ofNat (48+k)).toNat = 48+k:=UInt8.toNat_ofNat_of_lt' (show 48+k < 256 by omega)
 unfold dval
 rw [if_pos (by rw [e];omega),e]
 congr 1
 omega
theorem puGo_append (b:Nat):∀ (l r:List UInt8) (n:Nat),puGo b (l ++ r) n = match puGo b l n with
  | none=>none
  | some m=>puGo b r m
 | [],r,n=>by simp [puGo]
 | c :: l,r,n=>by
  simp only [List.cons_append,puGo]
  cases dval c with
  | none=>rfl
  | some d =>
   simp only
   split
   ·rfl
   ·split
    ·rfl
    ·exact puGo_append b l r _
theorem puGo_decF:∀ (f v:Nat),v < 10 ^ f→1≤f→v < 18446744073709551616→puGo 10 (decF f v) 0 = some v
 | f+1,v,h,_,h64=>by
  rw [decF]
  by_cases hv:v < 10
  ·rw [if_pos hv]
   simp only [puGo,dval_dig hv]
   rw [if_neg (by omega),if_neg (by omega)]
   congr 1
   omega
  ·rw [if_neg hv,puGo_append]
   have hf:1≤f:=by
    rcases f with _ | f
    ·simp at h;omega
    ·omega
   rw [puGo_decF f (v / 10) (by rw [Nat.pow_succ] at h;omega) hf (by omega)]
   simp only [puGo,dval_dig (Nat.mod_lt v (by decide:10 > 0))]
   rw [if_neg (by omega),if_neg (by omega)]
   congr 1
   omega
theorem decF_head:∀ (f v:Nat),v < 10 ^ f→(decF f v).head? = some 48→v = 0∧(decF f v).length≤1
 | 0,v,_,h=>by simp [decF] at h
 | f+1,v,hv,h=>by
  rw [decF] at h ⊢
  by_cases h10:v < 10
  ·rw [if_pos h10] at h ⊢
   simp only [List.head?_cons,Option.some.injEq] at h
   have:=congrArg UInt8.toNat h
   rw [UInt8.toNat_ofNat_of_lt' (show 48+v < 256 by omega)] at this
   simp at this
   exact ⟨by omega,by simp⟩
  ·rw [if_neg h10] at h
   exfalso
   rcases f with _ | f
   ·simp at hv;omega
   ·have hp:v / 10 < 10 ^ (f+1):=by rw [Nat.pow_succ] at hv;omega
    have hne:decF (f+1) (v / 10)≠[]:=by
     rw [decF]
     split <;> simp
    have h':(decF (f+1) (v / 10)).head? = some 48:=by
     obtain ⟨a,l,hal⟩:=List.exists_cons_of_ne_nil hne
     rw [hal] at h ⊢
     exact h
    have:=(decF_head (f+1) (v / 10) hp h').1
    omega
theorem num_dec {v:Nat} (h:v < 18446744073709551616):numP (dec v) = some v:=by
 have h1:=dec_pos v
 have h2:=dec_len v
 have h3:=decF_head 20 v (Nat.lt_trans h (by decide))
 unfold numP
 rw [if_neg]
 ·exact puGo_decF 20 v (Nat.lt_trans h (by decide)) (by decide) h
 ·rintro (e | e | ⟨e1,e2⟩)
  ·rw [e] at h1;simp at h1
  ·omega
  ·have:=(h3 e1).2
   unfold dec at e2
   omega
end Go.Ev.S
namespace Go.Ev.S
open Go Go.Proofs Go.Ev
theorem decF_dig:∀ (f v:Nat),∀ x∈decF f v,48≤x.toNat∧x.toNat≤57
 | 0,_,x,h=>by simp [decF] at h
 | f+1,v,x,h=>by
  rw [decF] at h
  split at h
  ·rename_i hv
   rw [List.mem_singleton.1 h,UInt8.toNat_ofNat_of_lt' (show 48+v < 256 by omega)]
   omega
  ·rcases List.mem_append.1 h with h | h
   ·exact decF_dig f _ x h
   ·rw [List.mem_singleton.1 h,UInt8.toNat_ofNat_of_lt' (show 48+v % 10 < 256 by omega)]
    omega
theorem dec_dig (v:Nat):∀ x∈dec v,48≤x.toNat∧x.toNat≤57:=decF_dig 20 v
theorem hexc_ge:∀ k,k < 16→48≤(hexc k).toNat:=by decide
theorem hexs_ge:∀ (l:List UInt8),∀ x∈hexs l,48≤x.toNat
 | [],x,h=>by simp [hexs] at h
 | b :: l,x,h=>by
  rw [hexs] at h
  have hb:=b.toNat_lt
  rcases List.mem_cons.1 h with rfl | h
  ·exact hexc_ge _ (by omega)
  ·rcases List.mem_cons.1 h with rfl | h
   ·exact hexc_ge _ (by omega)
   ·exact hexs_ge l x h
theorem hexF_ge:∀ (f v:Nat),∀ x∈hexF f v,48≤x.toNat
 | 0,_,x,h=>by simp [hexF] at h
 | f+1,v,x,h=>by
  rw [hexF] at h
  split at h
  ·rename_i hv
   rw [List.mem_singleton.1 h]
   exact hexc_ge _ hv
  ·rcases List.mem_append.1 h with h | h
   ·exact hexF_ge f _ x h
   ·rw [List.mem_singleton.1 h]
    exact hexc_ge _ (Nat.mod_lt _ (by decide))
theorem showL_ge (c:Cur):∀ x∈showL c,48≤x.toNat:=by
 intro x h
 unfold showL at h
 simp only [List.mem_append] at h
 have k:∀ l:List UInt8,(∀ y∈l,48≤y.toNat)→x∈l→48≤x.toNat:=fun l hl hx=>hl x hx
 rcases h with h | h | h | h | h | h | h | h | h | h | h | h
 ·exact k kS (by decide) h
 ·exact hexs_ge _ x h
 ·exact k kI (by decide) h
 ·exact hexF_ge 16 _ x h
 ·exact k kB (by decide) h
 ·exact hexs_ge _ x h
 ·exact k kM (by decide) h
 ·exact hexF_ge 16 _ x h
 ·exact k kT (by decide) h
 ·exact hexF_ge 16 _ x h
 ·exact k kX (by decide) h
 ·exact hexF_ge 16 _ x h
theorem ne_of_ge {x c:UInt8} (h:c.toNat < x.toNat):x≠c:=by rintro rfl;omega
theorem no10 {l:List UInt8} (h:∀ x∈l,48≤x.toNat):∀ x∈l,x≠10:=fun x hx=>ne_of_ge (by have:=h x hx;show 10 < x.toNat;omega)
theorem no10_app {a b:List UInt8} (ha:∀ x∈a,x≠10) (hb:∀ x∈b,x≠10):∀ x∈a ++ b,x≠10:=fun x hx=>(List.mem_append.1 hx).elim (ha x) (hb x)
theorem cut_app (c:UInt8) {A:List UInt8} (h:∀ x∈A,x≠c) (B:List UInt8):cutL [c] (A ++ c :: B) = (A,B,true):=by
 have h1:=idx_at c A B 0 h
 rw [Nat.zero_add] at h1
 unfold cutL
 rw [h1,if_neg (by omega)]
 have e:((A.length:Nat):Int).toNat = A.length:=by omega
 rw [e]
 simp [List.drop_append]
theorem lnL_app {A:List UInt8} (h:∀ x∈A,x≠10) (B:List UInt8):lnL (A ++ 10 :: B) = A:=by unfold lnL;rw [cut_app 10 h]
theorem lnR_app {A:List UInt8} (h:∀ x∈A,x≠10) (B:List UInt8):lnR (A ++ 10 :: B) = B:=by unfold lnR;rw [cut_app 10 h]
theorem pre_self (p x:List UInt8):pre p (p ++ x) = true:=by unfold pre;simp
theorem trim_self (p x:List UInt8):trimL p (p ++ x) = x:=by unfold trimL;rw [if_pos (pre_self p x)];simp
theorem pu_dec {v:Nat} (h:v < 18446744073709551616):pu 10 (dec v) = some v:=by
 have hn:=num_dec h
 have hp:=dec_pos v
 unfold numP at hn
 split at hn
 ·cases hn
 ·unfold pu
  rw [if_neg (by intro e;rw [e] at hp;simp at hp)]
  exact hn
theorem drop_line (A B:List UInt8):(A ++ 10 :: B).drop (A.length+1) = B:=by
 rw [List.drop_append]
 simp
theorem nameOk_no {n:List UInt8} (h:nameOk n = true):n≠[]∧n.length≤64∧∀ x∈n,48≤x.toNat∧x≠61:=by
 unfold nameOk at h
 split at h
 ·cases h
 ·rename_i c l
  simp only [Bool.and_eq_true,decide_eq_true_eq,List.all_eq_true] at h
  refine ⟨by simp,h.1.1,fun x hx=>?_⟩
  have:=h.2 x hx
  unfold nameC at this
  simp only [Bool.or_eq_true,Bool.and_eq_true,decide_eq_true_eq] at this
  refine ⟨by omega,?_⟩
  rintro rfl
  have e:(61:UInt8).toNat = 61:=rfl
  rw [e] at this
  omega
theorem plainV_no {v:List UInt8} (h:plainV v = true):∀ x∈v,x≠10:=by
 intro x hx
 unfold plainV at h
 have:=List.all_eq_true.1 h x hx
 unfold plainC at this
 rintro rfl
 revert this
 decide
theorem prOk_is {p:Pr} (h:prOk p = true):nameOk p.name = true∧p.value.length≤256:=by
 unfold prOk at h
 simp only [Bool.and_eq_true,decide_eq_true_eq] at h
 exact h
theorem anyI_at:∀ (A B:List UInt8) (c:UInt8) (n:Nat),(∀ x∈A,x≠61∧x≠10)→c = 61∨c = 10→anyI (A ++ c :: B) n = ((n+A.length:Nat):Int)
 | [],B,c,n,_,hc=>by simp [anyI,hc]
 | x :: A,B,c,n,h,hc=>by
  have hx:=h x (by simp)
  rw [List.cons_append,anyI,if_neg (by rintro (e | e);exact hx.1 e;exact hx.2 e),anyI_at A B c (n+1) (fun y hy=>h y (by simp [hy])) hc]
  simp
  omega
theorem leB_get (v:Nat) (hv:v < 18446744073709551616) (R:List UInt8):leGet (leB 8 v ++ R) 0 8 = some v:=by
 have hl:=leB_len 8 v
 unfold leGet
 rw [if_pos ⟨by decide,by decide,by simp [hl];omega⟩]
 have e:((leB 8 v ++ R).drop (0:Int).toNat).take (8:Int).toNat = leB 8 v:=by
  show ((leB 8 v ++ R).drop 0).take 8 = _
  rw [List.drop_zero,List.take_left' hl]
 rw [e,leN_leB,Nat.mod_eq_of_lt (by simpa using hv)]
theorem pairP_text {p:Pr} (h:prOk p = true) (R:List UInt8):pairP (pairL p ++ R) = some (p,R):=by
 obtain ⟨hn,hv⟩:=prOk_is h
 obtain ⟨n0,n1,n2⟩:=nameOk_no hn
 have hne:∀ x∈p.name,x≠61∧x≠10:=fun x hx=>⟨(n2 x hx).2,ne_of_ge (by have:=(n2 x hx).1;show 10 < x.toNat;omega)⟩
 have hpos:1≤p.name.length:=by
  cases hc:p.name with
  | nil=>exact absurd hc n0
  | cons=>simp
 have gen:∀ (c:UInt8) (T:List UInt8),c = 61∨c = 10→pairP (p.name ++ c :: T) = if c = 61 then some (⟨p.name,lnL T⟩,lnR T) else match leGet T 0 8 with
   | none=>none
   | some n=>if 256 < n∨T.length < 9+n then none else some (⟨p.name,(T.drop 8).take n⟩,T.drop (9+n)):=by
  intro c T hc
  have ha:=anyI_at p.name T c 0 hne hc
  rw [Nat.zero_add] at ha
  have e:((p.name.length:Nat):Int).toNat = p.name.length:=by omega
  have d1:(p.name ++ c :: T).drop (p.name.length+1) = T:=by rw [List.drop_append];simp
  have d2:(p.name ++ c :: T).getD p.name.length 0 = c:=by simp [List.getD]
  have d3:(p.name ++ c :: T).take p.name.length = p.name:=by simp
  unfold pairP
  rw [ha,if_neg (by omega),e,d1,d2,d3]
  all_goals (cases leGet T 0 8 <;> rfl)
 unfold pairL
 cases hp:plainV p.value with
 | true =>
  have e:(if true = true then ((p.name ++ [61]) ++ p.value) ++ [10] else (((p.name ++ [10]) ++ leB 8 p.value.length) ++ p.value) ++ [10]) ++ R = p.name ++ 61 :: (p.value ++ 10 :: R):=by simp
  rw [e,gen 61 _ (.inl rfl),if_pos rfl,lnL_app (plainV_no hp),lnR_app (plainV_no hp)]
 | false =>
  have e:(if false = true then ((p.name ++ [61]) ++ p.value) ++ [10] else (((p.name ++ [10]) ++ leB 8 p.value.length) ++ p.value) ++ [10]) ++ R = p.name ++ 10 :: (leB 8 p.value.length ++ (p.value ++ 10 :: R)):=by simp
  rw [e,gen 10 _ (.inr rfl),if_neg (by decide),leB_get _ (by omega)]
  have hl:=leB_len 8 p.value.length
  have hno:¬ (256 < p.value.length∨(leB 8 p.value.length ++ (p.value ++ 10 :: R)).length < 9+p.value.length):=by
   rintro (h | h)
   ·omega
   ·simp [hl] at h
    omega
  simp only [hno,if_false]
  have d1:(leB 8 p.value.length ++ (p.value ++ 10 :: R)).drop 8 = p.value ++ 10 :: R:=List.drop_left' hl
  have d2:(leB 8 p.value.length ++ (p.value ++ 10 :: R)).drop (9+p.value.length) = R:=by
   rw [show 9+p.value.length = 8+(p.value.length+1) by omega,← List.drop_drop,d1,drop_line]
  rw [d1,d2]
  simp
theorem pairP_end (R:List UInt8):pairP (10 :: R) = none:=by
 unfold pairP
 rw [if_pos (by simp [anyI])]
theorem fldP_text:∀ (F:List Pr) (n:Nat) (R:List UInt8),F.length≤n→(∀ p∈F,prOk p = true)→fldP n (bodyL F ++ 10 :: R) = F
 | [],0,R,_,_=>rfl
 | [],n+1,R,_,_=>by
  rw [fldP]
  show (match pairP (10 :: R) with | none=>[] | some (p,r)=>p :: fldP n r) = []
  rw [pairP_end]
 | p :: F,0,R,h,_=>by simp at h
 | p :: F,n+1,R,h,hp=>by
  have e:bodyL (p :: F) ++ 10 :: R = pairL p ++ (bodyL F ++ 10 :: R):=by simp [bodyL]
  rw [e,fldP,pairP_text (hp p (by simp))]
  show p :: fldP n (bodyL F ++ 10 :: R) = _
  rw [fldP_text F n R (by simpa using h) fun q hq=>hp q (by simp [hq])]
end Go.Ev.S
namespace Go.Ev.S
open Go Go.Proofs Go.Ev
def normI (it:It):It:=if it.gap then ⟨it.id,true,it.fr,it.til,Rec.zero⟩ else it
theorem headL_cons (a:List UInt8) (L:List (List UInt8)) (R:List UInt8):headL (a :: L) ++ R = a ++ 10 :: (headL L ++ R):=by simp [headL]
theorem headL_nil (R:List UInt8):headL [] ++ R = R:=by simp [headL]
theorem textR_eq (it:It) (more:List UInt8):textR it ++ more = (kPlace ++ showL (cOfP it.id it.rc)) ++ 10 :: ((kReal ++ dec it.rc.real.toNat) ++ 10 :: ((kMono ++ dec it.rc.mono.toNat) ++ 10 :: ((kSeq ++ dec it.rc.seq.toNat) ++ 10 :: ((kId ++ hexs it.id.l) ++ 10 :: ((kBoot ++ hexs it.rc.boot.l) ++ 10 :: (bodyL it.rc.fields.l ++ 10 :: more)))))):=by
 unfold textR sixL
 rw [List.append_assoc,List.append_assoc,headL_cons,headL_cons,headL_cons,headL_cons,headL_cons,headL_cons,headL_nil]
 rfl
theorem textG_eq (it:It) (more:List UInt8):textG it ++ more = (kGap ++ (dec it.fr.toNat ++ 45 :: dec it.til.toNat)) ++ 10 :: ((kId ++ hexs it.id.l) ++ 10 :: ([] ++ 10 :: more)):=by
 unfold textG
 simp
theorem k10:(∀ x∈kPlace,x≠10)∧(∀ x∈kReal,x≠10)∧(∀ x∈kMono,x≠10)∧(∀ x∈kSeq,x≠10)∧(∀ x∈kId,x≠10)∧(∀ x∈kBoot,x≠10)∧∀ x∈kGap,x≠10:=by decide
theorem dec10 (v:Nat):∀ x∈dec v,x≠10:=no10 fun x h=>(dec_dig v x h).1
theorem dec45 (v:Nat):∀ x∈dec v,x≠45:=fun x h=>ne_of_ge (by have:=(dec_dig v x h).1;show 45 < x.toNat;omega)
theorem gap10 (it:It):∀ x∈kGap ++ (dec it.fr.toNat ++ 45 :: dec it.til.toNat),x≠10:=by
 refine no10_app k10.2.2.2.2.2.2 (no10_app (dec10 _) fun x h=>?_)
 rcases List.mem_cons.1 h with rfl | h
 ·decide
 ·exact dec10 _ x h
theorem id10 (i:ID):∀ x∈kId ++ hexs i.l,x≠10:=no10_app k10.2.2.2.2.1 (no10 (hexs_ge _))
theorem boot10 (i:ID):∀ x∈kBoot ++ hexs i.l,x≠10:=no10_app k10.2.2.2.2.2.1 (no10 (hexs_ge _))
theorem place10 (c:Cur):∀ x∈kPlace ++ showL c,x≠10:=no10_app k10.1 (no10 (showL_ge _))
theorem gap_is {it:It} (hi:it.Ok) (ho:itOk it = true) (hg:it.gap = true):it.fr.toNat < 18446744073709551616∧it.til.toNat < 18446744073709551616∧((it.fr.toNat:Nat):Int) = it.fr∧((it.til.toNat:Nat):Int) = it.til∧it.rc.seq = 0∧it.rc.real = 0∧it.rc.mono = 0∧it.rc.boot = ID.zero∧it.rc.fields.l = []∧gapOk it = true:=by
 have h1:=hi.fr
 have h2:=hi.til
 unfold isU64 at h1 h2
 unfold itOk at ho
 rw [hg,if_pos rfl] at ho
 have ho':=ho
 unfold gapOk at ho
 simp only [Bool.and_eq_true,decide_eq_true_eq] at ho
 obtain ⟨⟨⟨⟨⟨⟨a1,a2⟩,a3⟩,a4⟩,a5⟩,a6⟩,a7⟩:=ho
 exact ⟨by omega,by omega,by omega,by omega,a3,a4,a5,a6,List.eq_nil_of_length_eq_zero a7,ho'⟩
theorem rec_is {it:It} (hi:it.Ok) (ho:itOk it = true) (hg:it.gap = false):(it.rc.real.toNat < 18446744073709551616∧it.rc.mono.toNat < 18446744073709551616∧it.rc.seq.toNat < 18446744073709551616)∧(((it.rc.real.toNat:Nat):Int) = it.rc.real∧((it.rc.mono.toNat:Nat):Int) = it.rc.mono∧((it.rc.seq.toNat:Nat):Int) = it.rc.seq)∧it.fr = 0∧it.til = 0∧1≤it.rc.fields.l.length∧it.rc.fields.l.length≤16∧(∀ p∈it.rc.fields.l,prOk p = true)∧recOk it = true:=by
 have h1:=hi.rc.seq
 have h2:=hi.rc.real
 have h3:=hi.rc.mono
 unfold isU64 at h1 h2 h3
 unfold itOk at ho
 rw [hg,if_neg (by decide)] at ho
 have ho':=ho
 unfold recOk at ho
 simp only [Bool.and_eq_true,decide_eq_true_eq,List.all_eq_true] at ho
 obtain ⟨⟨⟨⟨⟨a1,a2⟩,a3⟩,a4⟩,a5⟩,a6⟩:=ho
 exact ⟨⟨by omega,by omega,by omega⟩,⟨by omega,by omega,by omega⟩,a1,a2,a4,a5,a6,ho'⟩
theorem slP_eq (s:Sl Pr) (h:1≤s.l.length):slP s.l = s:=by
 obtain ⟨n,l,hn⟩:=s
 cases l with
 | nil=>simp at h
 | cons a l =>
  cases n with
  | true=>exact absurd (hn rfl) (by simp)
  | false=>rfl
theorem gapP_text {it:It} (hi:it.Ok) (ho:itOk it = true) (hg:it.gap = true) (more:List UInt8):gapP (textG it ++ more) = normI it:=by
 obtain ⟨f1,t1,f2,t2,-⟩:=gap_is hi ho hg
 unfold gapP normI
 rw [textG_eq,lnL_app (gap10 it),lnR_app (gap10 it),trim_self,cut_app 45 (dec45 _),hg,if_pos rfl]
 simp only [pu_dec f1,pu_dec t1,Option.getD_some,f2,t2]
 unfold idI
 rw [lnL_app (id10 it.id),trim_self,idOf_hexs]
theorem entP_text {it:It} (hi:it.Ok) (ho:itOk it = true) (hg:it.gap = false) (more:List UInt8):entP (textR it ++ more) = it:=by
 obtain ⟨⟨r1,m1,s1⟩,⟨r2,m2,s2⟩,a1,a2,a3,a4,a5,-⟩:=rec_is hi ho hg
 have l0:=place10 (cOfP it.id it.rc)
 have l1:=no10_app k10.2.1 (dec10 it.rc.real.toNat)
 have l2:=no10_app k10.2.2.1 (dec10 it.rc.mono.toNat)
 have l3:=no10_app k10.2.2.2.1 (dec10 it.rc.seq.toNat)
 have l4:=id10 it.id
 have l5:=boot10 it.rc.boot
 unfold entP
 rw [textR_eq,lnR_app l0,lnR_app l1,lnR_app l2,lnR_app l3,lnR_app l4,lnR_app l5,fldP_text _ 17 _ (by omega) a5]
 unfold nmI idI
 rw [lnL_app l1,lnL_app l2,lnL_app l3,lnL_app l4,lnL_app l5,trim_self,trim_self,trim_self,trim_self,trim_self,pu_dec r1,pu_dec m1,pu_dec s1,idOf_hexs,idOf_hexs,slP_eq _ a3]
 simp only [Option.getD_some,r2,m2,s2]
 obtain ⟨i,g,f,t,r⟩:=it
 simp only at hg a1 a2
 subst hg a1 a2
 rfl
theorem gap_pre (R:List UInt8):pre kGap (kPlace ++ R) = false:=rfl
theorem itemP_text {it:It} (hi:it.Ok) (ho:itOk it = true) (more:List UInt8):itemP (textL it ++ more) = normI it:=by
 unfold textL itemP
 cases hg:it.gap with
 | true =>
  rw [if_pos rfl,if_pos (by rw [textG_eq,List.append_assoc];exact pre_self _ _),gapP_text hi ho hg]
 | false =>
  simp only [Bool.false_eq_true,if_false]
  rw [if_neg (by rw [textR_eq,List.append_assoc,gap_pre];decide),entP_text hi ho hg]
  unfold normI
  rw [hg,if_neg (by decide)]
theorem normI_text (it:It):textL (normI it) = textL it:=by
 unfold normI
 cases hg:it.gap with
 | true =>
  rw [if_pos rfl]
  unfold textL
  rw [hg,if_pos rfl,if_pos rfl]
  rfl
 | false=>rw [if_neg (by decide)]
theorem normI_okB {it:It} (hi:it.Ok) (ho:itOk it = true):itOk (normI it) = true:=by
 unfold normI
 cases hg:it.gap with
 | true =>
  obtain ⟨-,-,-,-,-,-,-,-,-,h⟩:=gap_is hi ho hg
  rw [if_pos rfl]
  unfold itOk
  rw [if_pos rfl]
  unfold gapOk at h ⊢
  simp only [Bool.and_eq_true,decide_eq_true_eq] at h ⊢
  exact ⟨⟨⟨⟨⟨⟨h.1.1.1.1.1.1,h.1.1.1.1.1.2⟩,rfl⟩,rfl⟩,rfl⟩,rfl⟩,rfl⟩
 | false=>rw [if_neg (by decide)];exact ho
theorem textL_len {it:It} (hi:it.Ok) (ho:itOk it = true):(textL it).length≤10000∧1≤(textL it).length:=by
 unfold textL
 cases hg:it.gap with
 | true =>
  rw [if_pos rfl]
  have l1:=dec_len it.fr.toNat
  have l2:=dec_len it.til.toNat
  have l3:=hexs_len it.id.l
  rw [it.id.h] at l3
  unfold textG kGap kId
  simp
  omega
 | false =>
  rw [if_neg (by decide)]
  obtain ⟨-,-,-,-,-,-,-,h⟩:=rec_is hi ho hg
  obtain ⟨b1,-,b3⟩:=prOk_b h
  have h1:=headL_le (sixL it) (sixL_le it hi)
  have h2:=bodyL_le it.rc.fields.l 400 b3
  have h3:(sixL it).length = 6:=rfl
  rw [h3] at h1
  unfold textR
  simp only [List.length_append,List.length_cons,List.length_nil]
  have h4:it.rc.fields.l.length * 400≤16 * 400:=Nat.mul_le_mul_right _ b1
  omega
end Go.Ev.S
namespace Go.Ev.S
open Go Go.Proofs Go.Ev
end Go.Ev.S
namespace Go.Ev.S
open Go Go.Proofs Go.Ev
def sameR (r s:Rec):Bool:=r.seq == s.seq && (r.real == s.real && (r.mono == s.mono && (r.boot == s.boot && r.fields.l == s.fields.l)))
def sameI (x y:It):Bool:=x.id == y.id && (x.gap == y.gap && (x.fr == y.fr && (x.til == y.til && sameR x.rc y.rc)))
theorem eqPr (p q:Pr):(p == q) = (decide (p.name = q.name) && decide (p.value = q.value)):=by
 obtain ⟨a,b⟩:=p
 obtain ⟨c,d⟩:=q
 rw [Bool.eq_iff_iff]
 simp
theorem beq_drop {a b:List Pr} {k:Nat} (ha:k < a.length) (hb:k < b.length):(a.drop k == b.drop k) = (a[k] == b[k] && a.drop (k+1) == b.drop (k+1)):=by
 rw [List.drop_eq_getElem_cons ha,List.drop_eq_getElem_cons hb]
 rfl
set_option maxHeartbeats 1000000 in
theorem rpairs_ev [MaxL] (a b:Sl Pr) (ha:a.l.length < 1000000) (_:b.l.length < 1000000):call cx 120 [(.vsl a.nil (encs a.l) a.l.length),(.vsl b.nil (encs b.l) b.l.length)] [] = some (.bool (a.l == b.l),[]):=by
 refine call_run Tryz.func120 rfl ⟨rfl,rfl⟩ ?_
 by_cases hne:a.l.length = b.l.length
 case neg =>
  have hne':¬ (a.l.length:Int) = (b.l.length:Int):=by omega
  have hf:(a.l == b.l) = false:=beq_eq_false_iff_ne.2 fun e=>hne (by rw [e])
  rw [hf]
  simp [Tryz.f120,hne']
 have hne':(a.l.length:Int) = (b.l.length:Int):=by omega
 simp [Tryz.f120,hne]
 refine Run.loopThen (fun (k:Nat) e H'=>k≤a.l.length∧(a.l == b.l) = (a.l.drop k == b.l.drop k)∧look e 0 = some (.vsl a.nil (encs a.l) a.l.length)∧look e 1 = some (.vsl b.nil (encs b.l) b.l.length)∧look e 5 = some (.int .i64 (k:Nat))∧H' = []) (fun k=>a.l.length - k) 0 ?_ ?_
 ·simp [hne]
 rintro k e H' ⟨hk,hR,k0,k1,k5,rfl⟩
 rw [hR]
 by_cases hlt:k < a.l.length
 ·have hlt':(k:Int) < (a.l.length:Int):=by omega
  have hlb:k < b.l.length:=by omega
  have hlb':(k:Int) < (b.l.length:Int):=by omega
  have hw:IntKind.i64.wrap ((k:Int)+1) = ((k+1:Nat):Int):=by rw [wrap_i64] <;> omega
  have n1:a.nil = false:=Sl.nn hlt
  have n2:b.nil = false:=Sl.nn hlb
  have hE:(a.l[k] == b.l[k]) = (decide (a.l[k].name = b.l[k].name) && decide (a.l[k].value = b.l[k].value)):=eqPr a.l[k] b.l[k]
  rw [beq_drop hlt hlb,hE]
  by_cases h1:a.l[k].name = b.l[k].name
  ·by_cases h2:a.l[k].value = b.l[k].value
   ·simp [k0,k1,k5,hlt,hlb,hlt',hlb',n1,n2,Pr.cells,h1,h2,hw]
    exact ⟨k+1,by omega,by omega,rfl,rfl⟩
   ·simp [k0,k1,k5,hlt,hlb,hlt',hlb',n1,n2,Pr.cells,h1,h2]
  ·simp [k0,k1,k5,hlt,hlb,hlt',hlb',n1,n2,Pr.cells,h1]
 ·have hlt':¬ (k:Int) < (a.l.length:Int):=by omega
  rw [List.drop_eq_nil_of_le (by omega),List.drop_eq_nil_of_le (by omega)]
  have hlt2:¬ (k:Int) < (b.l.length:Int):=by omega
  simp [k0,k1,k5,hlt2,hne']
set_option maxHeartbeats 1000000 in
theorem rrec_ev [MaxL] (r s:Rec) (ha:r.fields.l.length < 1000000) (hb:s.fields.l.length < 1000000):call cx 81 [.agg (Enc.cells r),.agg (Enc.cells s)] [] = some (.bool (sameR r s),[]):=by
 have hp:=rpairs_ev r.fields s.fields ha hb
 have t1:List.take 16 (ofBytes r.boot.l ++ [(.vsl r.fields.nil (encs r.fields.l) r.fields.l.length)]) = ofBytes r.boot.l:=by rw [List.take_append];simp
 have t2:List.take 16 (ofBytes s.boot.l ++ [(.vsl s.fields.nil (encs s.fields.l) s.fields.l.length)]) = ofBytes s.boot.l:=by rw [List.take_append];simp
 have d1:List.drop 16 (ofBytes r.boot.l ++ [(.vsl r.fields.nil (encs r.fields.l) r.fields.l.length)]) = [(.vsl r.fields.nil (encs r.fields.l) r.fields.l.length)]:=by rw [List.drop_append];simp
 have d2:List.drop 16 (ofBytes s.boot.l ++ [(.vsl s.fields.nil (encs s.fields.l) s.fields.l.length)]) = [(.vsl s.fields.nil (encs s.fields.l) s.fields.l.length)]:=by rw [List.drop_append];simp
 have b1:(ofBytes r.boot.l).length = 16:=by simp
 have b2:(ofBytes s.boot.l).length = 16:=by simp
 unfold sameR
 refine call_run Tryz.func81 rfl ⟨rfl,rfl⟩ ?_
 rw [Rec.cells,Rec.cells]
 cases h1:(r.seq == s.seq) <;> cases h2:(r.real == s.real) <;> cases h3:(r.mono == s.mono) <;> cases h4:(r.boot == s.boot) <;> simp [Tryz.f81,hp,t1,t2,d1,d2,b1,b2,h1,h2,h3,h4]
set_option maxHeartbeats 1000000 in
theorem ritem_ev [MaxL] (x y:It) (ha:x.rc.fields.l.length < 1000000) (hb:y.rc.fields.l.length < 1000000):call cx 42 [.agg (Enc.cells x),.agg (Enc.cells y)] [] = some (.bool (sameI x y),[]):=by
 have hp:=rrec_ev x.rc y.rc ha hb
 have u1:List.take 17 (ofBytes x.rc.boot.l ++ [(.vsl x.rc.fields.nil (encs x.rc.fields.l) x.rc.fields.l.length)]) = ofBytes x.rc.boot.l ++ [(.vsl x.rc.fields.nil (encs x.rc.fields.l) x.rc.fields.l.length)]:=List.take_of_length_le (by simp)
 have u2:List.take 17 (ofBytes y.rc.boot.l ++ [(.vsl y.rc.fields.nil (encs y.rc.fields.l) y.rc.fields.l.length)]) = ofBytes y.rc.boot.l ++ [(.vsl y.rc.fields.nil (encs y.rc.fields.l) y.rc.fields.l.length)]:=List.take_of_length_le (by simp)
 rw [Rec.cells,Rec.cells] at hp
 simp only [List.cons_append,List.nil_append] at hp
 unfold sameI
 refine call_run Tryz.func42 rfl ⟨rfl,rfl⟩ ?_
 cases h1:(x.id == y.id) <;> cases h2:(x.gap == y.gap) <;> cases h3:(x.fr == y.fr) <;> cases h4:(x.til == y.til) <;> simp [Tryz.f42,u1,u2,hp,h1,h2,h3,h4]
end Go.Ev.S
namespace Go.Ev.S
open Go Go.Proofs Go.Ev
end Go.Ev.S
namespace Go.Ev.S
open Go Go.Proofs Go.Ev
def rdI (b:List UInt8):It:=if readOk b then itemP b else It.zero
def rdN (b:List UInt8):Nat:=if readOk b then (textL (itemP b)).length else 0
def rdC (b:List UInt8):Int:=if readOk b then 0 else 20
theorem readD_I (b:List UInt8):readD b = .tup [.agg (Enc.cells (rdI b)),.int .i64 (rdN b:Nat),.int .i64 (rdC b)]:=by
 unfold readD rdI rdN rdC
 split <;> rfl
theorem sameI_refl (x:It):sameI x x = true:=by unfold sameI sameR;simp
end Go.Ev.S
namespace Go.Ev.S
open Go Go.Proofs Go.Ev
theorem read_back {it:It} (hi:it.Ok) (ho:itOk it = true) (more:List UInt8):rdI (textL it ++ more) = normI it∧rdN (textL it ++ more) = (textL it).length∧rdC (textL it ++ more) = 0:=by
 have hr:readOk (textL it ++ more) = true:=by
  unfold readOk
  rw [itemP_text hi ho,normI_okB hi ho,normI_text,pre_self,Bool.and_self]
 unfold rdI rdN rdC
 rw [hr,if_pos rfl,if_pos rfl,if_pos rfl,itemP_text hi ho,normI_text]
 exact ⟨rfl,rfl,rfl⟩
theorem same_norm {it:It} (hi:it.Ok) (ho:itOk it = true):sameI (normI it) it = true:=by
 unfold normI
 cases hg:it.gap with
 | false=>rw [if_neg (by decide)];exact sameI_refl it
 | true =>
  obtain ⟨-,-,-,-,s1,s2,s3,s4,s5,-⟩:=gap_is hi ho hg
  rw [if_pos rfl]
  unfold sameI sameR
  simp [hg,s1,s2,s3,s4,s5,Rec.zero]
theorem readS_ev [MaxL] (s:Sl UInt8) (hs:s.l.length < 1000000):call cx 109 [(.vsl s.nil (ofBytes s.l) s.l.length)] [] = some (.tup [.agg (Enc.cells (rdI s.l)),.int .i64 (rdN s.l:Nat),.int .i64 (rdC s.l)],[]):=by
 have h1:=read_ev s hs fun h=>by have:=textL_len (itemP_ok s.l) h;omega
 rw [readD_I] at h1
 exact h1
end Go.Ev.S
namespace Go.Ev.S
open Go Go.Proofs Go.Ev
theorem compare_ev [MaxL] [TxtC] (x y:Sl UInt8):call cx 67 [(.vsl x.nil (ofBytes x.l) x.l.length),(.vsl y.nil (ofBytes y.l) y.l.length)] [] = some (.int .i64 (cmpB x.l y.l),[]):=by
 have h:call cx 105 [(.vsl x.nil (ofBytes x.l) x.l.length),(.vsl y.nil (ofBytes y.l) y.l.length)] [] = some (.int .i64 (cmpB x.l y.l),[]):=by
  rw [call_ext (X:=cx) (f:=105) rfl Tryz.func105 rfl,ex105,cmpExt_bytes x.nil y.nil x.l y.l x.h y.h]
  rfl
 refine call_run Tryz.func67 rfl ⟨rfl,rfl⟩ ?_
 simp [Tryz.f67,h]
theorem compare_id [MaxL] [TxtC] (x y:ID):call cx 67 [.vsl false (ofBytes x.l) 16,.vsl false (ofBytes y.l) 16] [] = some (.int .i64 (cmpB x.l y.l),[]):=by
 have h:=compare_ev (.of x.l) (.of y.l)
 simpa using h
def risesM:List Mk→Bool
 | a :: b :: l=>decide (cmpB a.id.l b.id.l < 0) && risesM (b :: l)
 | _=>true
def rightM (l:List Mk):Bool:=decide (l.length≤4) && risesM l

theorem right_ev [MaxL] [TxtC] (s:Sl Mk) (hn:s.l.length < 4611686018427387904) :
  call cx 62 [(.vsl s.nil (encs s.l) s.l.length)] [] = some (.bool (rightM s.l),[]):=by
 refine call_run Tryz.func62 rfl ⟨rfl,rfl⟩ ?_
 by_cases h4:s.l.length≤4
 ·have h4':¬ (4:Int) < (s.l.length:Int):=by omega
  simp [Tryz.f62,h4',rightM,h4]
  refine Run.loopThen (fun (i:Nat) e H=>1≤i∧(i≤s.l.length∨i = 1)∧H = []∧look e 0 = some (.vsl s.nil (encs s.l) s.l.length)∧look e 3 = some (.int .i64 i)∧risesM s.l = risesM (s.l.drop (i - 1))) (fun i=>s.l.length - i) 1 (by simp) ?_
  rintro i e H ⟨hi,hil,rfl,h0,h3,hr⟩
  by_cases hlt:i < s.l.length
  ·obtain ⟨k,hk⟩:∃ k,k+1 = i:=⟨i - 1,by omega⟩
   have hlt':(i:Int) < (s.l.length:Int):=by omega
   have hkl:k < s.l.length:=by omega
   have hkl':(k:Int) < (s.l.length:Int):=by omega
   have hw:IntKind.i64.wrap ((i:Int) - 1) = (k:Int):=by rw [wrap_i64] <;> omega
   have hw2:IntKind.i64.wrap ((i:Int)+1) = ((i+1:Nat):Int):=by rw [wrap_i64] <;> omega
   have hc:=compare_id s.l[k].id s.l[i].id
   have hr2:risesM s.l = (decide (cmpB s.l[k].id.l s.l[i].id.l < 0) && risesM (s.l.drop i)):=by
    have e1:i - 1 = k:=by omega
    have e2:s.l.drop k = s.l[k] :: s.l[i] :: s.l.drop (i+1):=by
     rw [List.drop_eq_getElem_cons hkl]
     congr 1
     rw [hk,List.drop_eq_getElem_cons hlt]
    rw [hr,e1,e2,risesM,List.drop_eq_getElem_cons hlt]
   have h16:∀ k,(16≤19+k) = True:=fun k=>eq_true (by omega)
   have ht:∀ (m:Mk) (r:List D),(Enc.cells m ++ r).take 16 = ofBytes m.id.l:=fun m r=>by simp [Mk.cells]
   by_cases hcm:cmpB s.l[k].id.l s.l[i].id.l < 0
   ·have hcm':¬ 0≤cmpB s.l[k].id.l s.l[i].id.l:=by omega
    rw [decide_eq_true hcm,Bool.true_and] at hr2
    simp [h0,h3,hlt',hw,hkl',Sl.nn hlt,h16,hlt,hkl,ht,hc,hcm',hw2]
    exact ⟨i+1,by omega,by omega,.inl (by omega),rfl,by simpa using hr2⟩
   ·have hcm':0≤cmpB s.l[k].id.l s.l[i].id.l:=by omega
    rw [decide_eq_false hcm,Bool.false_and] at hr2
    simp [h0,h3,hlt',hw,hkl',Sl.nn hlt,h16,hlt,hkl,ht,hc,hcm',hr2]
  ·have hlt':¬ (i:Int) < (s.l.length:Int):=by omega
   have hr2:risesM s.l = true:=by
    rw [hr]
    have:(s.l.drop (i - 1)).length≤1:=by rw [List.length_drop];omega
    match s.l.drop (i - 1),this with
    | [],_=>rfl
    | [a],_=>rfl
   simp [h0,h3,hlt',hr2]
 ·have h4':(4:Int) < (s.l.length:Int):=by omega
  simp [Tryz.f62,h4',rightM,h4]
theorem rightM_le {l:List Mk} (h:rightM l = true):l.length≤4:=by
 rw [rightM,Bool.and_eq_true] at h
 exact of_decide_eq_true h.1
end Go.Ev.S
namespace Go.Ev.S
open Go Go.Proofs Go.Ev
def mkB (m:Mk):List UInt8:=m.id.l ++ (leB 8 m.seq.toNat ++ (leB 8 m.lost.toNat ++ leB 8 m.over.toNat))
def mksB (l:List Mk):List UInt8:=UInt8.ofNat l.length :: l.flatMap mkB
theorem mkB_len (m:Mk):(mkB m).length = 40:=by simp [mkB]
theorem mkBs_len (l:List Mk):(l.flatMap mkB).length = l.length * 40:=by
 induction l with
 | nil=>rfl
 | cons a l ih=>rw [List.flatMap_cons,List.length_append,ih,mkB_len,List.length_cons];omega
theorem leadd8 [MaxL] [TxtC] (l:List UInt8) (v:Nat) (hn:l.length≤140737488355000) :
  call cx 63 [.vsl false (ofBytes l) l.length,.int .i64 8,.int .u64 v] [] = some (.osl 0 (l.length+8) 0 (l.length+8) 1,[some (ofBytes (l ++ leB 8 v))]):=by
 obtain ⟨d,H,hb,hc⟩:=leadd_ev (.of l) 8 v (by simpa using hn)
 have e:leAdd l 8 v = l ++ leB 8 v:=by simp [leAdd,szOk]
 simp only [Sl.of_l,Sl.of_nil] at hb hc
 rw [e] at hb
 rcases hb with ⟨rfl,h,rfl⟩ | ⟨rfl,rfl⟩
 ·have:=congrArg List.length h
  simp at this
 ·rw [hc]
  simp
def bytesS (l:List Mk):Sl UInt8:=if rightM l then .of (mksB l) else .none
def BytesC (l:List Mk) (i:Nat) (X:List UInt8):Prop:=X = UInt8.ofNat l.length :: (l.take i).flatMap mkB
set_option maxRecDepth 4000 in
set_option maxHeartbeats 2000000 in
theorem bytes_ev [MaxL] [TxtC] (s:Sl Mk) (hn:s.l.length < 4611686018427387904) (hok:∀ m∈s.l,m.Ok) :
  call cx 66 [(.vsl s.nil (encs s.l) s.l.length)] [] = some ((.vsl (bytesS s.l).nil (ofBytes (bytesS s.l).l) (bytesS s.l).l.length),[]):=by
 have hr:=right_ev s hn
 refine call_run Tryz.func66 rfl ⟨rfl,rfl⟩ ?_
 cases h:rightM s.l with
 | false =>
  rw [h] at hr
  simp [Tryz.f66,hr,bytesS,h,ofBytes]
 | true =>
  rw [h] at hr
  have hl:=rightM_le h
  have hw8:IntKind.u8.wrap (s.l.length:Int) = (s.l.length:Int):=by rw [wrap_u8];omega
  simp [Tryz.f66,hr,bytesS,h,hw8]
  refine Run.loopThen (fun (i:Nat) e H=>i≤s.l.length∧∃ X:List UInt8,BytesC s.l i X∧H = [some (ofBytes X)]∧look e 3 = some (.osl 0 X.length 0 X.length 1)∧look e 15 = some (.vsl s.nil (encs s.l) s.l.length)∧look e 16 = some (.int .i64 s.l.length)∧look e 17 = some (.int .i64 i)) (fun i=>s.l.length - i) 0 ?_ ?_
  ·refine ⟨by omega,[UInt8.ofNat s.l.length],by simp [BytesC],?_⟩
   simp [ofBytes]
   omega
  rintro i e H ⟨hi,X,hX,rfl,h3,h15,h16,h17⟩
  by_cases hlt:i < s.l.length
  ·have hlt':(i:Int) < (s.l.length:Int):=by omega
   have hw:IntKind.i64.wrap ((i:Int)+1) = ((i+1:Nat):Int):=by rw [wrap_i64] <;> omega
   have hl40:=mkBs_len (s.l.take i)
   rw [List.length_take,Nat.min_eq_left hi] at hl40
   have hsn:BytesC s.l (i+1) (X ++ mkB s.l[i]):=by
    unfold BytesC at *
    rw [hX,List.take_succ_eq_append_getElem hlt,List.flatMap_append];simp
   have hXl:X.length≤200:=by rw [hX,List.length_cons,hl40];omega
   clear hX hl40
   have hm:=hok _ (List.getElem_mem hlt)
   obtain ⟨⟨m0,m1,m2,m3⟩,hme⟩:∃ m,s.l[i] = m:=⟨_,rfl⟩
   rw [hme] at hsn hm
   obtain ⟨a1,rfl⟩:∃ k:Nat,m1 = k:=⟨m1.toNat,by have:=hm.seq;simp [isU64] at this;omega⟩
   obtain ⟨a2,rfl⟩:∃ k:Nat,m2 = k:=⟨m2.toNat,by have:=hm.lost;simp [isU64] at this;omega⟩
   obtain ⟨a3,rfl⟩:∃ k:Nat,m3 = k:=⟨m3.toNat,by have:=hm.over;simp [isU64] at this;omega⟩
   have hb:X.length+16≤140737488355328:=by omega
   simp [h3,h15,h16,h17,hlt',hlt,Sl.nn hlt,hme,maxBytes,hb]
   clear h3 h15 h16 h17 e
   have d1:=leadd8 (X ++ m0.l) a1 (by simp;omega)
   have d2:=leadd8 (X ++ m0.l ++ leB 8 a1) a2 (by simp;omega)
   have d3:=leadd8 (X ++ m0.l ++ leB 8 a1 ++ leB 8 a2) a3 (by simp;omega)
   simp [ofBytes_append,Nat.add_assoc] at d1 d2 d3
   iterate 4
    refine run_unroll ?_
    simp [d1,d2,d3,hw,List.take_of_length_le]
   exact ⟨i+1,by omega,by omega,_,hsn,by simp [mkB,ofBytes_append],by simp [mkB],rfl⟩
  ·have hlt':¬ (i:Int) < (s.l.length:Int):=by omega
   have hit:s.l.take i = s.l:=List.take_of_length_le (by omega)
   have hXe:X = mksB s.l:=by rw [hX,hit];rfl
   simp [h3,h15,h16,h17,hlt',hXe]
end Go.Ev.S
namespace Go.Ev
open Go Go.Proofs
theorem of32 (s:BitVec 32):BitVec.ofInt IntKind.u32.bits (s.toNat:Int) = s:=by
 show BitVec.ofInt 32 (s.toNat:Int) = s
 rw [BitVec.ofInt_natCast,BitVec.ofNat_toNat]
 simp
theorem wrap32 (s:BitVec 32):IntKind.u32.wrap (s.toNat:Int) = (s.toNat:Int):=by
 have:=s.isLt
 rw [wrap_u32]
 omega
theorem xor32 (s t:BitVec 32):xorI .u32 (s.toNat:Int) (t.toNat:Int) = ((s ^^^ t).toNat:Int):=by
 unfold xorI
 rw [of32,of32]
 exact wrap32 _
theorem and32 (s t:BitVec 32):andI .u32 (s.toNat:Int) (t.toNat:Int) = ((s &&& t).toNat:Int):=by
 unfold andI
 rw [of32,of32]
 exact wrap32 _
theorem bit32 (s:BitVec 32):andI .u32 (s.toNat:Int) 1 = ((s.toNat % 2:Nat):Int):=by
 have h:=and32 s 1#32
 have e:((1#32).toNat:Int) = 1:=rfl
 rw [e] at h
 rw [h]
 congr 1
 rw [BitVec.toNat_and]
 exact Nat.and_one_is_mod _
theorem half32 (s:BitVec 32):(s.toNat:Int).fdiv 2 = ((s >>> 1).toNat:Int):=by
 rw [BitVec.toNat_ushiftRight,Nat.shiftRight_eq_div_pow,Int.fdiv_eq_ediv_of_nonneg _ (by decide)]
 omega
theorem poly32 (s:BitVec 32):xorI .u32 (s.toNat:Int) 2197175160 = ((s ^^^ 2197175160#32).toNat:Int):=xor32 s 2197175160#32
theorem byte32 (s:BitVec 32) (c:UInt8):xorI .u32 (s.toNat:Int) (c.toNat:Int) = ((s ^^^ BitVec.ofNat 32 c.toNat).toNat:Int):=by
 have h:=xor32 s (BitVec.ofNat 32 c.toNat)
 have hc:=c.toNat_lt
 have e:(BitVec.ofNat 32 c.toNat).toNat = c.toNat:=by
  rw [BitVec.toNat_ofNat]
  exact Nat.mod_eq_of_lt (by omega)
 rw [e] at h
 exact h
def crcBit (s:BitVec 32):BitVec 32:=if s.toNat % 2 = 1 then (s >>> 1) ^^^ 2197175160#32 else s >>> 1
def crcN:Nat→BitVec 32→BitVec 32
 | 0,s=>s
 | n+1,s=>crcN n (crcBit s)
def crcByte (s:BitVec 32) (c:UInt8):BitVec 32:=crcN 8 (s ^^^ BitVec.ofNat 32 c.toNat)
def crcGo (s:BitVec 32) (l:List UInt8):BitVec 32:=l.foldl crcByte s
def crcM (s:BitVec 32) (l:List UInt8):BitVec 32:= ~~~ crcGo (~~~ s) l
theorem not32 (s:BitVec 32):IntKind.u32.wrap ((BitVec.ofInt IntKind.u32.bits 4294967295 ^^^ BitVec.ofInt IntKind.u32.bits (s.toNat:Int)).toNat:Int) = ((~~~ s).toNat:Int):=by
 rw [of32]
 have e:(BitVec.ofInt 32 4294967295 ^^^ s) = ~~~ s:=by
  rw [show BitVec.ofInt 32 4294967295 = BitVec.allOnes 32 from by decide,BitVec.allOnes_xor]
 have h:=wrap32 (~~~ s)
 rw [← e] at h ⊢
 exact h
end Go.Ev
namespace Go.Ev.S
open Go Go.Proofs Go.Ev
theorem mnumber_ev [MaxL] [TxtC] (n b:Int):call cx 24 [.int .i64 n,.int .i64 b] [] = some (.int .i64 (if b < 1 then 0 else (IntKind.i64.wrap (n.tmod b+b)).tmod b),[]):=by
 refine call_run Tryz.func24 rfl ⟨rfl,rfl⟩ ?_
 by_cases h1:b < 1
 ·simp [Tryz.f24,h1]
 ·have h2:b≠0:=by omega
  simp [Tryz.f24,h1,h2]
theorem num_ev [MaxL] [TxtC] (n:Int) (b:Nat) (hb:1≤b) (hb2:b≤1000000):∃ x:Nat,x < b∧call cx 24 [.int .i64 n,.int .i64 b] [] = some (.int .i64 x,[]):=by
 have h1:n.tmod b < b:=Int.tmod_lt_of_pos _ (by omega)
 have h2:-(b:Int) < n.tmod b:=by
  have:=Int.tmod_lt_of_pos (-n) (show (0:Int) < b by omega)
  rw [Int.neg_tmod] at this
  omega
 have h:=mnumber_ev n b
 rw [if_neg (by omega)] at h
 generalize n.tmod b = x at *
 have hw:IntKind.i64.wrap (x+b) = x+b:=by rw [wrap_i64];omega
 rw [hw] at h
 have h3:0≤x+b:=by omega
 have h4:=Int.tmod_nonneg (b:Int) h3
 have h5:=Int.tmod_lt_of_pos (x+b) (show (0:Int) < b by omega)
 refine ⟨((x+b).tmod b).toNat,by omega,?_⟩
 rw [h]
 congr 3
 omega
end Go.Ev.S
namespace Go.Ev.S
open Go Go.Proofs Go.Ev
def seqD (nil:Bool) (zs:List Int) (k:Nat):List D:=[.vsl nil (intsK .i64 zs) zs.length,.int .i64 k]
theorem intsK_at {k:IntKind} {l:List Int} {i:Nat} (h:i < l.length):(intsK k l).drop i = .int k l[i] :: intsK k (l.drop (i+1)):=by
 unfold intsK
 rw [← List.map_drop,List.drop_eq_getElem_cons h]
 rfl
@[simp] theorem intsK_len (k:IntKind) (l:List Int):(intsK k l).length = l.length:=by simp [intsK]
theorem seqD_free (nil:Bool) (zs:List Int) (k:Nat):(∀ x,x∈seqD nil zs k→idFree x = true) = True:=eq_true (by
 unfold seqD
 simp)
theorem seqD_len (nil:Bool) (zs:List Int) (k:Nat):(seqD nil zs k).length = 2:=rfl
theorem seqD_cl (nil:Bool) (zs:List Int) (k n:Nat):(∀ x,x∈seqD nil zs k→closed n x = true) = True:=eq_true (by
 unfold seqD
 simp)
theorem more_ev [MaxL] [TxtC] (nil:Bool) (zs:List Int) (k:Nat):call cx 58 [.optr 0 2 0] [some (seqD nil zs k)] = some (.bool (decide (k < zs.length)),[some (seqD nil zs k)]):=by
 refine call_run Tryz.func58 rfl ⟨rfl,rfl⟩ ?_
 unfold seqD
 by_cases h:k < zs.length
 ·have h':(k:Int) < (zs.length:Int):=by omega
  simp [Tryz.f58,h,h']
 ·have h':¬ (k:Int) < (zs.length:Int):=by omega
  simp [Tryz.f58,h,h']
theorem numI_ev [MaxL] [TxtC] (n b:Int) (hb:1≤b) (hb2:b≤1000000):∃ x:Nat,(x:Int) < b∧call cx 24 [.int .i64 n,.int .i64 b] [] = some (.int .i64 x,[]):=by
 obtain ⟨x,h1,h2⟩:=num_ev n b.toNat (by omega) (by omega)
 rw [show ((b.toNat:Nat):Int) = b by omega] at h2
 exact ⟨x,by omega,h2⟩
theorem n_ev [MaxL] [TxtC] (nil:Bool) (zs:List Int) (hnil:nil = true→zs = []) (hz:zs.length≤1000000) (k:Nat) (b:Int) (hb:1≤b) (hb2:b≤1000000) :
  ∃ x k':Nat,(x:Int) < b∧(k < zs.length→k < k')∧call cx 59 [.optr 0 2 0,.int .i64 b] [some (seqD nil zs k)] = some (.int .i64 x,[some (seqD nil zs k')]):=by
 unfold seqD
 by_cases hlt:k < zs.length
 ·have hnf:nil = false:=by
   cases nil with
   | false=>rfl
   | true=>rw [hnil rfl] at hlt;simp at hlt
  subst hnf
  have hlt':¬ (zs.length:Int)≤(k:Int):=by omega
  have hlt2:(k:Int) < (zs.length:Int):=by omega
  have hw:IntKind.i64.wrap ((k:Int)+1) = ((k+1:Nat):Int):=by rw [wrap_i64] <;> omega
  have hw2:IntKind.i64.wrap (((k+1:Nat):Int) - 1) = (k:Int):=by rw [wrap_i64] <;> omega
  have hw3:IntKind.i64.wrap (k:Int) = (k:Int):=by rw [wrap_i64];omega
  obtain ⟨x,hx,hn⟩:=numI_ev zs[k] b hb hb2
  refine ⟨x,k+1,hx,fun _=>Nat.lt_succ_self k,?_⟩
  refine call_run Tryz.func59 rfl ⟨rfl,rfl⟩ ?_
  simp [Tryz.f59,hlt',hw,hlt2,hw3,intsK_at hlt,hn]
 ·have hlt':(zs.length:Int)≤(k:Int):=by omega
  refine ⟨0,k,by omega,fun h=>absurd h hlt,?_⟩
  refine call_run Tryz.func59 rfl ⟨rfl,rfl⟩ ?_
  simp [Tryz.f59,hlt']
def namesL:List (List UInt8):=[[65],[66],[77,69,83,83,65,71,69],[95,80,73,68],[88,95,49],[80,82,73,79,82,73,84,89]]
def valuesL:List (List UInt8):=[[],[48],[49],[50,50],[97,61,98],[111,110,101,10,116,119,111],[0,255],[116,97,98,9,104,101,114,101],[108,111,110,103,32,108,111,110,103,32,108,111,110,103,32,108,111,110,103,32,108,111,110,103,32,108,111,110,103,32,108,111,110,103],[126,127,128]]
def strD (l:List (List UInt8)):List D:=l.map D.str
theorem strD_at {l:List (List UInt8)} {i:Nat} (h:i < l.length):(strD l).drop i = .str l[i] :: strD (l.drop (i+1)):=by
 unfold strD
 rw [← List.map_drop,List.drop_eq_getElem_cons h]
 rfl
theorem names_ev [MaxL] [TxtC]:call cx 164 [] [] = some (.vsl false (strD namesL) 6,[]):=by
 refine call_some.2 ⟨60,?_⟩
 kernel_rfl
theorem values_ev [MaxL] [TxtC]:call cx 165 [] [] = some (.vsl false (strD valuesL) 10,[]):=by
 refine call_some.2 ⟨60,?_⟩
 kernel_rfl
def mkOk (p:Pr):Bool:=prOk p && (decide (p.name.length≤8) && decide (p.value.length≤36))
theorem mkOk_ok {p:Pr} (h:mkOk p = true):prOk p = true:=by
 unfold mkOk at h
 rw [Bool.and_eq_true] at h
 exact h.1
theorem mkOk_len {p:Pr} (h:mkOk p = true):p.name.length≤8∧p.value.length≤36:=by
 unfold mkOk at h
 simp only [Bool.and_eq_true,decide_eq_true_eq] at h
 exact h.2
theorem pairs_ok:∀ n∈namesL,∀ v∈valuesL,mkOk ⟨n,v⟩ = true:=by decide
set_option maxHeartbeats 1000000 in
theorem mpair_ev [MaxL] [TxtC] (nil:Bool) (zs:List Int) (hnil:nil = true→zs = []) (hz:zs.length≤1000000) (k:Nat) :
  ∃ (p:Pr) (k':Nat),mkOk p = true∧call cx 139 [.optr 0 2 0] [some (seqD nil zs k)] = some (.agg (Enc.cells p),[some (seqD nil zs k')]):=by
 obtain ⟨x,k1,hx,-,h1⟩:=n_ev nil zs hnil hz k 6 (by decide) (by decide)
 obtain ⟨y,k2,hy,-,h2⟩:=n_ev nil zs hnil hz k1 10 (by decide) (by decide)
 have hx':x < namesL.length:=by show x < 6;omega
 have hy':y < valuesL.length:=by show y < 10;omega
 have g1:=names_ev
 have g2:=values_ev
 refine ⟨⟨namesL[x],valuesL[y]⟩,k2,pairs_ok _ (List.getElem_mem hx') _ (List.getElem_mem hy'),?_⟩
 have a1:=strD_at hx'
 have a2:=strD_at hy'
 generalize namesL[x] = n at *
 generalize valuesL[y] = v at *
 generalize strD namesL = N at *
 generalize strD valuesL = V at *
 refine call_run Tryz.func139 rfl ⟨rfl,rfl⟩ ?_
 unfold seqD at h1 h2 ⊢
 simp [Tryz.f139,h1,h2,g1,g2,a1,a2,hx,hy,Pr.cells]
def idN (j:Nat):ID:=⟨[94,0,0,0,0,0,0,0,0,0,0,0,0,0,0,UInt8.ofNat j],rfl⟩
theorem mid_small [MaxL] [TxtC] {j:Nat} (hj:j < 5):call cx 60 [.int .i64 j] [] = some (.agg (ofBytes (idN j).l),[]):=by
 have h:j = 0∨j = 1∨j = 2∨j = 3∨j = 4:=by omega
 refine call_some.2 ⟨60,?_⟩
 rcases h with rfl | rfl | rfl | rfl | rfl <;> kernel_rfl
end Go.Ev.S
namespace Go.Ev.S
open Go Go.Proofs Go.Ev
theorem nameOk_len {n:List UInt8} (h:nameOk n = true):n.length≤64:=by
 unfold nameOk at h
 split at h
 ·cases h
 ·simp only [Bool.and_eq_true,decide_eq_true_eq] at h
  exact h.1.1
theorem prOk_len {p:Pr} (h:prOk p = true):nameOk p.name = true∧p.name.length≤64∧p.value.length≤256:=by
 unfold prOk at h
 simp only [Bool.and_eq_true,decide_eq_true_eq] at h
 exact ⟨h.1,nameOk_len h.1,h.2⟩
theorem join_ev [MaxL] [TxtC] (p:Pr) (h:prOk p = true):call cx 137 [.agg (Enc.cells p)] [] = some (.tup [.vsl false (ofBytes (payL p)) (payL p).length,.int .i64 0],[]):=by
 obtain ⟨hn,hn2,hv⟩:=prOk_len h
 have hnm:=rname_ev p.name (by omega)
 rw [hn] at hnm
 have hp:=pay_ev p (by omega) (by omega)
 have hv':¬ (256:Int) < (p.value.length:Int):=by omega
 refine call_run Tryz.func137 rfl ⟨rfl,rfl⟩ ?_
 rw [Pr.cells] at hp ⊢
 have hl:(payL p).length≤321:=by unfold payL;simp;omega
 have hne:(payL p).length≠0:=by unfold payL;simp
 generalize payL p = w at *
 have hm:w.length≤140737488355328:=by omega
 simp [Tryz.f137,hnm,hp,hv']
theorem loopJ {X:Cx} {f nt n0:Nat} {Q:Ex→Env→Heap→Prop} {fs:List Fr} {c:Code} {σ:Type} (I:σ→Env→Heap→Prop) (m:σ→Nat) (s:σ) (J:Ex→Env→Heap→Prop) {e:Env} {H:Heap} (h0:I s e H)
  (step:∀ s e H,I s e H→Run X f nt n0 (fun ex e' H'=>match ex with | .normal=>∃ s',m s' < m s∧I s' e' H' | ex=>J ex e' H') [] (code X f nt n0 c e H))
  (done:∀ ex e H,J ex e H→Run X f nt n0 Q fs (some (ex,e,H))):Run X f nt n0 Q fs (code X f nt n0 (.loop c) e H):=by
 refine Run.loopThen I m s h0 fun s e H hi=>Run.mono (step s e H hi) fun ex e H hq=>?_
 rw [run_nil]
 cases ex with
 | normal=>exact hq
 | _=>exact done _ _ _ hq
def LsM (L:List Pr) (d:D) (H:Heap):Prop :=
 ∃ n k t,n = L.length * 2∧k = L.length∧((d = .osl 1 n 0 k 2∧H = [some t,some (encs L)])∨(d = .osl 0 n 0 k 2∧H = [some (encs L),some t])∨(d = .osl 0 n 0 k 2∧H = [some (encs L)]))
def LsH (out:List Pr) (d:D) (H:Heap):Prop :=
 (out = []∧d = .vsl true [] 0∧H = [])∨(out≠[]∧LsM out d H)
def LsQ (q:D × Heap):Prop:= ∃ out:List Pr,1≤out.length∧out.length≤4∧(∀ p∈out,mkOk p = true)∧q = (.tup [.vsl false (encs out) out.length,.int .i64 0],[])
set_option maxHeartbeats 4000000 in
theorem list_ev [MaxL] [TxtC] (l:List Pr) (h1:1≤l.length) (h4:l.length≤4) (hok:∀ p∈l,mkOk p = true):∃ q,call cx 93 [.vsl false (encs l) l.length] [] = some q∧LsQ q:=by
 refine call_runE (X:=cx) (f:=93) (args:=[.vsl false (encs l) l.length]) (H:=[]) LsQ Tryz.func93 rfl ⟨rfl,rfl⟩ ?_
 have hz:¬ l.length = 0:=by omega
 simp [Tryz.f93,hz]
 refine Run.loopThen (fun (q:Nat × List Pr) e H'=>q.1≤l.length∧q.2.length≤q.1∧(1≤q.1→1≤q.2.length)∧(∀ p∈q.2,mkOk p = true)∧look e 0 = some (.vsl false (encs l) l.length)∧look e 5 = some (.int .i64 (q.1:Nat))∧∃ d,look e 4 = some d∧LsH q.2 d H') (fun q=>l.length - q.1) (0,[]) ?_ ?_
 ·exact ⟨by simp,by simp,by simp,by simp,by simp,by simp,_,by simp,.inl ⟨rfl,rfl,rfl⟩⟩
 rintro ⟨i,out⟩ e H' ⟨hi,ho,ho1,hp,k0,k5,d,k4,hH⟩
 simp only at hi ho ho1 hp k5 hH
 by_cases hlt:i < l.length
 ·have hlt':(i:Int) < (l.length:Int):=by omega
  have hj:=join_ev l[i] (mkOk_ok (hok _ (List.getElem_mem hlt)))
  have hpl:=hok _ (List.getElem_mem hlt)
  obtain ⟨-,hb1,hb2⟩:=prOk_len (mkOk_ok hpl)
  have hw5:IntKind.i64.wrap ((i:Int)+1) = ((i+1:Nat):Int):=by rw [wrap_i64] <;> omega
  rw [Pr.cells] at hj
  rcases hH with ⟨rfl,rfl,rfl⟩ | ⟨hne,n,k,t,hn,hk,hH⟩
  ·simp [k0,k4,k5,hlt,hlt',hj,Pr.cells]
   refine run_unroll ?_
   simp [maxBytes]
   refine run_unroll ?_
   simp [hlt,hlt',Pr.cells,hw5]
   exact ⟨i+1,by omega,by omega,[l[i]],by simp,fun _=>by simp,by simp [hpl],by simp,.inr ⟨by simp,2,1,_,rfl,rfl,.inl ⟨rfl,rfl⟩⟩⟩
  have htk:List.take n (encs out) = encs out:=List.take_of_length_le (by simp;omega)
  have hlk:out.length = k:=hk.symm
  have hkn:k * 2 = n:=by omega
  have hm1:(k+1) * 32≤140737488355328:=by omega
  have hm2:k+1≤140737488355328:=by omega
  have hwk:IntKind.i64.wrap (k:Int) = (k:Int):=by rw [wrap_i64];omega
  rcases hH with ⟨rfl,rfl⟩ | ⟨rfl,rfl⟩ | ⟨rfl,rfl⟩
  all_goals
   simp [k0,k4,k5,hlt,hlt',hj,Pr.cells]
   refine loopJ (fun (z:Nat) e H'=>z≤k∧look e 0 = some (.vsl false (encs l) l.length)∧look e 4 = some (.osl 0 n 0 k 2)∧look e 5 = some (.int .i64 (i:Nat))∧look e 8 = some (.int .i64 (z:Nat))∧H' = [some (encs out)]) (fun z=>k - z) 0
    (fun ex e H'=>ex = .exit 2∧∃ z,z≤k∧look e 0 = some (.vsl false (encs l) l.length)∧look e 4 = some (.osl 0 n 0 k 2)∧look e 5 = some (.int .i64 (i:Nat))∧look e 8 = some (.int .i64 (z:Nat))∧H' = [some (encs out)]) ⟨Nat.zero_le _,by simp,by simp,by simp,by simp,rfl⟩ ?_ ?_
   ·clear k0 k4 k5
    rintro z e H' ⟨hz,k0,k4,k5,k8,rfl⟩
    have hwz:IntKind.i64.wrap ((z:Int)+1) = ((z+1:Nat):Int):=by rw [wrap_i64] <;> omega
    by_cases hzl:z < k
    ·have hzo:z < out.length:=by omega
     obtain ⟨-,c1,c2⟩:=prOk_len (mkOk_ok (hp _ (List.getElem_mem hzo)))
     have p1:=pay_ev out[z] (by omega) (by omega)
     have p2:=pay_ev l[i] (by omega) (by omega)
     rw [Pr.cells] at p1 p2
     generalize payL out[z] = w1 at *
     generalize payL l[i] = w2 at *
     cases hb:Op.bytesLess w1 w2 with
     | true =>
      simp [k0,k4,k5,k8,hzl,hlt,hlt',Pr.cells,p1,p2,hb,hwz,hlk,hkn]
      exact ⟨z+1,by omega,by omega,rfl⟩
     | false =>
      simp [k0,k4,k5,k8,hzl,hlt,hlt',Pr.cells,p1,p2,hb,hlk,hkn]
      exact ⟨z,hz,rfl⟩
    ·simp [k0,k4,k5,k8,hzl]
     exact ⟨z,hz,rfl⟩
   ·clear k0 k4 k5
    rintro ex e H' ⟨rfl,z,hz,k0,k4,k5,k8,rfl⟩
    have hcase:(∃ h:z < out.length,out[z].name = l[i].name∧out[z].value = l[i].value)∨(∃ h:z < out.length,¬ out[z].name = l[i].name)∨(∃ h:z < out.length,out[z].name = l[i].name∧¬ out[z].value = l[i].value)∨¬ z < k:=by
     by_cases h:z < out.length
     ·by_cases h1:out[z].name = l[i].name
      ·by_cases h2:out[z].value = l[i].value
       ·exact .inl ⟨h,h1,h2⟩
       ·exact .inr (.inr (.inl ⟨h,h1,h2⟩))
      ·exact .inr (.inl ⟨h,h1⟩)
     ·exact .inr (.inr (.inr (by omega)))
    have hcon:=fun (h:z < out.length)=>(show z < k by omega)
    rcases hcase with ⟨hzo,e1,e2⟩ | ⟨hzo,e1⟩ | ⟨hzo,e1,e2⟩ | hzl
    ·simp [k0,k4,k5,k8,hcon hzo,hlt,hlt',Pr.cells,e1,e2,hlk,hkn,hw5]
     exact ⟨i+1,by omega,by omega,out,by omega,fun _=>by omega,hp,by simp,.inr ⟨hne,n,k,t,hn,hk,.inr (.inr ⟨rfl,rfl⟩)⟩⟩
    all_goals
     first
      | simp [k0,k4,k5,k8,hcon hzo,hlt,hlt',Pr.cells,e1,e2,hlk,hkn,hwk,hm1,hm2,maxBytes]
      | simp [k0,k4,k5,k8,hcon hzo,hlt,hlt',Pr.cells,e1,hlk,hkn,hwk,hm1,hm2,maxBytes]
      | simp [k0,k4,k5,k8,hzl,hlk,hkn,hwk,hm1,hm2,maxBytes]
     refine loopJ (fun (q:Nat × List Pr) e H'=>z≤q.1∧q.1≤k∧q.2.length = k+1∧(∀ x (h:x < q.2.length),x≠q.1→mkOk q.2[x] = true)∧look e 0 = some (.vsl false (encs l) l.length)∧look e 4 = some (.osl 0 (n+2) 0 (k+1) 2)∧look e 5 = some (.int .i64 (i:Nat))∧look e 8 = some (.int .i64 (z:Nat))∧look e 9 = some (.int .i64 (q.1:Nat))∧H' = [some (encs q.2),some [.str [],.str []]]) (fun q=>q.1 - z) (k,out ++ [⟨[],[]⟩])
      (fun ex e H'=>ex = .exit 4∧∃ L:List Pr,L.length = k+1∧(∀ x (h:x < L.length),x≠z→mkOk L[x] = true)∧look e 0 = some (.vsl false (encs l) l.length)∧look e 4 = some (.osl 0 (n+2) 0 (k+1) 2)∧look e 5 = some (.int .i64 (i:Nat))∧look e 8 = some (.int .i64 (z:Nat))∧H' = [some (encs L),some [.str [],.str []]]) ?_ ?_ ?_
     ·refine ⟨hz,Nat.le_refl _,by simp [hlk],fun x h hx=>?_,by simp,by simp,by simp,by simp,by simp,by rw [encs_snoc];rfl⟩
      have hxo:x < out.length:=by simp at h;omega
      simp only [List.getElem_append_left hxo]
      exact hp _ (List.getElem_mem hxo)
     ·clear k0 k4 k5 k8
      rintro ⟨j,L⟩ e H' ⟨hzj,hjk,hLl,hLp,k0,k4,k5,k8,k9,rfl⟩
      simp only at hzj hjk hLl hLp k9
      by_cases hj2:z < j
      ·obtain ⟨a,rfl⟩:∃ a,j = a+1:=⟨j - 1,by omega⟩
       have hwa:IntKind.i64.wrap (((a+1:Nat):Int) - 1) = (a:Int):=by rw [wrap_i64] <;> omega
       have hwb:IntKind.i64.wrap ((a:Int)+1 - 1) = (a:Int):=by rw [wrap_i64] <;> omega
       have hwc:IntKind.i64.wrap (a:Int) = (a:Int):=by rw [wrap_i64];omega
       have hak:a < k:=by omega
       have ha1:(a:Int) < (k:Int)+1:=by omega
       have hza:(z:Int) < (a:Int)+1:=by omega
       have hza2:z < a+1:=hj2
       have h0a:(0:Int)≤(a:Int)+1:=by omega
       have ha2n:(a+1) * 2≤n:=by omega
       have ha2:a < L.length:=by omega
       have ha3:a+1 < L.length:=by omega
       have hLn:L.length * 2 = n+2:=by omega
       simp [k0,k4,k5,k8,k9,hwc,hak,ha1,ha2,ha3,hLn,hza,h0a,ha2n]
       refine ⟨a,by omega,by omega,by omega,_,by simp [hLl],fun x h hx=>?_,rfl,rfl⟩
       rw [List.getElem_set]
       split
       ·exact hLp a ha2 (by omega)
       ·exact hLp x (by simpa using h) (by omega)
      ·simp [k0,k4,k5,k8,k9,hj2]
       exact ⟨L,hLl,fun x h hx=>hLp x h (by omega),rfl⟩
     ·clear k0 k4 k5 k8
      rintro ex e H' ⟨rfl,L,hLl,hLp,k0,k4,k5,k8,rfl⟩
      have hzl2:z < L.length:=by omega
      have hz1:(z:Int) < (k:Int)+1:=by omega
      have hz2:z * 2≤n:=by omega
      have hLn:L.length * 2 = n+2:=by omega
      simp [k0,k4,k5,k8,hzl2,hlt,hlt',hw5,hz1,hz2,hLn]
      refine ⟨i+1,by omega,by omega,L.set z l[i],by simp [hLl];omega,fun _=>by simp [hLl],fun p hp=>?_,by simp,.inr ⟨fun h=>?_,n+2,k+1,_,by simp [hLn],by simp [hLl],.inr (.inl ⟨rfl,rfl⟩)⟩⟩
      ·obtain ⟨x,hx,rfl⟩:=List.mem_iff_getElem.1 hp
       rw [List.getElem_set]
       split
       ·exact hpl
       ·exact hLp x (by simpa using hx) (by omega)
      ·have:=congrArg List.length h
       simp [hLl] at this
 ·have hlt':¬ (i:Int) < (l.length:Int):=by omega
  have ho2:=ho1 (by omega)
  rcases hH with ⟨rfl,rfl,rfl⟩ | ⟨hne,n,k,t,hn,hk,hH⟩
  ·simp at ho2
  have h16:¬ (16:Int) < (k:Int):=by omega
  have htk:List.take n (encs out) = encs out:=List.take_of_length_le (by simp;omega)
  have hlk:out.length = k:=hk.symm
  have hkn:k * 2 = n:=by omega
  rcases hH with ⟨rfl,rfl⟩ | ⟨rfl,rfl⟩ | ⟨rfl,rfl⟩
  all_goals
   simp [k0,k4,k5,hlt',h16,htk,hlk,hkn]
   exact ⟨out,by omega,by omega,hp,by rw [hlk]⟩
end Go.Ev.S
namespace Go.Ev.S
open Go Go.Proofs Go.Ev
theorem drop_u8 {l:List UInt8} {i:Nat} (h:i < l.length):(ofBytes l).drop i = .int .u8 l[i].toNat :: ofBytes (l.drop (i+1)):=by
 unfold ofBytes
 rw [← List.map_drop,List.drop_eq_getElem_cons h]
 rfl
set_option maxHeartbeats 2000000 in
theorem cmore_ev [MaxL] [TxtC] (s:BitVec 32) (b:Sl UInt8) (hn:b.l.length < 4611686018427387904):call cx 145 [.int .u32 s.toNat,(.vsl b.nil (ofBytes b.l) b.l.length)] [] = some (.int .u32 ((crcM s b.l).toNat:Nat),[]):=by
 refine call_run Tryz.func145 rfl ⟨rfl,rfl⟩ ?_
 have hun:∀ v:BitVec 32,unD .xor (.int .u32 (v.toNat:Int)) = some (.int .u32 ((~~~ v).toNat:Int)):=fun v=>congrArg (fun x=>some (D.int .u32 x)) (not32 v)
 have h0:=hun s
 unfold crcM
 obtain ⟨g,hg⟩:∃ g,crcGo (~~~ s) b.l = g:=⟨_,rfl⟩
 rw [hg]
 have h1:=hun g
 generalize ((~~~ g).toNat:Int) = r at *
 generalize ~~~ s = s0 at *
 clear hun
 simp [-unD,Tryz.f145,h0]
 refine Run.loopThen (fun (q:Nat × BitVec 32) e H'=>q.1≤b.l.length∧crcGo q.2 (b.l.drop q.1) = g∧look e 0 = some (.int .u32 (q.2.toNat:Int))∧look e 9 = some (.vsl b.nil (ofBytes b.l) b.l.length)∧look e 10 = some (.int .i64 b.l.length)∧look e 11 = some (.int .i64 (q.1:Nat))∧H' = []) (fun q=>b.l.length - q.1) (0,s0) ⟨Nat.zero_le _,by simpa using hg,by simp,by simp,by simp,by simp,rfl⟩ ?_
 rintro ⟨i,v⟩ e H' ⟨hi,hR,k0,k9,k10,k11,rfl⟩
 simp only at hi hR k0 k11
 by_cases hlt:i < b.l.length
 ·have hlt':(i:Int) < (b.l.length:Int):=by omega
  have hw:IntKind.i64.wrap ((i:Int)+1) = ((i+1:Nat):Int):=by rw [wrap_i64] <;> omega
  have hd:=drop_u8 hlt
  have hb:=byte32 v b.l[i]
  rw [List.drop_eq_getElem_cons hlt] at hR
  generalize b.l[i] = c at *
  replace hR:crcGo (crcN 8 (v ^^^ BitVec.ofNat 32 c.toNat)) (b.l.drop (i+1)) = g:=hR
  generalize v ^^^ BitVec.ofNat 32 c.toNat = w at *
  have hwc:IntKind.u32.wrap (c.toNat:Int) = (c.toNat:Int):=by have:=c.toNat_lt;rw [wrap_u32];omega
  simp [-unD,k0,k9,k10,k11,hlt',Sl.nn hlt,hd,hwc,hb]
  refine loopJ (fun (q:Nat × BitVec 32) e H'=>q.1≤8∧crcN (8 - q.1) q.2 = crcN 8 w∧look e 0 = some (.int .u32 (q.2.toNat:Int))∧look e 9 = some (.vsl false (ofBytes b.l) b.l.length)∧look e 10 = some (.int .i64 b.l.length)∧look e 11 = some (.int .i64 (i:Nat))∧look e 19 = some (.int .i64 (q.1:Nat))∧H' = []) (fun q=>8 - q.1) (0,w)
   (fun ex e H'=>ex = .exit 2∧look e 0 = some (.int .u32 ((crcN 8 w).toNat:Int))∧look e 9 = some (.vsl false (ofBytes b.l) b.l.length)∧look e 10 = some (.int .i64 b.l.length)∧look e 11 = some (.int .i64 (i:Nat))∧H' = []) ⟨Nat.zero_le _,rfl,by simp,by simp,by simp,by simp,by simp,rfl⟩ ?_ ?_
  ·clear k0 k9 k10 k11
   rintro ⟨j,u⟩ e H' ⟨hj,hu,k0,k9,k10,k11,k19,rfl⟩
   simp only at hj hu k0 k19
   by_cases hj8:j < 8
   ·have hji:(j:Int) < 8:=by omega
    have hwj:IntKind.i64.wrap ((j:Int)+1) = ((j+1:Nat):Int):=by rw [wrap_i64] <;> omega
    have hb1:=bit32 u
    have hb2:=half32 u
    rw [show (2:Int) = 2 ^ min 1 IntKind.u32.bits from rfl] at hb2
    have hb3:=poly32 (u >>> 1)
    have hst:crcN (8 - (j+1)) (crcBit u) = crcN 8 w:=by
     rw [← hu,show 8 - j = (8 - (j+1))+1 by omega]
     rfl
    unfold crcBit at hst
    generalize u >>> 1 = h at *
    by_cases hp:u.toNat % 2 = 1
    ·rw [hp] at hb1
     rw [if_pos hp] at hst
     generalize h ^^^ 2197175160#32 = y at *
     simp [-unD,k0,k9,k10,k11,k19,hji,hwj,hb1]
     exact ⟨j+1,by omega,by omega,y,hst,by rw [hb2,hb3],rfl⟩
    ·have hp0:u.toNat % 2 = 0:=by omega
     rw [hp0] at hb1
     rw [if_neg hp] at hst
     simp [-unD,k0,k9,k10,k11,k19,hji,hwj,hb1]
     exact ⟨j+1,by omega,by omega,h,hst,hb2,rfl⟩
   ·have hji:¬ (j:Int) < 8:=by omega
    have hj0:8 - j = 0:=by omega
    rw [hj0] at hu
    replace hu:u = crcN 8 w:=hu
    simp [-unD,k0,k9,k10,k11,k19,hji,hu]
  ·clear k0 k9 k10 k11
   rintro ex e H' ⟨rfl,k0,k9,k10,k11,rfl⟩
   generalize crcN 8 w = z at *
   simp [-unD,k0,k9,k10,k11,hw]
   exact ⟨i+1,by omega,by omega,z,hR,rfl,rfl⟩
 ·have hlt':¬ (i:Int) < (b.l.length:Int):=by omega
  rw [List.drop_eq_nil_of_le (by omega)] at hR
  replace hR:v = g:=hR
  subst hR
  simp [-unD,k0,k9,k10,k11,hlt',h1]
theorem csum_ev [MaxL] [TxtC] (b:Sl UInt8) (hn:b.l.length < 4611686018427387904):call cx 104 [.vsl false [(.vsl b.nil (ofBytes b.l) b.l.length)] 1] [] = some (.int .u32 ((crcM 0#32 b.l).toNat:Nat),[]):=by
 have h:=cmore_ev 0#32 b hn
 replace h:call cx 145 [.int .u32 0,(.vsl b.nil (ofBytes b.l) b.l.length)] [] = some (.int .u32 ((crcM 0#32 b.l).toNat:Nat),[]):=h
 generalize ((crcM 0#32 b.l).toNat:Nat) = r at *
 refine call_run Tryz.func104 rfl ⟨rfl,rfl⟩ ?_
 simp [Tryz.f104]
 refine run_unroll ?_
 simp [h]
 refine run_unroll ?_
 simp
end Go.Ev.S
namespace Go.Ev
open Go Go.Proofs
def sumOk (b:List UInt8):Bool:=decide (leN (b.drop (b.length - 4)) = (crcM 0#32 (b.take (b.length - 4))).toNat)
def sealB (b:List UInt8):List UInt8:=b ++ leB 4 (crcM 0#32 b).toNat
theorem sealB_len (b:List UInt8):(sealB b).length = b.length+4:=by simp [sealB]
theorem sealed_ok (b:List UInt8):sumOk (b ++ leB 4 (crcM 0#32 b).toNat) = true:=by
 unfold sumOk
 rw [decide_eq_true_eq]
 have e:(b ++ leB 4 (crcM 0#32 b).toNat).length - 4 = b.length:=by simp
 rw [e,List.drop_left,List.take_left,leN_leB]
 exact Nat.mod_eq_of_lt (crcM 0#32 b).isLt
end Go.Ev
namespace Go.Ev.S
open Go Go.Proofs Go.Ev
def kSign:List UInt8:=[68,66,65,84]
def itB (it:It):List UInt8:=leB 4 (textL it).length ++ textL it
def rawB (l:List It) (m:List Mk):List UInt8:=kSign ++ (leB 2 l.length ++ (l.flatMap itB ++ mksB m))
def putOk (l:List It) (m:List Mk):Bool:=decide (l.length≤64) && (rightM m && l.all itOk)
def putS (l:List It) (m:List Mk):Sl UInt8:=if putOk l m && decide ((sealB (rawB l m)).length≤65536) then .of (sealB (rawB l m)) else .none
def getGo:Nat→List UInt8→List It→List It × List Mk × Int
 | 0,r,out=>if (readM r).2 = 0 then (if Go.Ev.readN (readM r) < (r.length:Int) then ([],[],21) else (out,(readM r).1,0)) else ([],[],(readM r).2)
 | k+1,r,out=>if r.length < 4∨r.length - 4 < leN (r.take 4) then ([],[],22) else if readOk ((r.drop 4).take (leN (r.take 4))) = true∧(textL (itemP ((r.drop 4).take (leN (r.take 4))))).length = leN (r.take 4) then getGo k (r.drop (4+leN (r.take 4))) (out ++ [itemP ((r.drop 4).take (leN (r.take 4)))]) else ([],[],20)
def getX (x:List UInt8):List It × List Mk × Int:=if x.length < 4 then ([],[],22) else if pre kSign x then (if x.length < 6 then ([],[],22) else if 64 < leN ((x.drop 4).take 2) then ([],[],21) else getGo (leN ((x.drop 4).take 2)) (x.drop 6) []) else ([],[],6)
def getP (b:List UInt8):List It × List Mk × Int:=if b.length < 4 then ([],[],22) else if sumOk b then getX (b.take (b.length - 4)) else ([],[],19)
theorem getP_seal (x:List UInt8):getP (sealB x) = getX x:=by
 unfold getP
 rw [if_neg (by rw [sealB_len];omega),show sumOk (sealB x) = true from sealed_ok x,if_pos rfl,sealB_len,show x.length+4 - 4 = x.length by omega]
 unfold sealB
 rw [List.take_left]
theorem mk_back {m:Mk} (h:m.Ok) (r:List UInt8):mkOf (mkB m ++ r) = m:=by
 obtain ⟨i,a,b,c⟩:=m
 obtain ⟨h1,h2,h3⟩:=h
 simp only [isU64] at h1 h2 h3
 have hi:=i.h
 have e0:ID.mk' i.l = i:=by unfold ID.mk';rw [dif_pos hi]
 unfold mkOf mkB
 simp [List.drop_append,hi,e0,leN_leB,List.drop_eq_nil_of_le]
 omega
theorem mkB_take (m:Mk) (r:List UInt8):(mkB m ++ r).take 16 = m.id.l:=by
 have hi:=m.id.h
 unfold mkB
 simp [hi]
theorem mkB_drop (m:Mk) (r:List UInt8):(mkB m ++ r).drop 40 = r:=by
 have h:=mkB_len m
 rw [← h,List.drop_left]
theorem readGo_back:∀ (l out:List Mk),(∀ m∈l,m.Ok)→risesM (out ++ l) = true→readGo l.length (l.flatMap mkB) out = (out ++ l,0)
 | [],out,_,_=>by show readGo 0 _ out = _;rw [readGo,List.append_nil]
 | m :: l,out,hok,hr=>by
  have hl:(mkB m ++ l.flatMap mkB).length = 40+(l.flatMap mkB).length:=by rw [List.length_append,mkB_len]
  have hlast:lastGe out m.id.l = false:=by
   unfold lastGe
   cases hg:out.getLast? with
   | none=>rfl
   | some a =>
    obtain ⟨o,rfl⟩:∃ o,out = o ++ [a]:=⟨out.dropLast,by
     have hne:out≠[]:=by rintro rfl;simp at hg
     rw [List.getLast?_eq_some_getLast hne,Option.some.injEq] at hg
     rw [← hg,List.dropLast_concat_getLast]⟩
    have:cmpB a.id.l m.id.l < 0:=by
     clear hg hl
     rw [List.append_assoc] at hr
     induction o with
     | nil =>
      simp only [List.nil_append,List.cons_append,risesM,Bool.and_eq_true,decide_eq_true_eq] at hr
      exact hr.1
     | cons x o ih =>
      cases o with
      | nil =>
       simp only [List.nil_append,List.cons_append,risesM,Bool.and_eq_true,decide_eq_true_eq] at hr
       exact hr.2.1
      | cons y o =>
       simp only [List.cons_append,risesM,Bool.and_eq_true,decide_eq_true_eq] at hr
       exact ih hr.2
    simp
    omega
  show readGo (l.length+1) (mkB m ++ l.flatMap mkB) out = _
  rw [readGo,if_neg (by omega),mkB_take,hlast,if_neg (by decide),if_neg (by omega),mkB_drop,mk_back (hok m (List.mem_cons_self ..)),readGo_back l (out ++ [m]) (fun x hx=>hok x (List.mem_cons_of_mem _ hx)) (by rw [List.append_assoc];exact hr),List.append_assoc]
  rfl
theorem readM_mks {l:List Mk} (hok:∀ m∈l,m.Ok) (hr:rightM l = true):readM (mksB l) = (l,0):=by
 have h4:=rightM_le hr
 have hri:risesM l = true:=by
  unfold rightM at hr
  rw [Bool.and_eq_true] at hr
  exact hr.2
 have hc:(UInt8.ofNat l.length).toNat = l.length:=UInt8.toNat_ofNat_of_lt' (by show l.length < 256;omega)
 unfold mksB readM
 simp only
 rw [hc,if_neg (by omega),readGo_back l [] hok hri]
 rfl
theorem mksB_len (l:List Mk):(mksB l).length = 1+l.length * 40:=by
 unfold mksB
 rw [List.length_cons,mkBs_len,Nat.add_comm]
theorem itB_len (it:It):(itB it).length = 4+(textL it).length:=by simp [itB]
theorem item_step {it:It} (hi:it.Ok) (ho:itOk it = true):readOk (textL it) = true∧itemP (textL it) = normI it:=by
 obtain ⟨h1,-,h3⟩:=read_back hi ho []
 rw [List.append_nil] at h1 h3
 have h2:=itemP_text hi ho []
 rw [List.append_nil] at h2
 refine ⟨?_,h2⟩
 cases h:readOk (textL it) with
 | true=>rfl
 | false=>unfold rdC at h3;rw [h] at h3;cases h3
theorem getGo_back:∀ (l:List It) (out:List It) (m:List Mk),(∀ x∈l,x.Ok∧itOk x = true)→(∀ x∈m,x.Ok)→rightM m = true→getGo l.length (l.flatMap itB ++ mksB m) out = (out ++ l.map normI,m,0)
 | [],out,m,_,hm,hr=>by
  show getGo 0 (mksB m) out = _
  rw [getGo,readM_mks hm hr]
  simp only
  have hn:Go.Ev.readN (m,0) = ((mksB m).length:Int):=by
   rw [mksB_len]
   unfold Go.Ev.readN
   simp
   omega
  rw [if_pos trivial,hn,if_neg (by omega),List.map_nil,List.append_nil]
 | x :: l,out,m,hl,hm,hr=>by
  obtain ⟨hi,ho⟩:=hl x (List.mem_cons_self ..)
  obtain ⟨hr1,hr2⟩:=item_step hi ho
  have hln:=(textL_len hi ho).1
  obtain ⟨R,hR⟩:∃ R,l.flatMap itB ++ mksB m = R:=⟨_,rfl⟩
  have e:(x :: l).flatMap itB ++ mksB m = leB 4 (textL x).length ++ (textL x ++ R):=by
   rw [List.flatMap_cons,List.append_assoc,hR]
   unfold itB
   rw [List.append_assoc]
  have e1:leN ((leB 4 (textL x).length ++ (textL x ++ R)).take 4) = (textL x).length:=by
   rw [List.take_append_of_le_length (by simp),List.take_of_length_le (by simp),leN_leB]
   exact Nat.mod_eq_of_lt (by omega)
  have e2:(leB 4 (textL x).length ++ (textL x ++ R)).drop 4 = textL x ++ R:=by
   have:(leB 4 (textL x).length).length = 4:=leB_len _ _
   rw [List.drop_append_of_le_length (by omega),List.drop_eq_nil_of_le (by omega),List.nil_append]
  have e3:(leB 4 (textL x).length ++ (textL x ++ R)).drop (4+(textL x).length) = R:=by
   rw [← List.drop_drop,e2,List.drop_left]
  have e4:(leB 4 (textL x).length ++ (textL x ++ R)).length = 4+((textL x).length+R.length):=by simp
  rw [e]
  show getGo (l.length+1) _ out = _
  rw [getGo,e1,e2,e3,e4,if_neg (by omega),List.take_left,hr2,normI_text,if_pos ⟨hr1,rfl⟩,← hR,getGo_back l (out ++ [normI x]) m (fun y hy=>hl y (List.mem_cons_of_mem _ hy)) hm hr,List.append_assoc]
  rfl
theorem put_is {l:List It} {m:List Mk} (h:putOk l m = true):l.length≤64∧rightM m = true∧∀ x∈l,itOk x = true:=by
 unfold putOk at h
 simp only [Bool.and_eq_true,decide_eq_true_eq,List.all_eq_true] at h
 exact h
theorem getX_raw {l:List It} {m:List Mk} (h:putOk l m = true) (hl:∀ x∈l,x.Ok) (hm:∀ x∈m,x.Ok):getX (rawB l m) = (l.map normI,m,0):=by
 obtain ⟨h1,h2,h3⟩:=put_is h
 have hb:=getGo_back l [] m (fun x hx=>⟨hl x hx,h3 x hx⟩) hm h2
 have hml:=mksB_len m
 unfold rawB getX
 generalize l.flatMap itB ++ mksB m = R at *
 have e1:leN (((kSign ++ (leB 2 l.length ++ R)).drop 4).take 2) = l.length:=by
  have:(kSign ++ (leB 2 l.length ++ R)).drop 4 = leB 2 l.length ++ R:=rfl
  rw [this,List.take_append_of_le_length (by simp),List.take_of_length_le (by simp),leN_leB]
  exact Nat.mod_eq_of_lt (by omega)
 have e2:(kSign ++ (leB 2 l.length ++ R)).drop 6 = R:=by
  have:(kSign ++ (leB 2 l.length ++ R)).drop 4 = leB 2 l.length ++ R:=rfl
  have h2:(leB 2 l.length).length = 2:=leB_len _ _
  rw [show (6:Nat) = 4+2 from rfl,← List.drop_drop,this,List.drop_append_of_le_length (by omega),List.drop_eq_nil_of_le (by omega),List.nil_append]
 have e3:(kSign ++ (leB 2 l.length ++ R)).length = 6+R.length:=by simp [kSign];omega
 rw [e1,e2,e3,if_neg (by omega),show pre kSign (kSign ++ (leB 2 l.length ++ R)) = true from pre_self _ _,if_pos rfl,if_neg (by omega),if_neg (by omega),hb,List.nil_append]
theorem raw_len (l:List It) (m:List Mk):(sealB (rawB l m)).length = 11+40 * m.length+(l.map fun x=>4+(textL x).length).sum:=by
 rw [sealB_len]
 unfold rawB
 have:(l.flatMap itB).length = (l.map fun x=>4+(textL x).length).sum:=by
  induction l with
  | nil=>rfl
  | cons a l ih=>rw [List.flatMap_cons,List.length_append,ih,itB_len,List.map_cons,List.sum_cons]
 simp [kSign,mksB_len,this]
 omega
end Go.Ev.S
namespace Go.Ev.S
open Go Go.Proofs Go.Ev
theorem u32_64 (s:BitVec 32):IntKind.u64.wrap (s.toNat:Int) = (s.toNat:Int):=by
 have:=s.isLt
 rw [wrap_u64]
 omega
theorem cseal_ev [MaxL] [TxtC] (b:Sl UInt8) (hn:b.l.length≤140737488354000):call cx 65 [(.vsl b.nil (ofBytes b.l) b.l.length)] [] = some ((.vsl ((.of (sealB b.l):Sl UInt8)).nil (ofBytes ((.of (sealB b.l):Sl UInt8)).l) ((.of (sealB b.l):Sl UInt8)).l.length),[]):=by
 have h1:=csum_ev b (by omega)
 have hw:=u32_64 (crcM 0#32 b.l)
 obtain ⟨d,H,hb,hc⟩:=leadd_ev b 4 (crcM 0#32 b.l).toNat (by omega)
 have e:leAdd b.l 4 (crcM 0#32 b.l).toNat = sealB b.l:=by simp [leAdd,szOk,sealB]
 have el:=sealB_len b.l
 rw [e] at hb
 generalize (crcM 0#32 b.l).toNat = v at *
 generalize sealB b.l = z at *
 rcases hb with ⟨-,rfl,-⟩ | ⟨rfl,rfl⟩
 ·simp at el
 refine call_run Tryz.func65 rfl ⟨rfl,rfl⟩ ?_
 simp [Tryz.f65,h1,hc,hw]
def openD (l:List UInt8):D:=if l.length < 4 then .tup [.vsl true [] 0,.int .i64 22] else if sumOk l then .tup [(.vsl ((.of (l.take (l.length - 4)):Sl UInt8)).nil (ofBytes ((.of (l.take (l.length - 4)):Sl UInt8)).l) ((.of (l.take (l.length - 4)):Sl UInt8)).l.length),.int .i64 0] else .tup [.vsl true [] 0,.int .i64 19]
theorem leGet_end {l:List UInt8} (h:4≤l.length):leGet l ((l.length - 4:Nat):Int) 4 = some (leN (l.drop (l.length - 4))):=by
 unfold leGet
 rw [if_pos ⟨rfl,by omega,by omega⟩]
 congr 2
 rw [show ((l.length - 4:Nat):Int).toNat = l.length - 4 from rfl,List.take_of_length_le (by rw [List.length_drop];show _≤4;omega)]
theorem copen_ev [MaxL] [TxtC] (b:Sl UInt8) (hn:b.l.length≤140737488354000):call cx 107 [(.vsl b.nil (ofBytes b.l) b.l.length)] [] = some (openD b.l,[]):=by
 refine call_run Tryz.func107 rfl ⟨rfl,rfl⟩ ?_
 have hw0:IntKind.i64.wrap ((b.l.length:Int) - 4) = (b.l.length:Int) - 4:=by rw [wrap_i64];omega
 unfold openD
 by_cases h4:b.l.length < 4
 ·rw [if_pos h4]
  have hlt:(b.l.length:Int) - 4 < 0:=by omega
  simp [Tryz.f107,hw0,hlt]
 rw [if_neg h4]
 obtain ⟨n,hn4⟩:∃ n,b.l.length - 4 = n:=⟨_,rfl⟩
 have hw1:IntKind.i64.wrap ((b.l.length:Int) - 4) = (n:Int):=by rw [hw0];omega
 have hnn:b.nil = false:=Sl.nn (i:=0) (by omega)
 have hg:=leget_ev b (n:Int) 4 (by omega) (by omega)
 have hge:=leGet_end (l:=b.l) (by omega)
 rw [hn4] at hge
 rw [hge] at hg
 have h1:=csum_ev (.of (b.l.take n)) (by simp;omega)
 have hw:=u32_64 (crcM 0#32 (b.l.take n))
 have hcl:=bytesclone_ev (.of (b.l.take n)) (by simp;omega)
 have hng:(0:Int)≤(n:Int):=by omega
 have hnl:n≤b.l.length:=by omega
 have htl:(b.l.take n).length = n:=by rw [List.length_take];omega
 have htk:List.take n (ofBytes b.l) = ofBytes (b.l.take n):=ofBytes_take _ _
 have hs:sumOk b.l = decide (leN (b.l.drop n) = (crcM 0#32 (b.l.take n)).toNat):=by unfold sumOk;rw [hn4]
 rw [hs,hn4]
 unfold optN at hg
 simp only [Sl.of_l,Sl.of_nil,htl] at h1 hw hcl
 simp only [Option.getD_some,Option.isSome_some] at hg
 generalize leN (b.l.drop n) = v at *
 generalize crcM 0#32 (b.l.take n) = c at *
 generalize b.l.take n = y at *
 have hcond:((v:Int) = (c.toNat:Int)) = (v = c.toNat):=propext ⟨fun h=>Int.ofNat.inj h,fun h=>congrArg _ h⟩
 have hngi:¬ (n:Int) < 0:=by omega
 rw [hnn] at hg
 rw [if_neg (by decide)] at hcl
 by_cases hv:v = c.toNat
 ·subst hv
  simp [Tryz.f107,hw1,hnn,hg,h1,hw,hcl,hng,hngi,hnl,htk,htl]
 ·rw [decide_eq_false hv]
  simp [Tryz.f107,hw1,hnn,hg,h1,hw,hng,hngi,hnl,htk,hcond,hv]
end Go.Ev.S
namespace Go.Ev.S
open Go Go.Proofs Go.Ev
set_option maxRecDepth 4000 in
set_option maxHeartbeats 4000000 in
theorem mread_ev [MaxL] [TxtC] (s:Sl UInt8) (hn:s.l.length < 4611686018427387904) :
  call cx 32 [(.vsl s.nil (ofBytes s.l) s.l.length)] [] = some (.tup [(.vsl (Sl.grown (readM s.l).1).nil (encs (Sl.grown (readM s.l).1).l) (Sl.grown (readM s.l).1).l.length),.int .i64 (readN (readM s.l)),.int .i64 (readM s.l).2],[]):=by
 refine call_run Tryz.func32 rfl ⟨rfl,rfl⟩ ?_
 obtain ⟨nil,l,hnil⟩:=s
 simp only at hn ⊢
 cases l with
 | nil=>simp [Tryz.f32,readM,readN,Sl.grown]
 | cons c r =>
  have hnf:nil = false:=by
   cases nil with
   | false=>rfl
   | true=>simpa using hnil rfl
  subst hnf
  have hne:¬ ((r.length:Int)+1 = 0):=by omega
  have hpos:(0:Int) < (r.length:Int)+1:=by omega
  by_cases h4:4 < c.toNat
  ·have h4':(4:Int) < (c.toNat:Int):=by omega
   simp [Tryz.f32,readM,readN,Sl.grown,hne,hpos,ofBytes_cons,h4,h4']
  ·have h4':¬ (4:Int) < (c.toNat:Int):=by omega
   have hwc:IntKind.i64.wrap (c.toNat:Int) = (c.toNat:Int):=by rw [wrap_i64];omega
   simp [Tryz.f32,hne,hpos,ofBytes_cons,h4',hwc]
   refine Run.loopThen (fun (i:Nat) e H=>i≤c.toNat∧∃ (d:D) (out:List Mk),BufE 19 d H out∧out.length = i∧40 * i≤r.length∧look e 0 = some (.vsl false (ofBytes (c :: r)) (r.length+1))∧look e 5 = some d∧look e 21 = some (.int .i64 c.toNat)∧look e 22 = some (.int .i64 i) ∧
    readM (c :: r) = readGo (c.toNat - i) (r.drop (40 * i)) out) (fun i=>c.toNat - i) 0 ?_ ?_
   ·refine ⟨by omega,.vsl true [] 0,[],.inl ⟨rfl,rfl,rfl⟩,rfl,by omega,?_⟩
    simp [readM,h4,ofBytes_cons]
   ·rintro i e H ⟨hi,d,out,hbuf,hlen,hir,h0,h5,h21,h22,hr⟩
    by_cases hlt:i < c.toNat
    ·have hlt':(i:Int) < (c.toNat:Int):=by omega
     have hw40:IntKind.i64.wrap (40 * (i:Int)) = 40 * (i:Int):=by rw [wrap_i64];omega
     have hw41:IntKind.i64.wrap (1+40 * (i:Int)) = 1+40 * (i:Int):=by rw [wrap_i64];omega
     have g1:(0:Int)≤1+40 * (i:Int):=by omega
     have g2:1+40 * (i:Int)≤(r.length:Int)+1:=by omega
     have g3:(1+40 * (i:Int)).toNat = 40 * i+1:=by omega
     have hk:c.toNat - i = (c.toNat - (i+1))+1:=by omega
     rw [hk,readGo] at hr
     have hdl:(r.drop (40 * i)).length = r.length - 40 * i:=List.length_drop
     by_cases h16:r.length - 40 * i < 16
     ·rw [hdl,if_pos h16] at hr
      have hm:min (r.length - 40 * i) 16 = r.length - 40 * i:=by omega
      have hm':((r.length - 40 * i:Nat):Int) < 16:=by omega
      simp [h0,h5,h21,h22,hlt',hw40,hw41,g1,g2,g3,ofBytes_drop,hm,hm',hr,readN,Sl.grown]
     ·have hm:min (r.length - 40 * i) 16 = 16:=by omega
      rw [hdl,if_neg h16] at hr
      generalize hR:r.drop (40 * i) = R at *
      have ht16:(ofBytes R).take 16 = ofBytes (R.take 16):=ofBytes_take R 16
      obtain ⟨id,hid⟩:∃ id:ID,id.l = R.take 16:=⟨ID.mk' (R.take 16),ID.mk'_l (by rw [List.length_take];omega)⟩
      have hidm:ID.mk' (R.take 16) = id:=ID.ext' (by rw [ID.mk'_l (by rw [List.length_take];omega),hid])
      rw [← hid] at ht16 hr
      have hdr:(r.drop (40 * (i+1))) = R.drop 40:=by rw [← hR,List.drop_drop];congr 1
      have hRl:R.length = r.length - 40 * i:=hdl
      have fin40:lastGe out id.l = false→(¬ R.length < 40→∃ a1 a2 a3:Nat,mkOf R = ⟨id,a1,a2,a3⟩∧call cx 68 [.vsl false (ofBytes R) R.length,.int .i64 16,.int .i64 8] [] = some (.tup [.int .u64 a1,.bool true],[]) ∧
        call cx 68 [.vsl false (ofBytes R) R.length,.int .i64 24,.int .i64 8] [] = some (.tup [.int .u64 a2,.bool true],[])∧call cx 68 [.vsl false (ofBytes R) R.length,.int .i64 32,.int .i64 8] [] = some (.tup [.int .u64 a3,.bool true],[]) ∧
        readM (c :: r) = readGo (c.toNat - (i+1)) (r.drop (40 * (i+1))) (out ++ [⟨id,a1,a2,a3⟩])):=by
       intro hlg h40
       rw [hlg] at hr
       simp only [Bool.false_eq_true,if_false] at hr
       rw [if_neg (by omega)] at hr
       have hmk:mkOf R = ⟨id,leN ((R.drop 16).take 8),leN ((R.drop 24).take 8),leN ((R.drop 32).take 8)⟩:=by unfold mkOf;rw [hidm]
       have q:=fun a (ha:a+8≤40)=>leget_ev (.of R) (a:Nat) 8 (by omega) (by simp only [Sl.of_l,hRl];simp at hn;omega)
       have ql:∀ a,a+8≤40→leGet R (a:Nat) 8 = some (leN ((R.drop a).take 8)):=fun a ha=>by
        unfold leGet
        rw [if_pos ⟨rfl,by omega,by omega⟩]
        simp
       refine ⟨_,_,_,hmk,?_,?_,?_,by rw [hr,hdr,hmk]⟩
       ·have:=q 16 (by omega);simp only [Sl.of_l,Sl.of_nil,ql 16 (by omega)] at this;exact this
       ·have:=q 24 (by omega);simp only [Sl.of_l,Sl.of_nil,ql 24 (by omega)] at this;exact this
       ·have:=q 32 (by omega);simp only [Sl.of_l,Sl.of_nil,ql 32 (by omega)] at this;exact this
      rw [← hRl] at hm hr
      have hRd:(ofBytes (c :: r)).drop (40 * i+1) = ofBytes R:=by rw [ofBytes_drop,List.drop_succ_cons,hR]
      have hlast0:i = 0→lastGe out id.l = false:=fun h=>by
       have:out = []:=List.eq_nil_of_length_eq_zero (by omega)
       subst this
       rfl
      have hlastk:∀ k (hk:k < out.length),k+1 = i→lastGe out id.l = decide (0≤cmpB out[k].id.l id.l):=fun k hk hki=>by
       unfold lastGe
       have:out.getLast? = some out[k]:=by
        rw [List.getLast?_eq_getElem?,List.getElem?_eq_getElem (by omega)]
        congr 2
        omega
       rw [this]
      have hw1:IntKind.i64.wrap ((i:Int)+1) = ((i+1:Nat):Int):=by rw [wrap_i64] <;> omega
      have hc19:(out.length+1) * 40≤140737488355328∧out.length+1≤140737488355328:=by have:=c.toNat_lt;omega
      rcases Nat.eq_zero_or_pos i with hi0 | hipos
      ·have hi0':¬ 0 < i:=by omega
       have hlg:=hlast0 hi0
       by_cases h40:R.length < 40
       ·have h40':(R.length:Int) < 40:=by omega
        rw [hlg,if_pos h40] at hr
        simp only [Bool.false_eq_true,if_false] at hr
        rcases hbuf with ⟨rfl,rfl,rfl⟩ | ⟨rfl,rfl,hne0⟩ <;>
         simp [h0,h5,h21,h22,hlt',hw40,hw41,g1,g2,g3,hRd,← hRl,List.take_of_length_le,hm,ht16,hi0',h40',hr,readN,Sl.grown]
       ·have h40':¬ (R.length:Int) < 40:=by omega
        obtain ⟨a1,a2,a3,q1,q2,q3,q4,q5⟩:=fin40 hlg h40
        have hfold:ofBytes id.l ++ [.int .u64 (a1:Int),.int .u64 (a2:Int),.int .u64 (a3:Int)] = Enc.cells (⟨id,a1,a2,a3⟩:Mk):=rfl
        clear hr
        rcases hbuf with ⟨rfl,rfl,rfl⟩ | ⟨rfl,rfl,hne0⟩
        ·simp [h0,h5,h21,h22,hlt',hw40,hw41,g1,g2,g3,hRd,← hRl,List.take_of_length_le,hm,ht16,hi0',h40',q2,q3,q4,hfold,hw1,maxBytes,List.take_append,List.drop_append,drop_bytes]
         exact ⟨i+1,by omega,by omega,_,_,.one _,by simp at hlen;simp [← hlen],by omega,rfl,rfl,q5⟩
        ·simp [h0,h5,h21,h22,hlt',hw40,hw41,g1,g2,g3,hRd,← hRl,List.take_of_length_le,hm,ht16,hi0',h40',q2,q3,q4,hfold,hw1,maxBytes,hc19,List.take_append,List.drop_append,drop_bytes]
         exact ⟨i+1,by omega,by omega,_,_,.snoc _ _,by simp [hlen],by omega,rfl,rfl,q5⟩
      ·obtain ⟨k,hki⟩:∃ k,k+1 = i:=⟨i - 1,by omega⟩
       have hko:k < out.length:=by omega
       have hko':(k:Int) < (out.length:Int):=by omega
       have hwk:IntKind.i64.wrap ((i:Int) - 1) = (k:Int):=by rw [wrap_i64] <;> omega
       have hlg:=hlastk k hko hki
       have hcm:=compare_id out[k].id id
       have h19:k * 19+16≤out.length * 19:=by omega
       have h16k:∀ k,(16≤19+k) = True:=fun k=>eq_true (by omega)
       rcases hbuf with ⟨rfl,rfl,rfl⟩ | ⟨rfl,rfl,hne0⟩
       ·simp at hko
       ·by_cases hge:0≤cmpB out[k].id.l id.l
        ·rw [hlg,decide_eq_true hge] at hr
         simp only [if_true] at hr
         simp [h0,h5,h21,h22,hlt',hw40,hw41,g1,g2,g3,hRd,← hRl,List.take_of_length_le,hm,ht16,hipos,hwk,hko,hko',h19,hcm,hge,hr,readN,Sl.grown,List.take_append,List.drop_append]
        ·rw [decide_eq_false hge] at hlg
         by_cases h40:R.length < 40
         ·have h40':(R.length:Int) < 40:=by omega
          rw [hlg,if_pos h40] at hr
          simp only [Bool.false_eq_true,if_false] at hr
          simp [h0,h5,h21,h22,hlt',hw40,hw41,g1,g2,g3,hRd,← hRl,List.take_of_length_le,hm,ht16,hipos,hwk,hko,hko',h19,hcm,hge,h40',hr,readN,Sl.grown,List.take_append,List.drop_append]
         ·have h40':¬ (R.length:Int) < 40:=by omega
          obtain ⟨a1,a2,a3,q1,q2,q3,q4,q5⟩:=fin40 hlg h40
          have hfold:ofBytes id.l ++ [.int .u64 (a1:Int),.int .u64 (a2:Int),.int .u64 (a3:Int)] = Enc.cells (⟨id,a1,a2,a3⟩:Mk):=rfl
          clear hr
          simp [h0,h5,h21,h22,hlt',hw40,hw41,g1,g2,g3,hRd,← hRl,List.take_of_length_le,hm,ht16,hipos,hwk,hko,hko',h19,hcm,hge,h40',q2,q3,q4,hfold,hw1,maxBytes,hc19,List.take_append,List.drop_append,drop_bytes]
          exact ⟨i+1,by omega,by omega,_,_,.snoc _ _,by simp [hlen],by omega,rfl,rfl,q5⟩
    ·have hlt':¬ (i:Int) < (c.toNat:Int):=by omega
     have hk:c.toNat - i = 0:=by omega
     rw [hk,readGo] at hr
     rcases hbuf with ⟨rfl,rfl,rfl⟩ | ⟨rfl,rfl,hne0⟩
     ·simp [h0,h5,h21,h22,hlt',hr,readN,Sl.grown]
     ·have hw1:IntKind.i64.wrap (40 * (out.length:Int)) = 40 * (out.length:Int):=by rw [wrap_i64];omega
      have hw2:IntKind.i64.wrap (1+40 * (out.length:Int)) = 1+40 * (out.length:Int):=by rw [wrap_i64];omega
      simp [h0,h5,h21,h22,hlt',hr,readN,Sl.grown,hw1,hw2,hne0]
end Go.Ev.S
namespace Go.Ev.S
open Go Go.Proofs Go.Ev
def trD (q:List It × List Mk × Int):D:=.tup [(.vsl (Sl.grown q.1).nil (encs (Sl.grown q.1).l) (Sl.grown q.1).l.length),(.vsl (Sl.grown q.2.1).nil (encs (Sl.grown q.2.1).l) (Sl.grown q.2.1).l.length),.int .i64 q.2.2]
theorem leGet_at {l:List UInt8} (n:Nat) (hn:n = 2∨n = 4) (a:Nat):leGet l a n = if a+n≤l.length then some (leN ((l.drop a).take n)) else none:=by
 unfold leGet
 have hz:szOk (n:Int) = true:=by rcases hn with rfl | rfl <;> rfl
 by_cases h:a+n≤l.length
 ·rw [if_pos ⟨hz,by omega,by omega⟩,if_pos h,Int.toNat_natCast,Int.toNat_natCast]
 ·rw [if_neg (fun h'=>h (by omega)),if_neg h]
theorem leN4 (l:List UInt8):leN (l.take 4) < 4294967296:=by
 have h1:=leN_lt (l.take 4)
 have h2:(l.take 4).length≤4:=by rw [List.length_take];omega
 exact Nat.lt_of_lt_of_le h1 (Nat.le_trans (Nat.pow_le_pow_right (by decide) h2) (by decide))
def GetH (out:List It) (d:D) (H:Heap):Prop:=(out = []∧d = .vsl true [] 0∧∃ t,H = [some t])∨(out≠[]∧∃ n k,n = out.length * 39∧k = out.length∧((∃ t u,d = .osl 2 n 0 k 39∧H = [some t,some u,some (encs out)])∨(∃ t u,d = .osl 0 n 0 k 39∧H = [some (encs out),some t,some u])))
set_option maxHeartbeats 4000000 in
set_option maxRecDepth 4000 in
theorem wget_ev [MaxL] (b:Sl UInt8) (hn:b.l.length < 1000000):call cx 71 [(.vsl b.nil (ofBytes b.l) b.l.length)] [] = some (trD (getP b.l),[]):=by
 have hop:=copen_ev b (by omega)
 refine call_run Tryz.func71 rfl ⟨rfl,rfl⟩ ?_
 unfold openD at hop
 by_cases h4:b.l.length < 4
 ·have hg:getP b.l = ([],[],22):=by unfold getP;rw [if_pos h4]
  rw [if_pos h4] at hop
  rw [hg]
  simp [Tryz.f71,hop,trD,Sl.grown]
 rw [if_neg h4] at hop
 cases hs:sumOk b.l with
 | false =>
  have hg:getP b.l = ([],[],19):=by unfold getP;rw [if_neg h4,hs];rfl
  rw [hs,if_neg (by decide)] at hop
  rw [hg]
  simp [Tryz.f71,hop,trD,Sl.grown]
 | true =>
 have hg:getP b.l = getX (b.l.take (b.l.length - 4)):=by unfold getP;rw [if_neg h4,hs];rfl
 rw [hs,if_pos rfl] at hop
 rw [hg]
 have hxl:(b.l.take (b.l.length - 4)).length < 1000000:=by rw [List.length_take];omega
 generalize b.l.take (b.l.length - 4) = x at *
 simp only [Sl.of_l,Sl.of_nil] at hop
 clear hg hs h4
 unfold getX
 by_cases hx4:x.length < 4
 ·have hx4':(x.length:Int) < 4:=by omega
  rw [if_pos hx4]
  simp [Tryz.f71,hop,trD,Sl.grown,hx4']
 rw [if_neg hx4]
 have hx4':¬ (x.length:Int) < 4:=by omega
 have hpf:=bpfx_ev (.of x) kSign (by simpa using hxl) (by decide) (by decide)
 replace hpf:call cx 108 [.vsl false (ofBytes x) x.length,.vsl false [.int .u8 68,.int .u8 66,.int .u8 65,.int .u8 84] 4] [] = some (.bool (pre kSign x),[]):=hpf
 cases hp:pre kSign x with
 | false =>
  rw [hp] at hpf
  rw [if_neg (by decide)]
  simp [Tryz.f71,hop,trD,Sl.grown,hx4',hpf]
 | true =>
 rw [hp] at hpf
 rw [if_pos rfl]
 have hl2:=leget_ev (.of x) (4:Nat) (2:Nat) (by decide) (by simp;omega)
 rw [Sl.of_l,leGet_at 2 (.inl rfl) 4] at hl2
 by_cases hx6:x.length < 6
 ·rw [if_pos hx6]
  rw [if_neg (by omega)] at hl2
  unfold optN at hl2
  replace hl2:call cx 68 [.vsl false (ofBytes x) x.length,.int .i64 4,.int .i64 2] [] = some (.tup [.int .u64 0,.bool false],[]):=hl2
  simp [Tryz.f71,hop,trD,Sl.grown,hx4',hpf,hl2]
 rw [if_neg hx6]
 rw [if_pos (by omega)] at hl2
 unfold optN at hl2
 replace hl2:call cx 68 [.vsl false (ofBytes x) x.length,.int .i64 4,.int .i64 2] [] = some (.tup [.int .u64 (leN ((x.drop 4).take 2):Nat),.bool true],[]):=hl2
 generalize leN ((x.drop 4).take 2) = many at *
 by_cases h64:64 < many
 ·rw [if_pos h64]
  have h64':(64:Int) < (many:Int):=by omega
  simp [Tryz.f71,hop,trD,Sl.grown,hx4',hpf,hl2,h64']
 rw [if_neg h64]
 have h64':¬ (64:Int) < (many:Int):=by omega
 have h6x:(6:Int)≤(x.length:Int):=by omega
 have h6n:6≤x.length:=by omega
 have hd6:List.drop 6 (ofBytes x) = ofBytes (x.drop 6):=ofBytes_drop _ _
 have hr0:(x.drop 6).length < 1000000:=by rw [List.length_drop];omega
 have hl6:((x.length:Int) - 6) = ((x.drop 6).length:Int):=by rw [List.length_drop];omega
 have hl6n:x.length - 6 = (x.drop 6).length:=by rw [List.length_drop]
 obtain ⟨G,hG⟩:∃ G,getGo many (x.drop 6) [] = G:=⟨_,rfl⟩
 rw [hG]
 generalize x.drop 6 = r0 at *
 simp [Tryz.f71,hop,hx4',hpf,hl2,h64',h6x,hd6,hl6n]
 refine Run.loopThen (fun (q:Nat × List UInt8 × List It) e H=>q.1≤many∧getGo (many - q.1) q.2.1 q.2.2 = G∧q.2.2.length = q.1∧q.2.1.length < 1000000∧look e 0 = some (.vsl false (ofBytes q.2.1) q.2.1.length)∧(∃ d,look e 8 = some d∧GetH q.2.2 d H)∧look e 48 = some (.int .u64 (many:Nat))∧look e 49 = some (.int .u64 (q.1:Nat))) (fun q=>many - q.1) (0,r0,[]) ?_ ?_
 ·exact ⟨Nat.zero_le _,hG,rfl,hr0,by simp,⟨_,by simp,.inl ⟨rfl,rfl,_,rfl⟩⟩,by simp,by simp⟩
 rintro ⟨i,r,out⟩ e H ⟨hi,hR,ho,hrl,k0,⟨d,k8,hH⟩,k48,k49⟩
 simp only at hi hR ho hrl k0 hH k49
 have hH2:(out = []∧d = .vsl true [] 0∧∃ t,H = [some t])∨(∃ n k,n = out.length * 39∧k = out.length∧out≠[]∧List.take n (encs out) = encs out∧k * 39 = n∧k≤64∧((∃ t u,d = .osl 2 n 0 k 39∧H = [some t,some u,some (encs out)])∨(∃ t u,d = .osl 0 n 0 k 39∧H = [some (encs out),some t,some u]))):=by
  rcases hH with h | ⟨hne,n,k,hn,hk,h⟩
  ·exact .inl h
  ·exact .inr ⟨n,k,hn,hk,hne,List.take_of_length_le (by simp;omega),by omega,by omega,h⟩
 clear hH
 by_cases hlt:i < many
 ·have hw:IntKind.u64.wrap ((i:Int)+1) = ((i+1:Nat):Int):=by rw [wrap_u64] <;> omega
  have hl4:=leget_ev (.of r) (0:Nat) (4:Nat) (by decide) (by simp;omega)
  rw [Sl.of_l,leGet_at 4 (.inr rfl) 0] at hl4
  rw [show many - i = (many - (i+1))+1 by omega,getGo] at hR
  have hk:=leN4 r
  by_cases hr4:r.length < 4
  ·rw [if_pos (.inl hr4)] at hR
   rw [if_neg (by omega)] at hl4
   unfold optN at hl4
   replace hl4:call cx 68 [.vsl false (ofBytes r) r.length,.int .i64 0,.int .i64 4] [] = some (.tup [.int .u64 0,.bool false],[]):=hl4
   subst hR
   rcases hH2 with ⟨rfl,rfl,tt,rfl⟩ | ⟨nn,kk,hnn,hkk,hne,htk,hkn,hk64,⟨tt,uu,rfl,rfl⟩ | ⟨tt,uu,rfl,rfl⟩⟩
   ·simp [k0,k8,k48,k49,hlt,hl4,trD,Sl.grown]
   all_goals
    have hlk:out.length = kk:=hkk.symm
    simp [k0,k8,k48,k49,hlt,hl4,trD,Sl.grown]
  rw [if_pos (by omega),List.drop_zero] at hl4
  unfold optN at hl4
  replace hl4:call cx 68 [.vsl false (ofBytes r) r.length,.int .i64 0,.int .i64 4] [] = some (.tup [.int .u64 (leN (r.take 4):Nat),.bool true],[]):=hl4
  obtain ⟨n,hn'⟩:∃ n,leN (r.take 4) = n:=⟨_,rfl⟩
  rw [hn'] at hl4 hR hk
  have hws:IntKind.i64.wrap ((r.length:Int) - 4) = (r.length:Int) - 4:=by rw [wrap_i64];omega
  have hwu:IntKind.u64.wrap ((r.length:Int) - 4) = (r.length:Int) - 4:=by rw [wrap_u64];omega
  by_cases hbig:r.length - 4 < n
  ·rw [if_pos (.inr hbig)] at hR
   have hbig':(r.length:Int) - 4 < (n:Int):=by omega
   subst hR
   rcases hH2 with ⟨rfl,rfl,tt,rfl⟩ | ⟨nn,kk,hnn,hkk,hne,htk,hkn,hk64,⟨tt,uu,rfl,rfl⟩ | ⟨tt,uu,rfl,rfl⟩⟩
   ·simp [k0,k8,k48,k49,hlt,hl4,hws,hwu,hbig',trD,Sl.grown]
   all_goals
    have hlk:out.length = kk:=hkk.symm
    simp [k0,k8,k48,k49,hlt,hl4,hws,hwu,hbig',trD,Sl.grown]
  rw [if_neg (by omega)] at hR
  have hbig':¬ (r.length:Int) - 4 < (n:Int):=by omega
  have hw4:IntKind.u64.wrap (4+(n:Int)) = ((4+n:Nat):Int):=by rw [wrap_u64] <;> omega
  have hwn:IntKind.i64.wrap (n:Int) = (n:Int):=by rw [wrap_i64];omega
  obtain ⟨t,ht⟩:∃ t,(r.drop 4).take n = t:=⟨_,rfl⟩
  have htl:t.length = n:=by rw [← ht,List.length_take,List.length_drop];omega
  rw [ht] at hR
  have hrd:=readS_ev (.of t) (by simp;omega)
  simp only [Sl.of_l,Sl.of_nil,htl] at hrd
  have htd:List.take n (List.drop 4 (ofBytes r)) = ofBytes t:=by rw [ofBytes_drop,ofBytes_take,ht]
  have q1:(0:Int)≤4+(n:Int):=by omega
  have q2:(4:Int)+(n:Int)≤(r.length:Int):=by omega
  have q3:(4:Int)≤4+(n:Int):=by omega
  have q4:((4:Int)+(n:Int)).toNat = 4+n:=by omega
  have q5:4+n - 4 = n:=by omega
  have q6:r.length - (4+n) = (r.drop (4+n)).length:=by rw [List.length_drop]
  have hdd:List.drop (4+n) (ofBytes r) = ofBytes (r.drop (4+n)):=ofBytes_drop _ _
  have hr2:(r.drop (4+n)).length < 1000000:=by rw [List.length_drop];omega
  generalize r.drop (4+n) = r2 at *
  by_cases hok:readOk t = true∧(textL (itemP t)).length = n
  ·rw [if_pos hok] at hR
   have e1:rdI t = itemP t:=by unfold rdI;rw [if_pos hok.1]
   have e2:rdN t = n:=by unfold rdN;rw [if_pos hok.1,hok.2]
   have e3:rdC t = 0:=by unfold rdC;rw [if_pos hok.1]
   rw [e1,e2,e3] at hrd
   have hu:IntKind.u64.wrap ((i:Int)+1) = ((i+1:Nat):Int):=hw
   generalize itemP t = y at *
   rcases hH2 with ⟨rfl,rfl,tt,rfl⟩ | ⟨nn,kk,hnn,hkk,hne,htk,hkn,hk64,⟨tt,uu,rfl,rfl⟩ | ⟨tt,uu,rfl,rfl⟩⟩
   ·simp [k0,k8,k48,k49,hlt,hl4,hws,hwu,hbig',hw4,hwn,htd,hdd,hrd,q1,q2,q3,q4,q5,q6,maxBytes]
    exact ⟨i+1,by omega,by omega,r2,[y],hR,by rw [← ho];rfl,hr2,⟨rfl,rfl⟩,.inr ⟨by simp,39,1,rfl,rfl,.inl ⟨_,_,rfl,by rw [encs_one]⟩⟩,hu⟩
   all_goals
    have hlk:out.length = kk:=hkk.symm
    have m1:(kk+1) * 104≤140737488355328:=by omega
    have m2:kk≤140737488355327:=by omega
    simp [hlk,hkn,k0,k8,k48,k49,hlt,hl4,hws,hwu,hbig',hw4,hwn,htd,hdd,hrd,q1,q2,q3,q4,q5,q6,maxBytes,m1,m2]
    exact ⟨i+1,by omega,by omega,r2,out ++ [y],hR,by simp [ho],hr2,⟨rfl,rfl⟩,.inr ⟨by simp,nn+39,kk+1,by simp;omega,by simp [hlk],.inr ⟨_,_,rfl,by rw [encs_snoc]⟩⟩,hu⟩
  ·rw [if_neg hok] at hR
   subst hR
   cases hro:readOk t with
   | false =>
    have e1:rdC t = 20:=by unfold rdC;rw [hro];rfl
    rw [e1] at hrd
    generalize rdI t = y at *
    generalize rdN t = z at *
    rcases hH2 with ⟨rfl,rfl,tt,rfl⟩ | ⟨nn,kk,hnn,hkk,hne,htk,hkn,hk64,⟨tt,uu,rfl,rfl⟩ | ⟨tt,uu,rfl,rfl⟩⟩
    ·simp [k0,k8,k48,k49,hlt,hl4,hws,hwu,hbig',hw4,htd,hrd,q1,q2,q3,q4,q5,trD,Sl.grown]
    all_goals
     have hlk:out.length = kk:=hkk.symm
     simp [k0,k8,k48,k49,hlt,hl4,hws,hwu,hbig',hw4,htd,hrd,q1,q2,q3,q4,q5,trD,Sl.grown]
   | true =>
    have e1:rdC t = 0:=by unfold rdC;rw [hro];rfl
    have e2:¬ (textL (itemP t)).length = n:=fun h=>hok ⟨hro,h⟩
    have e3:rdN t = (textL (itemP t)).length:=by unfold rdN;rw [hro];rfl
    rw [e1,e3] at hrd
    generalize rdI t = y at *
    generalize (textL (itemP t)).length = z at *
    have e2':¬ (z:Int) = (n:Int):=by omega
    rcases hH2 with ⟨rfl,rfl,tt,rfl⟩ | ⟨nn,kk,hnn,hkk,hne,htk,hkn,hk64,⟨tt,uu,rfl,rfl⟩ | ⟨tt,uu,rfl,rfl⟩⟩
    ·simp [k0,k8,k48,k49,hlt,hl4,hws,hwu,hbig',hw4,hwn,htd,hrd,q1,q2,q3,q4,q5,e2',trD,Sl.grown]
    all_goals
     have hlk:out.length = kk:=hkk.symm
     simp [k0,k8,k48,k49,hlt,hl4,hws,hwu,hbig',hw4,hwn,htd,hrd,q1,q2,q3,q4,q5,e2',trD,Sl.grown]
 ·have hk:many - i = 0:=by omega
  rw [hk,getGo] at hR
  have hm:=mread_ev (.of r) (by simp;omega)
  simp only [Sl.of_l,Sl.of_nil] at hm
  obtain ⟨q,hq⟩:∃ q,readM r = q:=⟨_,rfl⟩
  rw [hq] at hm hR
  by_cases h0:q.2 = 0
  ·rw [if_pos h0] at hR
   have hnn:0≤Go.Ev.readN q:=by unfold Go.Ev.readN;rw [if_pos h0];omega
   by_cases hle:Go.Ev.readN q < (r.length:Int)
   ·rw [if_pos hle] at hR
    subst hR
    rcases hH2 with ⟨rfl,rfl,tt,rfl⟩ | ⟨nn,kk,hnn,hkk,hne,htk,hkn,hk64,⟨tt,uu,rfl,rfl⟩ | ⟨tt,uu,rfl,rfl⟩⟩
    ·simp [k0,k8,k48,k49,hlt,hm,h0,hle,trD,Sl.grown]
    all_goals
     have hlk:out.length = kk:=hkk.symm
     simp [k0,k8,k48,k49,hlt,hm,h0,hle,trD,Sl.grown]
   ·rw [if_neg hle] at hR
    subst hR
    rcases hH2 with ⟨rfl,rfl,tt,rfl⟩ | ⟨nn,kk,hnn,hkk,hne,htk,hkn,hk64,⟨tt,uu,rfl,rfl⟩ | ⟨tt,uu,rfl,rfl⟩⟩
    ·simp [k0,k8,k48,k49,hlt,hm,h0,hle,trD,Sl.grown]
    all_goals
     have hlk:out.length = kk:=hkk.symm
     simp [hlk,htk,hkn,k0,k8,k48,k49,hlt,hm,h0,hle,trD,Sl.grown,hne]
  ·rw [if_neg h0] at hR
   subst hR
   rcases hH2 with ⟨rfl,rfl,tt,rfl⟩ | ⟨nn,kk,hnn,hkk,hne,htk,hkn,hk64,⟨tt,uu,rfl,rfl⟩ | ⟨tt,uu,rfl,rfl⟩⟩
   ·simp [k0,k8,k48,k49,hlt,hm,h0,trD,Sl.grown]
   all_goals
    have hlk:out.length = kk:=hkk.symm
    simp [k0,k8,k48,k49,hlt,hm,h0,trD,Sl.grown]
end Go.Ev.S
namespace Go.Ev.S
open Go Go.Proofs Go.Ev
theorem eqid_ev [MaxL] [TxtC] (m:Mk) (id:ID):call cx 174 [.agg (Enc.cells m),.vptr (ofBytes id.l)] [] = some (.bool (m.id == id),[]):=by
 refine call_run Tryz.func174 rfl ⟨rfl,rfl⟩ ?_
 simp [Tryz.f174,Mk.cells]

def find? {α:Type} (p:α→Bool):List α→Int→Int
 | [],_=>-1
 | m :: l,i=>if p m then i else find? p l (i+1)

theorem mindex_ev [MaxL] [TxtC] (s:Sl Mk) (hn:s.l.length < 4611686018427387904) (f:Nat) (caps:List D) (p:Mk→Bool) (hb:cx.byRef f = false) (hpm:cx.perm f = false) (hcaps:∀ x∈caps,idFree x = true)
  (hg:∀ m∈s.l,call cx f (.agg (Enc.cells m) :: caps) [] = some (.bool (p m),[])):call cx 173 [(.vsl s.nil (encs s.l) s.l.length),.fn f caps] [] = some (.int .i64 (find? p s.l 0),[]):=by
 have hcaps':=eq_true hcaps
 refine call_run Tryz.func173 rfl ⟨rfl,rfl⟩ ?_
 simp [Tryz.f173]
 refine Run.loopThen (fun (i:Nat) e H=>i≤s.l.length∧H = []∧look e 0 = some (.vsl s.nil (encs s.l) s.l.length)∧look e 1 = some (.fn f caps)∧look e 7 = some (.int .i64 s.l.length)∧look e 8 = some (.int .i64 i)∧find? p s.l 0 = find? p (s.l.drop i) i) (fun i=>s.l.length - i) 0 (by simp) ?_
 rintro i e H ⟨hi,rfl,h0,h1,h7,h8,hf⟩
 by_cases hlt:i < s.l.length
 ·have hlt':((i:Int) < (s.l.length:Int)):=by omega
  have hd:s.l.drop i = s.l[i] :: s.l.drop (i+1):=List.drop_eq_getElem_cons hlt
  have hc:=hg s.l[i] (List.getElem_mem hlt)
  have hw:IntKind.i64.wrap ((i:Int)+1) = ((i+1:Nat):Int):=by rw [wrap_i64] <;> omega
  rw [hd,find?] at hf
  cases hp:p s.l[i] with
  | true =>
   rw [hp,if_pos rfl] at hf
   simp [h0,h1,h7,h8,hlt',hlt,Sl.nn hlt,hc,hb,hpm,hp,hf,hcaps']
  | false =>
   rw [hp,if_neg (by decide)] at hf
   simp [h0,h1,h7,h8,hlt',hlt,Sl.nn hlt,hc,hb,hpm,hp,hf,hcaps',hw]
   exact ⟨i+1,by omega,by omega,rfl,rfl⟩
 ·have hlt':¬ ((i:Int) < (s.l.length:Int)):=by omega
  have hd:s.l.drop i = []:=List.drop_eq_nil_of_le (by omega)
  rw [hd] at hf
  simp [h0,h1,h7,h8,hlt',hf,find?]

theorem find_ev [MaxL] [TxtC] (s:Sl Mk) (hn:s.l.length < 4611686018427387904) (id:ID) :
  call cx 148 [(.vsl s.nil (encs s.l) s.l.length),.agg (ofBytes id.l)] [] = some (.int .i64 (find? (fun m=>m.id == id) s.l 0),[]):=by
 have h:=mindex_ev s hn 174 [.vptr (ofBytes id.l)] (fun m=>m.id == id) rfl rfl (by simp [idFree]) (fun m hm=>eqid_ev m id)
 refine call_run Tryz.func148 rfl ⟨rfl,rfl⟩ ?_
 simp [Tryz.f148,h]

theorem find?_spec {α:Type} (p:α→Bool):∀ (l:List α) (k:Int),(∃ (i:Nat) (m:α),l[i]? = some m∧i < l.length∧p m = true∧find? p l k = k+i∧l.find? p = some m)∨(find? p l k = -1∧l.find? p = none)
 | [],k=>.inr ⟨rfl,rfl⟩
 | m :: l,k=>by
  cases hp:p m with
  | true=>exact .inl ⟨0,m,rfl,by simp,hp,by simp [find?,hp],by simp [hp]⟩
  | false =>
   rcases find?_spec p l (k+1) with ⟨i,m',h1,h2,h3,h4,h5⟩ | ⟨h1,h2⟩
   ·exact .inl ⟨i+1,m',by simpa using h1,by simpa using h2,h3,by simp [find?,hp,h4];omega,by simp [hp,h5]⟩
   ·exact .inr ⟨by simp [find?,hp,h1],by simp [hp,h2]⟩

def getM (l:List Mk) (id:ID):Mk:=(l.find? fun m=>m.id == id).getD ⟨id,0,0,0⟩
theorem get_ev [MaxL] [TxtC] (s:Sl Mk) (hn:s.l.length < 4611686018427387904) (id:ID) :
  call cx 111 [(.vsl s.nil (encs s.l) s.l.length),.agg (ofBytes id.l)] [] = some (.agg (Enc.cells (getM s.l id)),[]):=by
 have h:=find_ev s hn id
 refine call_run Tryz.func111 rfl ⟨rfl,rfl⟩ ?_
 rcases find?_spec (fun m=>m.id == id) s.l 0 with ⟨i,m,h1,h2,h3,h4,h5⟩ | ⟨h1,h2⟩
 ·rw [h4,Sl.nn h2] at h
  have hg:s.l[i] = m:=by rw [List.getElem?_eq_getElem h2] at h1;exact Option.some.inj h1
  simp [Tryz.f111,h,h2,Sl.nn h2,hg,getM,h5]
 ·rw [h1] at h
  simp [Tryz.f111,h,getM,h2,Mk.cells,List.take_of_length_le]
theorem getM_id (l:List Mk) (id:ID):(getM l id).id = id:=by
 unfold getM
 cases h:l.find? (fun m=>m.id == id) with
 | none=>rfl
 | some m=>simpa using List.find?_some h
theorem getM_ok {l:List Mk} (hl:∀ m∈l,m.Ok) (id:ID):(getM l id).Ok:=by
 unfold getM
 cases h:l.find? (fun m=>m.id == id) with
 | none=>exact ⟨by simp [isU64],by simp [isU64],by simp [isU64]⟩
 | some m=>exact hl m (List.mem_of_find?_eq_some h)
end Go.Ev.S
namespace Go.Ev.S
open Go Go.Proofs Go.Ev
theorem cmpm_ev [MaxL] [TxtC] (x y:Mk):call cx 150 [.agg (Enc.cells x),.agg (Enc.cells y)] [] = some (.int .i64 (cmpB x.id.l y.id.l),[]):=by
 have h:=compare_id x.id y.id
 refine call_run Tryz.func150 rfl ⟨rfl,rfl⟩ ?_
 simp [Tryz.f150,Mk.cells,h]

def lenTab:Nat→Int
 | 0=>0 | 1=>1 | 2=>2 | 3=>2 | 4=>3 | 5=>3 | 6=>3 | 7=>3 | _=>4
theorem len_ev [MaxL] [TxtC] (n:Nat) (hn:n≤13):call cx 176 [.int .u64 n] [] = some (.int .i64 (lenTab n),[]):=by
 have h:n = 0∨n = 1∨n = 2∨n = 3∨n = 4∨n = 5∨n = 6∨n = 7∨n = 8∨n = 9∨n = 10∨n = 11∨n = 12∨n = 13:=by omega
 refine call_some.2 ⟨60,?_⟩
 rcases h with rfl | rfl | rfl | rfl | rfl | rfl | rfl | rfl | rfl | rfl | rfl | rfl | rfl | rfl <;> kernel_rfl

def swp (l:List Mk) (j:Nat):List Mk :=
 match l[j]?,l[j - 1]? with
 | some a,some b=>(l.set j b).set (j - 1) a
 | _,_=>l
def sink:Nat→List Mk→List Mk
 | 0,l=>l
 | j+1,l=>match l[j+1]?,l[j]? with
  | some a,some b=>if cmpB a.id.l b.id.l < 0 then sink j (swp l (j+1)) else l
  | _,_=>l
def insFrom:Nat→Nat→List Mk→List Mk
 | 0,_,l=>l
 | k+1,i,l=>insFrom k (i+1) (sink i l)
theorem swp_len (l:List Mk) (j:Nat):(swp l j).length = l.length:=by
 unfold swp
 split <;> simp
theorem sink_len:∀ (j:Nat) (l:List Mk),(sink j l).length = l.length
 | 0,l=>rfl
 | j+1,l=>by
  unfold sink
  split
  ·split
   ·rw [sink_len j,swp_len]
   ·rfl
  ·rfl
theorem insFrom_len:∀ (k i:Nat) (l:List Mk),(insFrom k i l).length = l.length
 | 0,_,_=>rfl
 | k+1,i,l=>by rw [insFrom,insFrom_len k,sink_len]

set_option maxHeartbeats 4000000 in
theorem isort_ev [MaxL] [TxtC] (n:Nat) (hn:n≤12) (H:Heap) (b:Nat) (hcl:H.all (blkClosed H.length) = true) (l:List Mk) (hln:l.length = n) (hg:hget H b = some (encs l)) :
  call cx 201 [.osl b (n * 19) 0 n 19,.int .i64 0,.int .i64 n,.fn 150 []] H = some (.tup [],H.set b (some (encs (insFrom (n - 1) 1 l)))):=by
 have hb:b < H.length:=by
  rcases Nat.lt_or_ge b H.length with h | h
  ·exact h
  ·rw [hget,List.getElem?_eq_none h] at hg;cases hg
 have hset:H.set b (some (encs l)) = H:=by
  rw [hget,List.getElem?_eq_getElem hb] at hg
  simp only [Option.getD_some] at hg
  rw [← hg,List.set_getElem_self]
 refine call_run Tryz.func201 rfl ⟨rfl,rfl⟩ ?_
 simp [Tryz.f201]
 refine Run.loopThen (fun (s:Nat × List Mk) e H'=>1≤s.1∧s.2.length = n∧H' = H.set b (some (encs s.2))∧insFrom (n - s.1) s.1 s.2 = insFrom (n - 1) 1 l∧look e 0 = some (.osl b (n * 19) 0 n 19)∧look e 1 = some (.int .i64 0)∧look e 2 = some (.int .i64 n)∧look e 3 = some (.fn 150 [])∧look e 8 = some (.int .i64 s.1)) (fun s=>n - s.1) (1,l) (by simp [hln,hset]) ?_
 rintro ⟨i,l'⟩ e H' ⟨hi,hln',rfl,hs,h0,h1,h2,h3,h8⟩
 simp only at hi hln' hs h8
 by_cases hin:i < n
 ·have hin':(i:Int) < (n:Int):=by omega
  have hw:IntKind.i64.wrap ((i:Int)+1) = ((i+1:Nat):Int):=by rw [wrap_i64] <;> omega
  have hsn:insFrom (n - i) i l' = insFrom (n - (i+1)) (i+1) (sink i l'):=by
   have:n - i = (n - (i+1))+1:=by omega
   rw [this,insFrom]
  rw [hsn] at hs
  simp [h0,h1,h2,h3,h8,hin']
  clear h0 h1 h2 h3 h8 e
  refine Run.loopThen (fun (s:Nat × List Mk) e H'=>s.1≤i∧s.2.length = n∧H' = H.set b (some (encs s.2))∧sink s.1 s.2 = sink i l'∧look e 0 = some (.osl b (n * 19) 0 n 19)∧look e 1 = some (.int .i64 0)∧look e 2 = some (.int .i64 n)∧look e 3 = some (.fn 150 [])∧look e 8 = some (.int .i64 i)∧look e 9 = some (.int .i64 s.1)) (fun s=>s.1) (i,l') (by simp [hln']) ?_
  rintro ⟨j,l''⟩ e H' ⟨hj,hln'',rfl,hs2,h0,h1,h2,h3,h8,h9⟩
  simp only at hj hln'' hs2 h9
  have hlen:(encs l'').length = n * 19:=by rw [Mk.el,hln'']
  have hg:((H.set b (some (encs l'')))[b]?).getD none = some (encs l''):=by rw [List.getElem?_set_self hb];rfl
  cases j with
  | zero =>
   rw [sink] at hs2
   subst hs2
   simp [h0,h1,h2,h3,h8,h9,hw]
   exact ⟨i+1,by omega,by omega,_,by rw [sink_len,hln'],rfl,hs,rfl⟩
  | succ k =>
   obtain ⟨j,hjk⟩:∃ j,j = k+1:=⟨_,rfl⟩
   rw [← hjk] at hj h9 hs2
   have hj0:0 < j:=by omega
   have hjn:(j:Int) < (n:Int):=by omega
   have hkn:(k:Int) < (n:Int):=by omega
   have hwk:IntKind.i64.wrap ((j:Int) - 1) = (k:Int):=by rw [wrap_i64] <;> omega
   have hjl:j < l''.length:=by omega
   have hkl:k < l''.length:=by omega
   have hc:=cmpm_ev l''[j] l''[k]
   have hsk:sink j l'' = if cmpB l''[j].id.l l''[k].id.l < 0 then sink k (swp l'' j) else l'':=by
    subst hjk
    rw [sink,List.getElem?_eq_getElem hjl,List.getElem?_eq_getElem hkl]
   have hsw:swp l'' j = (l''.set j l''[k]).set k l''[j]:=by
    have:j - 1 = k:=by omega
    rw [swp,this,List.getElem?_eq_getElem hjl,List.getElem?_eq_getElem hkl]
   by_cases hlt:cmpB l''[j].id.l l''[k].id.l < 0
   ·rw [hsk,if_pos hlt,hsw] at hs2
    have h19:j * 19+19≤n * 19:=by omega
    have h19':k * 19+19≤n * 19:=by omega
    have hkl2:k < (l''.set j l''[k]).length:=by simpa using hkl
    have hlen2:(encs (l''.set j l''[k])).length = n * 19:=by rw [Mk.el,List.length_set,hln'']
    simp [h0,h1,h2,h3,h8,h9,hj0,hjn,hkn,hwk,hlen,hjl,hkl,hc,hlt,h19,h19',hb,hlen2]
    exact ⟨k,by omega,by omega,_,by simp [hln''],rfl,hs2,rfl⟩
   ·rw [hsk,if_neg hlt] at hs2
    subst hs2
    simp [h0,h1,h2,h3,h8,h9,hj0,hjn,hkn,hwk,hg,hlen,hjl,hkl,hc,hlt,hw]
    exact ⟨i+1,by omega,by omega,_,by rw [sink_len,hln'],rfl,hs,rfl⟩
 ·have hin':¬ (i:Int) < (n:Int):=by omega
  have h0n:n - i = 0:=by omega
  rw [h0n,insFrom] at hs
  subst hs
  simp [h0,h1,h2,h3,h8,hin']
  refine orP_if ⟨fun x hx=>?_,List.take_of_length_le (by simp)⟩
  have hx':=List.mem_of_mem_take hx
  rcases List.mem_or_eq_of_mem_set hx' with h | rfl
  ·exact List.all_eq_true.1 hcl x h
  ·exact encs_closed _ _
end Go.Ev.S
namespace Go.Ev.S
open Go Go.Proofs Go.Ev
theorem closed_set {H:Heap} {b:Nat} {ds:List D} (hcl:H.all (blkClosed H.length) = true) (hd:ds.all (closed H.length) = true) {x:Option (List D)} {n:Nat} (hx:x∈(H.set b (some ds)).take n):blkClosed H.length x = true:=by
 have hx':=List.mem_of_mem_take hx
 rcases List.mem_or_eq_of_mem_set hx' with h | rfl
 ·exact List.all_eq_true.1 hcl x h
 ·exact hd
theorem pdq_ev [MaxL] [TxtC] (n:Nat) (hn:n≤12) (k:Int) (H:Heap) (b:Nat) (hcl:H.all (blkClosed H.length) = true) (l:List Mk) (hln:l.length = n) (hg:hget H b = some (encs l)) :
  call cx 175 [.osl b (n * 19) 0 n 19,.int .i64 0,.int .i64 n,.int .i64 k,.fn 150 []] H = some (.tup [],H.set b (some (encs (insFrom (n - 1) 1 l)))):=by
 have h:=isort_ev n hn H b hcl l hln hg
 have hw:IntKind.i64.wrap (n:Int) = (n:Int):=by rw [wrap_i64];omega
 have hn':(n:Int)≤12:=by omega
 refine call_run Tryz.func175 rfl ⟨rfl,rfl⟩ ?_
 simp [Tryz.f175]
 refine run_loop1 ?_
 simp [hw,hn',h]
 exact orP_if ⟨fun x hx=>closed_set hcl (encs_closed _ _) hx,List.take_of_length_le (by simp)⟩

theorem sort_ev [MaxL] [TxtC] (n:Nat) (hn:n≤12) (H:Heap) (b:Nat) (hcl:H.all (blkClosed H.length) = true) (l:List Mk) (hln:l.length = n) (hg:hget H b = some (encs l)) :
  call cx 149 [.osl b (n * 19) 0 n 19,.fn 150 []] H = some (.tup [],H.set b (some (encs (insFrom (n - 1) 1 l)))):=by
 have h:=pdq_ev n hn (lenTab n) H b hcl l hln hg
 have hlen:=len_ev n (by omega)
 have hw:IntKind.u64.wrap (n:Int) = (n:Int):=by rw [wrap_u64];omega
 refine call_run Tryz.func149 rfl ⟨rfl,rfl⟩ ?_
 simp [Tryz.f149,h,hlen,hw]
 exact orP_if ⟨fun x hx=>closed_set hcl (encs_closed _ _) hx,List.take_of_length_le (by simp)⟩

theorem mclone_ev [MaxL] [TxtC] (s:Sl Mk) (hn:s.l.length≤3000000000) :
  call cx 44 [(.vsl s.nil (encs s.l) s.l.length)] [] = if s.nil then some (.vsl true [] 0,[]) else some (.osl 0 (s.l.length * 19) 0 s.l.length 19,[some (encs s.l)]):=by
 have h40:s.l.length * 40≤140737488355328:=by omega
 have hmx:s.l.length≤140737488355328:=by omega
 obtain ⟨nil,l,hnil⟩:=s
 simp only at hn h40 hmx ⊢
 cases nil with
 | true =>
  have hl0:=hnil rfl
  subst hl0
  rw [if_pos rfl]
  refine call_run Tryz.func44 rfl ⟨rfl,rfl⟩ ?_
  simp [Tryz.f44]
 | false =>
  rw [if_neg (by decide)]
  refine call_run Tryz.func44 rfl ⟨rfl,rfl⟩ ?_
  simp [Tryz.f44,h40,hmx,maxBytes]

def putM (l:List Mk) (m:Mk):List Mk :=
 if find? (fun x=>x.id == m.id) l 0 < 0 then insFrom l.length 1 (l ++ [m]) else l.set (find? (fun x=>x.id == m.id) l 0).toNat m

theorem mput_ev [MaxL] [TxtC] (s:Sl Mk) (hn:s.l.length≤11) (m:Mk) :
  call cx 113 [(.vsl s.nil (encs s.l) s.l.length),.agg (Enc.cells m)] [] = some (.vsl false (encs (putM s.l m)) (putM s.l m).length,[]):=by
 have hc:=mclone_ev s (by omega)
 have hf:=find_ev s (by omega) m.id
 have htk:(Enc.cells m).take 16 = ofBytes m.id.l:=by simp [Mk.cells]
 have htl:(encs s.l).take (s.l.length * 19) = encs s.l:=List.take_of_length_le (by simp)
 by_cases hnil:s.nil = true
 ·have hl0:=s.h hnil
  rw [hnil,hl0] at hc hf
  have hs:=sort_ev 1 (by decide) [some (Enc.cells m),some (Enc.cells m),some (Enc.cells m)] 2 (by simp [blkClosed]) [m] rfl (by simp [hget,encs_one])
  simp at hc hf hs
  have hp:putM s.l m = [m]:=by rw [hl0];rfl
  refine call_run Tryz.func113 rfl ⟨rfl,rfl⟩ ?_
  simp [Tryz.f113,hnil,hl0,hc,hf,htk,maxBytes,find?,hs,insFrom,encs_one]
  rw [← hl0,hp]
  simp [encs_one]
 ·have hnf:s.nil = false:=by simpa using hnil
  rw [hnf] at hc hf
  rw [if_neg (by decide)] at hc
  rcases find?_spec (fun x=>x.id == m.id) s.l 0 with ⟨i,m',h1,h2,h3,h4,h5⟩ | ⟨h1,h2⟩
  ·rw [h4] at hf
   have hp:putM s.l m = s.l.set i m:=by
    unfold putM
    rw [h4,if_neg (by omega)]
    congr 1
    omega
   have h19:i * 19+19≤s.l.length * 19:=by omega
   refine call_run Tryz.func113 rfl ⟨rfl,rfl⟩ ?_
   simp [Tryz.f113,hnf,hc,hf,htk,htl,h2,h19,hp,List.take_of_length_le]
  ·rw [h1] at hf
   have hp:putM s.l m = insFrom s.l.length 1 (s.l ++ [m]):=by
    unfold putM
    rw [h1,if_pos (by decide)]
   have hs:=sort_ev (s.l.length+1) (by omega) [some (Enc.cells m),some (encs s.l ++ Enc.cells m),some (Enc.cells m)] 1 (by simp [blkClosed]) (s.l ++ [m]) (by simp) (by simp [hget,encs_snoc])
   have hsz:s.l.length * 19+19 = (s.l.length+1) * 19:=by omega
   have h40:(s.l.length+1) * 40≤140737488355328:=by omega
   have hmx:s.l.length+1≤140737488355328:=by omega
   have hil:(insFrom s.l.length 1 (s.l ++ [m])).length = s.l.length+1:=by rw [insFrom_len];simp
   simp at hs
   refine call_run Tryz.func113 rfl ⟨rfl,rfl⟩ ?_
   simp [Tryz.f113,hnf,hc,hf,htk,htl,maxBytes,h40,hmx,hsz,hs,hp,hil,List.take_of_length_le]

def u64max:Int:=18446744073709551615
def moreM (v n:Int):Int:=if IntKind.u64.wrap (u64max - v) < n then u64max else IntKind.u64.wrap (v+n)
theorem mmore_ev [MaxL] [TxtC] (v n:Int):call cx 112 [.int .u64 v,.int .u64 n] [] = some (.int .u64 (moreM v n),[]):=by
 refine call_run Tryz.func112 rfl ⟨rfl,rfl⟩ ?_
 by_cases h:IntKind.u64.wrap (18446744073709551615 - v) < n
 ·simp [Tryz.f112,h,moreM,u64max]
 ·simp [Tryz.f112,h,moreM,u64max]
theorem moreM_eq {v n:Int} (hv:isU64 v) (hn:isU64 n):moreM v n = if u64max - v < n then u64max else v+n:=by
 unfold isU64 at hv hn
 have e:IntKind.u64.wrap (u64max - v) = u64max - v:=by rw [wrap_u64];unfold u64max;omega
 unfold moreM
 rw [e]
 split
 ·rfl
 ·rw [wrap_u64]
  unfold u64max at *
  omega

end Go.Ev.S
namespace Go.Ev.S
open Go Go.Proofs Go.Ev
def mayM (l:List Mk) (id:ID):Int :=
 if rightM l = false then 1 else if l.length = 4∧find? (fun m=>m.id == id) l 0 < 0 then 15 else 0
theorem may_ev [MaxL] [TxtC] (s:Sl Mk) (hn:s.l.length < 4611686018427387904) (id:ID) :
  call cx 110 [(.vsl s.nil (encs s.l) s.l.length),.agg (ofBytes id.l)] [] = some (.int .i64 (mayM s.l id),[]):=by
 have hr:=right_ev s hn
 have hf:=find_ev s hn id
 refine call_run Tryz.func110 rfl ⟨rfl,rfl⟩ ?_
 cases h:rightM s.l with
 | false =>
  rw [h] at hr
  simp [Tryz.f110,hr,mayM,h]
 | true =>
  rw [h] at hr
  by_cases h4:s.l.length = 4
  ·rw [h4] at hf hr
   by_cases hlt:find? (fun m=>m.id == id) s.l 0 < 0
   ·simp [Tryz.f110,hr,mayM,h,h4,hf,hlt]
   ·simp [Tryz.f110,hr,mayM,h,h4,hf,hlt]
  ·have h4':¬ ((s.l.length:Int) = 4):=by omega
   simp [Tryz.f110,hr,mayM,h,h4,h4']
theorem mayM_le {l:List Mk} {id:ID} (h:mayM l id = 0):l.length≤4:=by
 unfold mayM at h
 split at h
 ·cases h
 ·rename_i hr
  rw [Bool.not_eq_false,rightM,Bool.and_eq_true] at hr
  exact of_decide_eq_true hr.1

def resM (c:Int) (l:List Mk):D:=if c = 0 then .vsl false (encs l) l.length else .vsl true [] 0
def stepM (m:Mk) (it:It) (over:Bool):Mk :=
 if it.gap then { m with seq:=it.til,lost:=moreM m.lost (IntKind.u64.wrap (IntKind.u64.wrap (it.til - it.fr)+1)) }
 else { m with seq:=it.rc.seq,over:=if over then moreM m.over 1 else m.over }
def goesM (m:Mk) (it:It):Bool :=
 if it.gap then !(decide (it.fr≤m.seq) || decide (it.til < it.fr)) else !decide (it.rc.seq≤m.seq)
def takeC (l:List Mk) (it:It):Int:=if mayM l it.id≠0 then mayM l it.id else if goesM (getM l it.id) it then 0 else 13
def takeL (l:List Mk) (it:It) (over:Bool):List Mk:=putM l (stepM (getM l it.id) it over)
set_option maxRecDepth 4000 in
set_option maxHeartbeats 1000000 in
theorem take_ev [MaxL] [TxtC] (s:Sl Mk) (hn:s.l.length < 4611686018427387904) (it:It) (over:Bool) :
  call cx 72 [(.vsl s.nil (encs s.l) s.l.length),.agg (Enc.cells it),.bool over] [] = some (.tup [resM (takeC s.l it) (takeL s.l it over),.int .i64 (takeC s.l it)],[]):=by
 have hm:=may_ev s hn it.id
 have hge:=get_ev s hn it.id
 have hgid:=getM_id s.l it.id
 refine call_run Tryz.func72 rfl ⟨rfl,rfl⟩ ?_
 by_cases hc:mayM s.l it.id = 0
 ·rw [hc] at hm
  have hp:=mput_ev s (by have:=mayM_le hc;omega) (stepM (getM s.l it.id) it over)
  unfold takeC takeL
  rw [if_neg (by simpa using hc)]
  generalize getM s.l it.id = g at *
  generalize putM s.l (stepM g it over) = pm at *
  cases hgap:it.gap with
  | true =>
   by_cases h1:it.fr≤g.seq
   ·simp [Tryz.f72,It.cells,hm,List.drop_append,drop_bytes,hge,hgid,hgap,Mk.cells,h1,goesM,resM]
   ·by_cases h2:it.til < it.fr
    ·simp [Tryz.f72,It.cells,hm,List.drop_append,drop_bytes,hge,hgid,hgap,Mk.cells,h1,h2,goesM,resM]
    ·have hmo:=mmore_ev g.lost (IntKind.u64.wrap (IntKind.u64.wrap (it.til - it.fr)+1))
     simp only [stepM,hgap,if_true,Mk.cells,hgid] at hp
     simp [Tryz.f72,It.cells,hm,List.take_append,List.drop_append,drop_bytes,hge,hgid,hgap,Mk.cells,h1,h2,goesM,resM,hmo]
     simp [hp]
  | false =>
   by_cases h1:it.rc.seq≤g.seq
   ·simp [Tryz.f72,It.cells,hm,List.drop_append,drop_bytes,hge,hgid,hgap,Mk.cells,h1,goesM,resM]
   ·have hmo:=mmore_ev g.over 1
    simp only [stepM,hgap,Mk.cells,hgid] at hp
    cases over with
    | false =>
     simp at hp
     simp [Tryz.f72,It.cells,hm,List.take_append,List.drop_append,drop_bytes,hge,hgid,hgap,Mk.cells,h1,goesM,resM,hp]
    | true =>
     simp at hp
     simp [Tryz.f72,It.cells,hm,List.take_append,List.drop_append,drop_bytes,hge,hgid,hgap,Mk.cells,h1,goesM,resM,hp,hmo]
 ·have e:takeC s.l it = mayM s.l it.id:=by unfold takeC;rw [if_pos hc]
  simp [Tryz.f72,It.cells,hm,hc,List.drop_append,resM,e]
end Go.Ev.S
namespace Go.Ev.S
open Go Go.Proofs Go.Ev
theorem putM_len (l:List Mk) (m:Mk):(putM l m).length≤l.length+1:=by
 unfold putM
 split
 ·rw [insFrom_len];simp
 ·rw [List.length_set];omega
def resS {α:Type} (c:Int) (s:Sl α):Sl α:=if c = 0 then s else .none
end Go.Ev.S
namespace Go.Ev.S
open Go Go.Proofs Go.Ev
def sameFrom:List Mk→List Mk→Bool
 | a :: x,b :: y=>a == b && sameFrom x y
 | [],[]=>true
 | _,_=>false
theorem sameFrom_eq:∀ (x y:List Mk),sameFrom x y = (x == y)
 | [],[]=>rfl
 | [],_ :: _=>rfl
 | _ :: _,[]=>rfl
 | a :: x,b :: y=>by rw [sameFrom,sameFrom_eq x y,List.cons_beq_cons]
theorem order_ev [MaxL] [TxtC] (a b:Int):call cx 82 [.int .u64 a,.int .u64 b] [] = some (.int .i64 (if a < b then -1 else if b < a then 1 else 0),[]):=by
 refine call_run Tryz.func82 rfl ⟨rfl,rfl⟩ ?_
 by_cases h1:a < b
 ·simp [Tryz.f82,h1]
 ·by_cases h2:b < a
  ·simp [Tryz.f82,h1,h2]
  ·simp [Tryz.f82,h1,h2]
theorem cmpB_step:∀ {x y:List UInt8} {i:Nat} (hx:i < x.length) (hy:i < y.length),cmpB (x.drop i) (y.drop i) = if x[i] = y[i] then cmpB (x.drop (i+1)) (y.drop (i+1)) else if x[i] < y[i] then -1 else 1:=by
 intro x y i hx hy
 rw [List.drop_eq_getElem_cons hx,List.drop_eq_getElem_cons hy,cmpB]
set_option maxHeartbeats 1000000 in
theorem ids_ev [MaxL] [TxtC] (x y:ID):call cx 47 [.agg (ofBytes x.l),.agg (ofBytes y.l)] [] = some (.int .i64 (cmpB x.l y.l),[]):=by
 refine call_run Tryz.func47 rfl ⟨rfl,rfl⟩ ?_
 simp [Tryz.f47]
 refine Run.loopThen (fun (i:Nat) e H=>i≤16∧H = [some (ofBytes x.l),some (ofBytes y.l)]∧look e 2 = some (.optr 0 16 0)∧look e 3 = some (.optr 1 16 0)∧look e 5 = some (.int .i64 i)∧cmpB x.l y.l = cmpB (x.l.drop i) (y.l.drop i)) (fun i=>16 - i) 0 (by simp) ?_
 rintro i e H ⟨hi,rfl,h2,h3,h5,hr⟩
 by_cases hlt:i < 16
 ·have hlt':(i:Int) < 16:=by omega
  have hx:i < x.l.length:=by simp;omega
  have hy:i < y.l.length:=by simp;omega
  have hw:IntKind.i64.wrap ((i:Int)+1) = ((i+1:Nat):Int):=by rw [wrap_i64] <;> omega
  have hwx:IntKind.u64.wrap (x.l[i].toNat:Int) = (x.l[i].toNat:Int):=by rw [wrap_u64];have:=x.l[i].toNat_lt;omega
  have hwy:IntKind.u64.wrap (y.l[i].toNat:Int) = (y.l[i].toNat:Int):=by rw [wrap_u64];have:=y.l[i].toNat_lt;omega
  have ho:=order_ev (x.l[i].toNat:Int) (y.l[i].toNat:Int)
  rw [cmpB_step hx hy] at hr
  by_cases he:x.l[i] = y.l[i]
  ·rw [if_pos he] at hr
   simp [h2,h3,h5,hlt',ofBytes_at hx,ofBytes_at hy,he,hw]
   exact ⟨i+1,by omega,by omega,rfl,hr⟩
  ·have hne:¬ ((x.l[i].toNat:Int) = (y.l[i].toNat:Int)):=by
    intro h
    exact he (UInt8.toNat_inj.1 (by omega))
   have hne':¬ (x.l[i].toNat = y.l[i].toNat):=fun h=>he (UInt8.toNat_inj.1 h)
   rw [if_neg he] at hr
   have ho':(if (x.l[i].toNat:Int) < (y.l[i].toNat:Int) then (-1:Int) else if (y.l[i].toNat:Int) < (x.l[i].toNat:Int) then 1 else 0) = cmpB x.l y.l:=by
    rw [hr]
    by_cases hl:x.l[i] < y.l[i]
    ·have:x.l[i].toNat < y.l[i].toNat:=hl
     rw [if_pos hl,if_pos (by omega)]
    ·have:¬ x.l[i].toNat < y.l[i].toNat:=hl
     rw [if_neg hl,if_neg (by omega),if_pos (by omega)]
   rw [ho'] at ho
   simp [h2,h3,h5,hlt',ofBytes_at hx,ofBytes_at hy,hne,hwx,hwy,ho]
 ·have hlt':¬ (i:Int) < 16:=by omega
  have h16:i = 16:=by omega
  subst h16
  have e1:x.l.drop 16 = []:=List.drop_eq_nil_of_le (by simp)
  have e2:y.l.drop 16 = []:=List.drop_eq_nil_of_le (by simp)
  rw [e1,e2,cmpB] at hr
  simp [h2,h3,h5,hr]

set_option maxHeartbeats 1000000 in
theorem rmright_ev [MaxL] [TxtC] (s:Sl Mk) (hn:s.l.length < 4611686018427387904) :
  call cx 20 [(.vsl s.nil (encs s.l) s.l.length)] [] = some (.bool (rightM s.l),[]):=by
 refine call_run Tryz.func20 rfl ⟨rfl,rfl⟩ ?_
 simp [Tryz.f20]
 refine Run.loopThen (fun (i:Nat) e H=>1≤i∧(i≤s.l.length∨i = 1)∧H = []∧look e 0 = some (.vsl s.nil (encs s.l) s.l.length)∧look e 3 = some (.int .i64 i)∧risesM s.l = risesM (s.l.drop (i - 1))) (fun i=>s.l.length - i) 1 (by simp) ?_
 rintro i e H ⟨hi,hil,rfl,h0,h3,hr⟩
 by_cases hlt:i < s.l.length
 ·obtain ⟨k,hk⟩:∃ k,k+1 = i:=⟨i - 1,by omega⟩
  have hlt':(i:Int) < (s.l.length:Int):=by omega
  have hkl:k < s.l.length:=by omega
  have hkl':(k:Int) < (s.l.length:Int):=by omega
  have hw:IntKind.i64.wrap ((i:Int) - 1) = (k:Int):=by rw [wrap_i64] <;> omega
  have hw2:IntKind.i64.wrap ((i:Int)+1) = ((i+1:Nat):Int):=by rw [wrap_i64] <;> omega
  have hc:=ids_ev s.l[k].id s.l[i].id
  have hr2:risesM s.l = (decide (cmpB s.l[k].id.l s.l[i].id.l < 0) && risesM (s.l.drop i)):=by
   have e1:i - 1 = k:=by omega
   have e2:s.l.drop k = s.l[k] :: s.l[i] :: s.l.drop (i+1):=by
    rw [List.drop_eq_getElem_cons hkl]
    congr 1
    rw [hk,List.drop_eq_getElem_cons hlt]
   rw [hr,e1,e2,risesM,List.drop_eq_getElem_cons hlt]
  have h16:∀ k,(16≤19+k) = True:=fun k=>eq_true (by omega)
  by_cases hcm:cmpB s.l[k].id.l s.l[i].id.l < 0
  ·have hcm':¬ 0≤cmpB s.l[k].id.l s.l[i].id.l:=by omega
   rw [decide_eq_true hcm,Bool.true_and] at hr2
   simp [h0,h3,hlt',hw,hkl',Sl.nn hlt,h16,hlt,hkl,hc,hcm',hw2]
   exact ⟨i+1,by omega,by omega,.inl (by omega),rfl,by simpa using hr2⟩
  ·have hcm':0≤cmpB s.l[k].id.l s.l[i].id.l:=by omega
   rw [decide_eq_false hcm,Bool.false_and] at hr2
   simp [h0,h3,hlt',hw,hkl',Sl.nn hlt,h16,hlt,hkl,hc,hcm',hr2,rightM]
 ·have hlt':¬ (i:Int) < (s.l.length:Int):=by omega
  have hr2:risesM s.l = true:=by
   rw [hr]
   have:(s.l.drop (i - 1)).length≤1:=by rw [List.length_drop];omega
   match s.l.drop (i - 1),this with
   | [],_=>rfl
   | [a],_=>rfl
  by_cases h4:s.l.length≤4
  ·have h4':(s.l.length:Int)≤4:=by omega
   simp [h0,h3,hlt',hr2,h4,h4',rightM]
  ·have h4':¬ (s.l.length:Int)≤4:=by omega
   simp [h0,h3,hlt',hr2,h4,h4',rightM]
set_option maxHeartbeats 1000000 in
theorem rmsame_ev [MaxL] [TxtC] (a b:Sl Mk) (ha:a.l.length < 4611686018427387904) :
  call cx 25 [(.vsl a.nil (encs a.l) a.l.length),(.vsl b.nil (encs b.l) b.l.length)] [] = some (.bool (a.l == b.l),[]):=by
 refine call_run Tryz.func25 rfl ⟨rfl,rfl⟩ ?_
 by_cases hl:a.l.length = b.l.length
 ·simp [Tryz.f25,hl]
  refine Run.loopThen (fun (i:Nat) e H=>i≤b.l.length∧H = []∧look e 0 = some (.vsl a.nil (encs a.l) a.l.length)∧look e 1 = some (.vsl b.nil (encs b.l) b.l.length)∧look e 5 = some (.int .i64 i)∧sameFrom a.l b.l = sameFrom (a.l.drop i) (b.l.drop i)) (fun i=>b.l.length - i) 0 (by simp [hl]) ?_
  rintro i e H ⟨hi,rfl,h0,h1,h5,hr⟩
  rw [sameFrom_eq a.l b.l] at hr
  by_cases hlt:i < b.l.length
  ·have hlt':(i:Int) < (b.l.length:Int):=by omega
   have hla:i < a.l.length:=by omega
   have hw:IntKind.i64.wrap ((i:Int)+1) = ((i+1:Nat):Int):=by rw [wrap_i64] <;> omega
   rw [List.drop_eq_getElem_cons hlt,List.drop_eq_getElem_cons hla,sameFrom] at hr
   have hc:=cellsEqMk a.l[i] b.l[i]
   cases he:a.l[i] == b.l[i] with
   | true =>
    rw [he] at hr hc
    rw [Bool.true_and] at hr
    simp [h0,h1,h5,hl,hlt',hlt,Sl.nn hlt,Sl.nn hla,hc,hw]
    exact ⟨i+1,by omega,by omega,rfl,by rw [sameFrom_eq a.l b.l];exact hr⟩
   | false =>
    rw [he] at hr hc
    rw [Bool.false_and] at hr
    simp [h0,h1,h5,hl,hlt',hlt,Sl.nn hlt,Sl.nn hla,hc,hr]
  ·have hlt':¬ (i:Int) < (b.l.length:Int):=by omega
   have h1d:a.l.drop i = []:=List.drop_eq_nil_of_le (by omega)
   have h2d:b.l.drop i = []:=List.drop_eq_nil_of_le (by omega)
   rw [h1d,h2d,sameFrom] at hr
   simp [h0,h1,h5,hl,hlt',hr]
 ·have hl':¬ ((a.l.length:Int) = (b.l.length:Int)):=by omega
  have he:(a.l == b.l) = false:=by
   rw [beq_eq_false_iff_ne]
   intro h
   exact hl (by rw [h])
  simp [Tryz.f25,hl',he]
end Go.Ev.S
namespace Go.Ev.S
open Go Go.Proofs Go.Ev
def leM (a b:List Mk):Bool:=a.all fun m=>decide (m.seq≤(getM b m.id).seq)
theorem all_step {α:Type} (p:α→Bool) {l:List α} {i:Nat} (h:i < l.length):(l.drop i).all p = (p l[i] && (l.drop (i+1)).all p):=by
 rw [List.drop_eq_getElem_cons h,List.all_cons]
set_option maxHeartbeats 1000000 in
theorem le_ev [MaxL] [TxtC] (a b:Sl Mk) (ha:a.l.length < 4611686018427387904) (hb:b.l.length < 4611686018427387904) :
  call cx 73 [(.vsl a.nil (encs a.l) a.l.length),(.vsl b.nil (encs b.l) b.l.length)] [] = some (.bool (leM a.l b.l),[]):=by
 refine call_run Tryz.func73 rfl ⟨rfl,rfl⟩ ?_
 simp [Tryz.f73]
 refine Run.loopThen (fun (i:Nat) e H=>i≤a.l.length∧H = []∧look e 1 = some (.vsl b.nil (encs b.l) b.l.length)∧look e 7 = some (.vsl a.nil (encs a.l) a.l.length)∧look e 8 = some (.int .i64 a.l.length)∧look e 9 = some (.int .i64 i)∧leM a.l b.l = leM (a.l.drop i) b.l) (fun i=>a.l.length - i) 0 (by simp) ?_
 rintro i e H ⟨hi,rfl,h1,h7,h8,h9,hr⟩
 by_cases hlt:i < a.l.length
 ·have hlt':(i:Int) < (a.l.length:Int):=by omega
  have hw:IntKind.i64.wrap ((i:Int)+1) = ((i+1:Nat):Int):=by rw [wrap_i64] <;> omega
  have hg:=get_ev b hb a.l[i].id
  unfold leM at hr ⊢
  rw [all_step _ hlt] at hr
  by_cases hs:(getM b.l a.l[i].id).seq < a.l[i].seq
  ·have hs':¬ a.l[i].seq≤(getM b.l a.l[i].id).seq:=by omega
   simp only [hs',decide_false,Bool.false_and] at hr
   simp [h1,h7,h8,h9,hlt',hlt,Sl.nn hlt,hg,hs,hr]
  ·have hs':a.l[i].seq≤(getM b.l a.l[i].id).seq:=by omega
   simp only [hs',decide_true,Bool.true_and] at hr
   simp [h1,h7,h8,h9,hlt',hlt,Sl.nn hlt,hg,hs,hw]
   exact ⟨i+1,by omega,by omega,rfl,hr⟩
 ·have hlt':¬ (i:Int) < (a.l.length:Int):=by omega
  have hd:a.l.drop i = []:=List.drop_eq_nil_of_le (by omega)
  rw [hd] at hr
  have he:leM [] b.l = true:=rfl
  rw [he] at hr
  simp [h1,h7,h8,h9,hlt',hr]

end Go.Ev.S
namespace Go.Ev
open Go Go.Proofs
structure I6 where
 v:Int
instance:Enc I6:=⟨1,fun x=>[.int .i64 x.v],fun _=>rfl,fun _=>rfl⟩
theorem I6.cells (x:I6):Enc.cells x = [.int .i64 x.v]:=rfl
@[simp] theorem I6.size:Enc.size I6 = 1:=rfl
@[simp] theorem I6.cl (a:I6):(Enc.cells a).length = 1:=Enc.len a
@[simp] theorem I6.ct (a:I6) (r:List D):(Enc.cells a ++ r).take 1 = Enc.cells a:=cells_take rfl a r
@[simp] theorem I6.ct' (a:I6):(Enc.cells a).take 1 = Enc.cells a:=cells_take' rfl a
@[simp] theorem I6.cd (a:I6) (r:List D):(Enc.cells a ++ r).drop 1 = r:=cells_drop rfl a r
@[simp] theorem I6.el (l:List I6):(encs l).length = l.length * 1:=encs_len' rfl l
@[simp] theorem I6.ed (l:List I6) (i:Nat):(encs l).drop (i * 1) = encs (l.drop i):=encs_drop rfl l i
@[simp] theorem I6.et (l:List I6) (i:Nat):(encs l).take (i * 1) = encs (l.take i):=encs_take rfl l i
@[simp high] theorem I6.ea {l:List I6} {i:Nat} (h:i < l.length):(encs l).drop (i * 1) = Enc.cells l[i] ++ encs (l.drop (i+1)):=encs_at rfl h
@[simp high] theorem I6.es (m:I6) {l:List I6} {j:Nat} (h:j < l.length):setRange (encs l) (j * 1) (Enc.cells m) = encs (l.set j m):=encs_set rfl m l h
structure DoI where
 kind:Int
 epoch:Int
 number:Int
 ln:Sl I6
 ats:Sl I6
 byv:Int
 b:Sl UInt8
instance:Enc DoI:=⟨7,fun m=>(.int .i64 m.kind :: (.int .i64 m.epoch :: (.int .i64 m.number :: ((.vsl m.ln.nil (encs m.ln.l) m.ln.l.length) :: ((.vsl m.ats.nil (encs m.ats.l) m.ats.l.length) :: (.int .u8 m.byv :: ((.vsl m.b.nil (ofBytes m.b.l) m.b.l.length) :: ([]:List D)))))))),fun m=>by simp,fun m=>by simp [idFree]⟩
theorem DoI.cells (m:DoI):Enc.cells m = (.int .i64 m.kind :: (.int .i64 m.epoch :: (.int .i64 m.number :: ((.vsl m.ln.nil (encs m.ln.l) m.ln.l.length) :: ((.vsl m.ats.nil (encs m.ats.l) m.ats.l.length) :: (.int .u8 m.byv :: ((.vsl m.b.nil (ofBytes m.b.l) m.b.l.length) :: ([]:List D)))))))):=rfl
@[simp] theorem DoI.size:Enc.size DoI = 7:=rfl
@[simp] theorem DoI.cl (a:DoI):(Enc.cells a).length = 7:=Enc.len a
@[simp] theorem DoI.ct (a:DoI) (r:List D):(Enc.cells a ++ r).take 7 = Enc.cells a:=cells_take rfl a r
@[simp] theorem DoI.ct' (a:DoI):(Enc.cells a).take 7 = Enc.cells a:=cells_take' rfl a
@[simp] theorem DoI.cd (a:DoI) (r:List D):(Enc.cells a ++ r).drop 7 = r:=cells_drop rfl a r
@[simp] theorem DoI.el (l:List DoI):(encs l).length = l.length * 7:=encs_len' rfl l
@[simp] theorem DoI.ed (l:List DoI) (i:Nat):(encs l).drop (i * 7) = encs (l.drop i):=encs_drop rfl l i
@[simp] theorem DoI.et (l:List DoI) (i:Nat):(encs l).take (i * 7) = encs (l.take i):=encs_take rfl l i
@[simp high] theorem DoI.ea {l:List DoI} {i:Nat} (h:i < l.length):(encs l).drop (i * 7) = Enc.cells l[i] ++ encs (l.drop (i+1)):=encs_at rfl h
@[simp high] theorem DoI.es (m:DoI) {l:List DoI} {j:Nat} (h:j < l.length):setRange (encs l) (j * 7) (Enc.cells m) = encs (l.set j m):=encs_set rfl m l h
@[simp] theorem DoI.g0 (m:DoI) (h):(Enc.cells m)[0]'h = .int .i64 m.kind:=by simp [DoI.cells]
@[simp] theorem DoI.q0 (m:DoI):(Enc.cells m)[0]? = some (.int .i64 m.kind):=by simp [DoI.cells]
@[simp] theorem DoI.s0 (m:DoI) (x:Int):setRange (Enc.cells m) 0 [.int .i64 x] = Enc.cells { m with kind:=x }:=by simp [DoI.cells]
@[simp] theorem DoI.d1 (m:DoI):(Enc.cells m).drop 1 = (.int .i64 m.epoch :: (.int .i64 m.number :: ((.vsl m.ln.nil (encs m.ln.l) m.ln.l.length) :: ((.vsl m.ats.nil (encs m.ats.l) m.ats.l.length) :: (.int .u8 m.byv :: ((.vsl m.b.nil (ofBytes m.b.l) m.b.l.length) :: ([]:List D))))))):=by simp [DoI.cells]
@[simp] theorem DoI.d1' (m:DoI) (r:List D):(Enc.cells m ++ r).drop 1 = (.int .i64 m.epoch :: (.int .i64 m.number :: ((.vsl m.ln.nil (encs m.ln.l) m.ln.l.length) :: ((.vsl m.ats.nil (encs m.ats.l) m.ats.l.length) :: (.int .u8 m.byv :: ((.vsl m.b.nil (ofBytes m.b.l) m.b.l.length) :: ([]:List D))))))) ++ r:=by simp [DoI.cells]
@[simp] theorem DoI.g1 (m:DoI) (h):(Enc.cells m)[1]'h = .int .i64 m.epoch:=by simp [DoI.cells]
@[simp] theorem DoI.q1 (m:DoI):(Enc.cells m)[1]? = some (.int .i64 m.epoch):=by simp [DoI.cells]
@[simp] theorem DoI.s1 (m:DoI) (x:Int):setRange (Enc.cells m) 1 [.int .i64 x] = Enc.cells { m with epoch:=x }:=by simp [DoI.cells]
@[simp] theorem DoI.d2 (m:DoI):(Enc.cells m).drop 2 = (.int .i64 m.number :: ((.vsl m.ln.nil (encs m.ln.l) m.ln.l.length) :: ((.vsl m.ats.nil (encs m.ats.l) m.ats.l.length) :: (.int .u8 m.byv :: ((.vsl m.b.nil (ofBytes m.b.l) m.b.l.length) :: ([]:List D)))))):=by simp [DoI.cells]
@[simp] theorem DoI.d2' (m:DoI) (r:List D):(Enc.cells m ++ r).drop 2 = (.int .i64 m.number :: ((.vsl m.ln.nil (encs m.ln.l) m.ln.l.length) :: ((.vsl m.ats.nil (encs m.ats.l) m.ats.l.length) :: (.int .u8 m.byv :: ((.vsl m.b.nil (ofBytes m.b.l) m.b.l.length) :: ([]:List D)))))) ++ r:=by simp [DoI.cells]
@[simp] theorem DoI.g2 (m:DoI) (h):(Enc.cells m)[2]'h = .int .i64 m.number:=by simp [DoI.cells]
@[simp] theorem DoI.q2 (m:DoI):(Enc.cells m)[2]? = some (.int .i64 m.number):=by simp [DoI.cells]
@[simp] theorem DoI.s2 (m:DoI) (x:Int):setRange (Enc.cells m) 2 [.int .i64 x] = Enc.cells { m with number:=x }:=by simp [DoI.cells]
@[simp] theorem DoI.d3 (m:DoI):(Enc.cells m).drop 3 = ((.vsl m.ln.nil (encs m.ln.l) m.ln.l.length) :: ((.vsl m.ats.nil (encs m.ats.l) m.ats.l.length) :: (.int .u8 m.byv :: ((.vsl m.b.nil (ofBytes m.b.l) m.b.l.length) :: ([]:List D))))):=by simp [DoI.cells]
@[simp] theorem DoI.d3' (m:DoI) (r:List D):(Enc.cells m ++ r).drop 3 = ((.vsl m.ln.nil (encs m.ln.l) m.ln.l.length) :: ((.vsl m.ats.nil (encs m.ats.l) m.ats.l.length) :: (.int .u8 m.byv :: ((.vsl m.b.nil (ofBytes m.b.l) m.b.l.length) :: ([]:List D))))) ++ r:=by simp [DoI.cells]
@[simp] theorem DoI.g3 (m:DoI) (h):(Enc.cells m)[3]'h = (.vsl m.ln.nil (encs m.ln.l) m.ln.l.length):=by simp [DoI.cells]
@[simp] theorem DoI.q3 (m:DoI):(Enc.cells m)[3]? = some ((.vsl m.ln.nil (encs m.ln.l) m.ln.l.length)):=by simp [DoI.cells]
@[simp] theorem DoI.s3 (m:DoI) (x:Sl I6):setRange (Enc.cells m) 3 [(.vsl x.nil (encs x.l) x.l.length)] = Enc.cells { m with ln:=x }:=by simp [DoI.cells]
@[simp] theorem DoI.d4 (m:DoI):(Enc.cells m).drop 4 = ((.vsl m.ats.nil (encs m.ats.l) m.ats.l.length) :: (.int .u8 m.byv :: ((.vsl m.b.nil (ofBytes m.b.l) m.b.l.length) :: ([]:List D)))):=by simp [DoI.cells]
@[simp] theorem DoI.d4' (m:DoI) (r:List D):(Enc.cells m ++ r).drop 4 = ((.vsl m.ats.nil (encs m.ats.l) m.ats.l.length) :: (.int .u8 m.byv :: ((.vsl m.b.nil (ofBytes m.b.l) m.b.l.length) :: ([]:List D)))) ++ r:=by simp [DoI.cells]
@[simp] theorem DoI.g4 (m:DoI) (h):(Enc.cells m)[4]'h = (.vsl m.ats.nil (encs m.ats.l) m.ats.l.length):=by simp [DoI.cells]
@[simp] theorem DoI.q4 (m:DoI):(Enc.cells m)[4]? = some ((.vsl m.ats.nil (encs m.ats.l) m.ats.l.length)):=by simp [DoI.cells]
@[simp] theorem DoI.s4 (m:DoI) (x:Sl I6):setRange (Enc.cells m) 4 [(.vsl x.nil (encs x.l) x.l.length)] = Enc.cells { m with ats:=x }:=by simp [DoI.cells]
@[simp] theorem DoI.d5 (m:DoI):(Enc.cells m).drop 5 = (.int .u8 m.byv :: ((.vsl m.b.nil (ofBytes m.b.l) m.b.l.length) :: ([]:List D))):=by simp [DoI.cells]
@[simp] theorem DoI.d5' (m:DoI) (r:List D):(Enc.cells m ++ r).drop 5 = (.int .u8 m.byv :: ((.vsl m.b.nil (ofBytes m.b.l) m.b.l.length) :: ([]:List D))) ++ r:=by simp [DoI.cells]
@[simp] theorem DoI.g5 (m:DoI) (h):(Enc.cells m)[5]'h = .int .u8 m.byv:=by simp [DoI.cells]
@[simp] theorem DoI.q5 (m:DoI):(Enc.cells m)[5]? = some (.int .u8 m.byv):=by simp [DoI.cells]
@[simp] theorem DoI.s5 (m:DoI) (x:Int):setRange (Enc.cells m) 5 [.int .u8 x] = Enc.cells { m with byv:=x }:=by simp [DoI.cells]
@[simp] theorem DoI.d6 (m:DoI):(Enc.cells m).drop 6 = ((.vsl m.b.nil (ofBytes m.b.l) m.b.l.length) :: ([]:List D)):=by simp [DoI.cells]
@[simp] theorem DoI.d6' (m:DoI) (r:List D):(Enc.cells m ++ r).drop 6 = ((.vsl m.b.nil (ofBytes m.b.l) m.b.l.length) :: ([]:List D)) ++ r:=by simp [DoI.cells]
@[simp] theorem DoI.g6 (m:DoI) (h):(Enc.cells m)[6]'h = (.vsl m.b.nil (ofBytes m.b.l) m.b.l.length):=by simp [DoI.cells]
@[simp] theorem DoI.q6 (m:DoI):(Enc.cells m)[6]? = some ((.vsl m.b.nil (ofBytes m.b.l) m.b.l.length)):=by simp [DoI.cells]
@[simp] theorem DoI.s6 (m:DoI) (x:Sl UInt8):setRange (Enc.cells m) 6 [(.vsl x.nil (ofBytes x.l) x.l.length)] = Enc.cells { m with b:=x }:=by simp [DoI.cells]
structure RcP where
 epoch:Int
 last:Int
 items:Sl It
 marks:Sl Mk
instance:Enc RcP:=⟨4,fun m=>(.int .u64 m.epoch :: (.int .u64 m.last :: ((.vsl m.items.nil (encs m.items.l) m.items.l.length) :: ((.vsl m.marks.nil (encs m.marks.l) m.marks.l.length) :: ([]:List D))))),fun m=>by simp,fun m=>by simp [idFree]⟩
theorem RcP.cells (m:RcP):Enc.cells m = (.int .u64 m.epoch :: (.int .u64 m.last :: ((.vsl m.items.nil (encs m.items.l) m.items.l.length) :: ((.vsl m.marks.nil (encs m.marks.l) m.marks.l.length) :: ([]:List D))))):=rfl
@[simp] theorem RcP.size:Enc.size RcP = 4:=rfl
@[simp] theorem RcP.cl (a:RcP):(Enc.cells a).length = 4:=Enc.len a
@[simp] theorem RcP.ct (a:RcP) (r:List D):(Enc.cells a ++ r).take 4 = Enc.cells a:=cells_take rfl a r
@[simp] theorem RcP.ct' (a:RcP):(Enc.cells a).take 4 = Enc.cells a:=cells_take' rfl a
@[simp] theorem RcP.cd (a:RcP) (r:List D):(Enc.cells a ++ r).drop 4 = r:=cells_drop rfl a r
@[simp] theorem RcP.el (l:List RcP):(encs l).length = l.length * 4:=encs_len' rfl l
@[simp] theorem RcP.ed (l:List RcP) (i:Nat):(encs l).drop (i * 4) = encs (l.drop i):=encs_drop rfl l i
@[simp] theorem RcP.et (l:List RcP) (i:Nat):(encs l).take (i * 4) = encs (l.take i):=encs_take rfl l i
@[simp high] theorem RcP.ea {l:List RcP} {i:Nat} (h:i < l.length):(encs l).drop (i * 4) = Enc.cells l[i] ++ encs (l.drop (i+1)):=encs_at rfl h
@[simp high] theorem RcP.es (m:RcP) {l:List RcP} {j:Nat} (h:j < l.length):setRange (encs l) (j * 4) (Enc.cells m) = encs (l.set j m):=encs_set rfl m l h
@[simp] theorem RcP.g0 (m:RcP) (h):(Enc.cells m)[0]'h = .int .u64 m.epoch:=by simp [RcP.cells]
@[simp] theorem RcP.q0 (m:RcP):(Enc.cells m)[0]? = some (.int .u64 m.epoch):=by simp [RcP.cells]
@[simp] theorem RcP.s0 (m:RcP) (x:Int):setRange (Enc.cells m) 0 [.int .u64 x] = Enc.cells { m with epoch:=x }:=by simp [RcP.cells]
@[simp] theorem RcP.d1 (m:RcP):(Enc.cells m).drop 1 = (.int .u64 m.last :: ((.vsl m.items.nil (encs m.items.l) m.items.l.length) :: ((.vsl m.marks.nil (encs m.marks.l) m.marks.l.length) :: ([]:List D)))):=by simp [RcP.cells]
@[simp] theorem RcP.d1' (m:RcP) (r:List D):(Enc.cells m ++ r).drop 1 = (.int .u64 m.last :: ((.vsl m.items.nil (encs m.items.l) m.items.l.length) :: ((.vsl m.marks.nil (encs m.marks.l) m.marks.l.length) :: ([]:List D)))) ++ r:=by simp [RcP.cells]
@[simp] theorem RcP.g1 (m:RcP) (h):(Enc.cells m)[1]'h = .int .u64 m.last:=by simp [RcP.cells]
@[simp] theorem RcP.q1 (m:RcP):(Enc.cells m)[1]? = some (.int .u64 m.last):=by simp [RcP.cells]
@[simp] theorem RcP.s1 (m:RcP) (x:Int):setRange (Enc.cells m) 1 [.int .u64 x] = Enc.cells { m with last:=x }:=by simp [RcP.cells]
@[simp] theorem RcP.d2 (m:RcP):(Enc.cells m).drop 2 = ((.vsl m.items.nil (encs m.items.l) m.items.l.length) :: ((.vsl m.marks.nil (encs m.marks.l) m.marks.l.length) :: ([]:List D))):=by simp [RcP.cells]
@[simp] theorem RcP.d2' (m:RcP) (r:List D):(Enc.cells m ++ r).drop 2 = ((.vsl m.items.nil (encs m.items.l) m.items.l.length) :: ((.vsl m.marks.nil (encs m.marks.l) m.marks.l.length) :: ([]:List D))) ++ r:=by simp [RcP.cells]
@[simp] theorem RcP.g2 (m:RcP) (h):(Enc.cells m)[2]'h = (.vsl m.items.nil (encs m.items.l) m.items.l.length):=by simp [RcP.cells]
@[simp] theorem RcP.q2 (m:RcP):(Enc.cells m)[2]? = some ((.vsl m.items.nil (encs m.items.l) m.items.l.length)):=by simp [RcP.cells]
@[simp] theorem RcP.s2 (m:RcP) (x:Sl It):setRange (Enc.cells m) 2 [(.vsl x.nil (encs x.l) x.l.length)] = Enc.cells { m with items:=x }:=by simp [RcP.cells]
@[simp] theorem RcP.d3 (m:RcP):(Enc.cells m).drop 3 = ((.vsl m.marks.nil (encs m.marks.l) m.marks.l.length) :: ([]:List D)):=by simp [RcP.cells]
@[simp] theorem RcP.d3' (m:RcP) (r:List D):(Enc.cells m ++ r).drop 3 = ((.vsl m.marks.nil (encs m.marks.l) m.marks.l.length) :: ([]:List D)) ++ r:=by simp [RcP.cells]
@[simp] theorem RcP.g3 (m:RcP) (h):(Enc.cells m)[3]'h = (.vsl m.marks.nil (encs m.marks.l) m.marks.l.length):=by simp [RcP.cells]
@[simp] theorem RcP.q3 (m:RcP):(Enc.cells m)[3]? = some ((.vsl m.marks.nil (encs m.marks.l) m.marks.l.length)):=by simp [RcP.cells]
@[simp] theorem RcP.s3 (m:RcP) (x:Sl Mk):setRange (Enc.cells m) 3 [(.vsl x.nil (encs x.l) x.l.length)] = Enc.cells { m with marks:=x }:=by simp [RcP.cells]
structure RcD where
 epoch:Int
 last:Int
 marks:Sl Mk
 items:Sl It
instance:Enc RcD:=⟨4,fun m=>(.int .u64 m.epoch :: (.int .u64 m.last :: ((.vsl m.marks.nil (encs m.marks.l) m.marks.l.length) :: ((.vsl m.items.nil (encs m.items.l) m.items.l.length) :: ([]:List D))))),fun m=>by simp,fun m=>by simp [idFree]⟩
theorem RcD.cells (m:RcD):Enc.cells m = (.int .u64 m.epoch :: (.int .u64 m.last :: ((.vsl m.marks.nil (encs m.marks.l) m.marks.l.length) :: ((.vsl m.items.nil (encs m.items.l) m.items.l.length) :: ([]:List D))))):=rfl
@[simp] theorem RcD.size:Enc.size RcD = 4:=rfl
@[simp] theorem RcD.cl (a:RcD):(Enc.cells a).length = 4:=Enc.len a
@[simp] theorem RcD.ct (a:RcD) (r:List D):(Enc.cells a ++ r).take 4 = Enc.cells a:=cells_take rfl a r
@[simp] theorem RcD.ct' (a:RcD):(Enc.cells a).take 4 = Enc.cells a:=cells_take' rfl a
@[simp] theorem RcD.cd (a:RcD) (r:List D):(Enc.cells a ++ r).drop 4 = r:=cells_drop rfl a r
@[simp] theorem RcD.el (l:List RcD):(encs l).length = l.length * 4:=encs_len' rfl l
@[simp] theorem RcD.ed (l:List RcD) (i:Nat):(encs l).drop (i * 4) = encs (l.drop i):=encs_drop rfl l i
@[simp] theorem RcD.et (l:List RcD) (i:Nat):(encs l).take (i * 4) = encs (l.take i):=encs_take rfl l i
@[simp high] theorem RcD.ea {l:List RcD} {i:Nat} (h:i < l.length):(encs l).drop (i * 4) = Enc.cells l[i] ++ encs (l.drop (i+1)):=encs_at rfl h
@[simp high] theorem RcD.es (m:RcD) {l:List RcD} {j:Nat} (h:j < l.length):setRange (encs l) (j * 4) (Enc.cells m) = encs (l.set j m):=encs_set rfl m l h
@[simp] theorem RcD.g0 (m:RcD) (h):(Enc.cells m)[0]'h = .int .u64 m.epoch:=by simp [RcD.cells]
@[simp] theorem RcD.q0 (m:RcD):(Enc.cells m)[0]? = some (.int .u64 m.epoch):=by simp [RcD.cells]
@[simp] theorem RcD.s0 (m:RcD) (x:Int):setRange (Enc.cells m) 0 [.int .u64 x] = Enc.cells { m with epoch:=x }:=by simp [RcD.cells]
@[simp] theorem RcD.d1 (m:RcD):(Enc.cells m).drop 1 = (.int .u64 m.last :: ((.vsl m.marks.nil (encs m.marks.l) m.marks.l.length) :: ((.vsl m.items.nil (encs m.items.l) m.items.l.length) :: ([]:List D)))):=by simp [RcD.cells]
@[simp] theorem RcD.d1' (m:RcD) (r:List D):(Enc.cells m ++ r).drop 1 = (.int .u64 m.last :: ((.vsl m.marks.nil (encs m.marks.l) m.marks.l.length) :: ((.vsl m.items.nil (encs m.items.l) m.items.l.length) :: ([]:List D)))) ++ r:=by simp [RcD.cells]
@[simp] theorem RcD.g1 (m:RcD) (h):(Enc.cells m)[1]'h = .int .u64 m.last:=by simp [RcD.cells]
@[simp] theorem RcD.q1 (m:RcD):(Enc.cells m)[1]? = some (.int .u64 m.last):=by simp [RcD.cells]
@[simp] theorem RcD.s1 (m:RcD) (x:Int):setRange (Enc.cells m) 1 [.int .u64 x] = Enc.cells { m with last:=x }:=by simp [RcD.cells]
@[simp] theorem RcD.d2 (m:RcD):(Enc.cells m).drop 2 = ((.vsl m.marks.nil (encs m.marks.l) m.marks.l.length) :: ((.vsl m.items.nil (encs m.items.l) m.items.l.length) :: ([]:List D))):=by simp [RcD.cells]
@[simp] theorem RcD.d2' (m:RcD) (r:List D):(Enc.cells m ++ r).drop 2 = ((.vsl m.marks.nil (encs m.marks.l) m.marks.l.length) :: ((.vsl m.items.nil (encs m.items.l) m.items.l.length) :: ([]:List D))) ++ r:=by simp [RcD.cells]
@[simp] theorem RcD.g2 (m:RcD) (h):(Enc.cells m)[2]'h = (.vsl m.marks.nil (encs m.marks.l) m.marks.l.length):=by simp [RcD.cells]
@[simp] theorem RcD.q2 (m:RcD):(Enc.cells m)[2]? = some ((.vsl m.marks.nil (encs m.marks.l) m.marks.l.length)):=by simp [RcD.cells]
@[simp] theorem RcD.s2 (m:RcD) (x:Sl Mk):setRange (Enc.cells m) 2 [(.vsl x.nil (encs x.l) x.l.length)] = Enc.cells { m with marks:=x }:=by simp [RcD.cells]
@[simp] theorem RcD.d3 (m:RcD):(Enc.cells m).drop 3 = ((.vsl m.items.nil (encs m.items.l) m.items.l.length) :: ([]:List D)):=by simp [RcD.cells]
@[simp] theorem RcD.d3' (m:RcD) (r:List D):(Enc.cells m ++ r).drop 3 = ((.vsl m.items.nil (encs m.items.l) m.items.l.length) :: ([]:List D)) ++ r:=by simp [RcD.cells]
@[simp] theorem RcD.g3 (m:RcD) (h):(Enc.cells m)[3]'h = (.vsl m.items.nil (encs m.items.l) m.items.l.length):=by simp [RcD.cells]
@[simp] theorem RcD.q3 (m:RcD):(Enc.cells m)[3]? = some ((.vsl m.items.nil (encs m.items.l) m.items.l.length)):=by simp [RcD.cells]
@[simp] theorem RcD.s3 (m:RcD) (x:Sl It):setRange (Enc.cells m) 3 [(.vsl x.nil (encs x.l) x.l.length)] = Enc.cells { m with items:=x }:=by simp [RcD.cells]
end Go.Ev
namespace Go.Ev
attribute [simp] callM callP mv mv.mvL mvN setAll blkFree
end Go.Ev
namespace Go.Ev.S
open Go Go.Proofs Go.Ev
def GrowH {α:Type} [Enc α] (S:List D) (sz:Nat) (l:List α) (d:D) (H:Heap):Prop :=
 (l = []∧d = .vsl true [] 0∧H = [some S])∨(l≠[]∧∃ n k t,n = l.length * sz∧k = l.length∧((d = .osl 2 n 0 k sz∧H = [some S,some t,some (encs l)])∨(d = .osl 1 n 0 k sz∧H = [some S,some (encs l),some t])))
def PrsQ (nil:Bool) (zs:List Int) (q:D × Heap):Prop:= ∃ (l:List Pr) (k':Nat),1≤l.length∧l.length≤4∧(∀ p∈l,mkOk p = true)∧q = (.vsl false (encs l) l.length,[some (seqD nil zs k')])
set_option maxHeartbeats 1000000 in
theorem mpairs_ev [MaxL] [TxtC] (nil:Bool) (zs:List Int) (hnil:nil = true→zs = []) (hz:zs.length≤1000000) (k:Nat) :
  ∃ q,call cx 94 [.optr 0 2 0,.int .i64 4] [some (seqD nil zs k)] = some q∧PrsQ nil zs q:=by
 obtain ⟨x,k1,hx,-,h1⟩:=n_ev nil zs hnil hz k 4 (by decide) (by decide)
 refine call_runE (X:=cx) (f:=94) (args:=[.optr 0 2 0,.int .i64 4]) (H:=[some (seqD nil zs k)]) (PrsQ nil zs) Tryz.func94 rfl ⟨rfl,rfl⟩ ?_
 have hw:IntKind.i64.wrap ((x:Int)+1) = ((x+1:Nat):Int):=by rw [wrap_i64] <;> omega
 have sf:=seqD_free nil zs
 have sl:=seqD_len nil zs
 have sc:=seqD_cl nil zs
 simp [Tryz.f94,h1,sf]
 refine Run.loopThen (fun (q:List Pr × Nat × Nat) e H'=>q.1.length+q.2.1 = x+1∧(∀ p∈q.1,mkOk p = true)∧look e 0 = some (.optr 0 2 0)∧look e 6 = some (.int .i64 (q.2.1:Nat))∧∃ d,look e 5 = some d∧GrowH (seqD nil zs q.2.2) 2 q.1 d H') (fun q=>q.2.1) ([],x+1,k1) ?_ ?_
 ·exact ⟨by simp,by simp,by simp,by simp [hw],_,by simp,.inl ⟨rfl,rfl,rfl⟩⟩
 rintro ⟨l,i,k2⟩ e H' ⟨hi,hok,k0,k6,d,k5,hH⟩
 simp only at hi hok k6 hH
 obtain ⟨p,k3,hp,h2⟩:=mpair_ev nil zs hnil hz k2
 rcases hH with ⟨rfl,rfl,rfl⟩ | ⟨hne,n,m,t,hn,hm,hH⟩
 ·have hi0:0 < i:=by simp at hi;omega
  have hw2:IntKind.i64.wrap ((i:Int) - 1) = ((i - 1:Nat):Int):=by rw [wrap_i64] <;> (simp at hi;omega)
  simp [k0,k5,k6,hi0,h2,sf,sc,hw2,Pr.cells,maxBytes]
  exact ⟨[p],i - 1,by omega,by simp at hi ⊢;omega,by simp [hp],rfl,k3,.inr ⟨by simp,2,1,_,rfl,rfl,.inl ⟨rfl,rfl⟩⟩⟩
 ·have hm1:(m+1) * 32≤140737488355328:=by omega
  have hm2:m+1≤140737488355328:=by omega
  have hlk:l.length = m:=hm.symm
  have hkn:m * 2 = n:=by omega
  have htk:List.take n (encs l) = encs l:=List.take_of_length_le (by simp;omega)
  by_cases hi0:0 < i
  ·have hw2:IntKind.i64.wrap ((i:Int) - 1) = ((i - 1:Nat):Int):=by rw [wrap_i64] <;> omega
   rcases hH with ⟨rfl,rfl⟩ | ⟨rfl,rfl⟩
   all_goals
    simp [k0,k5,k6,hi0,h2,sf,sc,hw2,Pr.cells,maxBytes,hlk,hkn,hm1,hm2]
    refine ⟨l ++ [p],i - 1,by omega,by simp;omega,fun q hq=>?_,rfl,k3,.inr ⟨by simp,n+2,m+1,_,by simp;omega,by simp [hlk],.inr ⟨rfl,by rw [encs_snoc];rfl⟩⟩⟩
    rcases List.mem_append.1 hq with h | h
    ·exact hok q h
    ·rw [List.mem_singleton.1 h];exact hp
  ·have hie:l.isEmpty = false:=by simpa using hne
   have hl1:1≤l.length:=by
    cases l with
    | nil=>exact absurd rfl hne
    | cons=>simp
   rcases hH with ⟨rfl,rfl⟩ | ⟨rfl,rfl⟩
   all_goals
    simp [k0,k5,k6,hi0,sc,hlk,hkn,htk]
    exact ⟨l,k2,hl1,by omega,hok,by rw [hlk]⟩
end Go.Ev.S
namespace Go.Ev.S
open Go Go.Proofs Go.Ev
def RecR (n:Nat) (r:Rec):Prop:=r.seq = n∧r.Ok∧1≤r.fields.l.length∧r.fields.l.length≤4∧∀ p∈r.fields.l,mkOk p = true
theorem u64_of {n:Nat} (h:n < 18446744073709551616):isU64 (n:Int):=by
 unfold isU64
 omega
set_option maxHeartbeats 1000000 in
theorem mrec_ev [MaxL] [TxtC] (nil:Bool) (zs:List Int) (hnil:nil = true→zs = []) (hz:zs.length≤1000000) (k:Nat) (n:Nat) (hn:n < 18446744073709551616) :
  ∃ (r:Rec) (k':Nat),RecR n r∧call cx 61 [.optr 0 2 0,.int .u64 n] [some (seqD nil zs k)] = some (.agg (Enc.cells r),[some (seqD nil zs k')]):=by
 obtain ⟨q,h1,l,k1,hl1,hl4,hp,rfl⟩:=mpairs_ev nil zs hnil hz k
 obtain ⟨q,h2,out,ho1,ho4,hop,rfl⟩:=list_ev l hl1 hl4 hp
 obtain ⟨x,k2,hx,-,h3⟩:=n_ev nil zs hnil hz k1 40 (by decide) (by decide)
 obtain ⟨y,k3,hy,-,h4⟩:=n_ev nil zs hnil hz k2 9 (by decide) (by decide)
 obtain ⟨z,k4,hz3,-,h5⟩:=n_ev nil zs hnil hz k3 3 (by decide) (by decide)
 have h6:=mid_small (j:=z) (by omega)
 refine ⟨⟨n,x,y,idN z,.of out⟩,k4,⟨rfl,⟨u64_of hn,u64_of (by omega),u64_of (by omega)⟩,ho1,ho4,hop⟩,?_⟩
 have sf:=seqD_free nil zs
 have sl:=seqD_len nil zs
 have sc:=seqD_cl nil zs
 have hx64:IntKind.u64.wrap (x:Int) = (x:Int):=by rw [wrap_u64];omega
 have hy64:IntKind.u64.wrap (y:Int) = (y:Int):=by rw [wrap_u64];omega
 have hi:=(idN z).h
 generalize idN z = iz at *
 have ht:List.take 16 (ofBytes iz.l) = ofBytes iz.l:=List.take_of_length_le (by simp)
 have hd:List.drop 17 (ofBytes iz.l ++ [D.vsl true [] 0]) = []:=List.drop_eq_nil_of_le (by simp)
 refine call_run Tryz.func61 rfl ⟨rfl,rfl⟩ ?_
 simp [Tryz.f61,h1,h2,h3,h4,h5,h6,sf,sc,hx64,hy64,Rec.cells,hi,hd,List.take_append]

end Go.Ev.S
namespace Go.Ev.S
open Go Go.Proofs Go.Ev
def MadeI (it:It):Prop:=it.Ok∧itOk it = true∧it.rc.fields.l.length≤4∧∀ p∈it.rc.fields.l,mkOk p = true
theorem u64_zero':isU64 0:=by unfold isU64;decide
def recZ:Rec:=⟨0,0,0,ID.zero,.none⟩
theorem made_gap (q:ID) {n t:Nat} (h1:1≤n) (h2:n≤t) (h3:t < 18446744073709551616):MadeI ⟨q,true,n,t,recZ⟩:=by
 refine ⟨⟨u64_of (by omega),u64_of (by omega),⟨u64_zero',u64_zero',u64_zero'⟩⟩,?_,Nat.zero_le _,fun p hp=>by cases hp⟩
 unfold itOk gapOk
 simp [recZ,Sl.none]
 omega
theorem made_rec (q:ID) {n:Nat} {r:Rec} (h1:1≤n) (h:RecR n r):MadeI ⟨q,false,0,0,r⟩:=by
 obtain ⟨a,b,c,d,e⟩:=h
 refine ⟨⟨u64_zero',u64_zero',b⟩,?_,d,e⟩
 unfold itOk recOk
 simp [a]
 exact ⟨⟨⟨by omega,c⟩,by omega⟩,fun p hp=>mkOk_ok (e p hp)⟩
theorem intsK_set {k:IntKind} {l:List Int} {i:Nat} {v:Int} (h:i < l.length):setRange (intsK k l) i [.int k v] = intsK k (l.set i v):=by
 have hi:i < (intsK k l).length:=by simpa using h
 have e:(intsK k l).set i (.int k v) = intsK k (l.set i v):=by unfold intsK;rw [List.map_set]
 rw [← e,List.set_eq_take_append_cons_drop,if_pos hi]
 unfold setRange
 simp
theorem gap_cells (q:ID) (n t:Int):Enc.cells (⟨q,true,n,t,recZ⟩:It) = ofBytes q.l ++ [.bool true,.int .u64 n,.int .u64 t,.int .u64 0,.int .u64 0,.int .u64 0,.int .u8 0,.int .u8 0,.int .u8 0,.int .u8 0,.int .u8 0,.int .u8 0,.int .u8 0,.int .u8 0,.int .u8 0,.int .u8 0,.int .u8 0,.int .u8 0,.int .u8 0,.int .u8 0,.int .u8 0,.int .u8 0,.vsl true [] 0]:=by
 rw [It.cells]
 rfl
theorem rec_cells (q:ID) (r:Rec):Enc.cells (⟨q,false,0,0,r⟩:It) = ofBytes q.l ++ (.bool false :: .int .u64 0 :: .int .u64 0 :: Enc.cells r):=by
 rw [It.cells,Rec.cells]
 rfl
theorem rec_noZ (r:Rec):noZ.noZL (Enc.cells r) = true:=by
 rw [Rec.cells]
 simp
def ItsH (S:List D) (out:List It) (last:List Int) (d5 d6:D) (H:Heap):Prop :=
 (out = []∧d5 = .vsl true [] 0∧d6 = .optr 1 3 0∧H = [some S,some (intsK .u64 last)]) ∨
 (out≠[]∧∃ n m t,n = out.length * 39∧m = out.length∧((d5 = .osl 3 n 0 m 39∧d6 = .optr 1 3 0∧H = [some S,some (intsK .u64 last),some t,some (encs out)])∨(d5 = .osl 1 n 0 m 39∧d6 = .optr 2 3 0∧H = [some S,some (encs out),some (intsK .u64 last),some t])))
end Go.Ev.S
namespace Go.Ev.S
open Go Go.Proofs Go.Ev
theorem idN_lt:∀ j < 4,∀ i < j,cmpB (idN i).l (idN j).l < 0:=by decide
structure FewN (i:Nat) (l:List Mk):Prop where
 rises:risesM l = true
 ok:∀ m∈l,m.Ok
 id:∀ m∈l,∃ j,j < i∧m.id = idN j
 len:l.length≤i
theorem rises_snocN:∀ {l:List Mk} {m:Mk},risesM l = true→(∀ x∈l,cmpB x.id.l m.id.l < 0)→risesM (l ++ [m]) = true
 | [],_,_,_=>rfl
 | [a],m,_,h=>by simp [risesM,h a (List.mem_cons_self ..)]
 | a :: b :: l,m,hr,h=>by
  simp only [risesM,Bool.and_eq_true] at hr
  have:=rises_snocN (l:=b :: l) hr.2 fun x hx=>h x (List.mem_cons_of_mem _ hx)
  simp only [List.cons_append,risesM,Bool.and_eq_true] at this ⊢
  exact ⟨hr.1,this⟩
theorem FewN.same {i:Nat} {l:List Mk} (h:FewN i l):FewN (i+1) l :=
 ⟨h.rises,h.ok,fun m hm=>by obtain ⟨j,h1,h2⟩:=h.id m hm;exact ⟨j,by omega,h2⟩,by have:=h.len;omega⟩
theorem FewN.add {i:Nat} {l:List Mk} (h:FewN i l) (hi:i < 4) {a b c:Nat} (ha:a < 1000) (hb:b < 1000) (hc:c < 1000):FewN (i+1) (l ++ [⟨idN i,a,b,c⟩]):=by
 refine ⟨rises_snocN h.rises fun x hx=>?_,fun m hm=>?_,fun m hm=>?_,by have:=h.len;simp;omega⟩
 ·obtain ⟨j,h1,h2⟩:=h.id x hx
  rw [h2]
  exact idN_lt i hi j h1
 ·rcases List.mem_append.1 hm with h' | h'
  ·exact h.ok m h'
  ·rw [List.mem_singleton.1 h']
   exact ⟨by simp only [isU64];omega,by simp only [isU64];omega,by simp only [isU64];omega⟩
 ·rcases List.mem_append.1 hm with h' | h'
  ·obtain ⟨j,h1,h2⟩:=h.id m h'
   exact ⟨j,by omega,h2⟩
  ·rw [List.mem_singleton.1 h']
   exact ⟨i,by omega,rfl⟩
end Go.Ev.S
namespace Go.Ev.S
open Go Go.Proofs Go.Ev
theorem getGo_len:∀ (k:Nat) (r:List UInt8) (out:List It),(getGo k r out).1.length≤out.length+k
 | 0,r,out=>by
  unfold getGo
  split
  ·split <;> simp
  ·simp
 | k+1,r,out=>by
  rw [getGo]
  split
  ·simp
  ·split
   ·have:=getGo_len k (r.drop (4+leN (r.take 4))) (out ++ [itemP ((r.drop 4).take (leN (r.take 4)))])
    rw [List.length_append] at this
    simp only [List.length_cons,List.length_nil] at this
    omega
   ·simp
theorem getP_len (b:List UInt8):(getP b).1.length≤64:=by
 unfold getP getX
 repeat' split
 all_goals first | (simp;done) | skip
 have:=getGo_len (leN (((b.take (b.length - 4)).drop 4).take 2)) ((b.take (b.length - 4)).drop 6) []
 simp only [List.length_nil] at this
 omega
theorem readGo_len:∀ (k:Nat) (r:List UInt8) (out:List Mk),(readGo k r out).1.length≤out.length+k
 | 0,r,out=>by simp [readGo]
 | k+1,r,out=>by
  rw [readGo]
  split
  ·simp
  ·split
   ·simp
   ·split
    ·simp
    ·have:=readGo_len k (r.drop 40) (out ++ [mkOf r])
     rw [List.length_append] at this
     simp only [List.length_cons,List.length_nil] at this
     omega
theorem readM_le4 (b:List UInt8):(readM b).1.length≤4:=by
 unfold readM
 split
 ·simp
 ·split
  ·simp
  ·rename_i c r h
   have:=readGo_len c.toNat r []
   simp only [List.length_nil] at this
   omega
theorem getGo_mlen:∀ (k:Nat) (r:List UInt8) (out:List It),(getGo k r out).2.1.length≤4
 | 0,r,out=>by
  unfold getGo
  split
  ·split
   ·simp
   ·exact readM_le4 r
  ·simp
 | k+1,r,out=>by
  rw [getGo]
  split
  ·simp
  ·split
   ·exact getGo_mlen k _ _
   ·simp
theorem getP_mlen (b:List UInt8):(getP b).2.1.length≤4:=by
 unfold getP getX
 repeat' split
 all_goals first | (simp;done) | skip
 exact getGo_mlen _ _ _
structure RSt where
 ep:Int
 la:Int
 its:List It
 mks:Sl Mk
def RSt.A (s:RSt) (d:D):List D:=[.int .u64 s.ep,.int .u64 s.la,d,(.vsl s.mks.nil (encs s.mks.l) s.mks.l.length)]
def Shp (L:List It) (d:D) (T:Heap):Prop:=(L = []∧d = .vsl true [] 0∧T = [])∨(L≠[]∧∃ n k,n = L.length * 39∧k = L.length∧d = .osl 1 n 0 k 39∧T = [some (encs L)])
def foldT:List It→List Mk→Option (List Mk)
 | [],m=>some m
 | x :: l,m=>if takeC m x = 0 then foldT l (takeL m x false) else none
theorem takeL_len (m:List Mk) (x:It) (o:Bool):(takeL m x o).length≤m.length+1:=putM_len _ _
def batG (s:RSt) (n:Int) (g:List It × List Mk × Int):Int × RSt :=
 if g.2.2≠0 then (400,s)
 else match foldT g.1 s.mks.l with
  | none=>(400,s)
  | some m=>if (leM m g.2.1 && leM s.mks.l g.2.1) = true then (200,⟨s.ep,n,s.its ++ g.1,Sl.grown g.2.1⟩) else (400,s)
def batR (s:RSt) (q:Rq):Int × RSt :=
 if s.ep < q.epoch then (409,s)
 else if q.number = s.la∧q.number≠0 then (200,s)
 else if q.number≠IntKind.u64.wrap (s.la+1)∨q.number = 0 then (409,s)
 else batG s q.number (getP q.body.l)
def BatQ2 (s:RSt) (q:Rq) (r:D × Heap):Prop:= ∃ d' T',Shp (batR s q).2.its d' T'∧r = (.int .i64 (batR s q).1,some ((batR s q).2.A d') :: T')
theorem BatQ2.mk {s s':RSt} {q:Rq} {c:Int} {d':D} {T':Heap} (hb:batR s q = (c,s')) (hs:Shp s'.its d' T'):BatQ2 s q (.int .i64 c,some (s'.A d') :: T'):=⟨d',T',by rw [hb];exact hs,by rw [hb]⟩
set_option maxHeartbeats 8000000 in
set_option maxRecDepth 8000 in
theorem rbatch_ev [MaxL] (s:RSt) (q:Rq) (hq:q.body.l.length < 1000000) (hm:s.mks.l.length≤1000000) (hL:s.its.length≤1000000000) (d:D) (T:Heap) (hsh:Shp s.its d T) :
  ∃ r,call cx 36 [.optr 0 4 0,.agg (Enc.cells q)] (some (s.A d) :: T) = some r∧BatQ2 s q r:=by
 obtain ⟨ep,la,its,mk⟩:=s
 obtain ⟨p,e,n,o⟩:=q
 simp only at hq hm hL hsh
 have hg:=wget_ev o hq
 have hgl:=getP_len o.l
 have hgm:=getP_mlen o.l
 obtain ⟨w1,hw1⟩:∃ w1,IntKind.u64.wrap (la+1) = w1:=⟨_,rfl⟩
 rcases hsh with ⟨rfl,rfl,rfl⟩ | ⟨hne,n1,k1,hn1,hk1,rfl,rfl⟩
 ·refine call_runE (X:=cx) (f:=36) (args:=[.optr 0 4 0,.agg [.str p,.int .u64 e,.int .u64 n,(.vsl o.nil (ofBytes o.l) o.l.length)]]) (H:=[some [.int .u64 ep,.int .u64 la,.vsl true [] 0,(.vsl mk.nil (encs mk.l) mk.l.length)]]) (BatQ2 ⟨ep,la,[],mk⟩ ⟨p,e,n,o⟩) Tryz.func36 rfl ⟨rfl,rfl⟩ ?_
  by_cases c1:ep < e
  ·have hb:batR ⟨ep,la,[],mk⟩ ⟨p,e,n,o⟩ = (409,⟨ep,la,[],mk⟩):=by unfold batR;rw [if_pos c1]
   simp [Tryz.f36,c1]
   exact BatQ2.mk hb (.inl ⟨rfl,rfl,rfl⟩)
  by_cases c2:n = la∧n≠0
  ·have hb:batR ⟨ep,la,[],mk⟩ ⟨p,e,n,o⟩ = (200,⟨ep,la,[],mk⟩):=by unfold batR;rw [if_neg c1,if_pos c2]
   obtain ⟨rfl,c3⟩:=c2
   simp [Tryz.f36,c1,c3]
   exact BatQ2.mk hb (.inl ⟨rfl,rfl,rfl⟩)
  by_cases c3:n≠w1∨n = 0
  ·have hb:batR ⟨ep,la,[],mk⟩ ⟨p,e,n,o⟩ = (409,⟨ep,la,[],mk⟩):=by unfold batR;simp only;rw [if_neg c1,if_neg c2,if_pos (by rw [hw1];exact c3)]
   by_cases c4:n = la
   ·have c5:n = 0:=Classical.byContradiction fun h=>c2 ⟨c4,h⟩
    subst c4
    subst c5
    by_cases c6:(0:Int) = w1
    ·simp [Tryz.f36,c1]
     exact BatQ2.mk hb (.inl ⟨rfl,rfl,rfl⟩)
    ·simp [Tryz.f36,c1]
     exact BatQ2.mk hb (.inl ⟨rfl,rfl,rfl⟩)
   ·by_cases c6:n = w1
    ·have c5:n = 0:=c3.resolve_left fun h=>h c6
     subst c6
     subst c5
     simp [Tryz.f36,c1,hw1,c4]
     exact BatQ2.mk hb (.inl ⟨rfl,rfl,rfl⟩)
    ·simp [Tryz.f36,c1,hw1,c4,c6]
     exact BatQ2.mk hb (.inl ⟨rfl,rfl,rfl⟩)
  have c4:¬ n = la:=fun h=>c2 ⟨h,fun h0=>c3 (.inr h0)⟩
  have c5:n = w1:=Classical.byContradiction fun h=>c3 (.inl h)
  have c6:¬ n = 0:=fun h=>c3 (.inr h)
  have hB:batR ⟨ep,la,[],mk⟩ ⟨p,e,n,o⟩ = batG ⟨ep,la,[],mk⟩ n (getP o.l):=by
   unfold batR
   simp only
   rw [if_neg c1,if_neg c2,if_neg (by rw [hw1];exact c3)]
  unfold trD at hg
  obtain ⟨⟨l,en,c⟩,hgp⟩:∃ g,g = getP o.l:=⟨_,rfl⟩
  rw [← hgp] at hg hgl hgm hB
  unfold batG at hB
  simp only at hg hgl hgm hB
  clear hgp
  obtain ⟨lS,hlS⟩:∃ lS,lS = Sl.grown l:=⟨_,rfl⟩
  obtain ⟨E,hE⟩:∃ E,E = Sl.grown en:=⟨_,rfl⟩
  have hlSl:lS.l = l:=by rw [hlS];rfl
  have hEl:E.l = en:=by rw [hE];rfl
  rw [← hlS,← hE,hlSl,hEl] at hg
  subst c5
  by_cases c7:c = 0
  case neg =>
   rw [if_pos c7] at hB
   simp [Tryz.f36,c1,hw1,c4,c6,hg,c7]
   exact BatQ2.mk hB (.inl ⟨rfl,rfl,rfl⟩)
  rw [if_neg (fun h=>h c7)] at hB
  simp [Tryz.f36,c1,hw1,c4,c6,hg,c7]
  refine Run.loopThen (fun (k:Nat × Sl Mk) e' H=>k.1≤l.length∧k.2.l.length≤mk.l.length+k.1∧foldT (l.drop k.1) k.2.l = foldT l mk.l∧(H = [some [.int .u64 ep,.int .u64 la,.vsl true [] 0,(.vsl mk.nil (encs mk.l) mk.l.length)],some [.str p,.int .u64 e,.int .u64 n,(.vsl o.nil (ofBytes o.l) o.l.length)]]∨∃ w,H = [some [.int .u64 ep,.int .u64 la,.vsl true [] 0,(.vsl mk.nil (encs mk.l) mk.l.length)],some [.str p,.int .u64 e,.int .u64 n,(.vsl o.nil (ofBytes o.l) o.l.length)],w]) ∧
   look e' 0 = some (.optr 0 4 0)∧look e' 3 = some (.optr 1 4 0)∧look e' 5 = some (.vsl lS.nil (encs l) l.length)∧look e' 6 = some (.vsl E.nil (encs en) en.length)∧look e' 8 = some (.vsl k.2.nil (encs k.2.l) k.2.l.length)∧look e' 59 = some (.vsl lS.nil (encs l) l.length)∧look e' 60 = some (.int .i64 l.length)∧look e' 61 = some (.int .i64 k.1)) (fun k=>l.length - k.1) (0,mk) ?_ ?_
  ·simp
  rintro ⟨k,t⟩ e' H ⟨hk,htl,hf,hH,k0,k3,k5,k6,k8,k59,k60,k61⟩
  simp only at hk htl hf k8 k61
  by_cases hlt:k < l.length
  ·have hlt':(k:Int) < (l.length:Int):=by omega
   have hw:IntKind.i64.wrap ((k:Int)+1) = ((k+1:Nat):Int):=by rw [wrap_i64] <;> omega
   have hnil:lS.nil = false:=Sl.nn (i:=k) (by rw [hlSl];exact hlt)
   have hea:List.drop (k * 39) (encs l) = Enc.cells l[k] ++ encs (l.drop (k+1)):=It.ea hlt
   have htk:=take_ev t (by omega) l[k] false
   have h39:39≤39+(l.length - (k+1)) * 39:=by omega
   rw [List.drop_eq_getElem_cons hlt,foldT] at hf
   have htl2:=takeL_len t.l l[k] false
   generalize l[k] = x at *
   by_cases c8:takeC t.l x = 0
   ·rw [if_pos c8] at hf
    rw [c8] at htk
    unfold resM at htk
    rw [if_pos rfl] at htk
    rcases hH with rfl | ⟨w,rfl⟩
    ·simp [-It.ea,k0,k3,k5,k6,k8,k59,k60,k61,hlt',hw,hnil,hea,htk,h39]
     exact ⟨k+1,by omega,by omega,.of (takeL t.l x false),by rw [Sl.of_l];omega,hf,⟨rfl,rfl,rfl⟩,by omega⟩
    ·simp [-It.ea,k0,k3,k5,k6,k8,k59,k60,k61,hlt',hw,hnil,hea,htk,h39]
     exact ⟨k+1,by omega,by omega,.of (takeL t.l x false),by rw [Sl.of_l];omega,hf,⟨rfl,rfl,rfl⟩,by omega⟩
   ·rw [if_neg c8] at hf
    rw [← hf] at hB
    unfold resM at htk
    rw [if_neg c8] at htk
    rcases hH with rfl | ⟨w,rfl⟩
    ·simp [-It.ea,k0,k3,k5,k6,k8,k59,k60,k61,hlt',hnil,hea,htk,h39,c8]
     exact BatQ2.mk hB (.inl ⟨rfl,rfl,rfl⟩)
    ·simp [-It.ea,k0,k3,k5,k6,k8,k59,k60,k61,hlt',hnil,hea,htk,h39,c8]
     exact BatQ2.mk hB (.inl ⟨rfl,rfl,rfl⟩)
  ·have hlt':¬ (k:Int) < (l.length:Int):=by omega
   rw [List.drop_eq_nil_of_le (by omega),foldT] at hf
   rw [← hf] at hB
   simp only at hB
   have h1:=le_ev t E (by omega) (by rw [hEl];omega)
   have h2:=le_ev mk E (by omega) (by rw [hEl];omega)
   rw [hEl] at h1 h2
   cases c8:leM t.l en with
   | false =>
    rw [c8,Bool.false_and,if_neg (by decide)] at hB
    rw [c8] at h1
    rcases hH with rfl | ⟨w,rfl⟩
    ·simp [k0,k3,k5,k6,k8,k59,k60,k61,hlt',h1]
     exact BatQ2.mk hB (.inl ⟨rfl,rfl,rfl⟩)
    ·simp [k0,k3,k5,k6,k8,k59,k60,k61,hlt',h1]
     exact BatQ2.mk hB (.inl ⟨rfl,rfl,rfl⟩)
   | true =>
    rw [c8] at h1
    cases c9:leM mk.l en with
    | false =>
     rw [c8,c9,Bool.true_and,if_neg (by decide)] at hB
     rw [c9] at h2
     rcases hH with rfl | ⟨w,rfl⟩
     ·simp [k0,k3,k5,k6,k8,k59,k60,k61,hlt',h1,h2]
      exact BatQ2.mk hB (.inl ⟨rfl,rfl,rfl⟩)
     ·simp [k0,k3,k5,k6,k8,k59,k60,k61,hlt',h1,h2]
      exact BatQ2.mk hB (.inl ⟨rfl,rfl,rfl⟩)
    | true =>
     rw [c8,c9,Bool.true_and,if_pos rfl] at hB
     rw [c9] at h2
     subst hE
     by_cases hl0:l = []
     ·subst hl0
      have hn0:lS.nil = true:=by rw [hlS];rfl
      have hk0:¬ (k:Int) < 0:=by omega
      skip
      rcases hH with rfl | ⟨w,rfl⟩
      ·simp [k0,k3,k5,k6,k8,k59,k60,k61,h1,h2,hn0,hk0]
       exact BatQ2.mk hB (.inl ⟨rfl,rfl,rfl⟩)
      ·simp [k0,k3,k5,k6,k8,k59,k60,k61,h1,h2,hn0,hk0]
       exact BatQ2.mk hB (.inl ⟨rfl,rfl,rfl⟩)
     ·have hn0:lS.nil = false:=by rw [hlS];exact List.isEmpty_eq_false_iff.2 hl0
      have hb1:l.length * 104≤140737488355328:=by omega
      have hb2:l.length≤140737488355328:=by omega
      have hl1:¬ l.length = 0:=fun h=>hl0 (List.eq_nil_of_length_eq_zero h)
      rcases hH with rfl | ⟨w,rfl⟩
      ·simp [k0,k3,k5,k6,k8,k59,k60,k61,hlt',h1,h2,hn0,maxBytes,hb1,hb2,hl1,packN,idsT]
       exact BatQ2.mk hB (.inr ⟨hl0,_,_,rfl,rfl,rfl,rfl⟩)
      ·simp [k0,k3,k5,k6,k8,k59,k60,k61,hlt',h1,h2,hn0,maxBytes,hb1,hb2,hl1,packN,idsT]
       exact BatQ2.mk hB (.inr ⟨hl0,_,_,rfl,rfl,rfl,rfl⟩)
 ·refine call_runE (X:=cx) (f:=36) (args:=[.optr 0 4 0,.agg [.str p,.int .u64 e,.int .u64 n,(.vsl o.nil (ofBytes o.l) o.l.length)]]) (H:=[some [.int .u64 ep,.int .u64 la,.osl 1 n1 0 k1 39,(.vsl mk.nil (encs mk.l) mk.l.length)],some (encs its)]) (BatQ2 ⟨ep,la,its,mk⟩ ⟨p,e,n,o⟩) Tryz.func36 rfl ⟨rfl,rfl⟩ ?_
  by_cases c1:ep < e
  ·have hb:batR ⟨ep,la,its,mk⟩ ⟨p,e,n,o⟩ = (409,⟨ep,la,its,mk⟩):=by unfold batR;rw [if_pos c1]
   simp [Tryz.f36,c1]
   exact BatQ2.mk hb (.inr ⟨hne,n1,k1,hn1,hk1,rfl,rfl⟩)
  by_cases c2:n = la∧n≠0
  ·have hb:batR ⟨ep,la,its,mk⟩ ⟨p,e,n,o⟩ = (200,⟨ep,la,its,mk⟩):=by unfold batR;rw [if_neg c1,if_pos c2]
   obtain ⟨rfl,c3⟩:=c2
   simp [Tryz.f36,c1,c3]
   exact BatQ2.mk hb (.inr ⟨hne,n1,k1,hn1,hk1,rfl,rfl⟩)
  by_cases c3:n≠w1∨n = 0
  ·have hb:batR ⟨ep,la,its,mk⟩ ⟨p,e,n,o⟩ = (409,⟨ep,la,its,mk⟩):=by unfold batR;simp only;rw [if_neg c1,if_neg c2,if_pos (by rw [hw1];exact c3)]
   by_cases c4:n = la
   ·have c5:n = 0:=Classical.byContradiction fun h=>c2 ⟨c4,h⟩
    subst c4
    subst c5
    by_cases c6:(0:Int) = w1
    ·simp [Tryz.f36,c1]
     exact BatQ2.mk hb (.inr ⟨hne,n1,k1,hn1,hk1,rfl,rfl⟩)
    ·simp [Tryz.f36,c1]
     exact BatQ2.mk hb (.inr ⟨hne,n1,k1,hn1,hk1,rfl,rfl⟩)
   ·by_cases c6:n = w1
    ·have c5:n = 0:=c3.resolve_left fun h=>h c6
     subst c6
     subst c5
     simp [Tryz.f36,c1,hw1,c4]
     exact BatQ2.mk hb (.inr ⟨hne,n1,k1,hn1,hk1,rfl,rfl⟩)
    ·simp [Tryz.f36,c1,hw1,c4,c6]
     exact BatQ2.mk hb (.inr ⟨hne,n1,k1,hn1,hk1,rfl,rfl⟩)
  have c4:¬ n = la:=fun h=>c2 ⟨h,fun h0=>c3 (.inr h0)⟩
  have c5:n = w1:=Classical.byContradiction fun h=>c3 (.inl h)
  have c6:¬ n = 0:=fun h=>c3 (.inr h)
  have hB:batR ⟨ep,la,its,mk⟩ ⟨p,e,n,o⟩ = batG ⟨ep,la,its,mk⟩ n (getP o.l):=by
   unfold batR
   simp only
   rw [if_neg c1,if_neg c2,if_neg (by rw [hw1];exact c3)]
  unfold trD at hg
  obtain ⟨⟨l,en,c⟩,hgp⟩:∃ g,g = getP o.l:=⟨_,rfl⟩
  rw [← hgp] at hg hgl hgm hB
  unfold batG at hB
  simp only at hg hgl hgm hB
  clear hgp
  obtain ⟨lS,hlS⟩:∃ lS,lS = Sl.grown l:=⟨_,rfl⟩
  obtain ⟨E,hE⟩:∃ E,E = Sl.grown en:=⟨_,rfl⟩
  have hlSl:lS.l = l:=by rw [hlS];rfl
  have hEl:E.l = en:=by rw [hE];rfl
  rw [← hlS,← hE,hlSl,hEl] at hg
  subst c5
  by_cases c7:c = 0
  case neg =>
   rw [if_pos c7] at hB
   simp [Tryz.f36,c1,hw1,c4,c6,hg,c7]
   exact BatQ2.mk hB (.inr ⟨hne,n1,k1,hn1,hk1,rfl,rfl⟩)
  rw [if_neg (fun h=>h c7)] at hB
  simp [Tryz.f36,c1,hw1,c4,c6,hg,c7]
  refine Run.loopThen (fun (k:Nat × Sl Mk) e' H=>k.1≤l.length∧k.2.l.length≤mk.l.length+k.1∧foldT (l.drop k.1) k.2.l = foldT l mk.l∧(H = [some [.int .u64 ep,.int .u64 la,.osl 1 n1 0 k1 39,(.vsl mk.nil (encs mk.l) mk.l.length)],some (encs its),some [.str p,.int .u64 e,.int .u64 n,(.vsl o.nil (ofBytes o.l) o.l.length)]]∨∃ w,H = [some [.int .u64 ep,.int .u64 la,.osl 1 n1 0 k1 39,(.vsl mk.nil (encs mk.l) mk.l.length)],some (encs its),some [.str p,.int .u64 e,.int .u64 n,(.vsl o.nil (ofBytes o.l) o.l.length)],w]) ∧
   look e' 0 = some (.optr 0 4 0)∧look e' 3 = some (.optr 2 4 0)∧look e' 5 = some (.vsl lS.nil (encs l) l.length)∧look e' 6 = some (.vsl E.nil (encs en) en.length)∧look e' 8 = some (.vsl k.2.nil (encs k.2.l) k.2.l.length)∧look e' 59 = some (.vsl lS.nil (encs l) l.length)∧look e' 60 = some (.int .i64 l.length)∧look e' 61 = some (.int .i64 k.1)) (fun k=>l.length - k.1) (0,mk) ?_ ?_
  ·simp
  rintro ⟨k,t⟩ e' H ⟨hk,htl,hf,hH,k0,k3,k5,k6,k8,k59,k60,k61⟩
  simp only at hk htl hf k8 k61
  by_cases hlt:k < l.length
  ·have hlt':(k:Int) < (l.length:Int):=by omega
   have hw:IntKind.i64.wrap ((k:Int)+1) = ((k+1:Nat):Int):=by rw [wrap_i64] <;> omega
   have hnil:lS.nil = false:=Sl.nn (i:=k) (by rw [hlSl];exact hlt)
   have hea:List.drop (k * 39) (encs l) = Enc.cells l[k] ++ encs (l.drop (k+1)):=It.ea hlt
   have htk:=take_ev t (by omega) l[k] false
   have h39:39≤39+(l.length - (k+1)) * 39:=by omega
   rw [List.drop_eq_getElem_cons hlt,foldT] at hf
   have htl2:=takeL_len t.l l[k] false
   generalize l[k] = x at *
   by_cases c8:takeC t.l x = 0
   ·rw [if_pos c8] at hf
    rw [c8] at htk
    unfold resM at htk
    rw [if_pos rfl] at htk
    rcases hH with rfl | ⟨w,rfl⟩
    ·simp [-It.ea,k0,k3,k5,k6,k8,k59,k60,k61,hlt',hw,hnil,hea,htk,h39]
     exact ⟨k+1,by omega,by omega,.of (takeL t.l x false),by rw [Sl.of_l];omega,hf,⟨rfl,rfl,rfl⟩,by omega⟩
    ·simp [-It.ea,k0,k3,k5,k6,k8,k59,k60,k61,hlt',hw,hnil,hea,htk,h39]
     exact ⟨k+1,by omega,by omega,.of (takeL t.l x false),by rw [Sl.of_l];omega,hf,⟨rfl,rfl,rfl⟩,by omega⟩
   ·rw [if_neg c8] at hf
    rw [← hf] at hB
    unfold resM at htk
    rw [if_neg c8] at htk
    rcases hH with rfl | ⟨w,rfl⟩
    ·simp [-It.ea,k0,k3,k5,k6,k8,k59,k60,k61,hlt',hnil,hea,htk,h39,c8]
     exact BatQ2.mk hB (.inr ⟨hne,n1,k1,hn1,hk1,rfl,rfl⟩)
    ·simp [-It.ea,k0,k3,k5,k6,k8,k59,k60,k61,hlt',hnil,hea,htk,h39,c8]
     exact BatQ2.mk hB (.inr ⟨hne,n1,k1,hn1,hk1,rfl,rfl⟩)
  ·have hlt':¬ (k:Int) < (l.length:Int):=by omega
   rw [List.drop_eq_nil_of_le (by omega),foldT] at hf
   rw [← hf] at hB
   simp only at hB
   have h1:=le_ev t E (by omega) (by rw [hEl];omega)
   have h2:=le_ev mk E (by omega) (by rw [hEl];omega)
   rw [hEl] at h1 h2
   cases c8:leM t.l en with
   | false =>
    rw [c8,Bool.false_and,if_neg (by decide)] at hB
    rw [c8] at h1
    rcases hH with rfl | ⟨w,rfl⟩
    ·simp [k0,k3,k5,k6,k8,k59,k60,k61,hlt',h1]
     exact BatQ2.mk hB (.inr ⟨hne,n1,k1,hn1,hk1,rfl,rfl⟩)
    ·simp [k0,k3,k5,k6,k8,k59,k60,k61,hlt',h1]
     exact BatQ2.mk hB (.inr ⟨hne,n1,k1,hn1,hk1,rfl,rfl⟩)
   | true =>
    rw [c8] at h1
    cases c9:leM mk.l en with
    | false =>
     rw [c8,c9,Bool.true_and,if_neg (by decide)] at hB
     rw [c9] at h2
     rcases hH with rfl | ⟨w,rfl⟩
     ·simp [k0,k3,k5,k6,k8,k59,k60,k61,hlt',h1,h2]
      exact BatQ2.mk hB (.inr ⟨hne,n1,k1,hn1,hk1,rfl,rfl⟩)
     ·simp [k0,k3,k5,k6,k8,k59,k60,k61,hlt',h1,h2]
      exact BatQ2.mk hB (.inr ⟨hne,n1,k1,hn1,hk1,rfl,rfl⟩)
    | true =>
     rw [c8,c9,Bool.true_and,if_pos rfl] at hB
     rw [c9] at h2
     subst hE
     by_cases hl0:l = []
     ·subst hl0
      have hn0:lS.nil = true:=by rw [hlS];rfl
      have hk0:¬ (k:Int) < 0:=by omega
      have hle:(encs its).length = n1:=by rw [It.el,hn1]
      have hkn:k1 * 39 = n1:=by rw [hk1,hn1]
      have hb1:k1 * 104≤140737488355328:=by omega
      have hb2:k1≤140737488355328:=by omega
      rw [List.append_nil] at hB
      rcases hH with rfl | ⟨w,rfl⟩
      ·simp [k0,k3,k5,k6,k8,k59,k60,k61,h1,h2,hn0,hk0,maxBytes,hb1,hb2,hle,hkn]
       exact BatQ2.mk hB (.inr ⟨hne,n1,k1,hn1,hk1,rfl,rfl⟩)
      ·simp [k0,k3,k5,k6,k8,k59,k60,k61,h1,h2,hn0,hk0,maxBytes,hb1,hb2,hle,hkn]
       exact BatQ2.mk hB (.inr ⟨hne,n1,k1,hn1,hk1,rfl,rfl⟩)
     ·have hn0:lS.nil = false:=by rw [hlS];exact List.isEmpty_eq_false_iff.2 hl0
      have hle:(encs its).length = n1:=by rw [It.el,hn1]
      have hkn:k1 * 39 = n1:=by rw [hk1,hn1]
      have hb1:(k1+l.length) * 104≤140737488355328:=by omega
      have hb2:k1+l.length≤140737488355328:=by omega
      have hb3:List.take (l.length * 39) (encs l) = encs l:=List.take_of_length_le (by rw [It.el];omega)
      rcases hH with rfl | ⟨w,rfl⟩
      ·simp [k0,k3,k5,k6,k8,k59,k60,k61,hlt',h1,h2,hn0,maxBytes,hb1,hb2,hle,hkn]
       exact BatQ2.mk hB (.inr ⟨by simp [hne],_,_,by rw [List.length_append,Nat.add_mul,hn1],by rw [List.length_append,hk1],rfl,by rw [encs_append]⟩)
      ·simp [k0,k3,k5,k6,k8,k59,k60,k61,hlt',h1,h2,hn0,maxBytes,hb1,hb2,hle,hkn]
       exact BatQ2.mk hB (.inr ⟨by simp [hne],_,_,by rw [List.length_append,Nat.add_mul,hn1],by rw [List.length_append,hk1],rfl,by rw [encs_append]⟩)
end Go.Ev.S
namespace Go.Ev.S
open Go Go.Proofs Go.Ev
theorem cutpre_ev [MaxL] [TxtC] (s p:List UInt8) (hs:s.length < 1000000) (hp:p.length < 1000000):call cx 126 [.str s,.str p] [] = some (.tup [.str (if pre p s then s.drop p.length else s),.bool (pre p s)],[]):=by
 have h:=pfx_ev s p hs hp
 have h2:call cx 155 [.str s,.str p] [] = some (.tup [.str (if pre p s then s.drop p.length else s),.bool (pre p s)],[]):=by
  refine call_run Tryz.func155 rfl ⟨rfl,rfl⟩ ?_
  cases hq:pre p s with
  | true =>
   have:=pre_len hq
   have g:(p.length:Int)≤(s.length:Int):=by omega
   rw [hq] at h
   simp [Tryz.f155,h,g]
   exact List.take_of_length_le (by simp)
  | false =>
   rw [hq] at h
   simp [Tryz.f155,h]
 refine call_run Tryz.func126 rfl ⟨rfl,rfl⟩ ?_
 simp [Tryz.f126,h2]
end Go.Ev.S
namespace Go.Ev.S
open Go Go.Proofs Go.Ev
theorem dec_ev [MaxL] [TxtC] (v:Nat) (hv:v < 18446744073709551616):call cx 130 [.int .u64 v] [] = some (.str (dec v),[]):=by
 have h:=fu_ev v hv
 refine call_run Tryz.func130 rfl ⟨rfl,rfl⟩ ?_
 simp [Tryz.f130,h]
theorem head_ev [MaxL] [TxtC] (b:List UInt8) (hb:b.length≤1000) (e n l:Nat) (he:e < 18446744073709551616) (hn:n < 18446744073709551616) (hl:l < 18446744073709551616) :
  call cx 86 [.str b,.int .u64 e,.int .u64 n,.int .u64 l] [] = some (.str (b ++ numsL e n l),[]):=by
 have h1:=dec_ev e he
 have h2:=dec_ev n hn
 have h3:=dec_ev l hl
 have l1:=dec_len e
 have l2:=dec_len n
 have l3:=dec_len l
 unfold numsL
 generalize dec e = x at *
 generalize dec n = y at *
 generalize dec l = z at *
 clear he hn hl
 obtain ⟨s1,es1⟩:∃ s,s = b ++ epochL:=⟨_,rfl⟩
 have ls1:s1.length = b.length+epochL.length:=by rw [es1,List.length_append]
 obtain ⟨s2,es2⟩:∃ s,s = s1 ++ x:=⟨_,rfl⟩
 have ls2:s2.length = s1.length+x.length:=by rw [es2,List.length_append]
 obtain ⟨s3,es3⟩:∃ s,s = s2 ++ crlf:=⟨_,rfl⟩
 have ls3:s3.length = s2.length+crlf.length:=by rw [es3,List.length_append]
 obtain ⟨s4,es4⟩:∃ s,s = s3 ++ numberL:=⟨_,rfl⟩
 have ls4:s4.length = s3.length+numberL.length:=by rw [es4,List.length_append]
 obtain ⟨s5,es5⟩:∃ s,s = s4 ++ y:=⟨_,rfl⟩
 have ls5:s5.length = s4.length+y.length:=by rw [es5,List.length_append]
 obtain ⟨s6,es6⟩:∃ s,s = s5 ++ crlf:=⟨_,rfl⟩
 have ls6:s6.length = s5.length+crlf.length:=by rw [es6,List.length_append]
 obtain ⟨s7,es7⟩:∃ s,s = s6 ++ lengthL:=⟨_,rfl⟩
 have ls7:s7.length = s6.length+lengthL.length:=by rw [es7,List.length_append]
 obtain ⟨s8,es8⟩:∃ s,s = s7 ++ z:=⟨_,rfl⟩
 have ls8:s8.length = s7.length+z.length:=by rw [es8,List.length_append]
 obtain ⟨s9,es9⟩:∃ s,s = s8 ++ crlf:=⟨_,rfl⟩
 have ls9:s9.length = s8.length+crlf.length:=by rw [es9,List.length_append]
 obtain ⟨s10,es10⟩:∃ s,s = s9 ++ crlf:=⟨_,rfl⟩
 have ls10:s10.length = s9.length+crlf.length:=by rw [es10,List.length_append]
 simp only [epochL,numberL,lengthL,crlf,List.length_cons,List.length_nil] at ls1 ls2 ls3 ls4 ls5 ls6 ls7 ls8 ls9 ls10
 have cs1:=cat_of es1 (by (try simp only [epochL,List.length_cons,List.length_nil]);omega)
 have cs2:=cat_of es2 (by (try simp only [epochL,numberL,lengthL,crlf,List.length_cons,List.length_nil]);omega)
 have cs3:=cat_of es3 (by (try simp only [crlf,List.length_cons,List.length_nil]);omega)
 have cs4:=cat_of es4 (by (try simp only [numberL,List.length_cons,List.length_nil]);omega)
 have cs5:=cat_of es5 (by (try simp only [epochL,numberL,lengthL,crlf,List.length_cons,List.length_nil]);omega)
 have cs6:=cat_of es6 (by (try simp only [crlf,List.length_cons,List.length_nil]);omega)
 have cs7:=cat_of es7 (by (try simp only [lengthL,List.length_cons,List.length_nil]);omega)
 have cs8:=cat_of es8 (by (try simp only [epochL,numberL,lengthL,crlf,List.length_cons,List.length_nil]);omega)
 have cs9:=cat_of es9 (by (try simp only [crlf,List.length_cons,List.length_nil]);omega)
 have cs10:=cat_of es10 (by (try simp only [crlf,List.length_cons,List.length_nil]);omega)
 simp only [epochL,numberL,lengthL,crlf] at cs1 cs2 cs3 cs4 cs5 cs6 cs7 cs8 cs9 cs10
 have hfin:b ++ (epochL ++ (x ++ (crlf ++ (numberL ++ (y ++ (crlf ++ (lengthL ++ (z ++ (crlf ++ crlf))))))))) = s10:=by
  simp [es10,es9,es8,es7,es6,es5,es4,es3,es2,es1]
 rw [hfin]
 clear hfin es1 es2 es3 es4 es5 es6 es7 es8 es9 es10 ls1 ls2 ls3 ls4 ls5 ls6 ls7 ls8 ls9 ls10 l1 l2 l3 hb
 refine call_run Tryz.func86 rfl ⟨rfl,rfl⟩ ?_
 simp [Tryz.f86,h1,h2,h3,-Go.Ev.strD,cs1,cs2,cs3,cs4,cs5,cs6,cs7,cs8,cs9,cs10]
def putH (b:List UInt8) (e n:Nat) (body:List UInt8):Sl UInt8:=if 65536 < body.length then .none else .of (b ++ (numsL e n body.length ++ body))
theorem put_ev [MaxL] [TxtC] (b:List UInt8) (hb:b.length≤1000) (e n:Nat) (he:e < 18446744073709551616) (hn:n < 18446744073709551616) (body:Sl UInt8) (hl:body.l.length≤100000) :
  call cx 52 [.str b,.int .u64 e,.int .u64 n,(.vsl body.nil (ofBytes body.l) body.l.length)] [] = some ((.vsl (putH b e n body.l).nil (ofBytes (putH b e n body.l).l) (putH b e n body.l).l.length),[]):=by
 refine call_run Tryz.func52 rfl ⟨rfl,rfl⟩ ?_
 unfold putH
 by_cases h:65536 < body.l.length
 ·have h':(65536:Int) < (body.l.length:Int):=by omega
  simp [Tryz.f52,h,h']
 ·have h':¬ (65536:Int) < (body.l.length:Int):=by omega
  have h1:=head_ev b hb e n body.l.length he hn (by omega)
  have hw:IntKind.u64.wrap (body.l.length:Int) = (body.l.length:Int):=by rw [wrap_u64];omega
  have hx:=nums_len e n body.l.length
  generalize numsL e n body.l.length = x at *
  have hm:b.length+(x.length+body.l.length)≤maxBytes:=by unfold maxBytes;omega
  simp [Tryz.f52,h,h',h1,hw,hm,ofBytes_append,List.take_of_length_le,Nat.add_assoc]
def postL:List UInt8:=[80,79,83,84,32]
def httpL:List UInt8:=[32,72,84,84,80,47,49,46,49]
def hostL:List UInt8:=[72,111,115,116,58,32,114,101,99,101,105,118,101,114]
def ctypeL:List UInt8:=[67,111,110,116,101,110,116,45,84,121,112,101,58,32,97,112,112,108,105,99,97,116,105,111,110,47,118,110,100,46,102,100,111,46,106,111,117,114,110,97,108]
def beginL (p:List UInt8):List UInt8:=postL ++ (p ++ (httpL ++ (crlf ++ (hostL ++ (crlf ++ (ctypeL ++ crlf))))))
theorem begin_len (p:List UInt8):(beginL p).length = p.length+75:=by
 simp [beginL,postL,httpL,hostL,ctypeL,crlf]
theorem begin_ev [MaxL] [TxtC] (p:List UInt8) (hp:p.length≤100):call cx 50 [.str p] [] = some (.str (beginL p),[]):=by
 obtain ⟨s1,es1⟩:∃ s,s = postL ++ p:=⟨_,rfl⟩
 have ls1:s1.length = postL.length+p.length:=by rw [es1,List.length_append]
 obtain ⟨s2,es2⟩:∃ s,s = s1 ++ httpL:=⟨_,rfl⟩
 have ls2:s2.length = s1.length+httpL.length:=by rw [es2,List.length_append]
 obtain ⟨s3,es3⟩:∃ s,s = s2 ++ crlf:=⟨_,rfl⟩
 have ls3:s3.length = s2.length+crlf.length:=by rw [es3,List.length_append]
 obtain ⟨s4,es4⟩:∃ s,s = s3 ++ hostL:=⟨_,rfl⟩
 have ls4:s4.length = s3.length+hostL.length:=by rw [es4,List.length_append]
 obtain ⟨s5,es5⟩:∃ s,s = s4 ++ crlf:=⟨_,rfl⟩
 have ls5:s5.length = s4.length+crlf.length:=by rw [es5,List.length_append]
 obtain ⟨s6,es6⟩:∃ s,s = s5 ++ ctypeL:=⟨_,rfl⟩
 have ls6:s6.length = s5.length+ctypeL.length:=by rw [es6,List.length_append]
 obtain ⟨s7,es7⟩:∃ s,s = s6 ++ crlf:=⟨_,rfl⟩
 have ls7:s7.length = s6.length+crlf.length:=by rw [es7,List.length_append]
 simp only [postL,httpL,hostL,ctypeL,crlf,List.length_cons,List.length_nil] at ls1 ls2 ls3 ls4 ls5 ls6 ls7
 have cs1:=cat_of es1 (by (try simp only [postL,List.length_cons,List.length_nil]);omega)
 have cs2:=cat_of es2 (by (try simp only [httpL,List.length_cons,List.length_nil]);omega)
 have cs3:=cat_of es3 (by (try simp only [crlf,List.length_cons,List.length_nil]);omega)
 have cs4:=cat_of es4 (by (try simp only [hostL,List.length_cons,List.length_nil]);omega)
 have cs5:=cat_of es5 (by (try simp only [crlf,List.length_cons,List.length_nil]);omega)
 have cs6:=cat_of es6 (by (try simp only [ctypeL,List.length_cons,List.length_nil]);omega)
 have cs7:=cat_of es7 (by (try simp only [crlf,List.length_cons,List.length_nil]);omega)
 simp only [postL,httpL,hostL,ctypeL,crlf] at cs1 cs2 cs3 cs4 cs5 cs6 cs7
 have hfin:beginL p = s7:=by
  simp [beginL,es7,es6,es5,es4,es3,es2,es1]
 rw [hfin]
 clear hfin es1 es2 es3 es4 es5 es6 es7 ls1 ls2 ls3 ls4 ls5 ls6 ls7 hp
 refine call_run Tryz.func50 rfl ⟨rfl,rfl⟩ ?_
 simp [Tryz.f50,-Go.Ev.strD,cs1,cs2,cs3,cs4,cs5,cs6,cs7]
def okStr:List UInt8:=[50,48,48,32,79,75]
def badStr:List UInt8:=[52,48,48,32,66,97,100,32,82,101,113,117,101,115,116]
def conStr:List UInt8:=[52,48,57,32,67,111,110,102,108,105,99,116]
def statusL (n:Int):List UInt8:=[72,84,84,80,47,49,46,49,32] ++ ((if n = 400 then badStr else if n = 409 then conStr else okStr) ++ [13,10])
theorem status_ev [MaxL] [TxtC] (n:Int):call cx 49 [.int .i64 n] [] = some (.str (statusL n),[]):=by
 refine call_run Tryz.func49 rfl ⟨rfl,rfl⟩ ?_
 unfold statusL
 by_cases h1:n = 400
 ·simp [Tryz.f49,h1,badStr]
 ·by_cases h2:n = 409
  ·simp [Tryz.f49,h2,conStr]
  ·simp [Tryz.f49,h1,h2,okStr]
def helloL:List UInt8:=[47,104,101,108,108,111]
def batchL:List UInt8:=[47,98,97,116,99,104]
theorem path_ev [MaxL] [TxtC] (s:List UInt8):call cx 51 [.str s] [] = some (.bool (s == helloL || s == batchL),[]):=by
 refine call_run Tryz.func51 rfl ⟨rfl,rfl⟩ ?_
 have h1:(s == [47,104,101,108,108,111]) = (s == helloL):=rfl
 have h2:(s == [47,98,97,116,99,104]) = (s == batchL):=rfl
 cases h:s == helloL
 ·rw [h] at h1
  cases h':s == batchL <;> rw [h'] at h2 <;> simp [Tryz.f51,h1,h2]
 ·rw [h] at h1
  simp [Tryz.f51,h1]
def putRq (r:Rq):Sl UInt8:=if r.path == helloL || r.path == batchL then putH (beginL r.path) r.epoch.toNat r.number.toNat r.body.l else .none
def putRs (r:Rs):Sl UInt8:=if r.status = 200∨r.status = 400∨r.status = 409 then putH (statusL r.status) r.epoch.toNat r.number.toNat r.body.l else .none
theorem putrq_ev [MaxL] [TxtC] (r:Rq) (he:isU64 r.epoch) (hn:isU64 r.number) (hp:r.path.length≤100) (hb:r.body.l.length≤100000):call cx 28 [.agg (Enc.cells r)] [] = some ((.vsl (putRq r).nil (ofBytes (putRq r).l) (putRq r).l.length),[]):=by
 have h1:=path_ev r.path
 have h2:=begin_ev r.path hp
 have h3:=put_ev (beginL r.path) (by rw [begin_len];omega) r.epoch.toNat r.number.toNat (by unfold isU64 at he;omega) (by unfold isU64 at hn;omega) r.body hb
 have e1:((r.epoch.toNat:Nat):Int) = r.epoch:=by unfold isU64 at he;omega
 have e2:((r.number.toNat:Nat):Int) = r.number:=by unfold isU64 at hn;omega
 rw [e1,e2] at h3
 refine call_run Tryz.func28 rfl ⟨rfl,rfl⟩ ?_
 unfold putRq
 generalize putH (beginL r.path) r.epoch.toNat r.number.toNat r.body.l = x at *
 cases h:(r.path == helloL || r.path == batchL)
 ·rw [h] at h1
  simp [Tryz.f28,Rq.cells,h1]
 ·rw [h] at h1
  simp [Tryz.f28,Rq.cells,h1,h2,h3]
theorem status_len (n:Int):(statusL n).length≤30:=by
 unfold statusL
 split
 ·decide
 ·split <;> decide
theorem putrs_ev [MaxL] [TxtC] (r:Rs) (he:isU64 r.epoch) (hn:isU64 r.number) (hb:r.body.l.length≤100000):call cx 34 [.agg (Enc.cells r)] [] = some ((.vsl (putRs r).nil (ofBytes (putRs r).l) (putRs r).l.length),[]):=by
 have h2:=status_ev r.status
 have h3:=put_ev (statusL r.status) (by have:=status_len r.status;omega) r.epoch.toNat r.number.toNat (by unfold isU64 at he;omega) (by unfold isU64 at hn;omega) r.body hb
 have e1:((r.epoch.toNat:Nat):Int) = r.epoch:=by unfold isU64 at he;omega
 have e2:((r.number.toNat:Nat):Int) = r.number:=by unfold isU64 at hn;omega
 rw [e1,e2] at h3
 refine call_run Tryz.func34 rfl ⟨rfl,rfl⟩ ?_
 unfold putRs
 generalize putH (statusL r.status) r.epoch.toNat r.number.toNat r.body.l = x at *
 by_cases a1:r.status = 200
 ·rw [a1] at h2 h3
  simp [Tryz.f34,Rs.cells,a1,h2,h3]
 ·by_cases a2:r.status = 400
  ·rw [a2] at h2 h3
   simp [Tryz.f34,Rs.cells,a2,h2,h3]
  ·by_cases a3:r.status = 409
   ·rw [a3] at h2 h3
    simp [Tryz.f34,Rs.cells,a3,h2,h3]
   ·simp [Tryz.f34,Rs.cells,a1,a2,a3]
end Go.Ev.S
namespace Go.Ev.S
open Go Go.Proofs Go.Ev
def lineP (line rest:List UInt8):Option (Nat × List UInt8):=match pu 10 (trimL line (cutL crlf rest).1) with
 | none=>none
 | some v=>some (v,(cutL crlf rest).2.1)
def numbersP (s b:List UInt8):Option (Nat × Nat × Nat):=if pre b s then
 match lineP epochL (s.drop b.length) with
 | none=>none
 | some (x,r1)=>match lineP numberL r1 with
  | none=>none
  | some (y,r2)=>match lineP lengthL r2 with
   | none=>none
   | some (z,_)=>if b ++ numsL x y z = s then some (x,y,z) else none
 else none
theorem hline_ev [MaxL] [TxtC] (rest line:List UInt8) (hr:rest.length < 100000) (hl:line.length < 100) :
  ∃ a f,call cx 127 [.str rest,.str [13,10]] [] = some (.tup [.str a,.str (cutL crlf rest).2.1,.bool f],[])∧call cx 129 [.str a,.str line] [] = some (.str (trimL line a),[]) ∧
   ((∃ v,lineP line rest = some (v,(cutL crlf rest).2.1)∧v < 18446744073709551616∧call cx 128 [.str (trimL line a),.int .i64 10,.int .i64 64] [] = some (.tup [.int .u64 (v:Nat),.nili],[])) ∨
   (lineP line rest = none∧∃ (x:Nat) (d:List D),call cx 128 [.str (trimL line a),.int .i64 10,.int .i64 64] [] = some (.tup [.int .u64 x,.iface 232 (.vptr d)],[]))):=by
 have h1:=cut_ev rest crlf (by omega) (by decide)
 have hc:=cut_len crlf rest
 have h2:=trim_ev (cutL crlf rest).1 line (by omega) (by omega)
 refine ⟨(cutL crlf rest).1,(cutL crlf rest).2.2,h1,h2,?_⟩
 unfold lineP
 have ht:=trim_len line (cutL crlf rest).1
 rcases pu_ev 10 (.inl rfl) (trimL line (cutL crlf rest).1) (by omega) with ⟨v,e1,e2⟩ | ⟨e1,x,d,e2⟩
 ·refine .inl ⟨v,by rw [e1],?_,e2⟩
  unfold pu at e1
  split at e1
  ·cases e1
  ·exact puGo_lt 10 _ _ _ (by decide) e1
 ·exact .inr ⟨by rw [e1],x,d,e2⟩
def numI (r0:List UInt8):Nat→Nat→Nat→Nat→List UInt8→Prop
 | 0,x,y,z,r=>x = 0∧y = 0∧z = 0∧r = r0
 | 1,x,y,z,r=>lineP epochL r0 = some (x,r)∧y = 0∧z = 0
 | 2,x,y,z,r=>z = 0∧∃ r1,lineP epochL r0 = some (x,r1)∧lineP numberL r1 = some (y,r)
 | _,x,y,z,r=>∃ r1 r2,lineP epochL r0 = some (x,r1)∧lineP numberL r1 = some (y,r2)∧lineP lengthL r2 = some (z,r)
set_option maxHeartbeats 2000000 in
theorem numbers_ev [MaxL] [TxtC] (s b:List UInt8) (hs:s.length < 100000) (hb:b.length≤1000) :
  (∃ x y z,numbersP s b = some (x,y,z)∧call cx 84 [.str s,.str b] [] = some (.tup [.agg [.int .u64 (x:Nat),.int .u64 (y:Nat),.int .u64 (z:Nat)],.bool true],[])) ∨
  (numbersP s b = none∧∃ x y z:Nat,call cx 84 [.str s,.str b] [] = some (.tup [.agg [.int .u64 x,.int .u64 y,.int .u64 z],.bool false],[])):=by
 suffices h:∃ r,call cx 84 [.str s,.str b] [] = some r∧((∃ x y z:Nat,numbersP s b = some (x,y,z)∧r = (.tup [.agg [.int .u64 x,.int .u64 y,.int .u64 z],.bool true],[]))∨(numbersP s b = none∧∃ x y z:Nat,r = (.tup [.agg [.int .u64 x,.int .u64 y,.int .u64 z],.bool false],[]))) by
  obtain ⟨r,h1,⟨x,y,z,h2,rfl⟩ | ⟨h2,x,y,z,rfl⟩⟩:=h
  ·exact .inl ⟨x,y,z,h2,h1⟩
  ·exact .inr ⟨h2,x,y,z,h1⟩
 refine call_runE (fun r=>(∃ x y z:Nat,numbersP s b = some (x,y,z)∧r = (D.tup [.agg [.int .u64 x,.int .u64 y,.int .u64 z],.bool true],[]))∨(numbersP s b = none∧∃ x y z:Nat,r = (D.tup [.agg [.int .u64 x,.int .u64 y,.int .u64 z],.bool false],[]))) Tryz.func84 rfl ⟨rfl,rfl⟩ ?_
 have h0:=cutpre_ev s b (by omega) (by omega)
 cases hp:pre b s with
 | false =>
  rw [hp] at h0
  simp [Tryz.f84,h0,numbersP,hp]
  exact ⟨0,rfl⟩
 | true =>
  rw [hp,if_pos rfl] at h0
  have hN:numbersP s b = match lineP epochL (s.drop b.length) with
    | none=>none
    | some (x,r1)=>match lineP numberL r1 with
     | none=>none
     | some (y,r2)=>match lineP lengthL r2 with
      | none=>none
      | some (z,_)=>if b ++ numsL x y z = s then some (x,y,z) else none:=by rw [numbersP,if_pos hp]
  obtain ⟨r0,hr0⟩:∃ r,r = s.drop b.length:=⟨_,rfl⟩
  rw [← hr0] at hN h0
  have hr0l:r0.length≤s.length:=by rw [hr0];simp
  simp [Tryz.f84,h0]
  refine Run.loopThen (fun (q:Nat × Nat × Nat × Nat × List UInt8) e H'=>q.1≤3∧q.2.2.2.2.length≤s.length∧q.2.1 < 18446744073709551616∧q.2.2.1 < 18446744073709551616∧q.2.2.2.1 < 18446744073709551616∧numI r0 q.1 q.2.1 q.2.2.1 q.2.2.2.1 q.2.2.2.2 ∧
   H' = [some [.int .u64 0,.int .u64 0,.int .u64 0],some [.int .u64 (q.2.1:Nat),.int .u64 (q.2.2.1:Nat),.int .u64 (q.2.2.2.1:Nat)],some [.str epochL,.str numberL,.str lengthL]] ∧
   look e 0 = some (.str s)∧look e 1 = some (.str b)∧look e 4 = some (.optr 0 3 0)∧look e 6 = some (.optr 1 3 0)∧look e 7 = some (.str q.2.2.2.2)∧look e 25 = some (.osl 2 3 0 3 1)∧look e 26 = some (.int .i64 3)∧look e 27 = some (.int .i64 (q.1:Nat))) (fun q=>3 - q.1) (0,0,0,0,r0) ?_ ?_
  ·simp [numI,hr0l,epochL,numberL,lengthL]
  rintro ⟨i,x,y,z,r⟩ e H' ⟨hi,hrl,hx,hy,hz,hI,rfl,k0,k1,k4,k6,k7,k25,k26,k27⟩
  simp only at hi hrl hx hy hz hI k7 k27
  have hcut:=cut_len crlf r
  have:i = 0∨i = 1∨i = 2∨i = 3:=by omega
  rcases this with rfl | rfl | rfl | rfl
  ·obtain ⟨rfl,rfl,rfl,rfl⟩:=hI
   obtain ⟨a,f,c1,c2,⟨v,c3,hv,c4⟩ | ⟨c3,xx,d,c4⟩⟩:=hline_ev r epochL (by omega) (by decide)
   ·simp [k0,k1,k4,k6,k7,k25,k26,k27,c1,c2,c4]
    exact ⟨1,by omega,by omega,v,0,0,_,by omega,hv,by omega,by omega,⟨c3,rfl,rfl⟩,⟨rfl,rfl,rfl⟩,rfl,rfl⟩
   ·rw [c3] at hN
    simp [k0,k1,k4,k6,k7,k25,k26,k27,c1,c2,c4]
    exact ⟨hN,0,rfl⟩
  ·obtain ⟨hI1,rfl,rfl⟩:=hI
   obtain ⟨a,f,c1,c2,⟨v,c3,hv,c4⟩ | ⟨c3,xx,d,c4⟩⟩:=hline_ev r numberL (by omega) (by decide)
   ·simp [k0,k1,k4,k6,k7,k25,k26,k27,c1,c2,c4]
    exact ⟨2,by omega,by omega,x,v,0,_,by omega,hx,hv,by omega,⟨rfl,_,hI1,c3⟩,⟨rfl,rfl,rfl⟩,rfl,rfl⟩
   ·rw [hI1] at hN
    simp only [c3] at hN
    simp [k0,k1,k4,k6,k7,k25,k26,k27,c1,c2,c4]
    exact ⟨hN,⟨x,rfl⟩,0,rfl⟩
  ·obtain ⟨rfl,r1,hI1,hI2⟩:=hI
   obtain ⟨a,f,c1,c2,⟨v,c3,hv,c4⟩ | ⟨c3,xx,d,c4⟩⟩:=hline_ev r lengthL (by omega) (by decide)
   ·simp [k0,k1,k4,k6,k7,k25,k26,k27,c1,c2,c4]
    exact ⟨3,by omega,by omega,x,y,v,_,by omega,hx,hy,hv,⟨_,_,hI1,hI2,c3⟩,⟨rfl,rfl,rfl⟩,rfl,rfl⟩
   ·rw [hI1] at hN
    simp only [hI2,c3] at hN
    simp [k0,k1,k4,k6,k7,k25,k26,k27,c1,c2,c4]
    exact ⟨hN,⟨x,rfl⟩,⟨y,rfl⟩,0,rfl⟩
  ·obtain ⟨r1,r2,hI1,hI2,hI3⟩:=hI
   rw [hI1] at hN
   simp only [hI2,hI3] at hN
   have hh:=head_ev b hb x y z hx hy hz
   by_cases he:b ++ numsL x y z = s
   ·rw [if_pos he] at hN
    rw [he] at hh
    simp [k0,k1,k4,k6,k7,k25,k26,k27,hh]
    exact ⟨x,y,z,hN,rfl,rfl,rfl⟩
   ·rw [if_neg he] at hN
    have he':(b ++ numsL x y z == s) = false:=by simpa using he
    generalize b ++ numsL x y z = w at *
    simp [k0,k1,k4,k6,k7,k25,k26,k27,hh,he']
    exact ⟨hN,⟨x,rfl⟩,⟨y,rfl⟩,z,rfl⟩
end Go.Ev.S
namespace Go.Ev.S
open Go Go.Proofs Go.Ev
def stopL:List UInt8:=[13,10,13,10]
def readB (s:List UInt8) (body:List UInt8):List (List UInt8)→Nat→Msg × Int
 | [],_=>(.zero,20)
 | b :: l,k=>match numbersP s b with
  | none=>readB s body l (k+1)
  | some (x,y,z)=>if 65536 < z then (.zero,21) else if body.length < z then (.zero,22) else if z < body.length then (.zero,21) else (⟨k,x,y,.of body⟩,0)
def readP (b:List UInt8) (l:List (List UInt8)):Msg × Int:=if idxN stopL b 0 = -1 then (.zero,22) else readB (b.take ((idxN stopL b 0).toNat+4)) (b.drop ((idxN stopL b 0).toNat+4)) l 0
theorem hbidx_ev [MaxL] [TxtC] (b:Sl UInt8) (hb:b.l.length≤100000):call cx 83 [(.vsl b.nil (ofBytes b.l) b.l.length),.vsl false [.int .u8 13,.int .u8 10,.int .u8 13,.int .u8 10] 4] [] = some (.int .i64 (idxN stopL b.l 0),[]):=by
 refine call_con ?_
 have e:[D.int .u8 13,.int .u8 10,.int .u8 13,.int .u8 10] = ofBytes stopL:=rfl
 rw [co83,e]
 simp only [conBIdx,bytesR_of]
 rw [if_pos ⟨trivial,rfl,by decide,by omega,by decide⟩]
structure StrE where
 s:List UInt8
instance:Enc StrE:=⟨1,fun p=>[.str p.s],fun _=>rfl,fun _=>rfl⟩
set_option maxHeartbeats 2000000 in
theorem hread_ev [MaxL] [TxtC] (b:Sl UInt8) (hb:b.l.length≤90000) (l:List (List UInt8)) (hl:l.length≤3) (hl2:∀ x∈l,x.length≤1000) :
  call cx 48 [(.vsl b.nil (ofBytes b.l) b.l.length),.vsl false (l.map D.str) l.length] [] = some (.tup [.agg (Enc.cells (readP b.l l).1),.int .i64 (readP b.l l).2],[]):=by
 have hi:=hbidx_ev b (by omega)
 refine call_run Tryz.func48 rfl ⟨rfl,rfl⟩ ?_
 unfold readP
 rcases idx_cases stopL b.l 0 with ⟨i,h1,h2,-⟩ | h1
 ·rw [h1] at hi
  rw [h1,if_neg (by omega)]
  have e0:((0+i:Nat):Int).toNat = i:=by omega
  rw [e0]
  have h2':i+4≤b.l.length:=h2
  rw [Nat.zero_add] at hi
  have hi0:¬ (i:Int) < 0:=by omega
  obtain ⟨j,hj⟩:∃ j,j = i+4:=⟨_,rfl⟩
  have hw:IntKind.i64.wrap ((i:Int)+4) = (j:Int):=by rw [wrap_i64] <;> omega
  have g1:(j:Int)≤(b.l.length:Int):=by omega
  have g2:j≤b.l.length:=by omega
  rw [← hj]
  have t1:List.take j (ofBytes b.l) = ofBytes (b.l.take j):=ofBytes_take _ _
  have t2:List.drop j (ofBytes b.l) = ofBytes (b.l.drop j):=ofBytes_drop _ _
  have hsl:(b.l.take j).length = j:=by rw [List.length_take];omega
  have hbl:(b.l.drop j).length = b.l.length - j:=List.length_drop ..
  have hbn:b.nil = false:=by
   cases hn:b.nil with
   | false=>rfl
   | true=>have:=b.h hn;rw [this] at g2;simp at g2;omega
  generalize b.l.take j = s at *
  generalize hbd:b.l.drop j = body at *
  have hbl2:body.length≤90000:=by omega
  have t3:List.take (b.l.length - j) (ofBytes body) = ofBytes body:=List.take_of_length_le (by simp;omega)
  rw [hbn] at hi
  simp [Tryz.f48,hi,hi0,hw,g1,t1,t2,t3,hbn,hsl]
  generalize b.l.length - j = bl at *
  have wb:IntKind.u64.wrap (bl:Int) = (bl:Int):=by rw [wrap_u64];omega
  have ex:∀ k x,l[k]? = some x→(l.map D.str).drop k = .str x :: (l.map D.str).drop (k+1):=fun k x hk=>by
   have hlt:k < l.length:=(List.getElem?_eq_some_iff.1 hk).1
   rw [List.drop_eq_getElem_cons (by simpa using hlt)]
   congr 1
   rw [List.getElem?_eq_getElem hlt] at hk
   simp [Option.some.inj hk]
  refine Run.loopThen (fun (k:Nat) e H'=>k≤l.length∧readB s body (l.drop k) k = readB s body l 0 ∧
   ((H' = [some [.int .i64 0,.int .u64 0,.int .u64 0,.vsl true [] 0],some [.int .u8 13,.int .u8 10,.int .u8 13,.int .u8 10]])∨∃ w,H' = [some [.int .i64 0,.int .u64 0,.int .u64 0,.vsl true [] 0],some [.int .u8 13,.int .u8 10,.int .u8 13,.int .u8 10],w]) ∧
   look e 4 = some (.optr 0 4 0)∧look e 8 = some (.str s)∧look e 9 = some (.vsl false (ofBytes body) bl)∧look e 35 = some (.vsl false (l.map D.str) l.length)∧look e 36 = some (.int .i64 l.length)∧look e 37 = some (.int .i64 k)) (fun k=>l.length - k) 0 ?_ ?_
  ·simp
  rintro k e H' ⟨hk,hr,hH,k4,k8,k9,k35,k36,k37⟩
  by_cases hlt:k < l.length
  ·have hlt':(k:Int) < (l.length:Int):=by omega
   have hx:=ex k l[k] (List.getElem?_eq_getElem hlt)
   have hw2:IntKind.i64.wrap ((k:Int)+1) = ((k+1:Nat):Int):=by rw [wrap_i64] <;> omega
   rw [List.drop_eq_getElem_cons hlt,readB] at hr
   have hcl:=bytesclone_ev (.of body) (by simp;omega)
   simp at hcl
   rw [hbl] at hcl
   rcases numbers_ev s l[k] (by omega) (hl2 _ (List.getElem_mem hlt)) with ⟨x,y,z,n1,n2⟩ | ⟨n1,x,y,z,n2⟩
   ·rw [n1] at hr
    simp only at hr
    rw [← hr,hbl]
    by_cases z1:65536 < z
    ·have z1':(65536:Int) < (z:Int):=by omega
     rcases hH with rfl | ⟨w,rfl⟩ <;> simp [k4,k8,k9,k35,k36,k37,hlt',hx,n2,z1,z1']
     ·rfl
     ·rfl
    ·have z1':¬ (65536:Int) < (z:Int):=by omega
     by_cases z2:bl < z
     ·have z2':(bl:Int) < (z:Int):=by omega
      rcases hH with rfl | ⟨w,rfl⟩ <;> simp [k4,k8,k9,k35,k36,k37,hlt',hx,n2,z1,z1',z2,z2',wb]
      ·rfl
      ·rfl
     ·have z2':¬ (bl:Int) < (z:Int):=by omega
      by_cases z3:z < bl
      ·have z3':(z:Int) < (bl:Int):=by omega
       rcases hH with rfl | ⟨w,rfl⟩ <;> simp [k4,k8,k9,k35,k36,k37,hlt',hx,n2,z1,z1',z2,z2',z3,z3',wb]
       ·rfl
       ·rfl
      ·have z3':¬ (z:Int) < (bl:Int):=by omega
       rcases hH with rfl | ⟨w,rfl⟩ <;> simp [k4,k8,k9,k35,k36,k37,hlt',hx,n2,z1,z1',z2,z2',z3,z3',wb,hcl]
       ·simp [Msg.cells,hbl]
       ·simp [Msg.cells,hbl]
   ·rw [n1] at hr
    simp only at hr
    rcases hH with rfl | ⟨w,rfl⟩ <;> simp [k4,k8,k9,k35,k36,k37,hlt',hx,n2,hw2]
    ·exact ⟨k+1,by omega,by omega,hr,by simp⟩
    ·exact ⟨k+1,by omega,by omega,hr,by simp⟩
  ·have hlt':¬ (k:Int) < (l.length:Int):=by omega
   rw [List.drop_eq_nil_of_le (by omega),readB] at hr
   rw [← hr]
   rcases hH with rfl | ⟨w,rfl⟩ <;> simp [k4,k8,k9,k35,k36,k37,hlt']
   ·rfl
   ·rfl
 ·rw [h1] at hi
  simp [Tryz.f48,hi,h1,Msg.cells,Msg.zero]
end Go.Ev.S
namespace Go.Ev.S
open Go Go.Proofs Go.Ev
theorem readB_kind (s body:List UInt8):∀ (l:List (List UInt8)) (k:Nat),(readB s body l k).2 = 0→∃ i x y z b,i < l.length∧l[i]? = some b∧numbersP s b = some (x,y,z)∧z = body.length∧body.length≤65536∧readB s body l k = (⟨((k+i:Nat):Int),x,y,.of body⟩,0)
 | [],k,h=>by simp [readB] at h
 | b :: l,k,h=>by
  unfold readB at h ⊢
  cases hn:numbersP s b with
  | none =>
   rw [hn] at h
   obtain ⟨i,x,y,z,b',h1,h2,h3,h4,h5,h6⟩:=readB_kind s body l (k+1) h
   exact ⟨i+1,x,y,z,b',by simp;omega,by simpa using h2,h3,h4,h5,by simp only;rw [h6];congr 2;congr 1;omega⟩
  | some v =>
   obtain ⟨x,y,z⟩:=v
   rw [hn] at h
   simp only at h ⊢
   by_cases h1:65536 < z
   ·rw [if_pos h1] at h;simp at h
   ·rw [if_neg h1] at h ⊢
    by_cases h2:body.length < z
    ·rw [if_pos h2] at h;simp at h
    ·rw [if_neg h2] at h ⊢
     by_cases h3:z < body.length
     ·rw [if_pos h3] at h;simp at h
     ·rw [if_neg h3] at h ⊢
      exact ⟨0,x,y,z,b,by simp,by simp,hn,by omega,by omega,by simp⟩
theorem readP_kind {b:List UInt8} {l:List (List UInt8)} (h:(readP b l).2 = 0):∃ i x y,i < l.length∧readP b l = (⟨(i:Int),x,y,(readP b l).1.body⟩,0)∧(readP b l).1.epoch = x∧(readP b l).1.number = y:=by
 unfold readP at h ⊢
 split at h
 ·simp at h
 ·rename_i hh
  rw [if_neg hh]
  obtain ⟨i,x,y,z,b',h1,h2,h3,h4,h5,h6⟩:=readB_kind _ _ l 0 h
  rw [h6,Nat.zero_add]
  exact ⟨i,x,y,h1,rfl,rfl,rfl⟩
def pathOf (k:Int):List UInt8:=if k = 0 then helloL else batchL
def statOf (k:Int):Int:=if k = 0 then 200 else if k = 1 then 400 else 409
def rqL:List (List UInt8):=[beginL helloL,beginL batchL]
def rsL:List (List UInt8):=[statusL 200,statusL 400,statusL 409]
def rdRq (b:List UInt8):Rq × Int:=if (readP b rqL).2 = 0 then (⟨pathOf (readP b rqL).1.kind,(readP b rqL).1.epoch,(readP b rqL).1.number,(readP b rqL).1.body⟩,0) else (⟨[],0,0,.none⟩,(readP b rqL).2)
def rdRs (b:List UInt8):Rs × Int:=if (readP b rsL).2 = 0 then (⟨statOf (readP b rsL).1.kind,(readP b rsL).1.epoch,(readP b rsL).1.number,(readP b rsL).1.body⟩,0) else (⟨0,0,0,.none⟩,(readP b rsL).2)
theorem rdrq_ev [MaxL] [TxtC] (b:Sl UInt8) (hb:b.l.length≤90000):call cx 22 [(.vsl b.nil (ofBytes b.l) b.l.length)] [] = some (.tup [.agg (Enc.cells (rdRq b.l).1),.int .i64 (rdRq b.l).2],[]):=by
 have h:=hread_ev b hb rqL (by decide) (by decide)
 have h1:=begin_ev helloL (by decide)
 have h2:=begin_ev batchL (by decide)
 refine call_run Tryz.func22 rfl ⟨rfl,rfl⟩ ?_
 unfold rdRq
 have e1:List.map D.str rqL = [.str (beginL helloL),.str (beginL batchL)]:=rfl
 have e2:rqL.length = 2:=rfl
 have p1:[47,104,101,108,108,111] = helloL:=rfl
 have p2:[47,98,97,116,99,104] = batchL:=rfl
 rw [e1,e2] at h
 generalize hm:readP b.l rqL = m at *
 by_cases hz:m.2 = 0
 ·obtain ⟨i,x,y,hi,hr,q1,q2⟩:=readP_kind (b:=b.l) (l:=rqL) (by rw [hm];exact hz)
  rw [hm] at hr q1 q2
  obtain ⟨⟨k,x',y',bd⟩,c⟩:=m
  simp only [Prod.mk.injEq,Msg.mk.injEq] at hr hz q1 q2
  obtain ⟨⟨rfl,rfl,rfl,-⟩,rfl⟩:=hr
  have:i = 0∨i = 1:=by rw [e2] at hi;omega
  simp [Msg.cells] at h
  rcases this with rfl | rfl
  ·simp [Tryz.f22,p1,p2,h1,h2,h,pathOf,Rq.cells]
  ·simp [Tryz.f22,p1,p2,h1,h2,h,pathOf,Rq.cells]
 ·simp [Tryz.f22,p1,p2,h1,h2,h,hz,Rq.cells]
theorem rdrs_ev [MaxL] [TxtC] (b:Sl UInt8) (hb:b.l.length≤90000):call cx 21 [(.vsl b.nil (ofBytes b.l) b.l.length)] [] = some (.tup [.agg (Enc.cells (rdRs b.l).1),.int .i64 (rdRs b.l).2],[]):=by
 have h:=hread_ev b hb rsL (by decide) (by decide)
 have h1:=status_ev 200
 have h2:=status_ev 400
 have h3:=status_ev 409
 refine call_run Tryz.func21 rfl ⟨rfl,rfl⟩ ?_
 unfold rdRs
 have e1:List.map D.str rsL = [.str (statusL 200),.str (statusL 400),.str (statusL 409)]:=rfl
 have e2:rsL.length = 3:=rfl
 rw [e1,e2] at h
 generalize hm:readP b.l rsL = m at *
 by_cases hz:m.2 = 0
 ·obtain ⟨i,x,y,hi,hr,q1,q2⟩:=readP_kind (b:=b.l) (l:=rsL) (by rw [hm];exact hz)
  rw [hm] at hr q1 q2
  obtain ⟨⟨k,x',y',bd⟩,c⟩:=m
  simp only [Prod.mk.injEq,Msg.mk.injEq] at hr hz q1 q2
  obtain ⟨⟨rfl,rfl,rfl,-⟩,rfl⟩:=hr
  have:i = 0∨i = 1∨i = 2:=by rw [e2] at hi;omega
  simp [Msg.cells] at h
  rcases this with rfl | rfl | rfl
  ·simp [Tryz.f21,h1,h2,h3,h,statOf,Rs.cells]
  ·simp [Tryz.f21,h1,h2,h3,h,statOf,Rs.cells]
  ·simp [Tryz.f21,h1,h2,h3,h,statOf,Rs.cells]
 ·simp [Tryz.f21,h1,h2,h3,h,hz,Rs.cells]
end Go.Ev.S
namespace Go.Ev.S
open Go Go.Proofs Go.Ev
theorem decF_ne:∀ (f v:Nat),∀ x∈decF f v,x≠13
 | 0,_=>by simp [decF]
 | f+1,v=>by
  have key:∀ k,k < 10→UInt8.ofNat (48+k)≠13:=fun k hk e=>by
   have:=congrArg UInt8.toNat e
   rw [UInt8.toNat_ofNat_of_lt' (show 48+k < 256 by omega)] at this
   simp at this
   omega
  rw [decF]
  split
  ·intro x hx
   rw [List.mem_singleton.1 hx]
   exact key v (by assumption)
  ·intro x hx
   rcases List.mem_append.1 hx with h | h
   ·exact decF_ne f _ x h
   ·rw [List.mem_singleton.1 h]
    exact key _ (Nat.mod_lt _ (by decide))
theorem dec_ne (v:Nat):∀ x∈dec v,x≠13:=decF_ne 20 v
theorem idx_skip {sep:List UInt8} {a:UInt8} (hs:sep.head? = some a):∀ (A B:List UInt8) (n:Nat),(∀ x∈A,x≠a)→idxN sep (A ++ B) n = idxN sep B (n+A.length)
 | [],B,n,_=>by simp
 | x :: A,B,n,h=>by
  have hx:x≠a:=h x (by simp)
  obtain ⟨sep',rfl⟩:∃ l,sep = a :: l:=by
   cases sep with
   | nil=>simp at hs
   | cons y l=>simp at hs;subst hs;exact ⟨l,rfl⟩
  rw [List.cons_append,idxN]
  have:((a :: sep').isPrefixOf (x :: (A ++ B))) = false:=by
   simp only [List.isPrefixOf,Bool.and_eq_false_iff]
   left
   simpa using Ne.symm hx
  rw [this,if_neg (by decide),idx_skip hs A B (n+1) fun y hy=>h y (by simp [hy])]
  congr 1
  simp
  omega
theorem idx_hit (sep B:List UInt8) (n:Nat) (h:sep≠[]):idxN sep (sep ++ B) n = (n:Int):=by
 have hp:sep.isPrefixOf (sep ++ B) = true:=by simp
 cases sep with
 | nil=>exact absurd rfl h
 | cons a l=>rw [List.cons_append,idxN,← List.cons_append,if_pos hp]
theorem idx_crlf (c:UInt8) (B:List UInt8) (n:Nat) (h:c≠13):idxN stopL (crlf ++ (c :: B)) n = idxN stopL (c :: B) (n+2):=by
 have hc:(13 == c) = false:=by simpa using Ne.symm h
 show idxN stopL (13 :: 10 :: c :: B) n = _
 rw [idxN,if_neg (by simp [stopL,List.isPrefixOf,hc]),idxN,if_neg (by simp [stopL,List.isPrefixOf])]
theorem cut_crlf (A B:List UInt8) (h:∀ x∈A,x≠13):cutL crlf (A ++ (crlf ++ B)) = (A,B,true):=by
 have hi:idxN crlf (A ++ (crlf ++ B)) 0 = (A.length:Int):=by
  rw [idx_skip (a:=13) rfl A _ 0 h,Nat.zero_add]
  exact idx_hit crlf B _ (by decide)
 unfold cutL
 rw [hi,if_neg (by omega)]
 have e:((A.length:Nat):Int).toNat = A.length:=by omega
 rw [e]
 have e2:List.drop (A.length+crlf.length) (A ++ (crlf ++ B)) = B:=by
  rw [← List.append_assoc,← List.length_append]
  exact List.drop_left
 rw [e2,List.take_left]
theorem trim_pre (p s:List UInt8):trimL p (p ++ s) = s:=by
 unfold trimL pre
 simp
theorem line_dec (line:List UInt8) (hl:∀ x∈line,x≠13) {D:List UInt8} (hD:∀ x∈D,x≠13) (B:List UInt8):lineP line (line ++ (D ++ (crlf ++ B))) = match pu 10 D with
  | none=>none
  | some v=>some (v,B):=by
 unfold lineP
 rw [← List.append_assoc,cut_crlf (line ++ D) B (fun x hx=>by
  rcases List.mem_append.1 hx with h | h
  ·exact hl x h
  ·exact hD x h)]
 simp only [trim_pre] <;> cases pu 10 D <;> rfl
def numsD (e n:Nat) (D:List UInt8):List UInt8:=epochL ++ (dec e ++ (crlf ++ (numberL ++ (dec n ++ (crlf ++ (lengthL ++ (D ++ (crlf ++ crlf))))))))
theorem numsD_dec (e n l:Nat):numsD e n (dec l) = numsL e n l:=rfl
theorem numbers_D (b:List UInt8) (e n:Nat) (he:e < 18446744073709551616) (hn:n < 18446744073709551616) (D:List UInt8) (hD:∀ x∈D,x≠13) :
  numbersP (b ++ numsD e n D) b = match pu 10 D with
   | none=>none
   | some v=>if dec v = D then some (e,n,v) else none:=by
 have hpre:pre b (b ++ numsD e n D) = true:=by unfold pre;simp
 have e1:lineP epochL (numsD e n D) = some (e,numberL ++ (dec n ++ (crlf ++ (lengthL ++ (D ++ (crlf ++ crlf)))))):=by
  unfold numsD
  rw [line_dec epochL (by decide) (dec_ne e),pu_dec he]
 have e2:lineP numberL (numberL ++ (dec n ++ (crlf ++ (lengthL ++ (D ++ (crlf ++ crlf)))))) = some (n,lengthL ++ (D ++ (crlf ++ crlf))):=by
  rw [line_dec numberL (by decide) (dec_ne n),pu_dec hn]
 have e3:lineP lengthL (lengthL ++ (D ++ (crlf ++ crlf))) = match pu 10 D with
   | none=>none
   | some v=>some (v,crlf):=line_dec lengthL (by decide) hD crlf
 rw [numbersP,if_pos hpre,List.drop_left,e1]
 simp only [e2,e3]
 cases hp:pu 10 D with
 | none=>rfl
 | some v =>
  simp only
  have:(b ++ numsL e n v = b ++ numsD e n D)↔dec v = D:=by
   rw [← numsD_dec]
   unfold numsD
   simp
  simp [this]
theorem numbers_nums (b:List UInt8) (e n l:Nat) (he:e < 18446744073709551616) (hn:n < 18446744073709551616) (hl:l < 18446744073709551616):numbersP (b ++ numsL e n l) b = some (e,n,l):=by
 rw [← numsD_dec,numbers_D b e n he hn (dec l) (dec_ne l),pu_dec hl]
 simp
theorem numbers_pre {s b:List UInt8} (h:pre b s = false):numbersP s b = none:=by
 rw [numbersP,h,if_neg (by decide)]
theorem idx_nums (e n:Nat) (D:List UInt8) (hD:∀ x∈D,x≠13) (body:List UInt8) (k:Nat):idxN stopL (numsD e n D ++ body) k = ((k+(numsD e n D).length - 4:Nat):Int):=by
 unfold numsD
 simp only [List.append_assoc]
 rw [idx_skip (a:=13) rfl epochL _ _ (by decide),idx_skip (a:=13) rfl (dec e) _ _ (dec_ne e)]
 show idxN stopL (crlf ++ (88 :: ([45,78,117,109,98,101,114,58,32] ++ (dec n ++ (crlf ++ (lengthL ++ (D ++ (crlf ++ (crlf ++ body))))))))) _ = _
 rw [idx_crlf 88 _ _ (by decide)]
 show idxN stopL (numberL ++ (dec n ++ (crlf ++ (lengthL ++ (D ++ (crlf ++ (crlf ++ body))))))) _ = _
 rw [idx_skip (a:=13) rfl numberL _ _ (by decide),idx_skip (a:=13) rfl (dec n) _ _ (dec_ne n)]
 show idxN stopL (crlf ++ (67 :: ([111,110,116,101,110,116,45,76,101,110,103,116,104,58,32] ++ (D ++ (crlf ++ (crlf ++ body)))))) _ = _
 rw [idx_crlf 67 _ _ (by decide)]
 show idxN stopL (lengthL ++ (D ++ (crlf ++ (crlf ++ body)))) _ = _
 rw [idx_skip (a:=13) rfl lengthL _ _ (by decide),idx_skip (a:=13) rfl D _ _ hD]
 show idxN stopL (stopL ++ body) _ = _
 rw [idx_hit stopL body _ (by decide)]
 congr 1
 simp only [List.length_append,crlf,List.length_cons,List.length_nil]
 omega
def Beg (b:List UInt8):Prop:= ∀ (R:List UInt8) (k:Nat),idxN stopL (b ++ (88 :: R)) k = idxN stopL (88 :: R) (k+b.length)
theorem beg_begin (p:List UInt8) (hp:∀ x∈p,x≠13):Beg (beginL p):=by
 intro R k
 unfold beginL
 simp only [List.append_assoc]
 rw [idx_skip (a:=13) rfl postL _ _ (by decide),idx_skip (a:=13) rfl p _ _ hp,idx_skip (a:=13) rfl httpL _ _ (by decide)]
 show idxN stopL (crlf ++ (72 :: ([111,115,116,58,32,114,101,99,101,105,118,101,114] ++ (crlf ++ (ctypeL ++ (crlf ++ (88 :: R))))))) _ = _
 rw [idx_crlf 72 _ _ (by decide)]
 show idxN stopL (hostL ++ (crlf ++ (ctypeL ++ (crlf ++ (88 :: R))))) _ = _
 rw [idx_skip (a:=13) rfl hostL _ _ (by decide)]
 show idxN stopL (crlf ++ (67 :: ([111,110,116,101,110,116,45,84,121,112,101,58,32,97,112,112,108,105,99,97,116,105,111,110,47,118,110,100,46,102,100,111,46,106,111,117,114,110,97,108] ++ (crlf ++ (88 :: R))))) _ = _
 rw [idx_crlf 67 _ _ (by decide)]
 show idxN stopL (ctypeL ++ (crlf ++ (88 :: R))) _ = _
 rw [idx_skip (a:=13) rfl ctypeL _ _ (by decide),idx_crlf 88 _ _ (by decide)]
 congr 1
 simp only [List.length_append,crlf,hostL,ctypeL,List.length_cons,List.length_nil]
 omega
theorem beg_status (n:Int):Beg (statusL n):=by
 intro R k
 unfold statusL
 have h:∀ x∈(if n = 400 then badStr else if n = 409 then conStr else okStr),x≠13:=by
  split
  ·decide
  ·split <;> decide
 generalize (if n = 400 then badStr else if n = 409 then conStr else okStr) = w at *
 simp only [List.append_assoc]
 rw [idx_skip (a:=13) rfl [72,84,84,80,47,49,46,49,32] _ _ (by decide),idx_skip (a:=13) rfl w _ _ h]
 show idxN stopL (crlf ++ (88 :: R)) _ = _
 rw [idx_crlf 88 _ _ (by decide)]
 congr 1
 simp only [List.length_append,List.length_cons,List.length_nil]
 omega
theorem idx_head {b:List UInt8} (hb:Beg b) (e n:Nat) (D:List UInt8) (hD:∀ x∈D,x≠13) (body:List UInt8):idxN stopL (b ++ (numsD e n D ++ body)) 0 = ((b.length+(numsD e n D).length - 4:Nat):Int):=by
 have h:=hb ((numsD e n D ++ body).tail) 0
 have e1:88 :: (numsD e n D ++ body).tail = numsD e n D ++ body:=by
  unfold numsD epochL
  rfl
 rw [e1,Nat.zero_add] at h
 rw [h,idx_nums e n D hD body]
theorem numsD_len (e n:Nat) (D:List UInt8):4≤(numsD e n D).length:=by
 simp only [numsD,List.length_append,epochL,List.length_cons,List.length_nil]
 omega
theorem readP_head {b:List UInt8} (hb:Beg b) (e n:Nat) (D:List UInt8) (hD:∀ x∈D,x≠13) (body:List UInt8) (l:List (List UInt8)):readP (b ++ (numsD e n D ++ body)) l = readB (b ++ numsD e n D) body l 0:=by
 have hi:=idx_head hb e n D hD body
 have h4:=numsD_len e n D
 unfold readP
 rw [hi,if_neg (by omega)]
 have e1:((b.length+(numsD e n D).length - 4:Nat):Int).toNat+4 = (b ++ numsD e n D).length:=by
  rw [List.length_append]
  omega
 rw [e1,← List.append_assoc,List.take_left,List.drop_left]
end Go.Ev.S
namespace Go.Ev.S
open Go Go.Proofs Go.Ev
theorem pre_ne {b c:List UInt8} (X:List UInt8) (i:Nat) (hb:i < b.length) (hc:i < c.length) (h:b[i]?≠c[i]?):pre b (c ++ X) = false:=by
 unfold pre
 rw [beq_eq_false_iff_ne]
 intro e
 have:(List.take b.length (c ++ X))[i]? = b[i]?:=by rw [e]
 rw [List.getElem?_take_of_lt hb,List.getElem?_append_left hc] at this
 exact h this.symm
theorem hello_batch (X:List UInt8):pre (beginL helloL) (beginL batchL ++ X) = false:=pre_ne X 6 (by decide) (by decide) (by decide)
theorem status_ne (s t:Int) (hs:s = 200∨s = 400∨s = 409) (ht:t = 200∨t = 400∨t = 409) (hne:s≠t) (X:List UInt8):pre (statusL s) (statusL t ++ X) = false:=by
 rcases hs with rfl | rfl | rfl <;> rcases ht with rfl | rfl | rfl <;> first | exact absurd rfl hne | exact pre_ne X 9 (by decide) (by decide) (by decide) | exact pre_ne X 11 (by decide) (by decide) (by decide)
def gotB (k:Nat) (x y z:Nat) (body:List UInt8):Msg × Int:=if 65536 < z then (.zero,21) else if body.length < z then (.zero,22) else if z < body.length then (.zero,21) else (⟨k,x,y,.of body⟩,0)
theorem readB_cons (s body b:List UInt8) (l:List (List UInt8)) (k:Nat):readB s body (b :: l) k = match numbersP s b with
  | none=>readB s body l (k+1)
  | some (x,y,z)=>gotB k x y z body:=rfl
theorem gotB_ok (k x y:Nat) (body:List UInt8) (h:body.length≤65536):gotB k x y body.length body = (⟨k,x,y,.of body⟩,0):=by
 unfold gotB
 rw [if_neg (by omega),if_neg (by omega),if_neg (by omega)]
section
variable (e n:Nat) (he:e < 18446744073709551616) (hn:n < 18446744073709551616) (body:List UInt8) (hb:body.length≤65536)
include he hn hb
theorem rdRq_back (p:List UInt8) (hp:p = helloL∨p = batchL):rdRq (beginL p ++ (numsL e n body.length ++ body)) = (⟨p,e,n,.of body⟩,0):=by
 have hr:readP (beginL p ++ (numsL e n body.length ++ body)) rqL = (⟨if p = helloL then 0 else 1,e,n,.of body⟩,0):=by
  rw [← numsD_dec,readP_head (beg_begin p (by rcases hp with rfl | rfl <;> decide)) e n _ (dec_ne _) body,numsD_dec]
  unfold rqL
  rw [readB_cons]
  rcases hp with rfl | rfl
  ·rw [numbers_nums _ e n _ he hn (by omega)]
   simp only [gotB_ok 0 e n body hb,if_true]
   rfl
  ·rw [numbers_pre (hello_batch _)]
   simp only [readB_cons,numbers_nums (beginL batchL) e n body.length he hn (by omega),gotB_ok 1 e n body hb]
   rw [if_neg (by decide)]
   rfl
 unfold rdRq
 rw [hr,if_pos rfl]
 simp only
 rcases hp with rfl | rfl
 ·rw [if_pos rfl];rfl
 ·rw [if_neg (by decide)];rfl
theorem rdRs_back (s:Int) (hs:s = 200∨s = 400∨s = 409):rdRs (statusL s ++ (numsL e n body.length ++ body)) = (⟨s,e,n,.of body⟩,0):=by
 have hr:readP (statusL s ++ (numsL e n body.length ++ body)) rsL = (⟨if s = 200 then 0 else if s = 400 then 1 else 2,e,n,.of body⟩,0):=by
  rw [← numsD_dec,readP_head (beg_status s) e n _ (dec_ne _) body,numsD_dec]
  unfold rsL
  rw [readB_cons]
  rcases hs with rfl | rfl | rfl
  ·rw [numbers_nums _ e n _ he hn (by omega)]
   simp only [gotB_ok 0 e n body hb,if_true]
   rfl
  ·rw [numbers_pre (status_ne 200 400 (by simp) (by simp) (by decide) _)]
   simp only [readB_cons,numbers_nums (statusL 400) e n body.length he hn (by omega),gotB_ok 1 e n body hb]
   rw [if_neg (by decide),if_pos trivial]
   rfl
  ·rw [numbers_pre (status_ne 200 409 (by simp) (by simp) (by decide) _)]
   simp only [readB_cons,numbers_pre (status_ne 400 409 (by simp) (by simp) (by decide) _),numbers_nums (statusL 409) e n body.length he hn (by omega),gotB_ok 2 e n body hb]
   rw [if_neg (by decide),if_neg (by decide)]
   rfl
 unfold rdRs
 rw [hr,if_pos rfl]
 simp only
 rcases hs with rfl | rfl | rfl
 ·rw [if_pos rfl];rfl
 ·rw [if_neg (by decide),if_pos rfl];rfl
 ·rw [if_neg (by decide),if_neg (by decide)];rfl
end
end Go.Ev.S
namespace Go.Ev.S
open Go Go.Proofs Go.Ev
theorem putrq_eq (p:List UInt8) (hp:p = helloL∨p = batchL) (e n:Int) (b:Sl UInt8) (hb:b.l.length≤65536):putRq ⟨p,e,n,b⟩ = .of (beginL p ++ (numsL e.toNat n.toNat b.l.length ++ b.l)):=by
 have h1:(p == helloL || p == batchL) = true:=by rcases hp with rfl | rfl <;> decide
 unfold putRq putH
 simp only [h1,if_true]
 rw [if_neg (by omega)]
theorem putrs_eq (s:Int) (hs:s = 200∨s = 400∨s = 409) (e n:Int) (b:Sl UInt8) (hb:b.l.length≤65536):putRs ⟨s,e,n,b⟩ = .of (statusL s ++ (numsL e.toNat n.toNat b.l.length ++ b.l)):=by
 unfold putRs putH
 simp only [hs,if_true]
 rw [if_neg (by omega)]
theorem rq_len (p:List UInt8) (hp:p = helloL∨p = batchL) (e n:Nat) (b:List UInt8):(beginL p ++ (numsL e n b.length ++ b)).length≤300+b.length:=by
 have h1:=nums_len e n b.length
 have h2:(beginL p).length = 81:=by rcases hp with rfl | rfl <;> decide
 simp only [List.length_append]
 omega
theorem rs_len (s:Int) (e n:Nat) (b:List UInt8):(statusL s ++ (numsL e n b.length ++ b)).length≤300+b.length:=by
 have h1:=nums_len e n b.length
 have h2:=status_len s
 simp only [List.length_append]
 omega
end Go.Ev.S
namespace Go.Ev.S
open Go Go.Proofs Go.Ev
theorem batR_ep (s:RSt) (q:Rq):(batR s q).2.ep = s.ep:=by
 unfold batR batG
 repeat' split
 all_goals rfl
theorem batR_its (s:RSt) (q:Rq):∃ l,(batR s q).2.its = s.its ++ l:=by
 unfold batR batG
 repeat' split
 all_goals first | exact ⟨[],(List.append_nil _).symm⟩ | exact ⟨_,rfl⟩
def HearQ (s':RSt) (x:Sl UInt8) (r:D × Heap):Prop:= ∃ d' T',Shp s'.its d' T'∧r = ((.vsl x.nil (ofBytes x.l) x.l.length),some (s'.A d') :: T')
theorem HearQ.mk {s':RSt} {x:Sl UInt8} {d':D} {T':Heap} (hs:Shp s'.its d' T'):HearQ s' x ((.vsl x.nil (ofBytes x.l) x.l.length),some (s'.A d') :: T'):=⟨d',T',hs,rfl⟩
set_option maxHeartbeats 8000000 in
set_option maxRecDepth 8000 in
theorem hear_batch [MaxL] (s:RSt) (hm:s.mks.l.length≤1000000) (hL:s.its.length≤1000000000) (d:D) (T:Heap) (hsh:Shp s.its d T) (b:Sl UInt8) (hb:b.l.length≤90000) (e n:Int) (o:Sl UInt8) (hr:rdRq b.l = (⟨batchL,e,n,o⟩,0)) (hge:¬ e < s.ep) (hep:isU64 s.ep) (hnn:isU64 n) (ho:o.l.length < 1000000) :
  ∃ r,call cx 12 [.optr 0 4 0,(.vsl b.nil (ofBytes b.l) b.l.length)] (some (s.A d) :: T) = some r∧HearQ (batR s ⟨batchL,e,n,o⟩).2 (putRs ⟨(batR s ⟨batchL,e,n,o⟩).1,s.ep,n,.none⟩) r:=by
 have h1:=rdrq_ev b hb
 rw [hr] at h1
 obtain ⟨r0,hc,d',T',hsh',rfl⟩:=rbatch_ev s ⟨batchL,e,n,o⟩ ho hm hL d T hsh
 have h2:=putrs_ev ⟨(batR s ⟨batchL,e,n,o⟩).1,s.ep,n,.none⟩ hep hnn (by simp)
 have hpe:=batR_ep s ⟨batchL,e,n,o⟩
 have hpi:=batR_its s ⟨batchL,e,n,o⟩
 generalize batR s ⟨batchL,e,n,o⟩ = R at *
 obtain ⟨c,s'⟩:=R
 simp only at hc hsh' h2 hpe hpi ⊢
 obtain ⟨ep,la,its,mk⟩:=s
 obtain ⟨ep',la',its',mk'⟩:=s'
 simp only at hm hL hsh hge hep hsh' h2 hpe hpi ⊢
 subst hpe
 simp only [Rq.cells,Rs.cells,RSt.A] at h1 h2 hc
 generalize hz:putRs ⟨c,ep',n,.none⟩ = z at *
 replace h2:call cx 34 [.agg [.int .i64 c,.int .u64 ep',.int .u64 n,.vsl true [] 0]] [] = some ((.vsl z.nil (ofBytes z.l) z.l.length),[]):=by simpa using h2
 have hs:(batchL == [47,104,101,108,108,111]) = false:=by decide
 have hls:(ofBytes o.l).length = o.l.length:=by simp
 rcases hsh with ⟨rfl,rfl,rfl⟩ | ⟨hne,n1,k1,hn1,hk1,rfl,rfl⟩
 ·rcases hsh' with ⟨rfl,rfl,rfl⟩ | ⟨hne2,n2,k2,hn2,hk2,rfl,rfl⟩
  ·refine call_runE (X:=cx) (f:=12) (args:=[.optr 0 4 0,(.vsl b.nil (ofBytes b.l) b.l.length)]) (H:=[some [.int .u64 ep',.int .u64 la,.vsl true [] 0,(.vsl mk.nil (encs mk.l) mk.l.length)]]) (HearQ ⟨ep',la',[],mk'⟩ z) Tryz.func12 rfl ⟨rfl,rfl⟩ ?_
   replace hc:call cx 36 [.optr 0 4 0,.agg [.str batchL,.int .u64 e,.int .u64 n,(.vsl o.nil (ofBytes o.l) o.l.length)]] [some [.int .u64 ep',.int .u64 la,.vsl true [] 0,(.vsl mk.nil (encs mk.l) mk.l.length)]] = some (.int .i64 c,[some [.int .u64 ep',.int .u64 la',.vsl true [] 0,(.vsl mk'.nil (encs mk'.l) mk'.l.length)]]):=hc
   simp [Tryz.f12,h1,hc,h2,hge,hs,packN,idsT]
   exact HearQ.mk (.inl ⟨rfl,rfl,rfl⟩)
  ·refine call_runE (X:=cx) (f:=12) (args:=[.optr 0 4 0,(.vsl b.nil (ofBytes b.l) b.l.length)]) (H:=[some [.int .u64 ep',.int .u64 la,.vsl true [] 0,(.vsl mk.nil (encs mk.l) mk.l.length)]]) (HearQ ⟨ep',la',its',mk'⟩ z) Tryz.func12 rfl ⟨rfl,rfl⟩ ?_
   replace hc:call cx 36 [.optr 0 4 0,.agg [.str batchL,.int .u64 e,.int .u64 n,(.vsl o.nil (ofBytes o.l) o.l.length)]] [some [.int .u64 ep',.int .u64 la,.vsl true [] 0,(.vsl mk.nil (encs mk.l) mk.l.length)]] = some (.int .i64 c,[some [.int .u64 ep',.int .u64 la',.osl 1 n2 0 k2 39,(.vsl mk'.nil (encs mk'.l) mk'.l.length)],some (encs its')]):=hc
   simp [Tryz.f12,h1,hc,h2,hge,hs,packN,idsT]
   exact HearQ.mk (.inr ⟨hne2,n2,k2,hn2,hk2,rfl,rfl⟩)
 ·rcases hsh' with ⟨rfl,rfl,rfl⟩ | ⟨hne2,n2,k2,hn2,hk2,rfl,rfl⟩
  ·obtain ⟨l,hl⟩:=hpi
   exact absurd (List.append_eq_nil_iff.1 hl.symm).1 hne
  ·refine call_runE (X:=cx) (f:=12) (args:=[.optr 0 4 0,(.vsl b.nil (ofBytes b.l) b.l.length)]) (H:=[some [.int .u64 ep',.int .u64 la,.osl 1 n1 0 k1 39,(.vsl mk.nil (encs mk.l) mk.l.length)],some (encs its)]) (HearQ ⟨ep',la',its',mk'⟩ z) Tryz.func12 rfl ⟨rfl,rfl⟩ ?_
   replace hc:call cx 36 [.optr 0 4 0,.agg [.str batchL,.int .u64 e,.int .u64 n,(.vsl o.nil (ofBytes o.l) o.l.length)]] [some [.int .u64 ep',.int .u64 la,.osl 1 n1 0 k1 39,(.vsl mk.nil (encs mk.l) mk.l.length)],some (encs its)] = some (.int .i64 c,[some [.int .u64 ep',.int .u64 la',.osl 1 n2 0 k2 39,(.vsl mk'.nil (encs mk'.l) mk'.l.length)],some (encs its')]):=hc
   simp [Tryz.f12,h1,hc,h2,hge,hs,packN,idsT]
   exact HearQ.mk (.inr ⟨hne2,n2,k2,hn2,hk2,rfl,rfl⟩)
end Go.Ev.S
namespace Go.Ev.S
open Go Go.Proofs Go.Ev
theorem new_ev [MaxL]:call cx 9 [] [] = some (.optr 0 4 0,[some [.int .u64 0,.int .u64 0,.vsl true [] 0,.vsl true [] 0]]):=by
 refine call_run Tryz.func9 rfl ⟨rfl,rfl⟩ ?_
 simp [Tryz.f9]
set_option maxRecDepth 100000 in
theorem first_ev30 [MaxL]:call cx 8 [] [] = some (.bool true,[]):=call_some.2 ⟨900,by kernel_rfl⟩
theorem sepoch_ev [MaxL] (s:RSt) (d:D) (T:Heap) (hsh:Shp s.its d T):call cx 18 [.optr 0 4 0] (some (s.A d) :: T) = some (.int .u64 s.ep,some (s.A d) :: T):=by
 obtain ⟨ep,la,its,mk⟩:=s
 simp only [RSt.A] at hsh ⊢
 rcases hsh with ⟨rfl,rfl,rfl⟩ | ⟨hne,n1,k1,hn1,hk1,rfl,rfl⟩
 ·refine call_run Tryz.func18 rfl ⟨rfl,rfl⟩ ?_
  simp [Tryz.f18]
 ·refine call_run Tryz.func18 rfl ⟨rfl,rfl⟩ ?_
  simp [Tryz.f18]
theorem slast_ev [MaxL] (s:RSt) (d:D) (T:Heap) (hsh:Shp s.its d T):call cx 23 [.optr 0 4 0] (some (s.A d) :: T) = some (.int .u64 s.la,some (s.A d) :: T):=by
 obtain ⟨ep,la,its,mk⟩:=s
 simp only [RSt.A] at hsh ⊢
 rcases hsh with ⟨rfl,rfl,rfl⟩ | ⟨hne,n1,k1,hn1,hk1,rfl,rfl⟩
 ·refine call_run Tryz.func23 rfl ⟨rfl,rfl⟩ ?_
  simp [Tryz.f23]
 ·refine call_run Tryz.func23 rfl ⟨rfl,rfl⟩ ?_
  simp [Tryz.f23]
theorem smarks_ev [MaxL] (s:RSt) (hm:s.mks.l.length≤1000000) (d:D) (T:Heap) (hsh:Shp s.its d T):call cx 17 [.optr 0 4 0] (some (s.A d) :: T) = some ((.vsl s.mks.nil (encs s.mks.l) s.mks.l.length),some (s.A d) :: T):=by
 have h1:=mclone_ev s.mks (by omega)
 obtain ⟨ep,la,its,mk⟩:=s
 simp only [RSt.A] at hsh h1 hm ⊢
 have ht:List.take (mk.l.length * 19) (encs mk.l) = encs mk.l:=List.take_of_length_le (by simp)
 rcases hsh with ⟨rfl,rfl,rfl⟩ | ⟨hne,n1,k1,hn1,hk1,rfl,rfl⟩
 ·refine call_run Tryz.func17 rfl ⟨rfl,rfl⟩ ?_
  obtain ⟨nil,ml,hnil⟩:=mk
  simp only at h1 ht
  cases nil with
  | true =>
   have:=hnil rfl
   subst this
   rw [if_pos rfl] at h1
   simp at h1
   simp [Tryz.f17,h1]
  | false =>
   rw [if_neg (by decide)] at h1
   simp [Tryz.f17,h1,ht]
 ·refine call_run Tryz.func17 rfl ⟨rfl,rfl⟩ ?_
  obtain ⟨nil,ml,hnil⟩:=mk
  simp only at h1 ht
  cases nil with
  | true =>
   have:=hnil rfl
   subst this
   rw [if_pos rfl] at h1
   simp at h1
   simp [Tryz.f17,h1]
  | false =>
   rw [if_neg (by decide)] at h1
   simp [Tryz.f17,h1,ht]
theorem pclone_ev [MaxL] (x:Sl Pr) (hx:x.l.length < 1000000):call cx 41 [(.vsl x.nil (encs x.l) x.l.length)] [] = some ((.vsl x.nil (encs x.l) x.l.length),[]):=by
 obtain ⟨nil,l,hnil⟩:=x
 simp only at hx ⊢
 have h40:l.length * 32≤140737488355328:=by omega
 have hmx:l.length≤140737488355328:=by omega
 have ht:List.take (l.length * 2) (encs l) = encs l:=List.take_of_length_le (by simp)
 cases nil with
 | true =>
  have:=hnil rfl
  subst this
  refine call_run Tryz.func41 rfl ⟨rfl,rfl⟩ ?_
  simp [Tryz.f41]
 | false =>
  refine call_run Tryz.func41 rfl ⟨rfl,rfl⟩ ?_
  simp [Tryz.f41,h40,hmx,maxBytes,ht]
theorem iclone_ev [MaxL] (a:List D) (ha:(∀ x,x∈a→closed 2 x = true) = True) (l:List It) (n k:Nat) (hn:n = l.length * 39) (hk:k = l.length) (hl:l.length≤1000000000):call cx 40 [.osl 1 n 0 k 39] [some a,some (encs l)] = some (.osl 2 n 0 k 39,[some a,some (encs l),some (encs l)]):=by
 subst hn
 subst hk
 have h40:l.length * 104≤140737488355328:=by omega
 have hmx:l.length≤140737488355328:=by omega
 have ht:List.take (l.length * 39) (encs l) = encs l:=List.take_of_length_le (by simp)
 refine call_run Tryz.func40 rfl ⟨rfl,rfl⟩ ?_
 simp [Tryz.f40,h40,hmx,maxBytes,ht,ha]
theorem iclone0_ev [MaxL] (a:List D) (ha:(∀ x,x∈a→closed 1 x = true) = True):call cx 40 [.vsl true [] 0] [some a] = some (.vsl true [] 0,[some a]):=by
 refine call_run Tryz.func40 rfl ⟨rfl,rfl⟩ ?_
 simp [Tryz.f40,ha]
set_option maxHeartbeats 4000000 in
theorem sitems_ev [MaxL] (s:RSt) (hL:s.its.length≤1000000000) (hf:∀ x∈s.its,x.rc.fields.l.length < 1000000) (d:D) (T:Heap) (hsh:Shp s.its d T):call cx 14 [.optr 0 4 0] (some (s.A d) :: T) = some ((.vsl (Sl.grown s.its).nil (encs (Sl.grown s.its).l) (Sl.grown s.its).l.length),some (s.A d) :: T):=by
 obtain ⟨ep,la,its,mk⟩:=s
 simp only [RSt.A] at hsh hL hf ⊢
 rcases hsh with ⟨rfl,rfl,rfl⟩ | ⟨hne,n1,k1,hn1,hk1,rfl,rfl⟩
 ·have h1:=iclone0_ev [.int .u64 ep,.int .u64 la,.vsl true [] 0,(.vsl mk.nil (encs mk.l) mk.l.length)] (eq_true (by simp))
  refine call_run Tryz.func14 rfl ⟨rfl,rfl⟩ ?_
  simp [Tryz.f14,h1]
  refine run_loop1 ?_
  simp
  rfl
 ·have h1:=iclone_ev [.int .u64 ep,.int .u64 la,.osl 1 n1 0 k1 39,(.vsl mk.nil (encs mk.l) mk.l.length)] (eq_true (by simp)) its n1 k1 hn1 hk1 hL
  have hnil:(Sl.grown its).nil = false:=List.isEmpty_eq_false_iff.2 hne
  have hle:(encs its).length = n1:=by rw [It.el,hn1]
  have hkn:k1 * 39 = n1:=by rw [hk1,hn1]
  have ht:List.take n1 (encs its) = encs its:=List.take_of_length_le (by omega)
  refine call_run Tryz.func14 rfl ⟨rfl,rfl⟩ ?_
  simp [Tryz.f14,h1]
  refine Run.loopThen (fun (i:Nat) e H=>i≤k1∧H = [some [.int .u64 ep,.int .u64 la,.osl 1 n1 0 k1 39,(.vsl mk.nil (encs mk.l) mk.l.length)],some (encs its),some (encs its)]∧look e 3 = some (.osl 2 n1 0 k1 39)∧look e 11 = some (.int .i64 k1)∧look e 12 = some (.int .i64 i)) (fun i=>k1 - i) 0 ?_ ?_
  ·simp
  rintro i e H ⟨hi,rfl,k3,k11,k12⟩
  by_cases hlt:i < k1
  ·have hlt':(i:Int) < (k1:Int):=by omega
   have hlL:i < its.length:=by omega
   have hw:IntKind.i64.wrap ((i:Int)+1) = ((i+1:Nat):Int):=by rw [wrap_i64] <;> omega
   have hx:=hf its[i] (List.getElem_mem hlL)
   have h2:=pclone_ev its[i].rc.fields hx
   have hea:List.drop (i * 39+38) (encs its) = (.vsl (its[i].rc.fields).nil (encs (its[i].rc.fields).l) (its[i].rc.fields).l.length) :: encs (its.drop (i+1)):=by
    rw [← List.drop_drop,It.ea hlL,List.drop_append_of_le_length (by rw [It.cl];omega),It.d38]
    rfl
   have hset:setRange (encs its) (i * 39+38) [(.vsl (its[i].rc.fields).nil (encs (its[i].rc.fields).l) (its[i].rc.fields).l.length)] = encs its:=by
    unfold setRange
    have e1:List.drop (i * 39+38+([(.vsl (its[i].rc.fields).nil (encs (its[i].rc.fields).l) (its[i].rc.fields).l.length)]:List D).length) (encs its) = encs (its.drop (i+1)):=by
     show List.drop (i * 39+38+1) _ = _
     rw [← List.drop_drop,hea]
     rfl
    rw [e1]
    have e2:([(.vsl (its[i].rc.fields).nil (encs (its[i].rc.fields).l) (its[i].rc.fields).l.length)]:List D) ++ encs (its.drop (i+1)) = List.drop (i * 39+38) (encs its):=by rw [hea];rfl
    rw [List.append_assoc,e2,List.take_append_drop]
   have hb:i * 39+38+1≤n1:=by omega
   generalize its[i] = x at *
   simp [k3,k11,k12,hlt',hw,h2,hea,hset,hle,hb]
   exact ⟨i+1,by omega,by omega,by omega⟩
  ·have hlt':¬ (i:Int) < (k1:Int):=by omega
   simp [k3,k11,k12,hlt',hle,hkn,ht,hnil,hk1.symm]
end Go.Ev.S
namespace Go.Ev.S
open Go Go.Proofs Go.Ev
def hasM (l:List Mk) (id:ID):Bool:=l.any fun m=>m.id == id
set_option maxHeartbeats 1000000 in
theorem rmget_ev [MaxL] [TxtC] (s:Sl Mk) (hn:s.l.length < 4611686018427387904) (id:ID) :
  call cx 43 [(.vsl s.nil (encs s.l) s.l.length),.agg (ofBytes id.l)] [] = some (.tup [.agg (Enc.cells (getM s.l id)),.bool (hasM s.l id)],[]):=by
 refine call_run Tryz.func43 rfl ⟨rfl,rfl⟩ ?_
 simp [Tryz.f43]
 refine Run.loopThen (fun (i:Nat) e H=>i≤s.l.length∧(∃ z:Mk,H = [some (ofBytes id.l),some (Enc.cells z)])∧look e 0 = some (.vsl s.nil (encs s.l) s.l.length)∧look e 3 = some (.optr 0 16 0)∧look e 4 = some (.optr 1 19 0)∧look e 6 = some (.int .i64 i)∧getM s.l id = getM (s.l.drop i) id∧hasM s.l id = hasM (s.l.drop i) id) (fun i=>s.l.length - i) 0 ?_ ?_
 ·simp
  exact ⟨⟨ID.zero,0,0,0⟩,by simp [Mk.cells,ID.zero,ofBytes]⟩
 rintro i e H ⟨hi,⟨z,rfl⟩,h0,h3,h4,h6,hr,hr2⟩
 by_cases hlt:i < s.l.length
 ·have hlt':(i:Int) < (s.l.length:Int):=by omega
  have hw:IntKind.i64.wrap ((i:Int)+1) = ((i+1:Nat):Int):=by rw [wrap_i64] <;> omega
  rw [List.drop_eq_getElem_cons hlt] at hr hr2
  have h16:∀ k,(16≤19+k) = True:=fun k=>eq_true (by omega)
  cases he:s.l[i].id == id with
  | true =>
   simp only [getM,List.find?_cons,he,Option.getD_some] at hr
   simp only [hasM,List.any_cons,he,Bool.true_or] at hr2
   simp [h0,h3,h4,h6,hlt',hlt,Sl.nn hlt,h16,he,getM,hasM,hr,hr2]
  | false =>
   simp only [getM,List.find?_cons,he] at hr
   simp only [hasM,List.any_cons,he,Bool.false_or] at hr2
   simp [h0,h3,h4,h6,hlt',hlt,Sl.nn hlt,h16,he,hw,-List.any_eq_true]
   exact ⟨i+1,by omega,by omega,⟨z,rfl⟩,rfl,hr,hr2⟩
 ·have hlt':¬ (i:Int) < (s.l.length:Int):=by omega
  have hd:s.l.drop i = []:=List.drop_eq_nil_of_le (by omega)
  rw [hd] at hr hr2
  have e1:getM [] id = ⟨id,0,0,0⟩:=rfl
  have e2:hasM [] id = false:=rfl
  rw [e1] at hr
  rw [e2] at hr2
  simp [h0,h3,h4,h6,hlt',hr,hr2,List.take_of_length_le,Mk.cells,List.take_append,List.drop_append,drop_bytes]

end Go.Ev.S
namespace Go.Ev.S
open Go Go.Proofs Go.Ev
end Go.Ev.S
namespace Go.Ev.S
open Go Go.Proofs Go.Ev
theorem bnd40 {n:Nat} (h:n≤1000):n * 40≤140737488355328∧n≤140737488355328:=by omega
end Go.Ev.S
