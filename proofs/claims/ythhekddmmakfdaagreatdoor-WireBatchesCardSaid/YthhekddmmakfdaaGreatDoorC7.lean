import Derived.Test.YthhekddmmakfdaaGreatDoorC6
import Derived.Handed
import Derived.LaidMore
namespace Go.Ev.S
open Go Go.Proofs Go.Ev
theorem dval_dig {k:Nat} (h:k < 10):dval (UInt8.ofNat (48+k)) = some k:=by
 have e:(UInt8.ofNat (48+k)).toNat = 48+k:=UInt8.toNat_ofNat_of_lt' (show 48+k < 256 by omega)
 unfold dval
 rw [if_pos (by rw [e];omega),e]
 congr 1
 omega
theorem puGo_append (b:Nat):∀ (l r:List UInt8) (n:Nat),puGo b (l ++ r) n = match puGo b l n with
  | none=>none
  | some m=>puGo b r m
 | [],r,n=>by simp [puGo]
 | c :: l,r,n=>by
  simp only [List.cons_append,puGo]
  cases dval c with
  | none=>rfl
  | some d =>
   simp only
   split
   ·rfl
   ·split
    ·rfl
    ·exact puGo_append b l r _
theorem puGo_decF:∀ (f v:Nat),v < 10 ^ f→1≤f→v < 18446744073709551616→puGo 10 (decF f v) 0 = some v
 | f+1,v,h,_,h64=>by
  rw [decF]
  by_cases hv:v < 10
  ·rw [if_pos hv]
   simp only [puGo,dval_dig hv]
   rw [if_neg (by omega),if_neg (by omega)]
   congr 1
   omega
  ·rw [if_neg hv,puGo_append]
   have hf:1≤f:=by
    rcases f with _ | f
    ·simp at h;omega
    ·omega
   rw [puGo_decF f (v / 10) (by rw [Nat.pow_succ] at h;omega) hf (by omega)]
   simp only [puGo,dval_dig (Nat.mod_lt v (by decide:10 > 0))]
   rw [if_neg (by omega),if_neg (by omega)]
   congr 1
   omega
theorem decF_head:∀ (f v:Nat),v < 10 ^ f→(decF f v).head? = some 48→v = 0∧(decF f v).length≤1
 | 0,v,_,h=>by simp [decF] at h
 | f+1,v,hv,h=>by
  rw [decF] at h ⊢
  by_cases h10:v < 10
  ·rw [if_pos h10] at h ⊢
   simp only [List.head?_cons,Option.some.injEq] at h
   have:=congrArg UInt8.toNat h
   rw [UInt8.toNat_ofNat_of_lt' (show 48+v < 256 by omega)] at this
   simp at this
   exact ⟨by omega,by simp⟩
  ·rw [if_neg h10] at h
   exfalso
   rcases f with _ | f
   ·simp at hv;omega
   ·have hp:v / 10 < 10 ^ (f+1):=by rw [Nat.pow_succ] at hv;omega
    have hne:decF (f+1) (v / 10)≠[]:=by
     rw [decF]
     split <;> simp
    have h':(decF (f+1) (v / 10)).head? = some 48:=by
     obtain ⟨a,l,hal⟩:=List.exists_cons_of_ne_nil hne
     rw [hal] at h ⊢
     exact h
    have:=(decF_head (f+1) (v / 10) hp h').1
    omega
theorem num_dec {v:Nat} (h:v < 18446744073709551616):numP (dec v) = some v:=by
 have h1:=dec_pos v
 have h2:=dec_len v
 have h3:=decF_head 20 v (Nat.lt_trans h (by decide))
 unfold numP
 rw [if_neg]
 ·exact puGo_decF 20 v (Nat.lt_trans h (by decide)) (by decide) h
 ·rintro (e | e | ⟨e1,e2⟩)
  ·rw [e] at h1;simp at h1
  ·omega
  ·have:=(h3 e1).2
   unfold dec at e2
   omega
end Go.Ev.S
namespace Go.Ev.S
open Go Go.Proofs Go.Ev
theorem decF_dig:∀ (f v:Nat),∀ x∈decF f v,48≤x.toNat∧x.toNat≤57
 | 0,_,x,h=>by simp [decF] at h
 | f+1,v,x,h=>by
  rw [decF] at h
  split at h
  ·rename_i hv
   rw [List.mem_singleton.1 h,UInt8.toNat_ofNat_of_lt' (show 48+v < 256 by omega)]
   omega
  ·rcases List.mem_append.1 h with h | h
   ·exact decF_dig f _ x h
   ·rw [List.mem_singleton.1 h,UInt8.toNat_ofNat_of_lt' (show 48+v % 10 < 256 by omega)]
    omega
theorem dec_dig (v:Nat):∀ x∈dec v,48≤x.toNat∧x.toNat≤57:=decF_dig 20 v
theorem hexc_ge:∀ k,k < 16→48≤(hexc k).toNat:=by decide
theorem hexs_ge:∀ (l:List UInt8),∀ x∈hexs l,48≤x.toNat
 | [],x,h=>by simp [hexs] at h
 | b :: l,x,h=>by
  rw [hexs] at h
  have hb:=b.toNat_lt
  rcases List.mem_cons.1 h with rfl | h
  ·exact hexc_ge _ (by omega)
  ·rcases List.mem_cons.1 h with rfl | h
   ·exact hexc_ge _ (by omega)
   ·exact hexs_ge l x h
theorem hexF_ge:∀ (f v:Nat),∀ x∈hexF f v,48≤x.toNat
 | 0,_,x,h=>by simp [hexF] at h
 | f+1,v,x,h=>by
  rw [hexF] at h
  split at h
  ·rename_i hv
   rw [List.mem_singleton.1 h]
   exact hexc_ge _ hv
  ·rcases List.mem_append.1 h with h | h
   ·exact hexF_ge f _ x h
   ·rw [List.mem_singleton.1 h]
    exact hexc_ge _ (Nat.mod_lt _ (by decide))
theorem showL_ge (c:Cur):∀ x∈showL c,48≤x.toNat:=by
 intro x h
 unfold showL at h
 simp only [List.mem_append] at h
 have k:∀ l:List UInt8,(∀ y∈l,48≤y.toNat)→x∈l→48≤x.toNat:=fun l hl hx=>hl x hx
 rcases h with h | h | h | h | h | h | h | h | h | h | h | h
 ·exact k kS (by decide) h
 ·exact hexs_ge _ x h
 ·exact k kI (by decide) h
 ·exact hexF_ge 16 _ x h
 ·exact k kB (by decide) h
 ·exact hexs_ge _ x h
 ·exact k kM (by decide) h
 ·exact hexF_ge 16 _ x h
 ·exact k kT (by decide) h
 ·exact hexF_ge 16 _ x h
 ·exact k kX (by decide) h
 ·exact hexF_ge 16 _ x h
theorem ne_of_ge {x c:UInt8} (h:c.toNat < x.toNat):x≠c:=by rintro rfl;omega
theorem no10 {l:List UInt8} (h:∀ x∈l,48≤x.toNat):∀ x∈l,x≠10:=fun x hx=>ne_of_ge (by have:=h x hx;show 10 < x.toNat;omega)
theorem no10_app {a b:List UInt8} (ha:∀ x∈a,x≠10) (hb:∀ x∈b,x≠10):∀ x∈a ++ b,x≠10:=fun x hx=>(List.mem_append.1 hx).elim (ha x) (hb x)
theorem idxB_at (c:UInt8):∀ (A B:List UInt8) (n:Nat),(∀ x∈A,x≠c)→idxB c (A ++ c :: B) n = ((n+A.length:Nat):Int)
 | [],B,n,_=>by simp [idxB]
 | x :: A,B,n,h=>by
  rw [List.cons_append,idxB,if_neg (h x (by simp)),idxB_at c A B (n+1) fun y hy=>h y (by simp [hy])]
  simp
  omega
theorem idxB_no (c:UInt8):∀ (A:List UInt8) (n:Nat),(∀ x∈A,x≠c)→idxB c A n = -1
 | [],n,_=>by simp [idxB]
 | x :: A,n,h=>by rw [idxB,if_neg (h x (by simp)),idxB_no c A (n+1) fun y hy=>h y (by simp [hy])]
theorem cut_app (c:UInt8) {A:List UInt8} (h:∀ x∈A,x≠c) (B:List UInt8):cutL [c] (A ++ c :: B) = (A,B,true):=by
 have h1:=idx_at c A B 0 h
 rw [Nat.zero_add] at h1
 unfold cutL
 rw [h1,if_neg (by omega)]
 have e:((A.length:Nat):Int).toNat = A.length:=by omega
 rw [e]
 simp [List.drop_append]
theorem lnL_app {A:List UInt8} (h:∀ x∈A,x≠10) (B:List UInt8):lnL (A ++ 10 :: B) = A:=by unfold lnL;rw [cut_app 10 h]
theorem lnR_app {A:List UInt8} (h:∀ x∈A,x≠10) (B:List UInt8):lnR (A ++ 10 :: B) = B:=by unfold lnR;rw [cut_app 10 h]
theorem rlnP_app {A:List UInt8} (h:∀ x∈A,x≠10) (B:List UInt8):rlnP (A ++ 10 :: B) = some (A,A.length+1):=by
 have h1:=idxB_at 10 A B 0 h
 rw [Nat.zero_add] at h1
 unfold rlnP
 rw [h1,if_neg (by omega)]
 have e:((A.length:Nat):Int).toNat = A.length:=by omega
 rw [e]
 simp
theorem pre_self (p x:List UInt8):pre p (p ++ x) = true:=by unfold pre;simp
theorem trim_self (p x:List UInt8):trimL p (p ++ x) = x:=by unfold trimL;rw [if_pos (pre_self p x)];simp
theorem pu_dec {v:Nat} (h:v < 18446744073709551616):pu 10 (dec v) = some v:=by
 have hn:=num_dec h
 have hp:=dec_pos v
 unfold numP at hn
 split at hn
 ·cases hn
 ·unfold pu
  rw [if_neg (by intro e;rw [e] at hp;simp at hp)]
  exact hn
theorem drop_line (A B:List UInt8):(A ++ 10 :: B).drop (A.length+1) = B:=by
 rw [List.drop_append]
 simp
theorem linesP_step {b B x f:List UInt8} {a:Nat} {fs:List (List UInt8)} (hb:b.drop a = (f ++ x) ++ 10 :: B) (h10:∀ y∈f ++ x,y≠10) {l:List (List UInt8)} {z:Nat} (h:linesP b (a+((f ++ x).length+1)) fs = some (l,z)) :
  linesP b a (f :: fs) = some (x :: l,z):=by
 rw [linesP,hb,rlnP_app h10]
 simp only [pre_self,if_true,h]
 simp
theorem drop_next {b A B:List UInt8} {a:Nat} (hb:b.drop a = A ++ 10 :: B):b.drop (a+(A.length+1)) = B:=by
 rw [← List.drop_drop,hb,drop_line]
theorem nameOk_no {n:List UInt8} (h:nameOk n = true):n≠[]∧n.length≤64∧∀ x∈n,48≤x.toNat∧x≠61:=by
 unfold nameOk at h
 split at h
 ·cases h
 ·rename_i c l
  simp only [Bool.and_eq_true,decide_eq_true_eq,List.all_eq_true] at h
  refine ⟨by simp,h.1.1,fun x hx=>?_⟩
  have:=h.2 x hx
  unfold nameC at this
  simp only [Bool.or_eq_true,Bool.and_eq_true,decide_eq_true_eq] at this
  refine ⟨by omega,?_⟩
  rintro rfl
  have e:(61:UInt8).toNat = 61:=rfl
  rw [e] at this
  omega
theorem plainV_no {v:List UInt8} (h:plainV v = true):∀ x∈v,x≠10:=by
 intro x hx
 unfold plainV at h
 have:=List.all_eq_true.1 h x hx
 unfold plainC at this
 rintro rfl
 revert this
 decide
theorem prOk_is {p:Pr} (h:prOk p = true):nameOk p.name = true∧p.value.length≤256:=by
 unfold prOk at h
 simp only [Bool.and_eq_true,decide_eq_true_eq] at h
 exact h
theorem anyI_at:∀ (A B:List UInt8) (c:UInt8) (n:Nat),(∀ x∈A,x≠61∧x≠10)→c = 61∨c = 10→anyI (A ++ c :: B) n = ((n+A.length:Nat):Int)
 | [],B,c,n,_,hc=>by simp [anyI,hc]
 | x :: A,B,c,n,h,hc=>by
  have hx:=h x (by simp)
  rw [List.cons_append,anyI,if_neg (by rintro (e | e);exact hx.1 e;exact hx.2 e),anyI_at A B c (n+1) (fun y hy=>h y (by simp [hy])) hc]
  simp
  omega
theorem leB_get (v:Nat) (hv:v < 18446744073709551616) (R:List UInt8):leGet (leB 8 v ++ R) 0 8 = some v:=by
 have hl:=leB_len 8 v
 unfold leGet
 rw [if_pos ⟨by decide,by decide,by simp [hl];omega⟩]
 have e:((leB 8 v ++ R).drop (0:Int).toNat).take (8:Int).toNat = leB 8 v:=by
  show ((leB 8 v ++ R).drop 0).take 8 = _
  rw [List.drop_zero,List.take_left' hl]
 rw [e,leN_leB,Nat.mod_eq_of_lt (by simpa using hv)]
theorem pairP_text {p:Pr} (h:prOk p = true) (R:List UInt8):pairP (pairL p ++ R) = some (p,R):=by
 obtain ⟨hn,hv⟩:=prOk_is h
 obtain ⟨n0,n1,n2⟩:=nameOk_no hn
 have hne:∀ x∈p.name,x≠61∧x≠10:=fun x hx=>⟨(n2 x hx).2,ne_of_ge (by have:=(n2 x hx).1;show 10 < x.toNat;omega)⟩
 have hpos:1≤p.name.length:=by
  cases hc:p.name with
  | nil=>exact absurd hc n0
  | cons=>simp
 have gen:∀ (c:UInt8) (T:List UInt8),c = 61∨c = 10→pairP (p.name ++ c :: T) = if c = 61 then some (⟨p.name,lnL T⟩,lnR T) else match leGet T 0 8 with
   | none=>none
   | some n=>if 256 < n∨T.length < 9+n then none else some (⟨p.name,(T.drop 8).take n⟩,T.drop (9+n)):=by
  intro c T hc
  have ha:=anyI_at p.name T c 0 hne hc
  rw [Nat.zero_add] at ha
  have e:((p.name.length:Nat):Int).toNat = p.name.length:=by omega
  have d1:(p.name ++ c :: T).drop (p.name.length+1) = T:=by rw [List.drop_append];simp
  have d2:(p.name ++ c :: T).getD p.name.length 0 = c:=by simp [List.getD]
  have d3:(p.name ++ c :: T).take p.name.length = p.name:=by simp
  unfold pairP
  rw [ha,if_neg (by omega),e,d1,d2,d3]
  all_goals (cases leGet T 0 8 <;> rfl)
 unfold pairL
 cases hp:plainV p.value with
 | true =>
  have e:(if true = true then ((p.name ++ [61]) ++ p.value) ++ [10] else (((p.name ++ [10]) ++ leB 8 p.value.length) ++ p.value) ++ [10]) ++ R = p.name ++ 61 :: (p.value ++ 10 :: R):=by simp
  rw [e,gen 61 _ (.inl rfl),if_pos rfl,lnL_app (plainV_no hp),lnR_app (plainV_no hp)]
 | false =>
  have e:(if false = true then ((p.name ++ [61]) ++ p.value) ++ [10] else (((p.name ++ [10]) ++ leB 8 p.value.length) ++ p.value) ++ [10]) ++ R = p.name ++ 10 :: (leB 8 p.value.length ++ (p.value ++ 10 :: R)):=by simp
  rw [e,gen 10 _ (.inr rfl),if_neg (by decide),leB_get _ (by omega)]
  have hl:=leB_len 8 p.value.length
  have hno:¬ (256 < p.value.length∨(leB 8 p.value.length ++ (p.value ++ 10 :: R)).length < 9+p.value.length):=by
   rintro (h | h)
   ·omega
   ·simp [hl] at h
    omega
  simp only [hno,if_false]
  have d1:(leB 8 p.value.length ++ (p.value ++ 10 :: R)).drop 8 = p.value ++ 10 :: R:=List.drop_left' hl
  have d2:(leB 8 p.value.length ++ (p.value ++ 10 :: R)).drop (9+p.value.length) = R:=by
   rw [show 9+p.value.length = 8+(p.value.length+1) by omega,← List.drop_drop,d1,drop_line]
  rw [d1,d2]
  simp
theorem pairP_end (R:List UInt8):pairP (10 :: R) = none:=by
 unfold pairP
 rw [if_pos (by simp [anyI])]
theorem fldP_text:∀ (F:List Pr) (n:Nat) (R:List UInt8),F.length≤n→(∀ p∈F,prOk p = true)→fldP n (bodyL F ++ 10 :: R) = F
 | [],0,R,_,_=>rfl
 | [],n+1,R,_,_=>by
  rw [fldP]
  show (match pairP (10 :: R) with | none=>[] | some (p,r)=>p :: fldP n r) = []
  rw [pairP_end]
 | p :: F,0,R,h,_=>by simp at h
 | p :: F,n+1,R,h,hp=>by
  have e:bodyL (p :: F) ++ 10 :: R = pairL p ++ (bodyL F ++ 10 :: R):=by simp [bodyL]
  rw [e,fldP,pairP_text (hp p (by simp))]
  show p :: fldP n (bodyL F ++ 10 :: R) = _
  rw [fldP_text F n R (by simpa using h) fun q hq=>hp q (by simp [hq])]
theorem splitP_eq {n v:List UInt8} (hn:nameOk n = true) (hv:v.length≤256):splitP (n ++ 61 :: v) = (⟨n,v⟩,0):=by
 obtain ⟨n0,n1,n2⟩:=nameOk_no hn
 have h1:=idxB_at 61 n v 0 (fun x hx=>(n2 x hx).2)
 rw [Nat.zero_add] at h1
 have e:((n.length:Nat):Int).toNat = n.length:=by omega
 have d1:(n ++ 61 :: v).take n.length = n:=by simp
 have d2:(n ++ 61 :: v).drop (n.length+1) = v:=by rw [List.drop_append];simp
 unfold splitP
 rw [h1,if_neg (by omega),e,d1,if_neg (by rw [hn];simp),if_neg (by simp;omega),d2]
theorem splitP_no {n:List UInt8} (h:∀ x∈n,x≠61):(splitP n).2 = 20:=by
 unfold splitP
 rw [if_pos (by rw [idxB_no 61 n 0 h];decide)]
theorem rfldP_text:∀ (F:List Pr) (n:Nat) (b R:List UInt8) (a:Nat),F.length < n→(∀ p∈F,prOk p = true)→b.drop a = bodyL F ++ 10 :: R→rfldP b n a = some (F,a+(bodyL F).length+1)
 | [],n+1,b,R,a,_,_,hb=>by
  replace hb:b.drop a = [] ++ 10 :: R:=hb
  rw [rfldP,hb,rlnP_app (by intro x hx;cases hx)]
  rfl
 | p :: F,n+1,b,R,a,h,hp,hb=>by
  have hpo:=hp p (by simp)
  obtain ⟨hn,hv⟩:=prOk_is hpo
  obtain ⟨n0,n1,n2⟩:=nameOk_no hn
  have hne:∀ x∈p.name,x≠10:=fun x hx=>ne_of_ge (by have:=(n2 x hx).1;show 10 < x.toNat;omega)
  have hbl:(bodyL (p :: F)).length = (pairL p).length+(bodyL F).length:=by simp [bodyL]
  have hb1:b.drop a = pairL p ++ (bodyL F ++ 10 :: R):=by rw [hb];simp [bodyL]
  have hlen:b.length = a+((pairL p).length+(bodyL F ++ 10 :: R).length):=by
   have h1:=congrArg List.length hb1
   rw [List.length_drop,List.length_append] at h1
   have h2:1≤(bodyL F ++ 10 :: R).length:=by simp;omega
   omega
  have hnext:b.drop (a+(pairL p).length) = bodyL F ++ 10 :: R:=by
   rw [← List.drop_drop,hb1]
   simp
  have ih:=rfldP_text F n b R (a+(pairL p).length) (by simpa using h) (fun q hq=>hp q (by simp [hq])) hnext
  rw [rfldP]
  unfold pairL at hb1 hlen hbl ih
  cases hpv:plainV p.value with
  | true =>
   rw [hpv,if_pos rfl] at hb1 hlen hbl ih
   have e:((p.name ++ [61]) ++ p.value) ++ [10] ++ (bodyL F ++ 10 :: R) = (p.name ++ 61 :: p.value) ++ 10 :: (bodyL F ++ 10 :: R):=by simp
   have h10:∀ x∈p.name ++ 61 :: p.value,x≠10:=by
    intro x hx
    rcases List.mem_append.1 hx with hx | hx
    ·exact hne x hx
    ·rcases List.mem_cons.1 hx with rfl | hx
     ·decide
     ·exact plainV_no hpv x hx
   rw [hb1,e,rlnP_app h10]
   simp only
   rw [if_neg (by simp),splitP_eq hn hv,if_pos rfl]
   have ea:a+((p.name ++ 61 :: p.value).length+1) = a+(((p.name ++ [61]) ++ p.value) ++ [10]).length:=by simp;omega
   rw [ea,ih]
   simp only [Option.some.injEq,Prod.mk.injEq,true_and]
   omega
  | false =>
   rw [hpv,if_neg (by decide)] at hb1 hlen hbl ih
   have e:(((p.name ++ [10]) ++ leB 8 p.value.length) ++ p.value) ++ [10] ++ (bodyL F ++ 10 :: R) = p.name ++ 10 :: (leB 8 p.value.length ++ (p.value ++ 10 :: (bodyL F ++ 10 :: R))):=by simp
   rw [e] at hb1
   have hl8:=leB_len 8 p.value.length
   have hd1:b.drop (a+(p.name.length+1)) = leB 8 p.value.length ++ (p.value ++ 10 :: (bodyL F ++ 10 :: R)):=drop_next hb1
   have hd2:b.drop (a+(p.name.length+1)+8) = p.value ++ 10 :: (bodyL F ++ 10 :: R):=by
    rw [← List.drop_drop,hd1]
    exact List.drop_left' hl8
   have hd3:b.drop (a+(p.name.length+1)+8+p.value.length) = 10 :: (bodyL F ++ 10 :: R):=by
    rw [← List.drop_drop,hd2]
    simp
   have hN:leN ((b.drop (a+(p.name.length+1))).take 8) = p.value.length:=by
    rw [hd1,List.take_left' hl8,leN_leB,Nat.mod_eq_of_lt (by omega)]
   have hlen2:b.length = a+(p.name.length+1)+8+p.value.length+1+(bodyL F ++ 10 :: R).length:=by
    rw [hlen]
    simp [hl8]
    omega
   have hg:b.getD (a+(p.name.length+1)+8+p.value.length) 0 = 10:=by
    have h1:=List.getElem?_drop (xs:=b) (i:=a+(p.name.length+1)+8+p.value.length) (j:=0)
    rw [hd3] at h1
    simp at h1
    rw [List.getD,show a+(p.name.length+1)+8+p.value.length = a+(p.name.length+1)+8+p.value.length from rfl,← h1]
    rfl
   rw [hb1,rlnP_app hne]
   simp only
   rw [if_neg n0,if_neg (by rw [splitP_no fun x hx=>(n2 x hx).2];decide),hN,if_neg (by omega),if_neg (by
    rintro (h | h | h)
    ·omega
    ·omega
    ·exact h hg)]
   have ea:a+(p.name.length+1)+8+p.value.length+1 = a+((((p.name ++ [10]) ++ leB 8 p.value.length) ++ p.value) ++ [10]).length:=by simp [hl8];omega
   rw [ea,ih,hd2]
   simp only [Option.some.injEq,Prod.mk.injEq,List.take_left']
   refine ⟨by simp,?_⟩
   omega
end Go.Ev.S
namespace Go.Ev.S
open Go Go.Proofs Go.Ev
def normI (it:It):It:=if it.gap then ⟨it.id,true,it.fr,it.til,Rec.zero⟩ else it
theorem headL_cons (a:List UInt8) (L:List (List UInt8)) (R:List UInt8):headL (a :: L) ++ R = a ++ 10 :: (headL L ++ R):=by simp [headL]
theorem headL_nil (R:List UInt8):headL [] ++ R = R:=by simp [headL]
theorem textR_eq (it:It) (more:List UInt8):textR it ++ more = (kPlace ++ showL (cOfP it.id it.rc)) ++ 10 :: ((kReal ++ dec it.rc.real.toNat) ++ 10 :: ((kMono ++ dec it.rc.mono.toNat) ++ 10 :: ((kSeq ++ dec it.rc.seq.toNat) ++ 10 :: ((kId ++ hexs it.id.l) ++ 10 :: ((kBoot ++ hexs it.rc.boot.l) ++ 10 :: (bodyL it.rc.fields.l ++ 10 :: more)))))):=by
 unfold textR sixL
 rw [List.append_assoc,List.append_assoc,headL_cons,headL_cons,headL_cons,headL_cons,headL_cons,headL_cons,headL_nil]
 rfl
theorem textG_eq (it:It) (more:List UInt8):textG it ++ more = (kGap ++ (dec it.fr.toNat ++ 45 :: dec it.til.toNat)) ++ 10 :: ((kId ++ hexs it.id.l) ++ 10 :: ([] ++ 10 :: more)):=by
 unfold textG
 simp
theorem k10:(∀ x∈kPlace,x≠10)∧(∀ x∈kReal,x≠10)∧(∀ x∈kMono,x≠10)∧(∀ x∈kSeq,x≠10)∧(∀ x∈kId,x≠10)∧(∀ x∈kBoot,x≠10)∧∀ x∈kGap,x≠10:=by decide
theorem dec10 (v:Nat):∀ x∈dec v,x≠10:=no10 fun x h=>(dec_dig v x h).1
theorem dec45 (v:Nat):∀ x∈dec v,x≠45:=fun x h=>ne_of_ge (by have:=(dec_dig v x h).1;show 45 < x.toNat;omega)
theorem gap10 (it:It):∀ x∈kGap ++ (dec it.fr.toNat ++ 45 :: dec it.til.toNat),x≠10:=by
 refine no10_app k10.2.2.2.2.2.2 (no10_app (dec10 _) fun x h=>?_)
 rcases List.mem_cons.1 h with rfl | h
 ·decide
 ·exact dec10 _ x h
theorem id10 (i:ID):∀ x∈kId ++ hexs i.l,x≠10:=no10_app k10.2.2.2.2.1 (no10 (hexs_ge _))
theorem boot10 (i:ID):∀ x∈kBoot ++ hexs i.l,x≠10:=no10_app k10.2.2.2.2.2.1 (no10 (hexs_ge _))
theorem place10 (c:Cur):∀ x∈kPlace ++ showL c,x≠10:=no10_app k10.1 (no10 (showL_ge _))
theorem gap_is {it:It} (hi:it.Ok) (ho:itOk it = true) (hg:it.gap = true):it.fr.toNat < 18446744073709551616∧it.til.toNat < 18446744073709551616∧((it.fr.toNat:Nat):Int) = it.fr∧((it.til.toNat:Nat):Int) = it.til∧it.rc.seq = 0∧it.rc.real = 0∧it.rc.mono = 0∧it.rc.boot = ID.zero∧it.rc.fields.l = []∧gapOk it = true:=by
 have h1:=hi.fr
 have h2:=hi.til
 unfold isU64 at h1 h2
 unfold itOk at ho
 rw [hg,if_pos rfl] at ho
 have ho':=ho
 unfold gapOk at ho
 simp only [Bool.and_eq_true,decide_eq_true_eq] at ho
 obtain ⟨⟨⟨⟨⟨⟨a1,a2⟩,a3⟩,a4⟩,a5⟩,a6⟩,a7⟩:=ho
 exact ⟨by omega,by omega,by omega,by omega,a3,a4,a5,a6,List.eq_nil_of_length_eq_zero a7,ho'⟩
theorem rec_is {it:It} (hi:it.Ok) (ho:itOk it = true) (hg:it.gap = false):(it.rc.real.toNat < 18446744073709551616∧it.rc.mono.toNat < 18446744073709551616∧it.rc.seq.toNat < 18446744073709551616)∧(((it.rc.real.toNat:Nat):Int) = it.rc.real∧((it.rc.mono.toNat:Nat):Int) = it.rc.mono∧((it.rc.seq.toNat:Nat):Int) = it.rc.seq)∧it.fr = 0∧it.til = 0∧1≤it.rc.fields.l.length∧it.rc.fields.l.length≤16∧(∀ p∈it.rc.fields.l,prOk p = true)∧recOk it = true:=by
 have h1:=hi.rc.seq
 have h2:=hi.rc.real
 have h3:=hi.rc.mono
 unfold isU64 at h1 h2 h3
 unfold itOk at ho
 rw [hg,if_neg (by decide)] at ho
 have ho':=ho
 unfold recOk at ho
 simp only [Bool.and_eq_true,decide_eq_true_eq,List.all_eq_true] at ho
 obtain ⟨⟨⟨⟨⟨a1,a2⟩,a3⟩,a4⟩,a5⟩,a6⟩:=ho
 exact ⟨⟨by omega,by omega,by omega⟩,⟨by omega,by omega,by omega⟩,a1,a2,a4,a5,a6,ho'⟩
theorem slP_eq (s:Sl Pr) (h:1≤s.l.length):slP s.l = s:=by
 obtain ⟨n,l,hn⟩:=s
 cases l with
 | nil=>simp at h
 | cons a l =>
  cases n with
  | true=>exact absurd (hn rfl) (by simp)
  | false=>rfl
theorem gapP_text {it:It} (hi:it.Ok) (ho:itOk it = true) (hg:it.gap = true) (more:List UInt8):gapP (textG it ++ more) = normI it:=by
 obtain ⟨f1,t1,f2,t2,-⟩:=gap_is hi ho hg
 unfold gapP normI
 rw [textG_eq,lnL_app (gap10 it),lnR_app (gap10 it),trim_self,cut_app 45 (dec45 _),hg,if_pos rfl]
 simp only [pu_dec f1,pu_dec t1,Option.getD_some,f2,t2]
 unfold idI
 rw [lnL_app (id10 it.id),trim_self,idOf_hexs]
theorem entP_text {it:It} (hi:it.Ok) (ho:itOk it = true) (hg:it.gap = false) (more:List UInt8):entP (textR it ++ more) = it:=by
 obtain ⟨⟨r1,m1,s1⟩,⟨r2,m2,s2⟩,a1,a2,a3,a4,a5,-⟩:=rec_is hi ho hg
 have l0:=place10 (cOfP it.id it.rc)
 have l1:=no10_app k10.2.1 (dec10 it.rc.real.toNat)
 have l2:=no10_app k10.2.2.1 (dec10 it.rc.mono.toNat)
 have l3:=no10_app k10.2.2.2.1 (dec10 it.rc.seq.toNat)
 have l4:=id10 it.id
 have l5:=boot10 it.rc.boot
 unfold entP
 rw [textR_eq,lnR_app l0,lnR_app l1,lnR_app l2,lnR_app l3,lnR_app l4,lnR_app l5,fldP_text _ 17 _ (by omega) a5]
 unfold nmI idI
 rw [lnL_app l1,lnL_app l2,lnL_app l3,lnL_app l4,lnL_app l5,trim_self,trim_self,trim_self,trim_self,trim_self,pu_dec r1,pu_dec m1,pu_dec s1,idOf_hexs,idOf_hexs,slP_eq _ a3]
 simp only [Option.getD_some,r2,m2,s2]
 obtain ⟨i,g,f,t,r⟩:=it
 simp only at hg a1 a2
 subst hg a1 a2
 rfl
theorem gap_pre (R:List UInt8):pre kGap (kPlace ++ R) = false:=rfl
theorem itemP_text {it:It} (hi:it.Ok) (ho:itOk it = true) (more:List UInt8):itemP (textL it ++ more) = normI it:=by
 unfold textL itemP
 cases hg:it.gap with
 | true =>
  rw [if_pos rfl,if_pos (by rw [textG_eq,List.append_assoc];exact pre_self _ _),gapP_text hi ho hg]
 | false =>
  simp only [Bool.false_eq_true,if_false]
  rw [if_neg (by rw [textR_eq,List.append_assoc,gap_pre];decide),entP_text hi ho hg]
  unfold normI
  rw [hg,if_neg (by decide)]
theorem linesP_end (b:List UInt8) (a:Nat):linesP b a [] = some ([],a):=rfl
theorem rgapP_text {it:It} (hi:it.Ok) (ho:itOk it = true) (hg:it.gap = true) (more:List UInt8):rgapP (textG it ++ more) = (normI it,(textG it).length,true):=by
 obtain ⟨f1,t1,f2,t2,-⟩:=gap_is hi ho hg
 have e0:(textG it ++ more).drop 0 = (kGap ++ (dec it.fr.toNat ++ 45 :: dec it.til.toNat)) ++ 10 :: ((kId ++ hexs it.id.l) ++ 10 :: ([] ++ 10 :: more)):=textG_eq it more
 have e1:=drop_next e0
 have e2:=drop_next e1
 have hL:=linesP_step e0 (gap10 it) (linesP_step e1 (id10 it.id) (linesP_step (f:=[]) (x:=[]) e2 (by intro y hy;cases hy) (linesP_end (textG it ++ more) _)))
 unfold rgapP
 unfold kId at hL
 unfold kGap at hL
 have h45:=idxB_at 45 (dec it.fr.toNat) (dec it.til.toNat) 0 (dec45 _)
 rw [Nat.zero_add] at h45
 have e:(((dec it.fr.toNat).length:Nat):Int).toNat = (dec it.fr.toNat).length:=by omega
 have d1:(dec it.fr.toNat ++ 45 :: dec it.til.toNat).take (dec it.fr.toNat).length = dec it.fr.toNat:=by simp
 have d2:(dec it.fr.toNat ++ 45 :: dec it.til.toNat).drop ((dec it.fr.toNat).length+1) = dec it.til.toNat:=by rw [List.drop_append];simp
 unfold kGap kId
 rw [hL]
 simp only [h45,e,d1,d2]
 rw [if_neg (by omega),num_dec f1,num_dec t1,idOf_hexs,idP_hexs it.id.h]
 unfold normI
 rw [hg,if_pos rfl]
 simp only [Option.getD_some,f2,t2]
 have hl:(textG it).length = (kGap ++ (dec it.fr.toNat ++ 45 :: dec it.til.toNat)).length+1+((kId ++ hexs it.id.l).length+1)+1:=by
  have:=congrArg List.length (textG_eq it [])
  rw [List.append_nil] at this
  rw [this]
  simp
  omega
 rw [hl]
 unfold kGap kId
 simp
theorem rentP_text {it:It} (hi:it.Ok) (ho:itOk it = true) (hg:it.gap = false) (more:List UInt8):rentP (textR it ++ more) = (it,(textR it).length,true):=by
 obtain ⟨⟨r1,m1,s1⟩,⟨r2,m2,s2⟩,a1,a2,a3,a4,a5,-⟩:=rec_is hi ho hg
 have l0:=place10 (cOfP it.id it.rc)
 have l1:=no10_app k10.2.1 (dec10 it.rc.real.toNat)
 have l2:=no10_app k10.2.2.1 (dec10 it.rc.mono.toNat)
 have l3:=no10_app k10.2.2.2.1 (dec10 it.rc.seq.toNat)
 have l4:=id10 it.id
 have l5:=boot10 it.rc.boot
 have e0:(textR it ++ more).drop 0 = _:=textR_eq it more
 have e1:=drop_next e0
 have e2:=drop_next e1
 have e3:=drop_next e2
 have e4:=drop_next e3
 have e5:=drop_next e4
 have e6:=drop_next e5
 have hL:=linesP_step e0 l0 (linesP_step e1 l1 (linesP_step e2 l2 (linesP_step e3 l3 (linesP_step e4 l4 (linesP_step e5 l5 (linesP_end (textR it ++ more) _))))))
 have hF:=rfldP_text it.rc.fields.l 17 _ _ _ (by omega) a5 e6
 have hl:(textR it).length = 0+((kPlace ++ showL (cOfP it.id it.rc)).length+1)+((kReal ++ dec it.rc.real.toNat).length+1)+((kMono ++ dec it.rc.mono.toNat).length+1)+((kSeq ++ dec it.rc.seq.toNat).length+1)+((kId ++ hexs it.id.l).length+1)+((kBoot ++ hexs it.rc.boot.l).length+1)+(bodyL it.rc.fields.l).length+1:=by
  have:=congrArg List.length (textR_eq it [])
  rw [List.append_nil] at this
  rw [this]
  simp only [List.length_append,List.length_cons,List.length_nil]
  omega
 unfold rentP rsix
 rw [hL]
 simp only
 rw [num_dec r1,num_dec m1,num_dec s1,idP_hexs it.id.h,idP_hexs it.rc.boot.h,if_pos (by rfl),hF]
 simp only [Option.getD_some,r2,m2,s2,idOf_hexs,slP_eq _ a3]
 rw [hl]
 obtain ⟨i,g,f,t,r⟩:=it
 simp only at hg a1 a2
 subst hg a1 a2
 rfl
theorem rgapP_rec (it:It) (more:List UInt8):(rgapP (textR it ++ more)).2.2 = false:=by
 have e0:(textR it ++ more).drop 0 = _:=textR_eq it more
 have hL:linesP (textR it ++ more) 0 [kGap,kId,[]] = none:=by
  rw [linesP,e0,rlnP_app (place10 _)]
  simp only
  rw [if_neg (by rw [gap_pre];decide)]
 unfold rgapP
 rw [hL]
theorem rsel_text {it:It} (hi:it.Ok) (ho:itOk it = true) (more:List UInt8):rsel (textL it ++ more) = (normI it,(textL it).length,true):=by
 unfold rsel textL
 cases hg:it.gap with
 | true =>
  rw [if_pos rfl,rgapP_text hi ho hg]
  rfl
 | false =>
  simp only [Bool.false_eq_true,if_false]
  rw [rgapP_rec,if_neg Bool.false_ne_true,rentP_text hi ho hg]
  unfold normI
  rw [hg,if_neg (by decide)]
theorem normI_text (it:It):textL (normI it) = textL it:=by
 unfold normI
 cases hg:it.gap with
 | true =>
  rw [if_pos rfl]
  unfold textL
  rw [hg,if_pos rfl,if_pos rfl]
  rfl
 | false=>rw [if_neg (by decide)]
theorem normI_okB {it:It} (hi:it.Ok) (ho:itOk it = true):itOk (normI it) = true:=by
 unfold normI
 cases hg:it.gap with
 | true =>
  obtain ⟨-,-,-,-,-,-,-,-,-,h⟩:=gap_is hi ho hg
  rw [if_pos rfl]
  unfold itOk
  rw [if_pos rfl]
  unfold gapOk at h ⊢
  simp only [Bool.and_eq_true,decide_eq_true_eq] at h ⊢
  exact ⟨⟨⟨⟨⟨⟨h.1.1.1.1.1.1,h.1.1.1.1.1.2⟩,rfl⟩,rfl⟩,rfl⟩,rfl⟩,rfl⟩
 | false=>rw [if_neg (by decide)];exact ho
theorem textL_len {it:It} (hi:it.Ok) (ho:itOk it = true):(textL it).length≤10000∧1≤(textL it).length:=by
 unfold textL
 cases hg:it.gap with
 | true =>
  rw [if_pos rfl]
  have l1:=dec_len it.fr.toNat
  have l2:=dec_len it.til.toNat
  have l3:=hexs_len it.id.l
  rw [it.id.h] at l3
  unfold textG kGap kId
  simp
  omega
 | false =>
  rw [if_neg (by decide)]
  obtain ⟨-,-,-,-,-,-,-,h⟩:=rec_is hi ho hg
  obtain ⟨b1,-,b3⟩:=prOk_b h
  have h1:=headL_le (sixL it) (sixL_le it hi)
  have h2:=bodyL_le it.rc.fields.l 400 b3
  have h3:(sixL it).length = 6:=rfl
  rw [h3] at h1
  unfold textR
  simp only [List.length_append,List.length_cons,List.length_nil]
  have h4:it.rc.fields.l.length * 400≤16 * 400:=Nat.mul_le_mul_right _ b1
  omega
theorem pre_is {p s:List UInt8} (h:pre p s = true):s = p ++ s.drop p.length:=by
 unfold pre at h
 have h1:=beq_iff_eq.1 h
 have h2:=List.take_append_drop p.length s
 rw [h1] at h2
 exact h2.symm
theorem read_same (b:List UInt8):rreadD b = readD b:=by
 have hi:=itemP_ok b
 have fwd:readOk b = true→rokP b = true∧rsel b = (itemP b,(textL (itemP b)).length,true):=by
  intro h
  unfold readOk at h
  rw [Bool.and_eq_true] at h
  obtain ⟨ho,hp⟩:=h
  have hb:=pre_is hp
  have h1:=itemP_text hi ho (b.drop (textL (itemP b)).length)
  have h2:=rsel_text hi ho (b.drop (textL (itemP b)).length)
  rw [← hb] at h1 h2
  rw [← h1] at h2
  refine ⟨?_,h2⟩
  unfold rokP
  rw [h2]
  simp only [Bool.true_and,ho]
  unfold pre at hp
  rw [beq_iff_eq] at hp ⊢
  exact hp.symm
 have bwd:rokP b = true→readOk b = true:=by
  intro h
  unfold rokP at h
  simp only [Bool.and_eq_true,beq_iff_eq] at h
  obtain ⟨-,ho,ht⟩:=h
  have hq:=(rsel_q b).ok
  have hle:=(rsel_q b).le
  have hb:b = textL (rsel b).1 ++ b.drop (rsel b).2.1:=by
   rw [ht]
   exact (List.take_append_drop _ _).symm
  have h1:=itemP_text hq ho (b.drop (rsel b).2.1)
  rw [← hb] at h1
  unfold readOk
  rw [h1,normI_okB hq ho,normI_text,Bool.true_and]
  unfold pre
  rw [ht,List.length_take,Nat.min_eq_left hle,beq_self_eq_true]
 unfold rreadD readD
 cases h:readOk b with
 | true =>
  obtain ⟨h1,h2⟩:=fwd h
  rw [h1,h2]
 | false =>
  have h1:rokP b = false:=by
   cases hr:rokP b with
   | false=>rfl
   | true=>rw [bwd hr] at h;cases h
  rw [h1]
  rfl
end Go.Ev.S
namespace Go.Ev.S
open Go Go.Proofs Go.Ev
theorem sameb_ev [MaxL] (x y:Sl UInt8):call cx 20 [(.vsl x.nil (ofBytes x.l) x.l.length),(.vsl y.nil (ofBytes y.l) y.l.length)] [] = some (.bool (x.l == y.l),[]):=by
 refine call_run Tryz.func20 rfl ⟨rfl,rfl⟩ ?_
 simp [Tryz.f20]
end Go.Ev.S
namespace Go.Ev.S
open Go Go.Proofs Go.Ev
def sameR (r s:Rec):Bool:=r.seq == s.seq && (r.real == s.real && (r.mono == s.mono && (r.boot == s.boot && r.fields.l == s.fields.l)))
def sameI (x y:It):Bool:=x.id == y.id && (x.gap == y.gap && (x.fr == y.fr && (x.til == y.til && sameR x.rc y.rc)))
theorem eqPr (p q:Pr):(p == q) = (decide (p.name = q.name) && decide (p.value = q.value)):=by
 obtain ⟨a,b⟩:=p
 obtain ⟨c,d⟩:=q
 rw [Bool.eq_iff_iff]
 simp
theorem beq_drop {a b:List Pr} {k:Nat} (ha:k < a.length) (hb:k < b.length):(a.drop k == b.drop k) = (a[k] == b[k] && a.drop (k+1) == b.drop (k+1)):=by
 rw [List.drop_eq_getElem_cons ha,List.drop_eq_getElem_cons hb]
 rfl
set_option maxHeartbeats 1000000 in
theorem rpairs_ev [MaxL] (a b:Sl Pr) (ha:a.l.length < 1000000) (_:b.l.length < 1000000):call cx 93 [(.vsl a.nil (encs a.l) a.l.length),(.vsl b.nil (encs b.l) b.l.length)] [] = some (.bool (a.l == b.l),[]):=by
 refine call_run Tryz.func93 rfl ⟨rfl,rfl⟩ ?_
 by_cases hne:a.l.length = b.l.length
 case neg =>
  have hne':¬ (a.l.length:Int) = (b.l.length:Int):=by omega
  have hf:(a.l == b.l) = false:=beq_eq_false_iff_ne.2 fun e=>hne (by rw [e])
  rw [hf]
  simp [Tryz.f93,hne']
 have hne':(a.l.length:Int) = (b.l.length:Int):=by omega
 simp [Tryz.f93,hne]
 refine Run.loopThen (fun (k:Nat) e H'=>k≤a.l.length∧(a.l == b.l) = (a.l.drop k == b.l.drop k)∧look e 0 = some (.vsl a.nil (encs a.l) a.l.length)∧look e 1 = some (.vsl b.nil (encs b.l) b.l.length)∧look e 5 = some (.int .i64 (k:Nat))∧H' = []) (fun k=>a.l.length - k) 0 ?_ ?_
 ·simp [hne]
 rintro k e H' ⟨hk,hR,k0,k1,k5,rfl⟩
 rw [hR]
 by_cases hlt:k < a.l.length
 ·have hlt':(k:Int) < (a.l.length:Int):=by omega
  have hlb:k < b.l.length:=by omega
  have hlb':(k:Int) < (b.l.length:Int):=by omega
  have hw:IntKind.i64.wrap ((k:Int)+1) = ((k+1:Nat):Int):=by rw [wrap_i64] <;> omega
  have n1:a.nil = false:=Sl.nn hlt
  have n2:b.nil = false:=Sl.nn hlb
  have hE:(a.l[k] == b.l[k]) = (decide (a.l[k].name = b.l[k].name) && decide (a.l[k].value = b.l[k].value)):=eqPr a.l[k] b.l[k]
  rw [beq_drop hlt hlb,hE]
  by_cases h1:a.l[k].name = b.l[k].name
  ·by_cases h2:a.l[k].value = b.l[k].value
   ·simp [k0,k1,k5,hlt,hlb,hlt',hlb',n1,n2,Pr.cells,h1,h2,hw]
    exact ⟨k+1,by omega,by omega,rfl,rfl⟩
   ·simp [k0,k1,k5,hlt,hlb,hlt',hlb',n1,n2,Pr.cells,h1,h2]
  ·simp [k0,k1,k5,hlt,hlb,hlt',hlb',n1,n2,Pr.cells,h1]
 ·have hlt':¬ (k:Int) < (a.l.length:Int):=by omega
  rw [List.drop_eq_nil_of_le (by omega),List.drop_eq_nil_of_le (by omega)]
  have hlt2:¬ (k:Int) < (b.l.length:Int):=by omega
  simp [k0,k1,k5,hlt2,hne']
set_option maxHeartbeats 1000000 in
theorem rrec_ev [MaxL] (r s:Rec) (ha:r.fields.l.length < 1000000) (hb:s.fields.l.length < 1000000):call cx 52 [.agg (Enc.cells r),.agg (Enc.cells s)] [] = some (.bool (sameR r s),[]):=by
 have hp:=rpairs_ev r.fields s.fields ha hb
 have t1:List.take 16 (ofBytes r.boot.l ++ [(.vsl r.fields.nil (encs r.fields.l) r.fields.l.length)]) = ofBytes r.boot.l:=by rw [List.take_append];simp
 have t2:List.take 16 (ofBytes s.boot.l ++ [(.vsl s.fields.nil (encs s.fields.l) s.fields.l.length)]) = ofBytes s.boot.l:=by rw [List.take_append];simp
 have d1:List.drop 16 (ofBytes r.boot.l ++ [(.vsl r.fields.nil (encs r.fields.l) r.fields.l.length)]) = [(.vsl r.fields.nil (encs r.fields.l) r.fields.l.length)]:=by rw [List.drop_append];simp
 have d2:List.drop 16 (ofBytes s.boot.l ++ [(.vsl s.fields.nil (encs s.fields.l) s.fields.l.length)]) = [(.vsl s.fields.nil (encs s.fields.l) s.fields.l.length)]:=by rw [List.drop_append];simp
 have b1:(ofBytes r.boot.l).length = 16:=by simp
 have b2:(ofBytes s.boot.l).length = 16:=by simp
 unfold sameR
 refine call_run Tryz.func52 rfl ⟨rfl,rfl⟩ ?_
 rw [Rec.cells,Rec.cells]
 cases h1:(r.seq == s.seq) <;> cases h2:(r.real == s.real) <;> cases h3:(r.mono == s.mono) <;> cases h4:(r.boot == s.boot) <;> simp [Tryz.f52,hp,t1,t2,d1,d2,b1,b2,h1,h2,h3,h4]
set_option maxHeartbeats 1000000 in
theorem ritem_ev [MaxL] (x y:It) (ha:x.rc.fields.l.length < 1000000) (hb:y.rc.fields.l.length < 1000000):call cx 19 [.agg (Enc.cells x),.agg (Enc.cells y)] [] = some (.bool (sameI x y),[]):=by
 have hp:=rrec_ev x.rc y.rc ha hb
 have u1:List.take 17 (ofBytes x.rc.boot.l ++ [(.vsl x.rc.fields.nil (encs x.rc.fields.l) x.rc.fields.l.length)]) = ofBytes x.rc.boot.l ++ [(.vsl x.rc.fields.nil (encs x.rc.fields.l) x.rc.fields.l.length)]:=List.take_of_length_le (by simp)
 have u2:List.take 17 (ofBytes y.rc.boot.l ++ [(.vsl y.rc.fields.nil (encs y.rc.fields.l) y.rc.fields.l.length)]) = ofBytes y.rc.boot.l ++ [(.vsl y.rc.fields.nil (encs y.rc.fields.l) y.rc.fields.l.length)]:=List.take_of_length_le (by simp)
 rw [Rec.cells,Rec.cells] at hp
 simp only [List.cons_append,List.nil_append] at hp
 unfold sameI
 refine call_run Tryz.func19 rfl ⟨rfl,rfl⟩ ?_
 cases h1:(x.id == y.id) <;> cases h2:(x.gap == y.gap) <;> cases h3:(x.fr == y.fr) <;> cases h4:(x.til == y.til) <;> simp [Tryz.f19,u1,u2,hp,h1,h2,h3,h4]
end Go.Ev.S
namespace Go.Ev.S
open Go Go.Proofs Go.Ev
def lightP (it:It):Bool:=decide (it.rc.fields.l.length≤20) && it.rc.fields.l.all fun p=>decide (p.name.length≤90) && decide (p.value.length≤300)
set_option maxHeartbeats 1000000 in
theorem light_ev [MaxL] (it:It):call cx 12 [.agg (Enc.cells it)] [] = some (.bool (lightP it),[]):=by
 unfold lightP
 generalize hL:it.rc.fields = L at *
 refine call_run Tryz.func12 rfl ⟨rfl,rfl⟩ ?_
 have t17:List.take 17 (ofBytes it.rc.boot.l ++ [(.vsl L.nil (encs L.l) L.l.length)]) = ofBytes it.rc.boot.l ++ [(.vsl L.nil (encs L.l) L.l.length)]:=List.take_of_length_le (by simp)
 by_cases h20:L.l.length≤20
 case neg =>
  have h20':(20:Int) < (L.l.length:Int):=by omega
  simp [Tryz.f12,hL,h20,h20']
 have h20':¬ (20:Int) < (L.l.length:Int):=by omega
 simp [Tryz.f12,hL,h20,h20']
 refine Run.loopThen (fun (k:Nat) e H'=>k≤L.l.length∧(L.l.all fun p=>decide (p.name.length≤90) && decide (p.value.length≤300)) = ((L.l.drop k).all fun p=>decide (p.name.length≤90) && decide (p.value.length≤300))∧look e 3 = some (.vsl L.nil (encs L.l) L.l.length)∧look e 4 = some (.int .i64 (k:Nat))∧H' = [some (Enc.cells it)]) (fun k=>L.l.length - k) 0 ?_ ?_
 ·simp
 rintro k e H' ⟨hk,hR,k3,k4,rfl⟩
 rw [hR]
 by_cases hlt:k < L.l.length
 ·have hlt':(k:Int) < (L.l.length:Int):=by omega
  have hw:IntKind.i64.wrap ((k:Int)+1) = ((k+1:Nat):Int):=by rw [wrap_i64] <;> omega
  have n1:L.nil = false:=Sl.nn hlt
  rw [List.drop_eq_getElem_cons hlt,List.all_cons]
  by_cases h1:L.l[k].name.length≤90
  ·have h1':¬ (90:Int) < (L.l[k].name.length:Int):=by omega
   by_cases h2:L.l[k].value.length≤300
   ·have h2':¬ (300:Int) < (L.l[k].value.length:Int):=by omega
    simp [k3,k4,hlt,hlt',n1,Pr.cells,h1,h2,h1',h2',hw]
    refine ⟨k+1,by omega,by omega,?_,rfl⟩
    rfl
   ·have h2':(300:Int) < (L.l[k].value.length:Int):=by omega
    simp [k3,k4,hlt,hlt',n1,Pr.cells,h1,h2,h1',h2']
  ·have h1':(90:Int) < (L.l[k].name.length:Int):=by omega
   simp [k3,k4,hlt,hlt',n1,Pr.cells,h1,h1']
 ·have hlt':¬ (k:Int) < (L.l.length:Int):=by omega
  rw [List.drop_eq_nil_of_le (by omega)]
  simp [k3,k4,hlt']
theorem readD_text {it:It} (hi:it.Ok) (ho:itOk it = true) (more:List UInt8):readD (textL it ++ more) = .tup [.agg (Enc.cells (normI it)),.int .i64 (textL it).length,.int .i64 0]:=by
 unfold readD readOk
 rw [itemP_text hi ho,normI_okB hi ho,normI_text,pre_self,Bool.and_self,if_pos rfl]
def firstI:It:=⟨ID.zero,true,1,2,Rec.zero⟩
theorem firstI_ok:firstI.Ok:=⟨by unfold isU64 firstI;decide,by unfold isU64 firstI;decide,Rec.zero_ok⟩
theorem first_text:textL firstI = [95,95,71,65,80,61,49,45,50,10,95,95,83,69,81,78,85,77,95,73,68,61,48,48,48,48,48,48,48,48,48,48,48,48,48,48,48,48,48,48,48,48,48,48,48,48,48,48,48,48,48,48,48,48,10,10]:=by decide
theorem first_ok:itOk firstI = true:=by decide
set_option maxHeartbeats 1000000 in
set_option maxRecDepth 8000 in
theorem first_ev [MaxL]:call cx 11 [] [] = some (.bool true,[]):=by
 have hr:=read_ev (.of (textL firstI ++ [109,111,114,101])) (by rw [Sl.of_l,first_text];decide) fun h=>by
  have:=textL_len (itemP_ok (textL firstI ++ [109,111,114,101])) h
  simp only [Sl.of_l]
  omega
 rw [Sl.of_l,readD_text firstI_ok first_ok] at hr
 have ht:=text_ev firstI firstI_ok (fun p hp=>(by cases hp)) (by decide)
 unfold textD at ht
 rw [first_ok,if_pos rfl] at ht
 rw [first_text] at ht hr
 have hc:Enc.cells firstI = ofBytes ID.zero.l ++ [.bool true,.int .u64 1,.int .u64 2,.int .u64 0,.int .u64 0,.int .u64 0] ++ (ofBytes ID.zero.l ++ [.vsl true [] 0]):=rfl
 have z16:List.replicate 16 (D.int .u8 0) = ofBytes ID.zero.l:=rfl
 refine call_run Tryz.func11 rfl ⟨rfl,rfl⟩ ?_
 have hN:normI firstI = firstI:=rfl
 rw [hN,hc] at hr
 rw [hc] at ht
 have zz:ofBytes ID.zero.l = [.int .u8 0,.int .u8 0,.int .u8 0,.int .u8 0,.int .u8 0,.int .u8 0,.int .u8 0,.int .u8 0,.int .u8 0,.int .u8 0,.int .u8 0,.int .u8 0,.int .u8 0,.int .u8 0,.int .u8 0,.int .u8 0]:=rfl
 rw [zz] at hr ht
 simp only [Sl.of_nil,List.cons_append,List.nil_append,List.length_cons,List.length_nil,Nat.zero_add,Nat.reduceAdd] at hr ht
 simp [Tryz.f11,hr,ht]
end Go.Ev.S
namespace Go.Ev.S
open Go Go.Proofs Go.Ev
def rdI (b:List UInt8):It:=if readOk b then itemP b else It.zero
def rdN (b:List UInt8):Nat:=if readOk b then (textL (itemP b)).length else 0
def rdC (b:List UInt8):Int:=if readOk b then 0 else 20
theorem readD_I (b:List UInt8):readD b = .tup [.agg (Enc.cells (rdI b)),.int .i64 (rdN b:Nat),.int .i64 (rdC b)]:=by
 unfold readD rdI rdN rdC
 split <;> rfl
theorem sameI_refl (x:It):sameI x x = true:=by unfold sameI sameR;simp
theorem light_b {x:It} (h:lightP x = true):x.rc.fields.l.length≤20∧∀ p∈x.rc.fields.l,PrB p:=by
 unfold lightP at h
 simp only [Bool.and_eq_true,decide_eq_true_eq,List.all_eq_true] at h
 refine ⟨h.1,fun p hp=>?_⟩
 have:=h.2 p hp
 exact ⟨by omega,by omega⟩
end Go.Ev.S
namespace Go.Ev.S
open Go Go.Proofs Go.Ev
theorem readS_ev [MaxL] (s:Sl UInt8) (hs:s.l.length < 1000000):call cx 16 [(.vsl s.nil (ofBytes s.l) s.l.length)] [] = some (.tup [.agg (Enc.cells (rdI s.l)),.int .i64 (rdN s.l:Nat),.int .i64 (rdC s.l)],[]):=by
 have h1:=read_ev s hs fun h=>by have:=textL_len (itemP_ok s.l) h;omega
 rw [readD_I] at h1
 exact h1
end Go.Ev.S
namespace Go.Ev.S
open Go Go.Proofs Go.Ev
theorem compare_ev [MaxL] [TxtC] (x y:Sl UInt8):call cx 103 [(.vsl x.nil (ofBytes x.l) x.l.length),(.vsl y.nil (ofBytes y.l) y.l.length)] [] = some (.int .i64 (cmpB x.l y.l),[]):=by
 have h:call cx 125 [(.vsl x.nil (ofBytes x.l) x.l.length),(.vsl y.nil (ofBytes y.l) y.l.length)] [] = some (.int .i64 (cmpB x.l y.l),[]):=by
  rw [call_ext (X:=cx) (f:=125) rfl Tryz.func125 rfl,ex125,cmpExt_bytes x.nil y.nil x.l y.l x.h y.h]
  rfl
 refine call_run Tryz.func103 rfl ⟨rfl,rfl⟩ ?_
 simp [Tryz.f103,h]
theorem compare_id [MaxL] [TxtC] (x y:ID):call cx 103 [.vsl false (ofBytes x.l) 16,.vsl false (ofBytes y.l) 16] [] = some (.int .i64 (cmpB x.l y.l),[]):=by
 have h:=compare_ev (.of x.l) (.of y.l)
 simpa using h
def risesM:List Mk→Bool
 | a :: b :: l=>decide (cmpB a.id.l b.id.l < 0) && risesM (b :: l)
 | _=>true
def rightM (l:List Mk):Bool:=decide (l.length≤4) && risesM l

theorem right_ev [MaxL] [TxtC] (s:Sl Mk) (hn:s.l.length < 4611686018427387904) :
  call cx 63 [(.vsl s.nil (encs s.l) s.l.length)] [] = some (.bool (rightM s.l),[]):=by
 refine call_run Tryz.func63 rfl ⟨rfl,rfl⟩ ?_
 by_cases h4:s.l.length≤4
 ·have h4':¬ (4:Int) < (s.l.length:Int):=by omega
  simp [Tryz.f63,h4',rightM,h4]
  refine Run.loopThen (fun (i:Nat) e H=>1≤i∧(i≤s.l.length∨i = 1)∧H = []∧look e 0 = some (.vsl s.nil (encs s.l) s.l.length)∧look e 3 = some (.int .i64 i)∧risesM s.l = risesM (s.l.drop (i - 1))) (fun i=>s.l.length - i) 1 (by simp) ?_
  rintro i e H ⟨hi,hil,rfl,h0,h3,hr⟩
  by_cases hlt:i < s.l.length
  ·obtain ⟨k,hk⟩:∃ k,k+1 = i:=⟨i - 1,by omega⟩
   have hlt':(i:Int) < (s.l.length:Int):=by omega
   have hkl:k < s.l.length:=by omega
   have hkl':(k:Int) < (s.l.length:Int):=by omega
   have hw:IntKind.i64.wrap ((i:Int) - 1) = (k:Int):=by rw [wrap_i64] <;> omega
   have hw2:IntKind.i64.wrap ((i:Int)+1) = ((i+1:Nat):Int):=by rw [wrap_i64] <;> omega
   have hc:=compare_id s.l[k].id s.l[i].id
   have hr2:risesM s.l = (decide (cmpB s.l[k].id.l s.l[i].id.l < 0) && risesM (s.l.drop i)):=by
    have e1:i - 1 = k:=by omega
    have e2:s.l.drop k = s.l[k] :: s.l[i] :: s.l.drop (i+1):=by
     rw [List.drop_eq_getElem_cons hkl]
     congr 1
     rw [hk,List.drop_eq_getElem_cons hlt]
    rw [hr,e1,e2,risesM,List.drop_eq_getElem_cons hlt]
   have h16:∀ k,(16≤19+k) = True:=fun k=>eq_true (by omega)
   have ht:∀ (m:Mk) (r:List D),(Enc.cells m ++ r).take 16 = ofBytes m.id.l:=fun m r=>by simp [Mk.cells]
   by_cases hcm:cmpB s.l[k].id.l s.l[i].id.l < 0
   ·have hcm':¬ 0≤cmpB s.l[k].id.l s.l[i].id.l:=by omega
    rw [decide_eq_true hcm,Bool.true_and] at hr2
    simp [h0,h3,hlt',hw,hkl',Sl.nn hlt,h16,hlt,hkl,ht,hc,hcm',hw2]
    exact ⟨i+1,by omega,by omega,.inl (by omega),rfl,by simpa using hr2⟩
   ·have hcm':0≤cmpB s.l[k].id.l s.l[i].id.l:=by omega
    rw [decide_eq_false hcm,Bool.false_and] at hr2
    simp [h0,h3,hlt',hw,hkl',Sl.nn hlt,h16,hlt,hkl,ht,hc,hcm',hr2]
  ·have hlt':¬ (i:Int) < (s.l.length:Int):=by omega
   have hr2:risesM s.l = true:=by
    rw [hr]
    have:(s.l.drop (i - 1)).length≤1:=by rw [List.length_drop];omega
    match s.l.drop (i - 1),this with
    | [],_=>rfl
    | [a],_=>rfl
   simp [h0,h3,hlt',hr2]
 ·have h4':(4:Int) < (s.l.length:Int):=by omega
  simp [Tryz.f63,h4',rightM,h4]
theorem rightM_le {l:List Mk} (h:rightM l = true):l.length≤4:=by
 rw [rightM,Bool.and_eq_true] at h
 exact of_decide_eq_true h.1
end Go.Ev.S
namespace Go.Ev.S
open Go Go.Proofs Go.Ev
def mkB (m:Mk):List UInt8:=m.id.l ++ (leB 8 m.seq.toNat ++ (leB 8 m.lost.toNat ++ leB 8 m.over.toNat))
def mksB (l:List Mk):List UInt8:=UInt8.ofNat l.length :: l.flatMap mkB
theorem mkB_len (m:Mk):(mkB m).length = 40:=by simp [mkB]
theorem mkBs_len (l:List Mk):(l.flatMap mkB).length = l.length * 40:=by
 induction l with
 | nil=>rfl
 | cons a l ih=>rw [List.flatMap_cons,List.length_append,ih,mkB_len,List.length_cons];omega
theorem leadd8 [MaxL] [TxtC] (l:List UInt8) (v:Nat) (hn:l.length≤140737488355000) :
  call cx 64 [.vsl false (ofBytes l) l.length,.int .i64 8,.int .u64 v] [] = some (.osl 0 (l.length+8) 0 (l.length+8) 1,[some (ofBytes (l ++ leB 8 v))]):=by
 obtain ⟨d,H,hb,hc⟩:=leadd_ev (.of l) 8 v (by simpa using hn)
 have e:leAdd l 8 v = l ++ leB 8 v:=by simp [leAdd,szOk]
 simp only [Sl.of_l,Sl.of_nil] at hb hc
 rw [e] at hb
 rcases hb with ⟨rfl,h,rfl⟩ | ⟨rfl,rfl⟩
 ·have:=congrArg List.length h
  simp at this
 ·rw [hc]
  simp
def bytesS (l:List Mk):Sl UInt8:=if rightM l then .of (mksB l) else .none
def BytesC (l:List Mk) (i:Nat) (X:List UInt8):Prop:=X = UInt8.ofNat l.length :: (l.take i).flatMap mkB
set_option maxRecDepth 4000 in
set_option maxHeartbeats 2000000 in
theorem bytes_ev [MaxL] [TxtC] (s:Sl Mk) (hn:s.l.length < 4611686018427387904) (hok:∀ m∈s.l,m.Ok) :
  call cx 65 [(.vsl s.nil (encs s.l) s.l.length)] [] = some ((.vsl (bytesS s.l).nil (ofBytes (bytesS s.l).l) (bytesS s.l).l.length),[]):=by
 have hr:=right_ev s hn
 refine call_run Tryz.func65 rfl ⟨rfl,rfl⟩ ?_
 cases h:rightM s.l with
 | false =>
  rw [h] at hr
  simp [Tryz.f65,hr,bytesS,h,ofBytes]
 | true =>
  rw [h] at hr
  have hl:=rightM_le h
  have hw8:IntKind.u8.wrap (s.l.length:Int) = (s.l.length:Int):=by rw [wrap_u8];omega
  simp [Tryz.f65,hr,bytesS,h,hw8]
  refine Run.loopThen (fun (i:Nat) e H=>i≤s.l.length∧∃ X:List UInt8,BytesC s.l i X∧H = [some (ofBytes X)]∧look e 3 = some (.osl 0 X.length 0 X.length 1)∧look e 15 = some (.vsl s.nil (encs s.l) s.l.length)∧look e 16 = some (.int .i64 s.l.length)∧look e 17 = some (.int .i64 i)) (fun i=>s.l.length - i) 0 ?_ ?_
  ·refine ⟨by omega,[UInt8.ofNat s.l.length],by simp [BytesC],?_⟩
   simp [ofBytes]
   omega
  rintro i e H ⟨hi,X,hX,rfl,h3,h15,h16,h17⟩
  by_cases hlt:i < s.l.length
  ·have hlt':(i:Int) < (s.l.length:Int):=by omega
   have hw:IntKind.i64.wrap ((i:Int)+1) = ((i+1:Nat):Int):=by rw [wrap_i64] <;> omega
   have hl40:=mkBs_len (s.l.take i)
   rw [List.length_take,Nat.min_eq_left hi] at hl40
   have hsn:BytesC s.l (i+1) (X ++ mkB s.l[i]):=by
    unfold BytesC at *
    rw [hX,List.take_succ_eq_append_getElem hlt,List.flatMap_append];simp
   have hXl:X.length≤200:=by rw [hX,List.length_cons,hl40];omega
   clear hX hl40
   have hm:=hok _ (List.getElem_mem hlt)
   obtain ⟨⟨m0,m1,m2,m3⟩,hme⟩:∃ m,s.l[i] = m:=⟨_,rfl⟩
   rw [hme] at hsn hm
   obtain ⟨a1,rfl⟩:∃ k:Nat,m1 = k:=⟨m1.toNat,by have:=hm.seq;simp [isU64] at this;omega⟩
   obtain ⟨a2,rfl⟩:∃ k:Nat,m2 = k:=⟨m2.toNat,by have:=hm.lost;simp [isU64] at this;omega⟩
   obtain ⟨a3,rfl⟩:∃ k:Nat,m3 = k:=⟨m3.toNat,by have:=hm.over;simp [isU64] at this;omega⟩
   have hb:X.length+16≤140737488355328:=by omega
   simp [h3,h15,h16,h17,hlt',hlt,Sl.nn hlt,hme,maxBytes,hb]
   clear h3 h15 h16 h17 e
   have d1:=leadd8 (X ++ m0.l) a1 (by simp;omega)
   have d2:=leadd8 (X ++ m0.l ++ leB 8 a1) a2 (by simp;omega)
   have d3:=leadd8 (X ++ m0.l ++ leB 8 a1 ++ leB 8 a2) a3 (by simp;omega)
   simp [ofBytes_append,Nat.add_assoc] at d1 d2 d3
   iterate 4
    refine run_unroll ?_
    simp [d1,d2,d3,hw,List.take_of_length_le]
   exact ⟨i+1,by omega,by omega,_,hsn,by simp [mkB,ofBytes_append],by simp [mkB],rfl⟩
  ·have hlt':¬ (i:Int) < (s.l.length:Int):=by omega
   have hit:s.l.take i = s.l:=List.take_of_length_le (by omega)
   have hXe:X = mksB s.l:=by rw [hX,hit];rfl
   simp [h3,h15,h16,h17,hlt',hXe]
end Go.Ev.S
namespace Go.Ev
open Go Go.Proofs
theorem of32 (s:BitVec 32):BitVec.ofInt IntKind.u32.bits (s.toNat:Int) = s:=by
 show BitVec.ofInt 32 (s.toNat:Int) = s
 rw [BitVec.ofInt_natCast,BitVec.ofNat_toNat]
 simp
theorem wrap32 (s:BitVec 32):IntKind.u32.wrap (s.toNat:Int) = (s.toNat:Int):=by
 have:=s.isLt
 rw [wrap_u32]
 omega
theorem xor32 (s t:BitVec 32):xorI .u32 (s.toNat:Int) (t.toNat:Int) = ((s ^^^ t).toNat:Int):=by
 unfold xorI
 rw [of32,of32]
 exact wrap32 _
theorem and32 (s t:BitVec 32):andI .u32 (s.toNat:Int) (t.toNat:Int) = ((s &&& t).toNat:Int):=by
 unfold andI
 rw [of32,of32]
 exact wrap32 _
theorem bit32 (s:BitVec 32):andI .u32 (s.toNat:Int) 1 = ((s.toNat % 2:Nat):Int):=by
 have h:=and32 s 1#32
 have e:((1#32).toNat:Int) = 1:=rfl
 rw [e] at h
 rw [h]
 congr 1
 rw [BitVec.toNat_and]
 exact Nat.and_one_is_mod _
theorem half32 (s:BitVec 32):(s.toNat:Int).fdiv 2 = ((s >>> 1).toNat:Int):=by
 rw [BitVec.toNat_ushiftRight,Nat.shiftRight_eq_div_pow,Int.fdiv_eq_ediv_of_nonneg _ (by decide)]
 omega
theorem poly32 (s:BitVec 32):xorI .u32 (s.toNat:Int) 2197175160 = ((s ^^^ 2197175160#32).toNat:Int):=xor32 s 2197175160#32
theorem byte32 (s:BitVec 32) (c:UInt8):xorI .u32 (s.toNat:Int) (c.toNat:Int) = ((s ^^^ BitVec.ofNat 32 c.toNat).toNat:Int):=by
 have h:=xor32 s (BitVec.ofNat 32 c.toNat)
 have hc:=c.toNat_lt
 have e:(BitVec.ofNat 32 c.toNat).toNat = c.toNat:=by
  rw [BitVec.toNat_ofNat]
  exact Nat.mod_eq_of_lt (by omega)
 rw [e] at h
 exact h
def crcBit (s:BitVec 32):BitVec 32:=if s.toNat % 2 = 1 then (s >>> 1) ^^^ 2197175160#32 else s >>> 1
def crcN:Nat→BitVec 32→BitVec 32
 | 0,s=>s
 | n+1,s=>crcN n (crcBit s)
def crcByte (s:BitVec 32) (c:UInt8):BitVec 32:=crcN 8 (s ^^^ BitVec.ofNat 32 c.toNat)
def crcGo (s:BitVec 32) (l:List UInt8):BitVec 32:=l.foldl crcByte s
def crcM (s:BitVec 32) (l:List UInt8):BitVec 32:= ~~~ crcGo (~~~ s) l
theorem not32 (s:BitVec 32):IntKind.u32.wrap ((BitVec.ofInt IntKind.u32.bits 4294967295 ^^^ BitVec.ofInt IntKind.u32.bits (s.toNat:Int)).toNat:Int) = ((~~~ s).toNat:Int):=by
 rw [of32]
 have e:(BitVec.ofInt 32 4294967295 ^^^ s) = ~~~ s:=by
  rw [show BitVec.ofInt 32 4294967295 = BitVec.allOnes 32 from by decide,BitVec.allOnes_xor]
 have h:=wrap32 (~~~ s)
 rw [← e] at h ⊢
 exact h
end Go.Ev
namespace Go.Ev.S
open Go Go.Proofs Go.Ev
theorem mnumber_ev [MaxL] [TxtC] (n b:Int):call cx 18 [.int .i64 n,.int .i64 b] [] = some (.int .i64 (if b < 1 then 0 else (IntKind.i64.wrap (n.tmod b+b)).tmod b),[]):=by
 refine call_run Tryz.func18 rfl ⟨rfl,rfl⟩ ?_
 by_cases h1:b < 1
 ·simp [Tryz.f18,h1]
 ·have h2:b≠0:=by omega
  simp [Tryz.f18,h1,h2]
theorem num_ev [MaxL] [TxtC] (n:Int) (b:Nat) (hb:1≤b) (hb2:b≤1000000):∃ x:Nat,x < b∧call cx 18 [.int .i64 n,.int .i64 b] [] = some (.int .i64 x,[]):=by
 have h1:n.tmod b < b:=Int.tmod_lt_of_pos _ (by omega)
 have h2:-(b:Int) < n.tmod b:=by
  have:=Int.tmod_lt_of_pos (-n) (show (0:Int) < b by omega)
  rw [Int.neg_tmod] at this
  omega
 have h:=mnumber_ev n b
 rw [if_neg (by omega)] at h
 generalize n.tmod b = x at *
 have hw:IntKind.i64.wrap (x+b) = x+b:=by rw [wrap_i64];omega
 rw [hw] at h
 have h3:0≤x+b:=by omega
 have h4:=Int.tmod_nonneg (b:Int) h3
 have h5:=Int.tmod_lt_of_pos (x+b) (show (0:Int) < b by omega)
 refine ⟨((x+b).tmod b).toNat,by omega,?_⟩
 rw [h]
 congr 3
 omega
end Go.Ev.S
namespace Go.Ev.S
open Go Go.Proofs Go.Ev
def seqD (nil:Bool) (zs:List Int) (k:Nat):List D:=[.vsl nil (intsK .i64 zs) zs.length,.int .i64 k]
theorem intsK_at {k:IntKind} {l:List Int} {i:Nat} (h:i < l.length):(intsK k l).drop i = .int k l[i] :: intsK k (l.drop (i+1)):=by
 unfold intsK
 rw [← List.map_drop,List.drop_eq_getElem_cons h]
 rfl
@[simp] theorem intsK_len (k:IntKind) (l:List Int):(intsK k l).length = l.length:=by simp [intsK]
theorem seqD_free (nil:Bool) (zs:List Int) (k:Nat):(∀ x,x∈seqD nil zs k→idFree x = true) = True:=eq_true (by
 unfold seqD
 simp)
theorem seqD_len (nil:Bool) (zs:List Int) (k:Nat):(seqD nil zs k).length = 2:=rfl
theorem seqD_cl (nil:Bool) (zs:List Int) (k n:Nat):(∀ x,x∈seqD nil zs k→closed n x = true) = True:=eq_true (by
 unfold seqD
 simp)
theorem more_ev [MaxL] [TxtC] (nil:Bool) (zs:List Int) (k:Nat):call cx 38 [.optr 0 2 0] [some (seqD nil zs k)] = some (.bool (decide (k < zs.length)),[some (seqD nil zs k)]):=by
 refine call_run Tryz.func38 rfl ⟨rfl,rfl⟩ ?_
 unfold seqD
 by_cases h:k < zs.length
 ·have h':(k:Int) < (zs.length:Int):=by omega
  simp [Tryz.f38,h,h']
 ·have h':¬ (k:Int) < (zs.length:Int):=by omega
  simp [Tryz.f38,h,h']
theorem numI_ev [MaxL] [TxtC] (n b:Int) (hb:1≤b) (hb2:b≤1000000):∃ x:Nat,(x:Int) < b∧call cx 18 [.int .i64 n,.int .i64 b] [] = some (.int .i64 x,[]):=by
 obtain ⟨x,h1,h2⟩:=num_ev n b.toNat (by omega) (by omega)
 rw [show ((b.toNat:Nat):Int) = b by omega] at h2
 exact ⟨x,by omega,h2⟩
theorem n_ev [MaxL] [TxtC] (nil:Bool) (zs:List Int) (hnil:nil = true→zs = []) (hz:zs.length≤1000000) (k:Nat) (b:Int) (hb:1≤b) (hb2:b≤1000000) :
  ∃ x k':Nat,(x:Int) < b∧(k < zs.length→k < k')∧call cx 39 [.optr 0 2 0,.int .i64 b] [some (seqD nil zs k)] = some (.int .i64 x,[some (seqD nil zs k')]):=by
 unfold seqD
 by_cases hlt:k < zs.length
 ·have hnf:nil = false:=by
   cases nil with
   | false=>rfl
   | true=>rw [hnil rfl] at hlt;simp at hlt
  subst hnf
  have hlt':¬ (zs.length:Int)≤(k:Int):=by omega
  have hlt2:(k:Int) < (zs.length:Int):=by omega
  have hw:IntKind.i64.wrap ((k:Int)+1) = ((k+1:Nat):Int):=by rw [wrap_i64] <;> omega
  have hw2:IntKind.i64.wrap (((k+1:Nat):Int) - 1) = (k:Int):=by rw [wrap_i64] <;> omega
  have hw3:IntKind.i64.wrap (k:Int) = (k:Int):=by rw [wrap_i64];omega
  obtain ⟨x,hx,hn⟩:=numI_ev zs[k] b hb hb2
  refine ⟨x,k+1,hx,fun _=>Nat.lt_succ_self k,?_⟩
  refine call_run Tryz.func39 rfl ⟨rfl,rfl⟩ ?_
  simp [Tryz.f39,hlt',hw,hlt2,hw3,intsK_at hlt,hn]
 ·have hlt':(zs.length:Int)≤(k:Int):=by omega
  refine ⟨0,k,by omega,fun h=>absurd h hlt,?_⟩
  refine call_run Tryz.func39 rfl ⟨rfl,rfl⟩ ?_
  simp [Tryz.f39,hlt']
def namesL:List (List UInt8):=[[65],[66],[77,69,83,83,65,71,69],[95,80,73,68],[88,95,49],[80,82,73,79,82,73,84,89]]
def valuesL:List (List UInt8):=[[],[48],[49],[50,50],[97,61,98],[111,110,101,10,116,119,111],[0,255],[116,97,98,9,104,101,114,101],[108,111,110,103,32,108,111,110,103,32,108,111,110,103,32,108,111,110,103,32,108,111,110,103,32,108,111,110,103,32,108,111,110,103],[126,127,128]]
def strD (l:List (List UInt8)):List D:=l.map D.str
theorem strD_at {l:List (List UInt8)} {i:Nat} (h:i < l.length):(strD l).drop i = .str l[i] :: strD (l.drop (i+1)):=by
 unfold strD
 rw [← List.map_drop,List.drop_eq_getElem_cons h]
 rfl
theorem names_ev [MaxL] [TxtC]:call cx 127 [] [] = some (.vsl false (strD namesL) 6,[]):=by
 refine call_some.2 ⟨60,?_⟩
 kernel_rfl
theorem values_ev [MaxL] [TxtC]:call cx 128 [] [] = some (.vsl false (strD valuesL) 10,[]):=by
 refine call_some.2 ⟨60,?_⟩
 kernel_rfl
def mkOk (p:Pr):Bool:=prOk p && (decide (p.name.length≤8) && decide (p.value.length≤36))
theorem mkOk_ok {p:Pr} (h:mkOk p = true):prOk p = true:=by
 unfold mkOk at h
 rw [Bool.and_eq_true] at h
 exact h.1
theorem mkOk_len {p:Pr} (h:mkOk p = true):p.name.length≤8∧p.value.length≤36:=by
 unfold mkOk at h
 simp only [Bool.and_eq_true,decide_eq_true_eq] at h
 exact h.2
theorem pairs_ok:∀ n∈namesL,∀ v∈valuesL,mkOk ⟨n,v⟩ = true:=by decide
set_option maxHeartbeats 1000000 in
theorem mpair_ev [MaxL] [TxtC] (nil:Bool) (zs:List Int) (hnil:nil = true→zs = []) (hz:zs.length≤1000000) (k:Nat) :
  ∃ (p:Pr) (k':Nat),mkOk p = true∧call cx 110 [.optr 0 2 0] [some (seqD nil zs k)] = some (.agg (Enc.cells p),[some (seqD nil zs k')]):=by
 obtain ⟨x,k1,hx,-,h1⟩:=n_ev nil zs hnil hz k 6 (by decide) (by decide)
 obtain ⟨y,k2,hy,-,h2⟩:=n_ev nil zs hnil hz k1 10 (by decide) (by decide)
 have hx':x < namesL.length:=by show x < 6;omega
 have hy':y < valuesL.length:=by show y < 10;omega
 have g1:=names_ev
 have g2:=values_ev
 refine ⟨⟨namesL[x],valuesL[y]⟩,k2,pairs_ok _ (List.getElem_mem hx') _ (List.getElem_mem hy'),?_⟩
 have a1:=strD_at hx'
 have a2:=strD_at hy'
 generalize namesL[x] = n at *
 generalize valuesL[y] = v at *
 generalize strD namesL = N at *
 generalize strD valuesL = V at *
 refine call_run Tryz.func110 rfl ⟨rfl,rfl⟩ ?_
 unfold seqD at h1 h2 ⊢
 simp [Tryz.f110,h1,h2,g1,g2,a1,a2,hx,hy,Pr.cells]
def idN (j:Nat):ID:=⟨[94,0,0,0,0,0,0,0,0,0,0,0,0,0,0,UInt8.ofNat j],rfl⟩
theorem mid_small [MaxL] [TxtC] {j:Nat} (hj:j < 5):call cx 26 [.int .i64 j] [] = some (.agg (ofBytes (idN j).l),[]):=by
 have h:j = 0∨j = 1∨j = 2∨j = 3∨j = 4:=by omega
 refine call_some.2 ⟨60,?_⟩
 rcases h with rfl | rfl | rfl | rfl | rfl <;> kernel_rfl
end Go.Ev.S
namespace Go.Ev.S
open Go Go.Proofs Go.Ev
theorem nameOk_len {n:List UInt8} (h:nameOk n = true):n.length≤64:=by
 unfold nameOk at h
 split at h
 ·cases h
 ·simp only [Bool.and_eq_true,decide_eq_true_eq] at h
  exact h.1.1
theorem prOk_len {p:Pr} (h:prOk p = true):nameOk p.name = true∧p.name.length≤64∧p.value.length≤256:=by
 unfold prOk at h
 simp only [Bool.and_eq_true,decide_eq_true_eq] at h
 exact ⟨h.1,nameOk_len h.1,h.2⟩
theorem join_ev [MaxL] [TxtC] (p:Pr) (h:prOk p = true):call cx 108 [.agg (Enc.cells p)] [] = some (.tup [.vsl false (ofBytes (payL p)) (payL p).length,.int .i64 0],[]):=by
 obtain ⟨hn,hn2,hv⟩:=prOk_len h
 have hnm:=rname_ev p.name (by omega)
 rw [hn] at hnm
 have hp:=pay_ev p (by omega) (by omega)
 have hv':¬ (256:Int) < (p.value.length:Int):=by omega
 refine call_run Tryz.func108 rfl ⟨rfl,rfl⟩ ?_
 rw [Pr.cells] at hp ⊢
 have hl:(payL p).length≤321:=by unfold payL;simp;omega
 have hne:(payL p).length≠0:=by unfold payL;simp
 generalize payL p = w at *
 have hm:w.length≤140737488355328:=by omega
 simp [Tryz.f108,hnm,hp,hv']
theorem loopJ {X:Cx} {f nt n0:Nat} {Q:Ex→Env→Heap→Prop} {fs:List Fr} {c:Code} {σ:Type} (I:σ→Env→Heap→Prop) (m:σ→Nat) (s:σ) (J:Ex→Env→Heap→Prop) {e:Env} {H:Heap} (h0:I s e H)
  (step:∀ s e H,I s e H→Run X f nt n0 (fun ex e' H'=>match ex with | .normal=>∃ s',m s' < m s∧I s' e' H' | ex=>J ex e' H') [] (code X f nt n0 c e H))
  (done:∀ ex e H,J ex e H→Run X f nt n0 Q fs (some (ex,e,H))):Run X f nt n0 Q fs (code X f nt n0 (.loop c) e H):=by
 refine Run.loopThen I m s h0 fun s e H hi=>Run.mono (step s e H hi) fun ex e H hq=>?_
 rw [run_nil]
 cases ex with
 | normal=>exact hq
 | _=>exact done _ _ _ hq
def LsM (L:List Pr) (d:D) (H:Heap):Prop :=
 ∃ n k t,n = L.length * 2∧k = L.length∧((d = .osl 1 n 0 k 2∧H = [some t,some (encs L)])∨(d = .osl 0 n 0 k 2∧H = [some (encs L),some t])∨(d = .osl 0 n 0 k 2∧H = [some (encs L)]))
def LsH (out:List Pr) (d:D) (H:Heap):Prop :=
 (out = []∧d = .vsl true [] 0∧H = [])∨(out≠[]∧LsM out d H)
def LsQ (q:D × Heap):Prop:= ∃ out:List Pr,1≤out.length∧out.length≤4∧(∀ p∈out,mkOk p = true)∧q = (.tup [.vsl false (encs out) out.length,.int .i64 0],[])
set_option maxHeartbeats 4000000 in
theorem list_ev [MaxL] [TxtC] (l:List Pr) (h1:1≤l.length) (h4:l.length≤4) (hok:∀ p∈l,mkOk p = true):∃ q,call cx 78 [.vsl false (encs l) l.length] [] = some q∧LsQ q:=by
 refine call_runE (X:=cx) (f:=78) (args:=[.vsl false (encs l) l.length]) (H:=[]) LsQ Tryz.func78 rfl ⟨rfl,rfl⟩ ?_
 have hz:¬ l.length = 0:=by omega
 simp [Tryz.f78,hz]
 refine Run.loopThen (fun (q:Nat × List Pr) e H'=>q.1≤l.length∧q.2.length≤q.1∧(1≤q.1→1≤q.2.length)∧(∀ p∈q.2,mkOk p = true)∧look e 0 = some (.vsl false (encs l) l.length)∧look e 5 = some (.int .i64 (q.1:Nat))∧∃ d,look e 4 = some d∧LsH q.2 d H') (fun q=>l.length - q.1) (0,[]) ?_ ?_
 ·exact ⟨by simp,by simp,by simp,by simp,by simp,by simp,_,by simp,.inl ⟨rfl,rfl,rfl⟩⟩
 rintro ⟨i,out⟩ e H' ⟨hi,ho,ho1,hp,k0,k5,d,k4,hH⟩
 simp only at hi ho ho1 hp k5 hH
 by_cases hlt:i < l.length
 ·have hlt':(i:Int) < (l.length:Int):=by omega
  have hj:=join_ev l[i] (mkOk_ok (hok _ (List.getElem_mem hlt)))
  have hpl:=hok _ (List.getElem_mem hlt)
  obtain ⟨-,hb1,hb2⟩:=prOk_len (mkOk_ok hpl)
  have hw5:IntKind.i64.wrap ((i:Int)+1) = ((i+1:Nat):Int):=by rw [wrap_i64] <;> omega
  rw [Pr.cells] at hj
  rcases hH with ⟨rfl,rfl,rfl⟩ | ⟨hne,n,k,t,hn,hk,hH⟩
  ·simp [k0,k4,k5,hlt,hlt',hj,Pr.cells]
   refine run_unroll ?_
   simp [maxBytes]
   refine run_unroll ?_
   simp [hlt,hlt',Pr.cells,hw5]
   exact ⟨i+1,by omega,by omega,[l[i]],by simp,fun _=>by simp,by simp [hpl],by simp,.inr ⟨by simp,2,1,_,rfl,rfl,.inl ⟨rfl,rfl⟩⟩⟩
  have htk:List.take n (encs out) = encs out:=List.take_of_length_le (by simp;omega)
  have hlk:out.length = k:=hk.symm
  have hkn:k * 2 = n:=by omega
  have hm1:(k+1) * 32≤140737488355328:=by omega
  have hm2:k+1≤140737488355328:=by omega
  have hwk:IntKind.i64.wrap (k:Int) = (k:Int):=by rw [wrap_i64];omega
  rcases hH with ⟨rfl,rfl⟩ | ⟨rfl,rfl⟩ | ⟨rfl,rfl⟩
  all_goals
   simp [k0,k4,k5,hlt,hlt',hj,Pr.cells]
   refine loopJ (fun (z:Nat) e H'=>z≤k∧look e 0 = some (.vsl false (encs l) l.length)∧look e 4 = some (.osl 0 n 0 k 2)∧look e 5 = some (.int .i64 (i:Nat))∧look e 8 = some (.int .i64 (z:Nat))∧H' = [some (encs out)]) (fun z=>k - z) 0
    (fun ex e H'=>ex = .exit 2∧∃ z,z≤k∧look e 0 = some (.vsl false (encs l) l.length)∧look e 4 = some (.osl 0 n 0 k 2)∧look e 5 = some (.int .i64 (i:Nat))∧look e 8 = some (.int .i64 (z:Nat))∧H' = [some (encs out)]) ⟨Nat.zero_le _,by simp,by simp,by simp,by simp,rfl⟩ ?_ ?_
   ·clear k0 k4 k5
    rintro z e H' ⟨hz,k0,k4,k5,k8,rfl⟩
    have hwz:IntKind.i64.wrap ((z:Int)+1) = ((z+1:Nat):Int):=by rw [wrap_i64] <;> omega
    by_cases hzl:z < k
    ·have hzo:z < out.length:=by omega
     obtain ⟨-,c1,c2⟩:=prOk_len (mkOk_ok (hp _ (List.getElem_mem hzo)))
     have p1:=pay_ev out[z] (by omega) (by omega)
     have p2:=pay_ev l[i] (by omega) (by omega)
     rw [Pr.cells] at p1 p2
     generalize payL out[z] = w1 at *
     generalize payL l[i] = w2 at *
     cases hb:Op.bytesLess w1 w2 with
     | true =>
      simp [k0,k4,k5,k8,hzl,hlt,hlt',Pr.cells,p1,p2,hb,hwz,hlk,hkn]
      exact ⟨z+1,by omega,by omega,rfl⟩
     | false =>
      simp [k0,k4,k5,k8,hzl,hlt,hlt',Pr.cells,p1,p2,hb,hlk,hkn]
      exact ⟨z,hz,rfl⟩
    ·simp [k0,k4,k5,k8,hzl]
     exact ⟨z,hz,rfl⟩
   ·clear k0 k4 k5
    rintro ex e H' ⟨rfl,z,hz,k0,k4,k5,k8,rfl⟩
    have hcase:(∃ h:z < out.length,out[z].name = l[i].name∧out[z].value = l[i].value)∨(∃ h:z < out.length,¬ out[z].name = l[i].name)∨(∃ h:z < out.length,out[z].name = l[i].name∧¬ out[z].value = l[i].value)∨¬ z < k:=by
     by_cases h:z < out.length
     ·by_cases h1:out[z].name = l[i].name
      ·by_cases h2:out[z].value = l[i].value
       ·exact .inl ⟨h,h1,h2⟩
       ·exact .inr (.inr (.inl ⟨h,h1,h2⟩))
      ·exact .inr (.inl ⟨h,h1⟩)
     ·exact .inr (.inr (.inr (by omega)))
    have hcon:=fun (h:z < out.length)=>(show z < k by omega)
    rcases hcase with ⟨hzo,e1,e2⟩ | ⟨hzo,e1⟩ | ⟨hzo,e1,e2⟩ | hzl
    ·simp [k0,k4,k5,k8,hcon hzo,hlt,hlt',Pr.cells,e1,e2,hlk,hkn,hw5]
     exact ⟨i+1,by omega,by omega,out,by omega,fun _=>by omega,hp,by simp,.inr ⟨hne,n,k,t,hn,hk,.inr (.inr ⟨rfl,rfl⟩)⟩⟩
    all_goals
     first
      | simp [k0,k4,k5,k8,hcon hzo,hlt,hlt',Pr.cells,e1,e2,hlk,hkn,hwk,hm1,hm2,maxBytes]
      | simp [k0,k4,k5,k8,hcon hzo,hlt,hlt',Pr.cells,e1,hlk,hkn,hwk,hm1,hm2,maxBytes]
      | simp [k0,k4,k5,k8,hzl,hlk,hkn,hwk,hm1,hm2,maxBytes]
     refine loopJ (fun (q:Nat × List Pr) e H'=>z≤q.1∧q.1≤k∧q.2.length = k+1∧(∀ x (h:x < q.2.length),x≠q.1→mkOk q.2[x] = true)∧look e 0 = some (.vsl false (encs l) l.length)∧look e 4 = some (.osl 0 (n+2) 0 (k+1) 2)∧look e 5 = some (.int .i64 (i:Nat))∧look e 8 = some (.int .i64 (z:Nat))∧look e 9 = some (.int .i64 (q.1:Nat))∧H' = [some (encs q.2),some [.str [],.str []]]) (fun q=>q.1 - z) (k,out ++ [⟨[],[]⟩])
      (fun ex e H'=>ex = .exit 4∧∃ L:List Pr,L.length = k+1∧(∀ x (h:x < L.length),x≠z→mkOk L[x] = true)∧look e 0 = some (.vsl false (encs l) l.length)∧look e 4 = some (.osl 0 (n+2) 0 (k+1) 2)∧look e 5 = some (.int .i64 (i:Nat))∧look e 8 = some (.int .i64 (z:Nat))∧H' = [some (encs L),some [.str [],.str []]]) ?_ ?_ ?_
     ·refine ⟨hz,Nat.le_refl _,by simp [hlk],fun x h hx=>?_,by simp,by simp,by simp,by simp,by simp,by rw [encs_snoc];rfl⟩
      have hxo:x < out.length:=by simp at h;omega
      simp only [List.getElem_append_left hxo]
      exact hp _ (List.getElem_mem hxo)
     ·clear k0 k4 k5 k8
      rintro ⟨j,L⟩ e H' ⟨hzj,hjk,hLl,hLp,k0,k4,k5,k8,k9,rfl⟩
      simp only at hzj hjk hLl hLp k9
      by_cases hj2:z < j
      ·obtain ⟨a,rfl⟩:∃ a,j = a+1:=⟨j - 1,by omega⟩
       have hwa:IntKind.i64.wrap (((a+1:Nat):Int) - 1) = (a:Int):=by rw [wrap_i64] <;> omega
       have hwb:IntKind.i64.wrap ((a:Int)+1 - 1) = (a:Int):=by rw [wrap_i64] <;> omega
       have hwc:IntKind.i64.wrap (a:Int) = (a:Int):=by rw [wrap_i64];omega
       have hak:a < k:=by omega
       have ha1:(a:Int) < (k:Int)+1:=by omega
       have hza:(z:Int) < (a:Int)+1:=by omega
       have hza2:z < a+1:=hj2
       have h0a:(0:Int)≤(a:Int)+1:=by omega
       have ha2n:(a+1) * 2≤n:=by omega
       have ha2:a < L.length:=by omega
       have ha3:a+1 < L.length:=by omega
       have hLn:L.length * 2 = n+2:=by omega
       simp [k0,k4,k5,k8,k9,hwc,hak,ha1,ha2,ha3,hLn,hza,h0a,ha2n]
       refine ⟨a,by omega,by omega,by omega,_,by simp [hLl],fun x h hx=>?_,rfl,rfl⟩
       rw [List.getElem_set]
       split
       ·exact hLp a ha2 (by omega)
       ·exact hLp x (by simpa using h) (by omega)
      ·simp [k0,k4,k5,k8,k9,hj2]
       exact ⟨L,hLl,fun x h hx=>hLp x h (by omega),rfl⟩
     ·clear k0 k4 k5 k8
      rintro ex e H' ⟨rfl,L,hLl,hLp,k0,k4,k5,k8,rfl⟩
      have hzl2:z < L.length:=by omega
      have hz1:(z:Int) < (k:Int)+1:=by omega
      have hz2:z * 2≤n:=by omega
      have hLn:L.length * 2 = n+2:=by omega
      simp [k0,k4,k5,k8,hzl2,hlt,hlt',hw5,hz1,hz2,hLn]
      refine ⟨i+1,by omega,by omega,L.set z l[i],by simp [hLl];omega,fun _=>by simp [hLl],fun p hp=>?_,by simp,.inr ⟨fun h=>?_,n+2,k+1,_,by simp [hLn],by simp [hLl],.inr (.inl ⟨rfl,rfl⟩)⟩⟩
      ·obtain ⟨x,hx,rfl⟩:=List.mem_iff_getElem.1 hp
       rw [List.getElem_set]
       split
       ·exact hpl
       ·exact hLp x (by simpa using hx) (by omega)
      ·have:=congrArg List.length h
       simp [hLl] at this
 ·have hlt':¬ (i:Int) < (l.length:Int):=by omega
  have ho2:=ho1 (by omega)
  rcases hH with ⟨rfl,rfl,rfl⟩ | ⟨hne,n,k,t,hn,hk,hH⟩
  ·simp at ho2
  have h16:¬ (16:Int) < (k:Int):=by omega
  have htk:List.take n (encs out) = encs out:=List.take_of_length_le (by simp;omega)
  have hlk:out.length = k:=hk.symm
  have hkn:k * 2 = n:=by omega
  rcases hH with ⟨rfl,rfl⟩ | ⟨rfl,rfl⟩ | ⟨rfl,rfl⟩
  all_goals
   simp [k0,k4,k5,hlt',h16,htk,hlk,hkn]
   exact ⟨out,by omega,by omega,hp,by rw [hlk]⟩
end Go.Ev.S
namespace Go.Ev.S
open Go Go.Proofs Go.Ev
theorem drop_u8 {l:List UInt8} {i:Nat} (h:i < l.length):(ofBytes l).drop i = .int .u8 l[i].toNat :: ofBytes (l.drop (i+1)):=by
 unfold ofBytes
 rw [← List.map_drop,List.drop_eq_getElem_cons h]
 rfl
set_option maxHeartbeats 2000000 in
theorem cmore_ev [MaxL] [TxtC] (s:BitVec 32) (b:Sl UInt8) (hn:b.l.length < 4611686018427387904):call cx 107 [.int .u32 s.toNat,(.vsl b.nil (ofBytes b.l) b.l.length)] [] = some (.int .u32 ((crcM s b.l).toNat:Nat),[]):=by
 refine call_run Tryz.func107 rfl ⟨rfl,rfl⟩ ?_
 have hun:∀ v:BitVec 32,unD .xor (.int .u32 (v.toNat:Int)) = some (.int .u32 ((~~~ v).toNat:Int)):=fun v=>congrArg (fun x=>some (D.int .u32 x)) (not32 v)
 have h0:=hun s
 unfold crcM
 obtain ⟨g,hg⟩:∃ g,crcGo (~~~ s) b.l = g:=⟨_,rfl⟩
 rw [hg]
 have h1:=hun g
 generalize ((~~~ g).toNat:Int) = r at *
 generalize ~~~ s = s0 at *
 clear hun
 simp [-unD,Tryz.f107,h0]
 refine Run.loopThen (fun (q:Nat × BitVec 32) e H'=>q.1≤b.l.length∧crcGo q.2 (b.l.drop q.1) = g∧look e 0 = some (.int .u32 (q.2.toNat:Int))∧look e 9 = some (.vsl b.nil (ofBytes b.l) b.l.length)∧look e 10 = some (.int .i64 b.l.length)∧look e 11 = some (.int .i64 (q.1:Nat))∧H' = []) (fun q=>b.l.length - q.1) (0,s0) ⟨Nat.zero_le _,by simpa using hg,by simp,by simp,by simp,by simp,rfl⟩ ?_
 rintro ⟨i,v⟩ e H' ⟨hi,hR,k0,k9,k10,k11,rfl⟩
 simp only at hi hR k0 k11
 by_cases hlt:i < b.l.length
 ·have hlt':(i:Int) < (b.l.length:Int):=by omega
  have hw:IntKind.i64.wrap ((i:Int)+1) = ((i+1:Nat):Int):=by rw [wrap_i64] <;> omega
  have hd:=drop_u8 hlt
  have hb:=byte32 v b.l[i]
  rw [List.drop_eq_getElem_cons hlt] at hR
  generalize b.l[i] = c at *
  replace hR:crcGo (crcN 8 (v ^^^ BitVec.ofNat 32 c.toNat)) (b.l.drop (i+1)) = g:=hR
  generalize v ^^^ BitVec.ofNat 32 c.toNat = w at *
  have hwc:IntKind.u32.wrap (c.toNat:Int) = (c.toNat:Int):=by have:=c.toNat_lt;rw [wrap_u32];omega
  simp [-unD,k0,k9,k10,k11,hlt',Sl.nn hlt,hd,hwc,hb]
  refine loopJ (fun (q:Nat × BitVec 32) e H'=>q.1≤8∧crcN (8 - q.1) q.2 = crcN 8 w∧look e 0 = some (.int .u32 (q.2.toNat:Int))∧look e 9 = some (.vsl false (ofBytes b.l) b.l.length)∧look e 10 = some (.int .i64 b.l.length)∧look e 11 = some (.int .i64 (i:Nat))∧look e 19 = some (.int .i64 (q.1:Nat))∧H' = []) (fun q=>8 - q.1) (0,w)
   (fun ex e H'=>ex = .exit 2∧look e 0 = some (.int .u32 ((crcN 8 w).toNat:Int))∧look e 9 = some (.vsl false (ofBytes b.l) b.l.length)∧look e 10 = some (.int .i64 b.l.length)∧look e 11 = some (.int .i64 (i:Nat))∧H' = []) ⟨Nat.zero_le _,rfl,by simp,by simp,by simp,by simp,by simp,rfl⟩ ?_ ?_
  ·clear k0 k9 k10 k11
   rintro ⟨j,u⟩ e H' ⟨hj,hu,k0,k9,k10,k11,k19,rfl⟩
   simp only at hj hu k0 k19
   by_cases hj8:j < 8
   ·have hji:(j:Int) < 8:=by omega
    have hwj:IntKind.i64.wrap ((j:Int)+1) = ((j+1:Nat):Int):=by rw [wrap_i64] <;> omega
    have hb1:=bit32 u
    have hb2:=half32 u
    rw [show (2:Int) = 2 ^ min 1 IntKind.u32.bits from rfl] at hb2
    have hb3:=poly32 (u >>> 1)
    have hst:crcN (8 - (j+1)) (crcBit u) = crcN 8 w:=by
     rw [← hu,show 8 - j = (8 - (j+1))+1 by omega]
     rfl
    unfold crcBit at hst
    generalize u >>> 1 = h at *
    by_cases hp:u.toNat % 2 = 1
    ·rw [hp] at hb1
     rw [if_pos hp] at hst
     generalize h ^^^ 2197175160#32 = y at *
     simp [-unD,k0,k9,k10,k11,k19,hji,hwj,hb1]
     exact ⟨j+1,by omega,by omega,y,hst,by rw [hb2,hb3],rfl⟩
    ·have hp0:u.toNat % 2 = 0:=by omega
     rw [hp0] at hb1
     rw [if_neg hp] at hst
     simp [-unD,k0,k9,k10,k11,k19,hji,hwj,hb1]
     exact ⟨j+1,by omega,by omega,h,hst,hb2,rfl⟩
   ·have hji:¬ (j:Int) < 8:=by omega
    have hj0:8 - j = 0:=by omega
    rw [hj0] at hu
    replace hu:u = crcN 8 w:=hu
    simp [-unD,k0,k9,k10,k11,k19,hji,hu]
  ·clear k0 k9 k10 k11
   rintro ex e H' ⟨rfl,k0,k9,k10,k11,rfl⟩
   generalize crcN 8 w = z at *
   simp [-unD,k0,k9,k10,k11,hw]
   exact ⟨i+1,by omega,by omega,z,hR,rfl,rfl⟩
 ·have hlt':¬ (i:Int) < (b.l.length:Int):=by omega
  rw [List.drop_eq_nil_of_le (by omega)] at hR
  replace hR:v = g:=hR
  subst hR
  simp [-unD,k0,k9,k10,k11,hlt',h1]
theorem csum_ev [MaxL] [TxtC] (b:Sl UInt8) (hn:b.l.length < 4611686018427387904):call cx 77 [.vsl false [(.vsl b.nil (ofBytes b.l) b.l.length)] 1] [] = some (.int .u32 ((crcM 0#32 b.l).toNat:Nat),[]):=by
 have h:=cmore_ev 0#32 b hn
 replace h:call cx 107 [.int .u32 0,(.vsl b.nil (ofBytes b.l) b.l.length)] [] = some (.int .u32 ((crcM 0#32 b.l).toNat:Nat),[]):=h
 generalize ((crcM 0#32 b.l).toNat:Nat) = r at *
 refine call_run Tryz.func77 rfl ⟨rfl,rfl⟩ ?_
 simp [Tryz.f77]
 refine run_unroll ?_
 simp [h]
 refine run_unroll ?_
 simp
end Go.Ev.S
namespace Go.Ev
open Go Go.Proofs
def sumOk (b:List UInt8):Bool:=decide (leN (b.drop (b.length - 4)) = (crcM 0#32 (b.take (b.length - 4))).toNat)
def sealB (b:List UInt8):List UInt8:=b ++ leB 4 (crcM 0#32 b).toNat
theorem sealB_len (b:List UInt8):(sealB b).length = b.length+4:=by simp [sealB]
theorem xor8 {a b:Nat} (ha:a < 256) (hb:b < 256):xorI .u8 (a:Int) (b:Int) = ((a ^^^ b:Nat):Int):=by
 have h:a ^^^ b < 2 ^ 8:=Nat.xor_lt_two_pow (n:=8) ha hb
 unfold xorI
 show IntKind.u8.wrap ((BitVec.ofInt 8 (a:Int) ^^^ BitVec.ofInt 8 (b:Int)).toNat:Int) = _
 rw [BitVec.ofInt_natCast,BitVec.ofInt_natCast,BitVec.toNat_xor,BitVec.toNat_ofNat,BitVec.toNat_ofNat,Nat.mod_eq_of_lt ha,Nat.mod_eq_of_lt hb,wrap_u8]
 omega
end Go.Ev
namespace Go.Ev.S
open Go Go.Proofs Go.Ev
def kSign:List UInt8:=[68,66,65,84]
def itB (it:It):List UInt8:=leB 4 (textL it).length ++ textL it
def rawB (l:List It) (m:List Mk):List UInt8:=kSign ++ (leB 2 l.length ++ (l.flatMap itB ++ mksB m))
def putOk (l:List It) (m:List Mk):Bool:=decide (l.length≤64) && (rightM m && l.all itOk)
def putS (l:List It) (m:List Mk):Sl UInt8:=if putOk l m && decide ((sealB (rawB l m)).length≤65536) then .of (sealB (rawB l m)) else .none
def getGo:Nat→List UInt8→List It→List It × List Mk × Int
 | 0,r,out=>if (readM r).2 = 0 then (if Go.Ev.readN (readM r) < (r.length:Int) then ([],[],21) else (out,(readM r).1,0)) else ([],[],(readM r).2)
 | k+1,r,out=>if r.length < 4∨r.length - 4 < leN (r.take 4) then ([],[],22) else if readOk ((r.drop 4).take (leN (r.take 4))) = true∧(textL (itemP ((r.drop 4).take (leN (r.take 4))))).length = leN (r.take 4) then getGo k (r.drop (4+leN (r.take 4))) (out ++ [itemP ((r.drop 4).take (leN (r.take 4)))]) else ([],[],20)
def getX (x:List UInt8):List It × List Mk × Int:=if x.length < 4 then ([],[],22) else if pre kSign x then (if x.length < 6 then ([],[],22) else if 64 < leN ((x.drop 4).take 2) then ([],[],21) else getGo (leN ((x.drop 4).take 2)) (x.drop 6) []) else ([],[],6)
def getP (b:List UInt8):List It × List Mk × Int:=if b.length < 4 then ([],[],22) else if sumOk b then getX (b.take (b.length - 4)) else ([],[],19)
theorem mksB_len (l:List Mk):(mksB l).length = 1+l.length * 40:=by
 unfold mksB
 rw [List.length_cons,mkBs_len,Nat.add_comm]
theorem itB_len (it:It):(itB it).length = 4+(textL it).length:=by simp [itB]
theorem put_is {l:List It} {m:List Mk} (h:putOk l m = true):l.length≤64∧rightM m = true∧∀ x∈l,itOk x = true:=by
 unfold putOk at h
 simp only [Bool.and_eq_true,decide_eq_true_eq,List.all_eq_true] at h
 exact h
theorem raw_len (l:List It) (m:List Mk):(sealB (rawB l m)).length = 11+40 * m.length+(l.map fun x=>4+(textL x).length).sum:=by
 rw [sealB_len]
 unfold rawB
 have:(l.flatMap itB).length = (l.map fun x=>4+(textL x).length).sum:=by
  induction l with
  | nil=>rfl
  | cons a l ih=>rw [List.flatMap_cons,List.length_append,ih,itB_len,List.map_cons,List.sum_cons]
 simp [kSign,mksB_len,this]
 omega
end Go.Ev.S
namespace Go.Ev.S
open Go Go.Proofs Go.Ev
def GrowH {α:Type} [Enc α] (S:List D) (sz:Nat) (l:List α) (d:D) (H:Heap):Prop :=
 (l = []∧d = .vsl true [] 0∧H = [some S])∨(l≠[]∧∃ n k t,n = l.length * sz∧k = l.length∧((d = .osl 2 n 0 k sz∧H = [some S,some t,some (encs l)])∨(d = .osl 1 n 0 k sz∧H = [some S,some (encs l),some t])))
def PrsQ (nil:Bool) (zs:List Int) (q:D × Heap):Prop:= ∃ (l:List Pr) (k':Nat),1≤l.length∧l.length≤4∧(∀ p∈l,mkOk p = true)∧q = (.vsl false (encs l) l.length,[some (seqD nil zs k')])
set_option maxHeartbeats 1000000 in
theorem mpairs_ev [MaxL] [TxtC] (nil:Bool) (zs:List Int) (hnil:nil = true→zs = []) (hz:zs.length≤1000000) (k:Nat) :
  ∃ q,call cx 79 [.optr 0 2 0,.int .i64 4] [some (seqD nil zs k)] = some q∧PrsQ nil zs q:=by
 obtain ⟨x,k1,hx,-,h1⟩:=n_ev nil zs hnil hz k 4 (by decide) (by decide)
 refine call_runE (X:=cx) (f:=79) (args:=[.optr 0 2 0,.int .i64 4]) (H:=[some (seqD nil zs k)]) (PrsQ nil zs) Tryz.func79 rfl ⟨rfl,rfl⟩ ?_
 have hw:IntKind.i64.wrap ((x:Int)+1) = ((x+1:Nat):Int):=by rw [wrap_i64] <;> omega
 have sf:=seqD_free nil zs
 have sl:=seqD_len nil zs
 have sc:=seqD_cl nil zs
 simp [Tryz.f79,h1,sf]
 refine Run.loopThen (fun (q:List Pr × Nat × Nat) e H'=>q.1.length+q.2.1 = x+1∧(∀ p∈q.1,mkOk p = true)∧look e 0 = some (.optr 0 2 0)∧look e 6 = some (.int .i64 (q.2.1:Nat))∧∃ d,look e 5 = some d∧GrowH (seqD nil zs q.2.2) 2 q.1 d H') (fun q=>q.2.1) ([],x+1,k1) ?_ ?_
 ·exact ⟨by simp,by simp,by simp,by simp [hw],_,by simp,.inl ⟨rfl,rfl,rfl⟩⟩
 rintro ⟨l,i,k2⟩ e H' ⟨hi,hok,k0,k6,d,k5,hH⟩
 simp only at hi hok k6 hH
 obtain ⟨p,k3,hp,h2⟩:=mpair_ev nil zs hnil hz k2
 rcases hH with ⟨rfl,rfl,rfl⟩ | ⟨hne,n,m,t,hn,hm,hH⟩
 ·have hi0:0 < i:=by simp at hi;omega
  have hw2:IntKind.i64.wrap ((i:Int) - 1) = ((i - 1:Nat):Int):=by rw [wrap_i64] <;> (simp at hi;omega)
  simp [k0,k5,k6,hi0,h2,sf,sc,hw2,Pr.cells,maxBytes]
  exact ⟨[p],i - 1,by omega,by simp at hi ⊢;omega,by simp [hp],rfl,k3,.inr ⟨by simp,2,1,_,rfl,rfl,.inl ⟨rfl,rfl⟩⟩⟩
 ·have hm1:(m+1) * 32≤140737488355328:=by omega
  have hm2:m+1≤140737488355328:=by omega
  have hlk:l.length = m:=hm.symm
  have hkn:m * 2 = n:=by omega
  have htk:List.take n (encs l) = encs l:=List.take_of_length_le (by simp;omega)
  by_cases hi0:0 < i
  ·have hw2:IntKind.i64.wrap ((i:Int) - 1) = ((i - 1:Nat):Int):=by rw [wrap_i64] <;> omega
   rcases hH with ⟨rfl,rfl⟩ | ⟨rfl,rfl⟩
   all_goals
    simp [k0,k5,k6,hi0,h2,sf,sc,hw2,Pr.cells,maxBytes,hlk,hkn,hm1,hm2]
    refine ⟨l ++ [p],i - 1,by omega,by simp;omega,fun q hq=>?_,rfl,k3,.inr ⟨by simp,n+2,m+1,_,by simp;omega,by simp [hlk],.inr ⟨rfl,by rw [encs_snoc];rfl⟩⟩⟩
    rcases List.mem_append.1 hq with h | h
    ·exact hok q h
    ·rw [List.mem_singleton.1 h];exact hp
  ·have hie:l.isEmpty = false:=by simpa using hne
   have hl1:1≤l.length:=by
    cases l with
    | nil=>exact absurd rfl hne
    | cons=>simp
   rcases hH with ⟨rfl,rfl⟩ | ⟨rfl,rfl⟩
   all_goals
    simp [k0,k5,k6,hi0,sc,hlk,hkn,htk]
    exact ⟨l,k2,hl1,by omega,hok,by rw [hlk]⟩
end Go.Ev.S
namespace Go.Ev.S
open Go Go.Proofs Go.Ev
def RecR (n:Nat) (r:Rec):Prop:=r.seq = n∧r.Ok∧1≤r.fields.l.length∧r.fields.l.length≤4∧∀ p∈r.fields.l,mkOk p = true
theorem u64_of {n:Nat} (h:n < 18446744073709551616):isU64 (n:Int):=by
 unfold isU64
 omega
set_option maxHeartbeats 1000000 in
theorem mrec_ev [MaxL] [TxtC] (nil:Bool) (zs:List Int) (hnil:nil = true→zs = []) (hz:zs.length≤1000000) (k:Nat) (n:Nat) (hn:n < 18446744073709551616) :
  ∃ (r:Rec) (k':Nat),RecR n r∧call cx 40 [.optr 0 2 0,.int .u64 n] [some (seqD nil zs k)] = some (.agg (Enc.cells r),[some (seqD nil zs k')]):=by
 obtain ⟨q,h1,l,k1,hl1,hl4,hp,rfl⟩:=mpairs_ev nil zs hnil hz k
 obtain ⟨q,h2,out,ho1,ho4,hop,rfl⟩:=list_ev l hl1 hl4 hp
 obtain ⟨x,k2,hx,-,h3⟩:=n_ev nil zs hnil hz k1 40 (by decide) (by decide)
 obtain ⟨y,k3,hy,-,h4⟩:=n_ev nil zs hnil hz k2 9 (by decide) (by decide)
 obtain ⟨z,k4,hz3,-,h5⟩:=n_ev nil zs hnil hz k3 3 (by decide) (by decide)
 have h6:=mid_small (j:=z) (by omega)
 refine ⟨⟨n,x,y,idN z,.of out⟩,k4,⟨rfl,⟨u64_of hn,u64_of (by omega),u64_of (by omega)⟩,ho1,ho4,hop⟩,?_⟩
 have sf:=seqD_free nil zs
 have sl:=seqD_len nil zs
 have sc:=seqD_cl nil zs
 have hx64:IntKind.u64.wrap (x:Int) = (x:Int):=by rw [wrap_u64];omega
 have hy64:IntKind.u64.wrap (y:Int) = (y:Int):=by rw [wrap_u64];omega
 have hi:=(idN z).h
 generalize idN z = iz at *
 have ht:List.take 16 (ofBytes iz.l) = ofBytes iz.l:=List.take_of_length_le (by simp)
 have hd:List.drop 17 (ofBytes iz.l ++ [D.vsl true [] 0]) = []:=List.drop_eq_nil_of_le (by simp)
 refine call_run Tryz.func40 rfl ⟨rfl,rfl⟩ ?_
 simp [Tryz.f40,h1,h2,h3,h4,h5,h6,sf,sc,hx64,hy64,Rec.cells,hi,hd,List.take_append]

end Go.Ev.S
namespace Go.Ev.S
open Go Go.Proofs Go.Ev
def MadeI (it:It):Prop:=it.Ok∧itOk it = true∧it.rc.fields.l.length≤4∧∀ p∈it.rc.fields.l,mkOk p = true
theorem u64_zero':isU64 0:=by unfold isU64;decide
def recZ:Rec:=⟨0,0,0,ID.zero,.none⟩
theorem made_gap (q:ID) {n t:Nat} (h1:1≤n) (h2:n≤t) (h3:t < 18446744073709551616):MadeI ⟨q,true,n,t,recZ⟩:=by
 refine ⟨⟨u64_of (by omega),u64_of (by omega),⟨u64_zero',u64_zero',u64_zero'⟩⟩,?_,Nat.zero_le _,fun p hp=>by cases hp⟩
 unfold itOk gapOk
 simp [recZ,Sl.none]
 omega
theorem made_rec (q:ID) {n:Nat} {r:Rec} (h1:1≤n) (h:RecR n r):MadeI ⟨q,false,0,0,r⟩:=by
 obtain ⟨a,b,c,d,e⟩:=h
 refine ⟨⟨u64_zero',u64_zero',b⟩,?_,d,e⟩
 unfold itOk recOk
 simp [a]
 exact ⟨⟨⟨by omega,c⟩,by omega⟩,fun p hp=>mkOk_ok (e p hp)⟩
theorem intsK_set {k:IntKind} {l:List Int} {i:Nat} {v:Int} (h:i < l.length):setRange (intsK k l) i [.int k v] = intsK k (l.set i v):=by
 have hi:i < (intsK k l).length:=by simpa using h
 have e:(intsK k l).set i (.int k v) = intsK k (l.set i v):=by unfold intsK;rw [List.map_set]
 rw [← e,List.set_eq_take_append_cons_drop,if_pos hi]
 unfold setRange
 simp
theorem gap_cells (q:ID) (n t:Int):Enc.cells (⟨q,true,n,t,recZ⟩:It) = ofBytes q.l ++ [.bool true,.int .u64 n,.int .u64 t,.int .u64 0,.int .u64 0,.int .u64 0,.int .u8 0,.int .u8 0,.int .u8 0,.int .u8 0,.int .u8 0,.int .u8 0,.int .u8 0,.int .u8 0,.int .u8 0,.int .u8 0,.int .u8 0,.int .u8 0,.int .u8 0,.int .u8 0,.int .u8 0,.int .u8 0,.vsl true [] 0]:=by
 rw [It.cells]
 rfl
theorem rec_cells (q:ID) (r:Rec):Enc.cells (⟨q,false,0,0,r⟩:It) = ofBytes q.l ++ (.bool false :: .int .u64 0 :: .int .u64 0 :: Enc.cells r):=by
 rw [It.cells,Rec.cells]
 rfl
theorem rec_noZ (r:Rec):noZ.noZL (Enc.cells r) = true:=by
 rw [Rec.cells]
 simp
def ItsH (S:List D) (out:List It) (last:List Int) (d5 d6:D) (H:Heap):Prop :=
 (out = []∧d5 = .vsl true [] 0∧d6 = .optr 1 3 0∧H = [some S,some (intsK .u64 last)]) ∨
 (out≠[]∧∃ n m t,n = out.length * 39∧m = out.length∧((d5 = .osl 3 n 0 m 39∧d6 = .optr 1 3 0∧H = [some S,some (intsK .u64 last),some t,some (encs out)])∨(d5 = .osl 1 n 0 m 39∧d6 = .optr 2 3 0∧H = [some S,some (encs out),some (intsK .u64 last),some t])))
def ItsQ (nil:Bool) (zs:List Int) (most:Nat) (q:D × Heap):Prop:= ∃ (out:List It) (k':Nat),out.length≤most∧(∀ it∈out,MadeI it) ∧
 ((out = []∧q = (.vsl true [] 0,[some (seqD nil zs k')]))∨(out≠[]∧∃ n m,n = out.length * 39∧m = out.length∧q = (.osl 1 n 0 m 39,[some (seqD nil zs k'),some (encs out)])))
set_option maxHeartbeats 4000000 in
theorem items_ev [MaxL] [TxtC] (nil:Bool) (zs:List Int) (hnil:nil = true→zs = []) (hz:zs.length≤1000000) (k:Nat) (most:Nat) (hmost:most≤100) :
  ∃ q,call cx 13 [.optr 0 2 0,.int .i64 most] [some (seqD nil zs k)] = some q∧ItsQ nil zs most q:=by
 refine call_runE (X:=cx) (f:=13) (args:=[.optr 0 2 0,.int .i64 most]) (H:=[some (seqD nil zs k)]) (ItsQ nil zs most) Tryz.func13 rfl ⟨rfl,rfl⟩ ?_
 have sf:=seqD_free nil zs
 have sl:=seqD_len nil zs
 have sc:=seqD_cl nil zs
 simp [Tryz.f13]
 refine Run.loopThen (fun (q:List It × List Int × Nat) e H'=>q.1.length≤most∧(∀ it∈q.1,MadeI it)∧q.2.1.length = 3∧(∀ v∈q.2.1,0≤v∧v≤q.1.length * 6)∧look e 0 = some (.optr 0 2 0)∧look e 1 = some (.int .i64 most)∧∃ d5 d6,look e 5 = some d5∧look e 6 = some d6∧ItsH (seqD nil zs q.2.2) q.1 q.2.1 d5 d6 H') (fun q=>most - q.1.length) ([],[0,0,0],k) ?_ ?_
 ·exact ⟨by simp,by simp,by simp,by simp,by simp,by simp,_,_,by simp,by simp,.inl ⟨rfl,rfl,rfl,rfl⟩⟩
 rintro ⟨out,last,k1⟩ e H' ⟨ho,hmade,hl3,hlast,k0,k1',d5,d6,k5,k6,hH⟩
 simp only at ho hmade hl3 hlast hH
 have hmo:=more_ev nil zs k1
 have hlf:(∀ x,x∈intsK .u64 last→idFree x = true) = True:=eq_true (by simp [intsK])
 have hlc:∀ n,(∀ x,x∈intsK .u64 last→closed n x = true) = True:=fun n=>eq_true (by simp [intsK])
 obtain ⟨x1,k2,hx1,-,c1⟩:=n_ev nil zs hnil hz k1 3 (by decide) (by decide)
 obtain ⟨x2,k3,hx2,-,c2⟩:=n_ev nil zs hnil hz k2 3 (by decide) (by decide)
 obtain ⟨x3,k4,hx3,-,c3⟩:=n_ev nil zs hnil hz k3 4 (by decide) (by decide)
 obtain ⟨x4,k5',hx4,-,c4⟩:=n_ev nil zs hnil hz k4 4 (by decide) (by decide)
 have hid:=mid_small (j:=x1) (by omega)
 have hx1l:x1 < last.length:=by omega
 have hat:=intsK_at (k:=.u64) hx1l
 have hx1i:(x1:Int) < 3:=hx1
 have hxn:x1 < 3:=by omega
 have hxn2:x1+1≤3:=by omega
 obtain ⟨hv0,hv1⟩:=hlast _ (List.getElem_mem hx1l)
 obtain ⟨v,hv⟩:∃ v:Nat,last[x1] = (v:Int):=⟨last[x1].toNat,by omega⟩
 rw [hv] at hat hv0 hv1
 have w1:IntKind.u64.wrap ((v:Int)+1) = (v:Int)+1:=by rw [wrap_u64];omega
 have w2:IntKind.u64.wrap (x2:Int) = (x2:Int):=by rw [wrap_u64];omega
 have w3:IntKind.u64.wrap ((v:Int)+1+(x2:Int)) = (v:Int)+1+(x2:Int):=by rw [wrap_u64];omega
 have w4:IntKind.u64.wrap (x4:Int) = (x4:Int):=by rw [wrap_u64];omega
 have w5:IntKind.u64.wrap ((v:Int)+1+(x2:Int)+(x4:Int)) = (v:Int)+1+(x2:Int)+(x4:Int):=by rw [wrap_u64];omega
 obtain ⟨r,k6',hr,c6⟩:=mrec_ev nil zs hnil hz k4 (v+1+x2) (by omega)
 rw [show ((v+1+x2:Nat):Int) = (v:Int)+1+x2 by omega] at c6
 have hq:=(idN x1).h
 have hgm:=made_gap (idN x1) (n:=v+1+x2) (t:=v+1+x2+x4) (by omega) (by omega) (by omega)
 have hrm:=made_rec (idN x1) (n:=v+1+x2) (by omega) hr
 rw [show ((v+1+x2:Nat):Int) = (v:Int)+1+x2 by omega] at hgm
 rw [show ((v+1+x2+x4:Nat):Int) = (v:Int)+1+x2+x4 by omega] at hgm
 generalize idN x1 = iq at *
 have hq16:List.take 16 (ofBytes iq.l) = ofBytes iq.l:=List.take_of_length_le (by simp)
 have hq39:List.take 39 (ofBytes iq.l) = ofBytes iq.l:=List.take_of_length_le (by simp)
 have hset1:=fun x=>intsK_set (k:=.u64) (v:=x) hx1l
 have hlast1:∀ x:Int,0≤x→x≤(out.length+1:Nat) * 6→∀ y∈last.set x1 x,0≤y∧y≤(out.length+1:Nat) * 6:=by
  intro x h1 h2 y hy
  rcases List.mem_or_eq_of_mem_set hy with h | rfl
  ·have:=hlast y h
   omega
  ·exact ⟨h1,h2⟩
 have hrz:=rec_noZ r
 by_cases h0:out.length < most
 case neg =>
  rcases hH with ⟨rfl,rfl,rfl,rfl⟩ | ⟨hne,n,m,t,hn,hm,hH⟩
  ·have h00:¬ 0 < most:=h0
   simp [k0,k1',k5,k6,sc,hlf,h00]
   exact ⟨[],k1,by simp,by simp,.inl ⟨rfl,rfl⟩⟩
  have h00:¬ m < most:=by omega
  have hkn:m * 39 = n:=by omega
  have hlk:out.length = m:=hm.symm
  have htk:List.take n (encs out) = encs out:=List.take_of_length_le (by simp;omega)
  rcases hH with ⟨rfl,rfl,rfl⟩ | ⟨rfl,rfl,rfl⟩
  all_goals
   simp [k0,k1',k5,k6,sc,hlf,h00,hlk]
   exact ⟨out,k1,by omega,hmade,.inr ⟨hne,n,m,by omega,by omega,rfl⟩⟩
 cases hmm:decide (k1 < zs.length) with
 | false =>
  rw [hmm] at hmo
  rcases hH with ⟨rfl,rfl,rfl,rfl⟩ | ⟨hne,n,m,t,hn,hm,hH⟩
  ·have h00:0 < most:=h0
   simp [k0,k1',k5,k6,hmo,sf,sc,hlf,h00]
   exact ⟨[],k1,by simp,by simp,.inl ⟨rfl,rfl⟩⟩
  have h00:m < most:=by omega
  have hkn:m * 39 = n:=by omega
  have hlk:out.length = m:=hm.symm
  have htk:List.take n (encs out) = encs out:=List.take_of_length_le (by simp;omega)
  rcases hH with ⟨rfl,rfl,rfl⟩ | ⟨rfl,rfl,rfl⟩
  all_goals
   simp [k0,k1',k5,k6,hmo,sf,sc,hlf,h00,hlk]
   exact ⟨out,k1,by omega,hmade,.inr ⟨hne,n,m,by omega,by omega,rfl⟩⟩
 | true =>
  rw [hmm] at hmo
  rcases hH with ⟨rfl,rfl,rfl,rfl⟩ | ⟨hne,n,m,t,hn,hm,hH⟩
  ·have h00:0 < most:=h0
   by_cases h3:x3 = 0
   ·subst h3
    simp [k0,k1',k5,k6,hmo,sf,sc,hlf,hl3,h00,c1,c2,c3,c4,hat,hx1i,hxn2,w1,w2,w3,w4,w5,hid,maxBytes,hq,hq39,List.take_append,List.drop_append,drop_bytes,hset1]
    refine ⟨[⟨iq,true,(v:Int)+1+x2,(v:Int)+1+x2+x4,recZ⟩],by simp;omega,by simp;omega,by simpa using hgm,last.set x1 ((v:Int)+1+x2+x4),by simp [hl3],hlast1 _ (by omega) (by simp at hv1 ⊢;omega),k5',.inr ⟨by simp,39,1,_,rfl,rfl,.inl ⟨rfl,rfl,by rw [encs_one,gap_cells]⟩⟩⟩
   ·have h3':¬ (x3:Int) = 0:=by omega
    simp [k0,k1',k5,k6,hmo,sf,sc,hlf,hl3,h00,c1,c2,c3,h3,c6,hrz,hat,hx1i,hxn2,w1,w2,w3,hid,maxBytes,hq,hq39,List.take_append,List.drop_append,drop_bytes,hset1]
    refine ⟨[⟨iq,false,0,0,r⟩],by simp;omega,by simp;omega,by simpa using hrm,last.set x1 ((v:Int)+1+x2),by simp [hl3],hlast1 _ (by omega) (by simp at hv1 ⊢;omega),k6',.inr ⟨by simp,39,1,_,rfl,rfl,.inl ⟨rfl,rfl,by rw [encs_one,rec_cells]⟩⟩⟩
  have h00:m < most:=by omega
  have hkn:m * 39 = n:=by omega
  have hlk:out.length = m:=hm.symm
  have htk:List.take n (encs out) = encs out:=List.take_of_length_le (by simp;omega)
  have hm1:(m+1) * 104≤140737488355328:=by omega
  have hm2:m+1≤140737488355328:=by omega
  rcases hH with ⟨rfl,rfl,rfl⟩ | ⟨rfl,rfl,rfl⟩
  all_goals
   by_cases h3:x3 = 0
   ·subst h3
    simp [k0,k1',k5,k6,hmo,sf,sc,hlf,hl3,h00,hkn,hlk,hm1,hm2,c1,c2,c3,c4,hat,hx1i,hxn2,w1,w2,w3,w4,w5,hid,maxBytes,hq,hq39,List.take_append,List.drop_append,drop_bytes,hset1]
    refine ⟨out ++ [⟨iq,true,(v:Int)+1+x2,(v:Int)+1+x2+x4,recZ⟩],by simp;omega,by simp;omega,fun it h=>?_,last.set x1 ((v:Int)+1+x2+x4),by simp [hl3],by simpa using hlast1 _ (by omega) (by simp at hv1 ⊢;omega),k5',.inr ⟨by simp,n+39,m+1,_,by simp;omega,by simp [hlk],.inr ⟨rfl,rfl,by rw [encs_snoc,gap_cells]⟩⟩⟩
    rcases List.mem_append.1 h with h | h
    ·exact hmade it h
    ·rw [List.mem_singleton.1 h];exact hgm
   ·have h3':¬ (x3:Int) = 0:=by omega
    simp [k0,k1',k5,k6,hmo,sf,sc,hlf,hl3,h00,hkn,hlk,hm1,hm2,c1,c2,c3,h3,c6,hrz,hat,hx1i,hxn2,w1,w2,w3,hid,maxBytes,hq,hq39,List.take_append,List.drop_append,drop_bytes,hset1]
    refine ⟨out ++ [⟨iq,false,0,0,r⟩],by simp;omega,by simp;omega,fun it h=>?_,last.set x1 ((v:Int)+1+x2),by simp [hl3],by simpa using hlast1 _ (by omega) (by simp at hv1 ⊢;omega),k6',.inr ⟨by simp,n+39,m+1,_,by simp;omega,by simp [hlk],.inr ⟨rfl,rfl,by rw [encs_snoc,rec_cells]⟩⟩⟩
    rcases List.mem_append.1 h with h | h
    ·exact hmade it h
    ·rw [List.mem_singleton.1 h];exact hrm
end Go.Ev.S
namespace Go.Ev.S
open Go Go.Proofs Go.Ev
theorem headL_len (L:List (List UInt8)):(headL L).length = (L.map fun s=>s.length+1).sum:=by
 induction L with
 | nil=>rfl
 | cons a L ih =>
  have:headL (a :: L) = (a ++ [10]) ++ headL L:=rfl
  rw [this,List.length_append,ih]
  simp
theorem textL_small {x:It} (h:MadeI x):(textL x).length≤660:=by
 obtain ⟨hi,ho,h4,hp⟩:=h
 unfold textL
 cases hg:x.gap with
 | true =>
  rw [if_pos rfl]
  have l1:=dec_len x.fr.toNat
  have l2:=dec_len x.til.toNat
  have l3:=hexs_len x.id.l
  rw [x.id.h] at l3
  unfold textG kGap kId
  simp
  omega
 | false =>
  rw [if_neg (by decide)]
  have h2:=bodyL_le x.rc.fields.l 54 fun p hq=>by
   have:=mkOk_len (hp p hq)
   have h1:=pairL_len p
   omega
  have h3:x.rc.fields.l.length * 54≤4 * 54:=Nat.mul_le_mul_right _ h4
  have l0:=(showL_len (cOfP x.id x.rc)).2
  have l4:=hexs_len x.id.l
  have l5:=hexs_len x.rc.boot.l
  rw [x.id.h] at l4
  rw [x.rc.boot.h] at l5
  have d1:=dec_len x.rc.real.toNat
  have d2:=dec_len x.rc.mono.toNat
  have d3:=dec_len x.rc.seq.toNat
  unfold textR
  simp only [List.length_append,List.length_cons,List.length_nil,headL_len,sixL,List.map_cons,List.map_nil,List.sum_cons,List.sum_nil,kPlace,kReal,kMono,kSeq,kId,kBoot]
  omega
theorem sum_small {L:List It} (h:∀ x∈L,MadeI x):(L.map fun x=>4+(textL x).length).sum≤L.length * 664:=by
 induction L with
 | nil=>simp
 | cons a L ih =>
  have h1:=ih fun x hx=>h x (List.mem_cons_of_mem _ hx)
  have h2:=textL_small (h a (List.mem_cons_self ..))
  rw [List.map_cons,List.sum_cons,List.length_cons,Nat.add_mul]
  omega
theorem made_all {L:List It} (h:∀ x∈L,MadeI x):L.all itOk = true:=List.all_eq_true.2 fun x hx=>(h x hx).2.1
theorem put_made {L:List It} {m:List Mk} (h:∀ x∈L,MadeI x) (hl:L.length≤64) (hr:rightM m = true):putOk L m = true∧putS L m = .of (sealB (rawB L m))∧(sealB (rawB L m)).length = 11+40 * m.length+(L.map fun x=>4+(textL x).length).sum∧(sealB (rawB L m)).length≤65536:=by
 have h1:putOk L m = true:=by
  unfold putOk
  rw [decide_eq_true hl,hr,made_all h]
  rfl
 have h2:=raw_len L m
 have h3:=sum_small h
 have h4:=rightM_le hr
 have h5:L.length * 664≤64 * 664:=Nat.mul_le_mul_right _ hl
 have h6:(sealB (rawB L m)).length≤65536:=by omega
 refine ⟨h1,?_,h2,h6⟩
 unfold putS
 rw [h1,decide_eq_true h6]
 rfl
end Go.Ev.S
namespace Go.Ev.S
open Go Go.Proofs Go.Ev
theorem u32_64 (s:BitVec 32):IntKind.u64.wrap (s.toNat:Int) = (s.toNat:Int):=by
 have:=s.isLt
 rw [wrap_u64]
 omega
theorem cseal_ev [MaxL] [TxtC] (b:Sl UInt8) (hn:b.l.length≤140737488354000):call cx 37 [(.vsl b.nil (ofBytes b.l) b.l.length)] [] = some ((.vsl ((.of (sealB b.l):Sl UInt8)).nil (ofBytes ((.of (sealB b.l):Sl UInt8)).l) ((.of (sealB b.l):Sl UInt8)).l.length),[]):=by
 have h1:=csum_ev b (by omega)
 have hw:=u32_64 (crcM 0#32 b.l)
 obtain ⟨d,H,hb,hc⟩:=leadd_ev b 4 (crcM 0#32 b.l).toNat (by omega)
 have e:leAdd b.l 4 (crcM 0#32 b.l).toNat = sealB b.l:=by simp [leAdd,szOk,sealB]
 have el:=sealB_len b.l
 rw [e] at hb
 generalize (crcM 0#32 b.l).toNat = v at *
 generalize sealB b.l = z at *
 rcases hb with ⟨-,rfl,-⟩ | ⟨rfl,rfl⟩
 ·simp at el
 refine call_run Tryz.func37 rfl ⟨rfl,rfl⟩ ?_
 simp [Tryz.f37,h1,hc,hw]
def openD (l:List UInt8):D:=if l.length < 4 then .tup [.vsl true [] 0,.int .i64 22] else if sumOk l then .tup [(.vsl ((.of (l.take (l.length - 4)):Sl UInt8)).nil (ofBytes ((.of (l.take (l.length - 4)):Sl UInt8)).l) ((.of (l.take (l.length - 4)):Sl UInt8)).l.length),.int .i64 0] else .tup [.vsl true [] 0,.int .i64 19]
theorem leGet_end {l:List UInt8} (h:4≤l.length):leGet l ((l.length - 4:Nat):Int) 4 = some (leN (l.drop (l.length - 4))):=by
 unfold leGet
 rw [if_pos ⟨rfl,by omega,by omega⟩]
 congr 2
 rw [show ((l.length - 4:Nat):Int).toNat = l.length - 4 from rfl,List.take_of_length_le (by rw [List.length_drop];show _≤4;omega)]
theorem copen_ev [MaxL] [TxtC] (b:Sl UInt8) (hn:b.l.length≤140737488354000):call cx 71 [(.vsl b.nil (ofBytes b.l) b.l.length)] [] = some (openD b.l,[]):=by
 refine call_run Tryz.func71 rfl ⟨rfl,rfl⟩ ?_
 have hw0:IntKind.i64.wrap ((b.l.length:Int) - 4) = (b.l.length:Int) - 4:=by rw [wrap_i64];omega
 unfold openD
 by_cases h4:b.l.length < 4
 ·rw [if_pos h4]
  have hlt:(b.l.length:Int) - 4 < 0:=by omega
  simp [Tryz.f71,hw0,hlt]
 rw [if_neg h4]
 obtain ⟨n,hn4⟩:∃ n,b.l.length - 4 = n:=⟨_,rfl⟩
 have hw1:IntKind.i64.wrap ((b.l.length:Int) - 4) = (n:Int):=by rw [hw0];omega
 have hnn:b.nil = false:=Sl.nn (i:=0) (by omega)
 have hg:=leget_ev b (n:Int) 4 (by omega) (by omega)
 have hge:=leGet_end (l:=b.l) (by omega)
 rw [hn4] at hge
 rw [hge] at hg
 have h1:=csum_ev (.of (b.l.take n)) (by simp;omega)
 have hw:=u32_64 (crcM 0#32 (b.l.take n))
 have hcl:=bytesclone_ev (.of (b.l.take n)) (by simp;omega)
 have hng:(0:Int)≤(n:Int):=by omega
 have hnl:n≤b.l.length:=by omega
 have htl:(b.l.take n).length = n:=by rw [List.length_take];omega
 have htk:List.take n (ofBytes b.l) = ofBytes (b.l.take n):=ofBytes_take _ _
 have hs:sumOk b.l = decide (leN (b.l.drop n) = (crcM 0#32 (b.l.take n)).toNat):=by unfold sumOk;rw [hn4]
 rw [hs,hn4]
 unfold optN at hg
 simp only [Sl.of_l,Sl.of_nil,htl] at h1 hw hcl
 simp only [Option.getD_some,Option.isSome_some] at hg
 generalize leN (b.l.drop n) = v at *
 generalize crcM 0#32 (b.l.take n) = c at *
 generalize b.l.take n = y at *
 have hcond:((v:Int) = (c.toNat:Int)) = (v = c.toNat):=propext ⟨fun h=>Int.ofNat.inj h,fun h=>congrArg _ h⟩
 have hngi:¬ (n:Int) < 0:=by omega
 rw [hnn] at hg
 rw [if_neg (by decide)] at hcl
 by_cases hv:v = c.toNat
 ·subst hv
  simp [Tryz.f71,hw1,hnn,hg,h1,hw,hcl,hng,hngi,hnl,htk,htl]
 ·rw [decide_eq_false hv]
  simp [Tryz.f71,hw1,hnn,hg,h1,hw,hng,hngi,hnl,htk,hcond,hv]
end Go.Ev.S
namespace Go.Ev.S
open Go Go.Proofs Go.Ev
def ItsB (l:List It):Prop:= ∀ x∈l,x.Ok∧x.rc.fields.l.length < 1000000∧∀ p∈x.rc.fields.l,PrB p
theorem flat_len {l:List It} (h:ItsB l) (ho:∀ x∈l,itOk x = true):(l.flatMap itB).length≤l.length * 10004:=by
 induction l with
 | nil=>simp
 | cons a l ih =>
  have h1:=ih (fun x hx=>h x (List.mem_cons_of_mem _ hx)) fun x hx=>ho x (List.mem_cons_of_mem _ hx)
  have h2:=(textL_len (h a (List.mem_cons_self ..)).1 (ho a (List.mem_cons_self ..))).1
  rw [List.flatMap_cons,List.length_append,itB_len,List.length_cons,Nat.add_mul]
  omega
theorem leadd4 [MaxL] (l:List UInt8) (n v:Nat) (hn:n = 2∨n = 4) (hl:l.length≤140737488355000) :
  call cx 64 [.vsl false (ofBytes l) l.length,.int .i64 n,.int .u64 v] [] = some (.osl 0 (l.length+n) 0 (l.length+n) 1,[some (ofBytes (l ++ leB n v))]):=by
 obtain ⟨d,H,hb,hc⟩:=leadd_ev (.of l) n v (by simpa using hl)
 have e:leAdd l n v = l ++ leB n v:=by rcases hn with rfl | rfl <;> simp [leAdd,szOk]
 simp only [Sl.of_l,Sl.of_nil] at hb hc
 rw [e] at hb
 rcases hb with ⟨rfl,h,rfl⟩ | ⟨rfl,rfl⟩
 ·have:=congrArg List.length h
  simp at this
  omega
 ·rw [hc]
  simp
theorem putS_none {l:List It} {m:List Mk} (h:putOk l m = false):putS l m = .none:=by unfold putS;rw [h];rfl
def PutH (X:List UInt8) (d:D) (H:Heap):Prop:= ∃ n,n = X.length∧((∃ t,d = .osl 1 n 0 n 1∧H = [some t,some (ofBytes X)])∨(∃ t u,d = .osl 2 n 0 n 1∧H = [some t,some u,some (ofBytes X)]))
def PutC (s:List It) (i:Nat) (X:List UInt8):Prop:=X = (kSign ++ leB 2 s.length) ++ (s.take i).flatMap itB
set_option maxHeartbeats 4000000 in
theorem wput_ev [MaxL] (s:Sl It) (m:Sl Mk) (hs:ItsB s.l) (hm:∀ x∈m.l,x.Ok) (hmn:m.l.length < 4611686018427387904):call cx 25 [(.vsl s.nil (encs s.l) s.l.length),(.vsl m.nil (encs m.l) m.l.length)] [] = some ((.vsl (putS s.l m.l).nil (ofBytes (putS s.l m.l).l) (putS s.l m.l).l.length),[]):=by
 have hr:=right_ev m hmn
 refine call_run Tryz.func25 rfl ⟨rfl,rfl⟩ ?_
 by_cases h64:s.l.length≤64
 case neg =>
  have h64':(64:Int) < (s.l.length:Int):=by omega
  have hp:putOk s.l m.l = false:=by unfold putOk;rw [decide_eq_false h64,Bool.false_and]
  rw [putS_none hp]
  simp [Tryz.f25,h64',Sl.none]
 have h64':¬ (64:Int) < (s.l.length:Int):=by omega
 cases hrm:rightM m.l with
 | false =>
  rw [hrm] at hr
  have hp:putOk s.l m.l = false:=by unfold putOk;rw [hrm,Bool.false_and,Bool.and_false]
  rw [putS_none hp]
  simp [Tryz.f25,h64',hr,Sl.none]
 | true =>
 rw [hrm] at hr
 have hw0:IntKind.u64.wrap (s.l.length:Int) = (s.l.length:Int):=by rw [wrap_u64];omega
 have h0:=leadd4 kSign 2 s.l.length (.inl rfl) (by decide)
 replace h0:call cx 64 [.vsl false [.int .u8 68,.int .u8 66,.int .u8 65,.int .u8 84] 4,.int .i64 2,.int .u64 s.l.length] [] = some (.osl 0 6 0 6 1,[some (ofBytes (kSign ++ leB 2 s.l.length))]):=h0
 simp [Tryz.f25,h64',hr,hw0,h0]
 refine Run.loopThen (fun (q:Nat × List UInt8) e H=>q.1≤s.l.length∧PutC s.l q.1 q.2∧(∀ x∈s.l.take q.1,itOk x = true)∧(∃ d,look e 5 = some d∧PutH q.2 d H)∧look e 1 = some (.vsl m.nil (encs m.l) m.l.length)∧look e 23 = some (.vsl s.nil (encs s.l) s.l.length)∧look e 24 = some (.int .i64 s.l.length)∧look e 25 = some (.int .i64 (q.1:Nat))) (fun q=>s.l.length - q.1) (0,kSign ++ leB 2 s.l.length) ?_ ?_
 ·refine ⟨Nat.zero_le _,by simp [PutC],by simp,⟨_,by simp,6,by simp [kSign],.inl ⟨_,rfl,rfl⟩⟩,by simp,by simp,by simp,by simp⟩
 rintro ⟨i,X⟩ e H ⟨hi,hX,hok,⟨d,k5,n,hn,hH⟩,k1,k23,k24,k25⟩
 simp only at hi hX hok hn k25
 have hnX:X.length = n:=hn.symm
 have htX:List.take n (ofBytes X) = ofBytes X:=List.take_of_length_le (by simp;omega)
 have hfl:=flat_len (l:=s.l.take i) (fun x hx=>hs x (List.mem_of_mem_take hx)) hok
 have hXl:X.length≤700000:=by
  rw [List.length_take] at hfl
  have:min i s.l.length * 10004≤64 * 10004:=Nat.mul_le_mul_right _ (by omega)
  unfold PutC at hX
  rw [hX,List.length_append,List.length_append,leB_len]
  show 4+2+_≤_
  omega
 by_cases hlt:i < s.l.length
 ·have hlt':(i:Int) < (s.l.length:Int):=by omega
  have hw:IntKind.i64.wrap ((i:Int)+1) = ((i+1:Nat):Int):=by rw [wrap_i64] <;> omega
  obtain ⟨x1,x2,x3⟩:=hs s.l[i] (List.getElem_mem hlt)
  have t1:=text_ev s.l[i] x1 x3 x2
  have hea:List.drop (i * 39) (encs s.l) = Enc.cells s.l[i] ++ encs (s.l.drop (i+1)):=It.ea hlt
  have htake:s.l.take (i+1) = s.l.take i ++ [s.l[i]]:=List.take_succ_eq_append_getElem hlt
  cases ho:itOk s.l[i] with
  | false =>
   have hp:putOk s.l m.l = false:=by
    unfold putOk
    have:s.l.all itOk = false:=by
     cases h:s.l.all itOk with
     | false=>rfl
     | true=>rw [List.all_eq_true] at h;rw [h _ (List.getElem_mem hlt)] at ho;cases ho
    rw [this,Bool.and_false,Bool.and_false]
   rw [putS_none hp]
   unfold textD at t1
   rw [ho,if_neg (by decide)] at t1
   generalize s.l[i] = x at *
   rcases hH with ⟨t,rfl,rfl⟩ | ⟨t,u,rfl,rfl⟩ <;> simp [-It.ea,k5,k1,k23,k24,k25,hlt',Sl.nn hlt,hea,t1,Sl.none]
  | true =>
   unfold textD at t1
   rw [ho,if_pos rfl] at t1
   obtain ⟨tl1,tl2⟩:=textL_len x1 ho
   have hX2:PutC s.l (i+1) (X ++ leB 4 (textL s.l[i]).length ++ textL s.l[i]):=by
    unfold PutC at *
    rw [hX,htake,List.flatMap_append]
    simp [itB]
   have hok2:∀ x∈s.l.take (i+1),itOk x = true:=by
    intro x hx
    rw [htake] at hx
    rcases List.mem_append.1 hx with h | h
    ·exact hok x h
    ·rw [List.mem_singleton.1 h];exact ho
   have a1:=leadd4 X 4 (textL s.l[i]).length (.inr rfl) (by omega)
   have hw4:IntKind.u64.wrap ((textL s.l[i]).length:Int) = ((textL s.l[i]).length:Int):=by rw [wrap_u64];omega
   have hz:¬ (textL s.l[i]).length = 0:=by omega
   generalize textL s.l[i] = t at *
   generalize s.l[i] = x at *
   have hb:X.length+4+t.length≤140737488355328:=by omega
   have hl4:(leB 4 t.length).length = 4:=leB_len _ _
   generalize leB 4 t.length = z at *
   replace a1:call cx 64 [.vsl false (ofBytes X) n,.int .i64 4,.int .u64 (t.length:Nat)] [] = some (.osl 0 (n+4) 0 (n+4) 1,[some (ofBytes (X ++ z))]):=by rw [hn];exact a1
   have hb2:n+4+t.length≤140737488355328:=by omega
   rcases hH with ⟨t0,rfl,rfl⟩ | ⟨t0,u0,rfl,rfl⟩ <;> simp [-It.ea,k5,k1,k23,k24,k25,hlt',Sl.nn hlt,hea,t1,hw,hw4,hz,maxBytes,htX,a1,hb2,hnX,hl4]
   all_goals exact ⟨i+1,by omega,by omega,_,hX2,hok2,⟨n+4+t.length,by rw [List.length_append,List.length_append,hnX,hl4],.inr ⟨_,_,rfl,by rw [ofBytes_append (X ++ z) t]⟩⟩,by omega⟩
 ·have hlt':¬ (i:Int) < (s.l.length:Int):=by omega
  have hit:s.l.take i = s.l:=List.take_of_length_le (by omega)
  rw [hit] at hok
  have hall:s.l.all itOk = true:=List.all_eq_true.2 hok
  have hp:putOk s.l m.l = true:=by unfold putOk;rw [decide_eq_true h64,hrm,hall];rfl
  have hb:=bytes_ev m hmn hm
  have hbS:bytesS m.l = .of (mksB m.l):=by unfold bytesS;rw [hrm];rfl
  rw [hbS] at hb
  have hraw:X ++ mksB m.l = rawB s.l m.l:=by unfold PutC at hX;rw [hX,hit];unfold rawB;simp
  have hml:(mksB m.l).length≤161:=by rw [mksB_len];have:=rightM_le hrm;omega
  have hc:=cseal_ev (.of (X ++ mksB m.l)) (by simp;omega)
  have hS:putS s.l m.l = if (sealB (X ++ mksB m.l)).length≤65536 then .of (sealB (X ++ mksB m.l)) else .none:=by
   unfold putS
   rw [hp,hraw,Bool.true_and]
   by_cases h:(sealB (rawB s.l m.l)).length≤65536
   ·rw [decide_eq_true h,if_pos rfl,if_pos h]
   ·rw [decide_eq_false h,if_neg (by decide),if_neg h]
  rw [hS]
  simp only [Sl.of_l,Sl.of_nil] at hc hb
  generalize mksB m.l = y at *
  have hmx:X.length+y.length≤140737488355328:=by omega
  have hsl:=sealB_len (X ++ y)
  generalize sealB (X ++ y) = z at *
  rw [ofBytes_append,List.length_append,← hn] at hc
  have hmn2:n+y.length≤140737488355328:=by omega
  have htk:List.take (n+y.length) (ofBytes X ++ ofBytes y) = ofBytes X ++ ofBytes y:=List.take_of_length_le (by simp;omega)
  by_cases h6:z.length≤65536
  ·have h6':¬ (65536:Int) < (z.length:Int):=by omega
   rw [if_pos h6]
   rcases hH with ⟨t0,rfl,rfl⟩ | ⟨t0,u0,rfl,rfl⟩ <;> simp [k5,k1,k23,k24,k25,hlt',hb,hc,maxBytes,h6',htk,hmn2,hnX]
  ·have h6':(65536:Int) < (z.length:Int):=by omega
   rw [if_neg h6]
   rcases hH with ⟨t0,rfl,rfl⟩ | ⟨t0,u0,rfl,rfl⟩ <;> simp [k5,k1,k23,k24,k25,hlt',hb,hc,maxBytes,h6',htk,hmn2,hnX,Sl.none]
end Go.Ev.S
namespace Go.Ev.S
open Go Go.Proofs Go.Ev
set_option maxRecDepth 4000 in
set_option maxHeartbeats 4000000 in
theorem mread_ev [MaxL] [TxtC] (s:Sl UInt8) (hn:s.l.length < 4611686018427387904) :
  call cx 73 [(.vsl s.nil (ofBytes s.l) s.l.length)] [] = some (.tup [(.vsl (Sl.grown (readM s.l).1).nil (encs (Sl.grown (readM s.l).1).l) (Sl.grown (readM s.l).1).l.length),.int .i64 (readN (readM s.l)),.int .i64 (readM s.l).2],[]):=by
 refine call_run Tryz.func73 rfl ⟨rfl,rfl⟩ ?_
 obtain ⟨nil,l,hnil⟩:=s
 simp only at hn ⊢
 cases l with
 | nil=>simp [Tryz.f73,readM,readN,Sl.grown]
 | cons c r =>
  have hnf:nil = false:=by
   cases nil with
   | false=>rfl
   | true=>simpa using hnil rfl
  subst hnf
  have hne:¬ ((r.length:Int)+1 = 0):=by omega
  have hpos:(0:Int) < (r.length:Int)+1:=by omega
  by_cases h4:4 < c.toNat
  ·have h4':(4:Int) < (c.toNat:Int):=by omega
   simp [Tryz.f73,readM,readN,Sl.grown,hne,hpos,ofBytes_cons,h4,h4']
  ·have h4':¬ (4:Int) < (c.toNat:Int):=by omega
   have hwc:IntKind.i64.wrap (c.toNat:Int) = (c.toNat:Int):=by rw [wrap_i64];omega
   simp [Tryz.f73,hne,hpos,ofBytes_cons,h4',hwc]
   refine Run.loopThen (fun (i:Nat) e H=>i≤c.toNat∧∃ (d:D) (out:List Mk),BufE 19 d H out∧out.length = i∧40 * i≤r.length∧look e 0 = some (.vsl false (ofBytes (c :: r)) (r.length+1))∧look e 5 = some d∧look e 21 = some (.int .i64 c.toNat)∧look e 22 = some (.int .i64 i) ∧
    readM (c :: r) = readGo (c.toNat - i) (r.drop (40 * i)) out) (fun i=>c.toNat - i) 0 ?_ ?_
   ·refine ⟨by omega,.vsl true [] 0,[],.inl ⟨rfl,rfl,rfl⟩,rfl,by omega,?_⟩
    simp [readM,h4,ofBytes_cons]
   ·rintro i e H ⟨hi,d,out,hbuf,hlen,hir,h0,h5,h21,h22,hr⟩
    by_cases hlt:i < c.toNat
    ·have hlt':(i:Int) < (c.toNat:Int):=by omega
     have hw40:IntKind.i64.wrap (40 * (i:Int)) = 40 * (i:Int):=by rw [wrap_i64];omega
     have hw41:IntKind.i64.wrap (1+40 * (i:Int)) = 1+40 * (i:Int):=by rw [wrap_i64];omega
     have g1:(0:Int)≤1+40 * (i:Int):=by omega
     have g2:1+40 * (i:Int)≤(r.length:Int)+1:=by omega
     have g3:(1+40 * (i:Int)).toNat = 40 * i+1:=by omega
     have hk:c.toNat - i = (c.toNat - (i+1))+1:=by omega
     rw [hk,readGo] at hr
     have hdl:(r.drop (40 * i)).length = r.length - 40 * i:=List.length_drop
     by_cases h16:r.length - 40 * i < 16
     ·rw [hdl,if_pos h16] at hr
      have hm:min (r.length - 40 * i) 16 = r.length - 40 * i:=by omega
      have hm':((r.length - 40 * i:Nat):Int) < 16:=by omega
      simp [h0,h5,h21,h22,hlt',hw40,hw41,g1,g2,g3,ofBytes_drop,hm,hm',hr,readN,Sl.grown]
     ·have hm:min (r.length - 40 * i) 16 = 16:=by omega
      rw [hdl,if_neg h16] at hr
      generalize hR:r.drop (40 * i) = R at *
      have ht16:(ofBytes R).take 16 = ofBytes (R.take 16):=ofBytes_take R 16
      obtain ⟨id,hid⟩:∃ id:ID,id.l = R.take 16:=⟨ID.mk' (R.take 16),ID.mk'_l (by rw [List.length_take];omega)⟩
      have hidm:ID.mk' (R.take 16) = id:=ID.ext' (by rw [ID.mk'_l (by rw [List.length_take];omega),hid])
      rw [← hid] at ht16 hr
      have hdr:(r.drop (40 * (i+1))) = R.drop 40:=by rw [← hR,List.drop_drop];congr 1
      have hRl:R.length = r.length - 40 * i:=hdl
      have fin40:lastGe out id.l = false→(¬ R.length < 40→∃ a1 a2 a3:Nat,mkOf R = ⟨id,a1,a2,a3⟩∧call cx 72 [.vsl false (ofBytes R) R.length,.int .i64 16,.int .i64 8] [] = some (.tup [.int .u64 a1,.bool true],[]) ∧
        call cx 72 [.vsl false (ofBytes R) R.length,.int .i64 24,.int .i64 8] [] = some (.tup [.int .u64 a2,.bool true],[])∧call cx 72 [.vsl false (ofBytes R) R.length,.int .i64 32,.int .i64 8] [] = some (.tup [.int .u64 a3,.bool true],[]) ∧
        readM (c :: r) = readGo (c.toNat - (i+1)) (r.drop (40 * (i+1))) (out ++ [⟨id,a1,a2,a3⟩])):=by
       intro hlg h40
       rw [hlg] at hr
       simp only [Bool.false_eq_true,if_false] at hr
       rw [if_neg (by omega)] at hr
       have hmk:mkOf R = ⟨id,leN ((R.drop 16).take 8),leN ((R.drop 24).take 8),leN ((R.drop 32).take 8)⟩:=by unfold mkOf;rw [hidm]
       have q:=fun a (ha:a+8≤40)=>leget_ev (.of R) (a:Nat) 8 (by omega) (by simp only [Sl.of_l,hRl];simp at hn;omega)
       have ql:∀ a,a+8≤40→leGet R (a:Nat) 8 = some (leN ((R.drop a).take 8)):=fun a ha=>by
        unfold leGet
        rw [if_pos ⟨rfl,by omega,by omega⟩]
        simp
       refine ⟨_,_,_,hmk,?_,?_,?_,by rw [hr,hdr,hmk]⟩
       ·have:=q 16 (by omega);simp only [Sl.of_l,Sl.of_nil,ql 16 (by omega)] at this;exact this
       ·have:=q 24 (by omega);simp only [Sl.of_l,Sl.of_nil,ql 24 (by omega)] at this;exact this
       ·have:=q 32 (by omega);simp only [Sl.of_l,Sl.of_nil,ql 32 (by omega)] at this;exact this
      rw [← hRl] at hm hr
      have hRd:(ofBytes (c :: r)).drop (40 * i+1) = ofBytes R:=by rw [ofBytes_drop,List.drop_succ_cons,hR]
      have hlast0:i = 0→lastGe out id.l = false:=fun h=>by
       have:out = []:=List.eq_nil_of_length_eq_zero (by omega)
       subst this
       rfl
      have hlastk:∀ k (hk:k < out.length),k+1 = i→lastGe out id.l = decide (0≤cmpB out[k].id.l id.l):=fun k hk hki=>by
       unfold lastGe
       have:out.getLast? = some out[k]:=by
        rw [List.getLast?_eq_getElem?,List.getElem?_eq_getElem (by omega)]
        congr 2
        omega
       rw [this]
      have hw1:IntKind.i64.wrap ((i:Int)+1) = ((i+1:Nat):Int):=by rw [wrap_i64] <;> omega
      have hc19:(out.length+1) * 40≤140737488355328∧out.length+1≤140737488355328:=by have:=c.toNat_lt;omega
      rcases Nat.eq_zero_or_pos i with hi0 | hipos
      ·have hi0':¬ 0 < i:=by omega
       have hlg:=hlast0 hi0
       by_cases h40:R.length < 40
       ·have h40':(R.length:Int) < 40:=by omega
        rw [hlg,if_pos h40] at hr
        simp only [Bool.false_eq_true,if_false] at hr
        rcases hbuf with ⟨rfl,rfl,rfl⟩ | ⟨rfl,rfl,hne0⟩ <;>
         simp [h0,h5,h21,h22,hlt',hw40,hw41,g1,g2,g3,hRd,← hRl,List.take_of_length_le,hm,ht16,hi0',h40',hr,readN,Sl.grown]
       ·have h40':¬ (R.length:Int) < 40:=by omega
        obtain ⟨a1,a2,a3,q1,q2,q3,q4,q5⟩:=fin40 hlg h40
        have hfold:ofBytes id.l ++ [.int .u64 (a1:Int),.int .u64 (a2:Int),.int .u64 (a3:Int)] = Enc.cells (⟨id,a1,a2,a3⟩:Mk):=rfl
        clear hr
        rcases hbuf with ⟨rfl,rfl,rfl⟩ | ⟨rfl,rfl,hne0⟩
        ·simp [h0,h5,h21,h22,hlt',hw40,hw41,g1,g2,g3,hRd,← hRl,List.take_of_length_le,hm,ht16,hi0',h40',q2,q3,q4,hfold,hw1,maxBytes,List.take_append,List.drop_append,drop_bytes]
         exact ⟨i+1,by omega,by omega,_,_,.one _,by simp at hlen;simp [← hlen],by omega,rfl,rfl,q5⟩
        ·simp [h0,h5,h21,h22,hlt',hw40,hw41,g1,g2,g3,hRd,← hRl,List.take_of_length_le,hm,ht16,hi0',h40',q2,q3,q4,hfold,hw1,maxBytes,hc19,List.take_append,List.drop_append,drop_bytes]
         exact ⟨i+1,by omega,by omega,_,_,.snoc _ _,by simp [hlen],by omega,rfl,rfl,q5⟩
      ·obtain ⟨k,hki⟩:∃ k,k+1 = i:=⟨i - 1,by omega⟩
       have hko:k < out.length:=by omega
       have hko':(k:Int) < (out.length:Int):=by omega
       have hwk:IntKind.i64.wrap ((i:Int) - 1) = (k:Int):=by rw [wrap_i64] <;> omega
       have hlg:=hlastk k hko hki
       have hcm:=compare_id out[k].id id
       have h19:k * 19+16≤out.length * 19:=by omega
       have h16k:∀ k,(16≤19+k) = True:=fun k=>eq_true (by omega)
       rcases hbuf with ⟨rfl,rfl,rfl⟩ | ⟨rfl,rfl,hne0⟩
       ·simp at hko
       ·by_cases hge:0≤cmpB out[k].id.l id.l
        ·rw [hlg,decide_eq_true hge] at hr
         simp only [if_true] at hr
         simp [h0,h5,h21,h22,hlt',hw40,hw41,g1,g2,g3,hRd,← hRl,List.take_of_length_le,hm,ht16,hipos,hwk,hko,hko',h19,hcm,hge,hr,readN,Sl.grown,List.take_append,List.drop_append]
        ·rw [decide_eq_false hge] at hlg
         by_cases h40:R.length < 40
         ·have h40':(R.length:Int) < 40:=by omega
          rw [hlg,if_pos h40] at hr
          simp only [Bool.false_eq_true,if_false] at hr
          simp [h0,h5,h21,h22,hlt',hw40,hw41,g1,g2,g3,hRd,← hRl,List.take_of_length_le,hm,ht16,hipos,hwk,hko,hko',h19,hcm,hge,h40',hr,readN,Sl.grown,List.take_append,List.drop_append]
         ·have h40':¬ (R.length:Int) < 40:=by omega
          obtain ⟨a1,a2,a3,q1,q2,q3,q4,q5⟩:=fin40 hlg h40
          have hfold:ofBytes id.l ++ [.int .u64 (a1:Int),.int .u64 (a2:Int),.int .u64 (a3:Int)] = Enc.cells (⟨id,a1,a2,a3⟩:Mk):=rfl
          clear hr
          simp [h0,h5,h21,h22,hlt',hw40,hw41,g1,g2,g3,hRd,← hRl,List.take_of_length_le,hm,ht16,hipos,hwk,hko,hko',h19,hcm,hge,h40',q2,q3,q4,hfold,hw1,maxBytes,hc19,List.take_append,List.drop_append,drop_bytes]
          exact ⟨i+1,by omega,by omega,_,_,.snoc _ _,by simp [hlen],by omega,rfl,rfl,q5⟩
    ·have hlt':¬ (i:Int) < (c.toNat:Int):=by omega
     have hk:c.toNat - i = 0:=by omega
     rw [hk,readGo] at hr
     rcases hbuf with ⟨rfl,rfl,rfl⟩ | ⟨rfl,rfl,hne0⟩
     ·simp [h0,h5,h21,h22,hlt',hr,readN,Sl.grown]
     ·have hw1:IntKind.i64.wrap (40 * (out.length:Int)) = 40 * (out.length:Int):=by rw [wrap_i64];omega
      have hw2:IntKind.i64.wrap (1+40 * (out.length:Int)) = 1+40 * (out.length:Int):=by rw [wrap_i64];omega
      simp [h0,h5,h21,h22,hlt',hr,readN,Sl.grown,hw1,hw2,hne0]
end Go.Ev.S
namespace Go.Ev.S
open Go Go.Proofs Go.Ev
def trD (q:List It × List Mk × Int):D:=.tup [(.vsl (Sl.grown q.1).nil (encs (Sl.grown q.1).l) (Sl.grown q.1).l.length),(.vsl (Sl.grown q.2.1).nil (encs (Sl.grown q.2.1).l) (Sl.grown q.2.1).l.length),.int .i64 q.2.2]
theorem leGet_at {l:List UInt8} (n:Nat) (hn:n = 2∨n = 4) (a:Nat):leGet l a n = if a+n≤l.length then some (leN ((l.drop a).take n)) else none:=by
 unfold leGet
 have hz:szOk (n:Int) = true:=by rcases hn with rfl | rfl <;> rfl
 by_cases h:a+n≤l.length
 ·rw [if_pos ⟨hz,by omega,by omega⟩,if_pos h,Int.toNat_natCast,Int.toNat_natCast]
 ·rw [if_neg (fun h'=>h (by omega)),if_neg h]
theorem leN4 (l:List UInt8):leN (l.take 4) < 4294967296:=by
 have h1:=leN_lt (l.take 4)
 have h2:(l.take 4).length≤4:=by rw [List.length_take];omega
 exact Nat.lt_of_lt_of_le h1 (Nat.le_trans (Nat.pow_le_pow_right (by decide) h2) (by decide))
def GetH (out:List It) (d:D) (H:Heap):Prop:=(out = []∧d = .vsl true [] 0∧∃ t,H = [some t])∨(out≠[]∧∃ n k,n = out.length * 39∧k = out.length∧((∃ t u,d = .osl 2 n 0 k 39∧H = [some t,some u,some (encs out)])∨(∃ t u,d = .osl 0 n 0 k 39∧H = [some (encs out),some t,some u])))
set_option maxHeartbeats 4000000 in
set_option maxRecDepth 4000 in
theorem wget_ev [MaxL] (b:Sl UInt8) (hn:b.l.length < 1000000):call cx 32 [(.vsl b.nil (ofBytes b.l) b.l.length)] [] = some (trD (getP b.l),[]):=by
 have hop:=copen_ev b (by omega)
 refine call_run Tryz.func32 rfl ⟨rfl,rfl⟩ ?_
 unfold openD at hop
 by_cases h4:b.l.length < 4
 ·have hg:getP b.l = ([],[],22):=by unfold getP;rw [if_pos h4]
  rw [if_pos h4] at hop
  rw [hg]
  simp [Tryz.f32,hop,trD,Sl.grown]
 rw [if_neg h4] at hop
 cases hs:sumOk b.l with
 | false =>
  have hg:getP b.l = ([],[],19):=by unfold getP;rw [if_neg h4,hs];rfl
  rw [hs,if_neg (by decide)] at hop
  rw [hg]
  simp [Tryz.f32,hop,trD,Sl.grown]
 | true =>
 have hg:getP b.l = getX (b.l.take (b.l.length - 4)):=by unfold getP;rw [if_neg h4,hs];rfl
 rw [hs,if_pos rfl] at hop
 rw [hg]
 have hxl:(b.l.take (b.l.length - 4)).length < 1000000:=by rw [List.length_take];omega
 generalize b.l.take (b.l.length - 4) = x at *
 simp only [Sl.of_l,Sl.of_nil] at hop
 clear hg hs h4
 unfold getX
 by_cases hx4:x.length < 4
 ·have hx4':(x.length:Int) < 4:=by omega
  rw [if_pos hx4]
  simp [Tryz.f32,hop,trD,Sl.grown,hx4']
 rw [if_neg hx4]
 have hx4':¬ (x.length:Int) < 4:=by omega
 have hpf:=bpfx_ev (.of x) kSign (by simpa using hxl) (by decide) (by decide)
 replace hpf:call cx 49 [.vsl false (ofBytes x) x.length,.vsl false [.int .u8 68,.int .u8 66,.int .u8 65,.int .u8 84] 4] [] = some (.bool (pre kSign x),[]):=hpf
 cases hp:pre kSign x with
 | false =>
  rw [hp] at hpf
  rw [if_neg (by decide)]
  simp [Tryz.f32,hop,trD,Sl.grown,hx4',hpf]
 | true =>
 rw [hp] at hpf
 rw [if_pos rfl]
 have hl2:=leget_ev (.of x) (4:Nat) (2:Nat) (by decide) (by simp;omega)
 rw [Sl.of_l,leGet_at 2 (.inl rfl) 4] at hl2
 by_cases hx6:x.length < 6
 ·rw [if_pos hx6]
  rw [if_neg (by omega)] at hl2
  unfold optN at hl2
  replace hl2:call cx 72 [.vsl false (ofBytes x) x.length,.int .i64 4,.int .i64 2] [] = some (.tup [.int .u64 0,.bool false],[]):=hl2
  simp [Tryz.f32,hop,trD,Sl.grown,hx4',hpf,hl2]
 rw [if_neg hx6]
 rw [if_pos (by omega)] at hl2
 unfold optN at hl2
 replace hl2:call cx 72 [.vsl false (ofBytes x) x.length,.int .i64 4,.int .i64 2] [] = some (.tup [.int .u64 (leN ((x.drop 4).take 2):Nat),.bool true],[]):=hl2
 generalize leN ((x.drop 4).take 2) = many at *
 by_cases h64:64 < many
 ·rw [if_pos h64]
  have h64':(64:Int) < (many:Int):=by omega
  simp [Tryz.f32,hop,trD,Sl.grown,hx4',hpf,hl2,h64']
 rw [if_neg h64]
 have h64':¬ (64:Int) < (many:Int):=by omega
 have h6x:(6:Int)≤(x.length:Int):=by omega
 have h6n:6≤x.length:=by omega
 have hd6:List.drop 6 (ofBytes x) = ofBytes (x.drop 6):=ofBytes_drop _ _
 have hr0:(x.drop 6).length < 1000000:=by rw [List.length_drop];omega
 have hl6:((x.length:Int) - 6) = ((x.drop 6).length:Int):=by rw [List.length_drop];omega
 have hl6n:x.length - 6 = (x.drop 6).length:=by rw [List.length_drop]
 obtain ⟨G,hG⟩:∃ G,getGo many (x.drop 6) [] = G:=⟨_,rfl⟩
 rw [hG]
 generalize x.drop 6 = r0 at *
 simp [Tryz.f32,hop,hx4',hpf,hl2,h64',h6x,hd6,hl6n]
 refine Run.loopThen (fun (q:Nat × List UInt8 × List It) e H=>q.1≤many∧getGo (many - q.1) q.2.1 q.2.2 = G∧q.2.2.length = q.1∧q.2.1.length < 1000000∧look e 0 = some (.vsl false (ofBytes q.2.1) q.2.1.length)∧(∃ d,look e 8 = some d∧GetH q.2.2 d H)∧look e 48 = some (.int .u64 (many:Nat))∧look e 49 = some (.int .u64 (q.1:Nat))) (fun q=>many - q.1) (0,r0,[]) ?_ ?_
 ·exact ⟨Nat.zero_le _,hG,rfl,hr0,by simp,⟨_,by simp,.inl ⟨rfl,rfl,_,rfl⟩⟩,by simp,by simp⟩
 rintro ⟨i,r,out⟩ e H ⟨hi,hR,ho,hrl,k0,⟨d,k8,hH⟩,k48,k49⟩
 simp only at hi hR ho hrl k0 hH k49
 have hH2:(out = []∧d = .vsl true [] 0∧∃ t,H = [some t])∨(∃ n k,n = out.length * 39∧k = out.length∧out≠[]∧List.take n (encs out) = encs out∧k * 39 = n∧k≤64∧((∃ t u,d = .osl 2 n 0 k 39∧H = [some t,some u,some (encs out)])∨(∃ t u,d = .osl 0 n 0 k 39∧H = [some (encs out),some t,some u]))):=by
  rcases hH with h | ⟨hne,n,k,hn,hk,h⟩
  ·exact .inl h
  ·exact .inr ⟨n,k,hn,hk,hne,List.take_of_length_le (by simp;omega),by omega,by omega,h⟩
 clear hH
 by_cases hlt:i < many
 ·have hw:IntKind.u64.wrap ((i:Int)+1) = ((i+1:Nat):Int):=by rw [wrap_u64] <;> omega
  have hl4:=leget_ev (.of r) (0:Nat) (4:Nat) (by decide) (by simp;omega)
  rw [Sl.of_l,leGet_at 4 (.inr rfl) 0] at hl4
  rw [show many - i = (many - (i+1))+1 by omega,getGo] at hR
  have hk:=leN4 r
  by_cases hr4:r.length < 4
  ·rw [if_pos (.inl hr4)] at hR
   rw [if_neg (by omega)] at hl4
   unfold optN at hl4
   replace hl4:call cx 72 [.vsl false (ofBytes r) r.length,.int .i64 0,.int .i64 4] [] = some (.tup [.int .u64 0,.bool false],[]):=hl4
   subst hR
   rcases hH2 with ⟨rfl,rfl,tt,rfl⟩ | ⟨nn,kk,hnn,hkk,hne,htk,hkn,hk64,⟨tt,uu,rfl,rfl⟩ | ⟨tt,uu,rfl,rfl⟩⟩
   ·simp [k0,k8,k48,k49,hlt,hl4,trD,Sl.grown]
   all_goals
    have hlk:out.length = kk:=hkk.symm
    simp [k0,k8,k48,k49,hlt,hl4,trD,Sl.grown]
  rw [if_pos (by omega),List.drop_zero] at hl4
  unfold optN at hl4
  replace hl4:call cx 72 [.vsl false (ofBytes r) r.length,.int .i64 0,.int .i64 4] [] = some (.tup [.int .u64 (leN (r.take 4):Nat),.bool true],[]):=hl4
  obtain ⟨n,hn'⟩:∃ n,leN (r.take 4) = n:=⟨_,rfl⟩
  rw [hn'] at hl4 hR hk
  have hws:IntKind.i64.wrap ((r.length:Int) - 4) = (r.length:Int) - 4:=by rw [wrap_i64];omega
  have hwu:IntKind.u64.wrap ((r.length:Int) - 4) = (r.length:Int) - 4:=by rw [wrap_u64];omega
  by_cases hbig:r.length - 4 < n
  ·rw [if_pos (.inr hbig)] at hR
   have hbig':(r.length:Int) - 4 < (n:Int):=by omega
   subst hR
   rcases hH2 with ⟨rfl,rfl,tt,rfl⟩ | ⟨nn,kk,hnn,hkk,hne,htk,hkn,hk64,⟨tt,uu,rfl,rfl⟩ | ⟨tt,uu,rfl,rfl⟩⟩
   ·simp [k0,k8,k48,k49,hlt,hl4,hws,hwu,hbig',trD,Sl.grown]
   all_goals
    have hlk:out.length = kk:=hkk.symm
    simp [k0,k8,k48,k49,hlt,hl4,hws,hwu,hbig',trD,Sl.grown]
  rw [if_neg (by omega)] at hR
  have hbig':¬ (r.length:Int) - 4 < (n:Int):=by omega
  have hw4:IntKind.u64.wrap (4+(n:Int)) = ((4+n:Nat):Int):=by rw [wrap_u64] <;> omega
  have hwn:IntKind.i64.wrap (n:Int) = (n:Int):=by rw [wrap_i64];omega
  obtain ⟨t,ht⟩:∃ t,(r.drop 4).take n = t:=⟨_,rfl⟩
  have htl:t.length = n:=by rw [← ht,List.length_take,List.length_drop];omega
  rw [ht] at hR
  have hrd:=readS_ev (.of t) (by simp;omega)
  simp only [Sl.of_l,Sl.of_nil,htl] at hrd
  have htd:List.take n (List.drop 4 (ofBytes r)) = ofBytes t:=by rw [ofBytes_drop,ofBytes_take,ht]
  have q1:(0:Int)≤4+(n:Int):=by omega
  have q2:(4:Int)+(n:Int)≤(r.length:Int):=by omega
  have q3:(4:Int)≤4+(n:Int):=by omega
  have q4:((4:Int)+(n:Int)).toNat = 4+n:=by omega
  have q5:4+n - 4 = n:=by omega
  have q6:r.length - (4+n) = (r.drop (4+n)).length:=by rw [List.length_drop]
  have hdd:List.drop (4+n) (ofBytes r) = ofBytes (r.drop (4+n)):=ofBytes_drop _ _
  have hr2:(r.drop (4+n)).length < 1000000:=by rw [List.length_drop];omega
  generalize r.drop (4+n) = r2 at *
  by_cases hok:readOk t = true∧(textL (itemP t)).length = n
  ·rw [if_pos hok] at hR
   have e1:rdI t = itemP t:=by unfold rdI;rw [if_pos hok.1]
   have e2:rdN t = n:=by unfold rdN;rw [if_pos hok.1,hok.2]
   have e3:rdC t = 0:=by unfold rdC;rw [if_pos hok.1]
   rw [e1,e2,e3] at hrd
   have hu:IntKind.u64.wrap ((i:Int)+1) = ((i+1:Nat):Int):=hw
   generalize itemP t = y at *
   rcases hH2 with ⟨rfl,rfl,tt,rfl⟩ | ⟨nn,kk,hnn,hkk,hne,htk,hkn,hk64,⟨tt,uu,rfl,rfl⟩ | ⟨tt,uu,rfl,rfl⟩⟩
   ·simp [k0,k8,k48,k49,hlt,hl4,hws,hwu,hbig',hw4,hwn,htd,hdd,hrd,q1,q2,q3,q4,q5,q6,maxBytes]
    exact ⟨i+1,by omega,by omega,r2,[y],hR,by rw [← ho];rfl,hr2,⟨rfl,rfl⟩,.inr ⟨by simp,39,1,rfl,rfl,.inl ⟨_,_,rfl,by rw [encs_one]⟩⟩,hu⟩
   all_goals
    have hlk:out.length = kk:=hkk.symm
    have m1:(kk+1) * 104≤140737488355328:=by omega
    have m2:kk≤140737488355327:=by omega
    simp [hlk,hkn,k0,k8,k48,k49,hlt,hl4,hws,hwu,hbig',hw4,hwn,htd,hdd,hrd,q1,q2,q3,q4,q5,q6,maxBytes,m1,m2]
    exact ⟨i+1,by omega,by omega,r2,out ++ [y],hR,by simp [ho],hr2,⟨rfl,rfl⟩,.inr ⟨by simp,nn+39,kk+1,by simp;omega,by simp [hlk],.inr ⟨_,_,rfl,by rw [encs_snoc]⟩⟩,hu⟩
  ·rw [if_neg hok] at hR
   subst hR
   cases hro:readOk t with
   | false =>
    have e1:rdC t = 20:=by unfold rdC;rw [hro];rfl
    rw [e1] at hrd
    generalize rdI t = y at *
    generalize rdN t = z at *
    rcases hH2 with ⟨rfl,rfl,tt,rfl⟩ | ⟨nn,kk,hnn,hkk,hne,htk,hkn,hk64,⟨tt,uu,rfl,rfl⟩ | ⟨tt,uu,rfl,rfl⟩⟩
    ·simp [k0,k8,k48,k49,hlt,hl4,hws,hwu,hbig',hw4,htd,hrd,q1,q2,q3,q4,q5,trD,Sl.grown]
    all_goals
     have hlk:out.length = kk:=hkk.symm
     simp [k0,k8,k48,k49,hlt,hl4,hws,hwu,hbig',hw4,htd,hrd,q1,q2,q3,q4,q5,trD,Sl.grown]
   | true =>
    have e1:rdC t = 0:=by unfold rdC;rw [hro];rfl
    have e2:¬ (textL (itemP t)).length = n:=fun h=>hok ⟨hro,h⟩
    have e3:rdN t = (textL (itemP t)).length:=by unfold rdN;rw [hro];rfl
    rw [e1,e3] at hrd
    generalize rdI t = y at *
    generalize (textL (itemP t)).length = z at *
    have e2':¬ (z:Int) = (n:Int):=by omega
    rcases hH2 with ⟨rfl,rfl,tt,rfl⟩ | ⟨nn,kk,hnn,hkk,hne,htk,hkn,hk64,⟨tt,uu,rfl,rfl⟩ | ⟨tt,uu,rfl,rfl⟩⟩
    ·simp [k0,k8,k48,k49,hlt,hl4,hws,hwu,hbig',hw4,hwn,htd,hrd,q1,q2,q3,q4,q5,e2',trD,Sl.grown]
    all_goals
     have hlk:out.length = kk:=hkk.symm
     simp [k0,k8,k48,k49,hlt,hl4,hws,hwu,hbig',hw4,hwn,htd,hrd,q1,q2,q3,q4,q5,e2',trD,Sl.grown]
 ·have hk:many - i = 0:=by omega
  rw [hk,getGo] at hR
  have hm:=mread_ev (.of r) (by simp;omega)
  simp only [Sl.of_l,Sl.of_nil] at hm
  obtain ⟨q,hq⟩:∃ q,readM r = q:=⟨_,rfl⟩
  rw [hq] at hm hR
  by_cases h0:q.2 = 0
  ·rw [if_pos h0] at hR
   have hnn:0≤Go.Ev.readN q:=by unfold Go.Ev.readN;rw [if_pos h0];omega
   by_cases hle:Go.Ev.readN q < (r.length:Int)
   ·rw [if_pos hle] at hR
    subst hR
    rcases hH2 with ⟨rfl,rfl,tt,rfl⟩ | ⟨nn,kk,hnn,hkk,hne,htk,hkn,hk64,⟨tt,uu,rfl,rfl⟩ | ⟨tt,uu,rfl,rfl⟩⟩
    ·simp [k0,k8,k48,k49,hlt,hm,h0,hle,trD,Sl.grown]
    all_goals
     have hlk:out.length = kk:=hkk.symm
     simp [k0,k8,k48,k49,hlt,hm,h0,hle,trD,Sl.grown]
   ·rw [if_neg hle] at hR
    subst hR
    rcases hH2 with ⟨rfl,rfl,tt,rfl⟩ | ⟨nn,kk,hnn,hkk,hne,htk,hkn,hk64,⟨tt,uu,rfl,rfl⟩ | ⟨tt,uu,rfl,rfl⟩⟩
    ·simp [k0,k8,k48,k49,hlt,hm,h0,hle,trD,Sl.grown]
    all_goals
     have hlk:out.length = kk:=hkk.symm
     simp [hlk,htk,hkn,k0,k8,k48,k49,hlt,hm,h0,hle,trD,Sl.grown,hne]
  ·rw [if_neg h0] at hR
   subst hR
   rcases hH2 with ⟨rfl,rfl,tt,rfl⟩ | ⟨nn,kk,hnn,hkk,hne,htk,hkn,hk64,⟨tt,uu,rfl,rfl⟩ | ⟨tt,uu,rfl,rfl⟩⟩
   ·simp [k0,k8,k48,k49,hlt,hm,h0,trD,Sl.grown]
   all_goals
    have hlk:out.length = kk:=hkk.symm
    simp [k0,k8,k48,k49,hlt,hm,h0,trD,Sl.grown]
end Go.Ev.S
namespace Go.Ev.S
open Go Go.Proofs Go.Ev
def sameFrom:List Mk→List Mk→Bool
 | a :: x,b :: y=>a == b && sameFrom x y
 | [],[]=>true
 | _,_=>false
theorem sameFrom_eq:∀ (x y:List Mk),sameFrom x y = (x == y)
 | [],[]=>rfl
 | [],_ :: _=>rfl
 | _ :: _,[]=>rfl
 | a :: x,b :: y=>by rw [sameFrom,sameFrom_eq x y,List.cons_beq_cons]
theorem order_ev [MaxL] [TxtC] (a b:Int):call cx 126 [.int .u64 a,.int .u64 b] [] = some (.int .i64 (if a < b then -1 else if b < a then 1 else 0),[]):=by
 refine call_run Tryz.func126 rfl ⟨rfl,rfl⟩ ?_
 by_cases h1:a < b
 ·simp [Tryz.f126,h1]
 ·by_cases h2:b < a
  ·simp [Tryz.f126,h1,h2]
  ·simp [Tryz.f126,h1,h2]
theorem cmpB_step:∀ {x y:List UInt8} {i:Nat} (hx:i < x.length) (hy:i < y.length),cmpB (x.drop i) (y.drop i) = if x[i] = y[i] then cmpB (x.drop (i+1)) (y.drop (i+1)) else if x[i] < y[i] then -1 else 1:=by
 intro x y i hx hy
 rw [List.drop_eq_getElem_cons hx,List.drop_eq_getElem_cons hy,cmpB]
set_option maxHeartbeats 1000000 in
theorem ids_ev [MaxL] [TxtC] (x y:ID):call cx 106 [.agg (ofBytes x.l),.agg (ofBytes y.l)] [] = some (.int .i64 (cmpB x.l y.l),[]):=by
 refine call_run Tryz.func106 rfl ⟨rfl,rfl⟩ ?_
 simp [Tryz.f106]
 refine Run.loopThen (fun (i:Nat) e H=>i≤16∧H = [some (ofBytes x.l),some (ofBytes y.l)]∧look e 2 = some (.optr 0 16 0)∧look e 3 = some (.optr 1 16 0)∧look e 5 = some (.int .i64 i)∧cmpB x.l y.l = cmpB (x.l.drop i) (y.l.drop i)) (fun i=>16 - i) 0 (by simp) ?_
 rintro i e H ⟨hi,rfl,h2,h3,h5,hr⟩
 by_cases hlt:i < 16
 ·have hlt':(i:Int) < 16:=by omega
  have hx:i < x.l.length:=by simp;omega
  have hy:i < y.l.length:=by simp;omega
  have hw:IntKind.i64.wrap ((i:Int)+1) = ((i+1:Nat):Int):=by rw [wrap_i64] <;> omega
  have hwx:IntKind.u64.wrap (x.l[i].toNat:Int) = (x.l[i].toNat:Int):=by rw [wrap_u64];have:=x.l[i].toNat_lt;omega
  have hwy:IntKind.u64.wrap (y.l[i].toNat:Int) = (y.l[i].toNat:Int):=by rw [wrap_u64];have:=y.l[i].toNat_lt;omega
  have ho:=order_ev (x.l[i].toNat:Int) (y.l[i].toNat:Int)
  rw [cmpB_step hx hy] at hr
  by_cases he:x.l[i] = y.l[i]
  ·rw [if_pos he] at hr
   simp [h2,h3,h5,hlt',ofBytes_at hx,ofBytes_at hy,he,hw]
   exact ⟨i+1,by omega,by omega,rfl,hr⟩
  ·have hne:¬ ((x.l[i].toNat:Int) = (y.l[i].toNat:Int)):=by
    intro h
    exact he (UInt8.toNat_inj.1 (by omega))
   have hne':¬ (x.l[i].toNat = y.l[i].toNat):=fun h=>he (UInt8.toNat_inj.1 h)
   rw [if_neg he] at hr
   have ho':(if (x.l[i].toNat:Int) < (y.l[i].toNat:Int) then (-1:Int) else if (y.l[i].toNat:Int) < (x.l[i].toNat:Int) then 1 else 0) = cmpB x.l y.l:=by
    rw [hr]
    by_cases hl:x.l[i] < y.l[i]
    ·have:x.l[i].toNat < y.l[i].toNat:=hl
     rw [if_pos hl,if_pos (by omega)]
    ·have:¬ x.l[i].toNat < y.l[i].toNat:=hl
     rw [if_neg hl,if_neg (by omega),if_pos (by omega)]
   rw [ho'] at ho
   simp [h2,h3,h5,hlt',ofBytes_at hx,ofBytes_at hy,hne,hwx,hwy,ho]
 ·have hlt':¬ (i:Int) < 16:=by omega
  have h16:i = 16:=by omega
  subst h16
  have e1:x.l.drop 16 = []:=List.drop_eq_nil_of_le (by simp)
  have e2:y.l.drop 16 = []:=List.drop_eq_nil_of_le (by simp)
  rw [e1,e2,cmpB] at hr
  simp [h2,h3,h5,hr]

set_option maxHeartbeats 1000000 in
theorem rmright_ev [MaxL] [TxtC] (s:Sl Mk) (hn:s.l.length < 4611686018427387904) :
  call cx 66 [(.vsl s.nil (encs s.l) s.l.length)] [] = some (.bool (rightM s.l),[]):=by
 refine call_run Tryz.func66 rfl ⟨rfl,rfl⟩ ?_
 simp [Tryz.f66]
 refine Run.loopThen (fun (i:Nat) e H=>1≤i∧(i≤s.l.length∨i = 1)∧H = []∧look e 0 = some (.vsl s.nil (encs s.l) s.l.length)∧look e 3 = some (.int .i64 i)∧risesM s.l = risesM (s.l.drop (i - 1))) (fun i=>s.l.length - i) 1 (by simp) ?_
 rintro i e H ⟨hi,hil,rfl,h0,h3,hr⟩
 by_cases hlt:i < s.l.length
 ·obtain ⟨k,hk⟩:∃ k,k+1 = i:=⟨i - 1,by omega⟩
  have hlt':(i:Int) < (s.l.length:Int):=by omega
  have hkl:k < s.l.length:=by omega
  have hkl':(k:Int) < (s.l.length:Int):=by omega
  have hw:IntKind.i64.wrap ((i:Int) - 1) = (k:Int):=by rw [wrap_i64] <;> omega
  have hw2:IntKind.i64.wrap ((i:Int)+1) = ((i+1:Nat):Int):=by rw [wrap_i64] <;> omega
  have hc:=ids_ev s.l[k].id s.l[i].id
  have hr2:risesM s.l = (decide (cmpB s.l[k].id.l s.l[i].id.l < 0) && risesM (s.l.drop i)):=by
   have e1:i - 1 = k:=by omega
   have e2:s.l.drop k = s.l[k] :: s.l[i] :: s.l.drop (i+1):=by
    rw [List.drop_eq_getElem_cons hkl]
    congr 1
    rw [hk,List.drop_eq_getElem_cons hlt]
   rw [hr,e1,e2,risesM,List.drop_eq_getElem_cons hlt]
  have h16:∀ k,(16≤19+k) = True:=fun k=>eq_true (by omega)
  by_cases hcm:cmpB s.l[k].id.l s.l[i].id.l < 0
  ·have hcm':¬ 0≤cmpB s.l[k].id.l s.l[i].id.l:=by omega
   rw [decide_eq_true hcm,Bool.true_and] at hr2
   simp [h0,h3,hlt',hw,hkl',Sl.nn hlt,h16,hlt,hkl,hc,hcm',hw2]
   exact ⟨i+1,by omega,by omega,.inl (by omega),rfl,by simpa using hr2⟩
  ·have hcm':0≤cmpB s.l[k].id.l s.l[i].id.l:=by omega
   rw [decide_eq_false hcm,Bool.false_and] at hr2
   simp [h0,h3,hlt',hw,hkl',Sl.nn hlt,h16,hlt,hkl,hc,hcm',hr2,rightM]
 ·have hlt':¬ (i:Int) < (s.l.length:Int):=by omega
  have hr2:risesM s.l = true:=by
   rw [hr]
   have:(s.l.drop (i - 1)).length≤1:=by rw [List.length_drop];omega
   match s.l.drop (i - 1),this with
   | [],_=>rfl
   | [a],_=>rfl
  by_cases h4:s.l.length≤4
  ·have h4':(s.l.length:Int)≤4:=by omega
   simp [h0,h3,hlt',hr2,h4,h4',rightM]
  ·have h4':¬ (s.l.length:Int)≤4:=by omega
   simp [h0,h3,hlt',hr2,h4,h4',rightM]
set_option maxHeartbeats 1000000 in
theorem rmsame_ev [MaxL] [TxtC] (a b:Sl Mk) (ha:a.l.length < 4611686018427387904) :
  call cx 35 [(.vsl a.nil (encs a.l) a.l.length),(.vsl b.nil (encs b.l) b.l.length)] [] = some (.bool (a.l == b.l),[]):=by
 refine call_run Tryz.func35 rfl ⟨rfl,rfl⟩ ?_
 by_cases hl:a.l.length = b.l.length
 ·simp [Tryz.f35,hl]
  refine Run.loopThen (fun (i:Nat) e H=>i≤b.l.length∧H = []∧look e 0 = some (.vsl a.nil (encs a.l) a.l.length)∧look e 1 = some (.vsl b.nil (encs b.l) b.l.length)∧look e 5 = some (.int .i64 i)∧sameFrom a.l b.l = sameFrom (a.l.drop i) (b.l.drop i)) (fun i=>b.l.length - i) 0 (by simp [hl]) ?_
  rintro i e H ⟨hi,rfl,h0,h1,h5,hr⟩
  rw [sameFrom_eq a.l b.l] at hr
  by_cases hlt:i < b.l.length
  ·have hlt':(i:Int) < (b.l.length:Int):=by omega
   have hla:i < a.l.length:=by omega
   have hw:IntKind.i64.wrap ((i:Int)+1) = ((i+1:Nat):Int):=by rw [wrap_i64] <;> omega
   rw [List.drop_eq_getElem_cons hlt,List.drop_eq_getElem_cons hla,sameFrom] at hr
   have hc:=cellsEqMk a.l[i] b.l[i]
   cases he:a.l[i] == b.l[i] with
   | true =>
    rw [he] at hr hc
    rw [Bool.true_and] at hr
    simp [h0,h1,h5,hl,hlt',hlt,Sl.nn hlt,Sl.nn hla,hc,hw]
    exact ⟨i+1,by omega,by omega,rfl,by rw [sameFrom_eq a.l b.l];exact hr⟩
   | false =>
    rw [he] at hr hc
    rw [Bool.false_and] at hr
    simp [h0,h1,h5,hl,hlt',hlt,Sl.nn hlt,Sl.nn hla,hc,hr]
  ·have hlt':¬ (i:Int) < (b.l.length:Int):=by omega
   have h1d:a.l.drop i = []:=List.drop_eq_nil_of_le (by omega)
   have h2d:b.l.drop i = []:=List.drop_eq_nil_of_le (by omega)
   rw [h1d,h2d,sameFrom] at hr
   simp [h0,h1,h5,hl,hlt',hr]
 ·have hl':¬ ((a.l.length:Int) = (b.l.length:Int)):=by omega
  have he:(a.l == b.l) = false:=by
   rw [beq_eq_false_iff_ne]
   intro h
   exact hl (by rw [h])
  simp [Tryz.f35,hl',he]
end Go.Ev.S
namespace Go.Ev.S
open Go Go.Proofs Go.Ev
def sameIs:List It→List It→Bool
 | [],[]=>true
 | x :: xs,y :: ys=>sameI x y && sameIs xs ys
 | _,_=>false
theorem sameIs_len:∀ {x y:List It},sameIs x y = true→x.length = y.length
 | [],[],_=>rfl
 | _ :: xs,_ :: ys,h=>by
  rw [sameIs,Bool.and_eq_true] at h
  rw [List.length_cons,List.length_cons,sameIs_len h.2]
 | [],_ :: _,h=>by cases h
 | _ :: _,[],h=>by cases h
set_option maxHeartbeats 2000000 in
theorem rsames_ev [MaxL] (a b:Sl It) (ha:∀ x∈a.l,x.rc.fields.l.length < 1000000) (hb:∀ x∈b.l,x.rc.fields.l.length < 1000000) (han:a.l.length < 1000000):call cx 34 [(.vsl a.nil (encs a.l) a.l.length),(.vsl b.nil (encs b.l) b.l.length)] [] = some (.bool (sameIs a.l b.l),[]):=by
 refine call_run Tryz.func34 rfl ⟨rfl,rfl⟩ ?_
 by_cases hl:a.l.length = b.l.length
 case neg =>
  have hf:sameIs a.l b.l = false:=by
   cases h:sameIs a.l b.l with
   | false=>rfl
   | true=>exact absurd (sameIs_len h) hl
  have hl':¬ (a.l.length:Int) = (b.l.length:Int):=by omega
  simp [Tryz.f34,hl',hf]
 obtain ⟨r,hr⟩:∃ r,sameIs a.l b.l = r:=⟨_,rfl⟩
 rw [hr]
 simp [Tryz.f34,hl]
 refine Run.loopThen (fun (i:Nat) e H'=>i≤b.l.length∧sameIs (a.l.drop i) (b.l.drop i) = r∧look e 0 = some (.vsl a.nil (encs a.l) a.l.length)∧look e 1 = some (.vsl b.nil (encs b.l) b.l.length)∧look e 5 = some (.int .i64 (i:Nat))∧H' = []) (fun i=>b.l.length - i) 0 ⟨Nat.zero_le _,by simpa using hr,by simp [hl],by simp,by simp,rfl⟩ ?_
 rintro i e H' ⟨hi,hR,k0,k1,k5,rfl⟩
 by_cases hlt:i < b.l.length
 ·have hlt':(i:Int) < (b.l.length:Int):=by omega
  have hla:i < a.l.length:=by omega
  have hw:IntKind.i64.wrap ((i:Int)+1) = ((i+1:Nat):Int):=by rw [wrap_i64] <;> omega
  have hs:=ritem_ev a.l[i] b.l[i] (ha _ (List.getElem_mem hla)) (hb _ (List.getElem_mem hlt))
  rw [List.drop_eq_getElem_cons hla,List.drop_eq_getElem_cons hlt,sameIs] at hR
  have hea:List.drop (i * 39) (encs a.l) = Enc.cells a.l[i] ++ encs (a.l.drop (i+1)):=It.ea hla
  have heb:List.drop (i * 39) (encs b.l) = Enc.cells b.l[i] ++ encs (b.l.drop (i+1)):=It.ea hlt
  have n1:=Sl.nn hla
  have n2:=Sl.nn hlt
  generalize a.l[i] = x at *
  generalize b.l[i] = y at *
  cases hx:sameI x y with
  | true =>
   rw [hx] at hs hR
   simp [-It.ea,k0,k1,k5,hl,hlt',n1,n2,hea,heb,hs,hw]
   exact ⟨i+1,by omega,by omega,by simpa using hR,by omega⟩
  | false =>
   rw [hx] at hs hR
   simp [-It.ea,k0,k1,k5,hl,hlt',n1,n2,hea,heb,hs,← hR]
 ·have hi2:i = b.l.length:=by omega
  rw [List.drop_eq_nil_of_le (by omega),List.drop_eq_nil_of_le (by omega)] at hR
  replace hR:true = r:=hR
  subst hR
  simp [k0,k1,k5,hl,hlt]
end Go.Ev.S
namespace Go.Ev.S
open Go Go.Proofs Go.Ev
theorem idN_lt:∀ j < 4,∀ i < j,cmpB (idN i).l (idN j).l < 0:=by decide
structure FewN (i:Nat) (l:List Mk):Prop where
 rises:risesM l = true
 ok:∀ m∈l,m.Ok
 id:∀ m∈l,∃ j,j < i∧m.id = idN j
 len:l.length≤i
theorem rises_snocN:∀ {l:List Mk} {m:Mk},risesM l = true→(∀ x∈l,cmpB x.id.l m.id.l < 0)→risesM (l ++ [m]) = true
 | [],_,_,_=>rfl
 | [a],m,_,h=>by simp [risesM,h a (List.mem_cons_self ..)]
 | a :: b :: l,m,hr,h=>by
  simp only [risesM,Bool.and_eq_true] at hr
  have:=rises_snocN (l:=b :: l) hr.2 fun x hx=>h x (List.mem_cons_of_mem _ hx)
  simp only [List.cons_append,risesM,Bool.and_eq_true] at this ⊢
  exact ⟨hr.1,this⟩
theorem FewN.same {i:Nat} {l:List Mk} (h:FewN i l):FewN (i+1) l :=
 ⟨h.rises,h.ok,fun m hm=>by obtain ⟨j,h1,h2⟩:=h.id m hm;exact ⟨j,by omega,h2⟩,by have:=h.len;omega⟩
theorem FewN.add {i:Nat} {l:List Mk} (h:FewN i l) (hi:i < 4) {a b c:Nat} (ha:a < 1000) (hb:b < 1000) (hc:c < 1000):FewN (i+1) (l ++ [⟨idN i,a,b,c⟩]):=by
 refine ⟨rises_snocN h.rises fun x hx=>?_,fun m hm=>?_,fun m hm=>?_,by have:=h.len;simp;omega⟩
 ·obtain ⟨j,h1,h2⟩:=h.id x hx
  rw [h2]
  exact idN_lt i hi j h1
 ·rcases List.mem_append.1 hm with h' | h'
  ·exact h.ok m h'
  ·rw [List.mem_singleton.1 h']
   exact ⟨by simp only [isU64];omega,by simp only [isU64];omega,by simp only [isU64];omega⟩
 ·rcases List.mem_append.1 hm with h' | h'
  ·obtain ⟨j,h1,h2⟩:=h.id m h'
   exact ⟨j,by omega,h2⟩
  ·rw [List.mem_singleton.1 h']
   exact ⟨i,by omega,rfl⟩
def GrowM (S:List D) (l:List Mk) (d:D) (H:Heap):Prop :=
 (l = []∧d = .vsl true [] 0∧H = [some S])∨(l≠[]∧∃ n k t,n = l.length * 19∧k = l.length∧((d = .osl 2 n 0 k 19∧H = [some S,some t,some (encs l)])∨(d = .osl 1 n 0 k 19∧H = [some S,some (encs l),some t])∨(d = .osl 1 n 0 k 19∧H = [some S,some (encs l)])))
def MksQ (nil:Bool) (zs:List Int) (q:D × Heap):Prop:= ∃ (l:List Mk) (k':Nat),FewN 4 l∧q = ((.vsl ((⟨l.isEmpty,l,fun h=>by simpa using h⟩:Sl Mk)).nil (encs ((⟨l.isEmpty,l,fun h=>by simpa using h⟩:Sl Mk)).l) ((⟨l.isEmpty,l,fun h=>by simpa using h⟩:Sl Mk)).l.length),[some (seqD nil zs k')])
set_option maxHeartbeats 2000000 in
theorem mmarks_ev [MaxL] [TxtC] (nil:Bool) (zs:List Int) (hnil:nil = true→zs = []) (hz:zs.length≤1000000) (k:Nat) :
  ∃ q,call cx 28 [.optr 0 2 0] [some (seqD nil zs k)] = some q∧MksQ nil zs q:=by
 refine call_runE (X:=cx) (f:=28) (args:=[.optr 0 2 0]) (H:=[some (seqD nil zs k)]) (MksQ nil zs) Tryz.func28 rfl ⟨rfl,rfl⟩ ?_
 have sf:=seqD_free nil zs
 have sl:=seqD_len nil zs
 have sc:=seqD_cl nil zs
 simp [Tryz.f28]
 refine Run.loopThen (fun (q:List Mk × Nat × Nat) e H'=>q.2.1≤4∧FewN q.2.1 q.1∧look e 0 = some (.optr 0 2 0)∧look e 4 = some (.int .i64 (q.2.1:Nat))∧∃ d,look e 3 = some d∧GrowM (seqD nil zs q.2.2) q.1 d H') (fun q=>4 - q.2.1) ([],0,k) ?_ ?_
 ·exact ⟨by simp,⟨rfl,by simp,by simp,by simp⟩,by simp,by simp,_,by simp,.inl ⟨rfl,rfl,rfl⟩⟩
 rintro ⟨l,i,k1⟩ e H' ⟨hi,hf,k0,k4,d,k3,hH⟩
 simp only at hi hf k4 hH
 have hlen:=hf.len
 obtain ⟨x,k2,hx,-,c1⟩:=n_ev nil zs hnil hz k1 2 (by decide) (by decide)
 obtain ⟨a,k5,ha,-,c2⟩:=n_ev nil zs hnil hz k2 9 (by decide) (by decide)
 obtain ⟨b,k6,hb,-,c3⟩:=n_ev nil zs hnil hz k5 9 (by decide) (by decide)
 obtain ⟨c,k7,hc,-,c4⟩:=n_ev nil zs hnil hz k6 9 (by decide) (by decide)
 have hw:IntKind.i64.wrap ((i:Int)+1) = ((i+1:Nat):Int):=by rw [wrap_i64] <;> omega
 have wa:IntKind.u64.wrap (a:Int) = (a:Int):=by rw [wrap_u64];omega
 have wb:IntKind.u64.wrap (b:Int) = (b:Int):=by rw [wrap_u64];omega
 have wc:IntKind.u64.wrap (c:Int) = (c:Int):=by rw [wrap_u64];omega
 rcases hH with ⟨rfl,rfl,rfl⟩ | ⟨hne,n,m,t,hn,hm,hH⟩
 ·by_cases h4:i < 4
  ·have h4i:(i:Int) < 4:=by omega
   have hid:=mid_small (j:=i) (by omega)
   have hadd:=hf.add h4 (a:=a) (b:=b) (c:=c) (by omega) (by omega) (by omega)
   have hsame:=hf.same
   generalize idN i = q at *
   have hq:=q.h
   have hq16:List.take 16 (ofBytes q.l) = ofBytes q.l:=List.take_of_length_le (by simp)
   by_cases hx1:x = 1
   ·subst hx1
    simp [k0,k3,k4,h4i,c1,c2,c3,c4,hid,sf,sc,hw,wa,wb,wc,hq,maxBytes,List.take_append,List.drop_append,drop_bytes]
    exact ⟨[⟨q,a,b,c⟩],i+1,by omega,by omega,hadd,by simp,k7,.inr ⟨by simp,19,1,_,rfl,rfl,.inl ⟨rfl,by rw [encs_one];rfl⟩⟩⟩
   ·have hx1':¬ (x:Int) = 1:=by omega
    simp [k0,k3,k4,h4i,c1,hx1',sf,sc,hw]
    exact ⟨[],i+1,by omega,by omega,hsame,by simp,k2,.inl ⟨rfl,rfl,rfl⟩⟩
  ·have h4i:¬ (i:Int) < 4:=by omega
   simp [k0,k3,k4,h4i,sc]
   have hi4:i = 4:=by omega
   subst hi4
   exact ⟨[],k1,hf,rfl⟩
 ·have hlk:l.length = m:=hm.symm
  have hkn:m * 19 = n:=by omega
  have htk:List.take n (encs l) = encs l:=List.take_of_length_le (by simp;omega)
  have hm1:(m+1) * 40≤140737488355328:=by omega
  have hm2:m+1≤140737488355328:=by omega
  by_cases h4:i < 4
  ·have h4i:(i:Int) < 4:=by omega
   have hid:=mid_small (j:=i) (by omega)
   have hadd:=hf.add h4 (a:=a) (b:=b) (c:=c) (by omega) (by omega) (by omega)
   have hsame:=hf.same
   generalize idN i = q at *
   have hq:=q.h
   have hq16:List.take 16 (ofBytes q.l) = ofBytes q.l:=List.take_of_length_le (by simp)
   rcases hH with ⟨rfl,rfl⟩ | ⟨rfl,rfl⟩ | ⟨rfl,rfl⟩
   all_goals
    by_cases hx1:x = 1
    ·subst hx1
     simp [k0,k3,k4,h4i,c1,c2,c3,c4,hid,sf,sc,hw,wa,wb,wc,hq,maxBytes,List.take_append,List.drop_append,drop_bytes,hlk,hkn,hm1,hm2]
     exact ⟨l ++ [⟨q,a,b,c⟩],i+1,by omega,by omega,hadd,by simp,k7,.inr ⟨by simp,n+19,m+1,_,by simp;omega,by simp [hlk],.inr (.inl ⟨rfl,by rw [encs_snoc];rfl⟩)⟩⟩
    ·have hx1':¬ (x:Int) = 1:=by omega
     simp [k0,k3,k4,h4i,c1,hx1',sf,sc,hw]
     exact ⟨l,i+1,by omega,by omega,hsame,by simp,k2,.inr ⟨hne,n,m,[],hn,hm,.inr (.inr ⟨rfl,rfl⟩)⟩⟩
  ·have h4i:¬ (i:Int) < 4:=by omega
   have hie:l.isEmpty = false:=by simpa using hne
   rcases hH with ⟨rfl,rfl⟩ | ⟨rfl,rfl⟩ | ⟨rfl,rfl⟩
   all_goals
    simp [k0,k3,k4,h4i,sc,hlk,hkn,htk]
    have hi4:i = 4:=by omega
    subst hi4
    exact ⟨l,k1,hf,by simp [hie,hlk]⟩
end Go.Ev.S
namespace Go.Ev.S
open Go Go.Proofs Go.Ev
theorem made_itsB {L:List It} (h:∀ x∈L,MadeI x):ItsB L:=fun x hx=>by
 obtain ⟨h1,h2,h3,h4⟩:=h x hx
 refine ⟨h1,by omega,fun p hp=>?_⟩
 have:=mkOk_len (h4 p hp)
 exact ⟨by omega,by omega⟩
end Go.Ev.S
namespace Go.Ev.S
open Go Go.Proofs Go.Ev
structure BackL (A:List It):Prop where
 ok:∀ x∈A,x.Ok∧x.rc.fields.l.length < 1000000∧∀ p∈x.rc.fields.l,PrB p
 right:∀ i (h:i < A.length),i+1 < A.length→itOk A[i] = true
 n:A.length≤5
end Go.Ev.S
namespace Go.Ev.S
open Go Go.Proofs Go.Ev
theorem mbytesA_ev [MaxL] (s:Sl UInt8) (h2:s.l.length≤1000000):call cx 17 [(.vsl s.nil (ofBytes s.l) s.l.length)] [] = some (.osl 0 s.l.length 0 s.l.length 1,[some (ofBytes s.l)]):=by
 have hm:s.l.length≤140737488355328:=by omega
 refine call_run Tryz.func17 rfl ⟨rfl,rfl⟩ ?_
 simp [Tryz.f17,maxBytes,hm]
theorem ofBytes_put {o:List UInt8} {j:Nat} (h:j < o.length) {x:Nat} (hx:x < 256):List.take j (ofBytes o) ++ D.int .u8 (x:Int) :: List.drop (j+1) (ofBytes o) = ofBytes (o.set j (UInt8.ofNat x)):=by
 rw [List.set_eq_take_append_cons_drop,if_pos h,ofBytes_append,ofBytes_cons,ofBytes_take,ofBytes_drop,UInt8.toNat_ofNat_of_lt' hx]
def SpoilQ (b:List UInt8) (q:D × Heap):Prop:= ∃ o:List UInt8,o.length = b.length∧q = (.vsl false (ofBytes o) o.length,[])
set_option maxHeartbeats 2000000 in
theorem spoil_ev [MaxL] (b:Sl UInt8) (hb:b.l.length≤100000) (nil:Bool) (zs:List Int) (hnil:nil = true→zs = []) (hz:zs.length≤1000000) (y:UInt8):∃ q,call cx 31 [(.vsl b.nil (ofBytes b.l) b.l.length),.vsl nil (intsK .i64 zs) zs.length,.int .u8 y.toNat] [] = some q∧SpoilQ b.l q:=by
 refine call_runE (X:=cx) (f:=31) (args:=[(.vsl b.nil (ofBytes b.l) b.l.length),.vsl nil (intsK .i64 zs) zs.length,.int .u8 y.toNat]) (H:=[]) (SpoilQ b.l) Tryz.func31 rfl ⟨rfl,rfl⟩ ?_
 have c1:=mbytesA_ev b (by omega)
 simp [Tryz.f31,c1]
 refine Run.loopThen (fun (q:Nat × List UInt8) e H'=>q.1≤zs.length∧q.2.length = b.l.length∧H' = [some (ofBytes q.2)]∧look e 1 = some (.vsl nil (intsK .i64 zs) zs.length)∧look e 2 = some (.int .u8 (y.toNat:Nat))∧look e 7 = some (.osl 0 b.l.length 0 b.l.length 1)∧look e 8 = some (.int .i64 (q.1:Nat))) (fun q=>zs.length - q.1) (0,b.l) ⟨Nat.zero_le _,rfl,by simp,by simp,by simp,by simp,by simp⟩ ?_
 rintro ⟨k,o⟩ e H' ⟨hk,ho,rfl,k1,k2,k7,k8⟩
 simp only at hk ho k8
 by_cases hlt:k < zs.length
 ·have hlt':(k:Int) < (zs.length:Int):=by omega
  have hnf:nil = false:=by
   cases nil with
   | false=>rfl
   | true=>rw [hnil rfl] at hlt;exact absurd hlt (Nat.not_lt_zero _)
  have hw:IntKind.i64.wrap ((k:Int)+1) = ((k+1:Nat):Int):=by rw [wrap_i64] <;> omega
  have hat:=intsK_at (k:=.i64) hlt
  by_cases h0:0 < b.l.length
  ·obtain ⟨j,hj,c2⟩:=numI_ev zs[k] b.l.length (by omega) (by omega)
   have hjo:j < o.length:=by omega
   have hx:=xor8 (a:=o[j].toNat) (b:=y.toNat) (UInt8.toNat_lt _) (UInt8.toNat_lt _)
   have hat2:=ofBytes_at hjo
   have hjb:j < b.l.length:=by omega
   have hj1:j+1≤b.l.length:=by omega
   have hput:=ofBytes_put hjo (x:=o[j].toNat ^^^ y.toNat) (Nat.xor_lt_two_pow (n:=8) (UInt8.toNat_lt _) (UInt8.toNat_lt _))
   simp [k1,k2,k7,k8,hlt',hw,hat,hnf,h0,c2,hx,hat2,hjb,ho,hj1,hput]
   exact ⟨k+1,by omega,by omega,_,by simp [ho],rfl,by omega⟩
  ·have hl0:b.l.length = 0:=by omega
   have ho0:o = []:=List.eq_nil_of_length_eq_zero (by omega)
   subst ho0
   simp [k1,k2,k7,k8,hlt',hl0]
   exact ⟨[],by rw [hl0];rfl,rfl⟩
 ·have hlt':¬ (k:Int) < (zs.length:Int):=by omega
  have htk:List.take b.l.length (ofBytes o) = ofBytes o:=List.take_of_length_le (by simp [ho])
  simp [k1,k2,k7,k8,hlt',htk,ho]
  exact ⟨o,ho,by rw [ho]⟩
end Go.Ev.S
namespace Go.Ev.S
open Go Go.Proofs Go.Ev
end Go.Ev.S
namespace Go.Ev.S
open Go Go.Proofs Go.Ev
theorem leB_take {n:Nat} {r:List UInt8} (h:n≤r.length):leB n (leN (r.take n)) = r.take n:=by
 have:=leB_leN (r.take n)
 rwa [List.length_take,Nat.min_eq_left h] at this
theorem mkOf_ok (r:List UInt8):(mkOf r).Ok:=by
 have h:∀ l:List UInt8,leN (l.take 8) < 18446744073709551616:=fun l=>by
  have h1:=leN_lt (l.take 8)
  have h2:(l.take 8).length≤8:=by rw [List.length_take];omega
  exact Nat.lt_of_lt_of_le h1 (Nat.le_trans (Nat.pow_le_pow_right (by decide) h2) (by decide))
 refine ⟨?_,?_,?_⟩ <;> simp only [mkOf,isU64]
 ·have:=h (r.drop 16);omega
 ·have:=h (r.drop 24);omega
 ·have:=h (r.drop 32);omega
theorem mkB_of {r:List UInt8} (h:40≤r.length):mkB (mkOf r) = r.take 40:=by
 have e:∀ n,n+8≤r.length→leB 8 (leN ((r.drop n).take 8)) = (r.drop n).take 8:=fun n hn=>leB_take (by rw [List.length_drop];omega)
 have hi:(ID.mk' (r.take 16)).l = r.take 16:=by
  unfold ID.mk'
  rw [dif_pos (by rw [List.length_take];omega)]
 unfold mkB mkOf
 simp only [Int.toNat_natCast]
 rw [e 16 (by omega),e 24 (by omega),e 32 (by omega),hi]
 have s:∀ (a b:Nat) (l:List UInt8),l.take (a+b) = l.take a ++ (l.drop a).take b:=fun a b l=>List.take_add
 rw [show (40:Nat) = 16+(8+(8+8)) from rfl,s,s,s,List.drop_drop,List.drop_drop]
theorem rises_snoc' {out:List Mk} {m:Mk} (hr:risesM out = true) (hl:lastGe out m.id.l = false):risesM (out ++ [m]) = true:=by
 induction out with
 | nil=>rfl
 | cons a o ih =>
  cases o with
  | nil =>
   have:cmpB a.id.l m.id.l < 0:=by
    simp [lastGe] at hl
    omega
   simp [risesM,this]
  | cons b o =>
   simp only [List.cons_append,risesM,Bool.and_eq_true] at hr ih ⊢
   refine ⟨hr.1,ih hr.2 ?_⟩
   unfold lastGe at hl ⊢
   rw [List.getLast?_cons_cons] at hl
   exact hl
theorem readGo_is:∀ (k:Nat) (r:List UInt8) (out o:List Mk),risesM out = true→(∀ m∈out,m.Ok)→readGo k r out = (o,0)→∃ l,o = out ++ l∧l.length = k∧40 * k≤r.length∧l.flatMap mkB = r.take (40 * k)∧risesM o = true∧∀ m∈o,m.Ok
 | 0,r,out,o,hr,hok,h=>by
  rw [readGo,Prod.mk.injEq] at h
  obtain ⟨rfl,-⟩:=h
  exact ⟨[],by simp,rfl,by omega,by simp,hr,hok⟩
 | k+1,r,out,o,hr,hok,h=>by
  rw [readGo] at h
  split at h
  ·cases h
  ·split at h
   ·cases h
   ·split at h
    ·cases h
    ·rename_i h16 hl h40
     have hid:(mkOf r).id.l = r.take 16:=by
      unfold mkOf ID.mk'
      simp only
      rw [dif_pos (by rw [List.length_take];omega)]
     have hl':lastGe out (mkOf r).id.l = false:=by rw [hid];simpa using hl
     obtain ⟨l,e1,e2,e3,e4,e5,e6⟩:=readGo_is k (r.drop 40) (out ++ [mkOf r]) o (rises_snoc' hr hl') (fun m hm=>by
      rcases List.mem_append.1 hm with h' | h'
      ·exact hok m h'
      ·rw [List.mem_singleton.1 h'];exact mkOf_ok r) h
     rw [List.length_drop] at e3
     refine ⟨mkOf r :: l,by rw [e1,List.append_assoc];rfl,by rw [List.length_cons,e2],by omega,?_,e5,e6⟩
     rw [List.flatMap_cons,e4,mkB_of (by omega),show 40 * (k+1) = 40+40 * k by omega,List.take_add]
theorem readM_is {b:List UInt8} {l:List Mk} (h:readM b = (l,0)) (hn:¬ Go.Ev.readN (l,0) < (b.length:Int)):rightM l = true∧mksB l = b∧∀ m∈l,m.Ok:=by
 cases b with
 | nil=>cases h
 | cons c r =>
  unfold readM at h
  simp only at h
  split at h
  ·cases h
  ·rename_i h4
   obtain ⟨l',e1,e2,e3,e4,e5,e6⟩:=readGo_is c.toNat r [] l rfl (fun m hm=>by cases hm) h
   rw [List.nil_append] at e1
   subst e1
   unfold Go.Ev.readN at hn
   rw [List.length_cons] at hn
   simp only [if_true] at hn
   refine ⟨?_,?_,e6⟩
   ·unfold rightM
    rw [e5,Bool.and_true,decide_eq_true_eq]
    omega
   ·unfold mksB
    rw [e4,e2,List.take_of_length_le (by omega)]
    simp
theorem ok_text {t:List UInt8} (h:readOk t = true) (hl:(textL (itemP t)).length = t.length):itOk (itemP t) = true∧textL (itemP t) = t:=by
 unfold readOk at h
 rw [Bool.and_eq_true] at h
 refine ⟨h.1,?_⟩
 have:=pre_is h.2
 rw [hl,List.drop_length,List.append_nil] at this
 exact this.symm
structure GotI (x:It):Prop where
 ok:x.Ok
 is:itOk x = true
 b:(∀ p∈x.rc.fields.l,PrB p)∧x.rc.fields.l.length < 1000000
theorem getGo_is:∀ (k:Nat) (r:List UInt8) (out o:List It) (m:List Mk),r.length < 1000000→getGo k r out = (o,m,0)→∃ l,o = out ++ l∧l.length = k∧(∀ x∈l,GotI x)∧r = l.flatMap itB ++ mksB m∧rightM m = true∧∀ x∈m,x.Ok
 | 0,r,out,o,m,hb,h=>by
  rw [getGo] at h
  split at h
  ·rename_i h0
   split at h
   ·cases h
   ·rename_i hn
    simp only [Prod.mk.injEq] at h
    obtain ⟨rfl,rfl,-⟩:=h
    have hm:readM r = ((readM r).1,0):=Prod.ext rfl h0
    rw [hm] at hn
    obtain ⟨e1,e2,e3⟩:=readM_is hm hn
    exact ⟨[],by simp,rfl,by simp,by simpa using e2.symm,e1,e3⟩
  ·rename_i h0
   simp only [Prod.mk.injEq] at h
   exact absurd h.2.2 h0
 | k+1,r,out,o,m,hb,h=>by
  rw [getGo] at h
  split at h
  ·cases h
  ·rename_i hsz
   split at h
   ·rename_i hok
    obtain ⟨n,hn⟩:∃ n,leN (r.take 4) = n:=⟨_,rfl⟩
    rw [hn] at h hok hsz
    have hdl:((r.drop 4).take n).length = n:=by rw [List.length_take,List.length_drop];omega
    obtain ⟨t1,t2⟩:=ok_text hok.1 (by rw [hok.2,hdl])
    have hq:=itemP_ok ((r.drop 4).take n)
    have hq2:=itemP_b ((r.drop 4).take n) (by omega)
    obtain ⟨l,e1,e2,e3,e4,e5,e6⟩:=getGo_is k (r.drop (4+n)) _ o m (by rw [List.length_drop];omega) h
    refine ⟨itemP ((r.drop 4).take n) :: l,by rw [e1,List.append_assoc];rfl,by rw [List.length_cons,e2],fun x hx=>?_,?_,e5,e6⟩
    ·rcases List.mem_cons.1 hx with rfl | hx
     ·exact ⟨hq,t1,hq2⟩
     ·exact e3 x hx
    ·have hi:itB (itemP ((r.drop 4).take n)) = r.take (4+n):=by
      unfold itB
      rw [t2,hdl,List.take_add,← hn,leB_take (by omega)]
     rw [List.flatMap_cons,hi,List.append_assoc,← e4,List.take_append_drop]
   ·cases h
theorem getGo_bad:∀ (k:Nat) (r:List UInt8) (out o:List It) (m:List Mk) (e:Int),getGo k r out = (o,m,e)→e≠0→o = []∧m = []
 | 0,r,out,o,m,e,h,he=>by
  rw [getGo] at h
  split at h
  ·split at h
   ·cases h;exact ⟨rfl,rfl⟩
   ·simp only [Prod.mk.injEq] at h
    exact absurd h.2.2.symm he
  ·cases h;exact ⟨rfl,rfl⟩
 | k+1,r,out,o,m,e,h,he=>by
  rw [getGo] at h
  split at h
  ·cases h;exact ⟨rfl,rfl⟩
  ·split at h
   ·exact getGo_bad k _ _ o m e h he
   ·cases h;exact ⟨rfl,rfl⟩
theorem getX_is {x:List UInt8} {l:List It} {m:List Mk} (hx:x.length < 1000000) (h:getX x = (l,m,0)):putOk l m = true∧rawB l m = x∧(∀ y∈l,GotI y)∧∀ y∈m,y.Ok:=by
 unfold getX at h
 split at h
 ·cases h
 ·split at h
  ·rename_i h4 hp
   split at h
   ·cases h
   ·rename_i h6
    split at h
    ·cases h
    ·rename_i h64
     obtain ⟨l',e1,e2,e3,e4,e5,e6⟩:=getGo_is _ _ [] l m (by rw [List.length_drop];omega) h
     rw [List.nil_append] at e1
     subst e1
     have hk:=pre_is hp
     refine ⟨?_,?_,e3,e6⟩
     ·unfold putOk
      simp only [Bool.and_eq_true,decide_eq_true_eq,List.all_eq_true]
      exact ⟨by omega,e5,fun y hy=>(e3 y hy).is⟩
     ·unfold rawB
      have hl2:leB 2 l.length = (x.drop 4).take 2:=by rw [e2,leB_take (by rw [List.length_drop];omega)]
      rw [hl2,← e4,show (6:Nat) = 4+2 from rfl,← List.drop_drop,List.take_append_drop]
      exact hk.symm
  ·cases h
theorem getX_bad {x:List UInt8} {l:List It} {m:List Mk} {e:Int} (h:getX x = (l,m,e)) (he:e≠0):l = []∧m = []:=by
 unfold getX at h
 split at h
 ·cases h;exact ⟨rfl,rfl⟩
 ·split at h
  ·split at h
   ·cases h;exact ⟨rfl,rfl⟩
   ·split at h
    ·cases h;exact ⟨rfl,rfl⟩
    ·exact getGo_bad _ _ _ l m e h he
  ·cases h;exact ⟨rfl,rfl⟩
theorem seal_is {b:List UInt8} (h4:4≤b.length) (h:sumOk b = true):sealB (b.take (b.length - 4)) = b:=by
 unfold sumOk at h
 rw [decide_eq_true_eq] at h
 have e:leB 4 (leN (b.drop (b.length - 4))) = b.drop (b.length - 4):=by
  have:=leB_leN (b.drop (b.length - 4))
  rwa [List.length_drop,show b.length - (b.length - 4) = 4 by omega] at this
 unfold sealB
 rw [← h,e,List.take_append_drop]
theorem getP_is {b:List UInt8} {l:List It} {m:List Mk} (hb:b.length≤65536) (h:getP b = (l,m,0)):putS l m = .of b∧(∀ y∈l,GotI y)∧(∀ y∈m,y.Ok)∧l.length≤64∧m.length≤4:=by
 unfold getP at h
 split at h
 ·cases h
 ·split at h
  ·rename_i h4 hs
   obtain ⟨h1,h2,h3,h5⟩:=getX_is (by rw [List.length_take];omega) h
   have hp:=put_is h1
   refine ⟨?_,h3,h5,hp.1,rightM_le hp.2.1⟩
   unfold putS
   rw [h1,h2,seal_is (by omega) hs,decide_eq_true hb]
   rfl
  ·cases h
theorem getP_bad {b:List UInt8} {l:List It} {m:List Mk} {e:Int} (h:getP b = (l,m,e)) (he:e≠0):l = []∧m = []:=by
 unfold getP at h
 split at h
 ·cases h;exact ⟨rfl,rfl⟩
 ·split at h
  ·exact getX_bad h he
  ·cases h;exact ⟨rfl,rfl⟩
end Go.Ev.S
namespace Go.Ev.S
open Go Go.Proofs Go.Ev
structure RowsOk (R:List (List UInt8)):Prop where
 n:R.length = 3
 len:∀ r∈R,r.length≤65536
 fst:∀ h:0 < R.length,(getP R[0]).2.2 = 0
end Go.Ev.S
namespace Go.Ev.S
open Go Go.Proofs Go.Ev
set_option maxHeartbeats 2000000 in
theorem rmoreS_ev [MaxL] [TxtC] (s:BitVec 32) (b:Sl UInt8) (hn:b.l.length < 4611686018427387904):call cx 70 [.int .u32 s.toNat,(.vsl b.nil (ofBytes b.l) b.l.length)] [] = some (.int .u32 ((crcM s b.l).toNat:Nat),[]):=by
 refine call_run Tryz.func70 rfl ⟨rfl,rfl⟩ ?_
 have hun:∀ v:BitVec 32,unD .xor (.int .u32 (v.toNat:Int)) = some (.int .u32 ((~~~ v).toNat:Int)):=fun v=>congrArg (fun x=>some (D.int .u32 x)) (not32 v)
 have h0:=hun s
 unfold crcM
 obtain ⟨g,hg⟩:∃ g,crcGo (~~~ s) b.l = g:=⟨_,rfl⟩
 rw [hg]
 have h1:=hun g
 generalize ((~~~ g).toNat:Int) = r at *
 generalize ~~~ s = s0 at *
 clear hun
 simp [-unD,Tryz.f70,h0]
 refine Run.loopThen (fun (q:Nat × BitVec 32) e H'=>q.1≤b.l.length∧crcGo q.2 (b.l.drop q.1) = g∧look e 0 = some (.int .u32 (q.2.toNat:Int))∧look e 1 = some (.vsl b.nil (ofBytes b.l) b.l.length)∧look e 5 = some (.int .i64 (q.1:Nat))∧H' = []) (fun q=>b.l.length - q.1) (0,s0) ⟨Nat.zero_le _,by simpa using hg,by simp,by simp,by simp,rfl⟩ ?_
 rintro ⟨i,v⟩ e H' ⟨hi,hR,k0,k1,k5,rfl⟩
 simp only at hi hR k0 k5
 by_cases hlt:i < b.l.length
 ·have hlt':(i:Int) < (b.l.length:Int):=by omega
  have hw:IntKind.i64.wrap ((i:Int)+1) = ((i+1:Nat):Int):=by rw [wrap_i64] <;> omega
  have hd:=drop_u8 hlt
  have hb:=byte32 v b.l[i]
  rw [List.drop_eq_getElem_cons hlt] at hR
  generalize b.l[i] = c at *
  replace hR:crcGo (crcN 8 (v ^^^ BitVec.ofNat 32 c.toNat)) (b.l.drop (i+1)) = g:=hR
  generalize v ^^^ BitVec.ofNat 32 c.toNat = w at *
  have hwc:IntKind.u32.wrap (c.toNat:Int) = (c.toNat:Int):=by have:=c.toNat_lt;rw [wrap_u32];omega
  simp [-unD,k0,k1,k5,hlt',Sl.nn hlt,hd,hwc,hb]
  refine loopJ (fun (q:Nat × BitVec 32) e H'=>q.1≤8∧crcN (8 - q.1) q.2 = crcN 8 w∧look e 0 = some (.int .u32 (q.2.toNat:Int))∧look e 1 = some (.vsl false (ofBytes b.l) b.l.length)∧look e 5 = some (.int .i64 (i:Nat))∧look e 6 = some (.int .i64 (q.1:Nat))∧H' = []) (fun q=>8 - q.1) (0,w)
   (fun ex e H'=>ex = .exit 2∧look e 0 = some (.int .u32 ((crcN 8 w).toNat:Int))∧look e 1 = some (.vsl false (ofBytes b.l) b.l.length)∧look e 5 = some (.int .i64 (i:Nat))∧H' = []) ⟨Nat.zero_le _,rfl,by simp,by simp,by simp,by simp,rfl⟩ ?_ ?_
  ·clear k0 k1 k5
   rintro ⟨j,u⟩ e H' ⟨hj,hu,k0,k1,k5,k6,rfl⟩
   simp only at hj hu k0 k6
   by_cases hj8:j < 8
   ·have hji:(j:Int) < 8:=by omega
    have hwj:IntKind.i64.wrap ((j:Int)+1) = ((j+1:Nat):Int):=by rw [wrap_i64] <;> omega
    have hb1:(u.toNat:Int).tmod 2 = ((u.toNat % 2:Nat):Int):=by rw [Int.tmod_eq_emod_of_nonneg (Int.natCast_nonneg _)];rfl
    have hwm:IntKind.u32.wrap ((u.toNat % 2:Nat):Int) = ((u.toNat % 2:Nat):Int):=by rw [wrap_u32];omega
    have hb2:=half32 u
    rw [show (2:Int) = 2 ^ min 1 IntKind.u32.bits from rfl] at hb2
    have hb3:=poly32 (u >>> 1)
    have hst:crcN (8 - (j+1)) (crcBit u) = crcN 8 w:=by
     rw [← hu,show 8 - j = (8 - (j+1))+1 by omega]
     rfl
    unfold crcBit at hst
    generalize u >>> 1 = h at *
    by_cases hp:u.toNat % 2 = 1
    ·rw [hp] at hb1 hwm
     rw [if_pos hp] at hst
     generalize h ^^^ 2197175160#32 = y at *
     simp [-unD,k0,k1,k5,k6,hji,hwj,hb1]
     exact ⟨j+1,by omega,by omega,y,hst,by rw [hb2,hb3],rfl⟩
    ·have hp0:u.toNat % 2 = 0:=by omega
     rw [hp0] at hb1 hwm
     rw [if_neg hp] at hst
     simp [-unD,k0,k1,k5,k6,hji,hwj,hb1]
     exact ⟨j+1,by omega,by omega,h,hst,hb2,rfl⟩
   ·have hji:¬ (j:Int) < 8:=by omega
    have hj0:8 - j = 0:=by omega
    rw [hj0] at hu
    replace hu:u = crcN 8 w:=hu
    simp [-unD,k0,k1,k5,k6,hji,hu]
  ·clear k0 k1 k5
   rintro ex e H' ⟨rfl,k0,k1,k5,rfl⟩
   generalize crcN 8 w = z at *
   simp [-unD,k0,k1,k5,hw]
   exact ⟨i+1,by omega,by omega,z,hR,rfl,rfl⟩
 ·have hlt':¬ (i:Int) < (b.l.length:Int):=by omega
  rw [List.drop_eq_nil_of_le (by omega)] at hR
  replace hR:v = g:=hR
  subst hR
  simp [-unD,k0,k1,k5,hlt',h1]
theorem lowN_ev [MaxL] [TxtC] (v n:Nat) (hn1:1≤n) (hn8:n≤8) (hv:v < 18446744073709551616):call cx 67 [.int .u64 v,.int .i64 n] [] = some (.vsl false (ofBytes (leB n v)) n,[]):=by
 refine call_run Tryz.func67 rfl ⟨rfl,rfl⟩ ?_
 simp [Tryz.f67]
 refine Run.loopThen (fun (i:Nat) e H=>i≤n∧(∃ d,look e 5 = some d∧Buf d H (leB i v))∧look e 0 = some (.int .u64 (v / 256 ^ i:Nat))∧look e 1 = some (.int .i64 n)∧look e 6 = some (.int .i64 i)) (fun i=>n - i) 0 ?_ ?_
 ·simp [leB,Buf]
 rintro i e H ⟨hi,⟨d,h5,hbuf⟩,h0,h1,h6⟩
 by_cases hlt:i < n
 ·have hlt':(i:Int) < (n:Int):=by omega
  have hw:IntKind.i64.wrap ((i:Int)+1) = ((i+1:Nat):Int):=by rw [wrap_i64] <;> omega
  have hsn:=leB_snoc i v
  have hl:(leB i v).length≤8:=by simp;omega
  have hq:v / 256 ^ i < 18446744073709551616:=Nat.lt_of_le_of_lt (Nat.div_le_self _ _) hv
  have hnx:v / 256 ^ (i+1) = v / 256 ^ i / 256:=by rw [Nat.pow_succ,Nat.div_div_eq_div_mul]
  generalize v / 256 ^ i = x at *
  have ht1:(x:Int).tmod 256 = ((x % 256:Nat):Int):=by
   rw [Int.tmod_eq_emod_of_nonneg (Int.natCast_nonneg _)];rfl
  have ht2:(x:Int).tdiv 256 = ((x / 256:Nat):Int):=by
   rw [Int.tdiv_eq_ediv_of_nonneg (Int.natCast_nonneg _)];rfl
  have hx256:x % 256 < 256:=Nat.mod_lt _ (by decide)
  have hw1:IntKind.u8.wrap ((x % 256:Nat):Int) = ((UInt8.ofNat (x % 256)).toNat:Int):=by
   rw [UInt8.toNat_ofNat_of_lt' hx256]
   clear hv hq
   generalize x % 256 = y at *
   rw [wrap_u8]
   omega
  have hw2:IntKind.u64.wrap ((x / 256:Nat):Int) = ((x / 256:Nat):Int):=by
   have:x / 256 < 18446744073709551616:=Nat.lt_of_le_of_lt (Nat.div_le_self _ _) hq
   clear hv hq
   generalize x / 256 = y at *
   rw [wrap_u64]
   omega
  generalize UInt8.ofNat (x % 256) = c at *
  clear hv hq
  generalize leB i v = l at *
  have hmx:l.length+1≤140737488355328:=Nat.le_trans (Nat.add_le_add_right hl 1) (by decide)
  rcases hbuf with ⟨rfl,rfl,rfl⟩ | ⟨rfl,rfl⟩
  ·simp [h5,h0,h1,h6,hlt',hw,ht1,ht2,hw1,hw2,maxBytes,-Int.natCast_emod,-Int.natCast_ediv]
   clear hmx
   exact ⟨i+1,by omega,by omega,.inr (by simp [hsn,ofBytes]),by rw [hnx],rfl⟩
  ·simp [h5,h0,h1,h6,hlt',hw,ht1,ht2,hw1,hw2,maxBytes,hmx,-Int.natCast_emod,-Int.natCast_ediv]
   clear hmx
   exact ⟨i+1,by omega,by omega,.inr (by simp [hsn,ofBytes]),by rw [hnx],rfl⟩
 ·have hlt':¬ (i:Int) < (n:Int):=by omega
  have h8:i = n:=by omega
  subst h8
  have hl:(leB i v).length = i:=leB_len i v
  generalize leB i v = l at *
  rcases hbuf with ⟨rfl,rfl,rfl⟩ | ⟨rfl,rfl⟩
  ·simp at hl;omega
  ·simp [h5,h0,h1,h6,hl,List.take_of_length_le]
theorem rseal_ev [MaxL] [TxtC] (b:Sl UInt8) (hn:b.l.length≤140737488354000):call cx 30 [(.vsl b.nil (ofBytes b.l) b.l.length)] [] = some ((.vsl ((.of (sealB b.l):Sl UInt8)).nil (ofBytes ((.of (sealB b.l):Sl UInt8)).l) ((.of (sealB b.l):Sl UInt8)).l.length),[]):=by
 have h1:=rmoreS_ev 0#32 b (by omega)
 have h2:=lowN_ev (crcM 0#32 b.l).toNat 4 (by decide) (by decide) (Nat.lt_trans (crcM 0#32 b.l).isLt (by decide))
 have hw:IntKind.u64.wrap ((crcM 0#32 b.l).toNat:Int) = ((crcM 0#32 b.l).toNat:Int):=by
  have:=(crcM 0#32 b.l).isLt
  rw [wrap_u64]
  omega
 have e:sealB b.l = b.l ++ leB 4 (crcM 0#32 b.l).toNat:=rfl
 rw [e]
 simp only [BitVec.toNat_ofNat] at h1
 generalize (crcM 0#32 b.l).toNat = v at *
 have hl4:(leB 4 v).length = 4:=leB_len 4 v
 generalize leB 4 v = z at *
 have h3:call cx 69 [(.vsl b.nil (ofBytes b.l) b.l.length),.int .i64 4,.int .u64 v] [] = some ((.vsl ((.of (b.l ++ z):Sl UInt8)).nil (ofBytes ((.of (b.l ++ z):Sl UInt8)).l) ((.of (b.l ++ z):Sl UInt8)).l.length),[]):=by
  refine call_run Tryz.func69 rfl ⟨rfl,rfl⟩ ?_
  have hm1:b.l.length≤140737488355328:=by omega
  have hm2:b.l.length+4≤140737488355328:=by omega
  have htk:List.take (b.l.length+4) (ofBytes b.l ++ ofBytes z) = ofBytes b.l ++ ofBytes z:=List.take_of_length_le (by simp [hl4])
  replace h2:call cx 67 [.int .u64 v,.int .i64 4] [] = some (.vsl false (ofBytes z) 4,[]):=h2
  simp [Tryz.f69,h2,maxBytes,hm1,hm2,hl4,ofBytes_append,htk]
 refine call_run Tryz.func30 rfl ⟨rfl,rfl⟩ ?_
 replace h1:call cx 70 [.int .u32 0,(.vsl b.nil (ofBytes b.l) b.l.length)] [] = some (.int .u32 v,[]):=h1
 simp [Tryz.f30,h1,h3,hw]
end Go.Ev.S
namespace Go.Ev.S
open Go Go.Proofs Go.Ev
set_option maxHeartbeats 1000000 in
theorem rget2_ev [MaxL] (s:Sl UInt8) (a:Nat) (h:a+2≤s.l.length) (_:s.l.length < 4611686018427387904) :
  call cx 75 [(.vsl s.nil (ofBytes s.l) s.l.length),.int .i64 a,.int .i64 2] [] = some (.tup [.int .u64 (leN ((s.l.drop a).take 2)),.bool true],[]):=by
 have hnn:s.nil = false:=Sl.nn (i:=a) (by omega)
 have g0:¬ (a:Int) < 0:=by omega
 have g1:¬ (s.l.length:Int) < (a:Int):=by omega
 have hw:IntKind.i64.wrap ((s.l.length:Int) - (a:Int)) = (s.l.length:Int) - (a:Int):=by rw [wrap_i64];omega
 have g2:¬ (s.l.length:Int) - (a:Int) < 2:=by omega
 refine call_run Tryz.func75 rfl ⟨rfl,rfl⟩ ?_
 simp [Tryz.f75,hnn,g0,g1,hw,g2]
 refine Run.loopThen (fun (i:Nat) e H=>i≤2∧H = []∧look e 0 = some (.vsl s.nil (ofBytes s.l) s.l.length)∧look e 1 = some (.int .i64 a)∧look e 8 = some (.int .u64 (leN ((s.l.drop (a+i)).take (2 - i)):Nat))∧look e 9 = some (.int .i64 ((i:Int) - 1))) (fun i=>i) 2 (by simp [leN,hnn]) ?_
 rintro i e H ⟨hi,rfl,h0,h1,h8,h9⟩
 cases i with
 | zero=>simp [h0,h1,h8,h9]
 | succ j =>
  have hj:(0:Int)≤(j:Int):=by omega
  have hwj:IntKind.i64.wrap ((a:Int)+(j:Int)) = ((a+j:Nat):Int):=by rw [wrap_i64] <;> omega
  have hwk:IntKind.i64.wrap ((j:Int) - 1) = (j:Int) - 1:=by rw [wrap_i64];omega
  have hlt:a+j < s.l.length:=by omega
  have e1:((j+1:Nat):Int) - 1 = (j:Int):=by omega
  rw [e1] at h9
  have hd:(s.l.drop (a+j)).take (2 - j) = s.l[a+j] :: (s.l.drop (a+(j+1))).take (2 - (j+1)):=by
   rw [List.drop_eq_getElem_cons hlt,show 2 - j = (2 - (j+1))+1 by omega,List.take_succ_cons,Nat.add_assoc]
  have hn8:leN ((s.l.drop (a+(j+1))).take (2 - (j+1))) < 256 ^ 7:=by
   refine Nat.lt_of_lt_of_le (leN_lt _) (Nat.pow_le_pow_right (by decide) ?_)
   rw [List.length_take]
   omega
  have hst:=mul256 (leN ((s.l.drop (a+(j+1))).take (2 - (j+1)))) s.l[a+j].toNat s.l[a+j].toNat_lt hn8
  have hwu:IntKind.u64.wrap (s.l[a+j].toNat:Int) = (s.l[a+j].toNat:Int):=by rw [wrap_u64];have:=s.l[a+j].toNat_lt;omega
  have g1:(0:Int)≤(a:Int)+(j:Int):=by omega
  have g2:(a:Int)+(j:Int) < (s.l.length:Int):=by omega
  have g3:((a:Int)+(j:Int)).toNat = a+j:=by omega
  simp [h0,h1,h8,h9,hj,hwj,hwk,hwu,hnn,g1,g2,g3,ofBytes_at hlt,-Nat.reduceSubDiff]
  rw [hst]
  clear hn8 hst hwu
  exact ⟨j,by omega,by omega,by rw [hd,leN,Nat.mul_comm,Nat.add_comm],rfl⟩
theorem rget2_none [MaxL] (s:Sl UInt8) (a:Nat) (ha:a≤s.l.length) (h:s.l.length < a+2) (_:s.l.length < 4611686018427387904) :
  call cx 75 [(.vsl s.nil (ofBytes s.l) s.l.length),.int .i64 a,.int .i64 2] [] = some (.tup [.int .u64 0,.bool false],[]):=by
 have g0:¬ (a:Int) < 0:=by omega
 have g1:¬ (s.l.length:Int) < (a:Int):=by omega
 have hw:IntKind.i64.wrap ((s.l.length:Int) - (a:Int)) = (s.l.length:Int) - (a:Int):=by rw [wrap_i64];omega
 have g2:(s.l.length:Int) - (a:Int) < 2:=by omega
 refine call_run Tryz.func75 rfl ⟨rfl,rfl⟩ ?_
 simp [Tryz.f75,g0,g1,hw,g2]
set_option maxHeartbeats 1000000 in
theorem rget4_ev [MaxL] (s:Sl UInt8) (a:Nat) (h:a+4≤s.l.length) (_:s.l.length < 4611686018427387904) :
  call cx 75 [(.vsl s.nil (ofBytes s.l) s.l.length),.int .i64 a,.int .i64 4] [] = some (.tup [.int .u64 (leN ((s.l.drop a).take 4)),.bool true],[]):=by
 have hnn:s.nil = false:=Sl.nn (i:=a) (by omega)
 have g0:¬ (a:Int) < 0:=by omega
 have g1:¬ (s.l.length:Int) < (a:Int):=by omega
 have hw:IntKind.i64.wrap ((s.l.length:Int) - (a:Int)) = (s.l.length:Int) - (a:Int):=by rw [wrap_i64];omega
 have g2:¬ (s.l.length:Int) - (a:Int) < 4:=by omega
 refine call_run Tryz.func75 rfl ⟨rfl,rfl⟩ ?_
 simp [Tryz.f75,hnn,g0,g1,hw,g2]
 refine Run.loopThen (fun (i:Nat) e H=>i≤4∧H = []∧look e 0 = some (.vsl s.nil (ofBytes s.l) s.l.length)∧look e 1 = some (.int .i64 a)∧look e 8 = some (.int .u64 (leN ((s.l.drop (a+i)).take (4 - i)):Nat))∧look e 9 = some (.int .i64 ((i:Int) - 1))) (fun i=>i) 4 (by simp [leN,hnn]) ?_
 rintro i e H ⟨hi,rfl,h0,h1,h8,h9⟩
 cases i with
 | zero=>simp [h0,h1,h8,h9]
 | succ j =>
  have hj:(0:Int)≤(j:Int):=by omega
  have hwj:IntKind.i64.wrap ((a:Int)+(j:Int)) = ((a+j:Nat):Int):=by rw [wrap_i64] <;> omega
  have hwk:IntKind.i64.wrap ((j:Int) - 1) = (j:Int) - 1:=by rw [wrap_i64];omega
  have hlt:a+j < s.l.length:=by omega
  have e1:((j+1:Nat):Int) - 1 = (j:Int):=by omega
  rw [e1] at h9
  have hd:(s.l.drop (a+j)).take (4 - j) = s.l[a+j] :: (s.l.drop (a+(j+1))).take (4 - (j+1)):=by
   rw [List.drop_eq_getElem_cons hlt,show 4 - j = (4 - (j+1))+1 by omega,List.take_succ_cons,Nat.add_assoc]
  have hn8:leN ((s.l.drop (a+(j+1))).take (4 - (j+1))) < 256 ^ 7:=by
   refine Nat.lt_of_lt_of_le (leN_lt _) (Nat.pow_le_pow_right (by decide) ?_)
   rw [List.length_take]
   omega
  have hst:=mul256 (leN ((s.l.drop (a+(j+1))).take (4 - (j+1)))) s.l[a+j].toNat s.l[a+j].toNat_lt hn8
  have hwu:IntKind.u64.wrap (s.l[a+j].toNat:Int) = (s.l[a+j].toNat:Int):=by rw [wrap_u64];have:=s.l[a+j].toNat_lt;omega
  have g1:(0:Int)≤(a:Int)+(j:Int):=by omega
  have g2:(a:Int)+(j:Int) < (s.l.length:Int):=by omega
  have g3:((a:Int)+(j:Int)).toNat = a+j:=by omega
  simp [h0,h1,h8,h9,hj,hwj,hwk,hwu,hnn,g1,g2,g3,ofBytes_at hlt,-Nat.reduceSubDiff]
  rw [hst]
  clear hn8 hst hwu
  exact ⟨j,by omega,by omega,by rw [hd,leN,Nat.mul_comm,Nat.add_comm],rfl⟩
theorem rget4_none [MaxL] (s:Sl UInt8) (a:Nat) (ha:a≤s.l.length) (h:s.l.length < a+4) (_:s.l.length < 4611686018427387904) :
  call cx 75 [(.vsl s.nil (ofBytes s.l) s.l.length),.int .i64 a,.int .i64 4] [] = some (.tup [.int .u64 0,.bool false],[]):=by
 have g0:¬ (a:Int) < 0:=by omega
 have g1:¬ (s.l.length:Int) < (a:Int):=by omega
 have hw:IntKind.i64.wrap ((s.l.length:Int) - (a:Int)) = (s.l.length:Int) - (a:Int):=by rw [wrap_i64];omega
 have g2:(s.l.length:Int) - (a:Int) < 4:=by omega
 refine call_run Tryz.func75 rfl ⟨rfl,rfl⟩ ?_
 simp [Tryz.f75,g0,g1,hw,g2]
theorem ropen_ev [MaxL] (b:Sl UInt8) (hn:b.l.length≤140737488354000):call cx 74 [(.vsl b.nil (ofBytes b.l) b.l.length)] [] = some (openD b.l,[]):=by
 refine call_run Tryz.func74 rfl ⟨rfl,rfl⟩ ?_
 unfold openD
 by_cases h4:b.l.length < 4
 ·rw [if_pos h4]
  have hlt:(b.l.length:Int) < 4:=by omega
  simp [Tryz.f74,hlt]
 rw [if_neg h4]
 obtain ⟨n,hn4⟩:∃ n,b.l.length - 4 = n:=⟨_,rfl⟩
 have hw1:IntKind.i64.wrap ((b.l.length:Int) - 4) = (n:Int):=by rw [wrap_i64] <;> omega
 have hlt:¬ (b.l.length:Int) < 4:=by omega
 have hnn:b.nil = false:=Sl.nn (i:=0) (by omega)
 have hg:=rget4_ev b n (by omega) (by omega)
 rw [List.take_of_length_le (by rw [List.length_drop];omega)] at hg
 have h1:=rmoreS_ev 0#32 (.of (b.l.take n)) (by simp;omega)
 have hw:=u32_64 (crcM 0#32 (b.l.take n))
 have hng:(0:Int)≤(n:Int):=by omega
 have hnl:n≤b.l.length:=by omega
 have htl:(b.l.take n).length = n:=by rw [List.length_take];omega
 have htk:List.take n (ofBytes b.l) = ofBytes (b.l.take n):=ofBytes_take _ _
 have hs:sumOk b.l = decide (leN (b.l.drop n) = (crcM 0#32 (b.l.take n)).toNat):=by unfold sumOk;rw [hn4]
 rw [hs,hn4]
 simp only [Sl.of_l,Sl.of_nil,htl] at h1 hw
 rw [hnn] at hg
 generalize leN (b.l.drop n) = v at *
 generalize crcM 0#32 (b.l.take n) = c at *
 generalize b.l.take n = y at *
 replace h1:call cx 70 [.int .u32 0,.vsl false (ofBytes y) n] [] = some (.int .u32 (c.toNat:Nat),[]):=h1
 have hcond:((v:Int) = (c.toNat:Int)) = (v = c.toNat):=propext ⟨fun h=>Int.ofNat.inj h,fun h=>congrArg _ h⟩
 by_cases hv:v = c.toNat
 ·subst hv
  simp [Tryz.f74,hlt,hw1,hnn,hg,h1,hw,hng,hnl,htk,htl]
 ·rw [decide_eq_false hv]
  simp [Tryz.f74,hlt,hw1,hnn,hg,h1,hw,hng,hnl,htk,hcond,hv]
end Go.Ev.S
namespace Go.Ev.S
open Go Go.Proofs Go.Ev
theorem nums3_ev [MaxL] [TxtC] (a b c:Nat) (ha:a < 18446744073709551616) (hb:b < 18446744073709551616) (hc:c < 18446744073709551616) :
  call cx 60 [.vsl false [.int .u64 a,.int .u64 b,.int .u64 c] 3] [] = some (.vsl false (ofBytes (leB 8 a ++ (leB 8 b ++ leB 8 c))) 24,[]):=by
 have h1:=low_ev a ha
 have h2:=low_ev b hb
 have h3:=low_ev c hc
 clear ha hb hc
 refine call_run Tryz.func60 rfl ⟨rfl,rfl⟩ ?_
 simp [Tryz.f60]
 iterate 4
  refine run_unroll ?_
  simp [h1,h2,h3,List.take_of_length_le,maxBytes]
 simp [ofBytes_append]
set_option maxRecDepth 4000 in
set_option maxHeartbeats 2000000 in
theorem rmbytes_ev [MaxL] [TxtC] (s:Sl Mk) (hn:s.l.length < 4611686018427387904) (hok:∀ m∈s.l,m.Ok) :
  call cx 68 [(.vsl s.nil (encs s.l) s.l.length)] [] = some ((.vsl (bytesS s.l).nil (ofBytes (bytesS s.l).l) (bytesS s.l).l.length),[]):=by
 have hr:=rmright_ev s hn
 refine call_run Tryz.func68 rfl ⟨rfl,rfl⟩ ?_
 cases h:rightM s.l with
 | false =>
  rw [h] at hr
  simp [Tryz.f68,hr,bytesS,h,ofBytes]
 | true =>
  rw [h] at hr
  have hl:=rightM_le h
  clear hn
  have hw8:IntKind.u8.wrap (s.l.length:Int) = (s.l.length:Int):=by rw [wrap_u8];omega
  simp [Tryz.f68,hr,bytesS,h,hw8]
  refine Run.loopThen (fun (i:Nat) e H=>i≤s.l.length∧∃ X:List UInt8,BytesC s.l i X∧H = [some (ofBytes X)]∧look e 3 = some (.osl 0 X.length 0 X.length 1)∧look e 0 = some (.vsl s.nil (encs s.l) s.l.length)∧look e 4 = some (.int .i64 i)) (fun i=>s.l.length - i) 0 ?_ ?_
  ·refine ⟨by omega,[UInt8.ofNat s.l.length],by simp [BytesC],?_⟩
   simp [ofBytes]
   omega
  rintro i e H ⟨hi,X,hX,rfl,h3,h0,h4⟩
  by_cases hlt:i < s.l.length
  ·have hlt':(i:Int) < (s.l.length:Int):=by omega
   have hw:IntKind.i64.wrap ((i:Int)+1) = ((i+1:Nat):Int):=by rw [wrap_i64] <;> omega
   have h16:∀ k,(16≤19+k) = True:=fun k=>eq_true (by omega)
   have hl40:=mkBs_len (s.l.take i)
   rw [List.length_take,Nat.min_eq_left hi] at hl40
   have hsn:BytesC s.l (i+1) (X ++ mkB s.l[i]):=by
    unfold BytesC at *
    rw [hX,List.take_succ_eq_append_getElem hlt,List.flatMap_append];simp
   have hXl:X.length≤200:=by rw [hX,List.length_cons,hl40];omega
   clear hX hl40
   have hm:=hok _ (List.getElem_mem hlt)
   obtain ⟨⟨m0,m1,m2,m3⟩,hme⟩:∃ m,s.l[i] = m:=⟨_,rfl⟩
   rw [hme] at hsn hm
   obtain ⟨a1,rfl⟩:∃ k:Nat,m1 = k:=⟨m1.toNat,by have:=hm.seq;simp [isU64] at this;omega⟩
   obtain ⟨a2,rfl⟩:∃ k:Nat,m2 = k:=⟨m2.toNat,by have:=hm.lost;simp [isU64] at this;omega⟩
   obtain ⟨a3,rfl⟩:∃ k:Nat,m3 = k:=⟨m3.toNat,by have:=hm.over;simp [isU64] at this;omega⟩
   have hN:=nums3_ev a1 a2 a3 (by have:=hm.seq;simp [isU64] at this;omega) (by have:=hm.lost;simp [isU64] at this;omega) (by have:=hm.over;simp [isU64] at this;omega)
   have hb1:X.length+16≤140737488355328:=Nat.le_trans (Nat.add_le_add_right hXl 16) (by decide)
   have hb2:X.length+16+24≤140737488355328:=Nat.le_trans (Nat.add_le_add_right hXl 40) (by decide)
   have hb3:X.length+40≤140737488355328:=hb2
   simp [h3,h0,h4,hlt',hlt,Sl.nn hlt,hme,maxBytes,hb1,hb2,hN,hw,h16,List.take_of_length_le,Nat.add_assoc]
   clear hb1 hb2 hb3
   exact ⟨i+1,by omega,by omega,_,hsn,by simp [mkB,ofBytes_append],by simp [mkB],rfl⟩
  ·have hlt':¬ (i:Int) < (s.l.length:Int):=by omega
   have hit:s.l.take i = s.l:=List.take_of_length_le (by omega)
   have hXe:X = mksB s.l:=by rw [hX,hit];rfl
   simp [h3,h0,h4,hlt',hXe]
end Go.Ev.S
namespace Go.Ev.S
open Go Go.Proofs Go.Ev
theorem bnd40 {n:Nat} (h:n≤1000):n * 40≤140737488355328∧n≤140737488355328:=by omega
theorem setRange_step {A Z:List D} {k:Nat} {x:D} (hA:A[k]? = some x) (_:k < Z.length):setRange (A.take k ++ Z.drop k) k [x] = A.take (k+1) ++ Z.drop (k+1):=by
 have hk:k < A.length:=(List.getElem?_eq_some_iff.1 hA).1
 have hx:A[k] = x:=by rw [List.getElem?_eq_getElem hk] at hA;exact Option.some.inj hA
 have hl:(A.take k).length = k:=by rw [List.length_take];omega
 unfold setRange
 rw [List.take_left' hl,List.take_succ_eq_append_getElem hk,hx,List.length_singleton,List.drop_append,hl,List.drop_of_length_le (by omega:(A.take k).length≤k+1),List.nil_append]
 congr 1
 rw [List.drop_drop]
 congr 1
 omega
def z19:List D:=[.int .u8 0,.int .u8 0,.int .u8 0,.int .u8 0,.int .u8 0,.int .u8 0,.int .u8 0,.int .u8 0,.int .u8 0,.int .u8 0,.int .u8 0,.int .u8 0,.int .u8 0,.int .u8 0,.int .u8 0,.int .u8 0,.int .u64 0,.int .u64 0,.int .u64 0]
def partC (R:List UInt8) (k:Nat):List D:=(ofBytes R).take k ++ z19.drop k
theorem partC_len {R:List UInt8} {k:Nat} (h:k≤16) (hR:16≤R.length):(partC R k).length = 19:=by
 simp [partC,z19,List.length_take]
 omega
theorem partC_step {R:List UInt8} {k:Nat} (h:k < 16) (hR:16≤R.length):setRange (partC R k) k [.int .u8 ((R[k]'(by omega)).toNat:Int)] = partC R (k+1) :=
 setRange_step (by rw [List.getElem?_eq_getElem (by simp;omega),ofBytes_get]) (by simp [z19];omega)
set_option maxRecDepth 4000 in
set_option maxHeartbeats 4000000 in
theorem rmread_ev [MaxL] (s:Sl UInt8) (hn:s.l.length < 4611686018427387904) :
  call cx 76 [(.vsl s.nil (ofBytes s.l) s.l.length)] [] = some (.tup [(.vsl (Sl.grown (readM s.l).1).nil (encs (Sl.grown (readM s.l).1).l) (Sl.grown (readM s.l).1).l.length),.int .i64 (readN (readM s.l)),.int .i64 (readM s.l).2],[]):=by
 refine call_run Tryz.func76 rfl ⟨rfl,rfl⟩ ?_
 obtain ⟨nil,l,hnil⟩:=s
 simp only at hn ⊢
 cases l with
 | nil=>simp [Tryz.f76,readM,readN,Sl.grown]
 | cons c r =>
  simp only [List.length_cons] at hn
  have hnf:nil = false:=by
   cases nil with
   | false=>rfl
   | true=>simpa using hnil rfl
  subst hnf
  have hne:¬ ((r.length:Int)+1 = 0):=by omega
  have hpos:(0:Int) < (r.length:Int)+1:=by omega
  by_cases h4:4 < c.toNat
  ·have h4':(4:Int) < (c.toNat:Int):=by omega
   simp [Tryz.f76,readM,readN,Sl.grown,hne,hpos,ofBytes_cons,h4,h4']
  ·have h4':¬ (4:Int) < (c.toNat:Int):=by omega
   have hwc:IntKind.i64.wrap (c.toNat:Int) = (c.toNat:Int):=by rw [wrap_i64];omega
   simp [Tryz.f76,hne,hpos,ofBytes_cons,h4']
   have hB:ofBytes (c :: r) = .int .u8 (c.toNat:Int) :: ofBytes r:=rfl
   refine Run.loopThen (fun (i:Nat) e H=>i≤c.toNat∧∃ (d:D) (out:List Mk),BufE 19 d H out∧out.length = i∧40 * i≤r.length∧look e 0 = some (.vsl false (ofBytes (c :: r)) (r.length+1))∧look e 5 = some d∧look e 6 = some (.int .i64 (1+40 * (i:Int)))∧look e 7 = some (.int .i64 i) ∧
    readM (c :: r) = readGo (c.toNat - i) (r.drop (40 * i)) out) (fun i=>c.toNat - i) 0 ?_ ?_
   ·refine ⟨by omega,.vsl true [] 0,[],.inl ⟨rfl,rfl,rfl⟩,rfl,by omega,?_⟩
    simp [readM,h4,ofBytes_cons]
   ·rintro i e H ⟨hi,d,out,hbuf,hlen,hir,h0,h5,h6,h7,hr⟩
    by_cases hlt:i < c.toNat
    ·have hlt':(i:Int) < (c.toNat:Int):=by omega
     have hw41:IntKind.i64.wrap ((r.length:Int)+1 - (1+40 * (i:Int))) = ((r.length - 40 * i:Nat):Int):=by rw [wrap_i64] <;> omega
     have hk:c.toNat - i = (c.toNat - (i+1))+1:=by omega
     rw [hk,readGo] at hr
     have hdl:(r.drop (40 * i)).length = r.length - 40 * i:=List.length_drop
     by_cases h16:r.length - 40 * i < 16
     ·rw [hdl,if_pos h16] at hr
      have hm':((r.length - 40 * i:Nat):Int) < 16:=by omega
      simp [h0,h5,h6,h7,hlt',hpos,hB,hwc,hw41,hm',hr,readN,Sl.grown]
     ·have hm':¬ ((r.length - 40 * i:Nat):Int) < 16:=by omega
      rw [hdl,if_neg h16] at hr
      generalize hR:r.drop (40 * i) = R at *
      obtain ⟨id,hid⟩:∃ id:ID,id.l = R.take 16:=⟨ID.mk' (R.take 16),ID.mk'_l (by rw [List.length_take];omega)⟩
      have hidm:ID.mk' (R.take 16) = id:=ID.ext' (by rw [ID.mk'_l (by rw [List.length_take];omega),hid])
      rw [← hid] at hr
      have hdr:(r.drop (40 * (i+1))) = R.drop 40:=by rw [← hR,List.drop_drop];congr 1
      have hRl:R.length = r.length - 40 * i:=hdl
      simp [h0,h5,h6,h7,hlt',hpos,hB,hwc,hw41,hm']
      have h40i:∀ k,k < R.length→(ofBytes (c :: r)).drop (40 * i+1+k) = .int .u8 ((R[k]?.getD 0).toNat:Int) :: ofBytes (R.drop (k+1)):=fun k hk=>by
       rw [ofBytes_drop,show 40 * i+1+k = (40 * i+k)+1 by omega,List.drop_succ_cons,← List.drop_drop,hR,List.drop_eq_getElem_cons hk,ofBytes_cons,List.getElem?_eq_getElem hk]
       rfl
      clear h0 h5 h6 h7 e
      refine Run.loopThen (fun (k:Nat) e H'=>k≤16∧H' = H ++ [some (partC R k)]∧look e 0 = some (.vsl false (ofBytes (c :: r)) (r.length+1))∧look e 5 = some d∧look e 6 = some (.int .i64 (1+40 * (i:Int)))∧look e 7 = some (.int .i64 i) ∧
       look e 8 = some (.optr H.length 19 0)∧look e 9 = some (.int .i64 k)) (fun k=>16 - k) 0 ?_ ?_
      ·simp [partC,z19,hB]
      rintro k e H' ⟨hk16,rfl,h0,h5,h6,h7,h8,h9⟩
      by_cases hklt:k < 16
      ·have hklt':(k:Int) < 16:=by omega
       have g1:IntKind.i64.wrap (1+40 * (i:Int)+(k:Int)) = ((40 * i+1+k:Nat):Int):=by rw [wrap_i64] <;> omega
       have g2:((40 * i+1+k:Nat):Int) < (r.length:Int)+1:=by omega
       have g3:IntKind.i64.wrap ((k:Int)+1) = ((k+1:Nat):Int):=by rw [wrap_i64] <;> omega
       have g4:(0:Int)≤((40 * i+1+k:Nat):Int):=by omega
       have g5:((40 * i+1+k:Nat):Int).toNat = 40 * i+1+k:=by omega
       have hkR:k < R.length:=by omega
       have hst:=partC_step hklt (R:=R) (by omega)
       have hpl:=partC_len (k:=k) (R:=R) (by omega) (by omega)
       have hg:=h40i k hkR
       rw [List.getElem?_eq_getElem hkR,Option.getD_some] at hg
       have hk19:k+1≤19:=by omega
       generalize hX:40 * i+1+k = X at *
       simp [h0,h5,h6,h7,h8,h9,hklt',g1,g2,g3,g4,g5,hg,hpl,hk19,hst]
       exact ⟨k+1,by omega,by omega,rfl,rfl⟩
      ·have hke:k = 16:=by omega
       have hklt':¬ (k:Int) < 16:=by omega
       have hP:partC R k = Enc.cells (⟨id,0,0,0⟩:Mk):=by
        rw [hke]
        simp only [partC,z19,Mk.cells,hid,ofBytes_take]
        rfl
       rw [hP]
       rw [← hRl] at hr
       have hlast0:i = 0→lastGe out id.l = false:=fun h=>by
        have:out = []:=List.eq_nil_of_length_eq_zero (by omega)
        subst this
        rfl
       have hlastk:∀ k (hk:k < out.length),k+1 = i→lastGe out id.l = decide (0≤cmpB out[k].id.l id.l):=fun k hk hki=>by
        unfold lastGe
        have:out.getLast? = some out[k]:=by
         rw [List.getLast?_eq_getElem?,List.getElem?_eq_getElem (by omega)]
         congr 2
         omega
        rw [this]
       have hw1:IntKind.i64.wrap ((i:Int)+1) = ((i+1:Nat):Int):=by rw [wrap_i64] <;> omega
       have hq16:IntKind.i64.wrap (1+40 * (i:Int)+16) = ((40 * i+17:Nat):Int):=by rw [wrap_i64] <;> omega
       have hq24:IntKind.i64.wrap (((40 * i+17:Nat):Int)+24) = 1+40 * (((i+1:Nat):Int)):=by rw [wrap_i64] <;> omega
       have hq8:IntKind.i64.wrap (((40 * i+17:Nat):Int)+8) = ((40 * i+25:Nat):Int):=by rw [wrap_i64] <;> omega
       have hq6:IntKind.i64.wrap (((40 * i+17:Nat):Int)+16) = ((40 * i+33:Nat):Int):=by rw [wrap_i64] <;> omega
       have hqr:IntKind.i64.wrap ((r.length:Int)+1 - ((40 * i+17:Nat):Int)) = ((R.length:Int) - 16):=by rw [wrap_i64] <;> omega
       have fin40:lastGe out id.l = false→¬ R.length < 40→∃ a1 a2 a3:Nat,mkOf R = ⟨id,a1,a2,a3⟩∧call cx 75 [.vsl false (ofBytes (c :: r)) (r.length+1),.int .i64 ((40 * i+17:Nat):Int),.int .i64 8] [] = some (.tup [.int .u64 a1,.bool true],[]) ∧
         call cx 75 [.vsl false (ofBytes (c :: r)) (r.length+1),.int .i64 ((40 * i+25:Nat):Int),.int .i64 8] [] = some (.tup [.int .u64 a2,.bool true],[])∧call cx 75 [.vsl false (ofBytes (c :: r)) (r.length+1),.int .i64 ((40 * i+33:Nat):Int),.int .i64 8] [] = some (.tup [.int .u64 a3,.bool true],[]) ∧
         readM (c :: r) = readGo (c.toNat - (i+1)) (r.drop (40 * (i+1))) (out ++ [⟨id,a1,a2,a3⟩]):=by
        intro hlg h40
        rw [hlg] at hr
        simp only [Bool.false_eq_true,if_false] at hr
        rw [if_neg h40] at hr
        have hmk:mkOf R = ⟨id,leN ((R.drop 16).take 8),leN ((R.drop 24).take 8),leN ((R.drop 32).take 8)⟩:=by unfold mkOf;rw [hidm]
        have q:∀ a,a+8≤40→call cx 75 [.vsl false (ofBytes (c :: r)) (r.length+1),.int .i64 ((40 * i+1+a:Nat):Int),.int .i64 8] [] = some (.tup [.int .u64 (leN ((R.drop a).take 8)),.bool true],[]):=fun a ha=>by
         have:=rget8_ev (.of (c :: r)) (40 * i+1+a) (by simp;omega) (by simp;omega)
         simp only [Sl.of_l,Sl.of_nil,List.length_cons] at this
         rw [this,show 40 * i+1+a = (40 * i+a)+1 by omega,List.drop_succ_cons,← List.drop_drop,hR]
        exact ⟨_,_,_,hmk,q 16 (by omega),q 24 (by omega),q 32 (by omega),by rw [hr,hdr,hmk]⟩
       have hc19:=bnd40 (n:=out.length+1) (by have:=c.toNat_lt;omega)
       generalize hX17:40 * i+17 = X17 at *
       generalize hX25:40 * i+25 = X25 at *
       generalize hX33:40 * i+33 = X33 at *
       rcases Nat.eq_zero_or_pos i with hi0 | hipos
       ·have hi0':¬ 0 < i:=by omega
        have hlg:=hlast0 hi0
        by_cases h40:R.length < 40
        ·have h40':(R.length:Int) - 16 < 24:=by omega
         rw [hlg,if_pos h40] at hr
         simp only [Bool.false_eq_true,if_false] at hr
         rcases hbuf with ⟨rfl,rfl,rfl⟩ | ⟨rfl,rfl,hne0⟩ <;>
          simp [h0,h5,h6,h7,h8,h9,hklt',hq16,hqr,hi0',h40',hr,readN,Sl.grown]
        ·have h40':¬ (R.length:Int) - 16 < 24:=by omega
         obtain ⟨a1,a2,a3,q1,q2,q3,q4,q5⟩:=fin40 hlg h40
         clear hr
         rcases hbuf with ⟨rfl,rfl,rfl⟩ | ⟨rfl,rfl,hne0⟩
         ·simp [h0,h5,h6,h7,h8,h9,hklt',hq16,hq24,hq8,hq6,hqr,hi0',h40',q2,q3,q4,hw1,maxBytes]
          clear hc19
          exact ⟨i+1,by omega,by omega,_,_,.one _,by simp at hlen;simp [← hlen],by omega,rfl,rfl,rfl,rfl,q5⟩
         ·exact absurd (List.eq_nil_of_length_eq_zero (by omega)) hne0
       ·obtain ⟨k',hki⟩:∃ k,k+1 = i:=⟨i - 1,by omega⟩
        have hko:k' < out.length:=by omega
        have hko':(k':Int) < (out.length:Int):=by omega
        have hwk:IntKind.i64.wrap ((i:Int) - 1) = (k':Int):=by rw [wrap_i64] <;> omega
        have hlg:=hlastk k' hko hki
        have hcm:=ids_ev out[k'].id id
        have h19:k' * 19+16≤out.length * 19:=by omega
        have h16k:∀ k,(16≤19+k) = True:=fun k=>eq_true (by omega)
        rcases hbuf with ⟨rfl,rfl,rfl⟩ | ⟨rfl,rfl,hne0⟩
        ·simp at hko
        ·by_cases hge:0≤cmpB out[k'].id.l id.l
         ·rw [hlg,decide_eq_true hge] at hr
          simp only [if_true] at hr
          simp [h0,h5,h6,h7,h8,h9,hklt',hipos,hwk,hko,hko',hcm,hge,h16k,hr,readN,Sl.grown]
         ·rw [decide_eq_false hge] at hlg
          by_cases h40:R.length < 40
          ·have h40':(R.length:Int) - 16 < 24:=by omega
           rw [hlg,if_pos h40] at hr
           simp only [Bool.false_eq_true,if_false] at hr
           simp [h0,h5,h6,h7,h8,h9,hklt',hq16,hqr,hipos,hwk,hko,hko',hcm,hge,h16k,h40',hr,readN,Sl.grown]
          ·have h40':¬ (R.length:Int) - 16 < 24:=by omega
           obtain ⟨a1,a2,a3,q1,q2,q3,q4,q5⟩:=fin40 hlg h40
           clear hr
           simp [h0,h5,h6,h7,h8,h9,hklt',hq16,hq24,hq8,hq6,hqr,hipos,hwk,hko,hko',hcm,hge,h16k,h40',q2,q3,q4,hw1,maxBytes,hc19]
           clear hc19
           exact ⟨i+1,by omega,by omega,_,_,.snoc _ _,by simp [hlen],by omega,rfl,rfl,rfl,rfl,q5⟩
    ·have hlt':¬ (i:Int) < (c.toNat:Int):=by omega
     have hk:c.toNat - i = 0:=by omega
     rw [hk,readGo] at hr
     rcases hbuf with ⟨rfl,rfl,rfl⟩ | ⟨rfl,rfl,hne0⟩
     ·simp [h0,h5,h6,h7,hlt',hpos,hB,hwc,hr,readN,Sl.grown]
      simp at hlen
      omega
     ·simp [h0,h5,h6,h7,hlt',hpos,hB,hwc,hr,readN,Sl.grown,hne0,hlen,List.take_of_length_le]
end Go.Ev.S
namespace Go.Ev.S
open Go Go.Proofs Go.Ev
def PutR (X:List UInt8) (d:D) (H:Heap):Prop:= ∃ n,n = X.length∧d = .osl 0 n 0 n 1∧H = [some (ofBytes X)]
set_option maxHeartbeats 4000000 in
theorem rput_ev [MaxL] (s:Sl It) (m:Sl Mk) (hs:ItsB s.l) (hm:∀ x∈m.l,x.Ok) (hmn:m.l.length < 4611686018427387904):call cx 29 [(.vsl s.nil (encs s.l) s.l.length),(.vsl m.nil (encs m.l) m.l.length)] [] = some ((.vsl (putS s.l m.l).nil (ofBytes (putS s.l m.l).l) (putS s.l m.l).l.length),[]):=by
 have hr:=rmright_ev m hmn
 refine call_run Tryz.func29 rfl ⟨rfl,rfl⟩ ?_
 by_cases h64:s.l.length≤64
 case neg =>
  have h64':(64:Int) < (s.l.length:Int):=by omega
  have hp:putOk s.l m.l = false:=by unfold putOk;rw [decide_eq_false h64,Bool.false_and]
  rw [putS_none hp]
  simp [Tryz.f29,h64',Sl.none]
 have h64':¬ (64:Int) < (s.l.length:Int):=by omega
 cases hrm:rightM m.l with
 | false =>
  rw [hrm] at hr
  have hp:putOk s.l m.l = false:=by unfold putOk;rw [hrm,Bool.false_and,Bool.and_false]
  rw [putS_none hp]
  simp [Tryz.f29,h64',hr,Sl.none]
 | true =>
 rw [hrm] at hr
 have hw0:IntKind.u64.wrap (s.l.length:Int) = (s.l.length:Int):=by rw [wrap_u64];omega
 have h0:=lowN_ev s.l.length 2 (by decide) (by decide) (by omega)
 replace h0:call cx 67 [.int .u64 (s.l.length:Nat),.int .i64 2] [] = some (.vsl false (ofBytes (leB 2 s.l.length)) 2,[]):=h0
 have h0l:(leB 2 s.l.length).length = 2:=leB_len _ _
 have hsg:ofBytes (kSign ++ leB 2 s.l.length) = .int .u8 68 :: .int .u8 66 :: .int .u8 65 :: .int .u8 84 :: ofBytes (leB 2 s.l.length):=by rw [ofBytes_append];rfl
 have hsl:(kSign ++ leB 2 s.l.length).length = 6:=by rw [List.length_append,h0l];rfl
 have hC0:PutC s.l 0 (kSign ++ leB 2 s.l.length):=by simp [PutC]
 generalize kSign ++ leB 2 s.l.length = X0 at *
 generalize leB 2 s.l.length = z0 at *
 have htz:List.take 2 (ofBytes z0) = ofBytes z0:=List.take_of_length_le (by simp [h0l])
 simp [Tryz.f29,h64',hr,hw0,h0,maxBytes,h0l]
 refine Run.loopThen (fun (q:Nat × List UInt8) e H=>q.1≤s.l.length∧PutC s.l q.1 q.2∧(∀ x∈s.l.take q.1,itOk x = true)∧(∃ d,look e 5 = some d∧PutR q.2 d H)∧look e 1 = some (.vsl m.nil (encs m.l) m.l.length)∧look e 0 = some (.vsl s.nil (encs s.l) s.l.length)∧look e 6 = some (.int .i64 (q.1:Nat))) (fun q=>s.l.length - q.1) (0,X0) ?_ ?_
 ·exact ⟨Nat.zero_le _,hC0,by simp,⟨_,by simp,6,hsl.symm,rfl,by rw [← hsg]⟩,by simp,by simp,by simp⟩
 rintro ⟨i,X⟩ e H ⟨hi,hX,hok,⟨d,k5,n,hn,rfl,rfl⟩,k1,k0,k6⟩
 simp only at hi hX hok hn k6
 have hnX:X.length = n:=hn.symm
 have htX:List.take n (ofBytes X) = ofBytes X:=List.take_of_length_le (by simp;omega)
 have hfl:=flat_len (l:=s.l.take i) (fun x hx=>hs x (List.mem_of_mem_take hx)) hok
 have hXl:X.length≤700000:=by
  rw [List.length_take] at hfl
  have:min i s.l.length * 10004≤64 * 10004:=Nat.mul_le_mul_right _ (by omega)
  unfold PutC at hX
  rw [hX,List.length_append,List.length_append,leB_len]
  show 4+2+_≤_
  omega
 by_cases hlt:i < s.l.length
 ·have hlt':(i:Int) < (s.l.length:Int):=by omega
  have hw:IntKind.i64.wrap ((i:Int)+1) = ((i+1:Nat):Int):=by rw [wrap_i64] <;> omega
  obtain ⟨x1,x2,x3⟩:=hs s.l[i] (List.getElem_mem hlt)
  have t0:=rright_ev s.l[i] x1 x3 x2
  have t1:=rtext_ev s.l[i] x1 x3 x2
  have hea:List.drop (i * 39) (encs s.l) = Enc.cells s.l[i] ++ encs (s.l.drop (i+1)):=It.ea hlt
  have htake:s.l.take (i+1) = s.l.take i ++ [s.l[i]]:=List.take_succ_eq_append_getElem hlt
  cases ho:itOk s.l[i] with
  | false =>
   have hp:putOk s.l m.l = false:=by
    unfold putOk
    have:s.l.all itOk = false:=by
     cases h:s.l.all itOk with
     | false=>rfl
     | true=>rw [List.all_eq_true] at h;rw [h _ (List.getElem_mem hlt)] at ho;cases ho
    rw [this,Bool.and_false,Bool.and_false]
   rw [putS_none hp]
   rw [ho] at t0
   generalize s.l[i] = x at *
   simp [-It.ea,k5,k1,k0,k6,hlt',Sl.nn hlt,hea,t0,Sl.none]
  | true =>
   rw [ho] at t0
   unfold textD at t1
   rw [ho,if_pos rfl] at t1
   obtain ⟨tl1,tl2⟩:=textL_len x1 ho
   have hX2:PutC s.l (i+1) (X ++ leB 4 (textL s.l[i]).length ++ textL s.l[i]):=by
    unfold PutC at *
    rw [hX,htake,List.flatMap_append]
    simp [itB]
   have hok2:∀ x∈s.l.take (i+1),itOk x = true:=by
    intro x hx
    rw [htake] at hx
    rcases List.mem_append.1 hx with h | h
    ·exact hok x h
    ·rw [List.mem_singleton.1 h];exact ho
   have a1:=lowN_ev (textL s.l[i]).length 4 (by decide) (by decide) (by omega)
   replace a1:call cx 67 [.int .u64 ((textL s.l[i]).length:Nat),.int .i64 4] [] = some (.vsl false (ofBytes (leB 4 (textL s.l[i]).length)) 4,[]):=a1
   have hw4:IntKind.u64.wrap ((textL s.l[i]).length:Int) = ((textL s.l[i]).length:Int):=by rw [wrap_u64];omega
   generalize textL s.l[i] = t at *
   generalize s.l[i] = x at *
   have hl4:(leB 4 t.length).length = 4:=leB_len _ _
   generalize leB 4 t.length = z at *
   have htz4:List.take 4 (ofBytes z) = ofBytes z:=List.take_of_length_le (by simp [hl4])
   have hb1:n+4≤140737488355328:=by omega
   have hb2:n+4+t.length≤140737488355328:=by omega
   simp [-It.ea,k5,k1,k0,k6,hlt',Sl.nn hlt,hea,t0,t1,hw,hw4,maxBytes,a1,hb1,hb2,hnX,hl4]
   exact ⟨i+1,by omega,by omega,_,hX2,hok2,⟨n+4+t.length,by rw [List.length_append,List.length_append,hnX,hl4],rfl,by rw [ofBytes_append,ofBytes_append,List.append_assoc]⟩,by omega⟩
 ·have hlt':¬ (i:Int) < (s.l.length:Int):=by omega
  have hit:s.l.take i = s.l:=List.take_of_length_le (by omega)
  rw [hit] at hok
  have hall:s.l.all itOk = true:=List.all_eq_true.2 hok
  have hp:putOk s.l m.l = true:=by unfold putOk;rw [decide_eq_true h64,hrm,hall];rfl
  have hb:=rmbytes_ev m hmn hm
  have hbS:bytesS m.l = .of (mksB m.l):=by unfold bytesS;rw [hrm];rfl
  rw [hbS] at hb
  have hraw:X ++ mksB m.l = rawB s.l m.l:=by unfold PutC at hX;rw [hX,hit];unfold rawB;simp
  have hml:(mksB m.l).length≤161:=by rw [mksB_len];have:=rightM_le hrm;omega
  have hc:=rseal_ev (.of (X ++ mksB m.l)) (by simp;omega)
  have hS:putS s.l m.l = if (sealB (X ++ mksB m.l)).length≤65536 then .of (sealB (X ++ mksB m.l)) else .none:=by
   unfold putS
   rw [hp,hraw,Bool.true_and]
   by_cases h:(sealB (rawB s.l m.l)).length≤65536
   ·rw [decide_eq_true h,if_pos rfl,if_pos h]
   ·rw [decide_eq_false h,if_neg (by decide),if_neg h]
  rw [hS]
  simp only [Sl.of_l,Sl.of_nil] at hc hb
  generalize mksB m.l = y at *
  have hsl:=sealB_len (X ++ y)
  generalize sealB (X ++ y) = z at *
  rw [ofBytes_append,List.length_append,hnX] at hc
  have hmn2:n+y.length≤140737488355328:=by omega
  have htk:List.take (n+y.length) (ofBytes X ++ ofBytes y) = ofBytes X ++ ofBytes y:=List.take_of_length_le (by simp;omega)
  by_cases h6:z.length≤65536
  ·have h6':¬ (65536:Int) < (z.length:Int):=by omega
   rw [if_pos h6]
   simp [k5,k1,k0,k6,hlt',hb,hc,maxBytes,h6',htk,hmn2,hnX]
  ·have h6':(65536:Int) < (z.length:Int):=by omega
   rw [if_neg h6]
   simp [k5,k1,k0,k6,hlt',hb,hc,maxBytes,h6',htk,hmn2,hnX,Sl.none]
end Go.Ev.S
namespace Go.Ev.S
open Go Go.Proofs Go.Ev
theorem rreadS_ev [MaxL] (s:Sl UInt8) (hs:s.l.length < 1000000):call cx 21 [(.vsl s.nil (ofBytes s.l) s.l.length)] [] = some (.tup [.agg (Enc.cells (rdI s.l)),.int .i64 (rdN s.l:Nat),.int .i64 (rdC s.l)],[]):=by
 have h:=rread_ev s hs
 rwa [read_same,readD_I] at h
def GetR (out:List It) (d:D) (H:Heap):Prop:=(out = []∧d = .vsl true [] 0∧H = [])∨(out≠[]∧∃ n k,n = out.length * 39∧k = out.length∧((∃ t u,d = .osl 2 n 0 k 39∧H = [some t,some u,some (encs out)])∨(∃ t u,d = .osl 0 n 0 k 39∧H = [some (encs out),some t,some u])))
theorem readM_len {b:List UInt8} {l:List Mk} (h:readM b = (l,0)):l.length≤4:=by
 cases b with
 | nil=>cases h
 | cons c r =>
  unfold readM at h
  simp only at h
  split at h
  ·cases h
  ·rename_i h4
   obtain ⟨l',e1,e2,e3,e4,e5,e6⟩:=readGo_is c.toNat r [] l rfl (fun m hm=>by cases hm) h
   rw [e1,List.nil_append]
   omega
set_option maxHeartbeats 4000000 in
set_option maxRecDepth 4000 in
theorem rget_ev [MaxL] (b:Sl UInt8) (hn:b.l.length < 1000000):call cx 33 [(.vsl b.nil (ofBytes b.l) b.l.length)] [] = some (trD (getP b.l),[]):=by
 have hop:=ropen_ev b (by omega)
 refine call_run Tryz.func33 rfl ⟨rfl,rfl⟩ ?_
 unfold openD at hop
 by_cases h4:b.l.length < 4
 ·have hg:getP b.l = ([],[],22):=by unfold getP;rw [if_pos h4]
  rw [if_pos h4] at hop
  rw [hg]
  simp [Tryz.f33,hop,trD,Sl.grown]
 rw [if_neg h4] at hop
 cases hs:sumOk b.l with
 | false =>
  have hg:getP b.l = ([],[],19):=by unfold getP;rw [if_neg h4,hs];rfl
  rw [hs,if_neg (by decide)] at hop
  rw [hg]
  simp [Tryz.f33,hop,trD,Sl.grown]
 | true =>
 have hg:getP b.l = getX (b.l.take (b.l.length - 4)):=by unfold getP;rw [if_neg h4,hs];rfl
 rw [hs,if_pos rfl] at hop
 rw [hg]
 have hxl:(b.l.take (b.l.length - 4)).length < 1000000:=by rw [List.length_take];omega
 generalize b.l.take (b.l.length - 4) = x at *
 simp only [Sl.of_l,Sl.of_nil] at hop
 clear hg hs h4
 unfold getX
 by_cases hx4:x.length < 4
 ·have hx4':(x.length:Int) < 4:=by omega
  rw [if_pos hx4]
  simp [Tryz.f33,hop,trD,Sl.grown,hx4']
 rw [if_neg hx4]
 have hx4':¬ (x.length:Int) < 4:=by omega
 have hx4n:4≤x.length:=by omega
 have hx4i:(4:Int)≤(x.length:Int):=by omega
 have htk:List.take 4 (ofBytes x) = ofBytes (x.take 4):=ofBytes_take _ _
 have htl4:(x.take 4).length = 4:=by rw [List.length_take];omega
 have hpk:pre kSign x = true↔x.take 4 = [68,66,65,84]:=by
  unfold pre kSign
  simp
 cases hp:pre kSign x with
 | false =>
  have hne:¬ x.take 4 = [68,66,65,84]:=fun h=>by rw [hpk.2 h] at hp;cases hp
  rw [if_neg (by decide)]
  generalize x.take 4 = x4 at *
  simp [Tryz.f33,hop,trD,Sl.grown,hx4',hx4i,htk,hne,htl4]
 | true =>
 have hsg:=hpk.1 hp
 rw [if_pos rfl]
 by_cases hx6:x.length < 6
 ·rw [if_pos hx6]
  have hl2:=rget2_none (.of x) 4 (by rw [Sl.of_l];omega) (by rw [Sl.of_l];omega) (by rw [Sl.of_l];omega)
  replace hl2:call cx 75 [.vsl false (ofBytes x) x.length,.int .i64 4,.int .i64 2] [] = some (.tup [.int .u64 0,.bool false],[]):=hl2
  simp [Tryz.f33,hop,trD,Sl.grown,hx4',hx4i,htk,hsg,hl2]
 rw [if_neg hx6]
 have hl2:=rget2_ev (.of x) 4 (by rw [Sl.of_l];omega) (by rw [Sl.of_l];omega)
 replace hl2:call cx 75 [.vsl false (ofBytes x) x.length,.int .i64 4,.int .i64 2] [] = some (.tup [.int .u64 (leN ((x.drop 4).take 2):Nat),.bool true],[]):=hl2
 generalize leN ((x.drop 4).take 2) = many at *
 by_cases h64:64 < many
 ·rw [if_pos h64]
  have h64':(64:Int) < (many:Int):=by omega
  simp [Tryz.f33,hop,trD,Sl.grown,hx4',hx4i,htk,hsg,hl2,h64']
 rw [if_neg h64]
 have h64':¬ (64:Int) < (many:Int):=by omega
 obtain ⟨G,hG⟩:∃ G,getGo many (x.drop 6) [] = G:=⟨_,rfl⟩
 rw [hG]
 simp [Tryz.f33,hop,hx4',hx4i,htk,hsg,hl2,h64']
 refine Run.loopThen (fun (q:Nat × Nat × List It) e H=>q.1≤many∧getGo (many - q.1) (x.drop q.2.1) q.2.2 = G∧q.2.2.length = q.1∧q.2.1≤x.length∧look e 5 = some (.vsl false (ofBytes x) x.length)∧(∃ d,look e 9 = some d∧GetR q.2.2 d H)∧look e 7 = some (.int .u64 (many:Nat))∧look e 10 = some (.int .i64 (q.2.1:Nat))∧look e 11 = some (.int .i64 (q.1:Nat))) (fun q=>many - q.1) (0,6,[]) ?_ ?_
 ·exact ⟨Nat.zero_le _,hG,rfl,(by omega:6≤x.length),by simp,⟨_,by simp,.inl ⟨rfl,rfl,rfl⟩⟩,by simp,by simp,by simp⟩
 rintro ⟨i,a,out⟩ e H ⟨hi,hR,ho,hal,k5,⟨d,k9,hH⟩,k7,k10,k11⟩
 simp only at hi hR ho hal hH k10 k11
 have hH2:(out = []∧d = .vsl true [] 0∧H = [])∨(∃ n k,n = out.length * 39∧k = out.length∧out≠[]∧List.take n (encs out) = encs out∧k * 39 = n∧k≤64∧((∃ t u,d = .osl 2 n 0 k 39∧H = [some t,some u,some (encs out)])∨(∃ t u,d = .osl 0 n 0 k 39∧H = [some (encs out),some t,some u]))):=by
  rcases hH with h | ⟨hne,n,k,hn,hk,h⟩
  ·exact .inl h
  ·exact .inr ⟨n,k,hn,hk,hne,List.take_of_length_le (by simp;omega),by omega,by omega,h⟩
 clear hH
 have hwm:IntKind.i64.wrap (many:Int) = (many:Int):=by rw [wrap_i64];omega
 by_cases hlt:i < many
 ·have hw:IntKind.i64.wrap ((i:Int)+1) = ((i+1:Nat):Int):=by rw [wrap_i64] <;> omega
  rw [show many - i = (many - (i+1))+1 by omega,getGo] at hR
  have hdl:(x.drop a).length = x.length - a:=List.length_drop ..
  have hk:=leN4 (x.drop a)
  by_cases hr4:(x.drop a).length < 4
  ·rw [if_pos (.inl hr4)] at hR
   have hl4:=rget4_none (.of x) a (by rw [Sl.of_l];omega) (by rw [Sl.of_l];omega) (by rw [Sl.of_l];omega)
   simp only [Sl.of_l,Sl.of_nil] at hl4
   subst hR
   rcases hH2 with ⟨rfl,rfl,rfl⟩ | ⟨nn,kk,hnn,hkk,hne,htk',hkn,hk64,⟨tt,uu,rfl,rfl⟩ | ⟨tt,uu,rfl,rfl⟩⟩
   ·simp [k5,k9,k7,k10,k11,hwm,hlt,hl4,trD,Sl.grown]
   all_goals
    have hlk:out.length = kk:=hkk.symm
    simp [k5,k9,k7,k10,k11,hwm,hlt,hl4,trD,Sl.grown]
  have hl4:=rget4_ev (.of x) a (by rw [Sl.of_l];omega) (by rw [Sl.of_l];omega)
  simp only [Sl.of_l,Sl.of_nil] at hl4
  obtain ⟨n,hn'⟩:∃ n,leN ((x.drop a).take 4) = n:=⟨_,rfl⟩
  rw [hn'] at hl4 hR hk
  have hws:IntKind.i64.wrap ((x.length:Int) - (a:Int)) = ((x.length - a:Nat):Int):=by rw [wrap_i64] <;> omega
  have hws4:IntKind.i64.wrap (((x.length - a:Nat):Int) - 4) = ((x.length - a - 4:Nat):Int):=by rw [wrap_i64] <;> omega
  have hwu:IntKind.u64.wrap ((x.length - a - 4:Nat):Int) = ((x.length - a - 4:Nat):Int):=by rw [wrap_u64] <;> omega
  by_cases hbig:(x.drop a).length - 4 < n
  ·rw [if_pos (.inr hbig)] at hR
   have hbig':((x.length - a - 4:Nat):Int) < (n:Int):=by omega
   generalize x.length - a - 4 = c4 at *
   generalize x.length - a = c0 at *
   subst hR
   rcases hH2 with ⟨rfl,rfl,rfl⟩ | ⟨nn,kk,hnn,hkk,hne,htk',hkn,hk64,⟨tt,uu,rfl,rfl⟩ | ⟨tt,uu,rfl,rfl⟩⟩
   ·simp [k5,k9,k7,k10,k11,hwm,hlt,hl4,hws,hws4,hwu,hbig',trD,Sl.grown]
   all_goals
    have hlk:out.length = kk:=hkk.symm
    simp [k5,k9,k7,k10,k11,hwm,hlt,hl4,hws,hws4,hwu,hbig',trD,Sl.grown]
  rw [if_neg (by omega)] at hR
  have hbig':¬ ((x.length - a - 4:Nat):Int) < (n:Int):=by omega
  have hnl:a+4+n≤x.length:=by omega
  have w1:IntKind.i64.wrap ((a:Int)+4) = ((a+4:Nat):Int):=by rw [wrap_i64] <;> omega
  have w2:IntKind.i64.wrap (n:Int) = (n:Int):=by rw [wrap_i64];omega
  have w3:IntKind.i64.wrap (((a+4:Nat):Int)+(n:Int)) = ((a+4+n:Nat):Int):=by rw [wrap_i64] <;> omega
  obtain ⟨t,ht⟩:∃ t,((x.drop a).drop 4).take n = t:=⟨_,rfl⟩
  have htl:t.length = n:=by rw [← ht,List.length_take,List.length_drop,List.length_drop];omega
  rw [ht] at hR
  have hrd:=rreadS_ev (.of t) (by simp;omega)
  simp only [Sl.of_l,Sl.of_nil,htl] at hrd
  have htd:List.take n (List.drop (a+4) (ofBytes x)) = ofBytes t:=by rw [ofBytes_drop,ofBytes_take,← List.drop_drop,ht]
  have hdd:(x.drop a).drop (4+n) = x.drop (a+4+n):=by rw [List.drop_drop,Nat.add_assoc]
  rw [hdd] at hR
  generalize x.length - a - 4 = c4 at *
  generalize x.length - a = c0 at *
  have q1:a+4≤a+4+n:=Nat.le_add_right _ _
  have q5:a+4+n - (a+4) = n:=by omega
  generalize hb4:a+4+n = b4 at *
  generalize ha4:a+4 = a4 at *
  by_cases hok:readOk t = true∧(textL (itemP t)).length = n
  ·rw [if_pos hok] at hR
   have e1:rdI t = itemP t:=by unfold rdI;rw [if_pos hok.1]
   have e2:rdN t = n:=by unfold rdN;rw [if_pos hok.1,hok.2]
   have e3:rdC t = 0:=by unfold rdC;rw [if_pos hok.1]
   rw [e1,e2,e3] at hrd
   generalize itemP t = y at *
   rcases hH2 with ⟨rfl,rfl,rfl⟩ | ⟨nn,kk,hnn,hkk,hne,htk',hkn,hk64,⟨tt,uu,rfl,rfl⟩ | ⟨tt,uu,rfl,rfl⟩⟩
   ·simp [k5,k9,k7,k10,k11,hwm,hlt,hl4,hws,hws4,hwu,hbig',w1,w2,w3,htd,q1,q5,hnl,hrd,hw,maxBytes]
    exact ⟨i+1,by omega,by omega,b4,[y],hR,by rw [← ho];rfl,hnl,.inr ⟨by simp,39,1,rfl,rfl,.inl ⟨_,_,rfl,by rw [encs_one]⟩⟩,rfl,by omega⟩
   all_goals
    have hlk:out.length = kk:=hkk.symm
    have m1:(kk+1) * 104≤140737488355328:=by omega
    have m2:kk≤140737488355327:=by omega
    simp [hlk,hkn,k5,k9,k7,k10,k11,hwm,hlt,hl4,hws,hws4,hwu,hbig',w1,w2,w3,htd,q1,q5,hnl,hrd,hw,maxBytes,m1,m2]
    exact ⟨i+1,by omega,by omega,b4,out ++ [y],hR,by simp [ho],hnl,.inr ⟨by simp,nn+39,kk+1,by simp;omega,by simp [hlk],.inr ⟨_,_,rfl,by rw [encs_snoc]⟩⟩,rfl,by omega⟩
  ·rw [if_neg hok] at hR
   subst hR
   cases hro:readOk t with
   | false =>
    have e1:rdC t = 20:=by unfold rdC;rw [hro];rfl
    rw [e1] at hrd
    generalize rdI t = y at *
    generalize rdN t = z at *
    rcases hH2 with ⟨rfl,rfl,rfl⟩ | ⟨nn,kk,hnn,hkk,hne,htk',hkn,hk64,⟨tt,uu,rfl,rfl⟩ | ⟨tt,uu,rfl,rfl⟩⟩
    ·simp [k5,k9,k7,k10,k11,hwm,hlt,hl4,hws,hws4,hwu,hbig',w1,w2,w3,htd,q1,q5,hnl,hrd,trD,Sl.grown]
    all_goals
     have hlk:out.length = kk:=hkk.symm
     simp [k5,k9,k7,k10,k11,hwm,hlt,hl4,hws,hws4,hwu,hbig',w1,w2,w3,htd,q1,q5,hnl,hrd,trD,Sl.grown]
   | true =>
    have e1:rdC t = 0:=by unfold rdC;rw [hro];rfl
    have e2:¬ (textL (itemP t)).length = n:=fun h=>hok ⟨hro,h⟩
    have e3:rdN t = (textL (itemP t)).length:=by unfold rdN;rw [hro];rfl
    rw [e1,e3] at hrd
    generalize rdI t = y at *
    generalize (textL (itemP t)).length = z at *
    have e2':¬ (z:Int) = (n:Int):=by omega
    rcases hH2 with ⟨rfl,rfl,rfl⟩ | ⟨nn,kk,hnn,hkk,hne,htk',hkn,hk64,⟨tt,uu,rfl,rfl⟩ | ⟨tt,uu,rfl,rfl⟩⟩
    ·simp [k5,k9,k7,k10,k11,hwm,hlt,hl4,hws,hws4,hwu,hbig',w1,w2,w3,htd,q1,q5,hnl,hrd,e2',trD,Sl.grown]
    all_goals
     have hlk:out.length = kk:=hkk.symm
     simp [k5,k9,k7,k10,k11,hwm,hlt,hl4,hws,hws4,hwu,hbig',w1,w2,w3,htd,q1,q5,hnl,hrd,e2',trD,Sl.grown]
 ·have hk:many - i = 0:=by omega
  rw [hk,getGo] at hR
  have hm:=rmread_ev (.of (x.drop a)) (by simp;omega)
  simp only [Sl.of_l,Sl.of_nil] at hm
  obtain ⟨q,hq⟩:∃ q,readM (x.drop a) = q:=⟨_,rfl⟩
  rw [hq] at hm hR
  have hdr:List.drop a (ofBytes x) = ofBytes (x.drop a):=ofBytes_drop _ _
  have hdl:x.length - a = (x.drop a).length:=(List.length_drop ..).symm
  have hxa:(x.length:Int) = (a:Int)+((x.drop a).length:Int):=by omega
  generalize x.drop a = r at *
  by_cases h0:q.2 = 0
  ·rw [if_pos h0] at hR
   have hnn:0≤Go.Ev.readN q∧Go.Ev.readN q≤1+40 * (q.1.length:Int):=by unfold Go.Ev.readN;rw [if_pos h0];omega
   have hql:q.1.length≤4:=by
    obtain ⟨ql,qe⟩:=q
    simp only at h0
    subst h0
    exact readM_len hq
   have hwk:IntKind.i64.wrap ((a:Int)+Go.Ev.readN q) = (a:Int)+Go.Ev.readN q:=by rw [wrap_i64];omega
   by_cases hle:Go.Ev.readN q < (r.length:Int)
   ·have hle':(a:Int)+Go.Ev.readN q < (x.length:Int):=by omega
    rw [if_pos hle] at hR
    subst hR
    rcases hH2 with ⟨rfl,rfl,rfl⟩ | ⟨nn,kk,hnn',hkk,hne,htk',hkn,hk64,⟨tt,uu,rfl,rfl⟩ | ⟨tt,uu,rfl,rfl⟩⟩
    ·simp [k5,k9,k7,k10,k11,hwm,hlt,hal,hdr,hdl,hm,h0,hwk,hle',trD,Sl.grown]
    all_goals
     have hlk:out.length = kk:=hkk.symm
     simp [k5,k9,k7,k10,k11,hwm,hlt,hal,hdr,hdl,hm,h0,hwk,hle',trD,Sl.grown]
   ·have hle':¬ (a:Int)+Go.Ev.readN q < (x.length:Int):=by omega
    rw [if_neg hle] at hR
    subst hR
    rcases hH2 with ⟨rfl,rfl,rfl⟩ | ⟨nn,kk,hnn',hkk,hne,htk',hkn,hk64,⟨tt,uu,rfl,rfl⟩ | ⟨tt,uu,rfl,rfl⟩⟩
    ·simp [k5,k9,k7,k10,k11,hwm,hlt,hal,hdr,hdl,hm,h0,hwk,hle',trD,Sl.grown]
    all_goals
     have hlk:out.length = kk:=hkk.symm
     simp [hlk,htk',hkn,k5,k9,k7,k10,k11,hwm,hlt,hal,hdr,hdl,hm,h0,hwk,hle',trD,Sl.grown,hne]
  ·rw [if_neg h0] at hR
   subst hR
   rcases hH2 with ⟨rfl,rfl,rfl⟩ | ⟨nn,kk,hnn,hkk,hne,htk',hkn,hk64,⟨tt,uu,rfl,rfl⟩ | ⟨tt,uu,rfl,rfl⟩⟩
   ·simp [k5,k9,k7,k10,k11,hwm,hlt,hal,hdr,hdl,hm,h0,trD,Sl.grown]
   all_goals
    have hlk:out.length = kk:=hkk.symm
    simp [k5,k9,k7,k10,k11,hwm,hlt,hal,hdr,hdl,hm,h0,trD,Sl.grown]
end Go.Ev.S
namespace Go.Ev.S
open Go Go.Proofs Go.Ev
def lightsP (l:List It) (most:Nat):Bool:=decide (l.length≤most) && l.all lightP
theorem lights_ev [MaxL] (l:Sl It) (hl:l.l.length≤9223372036854775807) (most:Nat):call cx 27 [(.vsl l.nil (encs l.l) l.l.length),.int .i64 most] [] = some (.bool (lightsP l.l most),[]):=by
 refine call_run Tryz.func27 rfl ⟨rfl,rfl⟩ ?_
 unfold lightsP
 by_cases h6:l.l.length≤most
 case neg =>
  have h6':(most:Int) < (l.l.length:Int):=by omega
  have h6n:most < l.l.length:=by omega
  simp [Tryz.f27,h6',h6]
 have h6':¬ (most:Int) < (l.l.length:Int):=by omega
 have h6n:¬ most < l.l.length:=by omega
 rw [decide_eq_true h6,Bool.true_and]
 obtain ⟨r,hr⟩:∃ r,l.l.all lightP = r:=⟨_,rfl⟩
 rw [hr]
 simp [Tryz.f27,h6']
 refine Run.loopThen (fun (i:Nat) e H'=>i≤l.l.length∧(l.l.drop i).all lightP = r∧look e 0 = some (.vsl l.nil (encs l.l) l.l.length)∧look e 5 = some (.int .i64 (i:Nat))∧H' = []) (fun i=>l.l.length - i) 0 ⟨Nat.zero_le _,by simpa using hr,by simp,by simp,rfl⟩ ?_
 rintro i e H' ⟨hi,hR,k0,k5,rfl⟩
 by_cases hlt:i < l.l.length
 ·have hlt':(i:Int) < (l.l.length:Int):=by omega
  have hw:IntKind.i64.wrap ((i:Int)+1) = ((i+1:Nat):Int):=by rw [wrap_i64] <;> omega
  have hs:=light_ev l.l[i]
  rw [List.drop_eq_getElem_cons hlt,List.all_cons] at hR
  have hea:List.drop (i * 39) (encs l.l) = Enc.cells l.l[i] ++ encs (l.l.drop (i+1)):=It.ea hlt
  generalize l.l[i] = x at *
  cases hx:lightP x with
  | true =>
   rw [hx] at hs hR
   simp [-It.ea,k0,k5,hlt',Sl.nn hlt,hea,hs,hw]
   exact ⟨i+1,by omega,by omega,by simpa using hR,by omega⟩
  | false =>
   rw [hx] at hs hR
   simp [-It.ea,k0,k5,hlt',Sl.nn hlt,hea,hs,← hR]
 ·rw [List.drop_eq_nil_of_le (by omega)] at hR
  replace hR:true = r:=hR
  subst hR
  have hlt':¬ (i:Int) < (l.l.length:Int):=by omega
  simp [k0,k5,hlt']
def rowsS (R:List (Sl UInt8)):List D:=R.map fun r=>(.vsl r.nil (ofBytes r.l) r.l.length)
theorem rowsS_at {R:List (Sl UInt8)} {i:Nat} (h:i < R.length):(rowsS R).drop i = (.vsl (R[i]).nil (ofBytes (R[i]).l) (R[i]).l.length) :: (rowsS R).drop (i+1):=by
 unfold rowsS
 rw [← List.map_drop,List.drop_eq_getElem_cons h,List.map_cons,List.map_drop]
theorem rowsS_len (R:List (Sl UInt8)):(rowsS R).length = R.length:=by simp [rowsS]
theorem sameIs_refl:∀ (l:List It),sameIs l l = true
 | []=>rfl
 | x :: l=>by rw [sameIs,sameI_refl,sameIs_refl l];rfl
theorem row_two [MaxL] (r:Sl UInt8) (hr:r.l.length≤65536):∃ (a:List It) (b:List Mk) (e:Int),call cx 32 [(.vsl r.nil (ofBytes r.l) r.l.length)] [] = some (.tup [.vsl a.isEmpty (encs a) a.length,.vsl b.isEmpty (encs b) b.length,.int .i64 e],[])∧call cx 33 [(.vsl r.nil (ofBytes r.l) r.l.length)] [] = some (.tup [.vsl a.isEmpty (encs a) a.length,.vsl b.isEmpty (encs b) b.length,.int .i64 e],[])∧call cx 34 [.vsl a.isEmpty (encs a) a.length,.vsl a.isEmpty (encs a) a.length] [] = some (.bool true,[])∧call cx 35 [.vsl b.isEmpty (encs b) b.length,.vsl b.isEmpty (encs b) b.length] [] = some (.bool true,[]):=by
 have hg:=wget_ev r (by omega)
 have hg2:=rget_ev r (by omega)
 obtain ⟨⟨l,m,e⟩,hq⟩:∃ q,getP r.l = q:=⟨_,rfl⟩
 rw [hq] at hg hg2
 have hb:(∀ x∈l,x.rc.fields.l.length < 1000000)∧l.length < 1000000∧m.length < 4611686018427387904:=by
  by_cases h0:e = 0
  ·subst h0
   obtain ⟨h1,h2,h3,h4,h5⟩:=getP_is hr hq
   exact ⟨fun x hx=>(h2 x hx).b.2,by omega,by omega⟩
  ·obtain ⟨rfl,rfl⟩:=getP_bad hq h0
   exact ⟨fun x hx=>(by cases hx),(by decide),(by decide)⟩
 have hs:=rsames_ev (Sl.grown l) (Sl.grown l) hb.1 hb.1 hb.2.1
 have hm:=rmsame_ev (Sl.grown m) (Sl.grown m) hb.2.2
 rw [Sl.grown_l,sameIs_refl] at hs
 rw [Sl.grown_l,beq_self_eq_true] at hm
 exact ⟨l,m,e,hg,hg2,hs,hm⟩
set_option maxHeartbeats 4000000 in
set_option maxRecDepth 8000 in
theorem wbat_ev [MaxL] (l:Sl It) (hlo:∀ x∈l.l,x.Ok) (hll:l.l.length≤maxLen) (m:Sl Mk) (hmo:∀ x∈m.l,x.Ok) (_:m.l.length≤maxLen) (x:Sl UInt8) (n1:Bool) (z1:List Int) (h1:n1 = true→z1 = []) (n2:Bool) (z2:List Int) (h2:n2 = true→z2 = []) (y:UInt8):call cx 7 [(.vsl l.nil (encs l.l) l.l.length),(.vsl m.nil (encs m.l) m.l.length),(.vsl x.nil (ofBytes x.l) x.l.length),.vsl n1 (intsK .i64 z1) z1.length,.vsl n2 (intsK .i64 z2) z2.length,.int .u8 y.toNat] [] = some (.bool true,[]):=by
 have f0:=first_ev
 have fl:=lights_ev l (Nat.le_trans hll (by decide)) 6
 replace fl:call cx 27 [(.vsl l.nil (encs l.l) l.l.length),.int .i64 6] [] = some (.bool (lightsP l.l 6),[]):=fl
 refine call_run Tryz.func7 rfl ⟨rfl,rfl⟩ ?_
 cases hlt:lightsP l.l 6 with
 | false =>
  rw [hlt] at fl
  simp [Tryz.f7,f0,fl]
 | true =>
 rw [hlt] at fl
 by_cases hm8:m.l.length≤8
 case neg =>
  have hm8':(8:Int) < (m.l.length:Int):=by omega
  simp [Tryz.f7,f0,fl,hm8']
 have hm8':¬ (8:Int) < (m.l.length:Int):=by omega
 by_cases hx9:x.l.length≤900
 case neg =>
  have hx9':(900:Int) < (x.l.length:Int):=by omega
  simp [Tryz.f7,f0,fl,hm8',hx9']
 have hx9':¬ (900:Int) < (x.l.length:Int):=by omega
 by_cases hz1:z1.length≤80
 case neg =>
  have hz':(80:Int) < (z1.length:Int):=by omega
  simp [Tryz.f7,f0,fl,hm8',hx9',hz']
 have hz':¬ (80:Int) < (z1.length:Int):=by omega
 by_cases hz2:z2.length≤8
 case neg =>
  have hk':(8:Int) < (z2.length:Int):=by omega
  simp [Tryz.f7,f0,fl,hm8',hx9',hz',hk']
 have hk':¬ (8:Int) < (z2.length:Int):=by omega
 unfold lightsP at hlt
 rw [Bool.and_eq_true,List.all_eq_true] at hlt
 have hlB:ItsB l.l:=fun z hz=>by
  have h:=light_b (hlt.2 z hz)
  exact ⟨hlo z hz,by omega,h.2⟩
 have pA:=wput_ev l m hlB hmo (by omega)
 have pB:=rput_ev l m hlB hmo (by omega)
 have pS:=sameb_ev (putS l.l m.l) (putS l.l m.l)
 rw [beq_self_eq_true] at pS
 generalize putS l.l m.l = s0 at *
 obtain ⟨q2,hq2,M,k2,hM,rfl⟩:=mmarks_ev n1 z1 h1 (by omega) 0
 obtain ⟨q,hq,L,k',hL3,hLm,hsh⟩:=items_ev n1 z1 h1 (by omega) k2 3 (by decide)
 obtain ⟨q',hq',L',k'',hL3',hLm',hsh'⟩:=items_ev n1 z1 h1 (by omega) 0 3 (by decide)
 have sf:=seqD_free n1 z1
 have sl:=seqD_len n1 z1
 have sc:=seqD_cl n1 z1
 replace hq2:call cx 28 [.optr 0 2 0] [some [.vsl n1 (intsK .i64 z1) z1.length,.int .i64 0]] = some (.vsl M.isEmpty (encs M) M.length,[some (seqD n1 z1 k2)]):=hq2
 have hr:rightM M = true:=by
  unfold rightM
  rw [decide_eq_true hM.len,hM.rises]
  rfl
 have hM4:=hM.len
 obtain ⟨p1,p2,p3,p4⟩:=put_made hLm (by omega) hr
 have hp:=rput_ev (Sl.grown L) (Sl.grown M) (made_itsB hLm) hM.ok (by rw [Sl.grown_l];omega)
 have gA:=wput_ev (Sl.grown L') (Sl.grown M) (made_itsB hLm') hM.ok (by rw [Sl.grown_l];omega)
 have gB:=rput_ev (Sl.grown L') (Sl.grown M) (made_itsB hLm') hM.ok (by rw [Sl.grown_l];omega)
 rw [Sl.grown_l,Sl.grown_l] at hp gA gB
 have gS:=sameb_ev (putS L' M) (putS L' M)
 rw [beq_self_eq_true] at gS
 rw [p2] at hp
 generalize putS L' M = s1 at *
 generalize sealB (rawB L M) = b at *
 have eM:(Sl.grown M).nil = M.isEmpty:=rfl
 simp only [eM,Sl.of_l,Sl.of_nil] at hp gA gB
 have hbt:(b.take (b.length - 4)).length = b.length - 4:=by rw [List.length_take];omega
 obtain ⟨qs,hs,o,ho,rfl⟩:=spoil_ev (.of (b.take (b.length - 4))) (by rw [Sl.of_l];omega) n2 z2 h2 (by omega) y
 simp only [Sl.of_l,Sl.of_nil,hbt] at hs ho
 have c2:=rseal_ev x (by omega)
 have c3:=rseal_ev (.of o) (by rw [Sl.of_l];omega)
 have l2:=sealB_len x.l
 have l3:=sealB_len o
 simp only [Sl.of_l,Sl.of_nil] at c2 c3
 generalize sealB x.l = r2 at *
 generalize sealB o = r3 at *
 have hR:∀ r∈([x,.of r2,.of r3]:List (Sl UInt8)),r.l.length≤65536:=by
  intro r hr
  rcases List.mem_cons.1 hr with rfl | hr
  ·omega
  rcases List.mem_cons.1 hr with rfl | hr
  ·rw [Sl.of_l];omega
  ·rw [List.mem_singleton.1 hr,Sl.of_l];omega
 have wmx:¬ (b.length:Int) < 4:=by omega
 have wb:IntKind.i64.wrap ((b.length:Int) - 4) = ((b.length - 4:Nat):Int):=by rw [wrap_i64] <;> omega
 have htk0:List.take (b.length - 4) (ofBytes b) = ofBytes (b.take (b.length - 4)):=ofBytes_take _ _
 have hb4:b.length - 4≤b.length:=Nat.sub_le _ _
 generalize b.take (b.length - 4) = bt at *
 generalize b.length - 4 = bn at *
 have hbn:(0:Int)≤(bn:Int):=by omega
 clear p1 p2
 rcases hsh with ⟨rfl,rfl⟩ | ⟨hne,n,mm,hn,hmm,rfl⟩
 ·replace hq:call cx 13 [.optr 0 2 0,.int .i64 3] [some (seqD n1 z1 k2)] = some (.vsl true [] 0,[some (seqD n1 z1 k')]):=hq
  replace hp:call cx 29 [.vsl true [] 0,.vsl M.isEmpty (encs M) M.length] [] = some (.vsl false (ofBytes b) b.length,[]):=hp
  simp [Tryz.f7,f0,fl,hm8',hx9',hz',hk',hq2,hq,sf,hp,wmx,wb,hs,c2,c3,htk0,hb4,hbn]
  refine Run.loopThen (fun (i:Nat) e H'=>i≤3∧look e 0 = some (.vsl l.nil (encs l.l) l.l.length)∧look e 1 = some (.vsl m.nil (encs m.l) m.l.length)∧look e 3 = some (.vsl n1 (intsK .i64 z1) z1.length)∧look e 13 = some (.bool true)∧look e 15 = some (.vsl M.isEmpty (encs M) M.length)∧look e 17 = some (.vsl false (rowsS [x,.of r2,.of r3]) 3)∧look e 18 = some (.int .i64 (i:Nat))) (fun i=>3 - i) 0 ⟨Nat.zero_le _,by simp,by simp,by simp,by simp,by simp,by simp [rowsS],by simp⟩ ?_
  have hRn:([x,.of r2,.of r3]:List (Sl UInt8)).length = 3:=rfl
  revert hR hRn
  generalize ([x,.of r2,.of r3]:List (Sl UInt8)) = R
  intro hR hRn
  rintro i e H' ⟨hi,k0,k1,k3,k13,k15,k17,k18⟩
  have hRl:(rowsS R).length = 3:=by rw [rowsS_len,hRn]
  by_cases hlt:i < 3
  ·have hiR:i < R.length:=by omega
   have hlt':(i:Int) < 3:=by omega
   have hw:IntKind.i64.wrap ((i:Int)+1) = ((i+1:Nat):Int):=by rw [wrap_i64] <;> omega
   obtain ⟨da,db,ec,g1,g2,g3,g4⟩:=row_two R[i] (hR _ (List.getElem_mem hiR))
   have hat:=rowsS_at hiR
   generalize R[i] = r at *
   cases H'
   all_goals
    simp [k0,k1,k3,k13,k15,k17,k18,hlt',hat,g1,g2,g3,g4,hw]
    exact ⟨i+1,by omega,by omega,by omega⟩
  ·have hlt':¬ (i:Int) < 3:=by omega
   rcases hsh' with ⟨rfl,rfl⟩ | ⟨hne',nn,mm',hnn,hmm',rfl⟩
   ·replace hq':call cx 13 [.optr 0 2 0,.int .i64 3] [some [.vsl n1 (intsK .i64 z1) z1.length,.int .i64 0]] = some (.vsl true [] 0,[some (seqD n1 z1 k'')]):=hq'
    replace gA:call cx 25 [.vsl true [] 0,.vsl M.isEmpty (encs M) M.length] [] = some ((.vsl s1.nil (ofBytes s1.l) s1.l.length),[]):=gA
    replace gB:call cx 29 [.vsl true [] 0,.vsl M.isEmpty (encs M) M.length] [] = some ((.vsl s1.nil (ofBytes s1.l) s1.l.length),[]):=gB
    cases H'
    all_goals
     simp [k0,k1,k3,k13,k15,k17,k18,hlt',pA,pB,pS,hq',gA,gB,gS,sf]
   ·replace hq':call cx 13 [.optr 0 2 0,.int .i64 3] [some [.vsl n1 (intsK .i64 z1) z1.length,.int .i64 0]] = some (.osl 1 nn 0 mm' 39,[some (seqD n1 z1 k''),some (encs L')]):=hq'
    have hkn':mm' * 39 = nn:=by omega
    have hlk':L'.length = mm':=hmm'.symm
    have htk':List.take nn (encs L') = encs L':=List.take_of_length_le (by simp;omega)
    have e1':(Sl.grown L').nil = false:=by simp [Sl.grown,hne']
    rw [e1',hlk'] at gA gB
    cases H'
    all_goals
     simp [k0,k1,k3,k13,k15,k17,k18,hlt',pA,pB,pS,hq',gA,gB,gS,sf,hkn',hlk',htk']
 ·replace hq:call cx 13 [.optr 0 2 0,.int .i64 3] [some (seqD n1 z1 k2)] = some (.osl 1 n 0 mm 39,[some (seqD n1 z1 k'),some (encs L)]):=hq
  have hkn:mm * 39 = n:=by omega
  have hlk:L.length = mm:=hmm.symm
  have htk:List.take n (encs L) = encs L:=List.take_of_length_le (by simp;omega)
  have e1:(Sl.grown L).nil = false:=by simp [Sl.grown,hne]
  rw [e1,hlk] at hp
  simp [Tryz.f7,f0,fl,hm8',hx9',hz',hk',hq2,hq,sf,hp,wmx,wb,hs,c2,c3,htk0,hb4,hbn,hkn,hlk,htk]
  refine Run.loopThen (fun (i:Nat) e H'=>i≤3∧look e 0 = some (.vsl l.nil (encs l.l) l.l.length)∧look e 1 = some (.vsl m.nil (encs m.l) m.l.length)∧look e 3 = some (.vsl n1 (intsK .i64 z1) z1.length)∧look e 13 = some (.bool true)∧look e 15 = some (.vsl M.isEmpty (encs M) M.length)∧look e 17 = some (.vsl false (rowsS [x,.of r2,.of r3]) 3)∧look e 18 = some (.int .i64 (i:Nat))) (fun i=>3 - i) 0 ⟨Nat.zero_le _,by simp,by simp,by simp,by simp,by simp,by simp [rowsS],by simp⟩ ?_
  have hRn:([x,.of r2,.of r3]:List (Sl UInt8)).length = 3:=rfl
  revert hR hRn
  generalize ([x,.of r2,.of r3]:List (Sl UInt8)) = R
  intro hR hRn
  rintro i e H' ⟨hi,k0,k1,k3,k13,k15,k17,k18⟩
  have hRl:(rowsS R).length = 3:=by rw [rowsS_len,hRn]
  by_cases hlt:i < 3
  ·have hiR:i < R.length:=by omega
   have hlt':(i:Int) < 3:=by omega
   have hw:IntKind.i64.wrap ((i:Int)+1) = ((i+1:Nat):Int):=by rw [wrap_i64] <;> omega
   obtain ⟨da,db,ec,g1,g2,g3,g4⟩:=row_two R[i] (hR _ (List.getElem_mem hiR))
   have hat:=rowsS_at hiR
   generalize R[i] = r at *
   cases H'
   all_goals
    simp [k0,k1,k3,k13,k15,k17,k18,hlt',hat,g1,g2,g3,g4,hw]
    exact ⟨i+1,by omega,by omega,by omega⟩
  ·have hlt':¬ (i:Int) < 3:=by omega
   rcases hsh' with ⟨rfl,rfl⟩ | ⟨hne',nn,mm',hnn,hmm',rfl⟩
   ·replace hq':call cx 13 [.optr 0 2 0,.int .i64 3] [some [.vsl n1 (intsK .i64 z1) z1.length,.int .i64 0]] = some (.vsl true [] 0,[some (seqD n1 z1 k'')]):=hq'
    replace gA:call cx 25 [.vsl true [] 0,.vsl M.isEmpty (encs M) M.length] [] = some ((.vsl s1.nil (ofBytes s1.l) s1.l.length),[]):=gA
    replace gB:call cx 29 [.vsl true [] 0,.vsl M.isEmpty (encs M) M.length] [] = some ((.vsl s1.nil (ofBytes s1.l) s1.l.length),[]):=gB
    cases H'
    all_goals
     simp [k0,k1,k3,k13,k15,k17,k18,hlt',pA,pB,pS,hq',gA,gB,gS,sf]
   ·replace hq':call cx 13 [.optr 0 2 0,.int .i64 3] [some [.vsl n1 (intsK .i64 z1) z1.length,.int .i64 0]] = some (.osl 1 nn 0 mm' 39,[some (seqD n1 z1 k''),some (encs L')]):=hq'
    have hkn':mm' * 39 = nn:=by omega
    have hlk':L'.length = mm':=hmm'.symm
    have htk':List.take nn (encs L') = encs L':=List.take_of_length_le (by simp;omega)
    have e1':(Sl.grown L').nil = false:=by simp [Sl.grown,hne']
    rw [e1',hlk'] at gA gB
    cases H'
    all_goals
     simp [k0,k1,k3,k13,k15,k17,k18,hlt',pA,pB,pS,hq',gA,gB,gS,sf,hkn',hlk',htk']
end Go.Ev.S
namespace Go.Ev.S
open Go Go.Proofs Go.Ev
theorem has_IDm {n:Nat} {cs:List D} (h:HasT Tryz.prog (n+2) 23 cs):∃ i:ID,cs = ofBytes i.l:=has_id un23 un5 h
theorem has_Mk {n:Nat} {cs:List D} (h:HasT Tryz.prog (n+2+1) 52 cs):∃ m:Mk,cs = Enc.cells m∧m.Ok:=by
 have h:=has_struct (P:=Tryz.prog) (n:=n+2) (t:=52) Tryz.underlying52 h
 simp only [HasFs] at h
 obtain ⟨a,b,rfl,-,ha,c,d,rfl,-,hc,e,f,rfl,-,he,g,k,rfl,-,hg,rfl⟩:=h
 obtain ⟨id,rfl⟩:=has_IDm ha
 obtain ⟨x1,rfl,w1⟩:=has_u64 un24 hc
 obtain ⟨x2,rfl,w2⟩:=has_u64 un24 he
 obtain ⟨x3,rfl,w3⟩:=has_u64 un24 hg
 exact ⟨⟨id,x1,x2,x3⟩,by simp [Mk.cells],⟨w1,w2,w3⟩⟩
theorem has_Pr {n:Nat} {cs:List D} (h:HasT Tryz.prog (n+1+1) 70 cs):∃ p:Pr,cs = Enc.cells p∧(p.name.length≤maxLen∧p.value.length≤maxLen):=by
 have h:=has_struct (P:=Tryz.prog) (n:=n+1) (t:=70) Tryz.underlying70 h
 simp only [HasFs] at h
 obtain ⟨a,b,rfl,-,ha,c,d,rfl,-,hc,rfl⟩:=h
 obtain ⟨x1,rfl,w1⟩:=has_str un9 ha
 obtain ⟨x2,rfl,w2⟩:=has_str un9 hc
 exact ⟨⟨x1,x2⟩,by simp [Pr.cells],w1,w2⟩
theorem has_Rec {n:Nat} {cs:List D} (h:HasT Tryz.prog (n+3+1) 27 cs):∃ r:Rec,cs = Enc.cells r∧(r.Ok∧r.Fit):=by
 have h:=has_struct (P:=Tryz.prog) (n:=n+3) (t:=27) Tryz.underlying27 h
 simp only [HasFs] at h
 obtain ⟨a,b,rfl,-,ha,c,d,rfl,-,hc,e,f,rfl,-,he,g,k,rfl,-,hg,i,j,rfl,-,hi,rfl⟩:=h
 obtain ⟨x1,rfl,w1⟩:=has_u64 un24 ha
 obtain ⟨x2,rfl,w2⟩:=has_u64 un24 hc
 obtain ⟨x3,rfl,w3⟩:=has_u64 un24 he
 obtain ⟨id,rfl⟩:=has_IDm hg
 obtain ⟨s,rfl,s1,s2⟩:=has_slice (α:=Pr) un25 (fun l=>has_Pr) hi
 exact ⟨⟨x1,x2,x3,id,s⟩,by simp [Rec.cells],⟨w1,w2,w3⟩,s1,s2⟩
theorem has_It {n:Nat} {cs:List D} (h:HasT Tryz.prog (n+4+1) 29 cs):∃ i:It,cs = Enc.cells i∧(i.Ok∧i.rc.Fit):=by
 have h:=has_struct (P:=Tryz.prog) (n:=n+4) (t:=29) Tryz.underlying29 h
 simp only [HasFs] at h
 obtain ⟨a,b,rfl,-,ha,c,d,rfl,-,hc,e,f,rfl,-,he,g,k,rfl,-,hg,i,j,rfl,-,hi,rfl⟩:=h
 obtain ⟨id,rfl⟩:=has_IDm ha
 obtain ⟨gap,rfl⟩:=has_bool un4 hc
 obtain ⟨x1,rfl,w1⟩:=has_u64 un24 he
 obtain ⟨x2,rfl,w2⟩:=has_u64 un24 hg
 obtain ⟨r,rfl,r1,r2⟩:=has_Rec hi
 exact ⟨⟨id,gap,x1,x2,r⟩,by simp [It.cells,Rec.cells],⟨w1,w2,r1⟩,r2⟩
end Go.Ev.S
namespace Go.Ev
open Go Go.Proofs Go.ChangeShapes Go.WideShapes Go.ChangeAt Go.RowKit
theorem handed_shaped {H:Type} {enc:TypeId × Value→H} {a:Assume} {C:Checked} {os:Os} {f:FuncId} {fn:Func} {s:ChangeSpec} {conds:List PathCond} {apart fresh handsOn again:Bool} {X:World→Array Value→Prop}
  (hX:∀ (w w':World) (args:Array Value),w.heap = w'.heap→X w args→X w' args)
  (own:ownKnob C.prog.godebug = none) (started:os.Started) (noInit:C.prog.inits.idxOf? f = none) (hfn:C.prog.funcs[f]? = some fn)
  (witness:∃ (w:World) (tape:Tape) (i:Input),w.os = os∧(w.forCall tape i).Shaped C.prog∧i.vars = []∧Input.okWide C.prog (w.forCall tape i) .any w.heap.size f i ∧
   ((s.pre enc C.prog fn conds apart (w.forCall tape i).memory i.args∧X (w.forCall tape i).memory i.args)∧sizedMet enc C.prog fn (OpenSpec.ofChange s) apart (w.forCall tape i).memory i.args)∧a.holds C.prog (lone (Frame.enter C.prog f i.args .normal) [] (w.forCall tape i)))
  (contract:∀ (W:World) (base:Nat) (args:Array Value) (ds gs:List (DataW H)) (before:List MemPlace),
   (∀ (j:Nat) t v,fn.params[j]? = some t→args[j]? = some v→Value.okWide C.prog W .any base t v) →
   DataW.Whole enc C.prog fn.params.toList s.vars apart W args.toList ds gs before→X W args→W.ShapedOpen C.prog →
   Calls C.prog f args W fun e W'=>∃ v,e = .returned v∧s.post enc C.prog fn apart fresh handsOn again W args v W') :
  ReturnsInHanded a C os f .any (fun w args=>(s.pre enc C.prog fn conds apart w args∧X w args)∧sizedMet enc C.prog fn (OpenSpec.ofChange s) apart w args) (s.post enc C.prog fn apart fresh handsOn again):=by
 refine returnsInHanded_of_calls own started noInit witness ?_
 intro w tape i _ hsh _ hok hpre _
 obtain ⟨_,_,_,fn',hfn',_,_,_,_,hval⟩:=hok
 have e:fn' = fn:=Option.some.inj (hfn'.symm.trans hfn)
 subst e
 obtain ⟨⟨⟨ds,gs,before,hw,hc⟩,hx⟩,hz⟩:=hpre
 have hw':=DataW.Whole.of_heap (w':=w.forCall tape i) (by rfl) hw
 refine (contract (w.forCall tape i) w.heap.size i.args ds gs before hval hw' (hX _ _ _ (by rfl) hx) hsh).mono fun e W' ⟨v,he,hp⟩=>?_
 subst he
 exact ChangeSpec.post_blind hp
end Go.Ev
