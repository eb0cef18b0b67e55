import Derived.Test.YtdmkldmbjclifaaGreatDoorC6
import Derived.Handed
import Derived.LaidMore
namespace Go.Ev.S
open Go Go.Proofs Go.Ev
def szT (x:It):Nat:=(textL x).length
def nrmF (x:It):It:={ x with rc:={ x.rc with fields:=Sl.grown x.rc.fields.l } }
def bOut (p:BatS × Int):D:=.tup [.agg [.vsl p.1.items.isEmpty (encs (p.1.items.map nrmF)) p.1.items.length,.vsl p.1.fin.isEmpty (encs p.1.fin) p.1.fin.length,.int .i64 p.1.used,.int .i64 p.1.bytes],.int .i64 p.2]
def bldP (l:List It) (m:Mat) (lim:Lim) (d:List Mk):BatS × Int:=if mayB l m lim d then bldGo takeC takeL (matHolds m.rows.l) szT lim l ⟨[],d,0,0⟩ else (BatS.none,1)
def BldH (s:BatS) (H:Heap):Prop :=
 (s.items = []∧H = [some [.vsl true [] 0,.vsl true [] 0,.int .i64 0,.int .i64 0],some [.vsl true [] 0,.vsl s.fin.isEmpty (encs s.fin) s.fin.length,.int .i64 s.used,.int .i64 s.bytes]]) ∨
 (s.items≠[]∧∃ n q,n = s.items.length * 39∧q = s.items.length∧H = [some [.vsl true [] 0,.vsl true [] 0,.int .i64 0,.int .i64 0],some [.osl 2 n 0 q 39,.vsl s.fin.isEmpty (encs s.fin) s.fin.length,.int .i64 s.used,.int .i64 s.bytes],some (encs s.items)])
def BldX (s:BatS) (H:Heap):Prop :=
 (s.items = []∧∃ T,H = some [.vsl true [] 0,.vsl true [] 0,.int .i64 0,.int .i64 0] :: some [.vsl true [] 0,.vsl s.fin.isEmpty (encs s.fin) s.fin.length,.int .i64 s.used,.int .i64 s.bytes] :: T) ∨
 (s.items≠[]∧∃ n q T,n = s.items.length * 39∧q = s.items.length∧H = some [.vsl true [] 0,.vsl true [] 0,.int .i64 0,.int .i64 0] :: some [.osl 2 n 0 q 39,.vsl s.fin.isEmpty (encs s.fin) s.fin.length,.int .i64 s.used,.int .i64 s.bytes] :: some (encs s.items) :: T)
def BldJ (R:BatS × Int):Ex→Env→Heap→Prop
 | .normal,_,_=>False
 | .exit i,e,H=>i = 0∧∃ (s:BatS),R = (s,0)∧look e 8 = some (.optr 0 4 0)∧look e 10 = some (.optr 1 4 0)∧BldX s H
 | .ret,e,H=>∃ T,R.1 = BatS.none∧look e 8 = some (.optr 0 4 0)∧look e 9 = some (.int .i64 R.2)∧H = some [.vsl true [] 0,.vsl true [] 0,.int .i64 0,.int .i64 0] :: T
theorem bldJ_exit {R:BatS × Int} {e:Env} {H:Heap} {s:BatS} (h1:R = (s,0)) (h2:look e 8 = some (.optr 0 4 0)) (h3:look e 10 = some (.optr 1 4 0)) (h4:BldX s H):BldJ R (.exit 0) e H:=⟨rfl,s,h1,h2,h3,h4⟩
theorem bldJ_ret {R:BatS × Int} {e:Env} {T:Heap} (h1:R.1 = BatS.none) (h2:look e 8 = some (.optr 0 4 0)) (h3:look e 9 = some (.int .i64 R.2)):BldJ R .ret e (some [.vsl true [] 0,.vsl true [] 0,.int .i64 0,.int .i64 0] :: T):=⟨T,h1,h2,h3,rfl⟩
noncomputable def LBld:Code:=cAt [1,1,1,0,1,0,0] (stripC (bodyOf Tryz.f14))
theorem It.d38 (x:It):List.drop 38 (Enc.cells x) = [(.vsl x.rc.fields.nil (encs x.rc.fields.l) x.rc.fields.l.length)]:=by
 simp [It.cells,List.drop_append,drop_bytes]
theorem sz_le {x:It} (hi:x.Ok) (ho:itOk x = true):szT x≤10000:=(textL_len hi ho).1
section
variable (hd:List Pr→Bool) (lim:Lim)
theorem bld_stop {R:BatS × Int} {x:It} {l:List It} {s:BatS} (h:bldGo takeC takeL hd szT lim (x :: l) s = R) (hs:stopB hd szT lim s x = true):R = (s,0):=by
 rw [← h,bldGo,if_pos hs]
theorem bld_code0 {R:BatS × Int} {x:It} {l:List It} {s:BatS} (h:bldGo takeC takeL hd szT lim (x :: l) s = R) (hs:stopB hd szT lim s x = false) (hc:takeC s.fin x≠0) (hu:s.used = 0):R = (BatS.none,takeC s.fin x):=by
 rw [← h,bldGo,if_neg (by rw [hs];decide),if_pos hc,if_pos hu]
theorem bld_code1 {R:BatS × Int} {x:It} {l:List It} {s:BatS} (h:bldGo takeC takeL hd szT lim (x :: l) s = R) (hs:stopB hd szT lim s x = false) (hc:takeC s.fin x≠0) (hu:¬ s.used = 0):R = (s,0):=by
 rw [← h,bldGo,if_neg (by rw [hs];decide),if_pos hc,if_neg hu]
theorem bld_next {R:BatS × Int} {x:It} {l:List It} {s:BatS} (h:bldGo takeC takeL hd szT lim (x :: l) s = R) (hs:stopB hd szT lim s x = false) (hc:takeC s.fin x = 0):bldGo takeC takeL hd szT lim l (stepB takeL hd szT lim s x) = R:=by
 rw [← h,bldGo,if_neg (by rw [hs];decide),if_neg (by simpa using hc)]
end
section
variable (hd:List Pr→Bool) (lim:Lim)
theorem stp_used (tl:List Mk→It→Bool→List Mk) (s:BatS) (x:It):(stepB tl hd szT lim s x).used = s.used+1:=rfl
theorem stp_fin (tl:List Mk→It→Bool→List Mk) {s:BatS} {x:It} {o:Bool} (h:overB hd szT lim x = o):(stepB tl hd szT lim s x).fin = tl s.fin x o:=by subst h;rfl
theorem stp_goes (tl:List Mk→It→Bool→List Mk) {s:BatS} {x:It} (h:goesB hd szT lim x = true):(stepB tl hd szT lim s x).items = s.items ++ [x]∧(stepB tl hd szT lim s x).bytes = s.bytes+szT x:=by unfold stepB;simp [h]
theorem stp_not (tl:List Mk→It→Bool→List Mk) {s:BatS} {x:It} (h:goesB hd szT lim x = false):(stepB tl hd szT lim s x).items = s.items∧(stepB tl hd szT lim s x).bytes = s.bytes:=by unfold stepB;simp [h]
end
theorem takeL_len {f:List Mk} {x:It} {o:Bool}:(takeL f x o).length≤f.length+1:=putM_len _ _
theorem takeL_ne {f:List Mk} {x:It} {o:Bool}:(takeL f x o).isEmpty = false:=by
 have h:takeL f x o≠[]:=by
  unfold takeL putM
  split
  ·intro h
   have:=congrArg List.length h
   rw [insFrom_len] at this
   simp at this
  ·rename_i h1
   intro h
   have h2:=congrArg List.length h
   rw [List.length_set] at h2
   have h3:f = []:=List.eq_nil_of_length_eq_zero h2
   subst h3
   exact absurd (by simp [find?]) h1
 cases hl:takeL f x o with
 | nil=>exact absurd hl h
 | cons=>rfl

set_option maxRecDepth 4000 in
set_option maxHeartbeats 16000000 in
theorem bld_loop (l:Sl It) (hl:l.l.length < 1000000) (M:Sl Row) (hm:MatB M.l) (lim:Lim) (hcount:1≤lim.count) (hx:∀ x∈l.l,x.Ok) (hall:∀ x∈l.l,itOk x = true) (R:BatS × Int) (f0:List Mk) (hf4:f0.length≤4) (hR:bldGo takeC takeL (matHolds M.l) szT lim l.l ⟨[],f0,0,0⟩ = R) (e:Env) (H:Heap)
  (k5:look e 5 = some (.vptr [(.vsl M.nil (encs M.l) M.l.length)])) (k6:look e 6 = some (.vptr [.int .i64 lim.count,.int .i64 lim.bytes,.int .i64 lim.hard])) (k8:look e 8 = some (.optr 0 4 0)) (k10:look e 10 = some (.optr 1 4 0)) (k31:look e 31 = some (.vsl l.nil (encs l.l) l.l.length)) (k32:look e 32 = some (.int .i64 l.l.length)) (k33:look e 33 = some (.int .i64 0)) (hH:BldH ⟨[],f0,0,0⟩ H) :
  Run cx 14 149 0 (BldJ R) [] (code cx 14 149 0 (.loop LBld) e H):=by
 refine Run.loop (fun (q:Nat × BatS) e H=>q.1≤l.l.length∧q.2.used = q.1∧bldGo takeC takeL (matHolds M.l) szT lim (l.l.drop q.1) q.2 = R∧q.2.items.length≤q.1∧q.2.bytes≤q.1 * 10000∧q.2.fin.length≤4+q.1∧look e 5 = some (.vptr [(.vsl M.nil (encs M.l) M.l.length)])∧look e 6 = some (.vptr [.int .i64 lim.count,.int .i64 lim.bytes,.int .i64 lim.hard])∧look e 8 = some (.optr 0 4 0)∧look e 10 = some (.optr 1 4 0)∧look e 31 = some (.vsl l.nil (encs l.l) l.l.length)∧look e 32 = some (.int .i64 l.l.length)∧look e 33 = some (.int .i64 (q.1:Nat))∧BldH q.2 H) (fun q=>l.l.length - q.1) ?_ (0,⟨[],f0,0,0⟩) e H ⟨Nat.zero_le _,rfl,by rw [List.drop_zero];exact hR,Nat.zero_le _,Nat.zero_le _,by show f0.length≤4+0;omega,k5,k6,k8,k10,k31,k32,k33,hH⟩
 clear k5 k6 k8 k10 k31 k32 k33 hH hR hf4
 rintro ⟨k,s⟩ e H ⟨hk,hu,hRk,hsl,hsb,hsf,k5,k6,k8,k10,k31,k32,k33,hH⟩
 simp only at hk hu hRk hsl hsb hsf k33 hH
 by_cases hlt:k < l.l.length
 case neg =>
  have hlt':¬ (k:Int) < (l.l.length:Int):=by omega
  rw [List.drop_eq_nil_of_le (by omega)] at hRk
  replace hRk:(s,(0:Int)) = R:=hRk
  simp only [LBld,cAt,bodyOf,Tryz.f14,Option.getD,stripC,stripL,stripOp]
  rcases hH with ⟨h1,rfl⟩ | ⟨h1,n,q,hn,hq,rfl⟩
  ·simp [k5,k6,k8,k10,k31,k32,k33,hlt']
   exact bldJ_exit hRk.symm (by simp) (by simp) (.inl ⟨h1,_,rfl⟩)
  ·simp [k5,k6,k8,k10,k31,k32,k33,hlt']
   exact bldJ_exit hRk.symm (by simp) (by simp) (.inr ⟨h1,n,q,_,hn,hq,rfl⟩)
 have hlt':(k:Int) < (l.l.length:Int):=by omega
 have hw:IntKind.i64.wrap ((k:Int)+1) = ((k+1:Nat):Int):=by rw [wrap_i64] <;> omega
 have hxo:=hx _ (List.getElem_mem hlt)
 have hok:=hall _ (List.getElem_mem hlt)
 obtain ⟨hb1,hb2⟩:=made_b hxo hok
 have ft:=text_ev l.l[k] hxo hb2 hb1
 have hsz:=sz_le hxo hok
 have hh:=mholds_ev ⟨M⟩ hm l.l[k].rc.fields (by omega)
 simp only at hh
 have hea:List.drop (k * 39) (encs l.l) = Enc.cells l.l[k] ++ encs (l.l.drop (k+1)):=It.ea hlt
 have hnn:=Sl.nn hlt
 rw [List.drop_eq_getElem_cons hlt] at hRk
 generalize l.l[k] = x at *
 unfold textD at ft
 rw [if_pos hok] at ft
 obtain ⟨z,hz⟩:∃ z,szT x = z:=⟨_,rfl⟩
 replace ft:call cx 34 [.agg (Enc.cells x)] [] = some (.vsl false (ofBytes (textL x)) z,[]):=by rw [← hz];exact ft
 rw [hz] at hsz
 have htk:∀ o,call cx 36 [.vsl s.fin.isEmpty (encs s.fin) s.fin.length,.agg (Enc.cells x),.bool o] [] = some (.tup [resM (takeC s.fin x) (takeL s.fin x o),.int .i64 (takeC s.fin x)],[]):=fun o=>ktake_ev (Sl.grown s.fin) (by rw [Sl.grown_l];omega) x o
 have htkf:=htk false
 have htkt:=htk true
 clear htk
 have hkind:(x.gap = true∧goesB (matHolds M.l) szT lim x = true∧overB (matHolds M.l) szT lim x = false)∨(x.gap = false∧matHolds M.l x.rc.fields.l = true∧¬ lim.hard < (z:Int)∧goesB (matHolds M.l) szT lim x = true∧overB (matHolds M.l) szT lim x = false) ∨
   (x.gap = false∧matHolds M.l x.rc.fields.l = false∧goesB (matHolds M.l) szT lim x = false∧overB (matHolds M.l) szT lim x = false)∨(x.gap = false∧matHolds M.l x.rc.fields.l = true∧lim.hard < (z:Int)∧goesB (matHolds M.l) szT lim x = false∧overB (matHolds M.l) szT lim x = true):=by
  unfold goesB overB askedB
  rw [hz]
  cases hg:x.gap with
  | true=>exact .inl ⟨rfl,rfl,rfl⟩
  | false =>
   cases hq:matHolds M.l x.rc.fields.l with
   | false=>exact .inr (.inr (.inl ⟨rfl,rfl,rfl,rfl⟩))
   | true =>
    by_cases ho:lim.hard < (z:Int)
    ·exact .inr (.inr (.inr ⟨rfl,rfl,ho,by simp [ho],by simp [ho]⟩))
    ·exact .inr (.inl ⟨rfl,rfl,ho,by simp [ho],by simp [ho]⟩)
 have hwb:IntKind.i64.wrap ((s.bytes:Int)+(z:Int)) = ((s.bytes+z:Nat):Int):=by rw [wrap_i64] <;> omega
 have hwu:IntKind.i64.wrap ((s.used:Int)+1) = ((s.used+1:Nat):Int):=by rw [wrap_i64] <;> omega
 have hstopG:goesB (matHolds M.l) szT lim x = true→stopB (matHolds M.l) szT lim s x = (decide ((s.items.length:Int) = lim.count) || (decide (0 < s.items.length) && decide (lim.bytes < (s.bytes:Int)+(z:Int)))):=by
  intro hg
  unfold stopB
  rw [hg,Bool.true_and,hz]
 have hstopN:goesB (matHolds M.l) szT lim x = false→stopB (matHolds M.l) szT lim s x = false:=by
  intro hg
  unfold stopB
  rw [hg,Bool.false_and]
 have hcz:¬ (0:Int) = lim.count:=by omega
 simp only [LBld,cAt,bodyOf,Tryz.f14,Option.getD,stripC,stripL,stripOp]

 rcases hkind with ⟨hg,hgo,hovb⟩ | ⟨hg,hho,hov,hgo,hovb⟩ | ⟨hg,hho,hgo,hovb⟩ | ⟨hg,hho,hov,hgo,hovb⟩
 ·rcases hH with ⟨h1,rfl⟩ | ⟨h1,n,q,hn,hq,rfl⟩
  ·have hlen:s.items.length = 0:=by rw [h1];rfl
   have hst:stopB (matHolds M.l) szT lim s x = false:=by rw [hstopG hgo,hlen];simp [hcz]
   by_cases hc:takeC s.fin x = 0
   case neg =>
    by_cases hk0:k = 0
    ·have hR2:=bld_code0 _ _ hRk hst hc (by omega)
     subst hk0
     simp [-It.ea,k5,k6,k8,k10,k31,k32,k33,hlt,hnn,hea,ft,htkf,resM,hg,hcz,hc]
     exact bldJ_ret (by rw [hR2]) (by simp) (by rw [hR2];simp)
    ·have hR2:=bld_code1 _ _ hRk hst hc (by omega)
     have hk0':¬ (k:Int) = 0:=by omega
     simp [-It.ea,k5,k6,k8,k10,k31,k32,k33,hlt',hnn,hea,ft,htkf,resM,hg,hcz,hc,hk0]
     exact bldJ_exit hR2 (by simp) (by simp) (.inl ⟨h1,_,rfl⟩)
   have hN:=bld_next _ _ hRk hst hc
   simp [-It.ea,k5,k6,k8,k10,k31,k32,k33,hlt',hnn,hea,ft,htkf,resM,hg,hcz,hc,hw,hwb,hwu,maxBytes]
   have e1:=stp_fin (matHolds M.l) lim takeL (s:=s) hovb
   have e2:=takeL_len (f:=s.fin) (x:=x) (o:=false)
   have e3:=takeL_ne (f:=s.fin) (x:=x) (o:=false)
   obtain ⟨e4,e5⟩:=stp_goes (matHolds M.l) lim takeL (s:=s) hgo
   rw [hz] at e5
   have e6:=stp_used (matHolds M.l) lim takeL s x
   generalize stepB takeL (matHolds M.l) szT lim s x = s2 at *
   exact ⟨k+1,by omega,by omega,s2,by omega,hN,by rw [e4];simp;omega,by omega,by rw [e1];omega,by omega,.inr ⟨by rw [e4];simp,39,1,by rw [e4,h1];rfl,by rw [e4,h1];rfl,by rw [e1,e3,e4,e5,e6,h1,List.nil_append,encs_one];simp⟩⟩
  ·have hlen:0 < s.items.length:=by
    rcases Nat.eq_zero_or_pos s.items.length with h | h
    ·exact absurd (List.eq_nil_of_length_eq_zero h) h1
    ·exact h
   have hq0:0 < q:=by omega
   have hk0:¬ k = 0:=by omega
   have hk0':¬ (k:Int) = 0:=by omega
   have hkn:q * 39 = n:=by omega
   have hlk:s.items.length = q:=hq.symm
   have htk2:List.take n (encs s.items) = encs s.items:=List.take_of_length_le (by simp;omega)
   have hm1:(q+1) * 104≤140737488355328:=by omega
   have hm2:q+1≤140737488355328:=by omega
   by_cases hcnt:(q:Int) = lim.count
   ·have hcb:((q:Int) == lim.count) = true:=by simp [hcnt]
    have hR2:=bld_stop _ _ hRk (by rw [hstopG hgo,hlk,decide_eq_true hcnt,Bool.true_or])
    simp [-It.ea,k5,k6,k8,k10,k31,k32,k33,hlt',hnn,hea,ft,hg,hcb]
    exact bldJ_exit hR2 (by simp) (by simp) (.inr ⟨h1,n,q,_,hn,hq,rfl⟩)
   have hcb:((q:Int) == lim.count) = false:=by simp [hcnt]
   by_cases hby:lim.bytes < (s.bytes:Int)+(z:Int)
   ·have hR2:=bld_stop _ _ hRk (by rw [hstopG hgo,hlk,decide_eq_true hq0,decide_eq_true (p:=lim.bytes < _) (by omega),Bool.and_self,Bool.or_true])
    simp [-It.ea,k5,k6,k8,k10,k31,k32,k33,hlt',hnn,hea,ft,hg,hq0,hcb,hby,hwb]
    exact bldJ_exit hR2 (by simp) (by simp) (.inr ⟨h1,n,q,_,hn,hq,rfl⟩)
   have hst:stopB (matHolds M.l) szT lim s x = false:=by
    rw [hstopG hgo,hlk,decide_eq_false hcnt,Bool.false_or,decide_eq_false (p:=lim.bytes < _) (by omega),Bool.and_false]
   by_cases hc:takeC s.fin x = 0
   case neg =>
    have hR2:=bld_code1 _ _ hRk hst hc (by omega)
    simp [-It.ea,k5,k6,k8,k10,k31,k32,k33,hlt',hnn,hea,ft,htkf,resM,hg,hq0,hcb,hby,hwb,hc,hk0]
    exact bldJ_exit hR2 (by simp) (by simp) (.inr ⟨h1,n,q,_,hn,hq,rfl⟩)
   have hN:=bld_next _ _ hRk hst hc
   simp [-It.ea,k5,k6,k8,k10,k31,k32,k33,hlt',hnn,hea,ft,htkf,resM,hg,hq0,hcb,hby,hwb,hc,hw,hwu,hkn,hlk,hm1,hm2,maxBytes]
   have e1:=stp_fin (matHolds M.l) lim takeL (s:=s) hovb
   have e2:=takeL_len (f:=s.fin) (x:=x) (o:=false)
   have e3:=takeL_ne (f:=s.fin) (x:=x) (o:=false)
   obtain ⟨e4,e5⟩:=stp_goes (matHolds M.l) lim takeL (s:=s) hgo
   rw [hz] at e5
   have e6:=stp_used (matHolds M.l) lim takeL s x
   generalize stepB takeL (matHolds M.l) szT lim s x = s2 at *
   exact ⟨k+1,by omega,by omega,s2,by omega,hN,by rw [e4];simp;omega,by omega,by rw [e1];omega,by omega,.inr ⟨by rw [e4];simp,n+39,q+1,by rw [e4];simp;omega,by rw [e4];simp;omega,by rw [e1,e3,e4,e5,e6,encs_snoc];simp⟩⟩
 ·rw [hho] at hh
  rcases hH with ⟨h1,rfl⟩ | ⟨h1,n,q,hn,hq,rfl⟩
  ·have hlen:s.items.length = 0:=by rw [h1];rfl
   have hst:stopB (matHolds M.l) szT lim s x = false:=by rw [hstopG hgo,hlen];simp [hcz]
   by_cases hc:takeC s.fin x = 0
   case neg =>
    by_cases hk0:k = 0
    ·have hR2:=bld_code0 _ _ hRk hst hc (by omega)
     subst hk0
     simp [-It.ea,k5,k6,k8,k10,k31,k32,k33,hlt,hnn,hea,ft,hh,htkf,resM,hg,hov,hcz,hc]
     exact bldJ_ret (by rw [hR2]) (by simp) (by rw [hR2];simp)
    ·have hR2:=bld_code1 _ _ hRk hst hc (by omega)
     have hk0':¬ (k:Int) = 0:=by omega
     simp [-It.ea,k5,k6,k8,k10,k31,k32,k33,hlt',hnn,hea,ft,hh,htkf,resM,hg,hov,hcz,hc,hk0]
     exact bldJ_exit hR2 (by simp) (by simp) (.inl ⟨h1,_,rfl⟩)
   have hN:=bld_next _ _ hRk hst hc
   simp [-It.ea,k5,k6,k8,k10,k31,k32,k33,hlt',hnn,hea,ft,hh,htkf,resM,hg,hov,hcz,hc,hw,hwb,hwu,maxBytes]
   have e1:=stp_fin (matHolds M.l) lim takeL (s:=s) hovb
   have e2:=takeL_len (f:=s.fin) (x:=x) (o:=false)
   have e3:=takeL_ne (f:=s.fin) (x:=x) (o:=false)
   obtain ⟨e4,e5⟩:=stp_goes (matHolds M.l) lim takeL (s:=s) hgo
   rw [hz] at e5
   have e6:=stp_used (matHolds M.l) lim takeL s x
   generalize stepB takeL (matHolds M.l) szT lim s x = s2 at *
   exact ⟨k+1,by omega,by omega,s2,by omega,hN,by rw [e4];simp;omega,by omega,by rw [e1];omega,by omega,.inr ⟨by rw [e4];simp,39,1,by rw [e4,h1];rfl,by rw [e4,h1];rfl,by rw [e1,e3,e4,e5,e6,h1,List.nil_append,encs_one];simp⟩⟩
  ·have hlen:0 < s.items.length:=by
    rcases Nat.eq_zero_or_pos s.items.length with h | h
    ·exact absurd (List.eq_nil_of_length_eq_zero h) h1
    ·exact h
   have hq0:0 < q:=by omega
   have hk0:¬ k = 0:=by omega
   have hk0':¬ (k:Int) = 0:=by omega
   have hkn:q * 39 = n:=by omega
   have hlk:s.items.length = q:=hq.symm
   have htk2:List.take n (encs s.items) = encs s.items:=List.take_of_length_le (by simp;omega)
   have hm1:(q+1) * 104≤140737488355328:=by omega
   have hm2:q+1≤140737488355328:=by omega
   by_cases hcnt:(q:Int) = lim.count
   ·have hcb:((q:Int) == lim.count) = true:=by simp [hcnt]
    have hR2:=bld_stop _ _ hRk (by rw [hstopG hgo,hlk,decide_eq_true hcnt,Bool.true_or])
    simp [-It.ea,k5,k6,k8,k10,k31,k32,k33,hlt',hnn,hea,ft,hh,hg,hov,hcb]
    exact bldJ_exit hR2 (by simp) (by simp) (.inr ⟨h1,n,q,_,hn,hq,rfl⟩)
   have hcb:((q:Int) == lim.count) = false:=by simp [hcnt]
   by_cases hby:lim.bytes < (s.bytes:Int)+(z:Int)
   ·have hR2:=bld_stop _ _ hRk (by rw [hstopG hgo,hlk,decide_eq_true hq0,decide_eq_true (p:=lim.bytes < _) (by omega),Bool.and_self,Bool.or_true])
    simp [-It.ea,k5,k6,k8,k10,k31,k32,k33,hlt',hnn,hea,ft,hh,hg,hov,hq0,hcb,hby,hwb]
    exact bldJ_exit hR2 (by simp) (by simp) (.inr ⟨h1,n,q,_,hn,hq,rfl⟩)
   have hst:stopB (matHolds M.l) szT lim s x = false:=by
    rw [hstopG hgo,hlk,decide_eq_false hcnt,Bool.false_or,decide_eq_false (p:=lim.bytes < _) (by omega),Bool.and_false]
   by_cases hc:takeC s.fin x = 0
   case neg =>
    have hR2:=bld_code1 _ _ hRk hst hc (by omega)
    simp [-It.ea,k5,k6,k8,k10,k31,k32,k33,hlt',hnn,hea,ft,hh,htkf,resM,hg,hov,hq0,hcb,hby,hwb,hc,hk0]
    exact bldJ_exit hR2 (by simp) (by simp) (.inr ⟨h1,n,q,_,hn,hq,rfl⟩)
   have hN:=bld_next _ _ hRk hst hc
   simp [-It.ea,k5,k6,k8,k10,k31,k32,k33,hlt',hnn,hea,ft,hh,htkf,resM,hg,hov,hq0,hcb,hby,hwb,hc,hw,hwu,hkn,hlk,hm1,hm2,maxBytes]
   have e1:=stp_fin (matHolds M.l) lim takeL (s:=s) hovb
   have e2:=takeL_len (f:=s.fin) (x:=x) (o:=false)
   have e3:=takeL_ne (f:=s.fin) (x:=x) (o:=false)
   obtain ⟨e4,e5⟩:=stp_goes (matHolds M.l) lim takeL (s:=s) hgo
   rw [hz] at e5
   have e6:=stp_used (matHolds M.l) lim takeL s x
   generalize stepB takeL (matHolds M.l) szT lim s x = s2 at *
   exact ⟨k+1,by omega,by omega,s2,by omega,hN,by rw [e4];simp;omega,by omega,by rw [e1];omega,by omega,.inr ⟨by rw [e4];simp,n+39,q+1,by rw [e4];simp;omega,by rw [e4];simp;omega,by rw [e1,e3,e4,e5,e6,encs_snoc];simp⟩⟩
 ·rw [hho] at hh
  rcases hH with ⟨h1,rfl⟩ | ⟨h1,n,q,hn,hq,rfl⟩
  ·have hlen:s.items.length = 0:=by rw [h1];rfl
   have hst:=hstopN hgo
   by_cases hc:takeC s.fin x = 0
   case neg =>
    by_cases hk0:k = 0
    ·have hR2:=bld_code0 _ _ hRk hst hc (by omega)
     subst hk0
     simp [-It.ea,k5,k6,k8,k10,k31,k32,k33,hlt,hnn,hea,ft,hh,htkf,resM,hg,hc]
     exact bldJ_ret (by rw [hR2]) (by simp) (by rw [hR2];simp)
    ·have hR2:=bld_code1 _ _ hRk hst hc (by omega)
     have hk0':¬ (k:Int) = 0:=by omega
     simp [-It.ea,k5,k6,k8,k10,k31,k32,k33,hlt',hnn,hea,ft,hh,htkf,resM,hg,hc,hk0]
     exact bldJ_exit hR2 (by simp) (by simp) (.inl ⟨h1,_,rfl⟩)
   have hN:=bld_next _ _ hRk hst hc
   simp [-It.ea,k5,k6,k8,k10,k31,k32,k33,hlt',hnn,hea,ft,hh,htkf,resM,hg,hc,hw,hwu]
   have e1:=stp_fin (matHolds M.l) lim takeL (s:=s) hovb
   have e2:=takeL_len (f:=s.fin) (x:=x) (o:=false)
   have e3:=takeL_ne (f:=s.fin) (x:=x) (o:=false)
   obtain ⟨e4,e5⟩:=stp_not (matHolds M.l) lim takeL (s:=s) hgo
   have e6:=stp_used (matHolds M.l) lim takeL s x
   generalize stepB takeL (matHolds M.l) szT lim s x = s2 at *
   exact ⟨k+1,by omega,by omega,s2,by omega,hN,by rw [e4];omega,by omega,by rw [e1];omega,by omega,.inl ⟨by rw [e4];exact h1,by rw [e1,e3,e5,e6];simp⟩⟩
  ·have hlen:0 < s.items.length:=by
    rcases Nat.eq_zero_or_pos s.items.length with h | h
    ·exact absurd (List.eq_nil_of_length_eq_zero h) h1
    ·exact h
   have hq0:0 < q:=by omega
   have hk0:¬ k = 0:=by omega
   have hk0':¬ (k:Int) = 0:=by omega
   have hkn:q * 39 = n:=by omega
   have hlk:s.items.length = q:=hq.symm
   have htk2:List.take n (encs s.items) = encs s.items:=List.take_of_length_le (by simp;omega)
   have hm1:(q+1) * 104≤140737488355328:=by omega
   have hm2:q+1≤140737488355328:=by omega
   have hst:=hstopN hgo
   by_cases hc:takeC s.fin x = 0
   case neg =>
    have hR2:=bld_code1 _ _ hRk hst hc (by omega)
    simp [-It.ea,k5,k6,k8,k10,k31,k32,k33,hlt',hnn,hea,ft,hh,htkf,resM,hg,hc,hk0]
    exact bldJ_exit hR2 (by simp) (by simp) (.inr ⟨h1,n,q,_,hn,hq,rfl⟩)
   have hN:=bld_next _ _ hRk hst hc
   simp [-It.ea,k5,k6,k8,k10,k31,k32,k33,hlt',hnn,hea,ft,hh,htkf,resM,hg,hc,hw,hwu]
   have e1:=stp_fin (matHolds M.l) lim takeL (s:=s) hovb
   have e2:=takeL_len (f:=s.fin) (x:=x) (o:=false)
   have e3:=takeL_ne (f:=s.fin) (x:=x) (o:=false)
   obtain ⟨e4,e5⟩:=stp_not (matHolds M.l) lim takeL (s:=s) hgo
   have e6:=stp_used (matHolds M.l) lim takeL s x
   generalize stepB takeL (matHolds M.l) szT lim s x = s2 at *
   exact ⟨k+1,by omega,by omega,s2,by omega,hN,by rw [e4];omega,by omega,by rw [e1];omega,by omega,.inr ⟨by rw [e4];exact h1,n,q,by rw [e4];exact hn,by rw [e4];exact hq,by rw [e1,e3,e4,e5,e6];simp⟩⟩
 ·rw [hho] at hh
  rcases hH with ⟨h1,rfl⟩ | ⟨h1,n,q,hn,hq,rfl⟩
  ·have hlen:s.items.length = 0:=by rw [h1];rfl
   have hst:=hstopN hgo
   by_cases hc:takeC s.fin x = 0
   case neg =>
    by_cases hk0:k = 0
    ·have hR2:=bld_code0 _ _ hRk hst hc (by omega)
     subst hk0
     simp [-It.ea,k5,k6,k8,k10,k31,k32,k33,hlt,hnn,hea,ft,hh,htkt,resM,hg,hov,hc]
     exact bldJ_ret (by rw [hR2]) (by simp) (by rw [hR2];simp)
    ·have hR2:=bld_code1 _ _ hRk hst hc (by omega)
     have hk0':¬ (k:Int) = 0:=by omega
     simp [-It.ea,k5,k6,k8,k10,k31,k32,k33,hlt',hnn,hea,ft,hh,htkt,resM,hg,hov,hc,hk0]
     exact bldJ_exit hR2 (by simp) (by simp) (.inl ⟨h1,_,rfl⟩)
   have hN:=bld_next _ _ hRk hst hc
   simp [-It.ea,k5,k6,k8,k10,k31,k32,k33,hlt',hnn,hea,ft,hh,htkt,resM,hg,hov,hc,hw,hwu]
   have e1:=stp_fin (matHolds M.l) lim takeL (s:=s) hovb
   have e2:=takeL_len (f:=s.fin) (x:=x) (o:=true)
   have e3:=takeL_ne (f:=s.fin) (x:=x) (o:=true)
   obtain ⟨e4,e5⟩:=stp_not (matHolds M.l) lim takeL (s:=s) hgo
   have e6:=stp_used (matHolds M.l) lim takeL s x
   generalize stepB takeL (matHolds M.l) szT lim s x = s2 at *
   exact ⟨k+1,by omega,by omega,s2,by omega,hN,by rw [e4];omega,by omega,by rw [e1];omega,by omega,.inl ⟨by rw [e4];exact h1,by rw [e1,e3,e5,e6];simp⟩⟩
  ·have hlen:0 < s.items.length:=by
    rcases Nat.eq_zero_or_pos s.items.length with h | h
    ·exact absurd (List.eq_nil_of_length_eq_zero h) h1
    ·exact h
   have hq0:0 < q:=by omega
   have hk0:¬ k = 0:=by omega
   have hk0':¬ (k:Int) = 0:=by omega
   have hkn:q * 39 = n:=by omega
   have hlk:s.items.length = q:=hq.symm
   have htk2:List.take n (encs s.items) = encs s.items:=List.take_of_length_le (by simp;omega)
   have hm1:(q+1) * 104≤140737488355328:=by omega
   have hm2:q+1≤140737488355328:=by omega
   have hst:=hstopN hgo
   by_cases hc:takeC s.fin x = 0
   case neg =>
    have hR2:=bld_code1 _ _ hRk hst hc (by omega)
    simp [-It.ea,k5,k6,k8,k10,k31,k32,k33,hlt',hnn,hea,ft,hh,htkt,resM,hg,hov,hc,hk0]
    exact bldJ_exit hR2 (by simp) (by simp) (.inr ⟨h1,n,q,_,hn,hq,rfl⟩)
   have hN:=bld_next _ _ hRk hst hc
   simp [-It.ea,k5,k6,k8,k10,k31,k32,k33,hlt',hnn,hea,ft,hh,htkt,resM,hg,hov,hc,hw,hwu]
   have e1:=stp_fin (matHolds M.l) lim takeL (s:=s) hovb
   have e2:=takeL_len (f:=s.fin) (x:=x) (o:=true)
   have e3:=takeL_ne (f:=s.fin) (x:=x) (o:=true)
   obtain ⟨e4,e5⟩:=stp_not (matHolds M.l) lim takeL (s:=s) hgo
   have e6:=stp_used (matHolds M.l) lim takeL s x
   generalize stepB takeL (matHolds M.l) szT lim s x = s2 at *
   exact ⟨k+1,by omega,by omega,s2,by omega,hN,by rw [e4];omega,by omega,by rw [e1];omega,by omega,.inr ⟨by rw [e4];exact h1,n,q,by rw [e4];exact hn,by rw [e4];exact hq,by rw [e1,e3,e4,e5,e6];simp⟩⟩
end Go.Ev.S
namespace Go.Ev.S
open Go Go.Proofs Go.Ev
noncomputable def LBld2:Code:=cAt [1,1,1,1,0,1,0,0] (stripC (bodyOf Tryz.f14))
def itHd (x:It):List D:=ofBytes x.id.l ++ (.bool x.gap :: .int .u64 x.fr :: .int .u64 x.til :: .int .u64 x.rc.seq :: .int .u64 x.rc.real :: .int .u64 x.rc.mono :: ofBytes x.rc.boot.l)
theorem it_hd (x:It):Enc.cells x = itHd x ++ [(.vsl x.rc.fields.nil (encs x.rc.fields.l) x.rc.fields.l.length)]:=by
 rw [It.cells]
 simp [itHd]
theorem it_hdN (x:It):Enc.cells (nrmF x) = itHd x ++ [.vsl x.rc.fields.l.isEmpty (encs x.rc.fields.l) x.rc.fields.l.length]:=by
 rw [it_hd]
 rfl
theorem itHd_len (x:It):(itHd x).length = 38:=by simp [itHd]
theorem itHd_free (x:It):idFree.idFreeL (itHd x) = true:=by
 rw [idFreeL_all]
 simp [itHd,idFree]
def updF (l:List It) (j:Nat):List It:=(l.take j).map nrmF ++ l.drop j
theorem updF_len (l:List It) {j:Nat} (h:j≤l.length):(updF l j).length = l.length:=by
 unfold updF
 rw [List.length_append,List.length_map,List.length_take,List.length_drop]
 omega
theorem updF_zero (l:List It):updF l 0 = l:=by simp [updF]
theorem updF_all (l:List It):updF l l.length = l.map nrmF:=by simp [updF]
theorem updF_at {l:List It} {j:Nat} (h:j < l.length):∃ A B:List D,A.length = j * 39+38∧idFree.idFreeL A = true∧idFree.idFreeL B = true∧encs (updF l j) = A ++ (.vsl (l[j].rc.fields).nil (encs (l[j].rc.fields).l) (l[j].rc.fields).l.length) :: B ∧
  encs (updF l (j+1)) = A ++ .vsl l[j].rc.fields.l.isEmpty (encs l[j].rc.fields.l) l[j].rc.fields.l.length :: B:=by
 refine ⟨encs ((l.take j).map nrmF) ++ itHd l[j],encs (l.drop (j+1)),?_,?_,encs_idFreeL _,?_,?_⟩
 ·rw [List.length_append,itHd_len,It.el,List.length_map,List.length_take]
  omega
 ·rw [idFreeL_all,List.all_append,encs_idFree,← idFreeL_all,itHd_free]
  rfl
 ·unfold updF
  rw [List.drop_eq_getElem_cons h,encs_append,encs_cons,it_hd]
  simp
 ·unfold updF
  rw [List.take_succ_eq_append_getElem h,List.map_append,encs_append,encs_append,List.map_cons,List.map_nil,encs_one,it_hdN]
  simp
theorem stayBlk_at (r o:List D) {A B:List D} (ha:idFree.idFreeL A = true) (hb:idFree.idFreeL B = true) (f:Sl Pr) :
  stayBlk [some r,some o,some (A ++ D.osl 3 (f.l.length * 2) 0 f.l.length 2 :: B),some (encs f.l)] 2 = some [some r,some o,some (A ++ D.vsl false (encs f.l) f.l.length :: B),none]:=by
 have h1:(A ++ D.osl 3 (f.l.length * 2) 0 f.l.length 2 :: B).all idFree = false:=by
  rw [List.all_append,List.all_cons]
  simp [idFree]
 obtain ⟨H,hH⟩:∃ H:Heap,H = [some r,some o,some (A ++ D.osl 3 (f.l.length * 2) 0 f.l.length 2 :: B),some (encs f.l)]:=⟨_,rfl⟩
 have h2:stay H 9 (D.osl 3 (f.l.length * 2) 0 f.l.length 2) = some (.vsl false (encs f.l) f.l.length,[3]):=by
  have h3:hget H 3 = some (encs f.l):=by rw [hH];rfl
  have h4:List.take (f.l.length * 2) (encs f.l) = encs f.l:=List.take_of_length_le (by simp)
  unfold stay
  rw [if_neg (by simp [idFree])]
  simp only [h3,List.drop_zero,Nat.zero_add]
  rw [if_pos ⟨by simp,Nat.le_refl _⟩,if_pos (encs_idFreeL _),h4]
 have h5:stayL (stay H 9) (A ++ D.osl 3 (f.l.length * 2) 0 f.l.length 2 :: B) = some (A ++ D.vsl false (encs f.l) f.l.length :: B,[3]):=by
  rw [stayL_append,stayL_free ha]
  simp only [stayL]
  rw [h2,stayL_free hb]
  rfl
 have h6:hget H 2 = some (A ++ D.osl 3 (f.l.length * 2) 0 f.l.length 2 :: B):=by rw [hH];rfl
 rw [← hH]
 unfold stayBlk
 simp only [h6]
 rw [if_neg (by rw [h1];decide),h5]
 simp only
 rw [if_neg (by decide),hH]
 rfl
def BlcJ (R:BatS × Int):Ex→Env→Heap→Prop
 | .exit i,e,H=>i = 2∧look e 8 = some (.optr 0 4 0)∧look e 10 = some (.optr 1 4 0)∧((R.1.items = []∧∃ T,H = some [.vsl true [] 0,.vsl true [] 0,.int .i64 0,.int .i64 0] :: some [.vsl true [] 0,.vsl R.1.fin.isEmpty (encs R.1.fin) R.1.fin.length,.int .i64 R.1.used,.int .i64 R.1.bytes] :: T) ∨
   (R.1.items≠[]∧∃ n q T,n = R.1.items.length * 39∧q = R.1.items.length∧H = some [.vsl true [] 0,.vsl true [] 0,.int .i64 0,.int .i64 0] :: some [.osl 2 n 0 q 39,.vsl R.1.fin.isEmpty (encs R.1.fin) R.1.fin.length,.int .i64 R.1.used,.int .i64 R.1.bytes] :: some (encs (R.1.items.map nrmF)) :: T))
 | _,_,_=>False
set_option maxRecDepth 4000 in
set_option maxHeartbeats 4000000 in
theorem blc_loop (R:BatS × Int) (hne:R.1.items≠[]) (hl:R.1.items.length < 1000000) (hfl:∀ x∈R.1.items,x.rc.fields.l.length≤16) (_hful:∀ x∈R.1.items,x.rc.fields.nil = true→x.rc.fields.l = []) (n q:Nat) (hn:n = R.1.items.length * 39) (hq:q = R.1.items.length) (e:Env) (k8:look e 8 = some (.optr 0 4 0)) (k10:look e 10 = some (.optr 1 4 0)) (k130:look e 130 = some (.int .i64 q)) (k131:look e 131 = some (.int .i64 0)) :
  Run cx 14 149 0 (BlcJ R) [] (code cx 14 149 0 (.loop LBld2) e [some [.vsl true [] 0,.vsl true [] 0,.int .i64 0,.int .i64 0],some [.osl 2 n 0 q 39,.vsl R.1.fin.isEmpty (encs R.1.fin) R.1.fin.length,.int .i64 R.1.used,.int .i64 R.1.bytes],some (encs R.1.items)]):=by
 refine Run.loop (fun (j:Nat) e H=>j≤q∧look e 8 = some (.optr 0 4 0)∧look e 10 = some (.optr 1 4 0)∧look e 130 = some (.int .i64 q)∧look e 131 = some (.int .i64 (j:Nat))∧H = [some [.vsl true [] 0,.vsl true [] 0,.int .i64 0,.int .i64 0],some [.osl 2 n 0 q 39,.vsl R.1.fin.isEmpty (encs R.1.fin) R.1.fin.length,.int .i64 R.1.used,.int .i64 R.1.bytes],some (encs (updF R.1.items j))]) (fun j=>q - j) ?_ 0 e _ ⟨Nat.zero_le _,k8,k10,k130,k131,by rw [updF_zero]⟩
 clear k8 k10 k130 k131 e
 rintro j e H ⟨hj,k8,k10,k130,k131,rfl⟩
 by_cases hlt:j < q
 case neg =>
  have hlt':¬ (j:Int) < (q:Int):=by omega
  have hjq:j = R.1.items.length:=by omega
  subst hjq
  rw [updF_all]
  simp only [LBld2,cAt,bodyOf,Tryz.f14,Option.getD,stripC,stripL,stripOp]
  simp [k8,k10,k130,k131,hlt']
  exact ⟨rfl,by simp,by simp,.inr ⟨hne,n,q,[],hn,hq,rfl⟩⟩
 have hlt':(j:Int) < (q:Int):=by omega
 have hw:IntKind.i64.wrap ((j:Int)+1) = ((j+1:Nat):Int):=by rw [wrap_i64] <;> omega
 have hjl:j < R.1.items.length:=by omega
 obtain ⟨A,B,a1,a2,a3,a4,a5⟩:=updF_at hjl
 have hlen:(encs (updF R.1.items j)).length = n:=by rw [It.el,updF_len _ (by omega),hn]
 rw [a4] at hlen ⊢
 have hmem:=List.getElem_mem hjl
 have hf16:=hfl _ hmem
 generalize R.1.items[j] = x at *
 obtain ⟨f,hf⟩:∃ f,x.rc.fields = f:=⟨_,rfl⟩
 rw [hf] at hf16 hlen a5 ⊢
 have hB:B.length+(j * 39+39) = n:=by
  rw [List.length_append,List.length_cons,a1] at hlen
  omega
 have a2':(∀ y,y∈A→idFree y = true) = True:=eq_true (List.all_eq_true.1 (by rw [← idFreeL_all];exact a2))
 have a3':(∀ y,y∈B→idFree y = true) = True:=eq_true (List.all_eq_true.1 (by rw [← idFreeL_all];exact a3))
 have a2c:∀ m,(∀ y,y∈A→closed m y = true) = True:=fun m=>eq_true (List.all_eq_true.1 (by rw [← closedL_all];exact closedL_free m _ a2))
 have a3c:∀ m,(∀ y,y∈B→closed m y = true) = True:=fun m=>eq_true (List.all_eq_true.1 (by rw [← closedL_all];exact closedL_free m _ a3))
 have hsA:∀ H,stayL (stay H 9) A = some (A,[]):=fun H=>stayL_free a2
 have hsB:∀ H,stayL (stay H 9) B = some (B,[]):=fun H=>stayL_free a3
 have hd38:∀ d:D,List.drop (j * 39+38) (A ++ d :: B) = d :: B:=fun d=>List.drop_left' a1
 have ht38:∀ d:D,List.take (j * 39+38) (A ++ d :: B) = A:=fun d=>List.take_left' a1
 have hd39:∀ d:D,List.drop (j * 39+39) (A ++ d :: B) = B:=fun d=>by
  have:A ++ d :: B = (A ++ [d]) ++ B:=by simp
  rw [this]
  exact List.drop_left' (by rw [List.length_append,a1];rfl)
 have hln:∀ d:D,(A ++ d :: B).length = n:=fun d=>by
  rw [List.length_append,List.length_cons,a1]
  omega
 have hfr:∀ d:D,idFree d = true→idFree.idFreeL (A ++ d :: B) = true:=fun d hd=>by
  rw [idFreeL_all,List.all_append,List.all_cons,← idFreeL_all,← idFreeL_all,a2,a3,hd]
  rfl
 have hle:j * 39+39≤n:=by omega
 have hm:f.l.length * 32≤140737488355328∧f.l.length≤140737488355328:=by omega
 have ht2:List.take (f.l.length * 2) (encs f.l) = encs f.l:=List.take_of_length_le (by simp)
 clear a4
 simp only [LBld2,cAt,bodyOf,Tryz.f14,Option.getD,stripC,stripL,stripOp]
 by_cases h0:f.l = []
 ·have h00:f.l.length = 0:=by rw [h0];rfl
  have hfv:=hfr (.vsl true [] 0) rfl
  rw [h0] at a5
  replace a5:encs (updF R.1.items (j+1)) = A ++ .vsl true [] 0 :: B:=a5
  simp [k8,k10,k130,k131,hlt',hw,h0,hd38,ht38,hd39,hln,hle,a2',a3',hfv]
  exact ⟨j+1,by omega,by omega,by omega,a5.symm⟩
 ·have h00:¬ f.l.length = 0:=fun h=>h0 (List.eq_nil_of_length_eq_zero h)
  have hfn:f.nil = false:=by
   cases h:f.nil with
   | false=>rfl
   | true=>exact absurd (f.h h) h0
  have hfe:f.l.isEmpty = false:=by
   cases h:f.l with
   | nil=>exact absurd h h0
   | cons=>rfl
  have hfv:=hfr (.vsl false (encs f.l) f.l.length) rfl
  rw [hfe] at a5
  have hst:=stayBlk_at [.vsl true [] 0,.vsl true [] 0,.int .i64 0,.int .i64 0] [.osl 2 n 0 q 39,.vsl R.1.fin.isEmpty (encs R.1.fin) R.1.fin.length,.int .i64 R.1.used,.int .i64 R.1.bytes] a2 a3 f
  simp [-stayBlk,k8,k10,k130,k131,hlt',hw,h00,hfn,hd38,ht38,hd39,hln,hle,hst,hm,hfv,maxBytes]
  exact ⟨j+1,by omega,by omega,by omega,a5.symm⟩
theorem bld_sub (tc:List Mk→It→Int) (tl:List Mk→It→Bool→List Mk) (hd:List Pr→Bool) (sz:It→Nat) (lim:Lim):∀ (l:List It) (s:BatS),(∀ x∈(bldGo tc tl hd sz lim l s).1.items,x∈s.items∨x∈l)∧(bldGo tc tl hd sz lim l s).1.items.length≤s.items.length+l.length
 | [],s=>⟨fun x h=>.inl h,Nat.le_refl _⟩
 | y :: l,s=>by
  unfold bldGo
  split
  ·exact ⟨fun x h=>.inl h,Nat.le_add_right _ _⟩
  ·split
   ·split
    ·exact ⟨(fun x h=>by cases h),Nat.zero_le _⟩
    ·exact ⟨fun x h=>.inl h,Nat.le_add_right _ _⟩
   ·obtain ⟨h1,h2⟩:=bld_sub tc tl hd sz lim l (stepB tl hd sz lim s y)
    have h3:(∀ x∈(stepB tl hd sz lim s y).items,x∈s.items∨x = y)∧(stepB tl hd sz lim s y).items.length≤s.items.length+1:=by
     unfold stepB
     split
     ·exact ⟨fun x hx=>by simpa using hx,by simp⟩
     ·exact ⟨fun x hx=>.inl hx,Nat.le_succ _⟩
    refine ⟨fun x hx=>?_,by rw [List.length_cons];omega⟩
    rcases h1 x hx with h | h
    ·rcases h3.1 x h with h | h
     ·exact .inl h
     ·exact .inr (by rw [h];exact List.mem_cons_self ..)
    ·exact .inr (List.mem_cons_of_mem _ h)
set_option maxRecDepth 4000 in
set_option maxHeartbeats 8000000 in
theorem bbuild_ev (l:Sl It) (hl:l.l.length < 1000000) (m:Mat) (hm:MatB m.rows.l) (lim:Lim) (d:Sl Mk) (hd:d.l.length < 4611686018427387904) (hx:∀ x∈l.l,x.Ok) :
  call cx 14 [(.vsl l.nil (encs l.l) l.l.length),.agg [(.vsl m.rows.nil (encs m.rows.l) m.rows.l.length)],.agg [.int .i64 lim.count,.int .i64 lim.bytes,.int .i64 lim.hard],(.vsl d.nil (encs d.l) d.l.length)] [] = some (bOut (bldP l.l m lim d.l),[]):=by
 have fm:=may_evB l hl m hm lim d hd
 unfold bldP
 obtain ⟨M⟩:=m
 simp only at fm hm ⊢
 refine call_run Tryz.func14 rfl ⟨rfl,rfl⟩ ?_
 cases hmay:mayB l.l ⟨M⟩ lim d.l with
 | false =>
  rw [hmay] at fm
  rw [if_neg (by decide)]
  simp [Tryz.f14,fm,bOut,BatS.none]
 | true =>
 rw [hmay] at fm
 rw [if_pos rfl]
 unfold mayB at hmay
 simp only [Bool.and_eq_true] at hmay
 obtain ⟨hlim,-,hright,hall⟩:=hmay
 have hd4:d.l.length≤4:=rightM_le hright
 have hcount:1≤lim.count:=by
  unfold limOk at hlim
  simp only [Bool.and_eq_true,decide_eq_true_eq] at hlim
  exact hlim.1.1
 rw [List.all_eq_true] at hall
 obtain ⟨R,hR⟩:∃ R,bldGo takeC takeL (matHolds M.l) szT lim l.l ⟨[],d.l,0,0⟩ = R:=⟨_,rfl⟩
 obtain ⟨hs1,hs2⟩:=bld_sub takeC takeL (matHolds M.l) szT lim l.l ⟨[],d.l,0,0⟩
 rw [hR] at hs1 hs2 ⊢
 have hsub:∀ x∈R.1.items,x.rc.fields.l.length≤16:=by
  intro x h
  rcases hs1 x h with h | h
  ·cases h
  ·cases hg:x.gap with
   | true =>
    obtain ⟨-,-,-,-,-,-,-,-,h9,-⟩:=gap_is (hx x h) (hall x h) hg
    rw [h9]
    exact Nat.zero_le _
   | false =>
    obtain ⟨-,-,-,-,-,h16,-⟩:=rec_is (hx x h) (hall x h) hg
    exact h16
 have hRl:R.1.items.length < 1000000:=by
  simp only [List.length_nil] at hs2
  omega
 clear hs1 hs2
 have hlp:=fun e H=>bld_loop l hl M hm lim hcount hx hall R d.l hd4 hR e H
 have hl2:=fun hne n q hn hq e=>blc_loop R hne hRl hsub (fun x _=>x.rc.fields.h) n q hn hq e
 simp only [LBld,LBld2,cAt,bodyOf,Tryz.f14,Option.getD,stripC,stripL,stripOp] at hlp hl2
 have hmx:d.l.length * 40≤140737488355328∧d.l.length≤140737488355328:=by omega
 have ht19:List.take (d.l.length * 19) (encs d.l) = encs d.l:=List.take_of_length_le (by simp)
 have hdd:(d.l = []∧d.l.length = 0∧True)∨(d.l≠[]∧¬ d.l.length = 0∧d.nil = false):=by
  by_cases h:d.l = []
  ·exact .inl ⟨h,by rw [h];rfl,trivial⟩
  ·refine .inr ⟨h,fun h2=>h (List.eq_nil_of_length_eq_zero h2),?_⟩
   cases hn:d.nil with
   | false=>rfl
   | true=>exact absurd (d.h hn) h
 obtain ⟨dn,dl,hdn⟩:=d
 simp only at hdd hmx ht19 fm hR hd4 hlp ⊢
 clear hright hd
 rcases hdd with ⟨rfl,-,-⟩ | ⟨hne,hdl,rfl⟩
 ·simp only [encs_nil,List.length_nil] at fm
  simp [Tryz.f14,fm]
  refine Run.mono (hlp _ _ (by simp) (by simp) (by simp) (by simp) (by simp) (by simp) (by simp) (.inl ⟨rfl,rfl⟩)) ?_
  intro ex e H hJ
  cases ex with
  | normal=>exact hJ.elim
  | ret =>
   obtain ⟨T,j1,j2,j3,rfl⟩:=hJ
   simp [j2,j3,bOut,j1,BatS.none]
  | exit i =>
   obtain ⟨rfl,s,hRs,j8,j10,hX⟩:=hJ
   subst hRs
   rcases hX with ⟨h1,T,rfl⟩ | ⟨h1,n,q,T,hn,hq,rfl⟩
   ·simp [j8,j10]
    refine run_loop1 ?_
    simp [bOut,h1]
   ·have hln:(encs s.items).length = n:=by rw [It.el,hn]
    simp [j8,j10]
    refine Run.mono (hl2 h1 n q hn hq _ (by simp) (by simp) (by simp) (by simp)) ?_
    intro ex e H hK
    cases ex with
    | normal=>exact hK.elim
    | ret=>exact hK.elim
    | exit i =>
     obtain ⟨rfl,c8,c10,hC⟩:=hK
     rcases hC with ⟨c1,-⟩ | ⟨-,n',q',T',c2,c3,rfl⟩
     ·exact absurd c1 h1
     ·have hie:s.items.isEmpty = false:=by
       cases hi:s.items with
       | nil=>exact absurd hi h1
       | cons=>rfl
      simp only at c2 c3
      subst c2;subst c3
      have hln2:(encs (s.items.map nrmF)).length = s.items.length * 39:=by rw [It.el,List.length_map]
      have htk:List.take (s.items.length * 39) (encs (s.items.map nrmF)) = encs (s.items.map nrmF):=List.take_of_length_le (by rw [hln2];exact Nat.le_refl _)
      simp [c8,c10,bOut,hie,hln2,htk]
 ·simp [Tryz.f14,fm,hdl,hmx,ht19,maxBytes]
  refine Run.mono (hlp _ _ (by simp) (by simp) (by simp) (by simp) (by simp) (by simp) (by simp) (.inl ⟨rfl,by simp [hne]⟩)) ?_
  intro ex e H hJ
  cases ex with
  | normal=>exact hJ.elim
  | ret =>
   obtain ⟨T,j1,j2,j3,rfl⟩:=hJ
   simp [j2,j3,bOut,j1,BatS.none]
  | exit i =>
   obtain ⟨rfl,s,hRs,j8,j10,hX⟩:=hJ
   subst hRs
   rcases hX with ⟨h1,T,rfl⟩ | ⟨h1,n,q,T,hn,hq,rfl⟩
   ·simp [j8,j10]
    refine run_loop1 ?_
    simp [bOut,h1]
   ·have hln:(encs s.items).length = n:=by rw [It.el,hn]
    simp [j8,j10]
    refine Run.mono (hl2 h1 n q hn hq _ (by simp) (by simp) (by simp) (by simp)) ?_
    intro ex e H hK
    cases ex with
    | normal=>exact hK.elim
    | ret=>exact hK.elim
    | exit i =>
     obtain ⟨rfl,c8,c10,hC⟩:=hK
     rcases hC with ⟨c1,-⟩ | ⟨-,n',q',T',c2,c3,rfl⟩
     ·exact absurd c1 h1
     ·have hie:s.items.isEmpty = false:=by
       cases hi:s.items with
       | nil=>exact absurd hi h1
       | cons=>rfl
      simp only at c2 c3
      subst c2;subst c3
      have hln2:(encs (s.items.map nrmF)).length = s.items.length * 39:=by rw [It.el,List.length_map]
      have htk:List.take (s.items.length * 39) (encs (s.items.map nrmF)) = encs (s.items.map nrmF):=List.take_of_length_le (by rw [hln2];exact Nat.le_refl _)
      simp [c8,c10,bOut,hie,hln2,htk]
end Go.Ev.S
namespace Go.Ev.S
open Go Go.Proofs Go.Ev
set_option maxHeartbeats 4000000 in
theorem rmatch_ev [TxtC] (m:Mat) (hm:MatB m.rows.l):call cx 19 [.agg [(.vsl m.rows.nil (encs m.rows.l) m.rows.l.length)]] [] = some (.bool (matOk m.rows.l),[]):=by
 obtain ⟨M⟩:=m
 simp only at hm ⊢
 refine call_run Tryz.func19 rfl ⟨rfl,rfl⟩ ?_
 have hwd:=matB_words hm
 obtain ⟨h5,hb⟩:=hm
 obtain ⟨T,hT⟩:∃ T:Int,T = (M.l.length:Int) - 1+wordsR M.l:=⟨_,rfl⟩
 obtain ⟨r,hr⟩:∃ r,matOk M.l = r:=⟨_,rfl⟩
 have hr2:(M.l.all rowOk && decide (T≤32)) = r:=by
  rw [← hr]
  unfold matOk
  congr 1
  rw [decide_eq_decide,hT]
  rcases Nat.eq_zero_or_pos M.l.length with h0 | hpos
  ·have:wordsR M.l = 0:=by rw [List.eq_nil_of_length_eq_zero h0];rfl
   omega
  ·omega
 rw [hr]
 clear hr
 have hw:IntKind.i64.wrap ((M.l.length:Int) - 1) = (M.l.length:Int) - 1:=by rw [wrap_i64] <;> omega
 simp [Tryz.f19,hw]
 refine Run.loopThen (fun (q:Nat × Int) e H'=>q.1≤M.l.length∧H' = [some [(.vsl M.nil (encs M.l) M.l.length)]]∧look e 1 = some (.optr 0 1 0)∧look e 3 = some (.int .i64 q.2)∧look e 4 = some (.int .i64 (q.1:Nat))∧((M.l.drop q.1).all rowOk && decide (T≤32)) = r∧-1≤q.2∧q.2+wordsR (M.l.drop q.1) = T) (fun q=>M.l.length - q.1) (0,(M.l.length:Int) - 1) ⟨Nat.zero_le _,rfl,by simp,by simp,by simp,by simpa using hr2,by show -1≤(M.l.length:Int) - 1;omega,by rw [List.drop_zero,hT]⟩ ?_
 rintro ⟨i,c⟩ e H ⟨hi,rfl,g1,g3,g4,gf,gc,gT⟩
 simp only at hi g3 g4 gf gc gT
 by_cases hlt:i < M.l.length
 case neg =>
  have hlt':¬ ((i:Int) < (M.l.length:Int)):=by omega
  rw [List.drop_eq_nil_of_le (by omega)] at gf gT
  simp only [List.all_nil,Bool.true_and,wordsR,List.map_nil,List.sum_nil] at gf gT
  have hcT:c = T:=by omega
  subst hcT
  by_cases h32:c≤32
  ·rw [decide_eq_true h32] at gf
   subst gf
   simp [g1,g3,g4,hlt',h32]
  ·rw [decide_eq_false h32] at gf
   subst gf
   simp [g1,g3,g4,hlt',h32]
 have hlt':((i:Int) < (M.l.length:Int)):=by omega
 have hwi:IntKind.i64.wrap ((i:Int)+1) = ((i+1:Nat):Int):=by rw [wrap_i64] <;> omega
 have hea:=Row.ea hlt
 have hnn:=Sl.nn hlt
 obtain ⟨b1,b2⟩:=hb _ (List.getElem_mem hlt)
 rw [List.drop_eq_getElem_cons hlt,List.all_cons] at gf
 rw [List.drop_eq_getElem_cons hlt,wordsR_cons] at gT
 generalize M.l[i] = x at *
 obtain ⟨R⟩:=x
 simp only at b1 b2 hea gf gT
 by_cases h0:R.l.length = 0
 ·have h0i:(R.l.length:Int) = 0:=by omega
  have hro:rowOk ⟨R⟩ = false:=by
   unfold rowOk
   simp [List.eq_nil_of_length_eq_zero h0]
  rw [hro,Bool.false_and,Bool.false_and] at gf
  subst gf
  simp [g1,g3,g4,hlt',hnn,hea,h0]
 have h0i:¬ (R.l.length:Int) = 0:=by omega
 have hro:rowOk ⟨R⟩ = rangeAll R.l.length (altsOk R.l) 0:=by
  have hne:R.l≠[]:=fun h=>h0 (by rw [h];rfl)
  unfold rowOk
  simp [hne]
 rw [hro,Bool.and_assoc] at gf
 simp [g1,g3,g4,hlt',hnn,hea,h0]
 refine Run.loopThen (fun (q:Nat × Int) e H'=>q.1≤R.l.length∧H' = [some [(.vsl M.nil (encs M.l) M.l.length)]]∧look e 1 = some (.optr 0 1 0)∧look e 3 = some (.int .i64 q.2)∧look e 4 = some (.int .i64 (i:Nat))∧look e 5 = some (.int .i64 (q.1:Nat))∧(rangeAll R.l.length (altsOk R.l) q.1 && ((M.l.drop (i+1)).all rowOk && decide (T≤32))) = r∧-1≤q.2∧q.2+(wordsA (R.l.drop q.1)+wordsR (M.l.drop (i+1)):Nat) = T) (fun q=>R.l.length - q.1) (0,c) ⟨Nat.zero_le _,by rw [hnn],by simp,by simp,by simp,by simp,gf,gc,by rw [List.drop_zero];exact gT⟩ ?_
 rintro ⟨k,d⟩ e' H' ⟨hk,rfl,k1,k3,k4,k5,kf,kc,kT⟩
 simp only at hk k3 k5 kf kc kT
 by_cases hkt:k < R.l.length
 case neg =>
  have hkt':¬ ((k:Int) < (R.l.length:Int)):=by omega
  rw [rangeAll_end (by omega),Bool.true_and] at kf
  rw [List.drop_eq_nil_of_le (show R.l.length≤k by omega)] at kT
  simp only [wordsA,List.map_nil,List.sum_nil,Nat.zero_add] at kT
  simp [k1,k3,k4,k5,hlt',hnn,hea,hkt',hwi]
  exact ⟨i+1,by omega,by omega,by omega,kf,kc,kT⟩
 have hkt':((k:Int) < (R.l.length:Int)):=by omega
 have hwk:IntKind.i64.wrap ((k:Int)+1) = ((k+1:Nat):Int):=by rw [wrap_i64] <;> omega
 have heb:=Alt.ea hkt
 have hnl:=Sl.nn hkt
 obtain ⟨c1,c2⟩:=b2 _ (List.getElem_mem hkt)
 have hn:=rname_evX R.l[k].name c2
 obtain ⟨o,ho⟩:∃ o,(decide (k = 0) || Op.bytesLess (aAt R.l (k - 1)).name R.l[k].name) = o:=⟨_,rfl⟩
 have hlast:=alt_last hkt ho
 have hak:altsOk R.l k = (o && altOk R.l[k]):=by unfold altsOk;rw [aAt_at hkt,ho]
 rw [rangeAll_step hkt,hak,Bool.and_assoc] at kf
 rw [List.drop_eq_getElem_cons hkt,wordsA_cons] at kT
 clear ho hak
 generalize R.l[k] = a at *
 unfold altOk at kf
 cases hq:nameOk a.name with
 | false =>
  rw [hq] at hn kf
  simp only [Bool.false_and,Bool.and_false] at kf
  subst kf
  simp [k1,k3,k4,k5,hlt',hnn,hea,hkt',hnl,heb,hn]
 | true =>
 rw [hq] at hn kf
 by_cases hv0:a.vals.l = []
 ·have hv0':a.vals.l.length = 0:=by rw [hv0];rfl
  rw [decide_eq_false (fun h=>h hv0)] at kf
  simp only [Bool.false_and,Bool.and_false] at kf
  subst kf
  simp [k1,k3,k4,k5,hlt',hnn,hea,hkt',hnl,heb,hn,hv0]
 have hv0':¬ a.vals.l.length = 0:=fun h=>hv0 (List.eq_nil_of_length_eq_zero h)
 have hv0i:¬ (a.vals.l.length:Int) = 0:=by omega
 rw [decide_eq_true hv0,Bool.true_and,Bool.true_and] at kf
 have hgo:o = false∨(o = true∧(rangeAll a.vals.l.length (vOk a.vals.l) 0 && (rangeAll R.l.length (altsOk R.l) (k+1) && ((M.l.drop (i+1)).all rowOk && decide (T≤32)))) = r):=by
  cases o with
  | false=>exact .inl rfl
  | true=>exact .inr ⟨rfl,by simpa [Bool.and_assoc] using kf⟩
 have hk1:k = 0∨∃ j,k = j+1:=by
  cases k with
  | zero=>exact .inl rfl
  | succ j=>exact .inr ⟨j,rfl⟩
 rcases hgo with rfl | ⟨rfl,kf⟩
 ·rw [Bool.false_and] at kf
  subst kf
  rcases hlast with ⟨h1,h2⟩ | ⟨j,z,rest,h1,-,h2,h3⟩
  ·cases h2
  have hi0:(0:Int) < (k:Int):=by omega
  have hwj:IntKind.i64.wrap ((k:Int) - 1) = (j:Int):=by rw [wrap_i64] <;> omega
  have hji:(j:Int) < (R.l.length:Int):=by omega
  have hjn:j < R.l.length:=by omega
  have hin:0 < k:=by omega
  simp [k1,k3,k4,k5,hlt',hnn,hea,hkt',hnl,heb,hn,hv0',hwj,hji,hin,h2,h3]
 rcases hlast with ⟨h1,h2⟩ | ⟨j,z,rest,h1,-,h2,h3⟩
 ·have hi0:¬ (0:Int) < (k:Int):=by omega
  have hin:¬ 0 < k:=by omega
  have hin2:k = 0:=h1
  clear h1
  simp [k1,k3,k4,k5,hlt',hnn,hea,hkt',hnl,heb,hn,hv0',hin]
  refine Run.loopThen (fun (q:Nat × Int) e H'=>q.1≤a.vals.l.length∧H' = [some [.vsl false (encs M.l) M.l.length],some [.str a.name,(.vsl a.vals.nil (encs a.vals.l) a.vals.l.length)]]∧look e 1 = some (.optr 0 1 0)∧look e 3 = some (.int .i64 q.2)∧look e 4 = some (.int .i64 (i:Nat))∧look e 5 = some (.int .i64 (k:Nat))∧look e 6 = some (.optr 1 2 0)∧look e 7 = some (.int .i64 (q.1:Nat))∧(rangeAll a.vals.l.length (vOk a.vals.l) q.1 && (rangeAll R.l.length (altsOk R.l) (k+1) && ((M.l.drop (i+1)).all rowOk && decide (T≤32)))) = r∧-1≤q.2∧q.2+((a.vals.l.length - q.1)+wordsA (R.l.drop (k+1))+wordsR (M.l.drop (i+1)):Nat) = T) (fun q=>a.vals.l.length - q.1) (0,d) ⟨Nat.zero_le _,rfl,by simp,by simp,by simp,by simp,by simp,by simp,kf,kc,by rw [Nat.sub_zero];exact kT⟩ ?_
  rintro ⟨q,f⟩ e2 H2 ⟨hq1,rfl,m1,m3,m4,m5,m6,m7,mf,mc,mT⟩
  simp only at hq1 m3 m7 mf mc mT
  by_cases hqt:q < a.vals.l.length
  case neg =>
   have hqt':¬ ((q:Int) < (a.vals.l.length:Int)):=by omega
   rw [rangeAll_end (by omega),Bool.true_and] at mf
   simp [m1,m3,m4,m5,m6,m7,hqt',hwk]
   exact ⟨k+1,by omega,by omega,by omega,mf,mc,by omega⟩
  have hqt':((q:Int) < (a.vals.l.length:Int)):=by omega
  have hwq:IntKind.i64.wrap ((q:Int)+1) = ((q+1:Nat):Int):=by rw [wrap_i64] <;> omega
  have hwf:IntKind.i64.wrap (f+1) = f+1:=by rw [wrap_i64] <;> omega
  have hes:=Str.ea hqt
  have hns:=Sl.nn hqt
  rw [rangeAll_step hqt,vOk_at hqt] at mf
  by_cases h256:a.vals.l[q].s.length≤256
  case neg =>
   rw [decide_eq_false h256,Bool.false_and,Bool.false_and,Bool.false_and] at mf
   subst mf
   have h256':(256:Int) < (a.vals.l[q].s.length:Int):=by omega
   have h256n:256 < a.vals.l[q].s.length:=by omega
   generalize a.vals.l[q] = v at *
   simp [m1,m3,m4,m5,m6,m7,hqt',hns,hes,h256']
  have h256':¬ (256:Int) < (a.vals.l[q].s.length:Int):=by omega
  have h256n:¬ 256 < a.vals.l[q].s.length:=by omega
  rw [decide_eq_true h256,Bool.true_and] at mf
  cases q with
  | zero =>
   rw [decide_eq_true rfl,Bool.true_or,Bool.true_and] at mf
   generalize a.vals.l[0] = v at *
   rw [show ((0:Nat):Int) = 0 from rfl] at m7 hqt' hwq
   simp at hes
   simp [m1,m3,m4,m5,m6,m7,hqt,hns,hes,h256',hwf]
   exact ⟨1,by omega,by omega,rfl,mf,by omega,by omega⟩
  | succ p =>
   have hp2:p < a.vals.l.length:=by omega
   have het:=Str.ea hp2
   rw [Nat.add_sub_cancel,getD_str hp2,decide_eq_false (by omega),Bool.false_or] at mf
   have hwp:IntKind.i64.wrap (((p+1:Nat):Int) - 1) = (p:Int):=by rw [wrap_i64] <;> omega
   have hp0:(0:Int) < ((p+1:Nat):Int):=by omega
   have hpi:(p:Int) < (a.vals.l.length:Int):=by omega
   have hp0n:0 < p+1:=by omega
   generalize a.vals.l[p+1] = v at *
   generalize a.vals.l[p] = u at *
   generalize p+1 = q at *
   cases hbl:Op.bytesLess u.s v.s with
   | false =>
    rw [hbl,Bool.false_and] at mf
    subst mf
    simp [m1,m3,m4,m5,m6,m7,hqt',hns,hes,het,h256',hwp,hp0n,hpi,hbl]
   | true =>
    rw [hbl,Bool.true_and] at mf
    simp [m1,m3,m4,m5,m6,m7,hqt',hns,hes,het,h256',hwp,hp0n,hpi,hbl,hwq,hwf]
    exact ⟨q+1,by omega,by omega,by omega,mf,by omega,by omega⟩
 ·have hi0:(0:Int) < (k:Int):=by omega
  have hwj:IntKind.i64.wrap ((k:Int) - 1) = (j:Int):=by rw [wrap_i64] <;> omega
  have hji:(j:Int) < (R.l.length:Int):=by omega
  have hjn:j < R.l.length:=by omega
  have hin:0 < k:=by omega
  simp [k1,k3,k4,k5,hlt',hnn,hea,hkt',hnl,heb,hn,hv0',hwj,hji,hin,h2,h3]
  refine Run.loopThen (fun (q:Nat × Int) e H'=>q.1≤a.vals.l.length∧H' = [some [.vsl false (encs M.l) M.l.length],some [.str a.name,(.vsl a.vals.nil (encs a.vals.l) a.vals.l.length)]]∧look e 1 = some (.optr 0 1 0)∧look e 3 = some (.int .i64 q.2)∧look e 4 = some (.int .i64 (i:Nat))∧look e 5 = some (.int .i64 (k:Nat))∧look e 6 = some (.optr 1 2 0)∧look e 7 = some (.int .i64 (q.1:Nat))∧(rangeAll a.vals.l.length (vOk a.vals.l) q.1 && (rangeAll R.l.length (altsOk R.l) (k+1) && ((M.l.drop (i+1)).all rowOk && decide (T≤32)))) = r∧-1≤q.2∧q.2+((a.vals.l.length - q.1)+wordsA (R.l.drop (k+1))+wordsR (M.l.drop (i+1)):Nat) = T) (fun q=>a.vals.l.length - q.1) (0,d) ⟨Nat.zero_le _,rfl,by simp,by simp,by simp,by simp,by simp,by simp,kf,kc,by rw [Nat.sub_zero];exact kT⟩ ?_
  rintro ⟨q,f⟩ e2 H2 ⟨hq1,rfl,m1,m3,m4,m5,m6,m7,mf,mc,mT⟩
  simp only at hq1 m3 m7 mf mc mT
  by_cases hqt:q < a.vals.l.length
  case neg =>
   have hqt':¬ ((q:Int) < (a.vals.l.length:Int)):=by omega
   rw [rangeAll_end (by omega),Bool.true_and] at mf
   simp [m1,m3,m4,m5,m6,m7,hqt',hwk]
   exact ⟨k+1,by omega,by omega,by omega,mf,mc,by omega⟩
  have hqt':((q:Int) < (a.vals.l.length:Int)):=by omega
  have hwq:IntKind.i64.wrap ((q:Int)+1) = ((q+1:Nat):Int):=by rw [wrap_i64] <;> omega
  have hwf:IntKind.i64.wrap (f+1) = f+1:=by rw [wrap_i64] <;> omega
  have hes:=Str.ea hqt
  have hns:=Sl.nn hqt
  rw [rangeAll_step hqt,vOk_at hqt] at mf
  by_cases h256:a.vals.l[q].s.length≤256
  case neg =>
   rw [decide_eq_false h256,Bool.false_and,Bool.false_and,Bool.false_and] at mf
   subst mf
   have h256':(256:Int) < (a.vals.l[q].s.length:Int):=by omega
   have h256n:256 < a.vals.l[q].s.length:=by omega
   generalize a.vals.l[q] = v at *
   simp [m1,m3,m4,m5,m6,m7,hqt',hns,hes,h256']
  have h256':¬ (256:Int) < (a.vals.l[q].s.length:Int):=by omega
  have h256n:¬ 256 < a.vals.l[q].s.length:=by omega
  rw [decide_eq_true h256,Bool.true_and] at mf
  cases q with
  | zero =>
   rw [decide_eq_true rfl,Bool.true_or,Bool.true_and] at mf
   generalize a.vals.l[0] = v at *
   rw [show ((0:Nat):Int) = 0 from rfl] at m7 hqt' hwq
   simp at hes
   simp [m1,m3,m4,m5,m6,m7,hqt,hns,hes,h256',hwf]
   exact ⟨1,by omega,by omega,rfl,mf,by omega,by omega⟩
  | succ p =>
   have hp2:p < a.vals.l.length:=by omega
   have het:=Str.ea hp2
   rw [Nat.add_sub_cancel,getD_str hp2,decide_eq_false (by omega),Bool.false_or] at mf
   have hwp:IntKind.i64.wrap (((p+1:Nat):Int) - 1) = (p:Int):=by rw [wrap_i64] <;> omega
   have hp0:(0:Int) < ((p+1:Nat):Int):=by omega
   have hpi:(p:Int) < (a.vals.l.length:Int):=by omega
   have hp0n:0 < p+1:=by omega
   generalize a.vals.l[p+1] = v at *
   generalize a.vals.l[p] = u at *
   generalize p+1 = q at *
   cases hbl:Op.bytesLess u.s v.s with
   | false =>
    rw [hbl,Bool.false_and] at mf
    subst mf
    simp [m1,m3,m4,m5,m6,m7,hqt',hns,hes,het,h256',hwp,hp0n,hpi,hbl]
   | true =>
    rw [hbl,Bool.true_and] at mf
    simp [m1,m3,m4,m5,m6,m7,hqt',hns,hes,het,h256',hwp,hp0n,hpi,hbl,hwq,hwf]
    exact ⟨q+1,by omega,by omega,by omega,mf,by omega,by omega⟩
end Go.Ev.S
namespace Go.Ev.S
open Go Go.Proofs Go.Ev
def strsS (l:List (List UInt8)):Sl Str:=.of (l.map Str.mk)
def altA:Alt:=⟨[65],strsS [[],[0,255],[48],[49],[50,50],[97,61,98],[111,110,101,10,116,119,111],[116,97,98,9,104,101,114,101]]⟩
def altB:Alt:=⟨[66],strsS [[],[50,50]]⟩
def altM:Alt:=⟨[77,69,83,83,65,71,69],strsS [[48],[49]]⟩
def altP:Alt:=⟨[80,82,73,79,82,73,84,89],strsS [[110,111]]⟩
def asksL:Nat→List Row
 | 2=>[⟨.of [altA]⟩]
 | 3=>[⟨.of [altA]⟩,⟨.of [altB,altM]⟩]
 | 4=>[⟨.of [altP]⟩]
 | _=>[]
def asksM (i:Nat):Mat:=⟨Sl.grown (asksL i)⟩
theorem asks_b (i:Nat):MatB (asksM i).rows.l:=by
 unfold asksM MatB
 rw [Sl.grown_l]
 match i with
 | 0=>simp [asksL]
 | 1=>simp [asksL]
 | 2=>simp [asksL,altA,strsS]
 | 3=>simp [asksL,altA,altB,altM,strsS]
 | 4=>simp [asksL,altP,strsS]
 | _+5=>simp [asksL]
set_option maxRecDepth 100000 in
theorem compile_ev0:call cx 28 [.vsl true [] 0] [] = some (.tup [.agg [.vsl true [] 0],.int .i64 0],[]):=call_some.2 ⟨200,by kernel_rfl⟩
set_option maxRecDepth 100000 in
theorem compile_ev2:call cx 28 [.vsl false [.str [65,61],.str [65,61,48],.str [65,61,49],.str [65,61,50,50],.str [65,61,97,61,98],.str [65,61,111,110,101,10,116,119,111],.str [65,61,116,97,98,9,104,101,114,101],.str [65,61,0,255]] 8] [] = some (.tup [.agg [.vsl false (encs (asksL 2)) 1],.int .i64 0],[]):=call_some.2 ⟨2000,by kernel_rfl⟩
set_option maxRecDepth 100000 in
theorem compile_ev3:call cx 28 [.vsl false [.str [65,61],.str [65,61,48],.str [65,61,49],.str [65,61,50,50],.str [65,61,97,61,98],.str [65,61,111,110,101,10,116,119,111],.str [65,61,116,97,98,9,104,101,114,101],.str [65,61,0,255],.str [43],.str [77,69,83,83,65,71,69,61,48],.str [77,69,83,83,65,71,69,61,49],.str [66,61,50,50],.str [66,61]] 13] [] = some (.tup [.agg [.vsl false (encs (asksL 3)) 2],.int .i64 0],[]):=call_some.2 ⟨2000,by kernel_rfl⟩
set_option maxRecDepth 100000 in
theorem compile_ev4:call cx 28 [.vsl false [.str [80,82,73,79,82,73,84,89,61,110,111]] 1] [] = some (.tup [.agg [.vsl false (encs (asksL 4)) 1],.int .i64 0],[]):=call_some.2 ⟨2000,by kernel_rfl⟩
set_option maxHeartbeats 2000000 in
theorem asks_ev (nil:Bool) (zs:List Int) (hnil:nil = true→zs = []) (hz:zs.length≤1000000) (k:Nat) :
  ∃ i k',i < 5∧call cx 10 [.optr 0 2 0] [some (seqD nil zs k)] = some (.agg [(.vsl ((asksM i).rows).nil (encs ((asksM i).rows).l) ((asksM i).rows).l.length)],[some (seqD nil zs k')]):=by
 obtain ⟨x,k2,hx,-,c1⟩:=n_ev nil zs hnil hz k 5 (by decide) (by decide)
 have sf:=seqD_free nil zs
 have sl:=seqD_len nil zs
 have sc:=seqD_cl nil zs
 refine ⟨x,k2,by omega,?_⟩
 refine call_run Tryz.func10 rfl ⟨rfl,rfl⟩ ?_
 have e0:=compile_ev0
 have e2:=compile_ev2
 have e3:=compile_ev3
 have e4:=compile_ev4
 have l0:(asksM 0).rows = Sl.none:=rfl
 have l1:(asksM 1).rows = Sl.none:=rfl
 have l2:(asksM 2).rows = .of (asksL 2):=rfl
 have l3:(asksM 3).rows = .of (asksL 3):=rfl
 have l4:(asksM 4).rows = .of (asksL 4):=rfl
 have n2:(asksL 2).length = 1:=rfl
 have n3:(asksL 3).length = 2:=rfl
 have n4:(asksL 4).length = 1:=rfl
 generalize asksL 2 = r2 at *
 generalize asksL 3 = r3 at *
 generalize asksL 4 = r4 at *
 have hx5:x = 0∨x = 1∨x = 2∨x = 3∨x = 4:=by omega
 rcases hx5 with rfl | rfl | rfl | rfl | rfl
 ·simp [Tryz.f10,sf,sc,c1,e0,l0]
 ·simp [Tryz.f10,sf,sc,c1,e0,l1]
 ·simp [Tryz.f10,sf,sc,c1,e2,l2,n2]
 ·simp [Tryz.f10,sf,sc,c1,e3,l3,n3]
 ·simp [Tryz.f10,sf,sc,c1,e4,l4,n4]
theorem four1 {x:Nat} (h:x < 4):∃ v r,List.drop x [D.int .i64 1,.int .i64 300,.int .i64 900,.int .i64 32768] = D.int .i64 v :: r∧1≤v∧v≤32768:=by
 have h4:x = 0∨x = 1∨x = 2∨x = 3:=by omega
 rcases h4 with rfl | rfl | rfl | rfl
 ·exact ⟨1,_,rfl,by decide,by decide⟩
 ·exact ⟨300,_,rfl,by decide,by decide⟩
 ·exact ⟨900,_,rfl,by decide,by decide⟩
 ·exact ⟨32768,_,rfl,by decide,by decide⟩
theorem four2 {x:Nat} (h:x < 4):∃ v r,List.drop x [D.int .i64 300,.int .i64 350,.int .i64 500,.int .i64 16384] = D.int .i64 v :: r∧1≤v∧v≤16384:=by
 have h4:x = 0∨x = 1∨x = 2∨x = 3:=by omega
 rcases h4 with rfl | rfl | rfl | rfl
 ·exact ⟨300,_,rfl,by decide,by decide⟩
 ·exact ⟨350,_,rfl,by decide,by decide⟩
 ·exact ⟨500,_,rfl,by decide,by decide⟩
 ·exact ⟨16384,_,rfl,by decide,by decide⟩
theorem limits_ev (nil:Bool) (zs:List Int) (hnil:nil = true→zs = []) (hz:zs.length≤1000000) (k:Nat) :
  ∃ (lim:Lim) (k':Nat),limOk lim = true∧call cx 11 [.optr 0 2 0] [some (seqD nil zs k)] = some (.agg [.int .i64 lim.count,.int .i64 lim.bytes,.int .i64 lim.hard],[some (seqD nil zs k')]):=by
 obtain ⟨x1,k2,h1,-,c1⟩:=n_ev nil zs hnil hz k 5 (by decide) (by decide)
 obtain ⟨x2,k3,h2,-,c2⟩:=n_ev nil zs hnil hz k2 4 (by decide) (by decide)
 obtain ⟨x3,k4,h3,-,c3⟩:=n_ev nil zs hnil hz k3 4 (by decide) (by decide)
 have sf:=seqD_free nil zs
 have sl:=seqD_len nil zs
 have sc:=seqD_cl nil zs
 obtain ⟨v2,r2,d2,d3,d4⟩:=four1 (x:=x2) (by omega)
 obtain ⟨v3,r3,g2,g3,g4⟩:=four2 (x:=x3) (by omega)
 have hw:IntKind.i64.wrap ((x1:Int)+1) = (x1:Int)+1:=by rw [wrap_i64] <;> omega
 have i2:(x2:Int) < 4:=by omega
 have i3:(x3:Int) < 4:=by omega
 have j2:x2 < 4:=by omega
 have j3:x3 < 4:=by omega
 refine ⟨⟨(x1:Int)+1,v2,v3⟩,k4,?_,?_⟩
 ·unfold limOk
  simp only [Bool.and_eq_true,decide_eq_true_eq]
  omega
 ·refine call_run Tryz.func11 rfl ⟨rfl,rfl⟩ ?_
  simp [Tryz.f11,sf,sc,c1,c2,c3,d2,g2,i2,i3,hw]
end Go.Ev.S
namespace Go.Ev.S
open Go Go.Proofs Go.Ev
def sameR (r s:Rec):Bool:=r.seq == s.seq && (r.real == s.real && (r.mono == s.mono && (r.boot == s.boot && r.fields.l == s.fields.l)))
def sameI (x y:It):Bool:=x.id == y.id && (x.gap == y.gap && (x.fr == y.fr && (x.til == y.til && sameR x.rc y.rc)))
theorem eqPr (p q:Pr):(p == q) = (decide (p.name = q.name) && decide (p.value = q.value)):=by
 obtain ⟨a,b⟩:=p
 obtain ⟨c,d⟩:=q
 rw [Bool.eq_iff_iff]
 simp
theorem beq_drop {a b:List Pr} {k:Nat} (ha:k < a.length) (hb:k < b.length):(a.drop k == b.drop k) = (a[k] == b[k] && a.drop (k+1) == b.drop (k+1)):=by
 rw [List.drop_eq_getElem_cons ha,List.drop_eq_getElem_cons hb]
 rfl
set_option maxHeartbeats 1000000 in
theorem rpairs_ev (a b:Sl Pr) (ha:a.l.length < 1000000) (_:b.l.length < 1000000):call cx 100 [(.vsl a.nil (encs a.l) a.l.length),(.vsl b.nil (encs b.l) b.l.length)] [] = some (.bool (a.l == b.l),[]):=by
 refine call_run Tryz.func100 rfl ⟨rfl,rfl⟩ ?_
 by_cases hne:a.l.length = b.l.length
 case neg =>
  have hne':¬ (a.l.length:Int) = (b.l.length:Int):=by omega
  have hf:(a.l == b.l) = false:=beq_eq_false_iff_ne.2 fun e=>hne (by rw [e])
  rw [hf]
  simp [Tryz.f100,hne']
 have hne':(a.l.length:Int) = (b.l.length:Int):=by omega
 simp [Tryz.f100,hne]
 refine Run.loopThen (fun (k:Nat) e H'=>k≤a.l.length∧(a.l == b.l) = (a.l.drop k == b.l.drop k)∧look e 0 = some (.vsl a.nil (encs a.l) a.l.length)∧look e 1 = some (.vsl b.nil (encs b.l) b.l.length)∧look e 5 = some (.int .i64 (k:Nat))∧H' = []) (fun k=>a.l.length - k) 0 ?_ ?_
 ·simp [hne]
 rintro k e H' ⟨hk,hR,k0,k1,k5,rfl⟩
 rw [hR]
 by_cases hlt:k < a.l.length
 ·have hlt':(k:Int) < (a.l.length:Int):=by omega
  have hlb:k < b.l.length:=by omega
  have hlb':(k:Int) < (b.l.length:Int):=by omega
  have hw:IntKind.i64.wrap ((k:Int)+1) = ((k+1:Nat):Int):=by rw [wrap_i64] <;> omega
  have n1:a.nil = false:=Sl.nn hlt
  have n2:b.nil = false:=Sl.nn hlb
  have hE:(a.l[k] == b.l[k]) = (decide (a.l[k].name = b.l[k].name) && decide (a.l[k].value = b.l[k].value)):=eqPr a.l[k] b.l[k]
  rw [beq_drop hlt hlb,hE]
  by_cases h1:a.l[k].name = b.l[k].name
  ·by_cases h2:a.l[k].value = b.l[k].value
   ·simp [k0,k1,k5,hlt,hlb,hlt',hlb',n1,n2,Pr.cells,h1,h2,hw]
    exact ⟨k+1,by omega,by omega,rfl,rfl⟩
   ·simp [k0,k1,k5,hlt,hlb,hlt',hlb',n1,n2,Pr.cells,h1,h2]
  ·simp [k0,k1,k5,hlt,hlb,hlt',hlb',n1,n2,Pr.cells,h1]
 ·have hlt':¬ (k:Int) < (a.l.length:Int):=by omega
  rw [List.drop_eq_nil_of_le (by omega),List.drop_eq_nil_of_le (by omega)]
  have hlt2:¬ (k:Int) < (b.l.length:Int):=by omega
  simp [k0,k1,k5,hlt2,hne']
set_option maxHeartbeats 1000000 in
theorem rrec_ev (r s:Rec) (ha:r.fields.l.length < 1000000) (hb:s.fields.l.length < 1000000):call cx 78 [.agg (Enc.cells r),.agg (Enc.cells s)] [] = some (.bool (sameR r s),[]):=by
 have hp:=rpairs_ev r.fields s.fields ha hb
 have t1:List.take 16 (ofBytes r.boot.l ++ [(.vsl r.fields.nil (encs r.fields.l) r.fields.l.length)]) = ofBytes r.boot.l:=by rw [List.take_append];simp
 have t2:List.take 16 (ofBytes s.boot.l ++ [(.vsl s.fields.nil (encs s.fields.l) s.fields.l.length)]) = ofBytes s.boot.l:=by rw [List.take_append];simp
 have d1:List.drop 16 (ofBytes r.boot.l ++ [(.vsl r.fields.nil (encs r.fields.l) r.fields.l.length)]) = [(.vsl r.fields.nil (encs r.fields.l) r.fields.l.length)]:=by rw [List.drop_append];simp
 have d2:List.drop 16 (ofBytes s.boot.l ++ [(.vsl s.fields.nil (encs s.fields.l) s.fields.l.length)]) = [(.vsl s.fields.nil (encs s.fields.l) s.fields.l.length)]:=by rw [List.drop_append];simp
 have b1:(ofBytes r.boot.l).length = 16:=by simp
 have b2:(ofBytes s.boot.l).length = 16:=by simp
 unfold sameR
 refine call_run Tryz.func78 rfl ⟨rfl,rfl⟩ ?_
 rw [Rec.cells,Rec.cells]
 cases h1:(r.seq == s.seq) <;> cases h2:(r.real == s.real) <;> cases h3:(r.mono == s.mono) <;> cases h4:(r.boot == s.boot) <;> simp [Tryz.f78,hp,t1,t2,d1,d2,b1,b2,h1,h2,h3,h4]
set_option maxHeartbeats 1000000 in
theorem ritem_ev (x y:It) (ha:x.rc.fields.l.length < 1000000) (hb:y.rc.fields.l.length < 1000000):call cx 50 [.agg (Enc.cells x),.agg (Enc.cells y)] [] = some (.bool (sameI x y),[]):=by
 have hp:=rrec_ev x.rc y.rc ha hb
 have u1:List.take 17 (ofBytes x.rc.boot.l ++ [(.vsl x.rc.fields.nil (encs x.rc.fields.l) x.rc.fields.l.length)]) = ofBytes x.rc.boot.l ++ [(.vsl x.rc.fields.nil (encs x.rc.fields.l) x.rc.fields.l.length)]:=List.take_of_length_le (by simp)
 have u2:List.take 17 (ofBytes y.rc.boot.l ++ [(.vsl y.rc.fields.nil (encs y.rc.fields.l) y.rc.fields.l.length)]) = ofBytes y.rc.boot.l ++ [(.vsl y.rc.fields.nil (encs y.rc.fields.l) y.rc.fields.l.length)]:=List.take_of_length_le (by simp)
 rw [Rec.cells,Rec.cells] at hp
 simp only [List.cons_append,List.nil_append] at hp
 unfold sameI
 refine call_run Tryz.func50 rfl ⟨rfl,rfl⟩ ?_
 cases h1:(x.id == y.id) <;> cases h2:(x.gap == y.gap) <;> cases h3:(x.fr == y.fr) <;> cases h4:(x.til == y.til) <;> simp [Tryz.f50,u1,u2,hp,h1,h2,h3,h4]
end Go.Ev.S
namespace Go.Ev.S
open Go Go.Proofs Go.Ev
def sameIs:List It→List It→Bool
 | [],[]=>true
 | x :: xs,y :: ys=>sameI x y && sameIs xs ys
 | _,_=>false
theorem sameIs_len:∀ {x y:List It},sameIs x y = true→x.length = y.length
 | [],[],_=>rfl
 | _ :: xs,_ :: ys,h=>by
  rw [sameIs,Bool.and_eq_true] at h
  rw [List.length_cons,List.length_cons,sameIs_len h.2]
 | [],_ :: _,h=>by cases h
 | _ :: _,[],h=>by cases h
set_option maxHeartbeats 2000000 in
theorem rsames_ev (a b:Sl It) (ha:∀ x∈a.l,x.rc.fields.l.length < 1000000) (hb:∀ x∈b.l,x.rc.fields.l.length < 1000000) (han:a.l.length < 1000000):call cx 25 [(.vsl a.nil (encs a.l) a.l.length),(.vsl b.nil (encs b.l) b.l.length)] [] = some (.bool (sameIs a.l b.l),[]):=by
 refine call_run Tryz.func25 rfl ⟨rfl,rfl⟩ ?_
 by_cases hl:a.l.length = b.l.length
 case neg =>
  have hf:sameIs a.l b.l = false:=by
   cases h:sameIs a.l b.l with
   | false=>rfl
   | true=>exact absurd (sameIs_len h) hl
  have hl':¬ (a.l.length:Int) = (b.l.length:Int):=by omega
  simp [Tryz.f25,hl',hf]
 obtain ⟨r,hr⟩:∃ r,sameIs a.l b.l = r:=⟨_,rfl⟩
 rw [hr]
 simp [Tryz.f25,hl]
 refine Run.loopThen (fun (i:Nat) e H'=>i≤b.l.length∧sameIs (a.l.drop i) (b.l.drop i) = r∧look e 0 = some (.vsl a.nil (encs a.l) a.l.length)∧look e 1 = some (.vsl b.nil (encs b.l) b.l.length)∧look e 5 = some (.int .i64 (i:Nat))∧H' = []) (fun i=>b.l.length - i) 0 ⟨Nat.zero_le _,by simpa using hr,by simp [hl],by simp,by simp,rfl⟩ ?_
 rintro i e H' ⟨hi,hR,k0,k1,k5,rfl⟩
 by_cases hlt:i < b.l.length
 ·have hlt':(i:Int) < (b.l.length:Int):=by omega
  have hla:i < a.l.length:=by omega
  have hw:IntKind.i64.wrap ((i:Int)+1) = ((i+1:Nat):Int):=by rw [wrap_i64] <;> omega
  have hs:=ritem_ev a.l[i] b.l[i] (ha _ (List.getElem_mem hla)) (hb _ (List.getElem_mem hlt))
  rw [List.drop_eq_getElem_cons hla,List.drop_eq_getElem_cons hlt,sameIs] at hR
  have hea:List.drop (i * 39) (encs a.l) = Enc.cells a.l[i] ++ encs (a.l.drop (i+1)):=It.ea hla
  have heb:List.drop (i * 39) (encs b.l) = Enc.cells b.l[i] ++ encs (b.l.drop (i+1)):=It.ea hlt
  have n1:=Sl.nn hla
  have n2:=Sl.nn hlt
  generalize a.l[i] = x at *
  generalize b.l[i] = y at *
  cases hx:sameI x y with
  | true =>
   rw [hx] at hs hR
   simp [-It.ea,k0,k1,k5,hl,hlt',n1,n2,hea,heb,hs,hw]
   exact ⟨i+1,by omega,by omega,by simpa using hR,by omega⟩
  | false =>
   rw [hx] at hs hR
   simp [-It.ea,k0,k1,k5,hl,hlt',n1,n2,hea,heb,hs,← hR]
 ·have hi2:i = b.l.length:=by omega
  rw [List.drop_eq_nil_of_le (by omega),List.drop_eq_nil_of_le (by omega)] at hR
  replace hR:true = r:=hR
  subst hR
  simp [k0,k1,k5,hl,hlt]
end Go.Ev.S
namespace Go.Ev.S
open Go Go.Proofs Go.Ev
set_option maxRecDepth 100000 in
theorem first_evB:call cx 9 [] [] = some (.bool true,[]):=call_some.2 ⟨600,by kernel_rfl⟩
theorem same_evB (a b:Sl It) (ha:∀ x∈a.l,x.rc.fields.l.length < 1000000) (hb:∀ x∈b.l,x.rc.fields.l.length < 1000000) (hn:a.l.length < 1000000) (he:sameIs a.l b.l = true) (e f:Sl Mk) (hl:e.l.length < 4611686018427387904) (hef:e.l = f.l) (u v:Int) :
  call cx 16 [.agg [(.vsl a.nil (encs a.l) a.l.length),(.vsl e.nil (encs e.l) e.l.length),.int .i64 u,.int .i64 v],.agg [(.vsl b.nil (encs b.l) b.l.length),(.vsl f.nil (encs f.l) f.l.length),.int .i64 u,.int .i64 v]] [] = some (.bool true,[]):=by
 have h1:=rsames_ev a b ha hb hn
 have h2:=krsame_ev e f hl
 rw [he] at h1
 have h3:(e.l == f.l) = true:=by rw [hef];simp
 rw [h3] at h2
 refine call_run Tryz.func16 rfl ⟨rfl,rfl⟩ ?_
 simp [Tryz.f16,h1,h2]
end Go.Ev.S
namespace Go.Ev.S
open Go Go.Proofs Go.Ev
section
variable (hd:List Pr→Bool) (sz:It→Nat) (lim:Lim)
end
end Go.Ev.S
namespace Go.Ev.S
open Go Go.Proofs Go.Ev
theorem lim_is {lim:Lim} (h:limOk lim = true):1≤lim.count∧lim.count≤64∧1≤lim.bytes∧lim.bytes≤32768∧1≤lim.hard∧lim.hard≤16384:=by
 unfold limOk at h
 simp only [Bool.and_eq_true,decide_eq_true_eq] at h
 omega
structure MadeB (L:List It) (M:List Row) (lim:Lim) (r:BatS) (n:Nat):Prop where
 bld:bldGo takeC takeL (matHolds M) szT lim L ⟨[],[],0,0⟩ = (r,0)
 le:n≤L.length
 used:r.used = n
 items:r.items = (L.take n).filter (goesB (matHolds M) szT lim)
 bytes:r.bytes = sumB szT r.items
 fin:r.fin = finB takeL (matHolds M) szT lim (L.take n) []
 stop:∀ h:n < L.length,stopB (matHolds M) szT lim r L[n] = true
 count:(r.items.length:Int)≤lim.count
 small:r.items.length≤1∨(r.bytes:Int)≤lim.bytes
end Go.Ev.S
namespace Go.Ev.S
open Go Go.Proofs Go.Ev
theorem sameI_nrm (x:It):sameI (nrmF x) x = true:=by
 unfold sameI sameR nrmF
 simp
theorem sameIs_nrm:∀ l:List It,sameIs (l.map nrmF) l = true
 | []=>rfl
 | x :: l=>by
  show (sameI (nrmF x) x && sameIs (l.map nrmF) l) = true
  rw [sameI_nrm,sameIs_nrm l]
  rfl
end Go.Ev.S
namespace Go.Ev.S
open Go Go.Proofs Go.Ev
end Go.Ev.S
namespace Go.Ev.S
open Go Go.Proofs Go.Ev
end Go.Ev.S
namespace Go.Ev.S
open Go Go.Proofs Go.Ev
def ItsW (l:List It):Prop:= ∀ x∈l,x.Ok∧x.rc.fields.l.length < 1000000∧∀ p∈x.rc.fields.l,p.name.length≤9223372036854775807
def rBld (hd:List Pr→Bool) (lim:Lim):List It→BatS→BatS × Int:=bldGo (fun f x=>rtakeC f x (overB hd szT lim x)) rtakeL hd szT lim
def rbldP (l:List It) (m:Mat) (lim:Lim) (d:List Mk):BatS × Int:=if mayB l m lim d then rBld (matHolds m.rows.l) lim l ⟨[],d,0,0⟩ else (BatS.none,1)
theorem It.d38' (x:It) (r:List D):List.drop 38 (Enc.cells x ++ r) = (.vsl x.rc.fields.nil (encs x.rc.fields.l) x.rc.fields.l.length) :: r:=by
 rw [List.drop_append,It.d38,It.cl]
 rfl
theorem It.d16r (x:It) (r:List D):List.drop 16 (Enc.cells x ++ r) = D.bool x.gap :: (List.drop 17 (Enc.cells x) ++ r):=by
 rw [It.cells]
 simp [List.drop_append,drop_bytes]
def RldH (s:BatS) (E:Sl Mk) (H:Heap):Prop :=
 (s.items = []∧H = [some [.vsl true [] 0,.vsl true [] 0,.int .i64 0,.int .i64 0],some [.vsl true [] 0,(.vsl E.nil (encs E.l) E.l.length),.int .i64 s.used,.int .i64 s.bytes]]) ∨
 (s.items≠[]∧∃ n q,n = s.items.length * 39∧q = s.items.length∧H = [some [.vsl true [] 0,.vsl true [] 0,.int .i64 0,.int .i64 0],some [.osl 2 n 0 q 39,(.vsl E.nil (encs E.l) E.l.length),.int .i64 s.used,.int .i64 s.bytes],some (encs s.items)])
def RldJ (R:BatS × Int):Ex→Env→Heap→Prop
 | .normal,_,_=>False
 | .exit i,e,H=>i = 2∧∃ (s:BatS) (E:Sl Mk),R = (s,0)∧E.l = s.fin∧look e 8 = some (.optr 0 4 0)∧look e 11 = some (.optr 1 4 0)∧RldH s E H
 | .ret,e,H=>∃ E:Sl Mk,E.l = R.1.fin∧look e 8 = some (.optr 0 4 0)∧look e 9 = some (.int .i64 R.2) ∧
  ((R.1.items = []∧∃ T,H = some [.vsl true [] 0,(.vsl E.nil (encs E.l) E.l.length),.int .i64 R.1.used,.int .i64 R.1.bytes] :: T)∨(R.1.items≠[]∧∃ n q x T,n = R.1.items.length * 39∧q = R.1.items.length∧H = some [.osl 2 n 0 q 39,(.vsl E.nil (encs E.l) E.l.length),.int .i64 R.1.used,.int .i64 R.1.bytes] :: x :: some (encs R.1.items) :: T))
theorem rldJ_exit {R:BatS × Int} {e:Env} {H:Heap} {s:BatS} {E:Sl Mk} (h1:R = (s,0)) (h0:E.l = s.fin) (h2:look e 8 = some (.optr 0 4 0)) (h3:look e 11 = some (.optr 1 4 0)) (h4:RldH s E H):RldJ R (.exit 2) e H:=⟨rfl,s,E,h1,h0,h2,h3,h4⟩
theorem rldJ_none {R:BatS × Int} {c:Int} {e:Env} {T:Heap} (h1:R = (BatS.none,c)) (h2:look e 8 = some (.optr 0 4 0)) (h3:look e 9 = some (.int .i64 c)):RldJ R .ret e (some [.vsl true [] 0,.vsl true [] 0,.int .i64 0,.int .i64 0] :: T):=by
 subst h1
 exact ⟨.none,rfl,h2,h3,.inl ⟨rfl,T,rfl⟩⟩
theorem rldJ_nil {R:BatS × Int} {s:BatS} {E:Sl Mk} {e:Env} {T:Heap} (h1:R = (s,0)) (h0:E.l = s.fin) (hi:s.items = []) (h2:look e 8 = some (.optr 0 4 0)) (h3:look e 9 = some (.int .i64 0)):RldJ R .ret e (some [.vsl true [] 0,(.vsl E.nil (encs E.l) E.l.length),.int .i64 s.used,.int .i64 s.bytes] :: T):=by
 subst h1
 exact ⟨E,h0,h2,h3,.inl ⟨hi,T,rfl⟩⟩
theorem rldJ_own {R:BatS × Int} {s:BatS} {E:Sl Mk} {e:Env} {n q:Nat} {x:Option (List D)} {T:Heap} (h1:R = (s,0)) (h0:E.l = s.fin) (hi:s.items≠[]) (hn:n = s.items.length * 39) (hq:q = s.items.length) (h2:look e 8 = some (.optr 0 4 0)) (h3:look e 9 = some (.int .i64 0)):RldJ R .ret e (some [.osl 2 n 0 q 39,(.vsl E.nil (encs E.l) E.l.length),.int .i64 s.used,.int .i64 s.bytes] :: x :: some (encs s.items) :: T):=by
 subst h1
 exact ⟨E,h0,h2,h3,.inr ⟨hi,n,q,x,T,hn,hq,rfl⟩⟩
noncomputable def LRld:Code:=cAt [1,1,1,1,0,1,0,0] (stripC (bodyOf Tryz.f15))
section
variable (hd:List Pr→Bool) (lim:Lim)
theorem rld_stop {R:BatS × Int} {x:It} {l:List It} {s:BatS} (h:rBld hd lim (x :: l) s = R) (hs:stopB hd szT lim s x = true):R = (s,0):=by
 rw [← h,rBld,bldGo,if_pos hs]
theorem rld_code0 {R:BatS × Int} {x:It} {l:List It} {s:BatS} (h:rBld hd lim (x :: l) s = R) (hs:stopB hd szT lim s x = false) {o:Bool} (ho:overB hd szT lim x = o) (hc:rtakeC s.fin x o≠0) (hu:s.used = 0):R = (BatS.none,rtakeC s.fin x o):=by
 subst ho
 rw [← h,rBld,bldGo,if_neg (by rw [hs];decide),if_pos hc,if_pos hu]
theorem rld_code1 {R:BatS × Int} {x:It} {l:List It} {s:BatS} (h:rBld hd lim (x :: l) s = R) (hs:stopB hd szT lim s x = false) {o:Bool} (ho:overB hd szT lim x = o) (hc:rtakeC s.fin x o≠0) (hu:¬ s.used = 0):R = (s,0):=by
 subst ho
 rw [← h,rBld,bldGo,if_neg (by rw [hs];decide),if_pos hc,if_neg hu]
theorem rld_next {R:BatS × Int} {x:It} {l:List It} {s:BatS} (h:rBld hd lim (x :: l) s = R) (hs:stopB hd szT lim s x = false) {o:Bool} (ho:overB hd szT lim x = o) (hc:rtakeC s.fin x o = 0):rBld hd lim l (stepB rtakeL hd szT lim s x) = R:=by
 subst ho
 rw [← h,rBld,bldGo,if_neg (by rw [hs];decide),if_neg (by simpa using hc),← rBld]
end
theorem rtakeL_len {f:List Mk} {x:It} {o:Bool}:(rtakeL f x o).length≤2 * f.length+1:=by
 have:=rsetL_len f (rstepM (getM f x.id) x o)
 unfold rtakeL
 omega

set_option maxRecDepth 4000 in
set_option maxHeartbeats 16000000 in
theorem rld_loop (l:Sl It) (hl:l.l.length < 1000000) (M:Sl Row) (hm:MatB M.l) (lim:Lim) (hcount:1≤lim.count) (hlb:lim.bytes≤32768) (hlb1:1≤lim.bytes) (hx:∀ x∈l.l,x.Ok) (hall:∀ x∈l.l,itOk x = true) (R:BatS × Int) (d:Sl Mk) (hf4:d.l.length≤4) (hR:rBld (matHolds M.l) lim l.l ⟨[],d.l,0,0⟩ = R) (e:Env) (H:Heap)
  (k0:look e 0 = some (.vsl l.nil (encs l.l) l.l.length)) (k5:look e 5 = some (.vptr [(.vsl M.nil (encs M.l) M.l.length)])) (k6:look e 6 = some (.vptr [.int .i64 lim.count,.int .i64 lim.bytes,.int .i64 lim.hard])) (k8:look e 8 = some (.optr 0 4 0)) (k11:look e 11 = some (.optr 1 4 0)) (k12:look e 12 = some (.int .i64 0)) (hH:RldH ⟨[],d.l,0,0⟩ d H) :
  Run cx 15 162 0 (RldJ R) [] (code cx 15 162 0 (.loop LRld) e H):=by
 refine Run.loop (fun (q:Nat × BatS × Sl Mk) e H=>q.1≤l.l.length∧q.2.1.used = q.1∧rBld (matHolds M.l) lim (l.l.drop q.1) q.2.1 = R∧q.2.1.items.length≤q.1∧q.2.1.bytes≤q.1 * 10000∧q.2.1.fin.length≤10∧q.2.2.l = q.2.1.fin∧look e 0 = some (.vsl l.nil (encs l.l) l.l.length)∧look e 5 = some (.vptr [(.vsl M.nil (encs M.l) M.l.length)])∧look e 6 = some (.vptr [.int .i64 lim.count,.int .i64 lim.bytes,.int .i64 lim.hard])∧look e 8 = some (.optr 0 4 0)∧look e 11 = some (.optr 1 4 0)∧look e 12 = some (.int .i64 (q.1:Nat))∧RldH q.2.1 q.2.2 H) (fun q=>l.l.length - q.1) ?_ (0,⟨[],d.l,0,0⟩,d) e H ⟨Nat.zero_le _,rfl,by rw [List.drop_zero];exact hR,Nat.zero_le _,Nat.zero_le _,by show d.l.length≤10;omega,rfl,k0,k5,k6,k8,k11,k12,hH⟩
 clear k0 k5 k6 k8 k11 k12 hH hR hf4
 rintro ⟨k,s,E⟩ e H ⟨hk,hu,hRk,hsl,hsb,hsf,hE,k0,k5,k6,k8,k11,k12,hH⟩
 simp only at hk hu hRk hsl hsb hsf hE k12 hH
 by_cases hlt:k < l.l.length
 case neg =>
  have hlt':¬ (k:Int) < (l.l.length:Int):=by omega
  rw [List.drop_eq_nil_of_le (by omega)] at hRk
  replace hRk:(s,(0:Int)) = R:=hRk
  simp only [LRld,cAt,bodyOf,Tryz.f15,Option.getD,stripC,stripL,stripOp]
  rcases hH with ⟨h1,rfl⟩ | ⟨h1,n,q,hn,hq,rfl⟩
  ·simp [k0,k5,k6,k8,k11,k12,hlt']
   exact rldJ_exit hRk.symm hE (by simp) (by simp) (.inl ⟨h1,rfl⟩)
  ·simp [k0,k5,k6,k8,k11,k12,hlt']
   exact rldJ_exit hRk.symm hE (by simp) (by simp) (.inr ⟨h1,n,q,hn,hq,rfl⟩)
 have hlt':(k:Int) < (l.l.length:Int):=by omega
 have hw:IntKind.i64.wrap ((k:Int)+1) = ((k+1:Nat):Int):=by rw [wrap_i64] <;> omega
 have hxo:=hx _ (List.getElem_mem hlt)
 have hok:=hall _ (List.getElem_mem hlt)
 obtain ⟨hb1,hb2⟩:=made_b hxo hok
 have ft:=rtext_ev l.l[k] hxo hb2 hb1
 have hsz:=sz_le hxo hok
 have hh:=rholds_ev ⟨M⟩ hm l.l[k].rc.fields (by omega)
 simp only at hh
 have hea:List.drop (k * 39) (encs l.l) = Enc.cells l.l[k] ++ encs (l.l.drop (k+1)):=It.ea hlt
 have hnn:=Sl.nn hlt
 rw [List.drop_eq_getElem_cons hlt] at hRk
 generalize l.l[k] = x at *
 unfold textD at ft
 rw [if_pos hok] at ft
 obtain ⟨z,hz⟩:∃ z,szT x = z:=⟨_,rfl⟩
 replace ft:call cx 22 [.agg (Enc.cells x)] [] = some (.vsl false (ofBytes (textL x)) z,[]):=by rw [← hz];exact ft
 rw [hz] at hsz
 have htk:∀ o,call cx 24 [(.vsl E.nil (encs E.l) E.l.length),.agg (Enc.cells x),.bool o] [] = some (.tup [(.vsl (resS (rtakeC s.fin x o) (.of (rtakeL s.fin x o))).nil (encs (resS (rtakeC s.fin x o) (.of (rtakeL s.fin x o))).l) (resS (rtakeC s.fin x o) (.of (rtakeL s.fin x o))).l.length),.int .i64 (rtakeC s.fin x o)],[]):=fun o=>by
  have h:=krtake_ev E (by rw [hE];omega) x o
  rw [hE] at h
  rw [hE]
  exact h
 have htkf:=htk false
 have htkt:=htk true
 clear htk
 have hkind:(x.gap = true∧goesB (matHolds M.l) szT lim x = true∧overB (matHolds M.l) szT lim x = false)∨(x.gap = false∧matHolds M.l x.rc.fields.l = true∧¬ lim.hard < (z:Int)∧goesB (matHolds M.l) szT lim x = true∧overB (matHolds M.l) szT lim x = false) ∨
   (x.gap = false∧matHolds M.l x.rc.fields.l = false∧goesB (matHolds M.l) szT lim x = false∧overB (matHolds M.l) szT lim x = false)∨(x.gap = false∧matHolds M.l x.rc.fields.l = true∧lim.hard < (z:Int)∧goesB (matHolds M.l) szT lim x = false∧overB (matHolds M.l) szT lim x = true):=by
  unfold goesB overB askedB
  rw [hz]
  cases hg:x.gap with
  | true=>exact .inl ⟨rfl,rfl,rfl⟩
  | false =>
   cases hq:matHolds M.l x.rc.fields.l with
   | false=>exact .inr (.inr (.inl ⟨rfl,rfl,rfl,rfl⟩))
   | true =>
    by_cases ho:lim.hard < (z:Int)
    ·exact .inr (.inr (.inr ⟨rfl,rfl,ho,by simp [ho],by simp [ho]⟩))
    ·exact .inr (.inl ⟨rfl,rfl,ho,by simp [ho],by simp [ho]⟩)
 have hwb:IntKind.i64.wrap ((s.bytes:Int)+(z:Int)) = ((s.bytes+z:Nat):Int):=by rw [wrap_i64] <;> omega
 have hwl:IntKind.i64.wrap (lim.bytes - (s.bytes:Int)) = lim.bytes - (s.bytes:Int):=by rw [wrap_i64] <;> omega
 have hwu:IntKind.i64.wrap ((s.used:Int)+1) = ((s.used+1:Nat):Int):=by rw [wrap_i64] <;> omega
 have hstopG:goesB (matHolds M.l) szT lim x = true→stopB (matHolds M.l) szT lim s x = (decide ((s.items.length:Int) = lim.count) || (decide (0 < s.items.length) && decide (lim.bytes < (s.bytes:Int)+(z:Int)))):=by
  intro hg
  unfold stopB
  rw [hg,Bool.true_and,hz]
 have hstopN:goesB (matHolds M.l) szT lim x = false→stopB (matHolds M.l) szT lim s x = false:=by
  intro hg
  unfold stopB
  rw [hg,Bool.false_and]
 have hcz:¬ (0:Int) = lim.count:=by omega
 have hfl:∀ o,rtakeC s.fin x o = 0→(rtakeL s.fin x o).length≤10:=fun o ho=>by
  have h4:s.fin.length≤4:=by
   unfold rtakeC rsetC at ho
   cases hr:rightM s.fin with
   | true=>exact rightM_le hr
   | false=>rw [hr] at ho;simp at ho
  have:=rtakeL_len (f:=s.fin) (x:=x) (o:=o)
  omega
 simp only [LRld,cAt,bodyOf,Tryz.f15,Option.getD,stripC,stripL,stripOp]

 rcases hkind with ⟨hg,hgo,hovb⟩ | ⟨hg,hho,hov,hgo,hovb⟩ | ⟨hg,hho,hgo,hovb⟩ | ⟨hg,hho,hov,hgo,hovb⟩
 ·rcases hH with ⟨h1,rfl⟩ | ⟨h1,n,q,hn,hq,rfl⟩
  ·have hlen:s.items.length = 0:=by rw [h1];rfl
   have hst:stopB (matHolds M.l) szT lim s x = false:=by rw [hstopG hgo,hlen];simp [hcz]
   by_cases hc:rtakeC s.fin x false = 0
   case neg =>
    by_cases hk0:k = 0
    ·have hR2:=rld_code0 _ _ hRk hst hovb hc (by omega)
     subst hk0
     simp [-It.ea,k0,k5,k6,k8,k11,k12,hlt,hnn,hea,ft,It.d16r,htkf,resS,hg,hcz,hc]
     exact rldJ_none hR2 (by simp) (by simp)
    ·have hR2:=rld_code1 _ _ hRk hst hovb hc (by omega)
     have hk0':¬ (k:Int) = 0:=by omega
     simp [-It.ea,k0,k5,k6,k8,k11,k12,hlt',hnn,hea,ft,It.d16r,htkf,resS,hg,hcz,hc,hk0]
     exact rldJ_nil hR2 hE h1 (by simp) (by simp)
   have hN:=rld_next _ _ hRk hst hovb hc
   have hfl2:=hfl _ hc
   simp [-It.ea,k0,k5,k6,k8,k11,k12,hlt',hnn,hea,ft,It.d16r,htkf,resS,hg,hcz,hc,hw,hwb,hwu,maxBytes]
   have e1:=stp_fin (matHolds M.l) lim rtakeL (s:=s) hovb
   obtain ⟨e4,e5⟩:=stp_goes (matHolds M.l) lim rtakeL (s:=s) hgo
   rw [hz] at e5
   have e6:=stp_used (matHolds M.l) lim rtakeL s x
   generalize stepB rtakeL (matHolds M.l) szT lim s x = s2 at *
   exact ⟨k+1,by omega,by omega,s2,by omega,hN,by rw [e4];simp;omega,by omega,by rw [e1];exact hfl2,.of (rtakeL s.fin x false),e1.symm,by omega,.inr ⟨by rw [e4];simp,39,1,by rw [e4,h1];rfl,by rw [e4,h1];rfl,by rw [e4,e5,e6,h1,List.nil_append,encs_one];simp [Sl.of]⟩⟩
  ·have hlen:0 < s.items.length:=by
    rcases Nat.eq_zero_or_pos s.items.length with h | h
    ·exact absurd (List.eq_nil_of_length_eq_zero h) h1
    ·exact h
   have hq0:0 < q:=by omega
   have hk0:¬ k = 0:=by omega
   have hk0':¬ (k:Int) = 0:=by omega
   have hkn:q * 39 = n:=by omega
   have hlk:s.items.length = q:=hq.symm
   have htk2:List.take n (encs s.items) = encs s.items:=List.take_of_length_le (by simp;omega)
   have hm1:(q+1) * 104≤140737488355328:=by omega
   have hm2:q+1≤140737488355328:=by omega
   by_cases hcnt:(q:Int) = lim.count
   ·have hcb:((q:Int) == lim.count) = true:=by simp [hcnt]
    have hR2:=rld_stop _ _ hRk (by rw [hstopG hgo,hlk,decide_eq_true hcnt,Bool.true_or])
    simp [-It.ea,k0,k5,k6,k8,k11,k12,hlt',hnn,hea,ft,It.d16r,hg,hcb]
    exact rldJ_own hR2 hE h1 hn hq (by simp) (by simp)
   have hcb:((q:Int) == lim.count) = false:=by simp [hcnt]
   by_cases hby:lim.bytes - (s.bytes:Int) < (z:Int)
   ·have hR2:=rld_stop _ _ hRk (by rw [hstopG hgo,hlk,decide_eq_true hq0,decide_eq_true (p:=lim.bytes < _) (by omega),Bool.and_self,Bool.or_true])
    simp [-It.ea,k0,k5,k6,k8,k11,k12,hlt',hnn,hea,ft,It.d16r,hg,hq0,hcb,hby,hwl]
    exact rldJ_own hR2 hE h1 hn hq (by simp) (by simp)
   have hst:stopB (matHolds M.l) szT lim s x = false:=by
    rw [hstopG hgo,hlk,decide_eq_false hcnt,Bool.false_or,decide_eq_false (p:=lim.bytes < _) (by omega),Bool.and_false]
   by_cases hc:rtakeC s.fin x false = 0
   case neg =>
    have hR2:=rld_code1 _ _ hRk hst hovb hc (by omega)
    simp [-It.ea,k0,k5,k6,k8,k11,k12,hlt',hnn,hea,ft,It.d16r,htkf,resS,hg,hq0,hcb,hby,hwl,hc,hk0]
    exact rldJ_own hR2 hE h1 hn hq (by simp) (by simp)
   have hN:=rld_next _ _ hRk hst hovb hc
   have hfl2:=hfl _ hc
   simp [-It.ea,k0,k5,k6,k8,k11,k12,hlt',hnn,hea,ft,It.d16r,htkf,resS,hg,hq0,hcb,hby,hwb,hwl,hc,hw,hwu,hkn,hlk,hm1,hm2,maxBytes]
   have e1:=stp_fin (matHolds M.l) lim rtakeL (s:=s) hovb
   obtain ⟨e4,e5⟩:=stp_goes (matHolds M.l) lim rtakeL (s:=s) hgo
   rw [hz] at e5
   have e6:=stp_used (matHolds M.l) lim rtakeL s x
   generalize stepB rtakeL (matHolds M.l) szT lim s x = s2 at *
   exact ⟨k+1,by omega,by omega,s2,by omega,hN,by rw [e4];simp;omega,by omega,by rw [e1];exact hfl2,.of (rtakeL s.fin x false),e1.symm,by omega,.inr ⟨by rw [e4];simp,n+39,q+1,by rw [e4];simp;omega,by rw [e4];simp;omega,by rw [e4,e5,e6,encs_snoc];simp [Sl.of]⟩⟩
 ·rw [hho] at hh
  rcases hH with ⟨h1,rfl⟩ | ⟨h1,n,q,hn,hq,rfl⟩
  ·have hlen:s.items.length = 0:=by rw [h1];rfl
   have hst:stopB (matHolds M.l) szT lim s x = false:=by rw [hstopG hgo,hlen];simp [hcz]
   by_cases hc:rtakeC s.fin x false = 0
   case neg =>
    by_cases hk0:k = 0
    ·have hR2:=rld_code0 _ _ hRk hst hovb hc (by omega)
     subst hk0
     simp [-It.ea,k0,k5,k6,k8,k11,k12,hlt,hnn,hea,ft,It.d16r,It.d38',hh,htkf,resS,hg,hov,hcz,hc]
     exact rldJ_none hR2 (by simp) (by simp)
    ·have hR2:=rld_code1 _ _ hRk hst hovb hc (by omega)
     have hk0':¬ (k:Int) = 0:=by omega
     simp [-It.ea,k0,k5,k6,k8,k11,k12,hlt',hnn,hea,ft,It.d16r,It.d38',hh,htkf,resS,hg,hov,hcz,hc,hk0]
     exact rldJ_nil hR2 hE h1 (by simp) (by simp)
   have hN:=rld_next _ _ hRk hst hovb hc
   have hfl2:=hfl _ hc
   simp [-It.ea,k0,k5,k6,k8,k11,k12,hlt',hnn,hea,ft,It.d16r,It.d38',hh,htkf,resS,hg,hov,hcz,hc,hw,hwb,hwu,maxBytes]
   have e1:=stp_fin (matHolds M.l) lim rtakeL (s:=s) hovb
   obtain ⟨e4,e5⟩:=stp_goes (matHolds M.l) lim rtakeL (s:=s) hgo
   rw [hz] at e5
   have e6:=stp_used (matHolds M.l) lim rtakeL s x
   generalize stepB rtakeL (matHolds M.l) szT lim s x = s2 at *
   exact ⟨k+1,by omega,by omega,s2,by omega,hN,by rw [e4];simp;omega,by omega,by rw [e1];exact hfl2,.of (rtakeL s.fin x false),e1.symm,by omega,.inr ⟨by rw [e4];simp,39,1,by rw [e4,h1];rfl,by rw [e4,h1];rfl,by rw [e4,e5,e6,h1,List.nil_append,encs_one];simp [Sl.of]⟩⟩
  ·have hlen:0 < s.items.length:=by
    rcases Nat.eq_zero_or_pos s.items.length with h | h
    ·exact absurd (List.eq_nil_of_length_eq_zero h) h1
    ·exact h
   have hq0:0 < q:=by omega
   have hk0:¬ k = 0:=by omega
   have hk0':¬ (k:Int) = 0:=by omega
   have hkn:q * 39 = n:=by omega
   have hlk:s.items.length = q:=hq.symm
   have htk2:List.take n (encs s.items) = encs s.items:=List.take_of_length_le (by simp;omega)
   have hm1:(q+1) * 104≤140737488355328:=by omega
   have hm2:q+1≤140737488355328:=by omega
   by_cases hcnt:(q:Int) = lim.count
   ·have hcb:((q:Int) == lim.count) = true:=by simp [hcnt]
    have hR2:=rld_stop _ _ hRk (by rw [hstopG hgo,hlk,decide_eq_true hcnt,Bool.true_or])
    simp [-It.ea,k0,k5,k6,k8,k11,k12,hlt',hnn,hea,ft,It.d16r,It.d38',hh,hg,hov,hcb]
    exact rldJ_own hR2 hE h1 hn hq (by simp) (by simp)
   have hcb:((q:Int) == lim.count) = false:=by simp [hcnt]
   by_cases hby:lim.bytes - (s.bytes:Int) < (z:Int)
   ·have hR2:=rld_stop _ _ hRk (by rw [hstopG hgo,hlk,decide_eq_true hq0,decide_eq_true (p:=lim.bytes < _) (by omega),Bool.and_self,Bool.or_true])
    simp [-It.ea,k0,k5,k6,k8,k11,k12,hlt',hnn,hea,ft,It.d16r,It.d38',hh,hg,hov,hq0,hcb,hby,hwl]
    exact rldJ_own hR2 hE h1 hn hq (by simp) (by simp)
   have hst:stopB (matHolds M.l) szT lim s x = false:=by
    rw [hstopG hgo,hlk,decide_eq_false hcnt,Bool.false_or,decide_eq_false (p:=lim.bytes < _) (by omega),Bool.and_false]
   by_cases hc:rtakeC s.fin x false = 0
   case neg =>
    have hR2:=rld_code1 _ _ hRk hst hovb hc (by omega)
    simp [-It.ea,k0,k5,k6,k8,k11,k12,hlt',hnn,hea,ft,It.d16r,It.d38',hh,htkf,resS,hg,hov,hq0,hcb,hby,hwl,hc,hk0]
    exact rldJ_own hR2 hE h1 hn hq (by simp) (by simp)
   have hN:=rld_next _ _ hRk hst hovb hc
   have hfl2:=hfl _ hc
   simp [-It.ea,k0,k5,k6,k8,k11,k12,hlt',hnn,hea,ft,It.d16r,It.d38',hh,htkf,resS,hg,hov,hq0,hcb,hby,hwb,hwl,hc,hw,hwu,hkn,hlk,hm1,hm2,maxBytes]
   have e1:=stp_fin (matHolds M.l) lim rtakeL (s:=s) hovb
   obtain ⟨e4,e5⟩:=stp_goes (matHolds M.l) lim rtakeL (s:=s) hgo
   rw [hz] at e5
   have e6:=stp_used (matHolds M.l) lim rtakeL s x
   generalize stepB rtakeL (matHolds M.l) szT lim s x = s2 at *
   exact ⟨k+1,by omega,by omega,s2,by omega,hN,by rw [e4];simp;omega,by omega,by rw [e1];exact hfl2,.of (rtakeL s.fin x false),e1.symm,by omega,.inr ⟨by rw [e4];simp,n+39,q+1,by rw [e4];simp;omega,by rw [e4];simp;omega,by rw [e4,e5,e6,encs_snoc];simp [Sl.of]⟩⟩
 ·rw [hho] at hh
  rcases hH with ⟨h1,rfl⟩ | ⟨h1,n,q,hn,hq,rfl⟩
  ·have hlen:s.items.length = 0:=by rw [h1];rfl
   have hst:=hstopN hgo
   by_cases hc:rtakeC s.fin x false = 0
   case neg =>
    by_cases hk0:k = 0
    ·have hR2:=rld_code0 _ _ hRk hst hovb hc (by omega)
     subst hk0
     simp [-It.ea,k0,k5,k6,k8,k11,k12,hlt,hnn,hea,ft,It.d16r,It.d38',hh,htkf,resS,hg,hc]
     exact rldJ_none hR2 (by simp) (by simp)
    ·have hR2:=rld_code1 _ _ hRk hst hovb hc (by omega)
     have hk0':¬ (k:Int) = 0:=by omega
     simp [-It.ea,k0,k5,k6,k8,k11,k12,hlt',hnn,hea,ft,It.d16r,It.d38',hh,htkf,resS,hg,hc,hk0]
     exact rldJ_nil hR2 hE h1 (by simp) (by simp)
   have hN:=rld_next _ _ hRk hst hovb hc
   have hfl2:=hfl _ hc
   simp [-It.ea,k0,k5,k6,k8,k11,k12,hlt',hnn,hea,ft,It.d16r,It.d38',hh,htkf,resS,hg,hc,hw,hwu]
   have e1:=stp_fin (matHolds M.l) lim rtakeL (s:=s) hovb
   obtain ⟨e4,e5⟩:=stp_not (matHolds M.l) lim rtakeL (s:=s) hgo
   have e6:=stp_used (matHolds M.l) lim rtakeL s x
   generalize stepB rtakeL (matHolds M.l) szT lim s x = s2 at *
   exact ⟨k+1,by omega,by omega,s2,by omega,hN,by rw [e4];omega,by omega,by rw [e1];exact hfl2,.of (rtakeL s.fin x false),e1.symm,by omega,.inl ⟨by rw [e4];exact h1,by rw [e5,e6];simp [Sl.of]⟩⟩
  ·have hlen:0 < s.items.length:=by
    rcases Nat.eq_zero_or_pos s.items.length with h | h
    ·exact absurd (List.eq_nil_of_length_eq_zero h) h1
    ·exact h
   have hq0:0 < q:=by omega
   have hk0:¬ k = 0:=by omega
   have hk0':¬ (k:Int) = 0:=by omega
   have hkn:q * 39 = n:=by omega
   have hlk:s.items.length = q:=hq.symm
   have htk2:List.take n (encs s.items) = encs s.items:=List.take_of_length_le (by simp;omega)
   have hm1:(q+1) * 104≤140737488355328:=by omega
   have hm2:q+1≤140737488355328:=by omega
   have hst:=hstopN hgo
   by_cases hc:rtakeC s.fin x false = 0
   case neg =>
    have hR2:=rld_code1 _ _ hRk hst hovb hc (by omega)
    simp [-It.ea,k0,k5,k6,k8,k11,k12,hlt',hnn,hea,ft,It.d16r,It.d38',hh,htkf,resS,hg,hc,hk0]
    exact rldJ_own hR2 hE h1 hn hq (by simp) (by simp)
   have hN:=rld_next _ _ hRk hst hovb hc
   have hfl2:=hfl _ hc
   simp [-It.ea,k0,k5,k6,k8,k11,k12,hlt',hnn,hea,ft,It.d16r,It.d38',hh,htkf,resS,hg,hc,hw,hwu]
   have e1:=stp_fin (matHolds M.l) lim rtakeL (s:=s) hovb
   obtain ⟨e4,e5⟩:=stp_not (matHolds M.l) lim rtakeL (s:=s) hgo
   have e6:=stp_used (matHolds M.l) lim rtakeL s x
   generalize stepB rtakeL (matHolds M.l) szT lim s x = s2 at *
   exact ⟨k+1,by omega,by omega,s2,by omega,hN,by rw [e4];omega,by omega,by rw [e1];exact hfl2,.of (rtakeL s.fin x false),e1.symm,by omega,.inr ⟨by rw [e4];exact h1,n,q,by rw [e4];exact hn,by rw [e4];exact hq,by rw [e4,e5,e6];simp [Sl.of]⟩⟩
 ·rw [hho] at hh
  rcases hH with ⟨h1,rfl⟩ | ⟨h1,n,q,hn,hq,rfl⟩
  ·have hlen:s.items.length = 0:=by rw [h1];rfl
   have hst:=hstopN hgo
   by_cases hc:rtakeC s.fin x true = 0
   case neg =>
    by_cases hk0:k = 0
    ·have hR2:=rld_code0 _ _ hRk hst hovb hc (by omega)
     subst hk0
     simp [-It.ea,k0,k5,k6,k8,k11,k12,hlt,hnn,hea,ft,It.d16r,It.d38',hh,htkt,resS,hg,hov,hc]
     exact rldJ_none hR2 (by simp) (by simp)
    ·have hR2:=rld_code1 _ _ hRk hst hovb hc (by omega)
     have hk0':¬ (k:Int) = 0:=by omega
     simp [-It.ea,k0,k5,k6,k8,k11,k12,hlt',hnn,hea,ft,It.d16r,It.d38',hh,htkt,resS,hg,hov,hc,hk0]
     exact rldJ_nil hR2 hE h1 (by simp) (by simp)
   have hN:=rld_next _ _ hRk hst hovb hc
   have hfl2:=hfl _ hc
   simp [-It.ea,k0,k5,k6,k8,k11,k12,hlt',hnn,hea,ft,It.d16r,It.d38',hh,htkt,resS,hg,hov,hc,hw,hwu]
   have e1:=stp_fin (matHolds M.l) lim rtakeL (s:=s) hovb
   obtain ⟨e4,e5⟩:=stp_not (matHolds M.l) lim rtakeL (s:=s) hgo
   have e6:=stp_used (matHolds M.l) lim rtakeL s x
   generalize stepB rtakeL (matHolds M.l) szT lim s x = s2 at *
   exact ⟨k+1,by omega,by omega,s2,by omega,hN,by rw [e4];omega,by omega,by rw [e1];exact hfl2,.of (rtakeL s.fin x true),e1.symm,by omega,.inl ⟨by rw [e4];exact h1,by rw [e5,e6];simp [Sl.of]⟩⟩
  ·have hlen:0 < s.items.length:=by
    rcases Nat.eq_zero_or_pos s.items.length with h | h
    ·exact absurd (List.eq_nil_of_length_eq_zero h) h1
    ·exact h
   have hq0:0 < q:=by omega
   have hk0:¬ k = 0:=by omega
   have hk0':¬ (k:Int) = 0:=by omega
   have hkn:q * 39 = n:=by omega
   have hlk:s.items.length = q:=hq.symm
   have htk2:List.take n (encs s.items) = encs s.items:=List.take_of_length_le (by simp;omega)
   have hm1:(q+1) * 104≤140737488355328:=by omega
   have hm2:q+1≤140737488355328:=by omega
   have hst:=hstopN hgo
   by_cases hc:rtakeC s.fin x true = 0
   case neg =>
    have hR2:=rld_code1 _ _ hRk hst hovb hc (by omega)
    simp [-It.ea,k0,k5,k6,k8,k11,k12,hlt',hnn,hea,ft,It.d16r,It.d38',hh,htkt,resS,hg,hov,hc,hk0]
    exact rldJ_own hR2 hE h1 hn hq (by simp) (by simp)
   have hN:=rld_next _ _ hRk hst hovb hc
   have hfl2:=hfl _ hc
   simp [-It.ea,k0,k5,k6,k8,k11,k12,hlt',hnn,hea,ft,It.d16r,It.d38',hh,htkt,resS,hg,hov,hc,hw,hwu]
   have e1:=stp_fin (matHolds M.l) lim rtakeL (s:=s) hovb
   obtain ⟨e4,e5⟩:=stp_not (matHolds M.l) lim rtakeL (s:=s) hgo
   have e6:=stp_used (matHolds M.l) lim rtakeL s x
   generalize stepB rtakeL (matHolds M.l) szT lim s x = s2 at *
   exact ⟨k+1,by omega,by omega,s2,by omega,hN,by rw [e4];omega,by omega,by rw [e1];exact hfl2,.of (rtakeL s.fin x true),e1.symm,by omega,.inr ⟨by rw [e4];exact h1,n,q,by rw [e4];exact hn,by rw [e4];exact hq,by rw [e4,e5,e6];simp [Sl.of]⟩⟩
end Go.Ev.S
namespace Go.Ev.S
open Go Go.Proofs Go.Ev
set_option maxRecDepth 4000 in
set_option maxHeartbeats 16000000 in
theorem rbuild_ev (l:Sl It) (hl:l.l.length < 1000000) (m:Mat) (hm:MatB m.rows.l) (lim:Lim) (d:Sl Mk) (hd:d.l.length < 4611686018427387904) (hx:ItsW l.l) :
  ∃ E:Sl Mk,E.l = (rbldP l.l m lim d.l).1.fin∧call cx 15 [(.vsl l.nil (encs l.l) l.l.length),.agg [(.vsl m.rows.nil (encs m.rows.l) m.rows.l.length)],.agg [.int .i64 lim.count,.int .i64 lim.bytes,.int .i64 lim.hard],(.vsl d.nil (encs d.l) d.l.length)] [] = some (.tup [.agg [(.vsl (Sl.grown (rbldP l.l m lim d.l).1.items).nil (encs (Sl.grown (rbldP l.l m lim d.l).1.items).l) (Sl.grown (rbldP l.l m lim d.l).1.items).l.length),(.vsl E.nil (encs E.l) E.l.length),.int .i64 (rbldP l.l m lim d.l).1.used,.int .i64 (rbldP l.l m lim d.l).1.bytes],.int .i64 (rbldP l.l m lim d.l).2],[]):=by
 have f1:=rlim_ev lim
 have f2:=rmatch_ev m hm
 have f3:=krright_ev d hd
 unfold rbldP
 obtain ⟨M⟩:=m
 simp only at f2 hm ⊢
 have key:∃ q,call cx 15 [(.vsl l.nil (encs l.l) l.l.length),.agg [(.vsl M.nil (encs M.l) M.l.length)],.agg [.int .i64 lim.count,.int .i64 lim.bytes,.int .i64 lim.hard],(.vsl d.nil (encs d.l) d.l.length)] [] = some q∧(∃ E:Sl Mk,E.l = (if mayB l.l ⟨M⟩ lim d.l = true then rBld (matHolds M.l) lim l.l ⟨[],d.l,0,0⟩ else (BatS.none,1)).1.fin∧q = (.tup [.agg [(.vsl (Sl.grown (if mayB l.l ⟨M⟩ lim d.l = true then rBld (matHolds M.l) lim l.l ⟨[],d.l,0,0⟩ else (BatS.none,1)).1.items).nil (encs (Sl.grown (if mayB l.l ⟨M⟩ lim d.l = true then rBld (matHolds M.l) lim l.l ⟨[],d.l,0,0⟩ else (BatS.none,1)).1.items).l) (Sl.grown (if mayB l.l ⟨M⟩ lim d.l = true then rBld (matHolds M.l) lim l.l ⟨[],d.l,0,0⟩ else (BatS.none,1)).1.items).l.length),(.vsl E.nil (encs E.l) E.l.length),.int .i64 (if mayB l.l ⟨M⟩ lim d.l = true then rBld (matHolds M.l) lim l.l ⟨[],d.l,0,0⟩ else (BatS.none,1)).1.used,.int .i64 (if mayB l.l ⟨M⟩ lim d.l = true then rBld (matHolds M.l) lim l.l ⟨[],d.l,0,0⟩ else (BatS.none,1)).1.bytes],.int .i64 (if mayB l.l ⟨M⟩ lim d.l = true then rBld (matHolds M.l) lim l.l ⟨[],d.l,0,0⟩ else (BatS.none,1)).2],[])):=by
  obtain ⟨P,hP⟩:∃ P,(if mayB l.l ⟨M⟩ lim d.l = true then rBld (matHolds M.l) lim l.l ⟨[],d.l,0,0⟩ else (BatS.none,1)) = P:=⟨_,rfl⟩
  rw [hP]
  refine call_runE (X:=cx) (f:=15) (H:=[]) (fun q=>∃ E:Sl Mk,E.l = P.1.fin∧q = (.tup [.agg [(.vsl (Sl.grown P.1.items).nil (encs (Sl.grown P.1.items).l) (Sl.grown P.1.items).l.length),(.vsl E.nil (encs E.l) E.l.length),.int .i64 P.1.used,.int .i64 P.1.bytes],.int .i64 P.2],[])) Tryz.func15 rfl ⟨rfl,rfl⟩ ?_
  unfold mayB at hP
  cases h1:limOk lim with
  | false =>
   rw [h1] at f1 hP
   replace hP:(BatS.none,(1:Int)) = P:=hP
   subst hP
   simp [Tryz.f15,f1]
   exact ⟨.none,rfl,⟨rfl,rfl,rfl⟩,⟨rfl,rfl,rfl⟩,rfl,rfl⟩
  | true =>
  rw [h1] at f1 hP
  cases h2:matOk M.l with
  | false =>
   rw [h2] at f2 hP
   replace hP:(BatS.none,(1:Int)) = P:=hP
   subst hP
   simp [Tryz.f15,f1,f2]
   exact ⟨.none,rfl,⟨rfl,rfl,rfl⟩,⟨rfl,rfl,rfl⟩,rfl,rfl⟩
  | true =>
  rw [h2] at f2 hP
  cases h3:rightM d.l with
  | false =>
   rw [h3] at f3 hP
   replace hP:(BatS.none,(1:Int)) = P:=hP
   subst hP
   simp [Tryz.f15,f1,f2,f3]
   exact ⟨.none,rfl,⟨rfl,rfl,rfl⟩,⟨rfl,rfl,rfl⟩,rfl,rfl⟩
  | true =>
  rw [h3] at f3 hP
  have hd4:d.l.length≤4:=rightM_le h3
  have hcount:=lim_is h1
  simp only [Bool.true_and] at hP
  simp [Tryz.f15,f1,f2,f3]
  refine Run.loopThen (fun (i:Nat) e H=>i≤l.l.length∧H = [some [(.vsl M.nil (encs M.l) M.l.length)],some [.int .i64 lim.count,.int .i64 lim.bytes,.int .i64 lim.hard],some [.vsl true [] 0,.vsl true [] 0,.int .i64 0,.int .i64 0]]∧look e 0 = some (.vsl l.nil (encs l.l) l.l.length)∧look e 3 = some (.vsl d.nil (encs d.l) d.l.length)∧look e 5 = some (.optr 0 1 0)∧look e 6 = some (.optr 1 3 0)∧look e 8 = some (.optr 2 4 0)∧look e 10 = some (.int .i64 i)∧(if (l.l.drop i).all itOk = true then rBld (matHolds M.l) lim l.l ⟨[],d.l,0,0⟩ else (BatS.none,1)) = P∧((l.l.take i).all itOk = true)) (fun i=>l.l.length - i) 0 ⟨Nat.zero_le _,rfl,by simp,by simp,by simp,by simp,by simp,by simp,by simpa using hP,by simp⟩ ?_
  rintro i e H ⟨hi,rfl,k0,k3,k5,k6,k8,k10,hPi,hti⟩
  by_cases hlt:i < l.l.length
  ·have hlt':(i:Int) < (l.l.length:Int):=by omega
   have hw:IntKind.i64.wrap ((i:Int)+1) = ((i+1:Nat):Int):=by rw [wrap_i64] <;> omega
   obtain ⟨w1,w2,w3⟩:=hx _ (List.getElem_mem hlt)
   have hs:=rright_evX l.l[i] w1 w3 w2
   have hea:List.drop (i * 39) (encs l.l) = Enc.cells l.l[i] ++ encs (l.l.drop (i+1)):=It.ea hlt
   have hnn:=Sl.nn hlt
   rw [List.drop_eq_getElem_cons hlt,List.all_cons] at hPi
   cases hxi:itOk l.l[i] with
   | true =>
    rw [hxi] at hs hPi
    have ht1:(l.l.take (i+1)).all itOk = true:=by
     rw [List.take_succ_eq_append_getElem hlt,List.all_append,hti,List.all_cons,hxi]
     rfl
    generalize l.l[i] = x at *
    simp [-It.ea,k0,k3,k5,k6,k8,k10,hlt',hnn,hea,hs,hw]
    exact ⟨i+1,by omega,by omega,by omega,by simpa using hPi,by simpa using ht1⟩
   | false =>
    rw [hxi] at hs hPi
    replace hPi:(BatS.none,(1:Int)) = P:=hPi
    subst hPi
    generalize l.l[i] = x at *
    simp [-It.ea,k0,k3,k5,k6,k8,k10,hlt',hnn,hea,hs]
    exact ⟨.none,rfl,⟨rfl,rfl,rfl⟩,⟨rfl,rfl,rfl⟩,rfl,rfl⟩
  ·have hil:i = l.l.length:=by omega
   subst hil
   have hlt':¬ (l.l.length:Int) < (l.l.length:Int):=by omega
   rw [List.take_length] at hti
   rw [List.all_eq_true] at hti
   rw [List.drop_length] at hPi
   replace hPi:rBld (matHolds M.l) lim l.l ⟨[],d.l,0,0⟩ = P:=hPi
   have hlp:=fun e H=>rld_loop l hl M hm lim hcount.1 hcount.2.2.2.1 hcount.2.2.1 (fun x h=>(hx x h).1) hti P d hd4 hPi e H
   simp only [LRld,cAt,bodyOf,Tryz.f15,Option.getD,stripC,stripL,stripOp] at hlp
   simp [k0,k3,k5,k6,k8,k10]
   refine Run.mono (hlp _ _ (by simp) (by simp) (by simp) (by simp) (by simp) (by simp) (.inl ⟨rfl,rfl⟩)) ?_
   intro ex e' H' hJ
   cases ex with
   | normal=>exact hJ.elim
   | ret =>
    obtain ⟨E,hE,j8,j9,⟨hi0,T,rfl⟩ | ⟨hi0,n,q,x,T,hn,hq,rfl⟩⟩:=hJ
    ·simp [j8,j9]
     exact ⟨E,hE,⟨by rw [hi0];rfl,by rw [hi0];rfl,by rw [hi0];rfl⟩,rfl,rfl,rfl⟩
    ·subst hn hq
     have htk:List.take P.1.items.length P.1.items = P.1.items:=List.take_length
     simp [j8,j9,htk]
     exact ⟨E,hE,List.isEmpty_eq_false_iff.2 hi0,rfl,rfl,rfl⟩
   | exit i =>
    obtain ⟨rfl,s,E,hRs,hE,j8,j11,hX⟩:=hJ
    subst hRs
    rcases hX with ⟨hi0,rfl⟩ | ⟨hi0,n,q,hn,hq,rfl⟩
    ·simp [j8,j11]
     exact ⟨E,hE,⟨by rw [hi0];rfl,by rw [hi0];rfl,by rw [hi0];rfl⟩,rfl,rfl,rfl⟩
    ·subst hn hq
     have htk:List.take s.items.length s.items = s.items:=List.take_length
     simp [j8,j11,htk]
     exact ⟨E,hE,List.isEmpty_eq_false_iff.2 hi0,rfl,rfl,rfl⟩
 obtain ⟨q,h,E,e1,e2⟩:=key
 exact ⟨E,e1,by rw [h,e2]⟩
end Go.Ev.S
namespace Go.Ev.S
open Go Go.Proofs Go.Ev
end Go.Ev.S
namespace Go.Ev.S
open Go Go.Proofs Go.Ev
theorem idN_lt:∀ j < 4,∀ i < j,cmpB (idN i).l (idN j).l < 0:=by decide
structure FewN (i:Nat) (l:List Mk):Prop where
 rises:risesM l = true
 ok:∀ m∈l,m.Ok
 id:∀ m∈l,∃ j,j < i∧m.id = idN j
 len:l.length≤i
theorem rises_snocN:∀ {l:List Mk} {m:Mk},risesM l = true→(∀ x∈l,cmpB x.id.l m.id.l < 0)→risesM (l ++ [m]) = true
 | [],_,_,_=>rfl
 | [a],m,_,h=>by simp [risesM,h a (List.mem_cons_self ..)]
 | a :: b :: l,m,hr,h=>by
  simp only [risesM,Bool.and_eq_true] at hr
  have:=rises_snocN (l:=b :: l) hr.2 fun x hx=>h x (List.mem_cons_of_mem _ hx)
  simp only [List.cons_append,risesM,Bool.and_eq_true] at this ⊢
  exact ⟨hr.1,this⟩
theorem FewN.same {i:Nat} {l:List Mk} (h:FewN i l):FewN (i+1) l :=
 ⟨h.rises,h.ok,fun m hm=>by obtain ⟨j,h1,h2⟩:=h.id m hm;exact ⟨j,by omega,h2⟩,by have:=h.len;omega⟩
theorem FewN.add {i:Nat} {l:List Mk} (h:FewN i l) (hi:i < 4) {a b c:Nat} (ha:a < 1000) (hb:b < 1000) (hc:c < 1000):FewN (i+1) (l ++ [⟨idN i,a,b,c⟩]):=by
 refine ⟨rises_snocN h.rises fun x hx=>?_,fun m hm=>?_,fun m hm=>?_,by have:=h.len;simp;omega⟩
 ·obtain ⟨j,h1,h2⟩:=h.id x hx
  rw [h2]
  exact idN_lt i hi j h1
 ·rcases List.mem_append.1 hm with h' | h'
  ·exact h.ok m h'
  ·rw [List.mem_singleton.1 h']
   exact ⟨by simp only [isU64];omega,by simp only [isU64];omega,by simp only [isU64];omega⟩
 ·rcases List.mem_append.1 hm with h' | h'
  ·obtain ⟨j,h1,h2⟩:=h.id m h'
   exact ⟨j,by omega,h2⟩
  ·rw [List.mem_singleton.1 h']
   exact ⟨i,by omega,rfl⟩
def GrowM (S:List D) (l:List Mk) (d:D) (H:Heap):Prop :=
 (l = []∧d = .vsl true [] 0∧H = [some S])∨(l≠[]∧∃ n k t,n = l.length * 19∧k = l.length∧((d = .osl 2 n 0 k 19∧H = [some S,some t,some (encs l)])∨(d = .osl 1 n 0 k 19∧H = [some S,some (encs l),some t])∨(d = .osl 1 n 0 k 19∧H = [some S,some (encs l)])))
def MksQ (nil:Bool) (zs:List Int) (q:D × Heap):Prop:= ∃ (l:List Mk) (k':Nat),FewN 4 l∧q = ((.vsl ((⟨l.isEmpty,l,fun h=>by simpa using h⟩:Sl Mk)).nil (encs ((⟨l.isEmpty,l,fun h=>by simpa using h⟩:Sl Mk)).l) ((⟨l.isEmpty,l,fun h=>by simpa using h⟩:Sl Mk)).l.length),[some (seqD nil zs k')])
set_option maxHeartbeats 2000000 in
theorem mmarks_ev [TxtC] (nil:Bool) (zs:List Int) (hnil:nil = true→zs = []) (hz:zs.length≤1000000) (k:Nat) :
  ∃ q,call cx 12 [.optr 0 2 0] [some (seqD nil zs k)] = some q∧MksQ nil zs q:=by
 refine call_runE (X:=cx) (f:=12) (args:=[.optr 0 2 0]) (H:=[some (seqD nil zs k)]) (MksQ nil zs) Tryz.func12 rfl ⟨rfl,rfl⟩ ?_
 have sf:=seqD_free nil zs
 have sl:=seqD_len nil zs
 have sc:=seqD_cl nil zs
 simp [Tryz.f12]
 refine Run.loopThen (fun (q:List Mk × Nat × Nat) e H'=>q.2.1≤4∧FewN q.2.1 q.1∧look e 0 = some (.optr 0 2 0)∧look e 4 = some (.int .i64 (q.2.1:Nat))∧∃ d,look e 3 = some d∧GrowM (seqD nil zs q.2.2) q.1 d H') (fun q=>4 - q.2.1) ([],0,k) ?_ ?_
 ·exact ⟨by simp,⟨rfl,by simp,by simp,by simp⟩,by simp,by simp,_,by simp,.inl ⟨rfl,rfl,rfl⟩⟩
 rintro ⟨l,i,k1⟩ e H' ⟨hi,hf,k0,k4,d,k3,hH⟩
 simp only at hi hf k4 hH
 have hlen:=hf.len
 obtain ⟨x,k2,hx,-,c1⟩:=n_ev nil zs hnil hz k1 2 (by decide) (by decide)
 obtain ⟨a,k5,ha,-,c2⟩:=n_ev nil zs hnil hz k2 9 (by decide) (by decide)
 obtain ⟨b,k6,hb,-,c3⟩:=n_ev nil zs hnil hz k5 9 (by decide) (by decide)
 obtain ⟨c,k7,hc,-,c4⟩:=n_ev nil zs hnil hz k6 9 (by decide) (by decide)
 have hw:IntKind.i64.wrap ((i:Int)+1) = ((i+1:Nat):Int):=by rw [wrap_i64] <;> omega
 have wa:IntKind.u64.wrap (a:Int) = (a:Int):=by rw [wrap_u64];omega
 have wb:IntKind.u64.wrap (b:Int) = (b:Int):=by rw [wrap_u64];omega
 have wc:IntKind.u64.wrap (c:Int) = (c:Int):=by rw [wrap_u64];omega
 rcases hH with ⟨rfl,rfl,rfl⟩ | ⟨hne,n,m,t,hn,hm,hH⟩
 ·by_cases h4:i < 4
  ·have h4i:(i:Int) < 4:=by omega
   have hid:=mid_small (j:=i) (by omega)
   have hadd:=hf.add h4 (a:=a) (b:=b) (c:=c) (by omega) (by omega) (by omega)
   have hsame:=hf.same
   generalize idN i = q at *
   have hq:=q.h
   have hq16:List.take 16 (ofBytes q.l) = ofBytes q.l:=List.take_of_length_le (by simp)
   by_cases hx1:x = 1
   ·subst hx1
    simp [k0,k3,k4,h4i,c1,c2,c3,c4,hid,sf,sc,hw,wa,wb,wc,hq,maxBytes,List.take_append,List.drop_append,drop_bytes]
    exact ⟨[⟨q,a,b,c⟩],i+1,by omega,by omega,hadd,by simp,k7,.inr ⟨by simp,19,1,_,rfl,rfl,.inl ⟨rfl,by rw [encs_one];rfl⟩⟩⟩
   ·have hx1':¬ (x:Int) = 1:=by omega
    simp [k0,k3,k4,h4i,c1,hx1',sf,sc,hw]
    exact ⟨[],i+1,by omega,by omega,hsame,by simp,k2,.inl ⟨rfl,rfl,rfl⟩⟩
  ·have h4i:¬ (i:Int) < 4:=by omega
   simp [k0,k3,k4,h4i,sc]
   have hi4:i = 4:=by omega
   subst hi4
   exact ⟨[],k1,hf,rfl⟩
 ·have hlk:l.length = m:=hm.symm
  have hkn:m * 19 = n:=by omega
  have htk:List.take n (encs l) = encs l:=List.take_of_length_le (by simp;omega)
  have hm1:(m+1) * 40≤140737488355328:=by omega
  have hm2:m+1≤140737488355328:=by omega
  by_cases h4:i < 4
  ·have h4i:(i:Int) < 4:=by omega
   have hid:=mid_small (j:=i) (by omega)
   have hadd:=hf.add h4 (a:=a) (b:=b) (c:=c) (by omega) (by omega) (by omega)
   have hsame:=hf.same
   generalize idN i = q at *
   have hq:=q.h
   have hq16:List.take 16 (ofBytes q.l) = ofBytes q.l:=List.take_of_length_le (by simp)
   rcases hH with ⟨rfl,rfl⟩ | ⟨rfl,rfl⟩ | ⟨rfl,rfl⟩
   all_goals
    by_cases hx1:x = 1
    ·subst hx1
     simp [k0,k3,k4,h4i,c1,c2,c3,c4,hid,sf,sc,hw,wa,wb,wc,hq,maxBytes,List.take_append,List.drop_append,drop_bytes,hlk,hkn,hm1,hm2]
     exact ⟨l ++ [⟨q,a,b,c⟩],i+1,by omega,by omega,hadd,by simp,k7,.inr ⟨by simp,n+19,m+1,_,by simp;omega,by simp [hlk],.inr (.inl ⟨rfl,by rw [encs_snoc];rfl⟩)⟩⟩
    ·have hx1':¬ (x:Int) = 1:=by omega
     simp [k0,k3,k4,h4i,c1,hx1',sf,sc,hw]
     exact ⟨l,i+1,by omega,by omega,hsame,by simp,k2,.inr ⟨hne,n,m,[],hn,hm,.inr (.inr ⟨rfl,rfl⟩)⟩⟩
  ·have h4i:¬ (i:Int) < 4:=by omega
   have hie:l.isEmpty = false:=by simpa using hne
   rcases hH with ⟨rfl,rfl⟩ | ⟨rfl,rfl⟩ | ⟨rfl,rfl⟩
   all_goals
    simp [k0,k3,k4,h4i,sc,hlk,hkn,htk]
    have hi4:i = 4:=by omega
    subst hi4
    exact ⟨l,k1,hf,by simp [hie,hlk]⟩
end Go.Ev.S
namespace Go.Ev.S
open Go Go.Proofs Go.Ev
theorem fin_small (hd:List Pr→Bool) (sz:It→Nat) (lim:Lim):∀ (l:List It) (s:BatS),s.fin.length≤8→(bldGo takeC takeL hd sz lim l s).1.fin.length≤8
 | [],_,h=>h
 | x :: l,s,h=>by
  unfold bldGo
  by_cases h1:stopB hd sz lim s x = true
  ·rw [if_pos h1]
   exact h
  rw [if_neg h1]
  by_cases h2:takeC s.fin x≠0
  ·rw [if_pos h2]
   split
   ·exact Nat.zero_le _
   ·exact h
  ·rw [if_neg h2]
   refine fin_small hd sz lim l _ ?_
   have h3:mayM s.fin x.id = 0:=by
    by_cases h4:mayM s.fin x.id = 0
    ·exact h4
    ·exfalso
     apply h2
     unfold takeC
     rw [if_pos h4]
     exact h4
   have h5:=rightM_le (right_of_may h3)
   have h6:=takeL_len (f:=s.fin) (x:=x) (o:=overB hd sz lim x)
   show (takeL s.fin x (overB hd sz lim x)).length≤8
   omega
theorem same_bld (T:Sl It) (hl:T.l.length≤1000) (hx:ItsW T.l) (M:Sl Row) (hm:MatB M.l) (lim:Lim) (d:Sl Mk) (hd:d.l.length≤8) (hok:OkM d.l) :
  ∃ (I:List It) (F:List Mk) (E:Sl Mk) (u b:Nat) (c:Int),call cx 14 [(.vsl T.nil (encs T.l) T.l.length),.agg [(.vsl M.nil (encs M.l) M.l.length)],.agg [.int .i64 lim.count,.int .i64 lim.bytes,.int .i64 lim.hard],(.vsl d.nil (encs d.l) d.l.length)] [] = some (.tup [.agg [.vsl I.isEmpty (encs (I.map nrmF)) I.length,.vsl F.isEmpty (encs F) F.length,.int .i64 u,.int .i64 b],.int .i64 c],[]) ∧
   call cx 15 [(.vsl T.nil (encs T.l) T.l.length),.agg [(.vsl M.nil (encs M.l) M.l.length)],.agg [.int .i64 lim.count,.int .i64 lim.bytes,.int .i64 lim.hard],(.vsl d.nil (encs d.l) d.l.length)] [] = some (.tup [.agg [.vsl I.isEmpty (encs I) I.length,(.vsl E.nil (encs E.l) E.l.length),.int .i64 u,.int .i64 b],.int .i64 c],[]) ∧
   call cx 16 [.agg [.vsl I.isEmpty (encs (I.map nrmF)) I.length,.vsl F.isEmpty (encs F) F.length,.int .i64 u,.int .i64 b],.agg [.vsl I.isEmpty (encs I) I.length,(.vsl E.nil (encs E.l) E.l.length),.int .i64 u,.int .i64 b]] [] = some (.bool true,[]):=by
 have hxo:∀ x∈T.l,x.Ok:=fun x h=>(hx x h).1
 have hb:=bbuild_ev T (by omega) ⟨M⟩ hm lim d (by omega) hxo
 obtain ⟨E,hE,hr⟩:=rbuild_ev T (by omega) ⟨M⟩ hm lim d (by omega) hx
 have hpr:rbldP T.l ⟨M⟩ lim d.l = bldP T.l ⟨M⟩ lim d.l:=by
  unfold rbldP bldP rBld
  rw [bld_ref (matHolds M.l) szT lim T.l ⟨[],d.l,0,0⟩ hok hxo]
 rw [hpr] at hr hE
 have hsub:(∀ x∈(bldP T.l ⟨M⟩ lim d.l).1.items,x∈T.l)∧(bldP T.l ⟨M⟩ lim d.l).1.items.length≤T.l.length∧(bldP T.l ⟨M⟩ lim d.l).1.fin.length < 4000000:=by
  unfold bldP
  split
  ·obtain ⟨h1,h2⟩:=bld_sub takeC takeL (matHolds M.l) szT lim T.l ⟨[],d.l,0,0⟩
   have h3:=fin_small (matHolds M.l) szT lim T.l ⟨[],d.l,0,0⟩ hd
   refine ⟨fun x h=>?_,?_,?_⟩
   ·rcases h1 x h with h | h
    ·cases h
    ·exact h
   ·have h4:(bldGo takeC takeL (matHolds M.l) szT lim T.l ⟨[],d.l,0,0⟩).1.items.length≤([]:List It).length+T.l.length:=h2
    rw [List.length_nil] at h4
    show (bldGo takeC takeL (matHolds M.l) szT lim T.l ⟨[],d.l,0,0⟩).1.items.length≤T.l.length
    omega
   ·exact Nat.lt_of_le_of_lt h3 (by decide)
  ·exact ⟨fun x h=>(List.not_mem_nil h).elim,Nat.zero_le _,show (0:Nat) < _ by decide⟩
 unfold bOut at hb
 generalize bldP T.l ⟨M⟩ lim d.l = P at *
 obtain ⟨hs1,hs2,hs3⟩:=hsub
 have eG:(Sl.grown (P.1.items.map nrmF)).nil = P.1.items.isEmpty:=by
  show (P.1.items.map nrmF).isEmpty = _
  cases P.1.items <;> rfl
 have hsm:=same_evB (Sl.grown (P.1.items.map nrmF)) (Sl.grown P.1.items) (fun x h=>by
  obtain ⟨y,hy,rfl⟩:=List.mem_map.1 h
  exact (hx y (hs1 y hy)).2.1) (fun x h=>(hx x (hs1 x h)).2.1) (by rw [Sl.grown_l,List.length_map];omega) (by rw [Sl.grown_l,Sl.grown_l];exact sameIs_nrm _) (Sl.grown P.1.fin) E (by rw [Sl.grown_l];omega) (by rw [Sl.grown_l,hE]) P.1.used P.1.bytes
 rw [eG,Sl.grown_l,List.length_map] at hsm
 exact ⟨P.1.items,P.1.fin,E,P.1.used,P.1.bytes,P.2,hb,hr,hsm⟩
noncomputable def LSay:Code:=cAt [1,1,1,1,1,1,1,1,1,1,0,1,0,0] (stripC (bodyOf Tryz.f3))
def SayJ (lim:Lim):Ex→Env→Heap→Prop
 | .exit i,e,H=>i = 2∧look e 8 = some (.vptr [.int .i64 lim.count,.int .i64 lim.bytes,.int .i64 lim.hard])∧look e 13 = some (.bool true)∧H = []
 | _,_,_=>False
set_option maxRecDepth 4000 in
set_option maxHeartbeats 16000000 in
theorem says_loop (M:Sl Row) (hm:MatB M.l) (lim:Lim) (d:Sl Mk) (hd:d.l.length≤8) (hok:OkM d.l) (T0 T1 T2:Sl It) (h0:T0.l.length≤1000∧ItsW T0.l) (h1:T1.l.length≤1000∧ItsW T1.l) (h2:T2.l.length≤1000∧ItsW T2.l) (e:Env) (k4:look e 4 = some (.vsl d.nil (encs d.l) d.l.length)) (k8:look e 8 = some (.vptr [.int .i64 lim.count,.int .i64 lim.bytes,.int .i64 lim.hard])) (k13:look e 13 = some (.bool true)) (k16:look e 16 = some (.vptr [(.vsl M.nil (encs M.l) M.l.length)])) (k18:look e 18 = some (.vsl false [(.vsl T0.nil (encs T0.l) T0.l.length),(.vsl T1.nil (encs T1.l) T1.l.length),(.vsl T2.nil (encs T2.l) T2.l.length)] 3)) (k19:look e 19 = some (.int .i64 0)) :
  Run cx 3 126 0 (SayJ lim) [] (code cx 3 126 0 (.loop LSay) e []):=by
 refine Run.loop (fun (q:Nat) e H=>q≤3∧look e 4 = some (.vsl d.nil (encs d.l) d.l.length)∧look e 8 = some (.vptr [.int .i64 lim.count,.int .i64 lim.bytes,.int .i64 lim.hard])∧look e 13 = some (.bool true)∧look e 16 = some (.vptr [(.vsl M.nil (encs M.l) M.l.length)])∧look e 18 = some (.vsl false [(.vsl T0.nil (encs T0.l) T0.l.length),(.vsl T1.nil (encs T1.l) T1.l.length),(.vsl T2.nil (encs T2.l) T2.l.length)] 3)∧look e 19 = some (.int .i64 (q:Nat))∧H = []) (fun q=>3 - q) ?_ 0 e [] ⟨by decide,k4,k8,k13,k16,k18,k19,rfl⟩
 clear k4 k8 k13 k16 k18 k19
 rintro k e H ⟨hk,k4,k8,k13,k16,k18,k19,rfl⟩
 simp only [LSay,cAt,bodyOf,Tryz.f3,Option.getD,stripC,stripL,stripOp]
 have h3:k = 0∨k = 1∨k = 2∨k = 3:=by omega
 rcases h3 with rfl | rfl | rfl | rfl
 ·obtain ⟨I,F,E,u,b,c,b1,b2,b3⟩:=same_bld T0 h0.1 h0.2 M hm lim d hd hok
  simp [k4,k8,k13,k16,k18,k19,b1,b2,b3]
  exact ⟨1,by omega,by omega,rfl⟩
 ·obtain ⟨I,F,E,u,b,c,b1,b2,b3⟩:=same_bld T1 h1.1 h1.2 M hm lim d hd hok
  simp [k4,k8,k13,k16,k18,k19,b1,b2,b3]
  exact ⟨2,by omega,by omega,rfl⟩
 ·obtain ⟨I,F,E,u,b,c,b1,b2,b3⟩:=same_bld T2 h2.1 h2.2 M hm lim d hd hok
  simp [k4,k8,k13,k16,k18,k19,b1,b2,b3]
  exact ⟨3,by omega,by omega,rfl⟩
 ·simp [k4,k8,k13,k16,k18,k19]
  exact ⟨rfl,by simp,by simp,rfl⟩
def SayE (n1:Bool) (z1:List Int) (n2:Bool) (z2:List Int) (own:Bool) (d:Sl Mk) (T:Sl It) (lims:Lim) (e:Env) (H:Heap):Prop :=
 look e 0 = some (.vsl n1 (intsK .i64 z1) z1.length)∧look e 1 = some (.vsl n2 (intsK .i64 z2) z2.length)∧look e 3 = some (.bool own)∧look e 4 = some (.vsl d.nil (encs d.l) d.l.length)∧look e 5 = some (.vsl T.nil (encs T.l) T.l.length)∧look e 8 = some (.optr 0 3 0)∧look e 13 = some (.bool true)∧H = [some [.int .i64 lims.count,.int .i64 lims.bytes,.int .i64 lims.hard]]
set_option maxRecDepth 4000 in
set_option maxHeartbeats 16000000 in
theorem bsays_ev (n1:Bool) (z1:List Int) (h1:n1 = true→z1 = []) (n2:Bool) (z2:List Int) (h2:n2 = true→z2 = []) (lims:Lim) (own:Bool) (d:Sl Mk) (hok:∀ m∈d.l,m.Ok) (T:Sl It) (hT:∀ x∈T.l,x.Ok∧x.rc.Fit) :
  call cx 3 [.vsl n1 (intsK .i64 z1) z1.length,.vsl n2 (intsK .i64 z2) z2.length,.agg [.int .i64 lims.count,.int .i64 lims.bytes,.int .i64 lims.hard],.bool own,(.vsl d.nil (encs d.l) d.l.length),(.vsl T.nil (encs T.l) T.l.length)] [] = some (.bool true,[]):=by
 have f0:=first_evB
 refine call_run Tryz.func3 rfl ⟨rfl,rfl⟩ ?_
 by_cases hz1:z1.length≤300
 case neg =>
  have hz1':(300:Int) < (z1.length:Int):=by omega
  simp [Tryz.f3,f0,hz1']
 have hz1':¬ (300:Int) < (z1.length:Int):=by omega
 by_cases hz2:z2.length≤60
 case neg =>
  have hz2':(60:Int) < (z2.length:Int):=by omega
  simp [Tryz.f3,f0,hz1',hz2']
 have hz2':¬ (60:Int) < (z2.length:Int):=by omega
 by_cases hd:d.l.length≤8
 case neg =>
  have hd':(8:Int) < (d.l.length:Int):=by omega
  simp [Tryz.f3,f0,hz1',hz2',hd']
 have hd':¬ (8:Int) < (d.l.length:Int):=by omega
 by_cases ht:T.l.length≤3
 case neg =>
  have ht':(3:Int) < (T.l.length:Int):=by omega
  simp [Tryz.f3,f0,hz1',hz2',hd',ht']
 have ht':¬ (3:Int) < (T.l.length:Int):=by omega
 simp [Tryz.f3,f0,hz1',hz2',hd',ht']
 refine Run.loopThen (fun (i:Nat) e H=>i≤T.l.length∧(∀ x∈T.l.take i,x.rc.fields.l.length≤20)∧SayE n1 z1 n2 z2 own d T lims e H∧look e 14 = some (.int .i64 (i:Nat))) (fun i=>T.l.length - i) 0 ⟨Nat.zero_le _,by simp,⟨by simp,by simp,by simp,by simp,by simp,by simp,by simp,rfl⟩,by simp⟩ ?_
 rintro i e H ⟨hiT,hfs,⟨k0,k1,k3,k4,k5,k8,k13,rfl⟩,k14⟩
 by_cases hlt:i < T.l.length
 ·have hlt':(i:Int) < (T.l.length:Int):=by omega
  have hw:IntKind.i64.wrap ((i:Int)+1) = ((i+1:Nat):Int):=by rw [wrap_i64] <;> omega
  have hea:List.drop (i * 39) (encs T.l) = Enc.cells T.l[i] ++ encs (T.l.drop (i+1)):=It.ea hlt
  have hTn:=Sl.nn hlt
  have hts:T.l.take (i+1) = T.l.take i ++ [T.l[i]]:=List.take_succ_eq_append_getElem hlt
  generalize T.l[i] = x at *
  by_cases h20:x.rc.fields.l.length≤20
  case neg =>
   have h20':(20:Int) < (x.rc.fields.l.length:Int):=by omega
   simp [-It.ea,k0,k1,k3,k4,k5,k8,k13,k14,hlt',hTn,hea,It.d38',h20']
  have h20':¬ (20:Int) < (x.rc.fields.l.length:Int):=by omega
  simp [-It.ea,k0,k1,k3,k4,k5,k8,k13,k14,hlt',hTn,hea,It.d38',h20',hw]
  exact ⟨i+1,by omega,by omega,fun y hy=>by
   rw [hts] at hy
   rcases List.mem_append.1 hy with h | h
   ·exact hfs y h
   ·rw [List.mem_singleton.1 h]
    exact h20,⟨by simp,by simp,by simp,by simp,by simp [hTn],by simp,by simp,rfl⟩,by omega⟩
 ·have hlt':¬ (i:Int) < (T.l.length:Int):=by omega
  have hfs':∀ x∈T.l,x.rc.fields.l.length≤20:=fun x hx=>hfs x (by rw [List.take_of_length_le (by omega)];exact hx)
  obtain ⟨j,k1',hj5,ha⟩:=asks_ev n2 z2 h2 (by omega) 0
  obtain ⟨lim2,k2',hlo,hl⟩:=limits_ev n2 z2 h2 (by omega) k1'
  obtain ⟨qm,hm,dl,k3',hfew,hmq⟩:=mmarks_ev n2 z2 h2 (by omega) k2'
  subst hmq
  obtain ⟨q,hq,L,k4',hL30,hLm,-,hseq,hsh⟩:=items_evr n1 z1 h1 (by omega) 0 30 (by decide)
  have hmb:=asks_b j
  generalize (asksM j).rows = M at *
  have sf2:=seqD_free n2 z2
  have sl2:=seqD_len n2 z2
  have sc2:=seqD_cl n2 z2
  have sf1:=seqD_free n1 z1
  have sl1:=seqD_len n1 z1
  have sc1:=seqD_cl n1 z1
  replace ha:call cx 10 [.optr 0 2 0] [some [.vsl n2 (intsK .i64 z2) z2.length,.int .i64 0]] = some (.agg [(.vsl M.nil (encs M.l) M.l.length)],[some (seqD n2 z2 k1')]):=ha
  have hm1:L.length * 104≤140737488355328:=by omega
  have hm2:L.length≤140737488355328:=by omega
  have hm3:(L.length+T.l.length) * 104≤140737488355328:=by omega
  have hm4:L.length+T.l.length≤140737488355328:=by omega
  have hm5:T.l.length * 104≤140737488355328:=by omega
  have hm6:T.l.length≤140737488355328:=by omega
  have hw2:T.l.length≤1000∧ItsW T.l:=⟨by omega,fun x hx=>⟨(hT x hx).1,by have:=hfs' x hx;omega,fun p hp=>((hT x hx).2.2 p hp).1⟩⟩
  have hw0':ItsW L:=fun x hx=>⟨(hLm x hx).1,(made_b (hLm x hx).1 (hLm x hx).2.1).1,fun p hp=>by have:=((made_b (hLm x hx).1 (hLm x hx).2.1).2 p hp).1;omega⟩
  have hw0:(Sl.grown L).l.length≤1000∧ItsW (Sl.grown L).l:=⟨by rw [Sl.grown_l];omega,hw0'⟩
  have hw1:(Sl.of (L ++ T.l)).l.length≤1000∧ItsW (Sl.of (L ++ T.l)).l:=⟨by show (L ++ T.l).length≤_;rw [List.length_append];omega,fun x hx=>by
   rcases List.mem_append.1 hx with h | h
   ·exact hw0' x h
   ·exact hw2.2 x h⟩
  cases own with
  | true =>
   have hlp:=fun e k4 k8 k13 k16 k18 k19=>says_loop M hmb lims d hd hok (Sl.grown L) (Sl.of (L ++ T.l)) T hw0 hw1 hw2 e k4 k8 k13 k16 k18 k19
   simp only [LSay,cAt,bodyOf,Tryz.f3,Option.getD,stripC,stripL,stripOp] at hlp
   have g1:=blim_ev lims
   have g2:=rlim_ev lims
   rcases hsh with ⟨hL0,hqe⟩ | ⟨hne,n',m',hn',hm',hqe⟩
   ·subst hqe
    replace hq:call cx 13 [.optr 0 2 0,.int .i64 30] [some [.vsl n1 (intsK .i64 z1) z1.length,.int .i64 0]] = some (.vsl true [] 0,[some (seqD n1 z1 k4')]):=hq
    simp [k0,k1,k3,k4,k5,k8,k13,k14,hlt',ha,hq,sf1,sf2,maxBytes,hm5,hm6]
    refine Run.mono (hlp _ (by simp) (by simp) (by simp) (by simp) (by simp [hL0,Sl.grown,Sl.of]) (by simp)) ?_
    intro ex e' H' hJ
    cases ex with
    | normal=>exact hJ.elim
    | ret=>exact hJ.elim
    | exit i =>
     obtain ⟨rfl,j8,j13,rfl⟩:=hJ
     simp [j8,j13,g1,g2]
   ·subst hqe hn' hm'
    obtain ⟨w,hw⟩:∃ w,L.length = w:=⟨_,rfl⟩
    obtain ⟨v,hv⟩:∃ v,T.l.length = v:=⟨_,rfl⟩
    have hl0:¬ w = 0:=fun h=>hne (List.length_eq_zero_iff.1 (by omega))
    have htw:List.take w L = L:=List.take_of_length_le (by omega)
    have htv:List.take v T.l = T.l:=List.take_of_length_le (by omega)
    have htk:List.take (w * 39+v * 39) (encs L ++ encs T.l) = encs L ++ encs T.l:=List.take_of_length_le (by rw [List.length_append,It.el,It.el,hw,hv];omega)
    have hiv:¬ i < v:=by omega
    have hm7:(w+v) * 39 = w * 39+v * 39:=by omega
    replace hq:call cx 13 [.optr 0 2 0,.int .i64 30] [some [.vsl n1 (intsK .i64 z1) z1.length,.int .i64 0]] = some (.osl 1 (w * 39) 0 w 39,[some (seqD n1 z1 k4'),some (encs L)]):=by rw [← hw];exact hq
    rw [hw] at hm1 hm2 hm3 hm4
    rw [hv] at hm3 hm4 hm5 hm6
    simp [k0,k1,k3,k4,k5,k8,k13,k14,ha,hq,sf1,sf2,maxBytes,hm1,hm2,hm3,hm4,hm7,hw,hv,htw,htk,hiv]
    refine Run.mono (hlp _ (by simp) (by simp) (by simp) (by simp) (by simp [hne,hw,hv,Sl.grown,Sl.of,encs_append]) (by simp)) ?_
    intro ex e' H' hJ
    cases ex with
    | normal=>exact hJ.elim
    | ret=>exact hJ.elim
    | exit i =>
     obtain ⟨rfl,j8,j13,rfl⟩:=hJ
     simp [j8,j13,g1,g2]
  | false =>
   have hlp:=fun e k4 k8 k13 k16 k18 k19=>says_loop M hmb lim2 ⟨dl.isEmpty,dl,fun h=>by simpa using h⟩ (Nat.le_trans hfew.len (by decide)) hfew.ok (Sl.grown L) (Sl.of (L ++ T.l)) T hw0 hw1 hw2 e k4 k8 k13 k16 k18 k19
   simp only [LSay,cAt,bodyOf,Tryz.f3,Option.getD,stripC,stripL,stripOp] at hlp
   have g1:=blim_ev lim2
   have g2:=rlim_ev lim2
   rcases hsh with ⟨hL0,hqe⟩ | ⟨hne,n',m',hn',hm',hqe⟩
   ·subst hqe
    replace hq:call cx 13 [.optr 0 2 0,.int .i64 30] [some [.vsl n1 (intsK .i64 z1) z1.length,.int .i64 0]] = some (.vsl true [] 0,[some (seqD n1 z1 k4')]):=hq
    simp [k0,k1,k3,k4,k5,k8,k13,k14,hlt',ha,hl,hm,hq,sf1,sf2,maxBytes,hm5,hm6]
    refine Run.mono (hlp _ (by simp) (by simp) (by simp) (by simp) (by simp [hL0,Sl.grown,Sl.of]) (by simp)) ?_
    intro ex e' H' hJ
    cases ex with
    | normal=>exact hJ.elim
    | ret=>exact hJ.elim
    | exit i =>
     obtain ⟨rfl,j8,j13,rfl⟩:=hJ
     simp [j8,j13,g1,g2]
   ·subst hqe hn' hm'
    obtain ⟨w,hw⟩:∃ w,L.length = w:=⟨_,rfl⟩
    obtain ⟨v,hv⟩:∃ v,T.l.length = v:=⟨_,rfl⟩
    have hl0:¬ w = 0:=fun h=>hne (List.length_eq_zero_iff.1 (by omega))
    have htw:List.take w L = L:=List.take_of_length_le (by omega)
    have htv:List.take v T.l = T.l:=List.take_of_length_le (by omega)
    have htk:List.take (w * 39+v * 39) (encs L ++ encs T.l) = encs L ++ encs T.l:=List.take_of_length_le (by rw [List.length_append,It.el,It.el,hw,hv];omega)
    have hiv:¬ i < v:=by omega
    have hm7:(w+v) * 39 = w * 39+v * 39:=by omega
    replace hq:call cx 13 [.optr 0 2 0,.int .i64 30] [some [.vsl n1 (intsK .i64 z1) z1.length,.int .i64 0]] = some (.osl 1 (w * 39) 0 w 39,[some (seqD n1 z1 k4'),some (encs L)]):=by rw [← hw];exact hq
    rw [hw] at hm1 hm2 hm3 hm4
    rw [hv] at hm3 hm4 hm5 hm6
    simp [k0,k1,k3,k4,k5,k8,k13,k14,ha,hl,hm,hq,sf1,sf2,maxBytes,hm1,hm2,hm3,hm4,hm7,hw,hv,htw,htk,hiv]
    refine Run.mono (hlp _ (by simp) (by simp) (by simp) (by simp) (by simp [hne,hw,hv,Sl.grown,Sl.of,encs_append]) (by simp)) ?_
    intro ex e' H' hJ
    cases ex with
    | normal=>exact hJ.elim
    | ret=>exact hJ.elim
    | exit i =>
     obtain ⟨rfl,j8,j13,rfl⟩:=hJ
     simp [j8,j13,g1,g2]
end Go.Ev.S
namespace Go.Ev
open Go Go.Proofs Go.ChangeShapes Go.WideShapes Go.ChangeAt Go.RowKit
theorem handed_shaped {H:Type} {enc:TypeId × Value→H} {a:Assume} {C:Checked} {os:Os} {f:FuncId} {fn:Func} {s:ChangeSpec} {conds:List PathCond} {apart fresh handsOn again:Bool} {X:World→Array Value→Prop}
  (hX:∀ (w w':World) (args:Array Value),w.heap = w'.heap→X w args→X w' args)
  (own:ownKnob C.prog.godebug = none) (started:os.Started) (noInit:C.prog.inits.idxOf? f = none) (hfn:C.prog.funcs[f]? = some fn)
  (witness:∃ (w:World) (tape:Tape) (i:Input),w.os = os∧(w.forCall tape i).Shaped C.prog∧i.vars = []∧Input.okWide C.prog (w.forCall tape i) .any w.heap.size f i ∧
   ((s.pre enc C.prog fn conds apart (w.forCall tape i).memory i.args∧X (w.forCall tape i).memory i.args)∧sizedMet enc C.prog fn (OpenSpec.ofChange s) apart (w.forCall tape i).memory i.args)∧a.holds C.prog (lone (Frame.enter C.prog f i.args .normal) [] (w.forCall tape i)))
  (contract:∀ (W:World) (base:Nat) (args:Array Value) (ds gs:List (DataW H)) (before:List MemPlace),
   (∀ (j:Nat) t v,fn.params[j]? = some t→args[j]? = some v→Value.okWide C.prog W .any base t v) →
   DataW.Whole enc C.prog fn.params.toList s.vars apart W args.toList ds gs before→X W args→W.ShapedOpen C.prog →
   Calls C.prog f args W fun e W'=>∃ v,e = .returned v∧s.post enc C.prog fn apart fresh handsOn again W args v W') :
  ReturnsInHanded a C os f .any (fun w args=>(s.pre enc C.prog fn conds apart w args∧X w args)∧sizedMet enc C.prog fn (OpenSpec.ofChange s) apart w args) (s.post enc C.prog fn apart fresh handsOn again):=by
 refine returnsInHanded_of_calls own started noInit witness ?_
 intro w tape i _ hsh _ hok hpre _
 obtain ⟨_,_,_,fn',hfn',_,_,_,_,hval⟩:=hok
 have e:fn' = fn:=Option.some.inj (hfn'.symm.trans hfn)
 subst e
 obtain ⟨⟨⟨ds,gs,before,hw,hc⟩,hx⟩,hz⟩:=hpre
 have hw':=DataW.Whole.of_heap (w':=w.forCall tape i) (by rfl) hw
 refine (contract (w.forCall tape i) w.heap.size i.args ds gs before hval hw' (hX _ _ _ (by rfl) hx) hsh).mono fun e W' ⟨v,he,hp⟩=>?_
 subst he
 exact ChangeSpec.post_blind hp
end Go.Ev
