import Derived.Test.YtgehibgkabhcaaaGreatDoorC4
import Derived.Tactics
import Derived.Tactics2
import Derived.Defers
import Derived.Recover
import Derived.Laws.Pointers
import Derived.WalkLawsBesides
namespace Go.Ev.S
open Go Go.Proofs Go.Ev
def Km (p:Pr):List UInt8:=(p.name ++ [61]) ++ p.value
theorem qgw [MaxL] [TxtC] (p:Pr) (h1:p.name.length < 1000000) (h2:p.value.length < 1000000):call cx 128 [.agg (Enc.cells p)] [] = some (.str (Km p),[]):=by
 refine qy Tryz.func128 rfl ⟨rfl,rfl⟩ ?_;have x1:p.name.length+1≤4611686018427387904:=by omega
 have x2:p.name.length+1+p.value.length≤4611686018427387904:=by omega
 have x3:p.name.length+(p.value.length+1)≤4611686018427387904:=by omega
 unfold Km;simp [Tryz.f128,Pr.cells,x1,x2]
def qao:List UInt8→Nat→Bool
 | [],_=>true
 | c :: l,k=>(ZU c && (decide (0 < k) || !Xs c)) && qao l (k+1)
theorem qmU:∀ (l:List UInt8) (k:Nat),0 < k→qao l k = l.all ZU
 | [],_,_=>rfl
 | c :: l,k,h=>by rw [qao,qmU l (k+1) (by omega)];simp [h]
theorem qxg (s:List UInt8):Zo s = (qao s 0 && (decide (1≤s.length) && decide (s.length≤64))):=by
 cases s with
 | nil=>rfl
 | cons c l =>
  rw [Zo,qao,qmU l 1 (by omega),VY];simp;cases ZU c <;> cases Xs c <;> cases l.all ZU <;> simp
set_option maxHeartbeats 4000000 in
theorem qlM [MaxL] [TxtC] (s:List UInt8) (_:s.length≤9223372036854775807):call cx 185 [.str s] [] = some (.bool (Zo s),[]):=by
 refine qy Tryz.func185 rfl ⟨rfl,rfl⟩ ?_;rw [qxg];obtain ⟨r,hr⟩:=ql ((qao s 0 && (decide (1≤s.length) && decide (s.length≤64))));rw [hr];simp [Tryz.f185];refine Run.loopThen (fun (k:Nat) e H'=>k≤s.length∧(qao (s.drop k) k && (decide (1≤s.length) && decide (s.length≤64))) = r∧qi e 0 = some (.str s)∧qi e 3 = some (.int .i64 k)∧H' = []) (fun k=>s.length - k) 0 ?_ ?_
 ·simpa using hr
 rintro k e H' ⟨hk,hR,k0,k3,rfl⟩;by_cases qg:k < s.length
 ·have qo:=zI qg;have hw:=qx ((k:Int)+1) ((k+1:Nat):Int);have qI:s[k]? = some s[k]:=zn qg;rw [zU qg,qao] at hR;generalize s[k] = c at *;have hnx:(ZU c && (decide (0 < k) || !Xs c)) = true→∃ j:Nat,s.length - j < s.length - k∧j≤s.length∧(qao (s.drop j) j && (decide (1≤s.length) && decide (s.length≤64))) = r∧(j:Int) = (k:Int)+1:=fun h=>⟨k+1,by omega,by omega,by rw [h,qab] at hR;exact hR,by omega⟩;have jo:(ZU c && (decide (0 < k) || !Xs c)) = false→r = false:=fun h=>by rw [h,qdZ,qdZ] at hR;exact hR.symm
  cases hb:(ZU c && (decide (0 < k) || !Xs c)) with
  | true =>
   obtain ⟨j,j1,j2,j3,j4⟩:=hnx hb;simp [ZU,Xs] at hb;by_cases h1:(48:Int)≤(c.toNat:Int) <;> by_cases h2:(c.toNat:Int)≤57 <;> rcases (show ((k = 0) = True∧(0 < k) = False)∨((k = 0) = False∧(0 < k) = True) by by_cases j7:k = 0;exact .inl ⟨eq_true j7,eq_false (by omega)⟩;exact .inr ⟨eq_false j7,eq_true (by omega)⟩) with ⟨h3,vl⟩ | ⟨h3,vl⟩ <;> by_cases h4:(65:Int)≤(c.toNat:Int) <;> by_cases h5:(c.toNat:Int)≤90 <;> by_cases h6:(c.toNat:Int) = 95 <;> try (exfalso;simp at h3;omega)
   all_goals simp [k0,k3,qo,qI,hw,h1,h2,vl,h4,h5,h6]
   all_goals exact ⟨j,j1,j2,j3,by omega⟩
  | false =>
   have:=jo hb;subst this;simp [ZU,Xs] at hb;by_cases h1:(48:Int)≤(c.toNat:Int) <;> by_cases h2:(c.toNat:Int)≤57 <;> rcases (show ((k = 0) = True∧(0 < k) = False)∨((k = 0) = False∧(0 < k) = True) by by_cases j7:k = 0;exact .inl ⟨eq_true j7,eq_false (by omega)⟩;exact .inr ⟨eq_false j7,eq_true (by omega)⟩) with ⟨h3,vl⟩ | ⟨h3,vl⟩ <;> by_cases h4:(65:Int)≤(c.toNat:Int) <;> by_cases h5:(c.toNat:Int)≤90 <;> by_cases h6:(c.toNat:Int) = 95 <;> try (exfalso;simp at h3;omega)
   all_goals simp [k0,k3,qo,qI,h1,h2,vl,h4,h5,h6]
 ·have qo:=zL qg;rw [Js (by omega),qao,qab] at hR;by_cases h1:1≤s.length
  ·have zg:(1:Int)≤(s.length:Int):=(by omega);by_cases h2:s.length≤64
   ·have zH:(s.length:Int)≤64:=(by omega);simp only [h1,h2,decide_true,Bool.and_self] at hR;subst hR;simp [k0,k3,qo,zg,zH]
   ·have zH:¬ (s.length:Int)≤64:=(by omega);simp only [h1,h2,decide_true,decide_false,Bool.and_false] at hR;subst hR;simp [k0,k3,qo,zg,zH]
  ·have zg:¬ (1:Int)≤(s.length:Int):=(by omega);simp only [h1,decide_false,qdZ] at hR;subst hR;simp [k0,k3,qo,zg]
theorem qv2 [MaxL] [TxtC] (s:List UInt8) (hs:s.length < 1000000):call cx 185 [.str s] [] = some (.bool (Zo s),[]):=qlM s (by omega)
theorem qxf {n:List UInt8} (h:Zo n = true):n.length≤64:=by
 unfold Zo at h;split at h
 ·cases h
 ·simp only [jk,decide_eq_true_eq] at h;exact h.1.1
theorem qiP {p:Pr} (h:qfm p = true):Zo p.name = true∧p.name.length≤64∧p.value.length≤256:=by
 unfold qfm at h;simp only [jk,decide_eq_true_eq] at h;exact ⟨h.1,qxf h.1,h.2⟩
theorem qys [MaxL] [TxtC] (p:Pr) (h:qfm p = true):call cx 127 [.agg (Enc.cells p)] [] = some (.tup [.vsl false (qd (Km p)) (Km p).length,.int .i64 0],[]):=by
 obtain ⟨hn,zX,hv⟩:=qiP h;have Q7:=qv2 p.name (by omega);rw [hn] at Q7;have hp:=qgw p (by omega) (by omega);have hv':¬ (256:Int) < (p.value.length:Int):=by omega
 refine qy Tryz.func127 rfl ⟨rfl,rfl⟩ ?_;rw [Pr.cells] at hp ⊢;have hl:(Km p).length≤321:=by unfold Km;simp;omega
 have qQ:(Km p).length≠0:=by unfold Km;simp
 generalize Km p = w at *;have hm:w.length≤140737488355328:=by omega
 simp [Tryz.f127,Q7,hp,hv']
theorem KZ {X:Cx} {f nt n0:Nat} {Q:Ex→qr→qe→Prop} {fs:List Fr} {c:Code} {σ:Type} (I:σ→qr→qe→Prop) (m:σ→Nat) (s:σ) (J:Ex→qr→qe→Prop) {e:qr} {H:qe} (h0:I s e H)
  (step:∀ s e H,I s e H→Run X f nt n0 (fun ex e' H'=>match ex with | .normal=>∃ s',m s' < m s∧I s' e' H' | ex=>J ex e' H') [] (zk X f nt n0 c e H))
  (done:∀ ex e H,J ex e H→Run X f nt n0 Q fs (some (ex,e,H))):Run X f nt n0 Q fs (zk X f nt n0 (.loop c) e H):=by
 refine Run.loopThen I m s h0 fun s e H hi=>Run.mono (step s e H hi) fun ex e H hq=>?_;rw [Ki];cases ex with
 | normal=>exact hq
 | _=>exact done _ _ _ hq
def LsM (L:List Pr) (d:D) (H:qe):Prop :=
 ∃ n k t,n = L.length * 2∧k = L.length∧((d = .osl 1 n 0 k 2∧H = [some t,some (qu L)])∨(d = .osl 0 n 0 k 2∧H = [some (qu L),some t])∨(d = .osl 0 n 0 k 2∧H = [some (qu L)]))
def LsH (out:List Pr) (d:D) (H:qe):Prop :=
 (out = []∧d = .vsl true [] 0∧H = [])∨(out≠[]∧LsM out d H)
def LsQ (q:D × qe):Prop:= ∃ out:List Pr,1≤out.length∧out.length≤4∧(∀ p∈out,V6 p = true)∧q = (.tup [.vsl false (qu out) out.length,.int .i64 0],[])
set_option maxHeartbeats 4000000 in
theorem qnp [MaxL] [TxtC] (l:List Pr) (h1:1≤l.length) (h4:l.length≤4) (J5:∀ p∈l,V6 p = true):∃ q,call cx 82 [.vsl false (qu l) l.length] [] = some q∧LsQ q:=by
 refine VR (X:=cx) (f:=82) (args:=[.vsl false (qu l) l.length]) (H:=[]) LsQ Tryz.func82 rfl ⟨rfl,rfl⟩ ?_;have hz:¬ l.length = 0:=by omega
 simp [Tryz.f82,hz];refine Run.loopThen (fun (q:Nat × List Pr) e H'=>q.1≤l.length∧q.2.length≤q.1∧(1≤q.1→1≤q.2.length)∧(∀ p∈q.2,V6 p = true)∧qi e 0 = some (.vsl false (qu l) l.length)∧qi e 5 = some (.int .i64 (q.1:Nat))∧∃ d,qi e 4 = some d∧LsH q.2 d H') (fun q=>l.length - q.1) (0,[]) ?_ ?_
 ·exact ⟨by simp,by simp,by simp,by simp,by simp,by simp,_,by simp,.inl ⟨rfl,rfl,rfl⟩⟩
 rintro ⟨i,out⟩ e H' ⟨hi,ho,ho1,hp,k0,k5,d,k4,hH⟩;simp only at hi ho ho1 hp k5 hH;by_cases qg:i < l.length
 ·have qo:=zI qg;have hj:=qys l[i] (qji (J5 _ (v6 qg)));have hpl:=J5 _ (v6 qg);obtain ⟨-,vO,kQ⟩:=qiP (qji hpl);have XE:=qx ((i:Int)+1) ((i+1:Nat):Int);rw [Pr.cells] at hj;rcases hH with ⟨rfl,rfl,rfl⟩ | ⟨qQ,n,k,t,hn,hk,hH⟩
  ·simp [k0,k4,k5,qg,qo,hj,Pr.cells];refine qiy ?_;simp [qD];refine qiy ?_;simp [qg,qo,Pr.cells,XE];exact ⟨i+1,by omega,by omega,[l[i]],by simp,fun _=>by simp,by simp [hpl],by simp,.inr ⟨by simp,2,1,_,rfl,rfl,.inl ⟨rfl,rfl⟩⟩⟩
  have jc:List.take n (qu out) = qu out:=qP (by simp;omega);have j6:out.length = k:=hk.symm;have hkn:k * 2 = n:=by omega
  have kb:(k+1) * 32≤140737488355328:=by omega
  have zJ:k+1≤140737488355328:=by omega
  have hwk:=qx (k:Int) (k:Int);rcases hH with ⟨rfl,rfl⟩ | ⟨rfl,rfl⟩ | ⟨rfl,rfl⟩
  all_goals
   simp [k0,k4,k5,qg,qo,hj,Pr.cells]
   refine KZ (fun (z:Nat) e H'=>z≤k∧qi e 0 = some (.vsl false (qu l) l.length)∧qi e 4 = some (.osl 0 n 0 k 2)∧qi e 5 = some (.int .i64 (i:Nat))∧qi e 8 = some (.int .i64 (z:Nat))∧H' = [some (qu out)]) (fun z=>k - z) 0
    (fun ex e H'=>ex = .exit 2∧∃ z,z≤k∧qi e 0 = some (.vsl false (qu l) l.length)∧qi e 4 = some (.osl 0 n 0 k 2)∧qi e 5 = some (.int .i64 (i:Nat))∧qi e 8 = some (.int .i64 (z:Nat))∧H' = [some (qu out)]) ⟨vV _,by simp,by simp,by simp,by simp,rfl⟩ ?_ ?_
   ·clear k0 k4 k5;rintro z e H' ⟨hz,k0,k4,k5,k8,rfl⟩;have hwz:=qx ((z:Int)+1) ((z+1:Nat):Int);by_cases Q2:z < k
    ·have Y5:z < out.length:=(by omega);obtain ⟨-,c1,c2⟩:=qiP (qji (hp _ (v6 Y5)));have p1:=qgw out[z] (by omega) (by omega);have p2:=qgw l[i] (by omega) (by omega);rw [Pr.cells] at p1 p2;generalize Km out[z] = w1 at *;generalize Km l[i] = w2 at *;cases hb:Op.bytesLess w1 w2 with
     | true =>
      simp [k0,k4,k5,k8,Q2,qg,qo,Pr.cells,p1,p2,hb,hwz,j6,hkn];exact ⟨z+1,by omega,by omega,rfl⟩
     | false =>
      simp [k0,k4,k5,k8,Q2,qg,qo,Pr.cells,p1,p2,hb,j6,hkn];exact ⟨z,hz,rfl⟩
    ·simp [k0,k4,k5,k8,Q2];exact ⟨z,hz,rfl⟩
   ·clear k0 k4 k5;rintro ex e H' ⟨rfl,z,hz,k0,k4,k5,k8,rfl⟩
    have hcase:(∃ h:z < out.length,out[z].name = l[i].name∧out[z].value = l[i].value)∨(∃ h:z < out.length,¬ out[z].name = l[i].name)∨(∃ h:z < out.length,out[z].name = l[i].name∧¬ out[z].value = l[i].value)∨¬ z < k:=by
     by_cases h:z < out.length
     ·by_cases h1:out[z].name = l[i].name
      ·by_cases h2:out[z].value = l[i].value
       ·exact .inl ⟨h,h1,h2⟩
       ·exact .inr (.inr (.inl ⟨h,h1,h2⟩))
      ·exact .inr (.inl ⟨h,h1⟩)
     ·exact .inr (.inr (.inr (by omega)))
    have Jh:=fun (h:z < out.length)=>(show z < k by omega);rcases hcase with ⟨Y5,e1,e2⟩ | ⟨Y5,e1⟩ | ⟨Y5,e1,e2⟩ | Q2
    ·simp [k0,k4,k5,k8,Jh Y5,qg,qo,Pr.cells,e1,e2,j6,hkn,XE];exact ⟨i+1,by omega,by omega,out,by omega,fun _=>by omega,hp,by simp,.inr ⟨qQ,n,k,t,hn,hk,.inr (.inr ⟨rfl,rfl⟩)⟩⟩
    all_goals
     first
      | simp [k0,k4,k5,k8,Jh Y5,qg,qo,Pr.cells,e1,e2,j6,hkn,hwk,kb,zJ,qD]
      | simp [k0,k4,k5,k8,Jh Y5,qg,qo,Pr.cells,e1,j6,hkn,hwk,kb,zJ,qD]
      | simp [k0,k4,k5,k8,Q2,j6,hkn,hwk,kb,zJ,qD]
     refine KZ (fun (q:Nat × List Pr) e H'=>z≤q.1∧q.1≤k∧q.2.length = k+1∧(∀ x (h:x < q.2.length),x≠q.1→V6 q.2[x] = true)∧qi e 0 = some (.vsl false (qu l) l.length)∧qi e 4 = some (.osl 0 (n+2) 0 (k+1) 2)∧qi e 5 = some (.int .i64 (i:Nat))∧qi e 8 = some (.int .i64 (z:Nat))∧qi e 9 = some (.int .i64 (q.1:Nat))∧H' = [some (qu q.2),some [.str [],.str []]]) (fun q=>q.1 - z) (k,out ++ [⟨[],[]⟩])
      (fun ex e H'=>ex = .exit 4∧∃ L:List Pr,L.length = k+1∧(∀ x (h:x < L.length),x≠z→V6 L[x] = true)∧qi e 0 = some (.vsl false (qu l) l.length)∧qi e 4 = some (.osl 0 (n+2) 0 (k+1) 2)∧qi e 5 = some (.int .i64 (i:Nat))∧qi e 8 = some (.int .i64 (z:Nat))∧H' = [some (qu L),some [.str [],.str []]]) ?_ ?_ ?_
     ·refine ⟨hz,qE _,by simp [j6],fun x h hx=>?_,by simp,by simp,by simp,by simp,by simp,by rw [qhm];rfl⟩;have hxo:x < out.length:=(by simp at h;omega);simp only [List.getElem_append_left hxo];exact hp _ (v6 hxo)
     ·clear k0 k4 k5 k8;rintro ⟨j,L⟩ e H' ⟨hzj,hjk,hLl,hLp,k0,k4,k5,k8,k9,rfl⟩;simp only at hzj hjk hLl hLp k9;by_cases YD:z < j
      ·obtain ⟨a,rfl⟩:∃ a,j = a+1:=⟨j - 1,by omega⟩;have hwa:=qx (((a+1:Nat):Int) - 1) (a:Int);have hwb:=qx ((a:Int)+1 - 1) (a:Int);have hwc:=qx (a:Int) (a:Int);have hak:a < k:=(by omega);have Vm:(a:Int) < (k:Int)+1:=(by omega);have hza:(z:Int) < (a:Int)+1:=(by omega);have hza2:z < a+1:=YD;have h0a:(0:Int)≤(a:Int)+1:=(by omega);have ha2n:(a+1) * 2≤n:=(by omega);have YJ:a < L.length:=(by omega);have ha3:a+1 < L.length:=(by omega);have YM:L.length * 2 = n+2:=(by omega);simp [k0,k4,k5,k8,k9,hwc,hak,Vm,YJ,ha3,YM,hza,h0a,ha2n];refine ⟨a,by omega,by omega,by omega,_,by simp [hLl],fun x h hx=>?_,rfl,rfl⟩;rw [List.getElem_set];split
       ·exact hLp a YJ (by omega)
       ·exact hLp x (by simpa using h) (by omega)
      ·simp [k0,k4,k5,k8,k9,YD];exact ⟨L,hLl,fun x h hx=>hLp x h (by omega),rfl⟩
     ·clear k0 k4 k5 k8;rintro ex e H' ⟨rfl,L,hLl,hLp,k0,k4,k5,k8,rfl⟩;have hzl2:z < L.length:=(by omega);have hz1:(z:Int) < (k:Int)+1:=(by omega);have kZ:z * 2≤n:=(by omega);have YM:L.length * 2 = n+2:=(by omega);simp [k0,k4,k5,k8,hzl2,qg,qo,XE,hz1,kZ,YM];refine ⟨i+1,by omega,by omega,L.set z l[i],by simp [hLl];omega,fun _=>by simp [hLl],fun p hp=>?_,by simp,.inr ⟨fun h=>?_,n+2,k+1,_,by simp [YM],by simp [hLl],.inr (.inl ⟨rfl,rfl⟩)⟩⟩
      ·obtain ⟨x,hx,rfl⟩:=List.mem_iff_getElem.1 hp;rw [List.getElem_set];split
       ·exact hpl
       ·exact hLp x (by simpa using hx) (by omega)
      ·have:=congrArg List.length h;simp [hLl] at this
 ·have qo:=zL qg;have ho2:=ho1 (by omega);rcases hH with ⟨rfl,rfl,rfl⟩ | ⟨qQ,n,k,t,hn,hk,hH⟩
  ·simp at ho2
  have Ji:¬ (16:Int) < (k:Int):=by omega
  have jc:List.take n (qu out) = qu out:=qP (by simp;omega);have j6:out.length = k:=hk.symm;have hkn:k * 2 = n:=by omega
  rcases hH with ⟨rfl,rfl⟩ | ⟨rfl,rfl⟩ | ⟨rfl,rfl⟩
  all_goals
   simp [k0,k4,k5,qo,Ji,jc,j6,hkn];exact ⟨out,by omega,by omega,hp,by rw [j6]⟩
theorem qmV (c:UInt8):(ZU c = true∧((65≤c.toNat∧c.toNat≤90)∨(¬ (65≤c.toNat∧c.toNat≤90)∧48≤c.toNat∧c.toNat≤57)∨c.toNat = 95))∨(ZU c = false∧¬ (65≤c.toNat∧c.toNat≤90)∧¬ (48≤c.toNat∧c.toNat≤57)∧c.toNat≠95):=by
 cases h:ZU c with
 | true =>
  simp [ZU] at h;exact .inl ⟨rfl,by omega⟩
 | false =>
  simp [ZU] at h;exact .inr ⟨rfl,by omega,by omega,by omega⟩
set_option maxHeartbeats 2000000 in
theorem q07 [MaxL] [TxtC] (s:List UInt8):call cx 247 [.str s] [] = some (.bool (Zo s),[]):=by
 refine qy Tryz.func247 rfl ⟨rfl,rfl⟩ ?_;cases s with
 | nil=>simp [Tryz.f247,Zo]
 | cons c l =>
  have J7:¬ (l.length:Int)+1 < 1:=by omega
  by_cases h64:64 < l.length+1
  ·have h64':(64:Int) < (l.length:Int)+1:=(by omega);have hN:Zo (c :: l) = false:=(by simp [Zo];omega);rw [hN];simp [Tryz.f247,J7,h64']
  ·have h64':¬ (64:Int) < (l.length:Int)+1:=(by omega);have hs:(c :: l).length < 1000000:=by simp;omega
   have hN:Zo (c :: l) = (!Xs c && (c :: l).all ZU):=by
    simp only [Zo];rw [decide_eq_true (by simp;omega),qab]
   rw [hN];by_cases hd:48≤c.toNat∧c.toNat≤57
   ·have QN:(48:Int)≤(c.toNat:Int):=(by omega);have jY:(c.toNat:Int)≤57:=(by omega);have hdc:Xs c = true:=(by simp [Xs,hd.1,hd.2]);rw [hdc];simp [Tryz.f247,J7,h64',QN,jY]
   ·have hdc:Xs c = false:=(by simp [Xs];omega);rw [hdc];have hcond:(¬ (48:Int)≤(c.toNat:Int))∨((48:Int)≤(c.toNat:Int)∧¬ (c.toNat:Int)≤57):=(by omega);obtain ⟨r,hr⟩:=ql ((c :: l).all ZU);rw [hr];obtain ⟨S,hS⟩:∃ S,S = c :: l:=⟨_,rfl⟩;have hn:(l.length:Int)+1 = (S.length:Int):=(by rw [hS];simp);rw [← hS] at hr hs;rcases hcond with Vp | ⟨Vp,h57⟩
    ·have h48n:¬ 48≤c.toNat:=(by omega);simp [Tryz.f247,J7,h64',Vp];rw [hn,← hS];clear hS hn hN;refine Run.loopThen (fun (k:Nat) e H'=>k≤S.length∧(S.drop k).all ZU = r∧qi e 0 = some (.str S)∧qi e 24 = some (.int .i64 S.length)∧qi e 25 = some (.int .i64 k)∧H' = []) (fun k=>S.length - k) 0 ?_ ?_
     ·simpa using hr
     rintro k e H' ⟨hk,hR,k0,k24,k25,rfl⟩;by_cases qg:k < S.length
     ·have qo:=zI qg;have hw:=qx ((k:Int)+1) ((k+1:Nat):Int);have qI:S[k]? = some S[k]:=zn qg;rw [zU qg,VY] at hR;generalize S[k] = x at *;rcases qmV x with ⟨hx,h1 | ⟨h1,h2⟩ | h1⟩ | ⟨hx,h1,h2,h3⟩
      ·rw [hx,qab] at hR;have g1:(65:Int)≤(x.toNat:Int):=(by omega);have g2:(x.toNat:Int)≤90:=(by omega);simp [k0,k24,k25,qo,qI,hw,g1,g2];exact ⟨k+1,by omega,by omega,by simpa using hR,by omega⟩
      ·rw [hx,qab] at hR;have g1:(48:Int)≤(x.toNat:Int):=(by omega);have g2:(x.toNat:Int)≤57:=(by omega);have g3:¬ (65:Int)≤(x.toNat:Int):=(by omega);have g4:¬ 65≤x.toNat:=(by omega);simp [k0,k24,k25,qo,qI,hw,g1,g2,g3];exact ⟨k+1,by omega,by omega,by simpa using hR,by omega⟩
      ·rw [hx,qab] at hR;have g1:(x.toNat:Int) = 95:=(by omega);simp [k0,k24,k25,qo,qI,hw,h1];exact ⟨k+1,by omega,by omega,by simpa using hR,by omega⟩
      ·rw [hx,qdZ] at hR;subst hR;have g0:¬ (x.toNat:Int) = 95:=(by omega);by_cases q1:65≤x.toNat
       ·have g1:(65:Int)≤(x.toNat:Int):=(by omega);have g2:¬ (x.toNat:Int)≤90:=(by omega);have g2':¬ x.toNat≤90:=(by omega);have g3:(48:Int)≤(x.toNat:Int):=(by omega);have g3':48≤x.toNat:=(by omega);have g4:¬ (x.toNat:Int)≤57:=(by omega);have g4':¬ x.toNat≤57:=(by omega);simp [k0,k24,k25,qo,qI,g0,g1,g2,g3,g4]
       ·have g1:¬ (65:Int)≤(x.toNat:Int):=(by omega);by_cases q2:48≤x.toNat
        ·have g3:(48:Int)≤(x.toNat:Int):=(by omega);have g4:¬ (x.toNat:Int)≤57:=(by omega);have g4':¬ x.toNat≤57:=(by omega);simp [k0,k24,k25,qo,qI,g0,g1,g3,g4]
        ·have g3:¬ (48:Int)≤(x.toNat:Int):=(by omega);simp [k0,k24,k25,qo,qI,g0,g1,g3]
     ·have qo:=zL qg;rw [Js (by omega)] at hR;have:r = true:=hR.symm;subst this;simp [k0,k24,k25,qo]
    ·have h48n:48≤c.toNat:=(by omega);have h57n:¬ c.toNat≤57:=(by omega);simp [Tryz.f247,J7,h64',Vp,h57];rw [hn,← hS];clear hS hn hN;refine Run.loopThen (fun (k:Nat) e H'=>k≤S.length∧(S.drop k).all ZU = r∧qi e 0 = some (.str S)∧qi e 24 = some (.int .i64 S.length)∧qi e 25 = some (.int .i64 k)∧H' = []) (fun k=>S.length - k) 0 ?_ ?_
     ·simpa using hr
     rintro k e H' ⟨hk,hR,k0,k24,k25,rfl⟩;by_cases qg:k < S.length
     ·have qo:=zI qg;have hw:=qx ((k:Int)+1) ((k+1:Nat):Int);have qI:S[k]? = some S[k]:=zn qg;rw [zU qg,VY] at hR;generalize S[k] = x at *;rcases qmV x with ⟨hx,h1 | ⟨h1,h2⟩ | h1⟩ | ⟨hx,h1,h2,h3⟩
      ·rw [hx,qab] at hR;have g1:(65:Int)≤(x.toNat:Int):=(by omega);have g2:(x.toNat:Int)≤90:=(by omega);simp [k0,k24,k25,qo,qI,hw,g1,g2];exact ⟨k+1,by omega,by omega,by simpa using hR,by omega⟩
      ·rw [hx,qab] at hR;have g1:(48:Int)≤(x.toNat:Int):=(by omega);have g2:(x.toNat:Int)≤57:=(by omega);have g3:¬ (65:Int)≤(x.toNat:Int):=(by omega);have g4:¬ 65≤x.toNat:=(by omega);simp [k0,k24,k25,qo,qI,hw,g1,g2,g3];exact ⟨k+1,by omega,by omega,by simpa using hR,by omega⟩
      ·rw [hx,qab] at hR;have g1:(x.toNat:Int) = 95:=(by omega);simp [k0,k24,k25,qo,qI,hw,h1];exact ⟨k+1,by omega,by omega,by simpa using hR,by omega⟩
      ·rw [hx,qdZ] at hR;subst hR;have g0:¬ (x.toNat:Int) = 95:=(by omega);by_cases q1:65≤x.toNat
       ·have g1:(65:Int)≤(x.toNat:Int):=(by omega);have g2:¬ (x.toNat:Int)≤90:=(by omega);have g2':¬ x.toNat≤90:=(by omega);have g3:(48:Int)≤(x.toNat:Int):=(by omega);have g3':48≤x.toNat:=(by omega);have g4:¬ (x.toNat:Int)≤57:=(by omega);have g4':¬ x.toNat≤57:=(by omega);simp [k0,k24,k25,qo,qI,g0,g1,g2,g3,g4]
       ·have g1:¬ (65:Int)≤(x.toNat:Int):=(by omega);by_cases q2:48≤x.toNat
        ·have g3:(48:Int)≤(x.toNat:Int):=(by omega);have g4:¬ (x.toNat:Int)≤57:=(by omega);have g4':¬ x.toNat≤57:=(by omega);simp [k0,k24,k25,qo,qI,g0,g1,g3,g4]
        ·have g3:¬ (48:Int)≤(x.toNat:Int):=(by omega);simp [k0,k24,k25,qo,qI,g0,g1,g3]
     ·have qo:=zL qg;rw [Js (by omega)] at hR;have:r = true:=hR.symm;subst this;simp [k0,k24,k25,qo]
theorem qq7 (c:UInt8):∀ (l:List UInt8) (n:Nat),ve c l n = if (l.takeWhile fun x=>x != c).length < l.length then ((n+(l.takeWhile fun x=>x != c).length:Nat):Int) else -1
 | [],n=>by simp [ve]
 | b :: l,n=>by
  unfold ve;by_cases h:b = c
  ·subst h;simp
  ·have hb:(b != c) = true:=(by simp [h]);rw [if_neg h,qq7 c l (n+1),List.takeWhile_cons,hb,if_pos rfl,vn,vn];by_cases h2:(l.takeWhile fun x=>x != c).length < l.length
   ·rw [if_pos h2,if_pos (by omega)];omega
   ·rw [if_neg h2,if_neg (by omega)]
theorem q2H [MaxL] [TxtC] (s:Sl UInt8) (c:Nat):call cx 259 [(.vsl s.nil (qd s.l) s.l.length),.int .u8 c] [] = some (.int .i64 (ve (UInt8.ofNat c) s.l 0),[]):=by
 have h0:call cx 266 [(.vsl s.nil (qd s.l) s.l.length),.int .u8 c] [] = some (.int .i64 (ve (UInt8.ofNat c) s.l 0),[]):=by
  rw [qkr (X:=cx) (f:=266) rfl Tryz.func266 rfl,qr9,qzx s.nil s.l s.h c];rfl
 refine qy Tryz.func259 rfl ⟨rfl,rfl⟩ ?_;simp [Tryz.f259,h0]
theorem qli (l:List UInt8):l.take (jW l).length = jW l:=(List.prefix_iff_eq_take.1 (List.takeWhile_prefix _)).symm
set_option maxHeartbeats 1000000 in
theorem q2J [MaxL] [TxtC] (s:Sl UInt8) (hs:s.l.length≤1000000):call cx 246 [(.vsl s.nil (qd s.l) s.l.length),.vsl false [.int .u8 61] 1] [] = some (.tup (if (jW s.l).length < s.l.length then [.vsl s.nil (qd (jW s.l)) (jW s.l).length,.vsl s.nil (qd (Za s.l)) (Za s.l).length,.bool true] else [(.vsl s.nil (qd s.l) s.l.length),.vsl true [] 0,.bool false]),[]):=by
 have hb:=q2H s 61
 have he:ve (UInt8.ofNat 61) s.l 0 = if (jW s.l).length < s.l.length then ((jW s.l).length:Int) else -1:=by
  rw [qq7,Jo];rfl
 rw [he] at hb
 have hi:call cx 253 [(.vsl s.nil (qd s.l) s.l.length),.vsl false [.int .u8 61] 1] [] = some (.int .i64 (if (jW s.l).length < s.l.length then ((jW s.l).length:Int) else -1),[]):=by
  generalize (if (jW s.l).length < s.l.length then ((jW s.l).length:Int) else -1) = r at *;refine qy Tryz.func253 rfl ⟨rfl,rfl⟩ ?_;have zC:call cx 259 [(.vsl s.nil (qd s.l) s.l.length),.int .u8 61] [] = some (.int .i64 r,[]):=hb;simp [Tryz.f253,zC]
 refine qy Tryz.func246 rfl ⟨rfl,rfl⟩ ?_;by_cases h:(jW s.l).length < s.l.length
 ·rw [if_pos h] at hi ⊢;unfold Za;have jc:=qli s.l;obtain ⟨k,hk⟩:=ql ((jW s.l).length);rw [hk] at hi h jc ⊢;have hw:=qx ((k:Int)+1) ((k:Int)+1);have h1:(0:Int)≤(k:Int)∧(k:Int)≤(s.l.length:Int)∧(0:Int)≤(k:Int)+1∧(k:Int)+1≤(s.l.length:Int):=by omega
  have h2:((k:Int)+1).toNat = k+1:=by omega
  have e1:List.take k (qd s.l) = qd (jW s.l):=by rw [Yv,jc]
  have e2:List.drop (k+1) (qd s.l) = qd (s.l.drop (k+1)):=Yw _ _;simp [Tryz.f246,hi,hw,h1,h2,e1,e2]
 ·rw [if_neg h] at hi ⊢;simp [Tryz.f246,hi]
def qaf (p:List UInt8):D:=if kz p = 0 then .agg [.str (jW p),.str (Za p)] else .agg [.str [],.str []]
set_option maxHeartbeats 1000000 in
theorem q0y [MaxL] [TxtC] (s:Sl UInt8) (hs:s.l.length≤1000000):call cx 230 [(.vsl s.nil (qd s.l) s.l.length)] [] = some (.tup [qaf s.l,.int .i64 (kz s.l:Nat)],[]):=by
 have hc:=q2J s hs;have hn:=q07 (jW s.l);refine qy Tryz.func230 rfl ⟨rfl,rfl⟩ ?_;unfold qaf;by_cases h:(jW s.l).length < s.l.length
 ·rw [if_pos h] at hc;by_cases hN:Zo (jW s.l) = true
  ·rw [hN] at hn;by_cases h2:256 < (Za s.l).length
   ·have zH:(256:Int) < ((Za s.l).length:Int):=(by omega);have hC:kz s.l = 21:=(by unfold kz;rw [if_pos ⟨h,hN⟩,if_pos h2]);rw [hC];simp [Tryz.f230,hc,hn,zH]
   ·have zH:¬ (256:Int) < ((Za s.l).length:Int):=(by omega);have hC:kz s.l = 0:=(by unfold kz;rw [if_pos ⟨h,hN⟩,if_neg h2]);rw [hC];simp [Tryz.f230,hc,hn,zH]
  ·have hC:kz s.l = 20:=(by unfold kz;rw [if_neg (fun hh=>hN hh.2)]);rw [hC];have Xl:Zo (jW s.l) = false:=(by cases hh:Zo (jW s.l) <;> simp_all);rw [Xl] at hn;simp [Tryz.f230,hc,hn]
 ·rw [if_neg h] at hc;have hC:kz s.l = 20:=by unfold kz;rw [if_neg (fun hh=>h hh.1)]
  rw [hC];simp [Tryz.f230,hc]
set_option maxHeartbeats 2000000 in
set_option maxRecDepth 8000 in
theorem qvr [MaxL] [TxtC] (s:Sl UInt8) (hl:s.l.length≤1000000) (a:Nat) (ha:a < 18446744073709551616):call cx 239 [(.vsl s.nil (qd s.l) s.l.length),.int .u64 a] [] = some (.tup [km s.l a,.int .i64 (jq s.l a)],[]):=by
 refine qy Tryz.func239 rfl ⟨rfl,rfl⟩ ?_;have hw:=qN (s.l.length:Int) (s.l.length:Int);have ht:(a:Int).tmod 8 = ((a % 8:Nat):Int):=rfl;by_cases h1:a % 8≠0
 ·have hC:jq s.l a = 3:=by unfold jq;rw [if_pos h1]
  have zg:((a:Int).tmod 8 != 0) = true:=by rw [ht];simp only [bne_iff_ne,ne_eq];omega
  simp [Tryz.f239,km,hC,hw,zg]
 have zg:((a:Int).tmod 8 != 0) = false:=by rw [ht];simp only [bne_eq_false_iff_eq];omega
 by_cases h2:s.l.length < a∨s.l.length - a < 16
 ·have hC:jq s.l a = 2:=by unfold jq;rw [if_neg h1,if_pos h2]
  by_cases h3:s.l.length < a
  ·have vl:=zI h3;simp [Tryz.f239,km,hC,hw,zg,vl]
  ·have vl:=zL h3;have qZ:=qN ((s.l.length:Int) - (a:Int)) ((s.l.length:Int) - (a:Int));have h4:(s.l.length:Int) - (a:Int) < 16:=(by omega);simp [Tryz.f239,km,hC,hw,zg,vl,qZ,h4]
 have vl:¬ (s.l.length:Int) < (a:Int):=by omega
 have qZ:=qN ((s.l.length:Int) - (a:Int)) ((s.l.length:Int) - (a:Int));have h4:¬ (s.l.length:Int) - (a:Int) < 16:=by omega
 have la:a < s.l.length:=by omega
 have la1:a+1 < s.l.length:=by omega
 have qU:s.nil = false:=Sl.nn la;have g8:=Kj s (a+8) (by omega) (by omega) (x:=(a:Int)+8) (by omega);have q1:(a:Int) < (s.l.length:Int):=by omega
 have q2:(a:Int)+1 < (s.l.length:Int):=by omega
 have w1:=qN ((a:Int)+1) ((a:Int)+1);have w2:=qN ((a:Int)+8) ((a:Int)+8);have o1:=vq la;have o2:=vq la1;have b1:=s.l[a].toNat_lt;have b2:=s.l[a+1].toNat_lt;have eK:(s.l.getD a 0).toNat = s.l[a].toNat:=by simp [la]
 have eF:(s.l.getD (a+1) 0).toNat = s.l[a+1].toNat:=by simp [la1]
 have n2:((a:Int)+1).toNat = a+1:=by omega
 have q3:(0:Int)≤(a:Int)+1:=by omega
 have hS:=qeb s.l (a+8)
 have hC:jq s.l a = if s.l[a].toNat < 1∨7 < s.l[a].toNat then 4 else if s.l[a+1].toNat≠0 then 7 else if qC s.l (a+8) < 16 then 5 else if s.l.length - a < qC s.l (a+8) then 2 else 0:=by
  unfold jq;rw [if_neg h1,if_neg h2,eK,eF]
 have hK:ZG s.l a = s.l[a].toNat:=eK;obtain ⟨S,eS⟩:=ql (qC s.l (a+8));have hSS:vz s.l a = S:=eS;rw [eS] at hC g8 hS;rw [qU] at g8;generalize s.l[a] = K at *;generalize s.l[a+1] = F at *;have w4:=qx (K.toNat:Int) (K.toNat:Int);by_cases k1:K.toNat < 1
 ·rw [if_pos (.inl k1)] at hC;have k1':(K.toNat:Int) < 1:=by omega
  simp [Tryz.f239,km,hC,hw,zg,vl,qZ,h4,qU,q1,o1,k1']
 have k1':¬ (K.toNat:Int) < 1:=by omega
 by_cases k2:7 < K.toNat
 ·rw [if_pos (.inr k2)] at hC;have k2':(7:Int) < (K.toNat:Int):=by omega
  simp [Tryz.f239,km,hC,hw,zg,vl,qZ,h4,qU,q1,o1,k1',k2']
 have k2':¬ (7:Int) < (K.toNat:Int):=by omega
 rw [if_neg (by omega)] at hC;by_cases k3:F.toNat≠0
 ·rw [if_pos k3] at hC;have k3':((F.toNat:Int) != 0) = true:=kr;simp [Tryz.f239,km,hC,hw,zg,vl,qZ,h4,qU,q1,q2,q3,w1,o1,o2,n2,k1',k2',k3']
 have k3':((F.toNat:Int) != 0) = false:=zbf;have k3n:F.toNat = 0:=by omega
 rw [if_neg k3] at hC;by_cases k4:S < 16
 ·rw [if_pos k4] at hC;have k4':(S:Int) < 16:=by omega
  simp [Tryz.f239,km,hC,hw,zg,vl,qZ,h4,qU,q1,q2,q3,w1,w2,o1,o2,n2,g8,k1',k2',k3n,k4']
 have k4':¬ (S:Int) < 16:=by omega
 rw [if_neg k4] at hC;by_cases k5:s.l.length - a < S
 ·rw [if_pos k5] at hC;have k5':(s.l.length:Int) - (a:Int) < (S:Int):=by omega
  simp [Tryz.f239,km,hC,hw,zg,vl,qZ,h4,qU,q1,q2,q3,w1,w2,o1,o2,n2,g8,k1',k2',k3n,k4',k5']
 ·rw [if_neg k5] at hC;have k5':¬ (s.l.length:Int) - (a:Int) < (S:Int):=by omega
  simp [Tryz.f239,km,hC,hw,zg,vl,qZ,h4,qU,q1,q2,q3,w1,w2,o1,o2,n2,w4,g8,k1',k2',k3n,k4',k5',hK,hSS]
def jr (b:List UInt8) (a kind:Nat):Nat:=if jq b a≠0 then jq b a else if ZG b a≠kind then 4 else 0
set_option maxHeartbeats 1000000 in
theorem qiH [MaxL] [TxtC] (s:Sl UInt8) (hl:s.l.length≤1000000) (a:Nat) (ha:a < 18446744073709551616) (kind:Nat):call cx 217 [(.vsl s.nil (qd s.l) s.l.length),.int .u64 a,.int .i64 kind] [] = some (.tup [if jr s.l a kind = 0 then .vsl false (qd (qB s.l a)) (qB s.l a).length else .vsl true [] 0,.int .i64 (jr s.l a kind:Nat)],[]):=by
 have hr:=qvr s hl a ha;refine qy Tryz.func217 rfl ⟨rfl,rfl⟩ ?_;by_cases h0:jq s.l a≠0
 ·have hC:jr s.l a kind = jq s.l a:=by unfold jr;rw [if_pos h0]
  have hF:km s.l a = .agg [.int .i64 0,.int .i64 0,.int .u64 0]:=by unfold km;rw [if_neg h0]
  rw [hF] at hr;have qM:(((jq s.l a:Nat):Int) != 0) = true:=kr;rw [hC,if_neg h0];generalize jq s.l a = C at *;simp [Tryz.f217,hr,qM]
 have qM:jq s.l a = 0:=by omega
 obtain ⟨f1,f2,f3,f4,f5,f6⟩:=qaK qM;have hF:km s.l a = .agg [.int .i64 (ZG s.l a:Nat),.int .i64 0,.int .u64 (vz s.l a:Nat)]:=by unfold km;rw [if_pos qM]
 rw [hF,qM] at hr;have XW:jr s.l a kind = if ZG s.l a≠kind then 4 else 0:=by unfold jr;rw [if_neg h0]
 have jM:=qdn qM;have jy:(s.l.drop (a+16)).take (vz s.l a - 16) = qB s.l a:=rfl;obtain ⟨K,hK⟩:=ql (ZG s.l a);obtain ⟨S,hS⟩:=ql (vz s.l a);rw [hK] at XW f3 f4;rw [hS] at jM jy f5 f6;rw [hK,hS] at hr;by_cases h1:K = kind
 rotate_left
 ·rw [if_pos h1] at XW;have zg:((K:Int) != (kind:Int)) = true:=kr;rw [XW];simp [Tryz.f217,hr,zg]
 subst h1;rw [if_neg (by simp)] at XW;rw [if_pos XW,XW];have qU:s.nil = false:=Sl.nn (i:=a) (by omega);have XE:=qN ((a:Int)+16) ((a:Int)+16);have Y8:=qN ((a:Int)+(S:Int)) ((a:Int)+(S:Int));have q1:(0:Int)≤(a:Int)+(S:Int)∧(a:Int)+(S:Int)≤(s.l.length:Int)∧(0:Int)≤(a:Int)+16∧(a:Int)+16≤(a:Int)+(S:Int):=by omega
 have n1:((a:Int)+16).toNat = a+16:=by omega
 have n2:((a:Int)+(S:Int)).toNat = a+S:=by omega
 have n3:a+S - (a+16) = S - 16:=by omega
 have hbd2:List.take (S - 16) (List.drop (a+16) (qd s.l)) = qd (qB s.l a):=by rw [Yw,Yv,jy]
 have hx:S - 16≤140737488355328:=by omega
 rw [qU] at hr;rw [jM];generalize qB s.l a = p at *;simp [Tryz.f217,hr,qU,XE,Y8,q1,n1,n2,n3,hbd2,qD,hx,jM]
theorem qek {b:List UInt8} {a kind:Nat} (h:jr b a kind = 0):jq b a = 0∧ZG b a = kind∧(qB b a).length = vz b a - 16∧a+vz b a≤b.length∧16≤vz b a:=by
 unfold jr at h;split at h
 · omega
 split at h
 · omega
 rename_i h0 h1;have qM:jq b a = 0:=by omega
 exact ⟨qM,by omega,qdn qM,(qaK qM).2.2.2.2.2,(qaK qM).2.2.2.2.1⟩
theorem q1y (b:List UInt8) (a:Nat):vJ b a = if jr b a 1≠0 then jr b a 1 else if (qB b a).length≤48 then 5 else 0:=by
 unfold vJ vD;by_cases h0:jq b a≠0
 ·have h:jr b a 1 = jq b a:=by unfold jr;rw [if_pos h0]
  rw [if_pos h0,h,if_pos h0]
 rw [if_neg h0];by_cases h1:ZG b a≠1
 ·have h:jr b a 1 = 4:=by unfold jr;rw [if_neg h0,if_pos h1]
  rw [if_pos h1,h,if_pos (by omega)]
 have h:jr b a 1 = 0:=by unfold jr;rw [if_neg h0,if_neg h1]
 obtain ⟨q1,q2,q3,q4,q5⟩:=qek h;rw [if_neg h1,h,if_neg (show ¬ (0:Nat)≠0 by omega),q3];by_cases h2:vz b a≤64
 ·rw [if_pos (Or.inl (by omega)),if_pos (by omega)]
 ·rw [if_neg (by omega),if_neg (by omega)]
def qej (b:List UInt8) (a:Nat):List D:=[.int .u64 (Yc b a:Nat),.int .u64 (qC (qB b a) 8:Nat),.int .u64 (qC (qB b a) 16:Nat),.int .u64 (qC (qB b a) 24:Nat),.int .u64 (qC (qB b a) 32:Nat),.int .u64 (qC (qB b a) 40:Nat),.vsl false (qd (jN b a)) (jN b a).length]
def qcm:List D:=(Xx [.int .u64 0,.int .u64 0,.vsl true [] 0])
def qgt (b:List UInt8) (a:Nat):List D:=if vJ b a = 0 then qej b a else qcm
set_option maxHeartbeats 1000000 in
set_option maxRecDepth 8000 in
theorem qvO [MaxL] [TxtC] (s:Sl UInt8) (hl:s.l.length≤1000000) (a:Nat) (ha:a < 18446744073709551616):call cx 240 [(.vsl s.nil (qd s.l) s.l.length),.int .u64 a] [] = some (.tup [.agg (qgt s.l a),.int .i64 (vJ s.l a:Nat)],[]):=by
 have hb:=qiH s hl a ha 1;have vO:call cx 217 [(.vsl s.nil (qd s.l) s.l.length),.int .u64 a,.int .i64 1] [] = some (.tup [if jr s.l a 1 = 0 then .vsl false (qd (qB s.l a)) (qB s.l a).length else .vsl true [] 0,.int .i64 (jr s.l a 1:Nat)],[]):=hb;have hC:=q1y s.l a;refine qy Tryz.func240 rfl ⟨rfl,rfl⟩ ?_;unfold qgt;by_cases h0:jr s.l a 1≠0
 ·rw [if_pos h0] at hC;rw [hC,if_neg h0];rw [if_neg h0] at vO;have qM:(((jr s.l a 1:Nat):Int) != 0) = true:=kr;generalize jr s.l a 1 = c at *;simp [Tryz.f240,vO,qM,qcm]
 have qM:jr s.l a 1 = 0:=by omega
 obtain ⟨q1,q2,q3,q4,q5⟩:=qek qM;rw [if_neg h0] at hC;rw [if_pos qM,qM] at vO;have hpl:(qB s.l a).length≤1000000:=by omega
 unfold qej Yc jN;obtain ⟨p,hp⟩:=ql (qB s.l a);rw [hp] at vO hC hpl ⊢;by_cases h1:p.length≤48
 ·have zg:(p.length:Int)≤48:=by omega
  rw [if_pos h1] at hC;rw [hC];simp [Tryz.f240,vO,zg,qcm]
 ·have zg:¬ (p.length:Int)≤48:=by omega
  have Vp:(48:Int)≤(p.length:Int):=by omega
  rw [if_neg h1] at hC;rw [hC];have u0:=Kj (Sl.mk false p (by simp)) 0 (by simp only;omega) hpl (x:=0) rfl;have u1:=Kj (Sl.mk false p (by simp)) 8 (by simp only;omega) hpl (x:=8) rfl;have u2:=Kj (Sl.mk false p (by simp)) 16 (by simp only;omega) hpl (x:=16) rfl;have u3:=Kj (Sl.mk false p (by simp)) 24 (by simp only;omega) hpl (x:=24) rfl;have u4:=Kj (Sl.mk false p (by simp)) 32 (by simp only;omega) hpl (x:=32) rfl;have u5:=Kj (Sl.mk false p (by simp)) 40 (by simp only;omega) hpl (x:=40) rfl;simp only at u0 u1 u2 u3 u4 u5;have hd48:List.drop 48 (qd p) = qd (p.drop 48):=Yw _ _;generalize qC p 0 = x0 at *;generalize qC p 8 = x1 at *;generalize qC p 16 = x2 at *;generalize qC p 24 = x3 at *;generalize qC p 32 = x4 at *;generalize qC p 40 = x5 at *;simp [Tryz.f240,vO,zg,Vp,u0,u1,u2,u3,u4,u5,hd48]
def VZ (b:List UInt8) (a:Nat):List Nat:=(jw (qB b a)).take 6
def qdR (b:List UInt8) (a:Nat):List D:=qK (VZ b a) ++ [.vsl false (qd (jN b a)) (jN b a).length]
def qjY:List D:=(Xx [.int .u64 0,.int .u64 0,.vsl true [] 0])
def qjZ (b:List UInt8) (a:Nat):D:=.agg (if vJ b a = 0 then qdR b a else qjY)
theorem qdS {b:List UInt8} {a:Nat} (h:vJ b a = 0):jq b a = 0∧ZG b a = 1∧64 < vz b a∧(qB b a).length = vz b a - 16∧a+vz b a≤b.length:=by
 unfold vJ vD at h;split at h
 · omega
 split at h
 · omega
 split at h
 · omega
 rename_i h0 h1 h2;have qM:jq b a = 0:=by omega
 exact ⟨qM,by omega,by omega,qdn qM,(qaK qM).2.2.2.2.2⟩
set_option maxHeartbeats 4000000 in
set_option maxRecDepth 8000 in
theorem qw7 [MaxL] [TxtC] (s:Sl UInt8) (hl:s.l.length≤1000000) (a:Nat) (ha:a < 18446744073709551616) :
  call cx 257 [(.vsl s.nil (qd s.l) s.l.length),.int .u64 a,.int .i64 1,.int .i64 6] [] = some (if vJ s.l a = 0 then .tup [.vsl false (qK (VZ s.l a)) 6,.vsl false (qd (jN s.l a)) (jN s.l a).length,.int .i64 0] else .tup [.vsl true [] 0,.vsl true [] 0,.int .i64 (vJ s.l a:Nat)],[]):=by
 have hr:=qmH s hl a ha;refine qy Tryz.func257 rfl ⟨rfl,rfl⟩ ?_;by_cases h0:jq s.l a≠0
 ·have hC:vJ s.l a = jq s.l a:=by unfold vJ vD;rw [if_pos h0]
  have hF:km s.l a = .agg [.int .i64 0,.int .i64 0,.int .u64 0]:=by unfold km;rw [if_neg h0]
  rw [hF] at hr;have qM:(((jq s.l a:Nat):Int) != 0) = true:=kr;rw [hC,if_neg h0];obtain ⟨C,hCC⟩:=ql (jq s.l a);rw [hCC] at hr qM ⊢;simp [Tryz.f257,hr,qM]
 have qM:jq s.l a = 0:=by omega
 obtain ⟨f1,f2,f3,f4,f5,f6⟩:=qaK qM;have hF:km s.l a = .agg [.int .i64 (ZG s.l a:Nat),.int .i64 0,.int .u64 (vz s.l a:Nat)]:=by unfold km;rw [if_pos qM]
 rw [hF,qM] at hr;obtain ⟨K,hK⟩:=ql (ZG s.l a);obtain ⟨S,hS⟩:=ql (vz s.l a);rw [hK,hS] at hr;rw [hK] at f3 f4;rw [hS] at f5 f6;by_cases h1:K = 1
 rotate_left
 ·have hC:vJ s.l a = 4:=by unfold vJ vD;rw [if_neg h0,hK,if_pos h1]
  have zg:((K:Int) != 1) = true:=kr;rw [hC];simp [Tryz.f257,hr,zg]
 subst h1;by_cases h2:S≤64
 ·have hC:vJ s.l a = 5:=by unfold vJ vD;rw [if_neg h0,hK,if_neg (by simp),hS,if_pos (.inl h2)]
  have zH:(S:Int)≤64:=by omega
  rw [hC];simp [Tryz.f257,hr,zH]
 have zH:¬ (S:Int)≤64:=by omega
 have hC:vJ s.l a = 0:=by unfold vJ vD;rw [if_neg h0,hK,if_neg (by simp),hS,if_neg (by omega)]
 rw [if_pos hC];have jM:=qdn qM;rw [hS] at jM;have qU:s.nil = false:=Sl.nn (i:=a) (by omega);have XE:=qN ((a:Int)+16) ((a:Int)+16);have Y8:=qN ((a:Int)+(S:Int)) ((a:Int)+(S:Int));have q1:(0:Int)≤(a:Int)+(S:Int)∧(a:Int)+(S:Int)≤(s.l.length:Int)∧(0:Int)≤(a:Int)+16∧(a:Int)+16≤(a:Int)+(S:Int):=by omega
 have n1:((a:Int)+16).toNat = a+16:=by omega
 have n2:((a:Int)+(S:Int)).toNat = a+S:=by omega
 have jy:List.take (a+S - (a+16)) (List.drop (a+16) (qd s.l)) = qd (qB s.l a):=by
  unfold qB;rw [hS,show a+S - (a+16) = S - 16 by omega,Yw,Yv]
 have VE:a+S - (a+16) = (qB s.l a).length:=by omega
 have hpl:48 < (qB s.l a).length:=by omega
 unfold VZ jN;obtain ⟨p,hp⟩:=ql (qB s.l a);rw [hp] at jy VE hpl ⊢;have hbd2:List.take p.length (List.drop (a+16) (qd s.l)) = qd p:=by rw [← VE,jy]
 rw [qU] at hr;have zq:=qkv (Sl.mk false (p.drop 48) (by simp)) (by simp only [vQ];omega);simp only [QE,if_false] at zq;simp [Tryz.f257,hr,zH,qU,XE,Y8,q1,n1,n2,VE];refine Run.loopThen (fun (k:Nat) e H=>k≤6∧(∃ d,qi e 14 = some d∧qhI d H (qK ((jw p).take k)))∧qi e 13 = some (.vsl false (qd p) p.length)∧qi e 3 = some (.int .i64 6)∧qi e 49 = some (.int .i64 6)∧qi e 50 = some (.int .i64 k)) (fun k=>6 - k) 0 (by simp [qhI,qK,hbd2]) ?_;rintro k e H ⟨hk,⟨d,k14,qbC⟩,k13,k3,k49,k50⟩;by_cases qg:k < 6
 ·have qo:(k:Int) < 6:=by omega
  have hw:=qx ((k:Int)+1) ((k+1:Nat):Int);have hw8:=qx (8 * (k:Int)) (8 * (k:Int));have Kw:8 * k+8≤p.length:=by omega
  have hg:=qbt (Sl.mk false p (by simp)) (8 * k) Kw (by simp only;omega) (x:=8 * (k:Int)) (by omega);have hsn:=qer ((jw p).take k) (qC p (8 * k));rw [← qmI (by omega)] at hsn;have hL:(qK ((jw p).take k)).length≤1000:=by simp;omega
  have hI:=qjf ((jw p).take k);simp only at hg;generalize qK ((jw p).take k) = l at *;generalize qC p (8 * k) = c at *;have Zt:(l.length+1) * 8≤140737488355328:=by omega
  have YC:l.length+1≤140737488355328:=by omega
  rcases qbC with ⟨rfl,rfl,rfl⟩ | ⟨rfl,rfl,qQ⟩
  ·simp [k13,k14,k3,k49,k50,qo,hw,hw8,hg,qD];exact ⟨k+1,by omega,by omega,.inr (by simp [hsn]),by omega⟩
  ·simp [k13,k14,k3,k49,k50,qo,hw,hw8,hg,qD,Zt,YC,hI];exact ⟨k+1,by omega,by omega,.inr (by simp [hsn]),by omega⟩
 ·have hk6:k = 6:=by omega
  subst hk6;have hne6:(qK ((jw p).take 6)).length = 6:=by simp;omega
  rcases qbC with ⟨rfl,zF,rfl⟩ | ⟨rfl,rfl,qQ⟩
  ·rw [zF] at hne6;simp at hne6
  ·have hI:=qjf ((jw p).take 6);rw [hne6] at k14;have hd48:List.drop 48 (qd p) = qd (p.drop 48):=Yw _ _;have Vp:(48:Int)≤(p.length:Int):=(by omega);simp only [vQ] at zq;have hIf:idFree.idFreeL (qK ((jw p).take 6)) = true:=(by rw [kY];exact qkz _);have ht6:List.take 6 (qK ((jw p).take 6)) = qK ((jw p).take 6):=qP (by omega);generalize qK ((jw p).take 6) = l at *;simp [k13,k14,k3,k49,k50,zq,hd48,Vp,hne6,hIf,ht6]
set_option maxHeartbeats 1000000 in
theorem qwS [MaxL] [TxtC] (s:Sl UInt8) (hl:s.l.length≤1000000) (a:Nat) (ha:a < 18446744073709551616) :
  call cx 251 [(.vsl s.nil (qd s.l) s.l.length),.int .u64 a] [] = some (.tup [qjZ s.l a,.int .i64 (vJ s.l a:Nat)],[]):=by
 have hr:=qw7 s hl a ha;refine qy Tryz.func251 rfl ⟨rfl,rfl⟩ ?_;unfold qjZ;by_cases h0:vJ s.l a = 0
 ·rw [if_pos h0] at hr;rw [if_pos h0,h0];obtain ⟨q1,q2,q3,q4,q5⟩:=qdS h0;have hn:(VZ s.l a).length = 6:=by unfold VZ;rw [jU,qan];omega
  unfold qdR;generalize VZ s.l a = l at *;generalize jN s.l a = p at *
  match l,hn with
  | [x0,x1,x2,x3,x4,x5],_ =>
   simp only [qK,List.map] at hr ⊢;simp [Tryz.f251,hr]
 ·rw [if_neg h0] at hr;rw [if_neg h0];have qM:(((vJ s.l a:Nat):Int) != 0) = true:=kr;generalize vJ s.l a = c at *;simp [Tryz.f251,hr,qM,qjY]
theorem qen [MaxL] [TxtC] {x r:Int} {k:Nat} (hk:k < 64) (e:kF x k = r) {kk:Int} (KA:kk = k):call cx 270 [.int .u64 x,.int .i64 kk] [] = some (.int .u64 r,[]):=by
 rw [KA,← e];have hw:=qN (k:Int) (k:Int)
 have h63:Yf .u64 (k:Int) 63 = (k:Int):=by
  have h1:∀ j:Nat,j < 64→Yf .u64 (j:Int) 63 = (j:Int):=by decide
  exact h1 k hk
 have qZ:=qN (64 - (k:Int)) ((64 - k:Nat):Int);have m1:min k 64 = k:=by omega
 have hn:¬ (k:Int) < 0:=by omega
 refine qy Tryz.func270 rfl ⟨rfl,rfl⟩ ?_;unfold kF;obtain ⟨j,hj⟩:∃ j,j = 64 - k:=⟨_,rfl⟩;rw [← hj] at qZ ⊢;have m2:min j 64 = j:=by omega
 have zX:¬ (j:Int) < 0:=by omega
 simp [Tryz.f270,hw,h63,qZ,IntKind.bits,m1,m2,hn,zX]
abbrev vu (a b c d:Int) (n:Nat) (r:D):List D:=[.int .u64 a,.int .u64 b,.int .u64 c,.int .u64 d,.int .i64 n,r]
set_option maxHeartbeats 2000000 in
theorem qmq [MaxL] [TxtC] {H:qe} {q:Nat} {a b c d:Int} {n:Nat} {r:D} (hq:qf H q = some (vu a b c d n r)) (m:Nat) (hm:m≤100) {a1 b1 c1 d1:Int} (hR:ZQ m (a,b,c,d) = (a1,b1,c1,d1)) {x:Int} (hx:x = m) :
  call cx 269 [.optr q 6 0,.int .i64 x] H = some (.tup [],qn H q (vu a1 b1 c1 d1 n r)):=by
 subst hx;refine vt Tryz.func269 rfl ⟨rfl,rfl⟩ ?_;simp only [vu] at hq ⊢;simp [-qf,-qn,Tryz.f269,hq];refine Run.loopThen (fun (k:Nat) e H'=>H' = H∧k≤m∧∃ p q' r' s:Int,ZQ (m - k) (p,q',r',s) = (a1,b1,c1,d1)∧qi e 0 = some (.optr q 6 0)∧qi e 24 = some (.int .i64 m)∧qi e 25 = some (.int .i64 k)∧qi e 4 = some (.int .u64 p)∧qi e 5 = some (.int .u64 q')∧qi e 6 = some (.int .u64 r')∧qi e 7 = some (.int .u64 s)) (fun k=>m - k) 0 ?_ ?_
 ·exact ⟨rfl,by omega,a,b,c,d,by simpa using hR,by simp,by simp,by simp,by simp,by simp,by simp,by simp⟩
 rintro k e K ⟨rfl,hk,p,q',r',s,hE,k0,k24,k25,k4,k5,k6,k7⟩;by_cases qg:k < m
 ·have qo:=zI qg;have hw:=qx ((k:Int)+1) ((k+1:Nat):Int);rw [show m - k = (m - (k+1))+1 by omega,ZQ] at hE;obtain ⟨p1,h1⟩:=ql (JG p q');obtain ⟨q0',h2⟩:=ql (kF q' 13);obtain ⟨q1,h3⟩:=ql (qH .u64 q0' p1);obtain ⟨p2,h4⟩:=ql (kF p1 32);obtain ⟨r1,h5⟩:=ql (JG r' s);obtain ⟨s0',h6⟩:=ql (kF s 16);obtain ⟨s1,h7⟩:=ql (qH .u64 s0' r1);obtain ⟨p3,h8⟩:=ql (JG p2 s1);obtain ⟨s2,h9⟩:=ql (kF s1 21);obtain ⟨s3,g1⟩:=ql (qH .u64 s2 p3);obtain ⟨r2,g2⟩:=ql (JG r1 q1);obtain ⟨q2,g3⟩:=ql (kF q1 17);obtain ⟨q3,g4⟩:=ql (qH .u64 q2 r2);obtain ⟨r3,g5⟩:=ql (kF r2 32);rw [qlL h1 h2 h3 h4 h5 h6 h7 h8 h9 g1 g2 g3 g4 g5] at hE;have u2:=qen (k:=13) (by decide) h2 (kk:=13) rfl;have u4:=qen (k:=32) (by decide) h4 (kk:=32) rfl;have u6:=qen (k:=16) (by decide) h6 (kk:=16) rfl;have u9:=qen (k:=21) (by decide) h9 (kk:=21) rfl;have v3:=qen (k:=17) (by decide) g3 (kk:=17) rfl;have v5:=qen (k:=32) (by decide) g5 (kk:=32) rfl;unfold JG at h1 h5 h8 g2;simp [-qf,-qn,k0,k24,k25,k4,k5,k6,k7,qo,hw,h1,u2,h3,u4,h5,u6,h7,h8,u9,g1,g2,v3,g4,v5];exact ⟨k+1,by omega,by omega,p3,q3,r3,s3,hE,by omega,rfl,rfl,rfl,rfl⟩
 ·have qo:=zL qg;rw [show m - k = 0 by omega,ZQ] at hE;obtain ⟨e1,hE⟩:=Prod.mk.inj hE;obtain ⟨e2,hE⟩:=Prod.mk.inj hE;obtain ⟨e3,e4⟩:=Prod.mk.inj hE;subst e1;subst e2;subst e3;subst e4;obtain ⟨H1,x1⟩:=ql (qn K q [.int .u64 p,.int .u64 b,.int .u64 c,.int .u64 d,.int .i64 n,r]);have y1:qf H1 q = some [.int .u64 p,.int .u64 b,.int .u64 c,.int .u64 d,.int .i64 n,r]:=by rw [← x1];exact zG (qA hq)
  obtain ⟨H2,x2⟩:=ql (qn H1 q [.int .u64 p,.int .u64 q',.int .u64 c,.int .u64 d,.int .i64 n,r]);have y2:qf H2 q = some [.int .u64 p,.int .u64 q',.int .u64 c,.int .u64 d,.int .i64 n,r]:=by rw [← x2];exact zG (qA y1)
  obtain ⟨H3,x3⟩:=ql (qn H2 q [.int .u64 p,.int .u64 q',.int .u64 r',.int .u64 d,.int .i64 n,r]);have y3:=Qx x3 y2
  have x4:qn K q [.int .u64 p,.int .u64 q',.int .u64 r',.int .u64 s,.int .i64 n,r] = qn H3 q [.int .u64 p,.int .u64 q',.int .u64 r',.int .u64 s,.int .i64 n,r]:=by
   rw [← x3,← x2,← x1];unfold qn;simp only [List.set_set]
  rw [x4];simp [-qf,-qn,k0,k24,k25,k4,k5,k6,k7,qo,hq,x1,y1,x2,y2,x3,y3]
set_option maxHeartbeats 1000000 in
theorem qmh [MaxL] [TxtC] {H:qe} {q:Nat} {a b c d:Int} {n:Nat} {r:D} (hq:qf H q = some (vu a b c d n r)) (m:Nat) {a1 b1 c1 d1:Int} (hR:V3 (m:Nat) (a,b,c,d) = (a1,b1,c1,d1)) :
  call cx 268 [.optr q 6 0,.int .u64 m] H = some (.tup [],qn H q (vu a1 b1 c1 d1 n r)):=by
 obtain ⟨a2,b2,c2,d2,hr⟩:∃ a1 b1 c1 d1,ZQ 2 (a,b,c,qH .u64 d m) = (a1,b1,c1,d1):=⟨_,_,_,_,rfl⟩;simp only [V3,hr,zm] at hR;obtain ⟨e1,rfl,rfl,rfl⟩:=hR;obtain ⟨H1,x1⟩:=ql (qn H q (vu a b c (qH .u64 d m) n r));have y1:qf H1 q = some (vu a b c (qH .u64 d m) n r):=by rw [← x1];exact zG (qA hq)
 have hc:=qmq y1 2 (by omega) hr (x:=2) rfl;obtain ⟨H2,x2⟩:=ql (qn H1 q (vu a2 b2 c2 d2 n r));have y2:qf H2 q = some (vu a2 b2 c2 d2 n r):=by rw [← x2];exact zG (qA y1)
 rw [x2] at hc
 have x4:qn H q (vu a1 b2 c2 d2 n r) = qn H2 q (vu a1 b2 c2 d2 n r):=by
  rw [← x2,← x1];unfold qn;simp only [List.set_set]
 rw [x4];refine vt Tryz.func268 rfl ⟨rfl,rfl⟩ ?_;simp only [vu] at hq x1 y1 y2 hc ⊢;simp [-qf,-qn,Tryz.f268,hq,x1,hc,y2,e1]
theorem qvx [MaxL] [TxtC] (x:Int) (k:Nat) (hk:k < 32):call cx 262 [.int .u32 x,.int .i64 k] [] = some (.int .u32 (zp x k),[]):=by
 have h:=q2Z k hk;have hw:=qN (k:Int) (k:Int);have qZ:=qN (32 - (k:Int)) ((32 - k:Nat):Int);have m1:min k 32 = k:=by omega
 have hn:¬ (k:Int) < 0:=by omega
 refine qy Tryz.func262 rfl ⟨rfl,rfl⟩ ?_;unfold zp;obtain ⟨j,hj⟩:∃ j,j = 32 - k:=⟨_,rfl⟩;rw [← hj] at qZ ⊢;have m2:min j 32 = j:=by omega
 have zX:¬ (j:Int) < 0:=by omega
 simp [Tryz.f262,h,hw,qZ,IntKind.bits,m1,m2,hn,zX]
theorem KV [MaxL] [TxtC] {x r:Int} {k:Nat} (hk:k < 32) (e:zp x k = r) {kk:Int} (KA:kk = k):call cx 262 [.int .u32 x,.int .i64 kk] [] = some (.int .u32 r,[]):=by
 rw [KA,← e];exact qvx x k hk
set_option maxHeartbeats 4000000 in
set_option maxRecDepth 4000 in
theorem qxp [MaxL] [TxtC] (x y z:Int) (R:qe) (hR:R = []∨R = [none]):call cx 255 [.optr 0 3 0] (some [.int .u32 x,.int .u32 y,.int .u32 z] :: R) = some (.tup [],some [.int .u32 (qdD (x,y,z)).1,.int .u32 (qdD (x,y,z)).2.1,.int .u32 (qdD (x,y,z)).2.2] :: R):=by
 obtain ⟨a1,h1⟩:=ql (zY x z);have e0:IntKind.u32.wrap (x - z) = a1:=h1;obtain ⟨r0,q0⟩:=ql (zp z 4);have e1:=KV (by omega) q0 (kk:=4) rfl;obtain ⟨x1,f0⟩:=ql (qH .u32 a1 r0);have h2:qH .u32 a1 (zp z 4) = x1:=by rw [q0];exact f0
 obtain ⟨z1,h3⟩:=ql (vm z y);have e2:IntKind.u32.wrap (z+y) = z1:=h3;obtain ⟨a2,h4⟩:=ql (zY y x1);have e3:IntKind.u32.wrap (y - x1) = a2:=h4;obtain ⟨r1,q1⟩:=ql (zp x1 6);have e4:=KV (by omega) q1 (kk:=6) rfl;obtain ⟨y1,f1⟩:=ql (qH .u32 a2 r1);have h5:qH .u32 a2 (zp x1 6) = y1:=by rw [q1];exact f1
 obtain ⟨x2,h6⟩:=ql (vm x1 z1);have e5:IntKind.u32.wrap (x1+z1) = x2:=h6;obtain ⟨a3,h7⟩:=ql (zY z1 y1);have e6:IntKind.u32.wrap (z1 - y1) = a3:=h7;obtain ⟨r2,q2⟩:=ql (zp y1 8);have e7:=KV (by omega) q2 (kk:=8) rfl;obtain ⟨z2,f2⟩:=ql (qH .u32 a3 r2);have h8:qH .u32 a3 (zp y1 8) = z2:=by rw [q2];exact f2
 obtain ⟨y2,h9⟩:=ql (vm y1 x2);have e8:IntKind.u32.wrap (y1+x2) = y2:=h9;obtain ⟨a4,g1⟩:=ql (zY x2 z2);have e9:IntKind.u32.wrap (x2 - z2) = a4:=g1;obtain ⟨r3,q3⟩:=ql (zp z2 16);have e10:=KV (by omega) q3 (kk:=16) rfl;obtain ⟨x3,f3⟩:=ql (qH .u32 a4 r3);have g2:qH .u32 a4 (zp z2 16) = x3:=by rw [q3];exact f3
 obtain ⟨z3,g3⟩:=ql (vm z2 y2);have e11:IntKind.u32.wrap (z2+y2) = z3:=g3;obtain ⟨a5,g4⟩:=ql (zY y2 x3);have e12:IntKind.u32.wrap (y2 - x3) = a5:=g4;obtain ⟨r4,q4⟩:=ql (zp x3 19);have e13:=KV (by omega) q4 (kk:=19) rfl;obtain ⟨y3,f4⟩:=ql (qH .u32 a5 r4);have g5:qH .u32 a5 (zp x3 19) = y3:=by rw [q4];exact f4
 obtain ⟨x4,g6⟩:=ql (vm x3 z3);have e14:IntKind.u32.wrap (x3+z3) = x4:=g6;obtain ⟨a6,g7⟩:=ql (zY z3 y3);have e15:IntKind.u32.wrap (z3 - y3) = a6:=g7;obtain ⟨r5,q5⟩:=ql (zp y3 4);have e16:=KV (by omega) q5 (kk:=4) rfl;obtain ⟨z4,f5⟩:=ql (qH .u32 a6 r5);have g8:qH .u32 a6 (zp y3 4) = z4:=by rw [q5];exact f5
 obtain ⟨y4,g9⟩:=ql (vm y3 x4);have e17:IntKind.u32.wrap (y3+x4) = y4:=g9;have hm:=qmZ h1 h2 h3 h4 h5 h6 h7 h8 h9 g1 g2 g3 g4 g5 g6 g7 g8 g9;rw [hm];clear g9 g8 g7 g6 g5 g4 g3 g2 g1 h9 h8 h7 h6 h5 h4 h3 h2 h1 hm q0 q1 q2 q3 q4 q5;rcases hR with rfl | rfl
 ·refine qy Tryz.func255 rfl ⟨rfl,rfl⟩ ?_;simp [Tryz.f255,e0,e1,f0,e2,e3,e4,f1,e5,e6,e7,f2,e8,e9,e10,f3,e11,e12,e13,f4,e14,e15,e16,f5,e17]
 ·refine qy Tryz.func255 rfl ⟨rfl,rfl⟩ ?_;simp [Tryz.f255,e0,e1,f0,e2,e3,e4,f1,e5,e6,e7,f2,e8,e9,e10,f3,e11,e12,e13,f4,e14,e15,e16,f5,e17]
set_option maxHeartbeats 4000000 in
set_option maxRecDepth 4000 in
theorem qxC [MaxL] [TxtC] (x y z:Int) {x' y' z':Int} (hm:qdM (x,y,z) = (x',z',y')) (R:qe) (hR:R = []∨R = [none]):call cx 256 [.optr 0 3 0] (some [.int .u32 x,.int .u32 y,.int .u32 z] :: R) = some (.tup [],some [.int .u32 x',.int .u32 y',.int .u32 z'] :: R):=by
 obtain ⟨a1,h1⟩:=ql (qH .u32 z y);obtain ⟨r0,q0⟩:=ql (zp y 14);have e1:=KV (by omega) q0 (kk:=14) rfl;obtain ⟨z1,f0⟩:=ql (zY a1 r0);have d0:IntKind.u32.wrap (a1 - r0) = z1:=f0;have h2:zY a1 (zp y 14) = z1:=by rw [q0];exact f0
 obtain ⟨a2,h3⟩:=ql (qH .u32 x z1);obtain ⟨r1,q1⟩:=ql (zp z1 11);have e3:=KV (by omega) q1 (kk:=11) rfl;obtain ⟨x1,f1⟩:=ql (zY a2 r1);have d1:IntKind.u32.wrap (a2 - r1) = x1:=f1;have h4:zY a2 (zp z1 11) = x1:=by rw [q1];exact f1
 obtain ⟨a3,h5⟩:=ql (qH .u32 y x1);obtain ⟨r2,q2⟩:=ql (zp x1 25);have e5:=KV (by omega) q2 (kk:=25) rfl;obtain ⟨y1,f2⟩:=ql (zY a3 r2);have d2:IntKind.u32.wrap (a3 - r2) = y1:=f2;have h6:zY a3 (zp x1 25) = y1:=by rw [q2];exact f2
 obtain ⟨a4,h7⟩:=ql (qH .u32 z1 y1);obtain ⟨r3,q3⟩:=ql (zp y1 16);have e7:=KV (by omega) q3 (kk:=16) rfl;obtain ⟨z2,f3⟩:=ql (zY a4 r3);have d3:IntKind.u32.wrap (a4 - r3) = z2:=f3;have h8:zY a4 (zp y1 16) = z2:=by rw [q3];exact f3
 obtain ⟨a5,g1⟩:=ql (qH .u32 x1 z2);obtain ⟨r4,q4⟩:=ql (zp z2 4);have e9:=KV (by omega) q4 (kk:=4) rfl;obtain ⟨x2,f4⟩:=ql (zY a5 r4);have d4:IntKind.u32.wrap (a5 - r4) = x2:=f4;have g2:zY a5 (zp z2 4) = x2:=by rw [q4];exact f4
 obtain ⟨a6,g3⟩:=ql (qH .u32 y1 x2);obtain ⟨r5,q5⟩:=ql (zp x2 14);have e11:=KV (by omega) q5 (kk:=14) rfl;obtain ⟨y2,f5⟩:=ql (zY a6 r5);have d5:IntKind.u32.wrap (a6 - r5) = y2:=f5;have g4:zY a6 (zp x2 14) = y2:=by rw [q5];exact f5
 obtain ⟨a7,g5⟩:=ql (qH .u32 z2 y2);obtain ⟨r6,q6⟩:=ql (zp y2 24);have e13:=KV (by omega) q6 (kk:=24) rfl;obtain ⟨z3,f6⟩:=ql (zY a7 r6);have d6:IntKind.u32.wrap (a7 - r6) = z3:=f6;have g6:zY a7 (zp y2 24) = z3:=by rw [q6];exact f6
 have hn:=qr5 h1 h2 h3 h4 h5 h6 h7 h8 g1 g2 g3 g4 g5 g6;rw [hm] at hn;clear hm;obtain ⟨ja,hn⟩:=Prod.mk.inj hn;obtain ⟨zX,hn3⟩:=Prod.mk.inj hn;clear g6 g4 g2 h8 h6 h4 h2 f0 q0 f1 q1 f2 q2 f3 q3 f4 q4 f5 q5 f6 q6;rw [ja,zX,hn3];clear ja zX hn3;rcases hR with rfl | rfl
 ·refine qy Tryz.func256 rfl ⟨rfl,rfl⟩ ?_;simp [Tryz.f256,h1,e1,d0,h3,e3,d1,h5,e5,d2,h7,e7,d3,g1,e9,d4,g3,e11,d5,g5,e13,d6]
 ·refine qy Tryz.func256 rfl ⟨rfl,rfl⟩ ?_;simp [Tryz.f256,h1,e1,d0,h3,e3,d1,h5,e5,d2,h7,e7,d3,g1,e9,d4,g3,e11,d5,g5,e13,d6]
theorem qjB [MaxL] [TxtC] (l:List UInt8) (hl:l.length = 12) (a:Nat) (ha:a≤8) {at_:Int} (qI:at_ = a):call cx 208 [.vsl false (qd l) 12,.int .i64 at_,.int .i64 4] [] = some (.tup [.int .u64 (vg l a:Nat),.bool true],[]):=by
 have h:=qjp (Sl.of l) at_ 4 (by omega) (by show l.length < _;omega)
 have e:Y2 l at_ 4 = some (vg l a):=by
  unfold Y2;rw [if_pos ⟨by decide,by omega,by omega⟩];have e1:at_.toNat = a:=by omega
  rw [e1];rfl
 have e2:(Sl.of l).l = l:=rfl;rw [e2,e] at h;have e4:(Sl.of l).nil = false:=rfl;rw [e4,hl] at h;exact h
set_option maxHeartbeats 2000000 in
theorem qsX [MaxL] [TxtC] (l:List UInt8) (hl:l.length = 12) (x y z:Int) {x' y' z':Int} (hm:JF l (x,y,z) = (x',y',z')) (R:qe) (hR:R = []∨R = [none]) :
  call cx 254 [.optr 0 3 0,.vsl false (qd l) 12] (some [.int .u32 x,.int .u32 y,.int .u32 z] :: R) = some (.tup [],some [.int .u32 x',.int .u32 y',.int .u32 z'] :: R):=by
 have h0:=qjB l hl 0 (by omega) (at_:=0) rfl;have h4:=qjB l hl 4 (by omega) (at_:=4) rfl;have h8:=qjB l hl 8 (by omega) (at_:=8) rfl;have w0:=qdz l 0;have w4:=qdz l 4;have w8:=qdz l 8;unfold JF vm at hm;obtain ⟨e1,hm⟩:=Prod.mk.inj hm;obtain ⟨e2,e3⟩:=Prod.mk.inj hm;generalize vg l 0 = a at *;generalize vg l 4 = b at *;generalize vg l 8 = c at *;have v0:=Yj (a:Int) a;have v4:=Yj (b:Int) b;have v8:=Yj (c:Int) c;rcases hR with rfl | rfl
 ·refine qy Tryz.func254 rfl ⟨rfl,rfl⟩ ?_;simp [Tryz.f254,h0,h4,h8,v0,v4,v8,e1,e2,e3]
 ·refine qy Tryz.func254 rfl ⟨rfl,rfl⟩ ?_;simp [Tryz.f254,h0,h4,h8,v0,v4,v8,e1,e2,e3]
set_option maxHeartbeats 4000000 in
theorem qni [MaxL] [TxtC] (s:Sl UInt8) (_:s.l.length < 4611686018427387904):call cx 248 [(.vsl s.nil (qd s.l) s.l.length)] [] = some (.int .u64 (Y1 s.l),[]):=by
 refine qy Tryz.func248 rfl ⟨rfl,rfl⟩ ?_;have hN:Y1 s.l = Kq s.l (vm 3735928559 (IntKind.u32.wrap (s.l.length:Nat)),vm 3735928559 (IntKind.u32.wrap (s.l.length:Nat)),vm 3735928559 (IntKind.u32.wrap (s.l.length:Nat))):=rfl;obtain ⟨n,hn⟩:=ql (IntKind.u32.wrap (3735928559+IntKind.u32.wrap (s.l.length:Nat)));have zX:vm 3735928559 (IntKind.u32.wrap (s.l.length:Nat)) = n:=hn;rw [zX] at hN;clear zX;generalize Y1 s.l = res at *;simp [Tryz.f248,hn];refine Run.loopThen (fun (q:List UInt8 × Int × Int × Int) e H'=>q.1.length≤s.l.length∧(s.nil = true→q.1 = [])∧Kq q.1 q.2 = res∧qi e 0 = some (.vsl s.nil (qd q.1) q.1.length)∧qi e 4 = some (.optr 0 3 0)∧H' = [some [.int .u32 q.2.1,.int .u32 q.2.2.1,.int .u32 q.2.2.2]]) (fun q=>q.1.length) (s.l,n,n,n) ?_ ?_
 ·simp [hN];exact s.h
 rintro ⟨l,x,y,z⟩ e H' ⟨hl,zF,hR,k0,k4,rfl⟩;simp only at hl zF hR k0 k4;by_cases vG:12 < l.length
 ·have h12':(12:Int) < (l.length:Int):=by omega
  have zx:s.nil = false:=by
   cases hq:s.nil with
   | false=>rfl
   | true=>rw [zF hq] at vG;simp at vG
  rw [zx] at k0;rw [qjm vG] at hR;obtain ⟨⟨x1,y1,z1⟩,ha⟩:∃ t,JF (l.take 12) (x,y,z) = t:=⟨_,rfl⟩;have hA:=qsX (l.take 12) (by rw [jU];omega) x y z ha [] (.inl rfl)
  have YJ:JF l (x,y,z) = (x1,y1,z1):=by
   rw [← ha];simp only [JF,vg,List.drop_take,List.take_take];rfl
  rw [YJ] at hR;have hM:=qxp x1 y1 z1 [] (.inl rfl);have t12:List.take 12 (qd l) = qd (l.take 12):=by simp [qd,List.map_take]
  have d12:List.drop 12 (qd l) = qd (l.drop 12):=by simp [qd,List.map_drop]
  have h12a:(12:Int)≤(l.length:Int):=by omega
  have jp:(l.drop 12).length = l.length - 12:=vQ;have jc:List.take (l.length - 12) (qd (l.drop 12)) = qd (l.drop 12):=qP (by simp);generalize l.take 12 = p at *;generalize l.drop 12 = l' at *;simp [k0,k4,h12',hA,hM,h12a,t12,d12,jc];exact ⟨l',by omega,by omega,by simp [zx],_,_,_,hR,⟨zx,rfl,by omega⟩,rfl,rfl,rfl⟩
 ·have h12':¬ (12:Int) < (l.length:Int):=by omega
  by_cases h0:l.length = 0
  ·have qM:¬ (0:Int) < (l.length:Int):=(by omega);rw [qjl h0] at hR;subst hR;have hp64:(2:Int) ^ min 32 IntKind.u64.bits = 4294967296:=(by decide);simp [k0,k4,h0,qbn,hp64]
  ·have qM:(0:Int) < (l.length:Int):=by omega
   have zx:s.nil = false:=by
    cases hq:s.nil with
    | false=>rfl
    | true=>rw [zF hq] at h0;simp at h0
   rw [zx] at k0;have hp:(l ++ List.replicate (12 - l.length) 0).length = 12:=(by rw [zz,List.length_replicate];omega);have JB:=q3q l (12 - l.length) (x,y,z);obtain ⟨⟨x1,y1,z1⟩,ha⟩:∃ t,JF l (x,y,z) = t:=⟨_,rfl⟩;rw [ha] at JB;obtain ⟨⟨x2,z2,y2⟩,hf⟩:∃ t,qdM (x1,y1,z1) = t:=⟨_,rfl⟩;rw [qjn vG h0 (x:=x2) (y:=y2) (z:=z2) (by rw [ha];exact hf)] at hR;subst hR;have hA:=qsX _ hp x y z JB [none] (.inr rfl);have hF:=qxC x1 y1 z1 hf [none] (.inr rfl);have hp64:(2:Int) ^ min 32 IntKind.u64.bits = 4294967296:=(by decide);have h0n:0 < l.length:=(by omega);have qa0:min l.length 12 = l.length:=by omega
   have qn:zM (zb8 [D.int .u8 0,D.int .u8 0,D.int .u8 0,D.int .u8 0]) 0 (qd l) = qd (l ++ List.replicate (12 - l.length) 0):=by
    show zM (List.replicate 12 (D.int .u8 0)) 0 (qd l) = _;unfold zM;rw [List.take_zero,Jo,qam,List.drop_replicate];simp [qd]
   have jc:List.take l.length (qd l) = qd l:=qP (by simp);generalize l ++ List.replicate (12 - l.length) 0 = p at *;simp [-qcj,k0,k4,h12',h0n,hA,hF,qbn,hp64,qa0,qn,jc,hp]
def RestT (T:qe) (q:Nat) (d:D) (c:List UInt8):Prop :=
 (d = .vsl true [] 0∧c = [])∨∃ r st ds,d = .osl r st 0 c.length 1∧qf T r = some ds∧ds.length = st∧ds.take c.length = qd c∧c.length≤st∧r≠q∧0 < st
theorem RestT.of {T:qe} {q r:Nat} {c:List UInt8} (h:qf T r = some (qd c)) (hr:r≠q) (hc:0 < c.length):RestT T q (.osl r c.length 0 c.length 1) c :=
 .inr ⟨r,c.length,qd c,rfl,h,by simp [qd],qP (by simp [qd]),qE _,hr,hc⟩
set_option maxHeartbeats 4000000 in
theorem qw5 [MaxL] [TxtC] {H:qe} {q:Nat} {a b c d:Int} (hq:qf H q = some (vu a b c d 0 (.vsl true [] 0))) (s:Sl UInt8) (hs:s.l.length < 1000000) :
  ∃ T,call cx 264 [.optr q 6 0,(.vsl s.nil (qd s.l) s.l.length)] H = some (.tup [],T)∧∃ p q' r' s' dr,KU s.l (a,b,c,d) = (p,q',r',s')∧qf T q = some (vu p q' r' s' s.l.length dr)∧RestT T q dr (s.l.drop (s.l.length / 8 * 8)):=by
 obtain ⟨R,hR⟩:=ql (KU s.l (a,b,c,d));obtain ⟨W,hW⟩:=ql (s.l.drop (s.l.length / 8 * 8));rw [hR,hW];obtain ⟨N,hN⟩:=ql (s.l.length);have hqg:∀ x,qf (qn H q x) q = some x:=fun x=>zG (qA hq);have hwN:=qx (s.l.length:Int) (s.l.length:Int)
 obtain ⟨⟨x,T⟩,h1,h2,p,q',r',s',dr,c',h3,h4,h5,rfl⟩:∃ r,call cx 264 [.optr q 6 0,(.vsl s.nil (qd s.l) s.l.length)] H = some r∧r.1 = .tup []∧∃ p q' r' s' dr c',R = (p,q',r',s')∧qf r.2 q = some (vu p q' r' s' s.l.length dr)∧RestT r.2 q dr c'∧c' = W:=by
  refine Zh (X:=cx) (f:=264) _ Tryz.func264 rfl ⟨rfl,rfl⟩ ?_;simp only [vu] at hq ⊢;simp [-qf,-qn,-qs,-qT,-J9,Tryz.f264,hq,hwN];refine Run.loopThen (fun (l:List UInt8) e K=>l.length≤s.l.length∧qi e 0 = some (.optr q 6 0)∧qi e 1 = some (.vsl s.nil (qd l) l.length)∧(s.nil = true→l = [])∧∃ p q' r' s' dr c',qf K q = some (vu p q' r' s' s.l.length dr)∧RestT K q dr c'∧((c' = []∧KU l (p,q',r',s') = R∧l.drop (l.length / 8 * 8) = W)∨(l = []∧c' = W∧(p,q',r',s') = R))) (fun l=>l.length) s.l ?_ ?_
  ·exact ⟨qE _,by simp,by simp,s.h,a,b,c,d,_,[],hqg _,.inl ⟨rfl,rfl⟩,.inl ⟨rfl,hR,hW⟩⟩
  rintro l e K ⟨hl,k0,k1,zF,p,q',r',s',dr,c',hK,hT,hC⟩;by_cases h0:l = []
  ·subst h0
   have hfin:(p,q',r',s') = R∧c' = W:=by
    rcases hC with ⟨h1,h2,h3⟩ | ⟨_,h2,h3⟩
    ·rw [qiq (by simp)] at h2;exact ⟨h2,by rw [h1];simpa using h3⟩
    ·exact ⟨h3,h2⟩
   simp [-qf,-qn,-qs,-qT,-J9,k0,k1];exact ⟨p,q',r',s',hfin.1.symm,dr,hK,by rw [← hfin.2];exact hT⟩
  ·have QT:0 < l.length:=List.length_pos_iff.2 h0;have hpos':(0:Int) < (l.length:Int):=by omega
   have zx:s.nil = false:=by
    cases h:s.nil with
    | false=>rfl
    | true=>exact absurd (zF h) h0
   rw [zx] at k1
   obtain ⟨rfl,hE,hWl⟩:c' = []∧KU l (p,q',r',s') = R∧l.drop (l.length / 8 * 8) = W:=by
    rcases hC with h | ⟨h,_⟩
    ·exact h
    ·exact absurd h h0
   obtain ⟨k,hk⟩:=ql ((if l.length < 8 then l.length else 8));have hkl:k≤l.length∧0 < k∧k≤8:=by split at hk <;> omega
   have qa0:(if (l.length:Int) < 8 then (l.length:Int) else 8) = (k:Int):=by
    split at hk
    ·rw [if_pos (by omega)];omega
    ·rw [if_neg (by omega)];omega
   have hkI:(0:Int)≤(k:Int)∧(k:Int)≤(l.length:Int):=(by omega);have j7:¬ k = 0:=(by omega);have jc:List.take k (qd l) = qd (l.take k):=Yv _ _;have hdk:List.drop k (qd l) = qd (l.drop k):=Yw _ _;have XF:(l.take k).length = k:=by rw [jU];omega
   obtain ⟨z,K1,hap,hz,hzq,jS⟩:∃ (z:Nat) (K1:qe),qT Tryz.prog K 29 29 dr (.vsl false (qd (l.take k)) k) = some (.osl z k 0 k 1,K1)∧qf K1 z = some (qd (l.take k))∧z≠q∧qf K1 q = some (vu p q' r' s' s.l.length dr):=by
    have hql:=qA hK;rcases hT with ⟨rfl,_⟩ | ⟨r,st,ds,rfl,g1,g2,g3,g4,g5,g6⟩
    ·refine ⟨K.length,qs K (qd (l.take k)),?_,zA,by omega,by rw [vk hql];exact hK⟩;simp [-qf,-qs,XF,j7,qD];omega
    ·refine ⟨K.length,qs (J9 K r) (qd (l.take k)),?_,by rw [← qap (H:=K) (i:=r)];exact zA,by omega,by rw [vk (by rw [qap];exact hql),qqM (fun e=>g5 e.symm)];exact hK⟩;have g7:¬ 0 = st:=(by omega);simp [-qf,-qs,-J9,XF,qD,g1,g2,g6,g7];omega
   have hKl:=qA jS;have Q2:=qA hz;have hz2l:z < K1.length:=Q2;obtain ⟨K2,x2⟩:=ql (qn K1 q (vu p q' r' s' s.l.length (.osl z k 0 k 1)));have jL:qf K2 q = some (vu p q' r' s' s.l.length (.osl z k 0 k 1)):=(by rw [← x2];exact zG hKl);have kZ:qf K2 z = some (qd (l.take k)):=by rw [← x2,zN hzq];exact hz
   have hlen0:zf Tryz.prog 29 dr = some (.int .i64 0):=by
    rcases hT with ⟨rfl,_⟩ | ⟨r,st,ds,rfl,_⟩ <;> simp
   have J7:zf Tryz.prog 29 (.vsl false (qd l) l.length) = some (.int .i64 l.length):=(by simp);have jp:IntKind.i64.wrap 8 = 8:=(by decide);by_cases h8:k = 8
   ·subst h8;have vN:8≤l.length:=hkl.1;have hmn:min 8 l.length = 8:=(by omega);have hge':(8:Int)≤(l.length:Int):=(by omega);have hlg:=qbt (Sl.mk false (l.take 8) (by simp)) 0 (by simp only [XF];omega) (by simp only [XF];omega) (x:=0) rfl;simp only [XF] at hlg;obtain ⟨m,hm⟩:=ql (leN (l.take 8))
    have hu8:qC (l.take 8) 0 = m:=by
     unfold qC;rw [List.drop_zero,List.take_take];exact hm
    rw [hu8] at hlg;rw [qln vN,hm] at hE;obtain ⟨p1,q1,r1,s1,hB⟩:∃ p1 q1 r1 s1,V3 (m:Nat) (p,q',r',s') = (p1,q1,r1,s1):=⟨_,_,_,_,rfl⟩;rw [hB] at hE;have hwd:=qmh jL m hB;obtain ⟨K3,x3⟩:=ql (qn K2 q (vu p1 q1 r1 s1 s.l.length (.osl z 8 0 8 1)));have ZA:qf K3 q = some (vu p1 q1 r1 s1 s.l.length (.osl z 8 0 8 1)):=(by rw [← x3];exact zG (qA jL));have hz3:qf K3 z = some (qd (l.take 8)):=(by rw [← x3,zN hzq];exact kZ);rw [x3] at hwd;obtain ⟨K4,x4⟩:=ql (qn K3 q (vu p1 q1 r1 s1 s.l.length (.osl z 8 0 0 1)));have hq4:qf K4 q = some (vu p1 q1 r1 s1 s.l.length (.osl z 8 0 0 1)):=(by rw [← x4];exact zG (qA ZA));have hz4:qf K4 z = some (qd (l.take 8)):=(by rw [← x4,zN hzq];exact hz3);have hzl3:=qA hz3;simp only [vu] at hK jS x2 jL hwd ZA x4 hq4;have XP:zf Tryz.prog 29 (.osl z 8 0 8 1) = some (.int .i64 8):=(by simp);simp [-qf,-qn,-qs,-qT,-J9,-zf,k0,k1,QT,hK,hlen0,J7,XP,qa0,jc,hap,jS,Q2,x2,jL,kZ,hlg,hwd,ZA,hzl3,x4,hdk,jp,hge',hmn];refine ⟨l.drop 8,by simp;omega,by simp;omega,⟨zx,rfl,by simp⟩,(fun h=>absurd h (by rw [zx];decide)),_,_,_,_,_,hq4,[],?_,.inl ⟨rfl,hE,?_⟩⟩
    ·exact .inr ⟨z,8,_,rfl,hz4,by simp [qd,hmn],by simp [qd],by simp,hzq,by omega⟩
    ·rw [← hWl,vQ,jV,show 8+(l.length - 8) / 8 * 8 = l.length / 8 * 8 by omega]
   ·have hk8:¬ (k:Int) = 8:=(by omega);have j6:l.length = k:=(by split at hk <;> omega);have XP:zf Tryz.prog 29 (.osl z k 0 k 1) = some (.int .i64 k):=(by simp);simp only [vu] at hK jS x2 jL;simp [-qf,-qn,-qs,-qT,-J9,-zf,k0,k1,QT,hK,hlen0,J7,XP,qa0,hkI,jc,hap,jS,Q2,x2,jL,hdk,jp,hk8];have hdn:l.drop k = []:=List.drop_of_length_le (by omega);have VE:l.length / 8 = 0:=(by omega);rw [qiq (by omega)] at hE;rw [VE] at hWl;refine ⟨[],by simpa using QT,by simp,⟨zx,by rw [hdn],by simp;omega⟩,fun _=>rfl,_,_,_,_,_,⟨rfl,rfl,rfl,rfl,rfl⟩,l,?_,.inr ⟨rfl,by simpa using hWl,hE⟩⟩;have htl2:l.take k = l:=qP (by omega);rw [htl2] at kZ;rw [← j6];exact RestT.of kZ hzq QT
 exact ⟨T,by rw [h1];simp only at h2;rw [h2],p,q',r',s',dr,h3,h4,h5⟩
set_option maxHeartbeats 4000000 in
set_option maxRecDepth 8000 in
theorem qvS [MaxL] [TxtC] {H:qe} {q:Nat} {a b c d:Int} {n:Nat} {dr:D} {W:List UInt8} (hq:qf H q = some (vu a b c d n dr)) (hT:RestT H q dr W) (hW:W.length < 8) (_:n < 1000000) :
  ∃ T,call cx 265 [.optr q 6 0] H = some (.int .u64 (qbe (V3 (leN W+n % 256 * 72057594037927936:Nat) (a,b,c,d))),T):=by
 obtain ⟨m,hm⟩:=ql (leN W+n % 256 * 72057594037927936);rw [hm];have hql:=qA hq;obtain ⟨Z,hZ⟩:∃ Z:List UInt8,Z = List.replicate 8 0:=⟨_,rfl⟩;obtain ⟨z,hz⟩:=ql (H.length);obtain ⟨H1,x1⟩:=ql (qs H (zb8 []));simp only [vu] at hq
 suffices hs:∃ r,call cx 265 [.optr q 6 0] H = some r∧r.1 = .int .u64 (qbe (V3 (m:Nat) (a,b,c,d))) by
  obtain ⟨⟨r,T⟩,h1,h2⟩:=hs;exact ⟨T,by rw [h1];simp only at h2;rw [h2]⟩
 refine Zh (X:=cx) (f:=265) _ Tryz.func265 rfl ⟨rfl,rfl⟩ ?_;have kO:qf H1 q = some [.int .u64 a,.int .u64 b,.int .u64 c,.int .u64 d,.int .i64 n,dr]:=by rw [← x1,vk hql];exact hq
 have hz1:qf H1 z = some (qd Z):=by rw [← x1,← hz,zA,hZ];rfl
 have hzq:z≠q:=by omega
 have hZl:Z.length = 8:=by rw [hZ];rfl
 obtain ⟨E1,hE1⟩:∃ E1:List UInt8,E1 = W ++ List.replicate (8 - W.length) 0:=⟨_,rfl⟩;have hE1l:E1.length = 8:=by rw [hE1];simp;omega
 obtain ⟨H2,x2⟩:=ql (qn H1 z (qd E1))
 have hcp:∃ v,qbP Tryz.prog H1 29 29 (.osl z 8 0 8 1) dr = some (v,H2):=by
  rcases hT with ⟨rfl,rfl⟩ | ⟨r,st,ds,rfl,g1,g2,g3,g4,g5,g6⟩
  ·refine ⟨.int .i64 0,?_⟩;rw [← x2,hE1];simp [-qf,-qn,hz1,zM,hZ]
  ·have g1':qf H1 r = some ds:=(by rw [← x1,vk (qA g1)];exact g1);refine ⟨.int .i64 (W.length:Nat),?_⟩;have gd:W.length≤ds.length:=(by omega);have mn:min W.length 8 = W.length:=(by omega);rw [← x2,hE1];simp [-qf,-qn,hz1,hZl,g1',g2,g3,g4,mn,zM];rw [Yw,hZ,List.drop_replicate];simp [qd]
 obtain ⟨v,hcp⟩:=hcp;have jL:qf H2 q = some [.int .u64 a,.int .u64 b,.int .u64 c,.int .u64 d,.int .i64 n,dr]:=by rw [← x2,zN (fun e=>hzq e.symm)];exact kO
 have kZ:qf H2 z = some (qd E1):=by rw [← x2];exact zG (qA hz1)
 obtain ⟨E2,hE2⟩:∃ E2:List UInt8,E2 = E1.take 7 ++ [UInt8.ofNat (n % 256)]:=⟨_,rfl⟩;have hE2l:E2.length = 8:=by rw [hE2];simp [hE1l]
 obtain ⟨H3,x3⟩:=ql (qn H2 z (qd E2));have ZA:qf H3 q = some [.int .u64 a,.int .u64 b,.int .u64 c,.int .u64 d,.int .i64 n,dr]:=by rw [← x3,zN (fun e=>hzq e.symm)];exact jL
 have hz3:qf H3 z = some (qd E2):=by rw [← x3];exact zG (qA kZ)
 have hwn:IntKind.u8.wrap (n:Int) = ((UInt8.ofNat (n % 256)).toNat:Int):=by
  rw [qeE (by have:=Yh n (show 256 > 0 by decide);simp only [UInt8.size];omega)];simp only [IntKind.wrap,IntKind.signed,IntKind.bits];simp
 have JU:List.take 7 (qd E1) ++ .int .u8 (IntKind.u8.wrap (n:Int)) :: List.drop 8 (qd E1) = qd E2:=by
  rw [List.drop_of_length_le (by simp [qd,hE1l]),hwn,hE2];simp [qd]
 have htk2:List.take 8 (qd E2) = qd E2:=qP (by simp [qd,hE2l]);have hlg:=qbt (Sl.mk false E2 (by simp)) 0 (by simp only [hE2l];omega) (by simp only [hE2l];omega) (x:=0) rfl;simp only [hE2l] at hlg
 have hu:qC E2 0 = m:=by
  have e1:E2 = W ++ (List.replicate (7 - W.length) 0 ++ [UInt8.ofNat (n % 256)]):=by
   rw [hE2,hE1,ZK,qP (by omega),List.take_replicate,Qj,Nat.min_eq_left (by omega)]
  unfold qC;rw [List.drop_zero,qP (by omega),← hm,e1,qgM,qgM]
  have z0:leN (List.replicate (7 - W.length) 0) = 0:=by
   have:=qgL [] (7 - W.length);simpa [leN] using this
  have hx:(UInt8.ofNat (n % 256)).toNat = n % 256:=by
   rw [qeE (by have:=Yh n (show 256 > 0 by decide);simp only [UInt8.size];omega)]
  have hp:256 ^ W.length * 256 ^ (7 - W.length) = 72057594037927936:=by
   rw [← Nat.pow_add,show W.length+(7 - W.length) = 7 by omega]
  rw [z0,Jo,List.length_replicate,← Nat.mul_assoc,hp];simp only [leN,hx];omega
 rw [hu] at hlg;obtain ⟨H4a,x4a⟩:=ql (qs H3 (Xx [.int .i64 0,.vsl true [] 0]));obtain ⟨y,hy⟩:=ql (H3.length);have hy4a:qf H4a y = some (Xx [.int .i64 0,.vsl true [] 0]):=by rw [← x4a,← hy,zA]
 obtain ⟨H4,x4⟩:=ql (qn H4a y (vu a b c d 0 (.vsl true [] 0)));have hy4:qf H4 y = some (vu a b c d 0 (.vsl true [] 0)):=by rw [← x4];exact zG (qA hy4a)
 obtain ⟨a1,b1,c1,d1,hB⟩:∃ p1 q1 r1 s1,V3 (m:Nat) (a,b,c,d) = (p1,q1,r1,s1):=⟨_,_,_,_,rfl⟩;rw [hB];have hwd:=qmh hy4 m hB;obtain ⟨H5,x5⟩:=ql (qn H4 y (vu a1 b1 c1 d1 0 (.vsl true [] 0)));have hy5:=Qx x5 hy4;rw [x5] at hwd;obtain ⟨H6,x6⟩:=ql (qn H5 y (vu a1 b1 (qH .u64 c1 255) d1 0 (.vsl true [] 0)));have hy6:=Qx x6 hy5;obtain ⟨a2,b2,c2,d2,hr⟩:∃ p1 q1 r1 s1,ZQ 4 (a1,b1,qH .u64 c1 255,d1) = (p1,q1,r1,s1):=⟨_,_,_,_,rfl⟩;have hrd:=qmq hy6 4 (by omega) hr (x:=4) rfl;obtain ⟨H7,x7⟩:=ql (qn H6 y (vu a2 b2 c2 d2 0 (.vsl true [] 0)));have hy7:=Qx x7 hy6;rw [x7] at hrd;have hS:qbe (a1,b1,c1,d1) = qH .u64 (qH .u64 (qH .u64 a2 b2) c2) d2:=by simp only [qbe,hr]
 rw [hS];simp only [vu,Int.natCast_zero] at hwd hrd x4 x6 hy4 hy5 hy6 hy7;simp [-qf,-qn,-qs,-qbP,-zf,Tryz.f265,x1,hz,kO,hcp,jL,kZ,hE1l,hE2l,htk2,JU,x3,hz3,hlg,ZA,x4a,hy,hy4a,x4,hwd,hy5,x6,hrd,hy7]
theorem qwc [MaxL] [TxtC] (key:ID) {K L:Nat} (hK:leN (key.l.take 8) = K) (hL:leN ((key.l.drop 8).take 8) = L):call cx 263 [.agg (qd key.l)] [] = some (.optr 0 6 0,[some (vu (qH .u64 K 8317987319222330741) (qH .u64 L 7237128888997146477) (qH .u64 K 7816392313619706465) (qH .u64 L 8387220255154660723) 0 (.vsl true [] 0))]):=by
 have hk:key.l.length = 16:=key.h;have e0:=qbt (Sl.mk false key.l (by simp)) 0 (by simp only [hk];omega) (by simp only [hk];omega) (x:=0) rfl;have e8:=qbt (Sl.mk false key.l (by simp)) 8 (by simp only [hk];omega) (by simp only [hk];omega) (x:=8) rfl;unfold qC at e0 e8;simp only [hk,List.drop_zero,hK,hL] at e0 e8;have ht:List.take 16 (qd key.l) = qd key.l:=qP (by simp [qd,hk]);refine qy Tryz.func263 rfl ⟨rfl,rfl⟩ ?_;simp [Tryz.f263,e0,e8,hk,ht]
set_option maxHeartbeats 1000000 in
theorem qvX [MaxL] [TxtC] (key:ID) (s:Sl UInt8) (hs:s.l.length < 1000000):call cx 258 [.agg (qd key.l),(.vsl s.nil (qd s.l) s.l.length)] [] = some (.int .u64 (qef key.l s.l),[]):=by
 obtain ⟨K,hK⟩:=ql (leN (key.l.take 8));obtain ⟨L,hL⟩:=ql (leN ((key.l.drop 8).take 8));have hN:=qwc key hK hL;have hk:key.l.length = 16:=key.h;have hq:qf [some (qd key.l),some (vu (qH .u64 K 8317987319222330741) (qH .u64 L 7237128888997146477) (qH .u64 K 7816392313619706465) (qH .u64 L 8387220255154660723) 0 (.vsl true [] 0))] 1 = some (vu (qH .u64 K 8317987319222330741) (qH .u64 L 7237128888997146477) (qH .u64 K 7816392313619706465) (qH .u64 L 8387220255154660723) 0 (.vsl true [] 0)):=rfl;obtain ⟨T,hA,p,q',r',s',dr,hR,hT,hRest⟩:=qw5 hq s hs;obtain ⟨T2,hV⟩:=qvS hT hRest (by rw [vQ];omega) (by omega)
 have hsip:qef key.l s.l = qbe (V3 ((leN (s.l.drop (s.l.length / 8 * 8))+s.l.length % 256 * 72057594037927936:Nat):Int) (p,q',r',s')):=by
  unfold qef qeT;rw [hK,hL];unfold qir;rw [hR]
 rw [hsip];generalize qbe (V3 ((leN (s.l.drop (s.l.length / 8 * 8))+s.l.length % 256 * 72057594037927936:Nat):Int) (p,q',r',s')) = R at *;simp only [vu,Int.natCast_zero] at hN hA;have ht:List.take 16 (qd key.l) = qd key.l:=qP (by simp [qd,hk]);refine qy Tryz.func258 rfl ⟨rfl,rfl⟩ ?_;simp [Tryz.f258,hN,hA,hV,hk,ht]
theorem qwb [MaxL] [TxtC] (kd:Bool) (key:ID) (s:Sl UInt8) (hs:s.l.length < 1000000):call cx 252 [.bool kd,.agg (qd key.l),(.vsl s.nil (qd s.l) s.l.length)] [] = some (.int .u64 (Xk kd key.l s.l),[]):=by
 have hk:key.l.length = 16:=key.h;have ht:List.take 16 (qd key.l) = qd key.l:=qP (by simp [qd,hk]);cases kd with
 | true =>
  have h:=qvX key s hs;refine qy Tryz.func252 rfl ⟨rfl,rfl⟩ ?_;simp [Tryz.f252,h,Xk,hk,ht]
 | false =>
  have h:=qni s (by omega);refine qy Tryz.func252 rfl ⟨rfl,rfl⟩ ?_;simp [Tryz.f252,h,Xk,hk]
end Go.Ev.S
namespace Go.Ev.S
open Go Go.Proofs Go.Ev Go.RowKit
theorem q2j (p:Addr) (w:World):CallsD Tryz.prog 227 #[.pointer (some p)] .returning w fun e u' w'=>e = .returned (.tuple #[])∧u' = .returning∧w' = w:=by
 refine callsD_of_wpS Tryz.func227 rfl fun c₀ cs hu=>?_;apply wpS_seq;apply wpS_region;simp [wpOpsS,go_sem,recoverD,hu,Tryz.ntmps227,Exit.thenS];apply wpS_seq;apply wpS_region;simp [wpOpsS,go_sem,Exit.thenS];refine wpS_cond (t:=false) (by simp [Act.eval,Array.replicate]) ?_;simp only [QE,if_false];refine wpS_of_wp (wp_skip ?_);cases c₀
 simp_all [bodyPostS,results,Tryz.results227]
theorem quI (v:Value) (w:World):(Instr.typeAssert (.iface 327 v) 20 327 true).run Tryz.prog w = .ok (.tuple #[v,.bool true]) w:=by
 simp [Instr.typeAssert,go_sem]
set_option maxRecDepth 4000 in
theorem q2i (p:Addr) (x:Int) (c:Int) (older:List PanicEntry) (w:World) (hc:w.cell? p = some (.int .i64 x)) (hz:w.frozen? p = false) :
  CallsD Tryz.prog 227 #[.pointer (some p)] (.panicking ({ v:=.iface 327 (.agg #[.int .i64 c]),recovered:=false } :: older)) w fun e u' w' =>
   e = .returned (.tuple #[])∧u' = .panicking ({ v:=.iface 327 (.agg #[.int .i64 c]),recovered:=true } :: older)∧∃ o,w' = (w.alloc o).setCell p (.int .i64 c):=by
 refine callsD_of_wpS Tryz.func227 rfl fun c₀ cs hu=>?_;apply wpS_seq;apply wpS_region;simp [wpOpsS,go_sem,recoverD,hu,Tryz.ntmps227,Exit.thenS];apply wpS_seq;apply wpS_region;simp [wpOpsS,go_sem,Exit.thenS];refine wpS_cond (t:=true) (by simp [Act.eval,Array.replicate]) ?_;simp only [if_true];refine wpS_of_wp ?_;have hta:=quI (.agg #[.int .i64 c]) w;refine wp_seq ?_;refine wp_region_list ?_;simp only [wpList,Oper.wp];simp [go_sem,hta,Exit.then]
 iterate 8 apply Or.inl
 refine wp_seq (wp_seq ?_);refine wp_region_list ?_;simp only [wpList,Oper.wp];simp [go_sem,Exit.then]
 iterate 2 apply Or.inl
 refine wp_cond (t:=false) (by simp [Act.eval,Array.replicate]) ?_;simp only [QE,if_false];refine wp_skip ?_;simp only [Exit.then];refine wp_region_list ?_;simp only [wpList,Oper.wp];have qg:=qe6 hc;have VJ:(w.alloc (.cells #[.int .i64 c] 327)).cell? p = some (.int .i64 x):=by rw [World.cell?_of_block (heap_alloc_old w _ qg)];exact hc
 have hz':(w.alloc (.cells #[.int .i64 c] 327)).frozen? p = false:=by rw [World.frozen?_of_block (heap_alloc_old w _ qg)];exact hz
 simp [go_sem,VJ,hz']
 iterate 3 apply Or.inl
 simp [bodyPostS,results,Tryz.results227];exact ⟨_,rfl⟩
noncomputable def qaR (X:Cx) (T:Nat):List D→qe→Option (D × qe)
 | [.fn g caps],H=>if (X.gr g && X.byRef g) = true then none else match call X g caps H with
  | some (_,H')=>some (.int .i64 0,H')
  | none=>match Yt X g caps H with
   | some (.iface t (.agg [.int .i64 c]),H')=>if t = T then jE false H.length H' (.int .i64 c) else none
   | _=>none
 | _,_=>none
theorem qsI {X:Cx} {ok ok2:Nat→Prop} {w w2 w3:World} {ι ι2:qV} {H H2:qe} {o:Obj} (hs:Sim X ok w ι H) (h2:Sim X ok2 w2 ι2 H2) (k:Evol H.length ok (w.alloc o) ι H ok2 w2 ι2 H2) (hS:YX w2 w3) (hz:w2.heap.size≤w3.heap.size)
  (hk:∀ b,b < w2.heap.size→b≠w.heap.size→w3.heap[b]? = w2.heap[b]?):Sim X ok2 w3 ι2 H2∧Evol H.length ok w ι H ok2 w3 ι2 H2:=by
 have hb:Below w.heap.size w (w.alloc o):=(Below.refl _ w).alloc (qE _) o;have e1:Evol H.length ok w ι H ok (w.alloc o) ι H:=qkx (qE _) hb;have e2:=e1.trans k;have jn:(w.alloc o).heap.size = w.heap.size+1:=by simp
 have n1:¬ ok2 w.heap.size:=by
  intro hp;rcases k.okN _ hp (by omega) with h | ⟨i,ds,s,hd,hi⟩
  ·have:=hs.okS _ h;omega
  ·have:=hs.lt hd hi;omega
 have n2:∀ i ds s,qf H2 i = some ds→ι2 i≠some (w.heap.size,s):=by
  intro i ds s hd hi;obtain ⟨j,es,s',hj,hji⟩:=k.own i ds _ s hd hi (by omega);have:=hs.lt hj hji;omega
 refine ⟨qlo h2 hz (fun b hb=>hk b (h2.okS b hb) fun e=>n1 (e ▸ hb)) (fun i ds b s hd hi=>hk b (h2.lt hd hi) fun e=>n2 i ds s hd (e ▸ hi)),?_⟩;exact ⟨by rw [hS.1,e2.os],by rw [hS.2.1,e2.tape],by rw [hS.2.2,e2.output],zT e2.size hz,fun b hb jo=>by rw [hk b (jZ hb e2.size) (by omega),e2.frame b hb jo],e2.okU,e2.okN,e2.nle,e2.heap,e2.own⟩
set_option maxHeartbeats 4000000 in
set_option maxRecDepth 100000 in
theorem qtM [MaxL] [TxtC] (hG:Good cx) {args:List D} {H H':qe} {r:D} {ok:Nat→Prop} {w:World} {ι:qV} {vs:List Value} (h:qaR cx 327 args H = some (r,H')) (hs:Sim cx ok w ι H) (hv:RepL ok w ι H args vs) :
  Goes cx.P (callFunc 182 vs.toArray) w (CallPost cx ok w ι H r H'):=by
 unfold qaR at h;split at h
 ·rename_i H0 g caps;split at h
  ·cases h
  rename_i hgr;obtain ⟨v,us,rfl,a1,a2⟩:=Jw hv;cases qcl a2;cases a1 with
  | @fn _ _ _ _ cv hl hh =>
  have KC:(callFunc 182 [Value.func (.func g) #[] cv].toArray).run cx.P w = .ok (.enter 182 [Value.func (.func g) #[] cv].toArray) w:=Go.Proofs.enters_of (P:=cx.P) Tryz.func182 rfl rfl _ _;unfold Goes;rw [KC];simp only;refine calls_of_wp_defers (P:=cx.P) Tryz.func182 rfl ?_;obtain ⟨w1,e1⟩:=ql (w.alloc (.cells #[.int .i64 0] 3));refine wp_seq (wp_region_list ?_);simp only [wpList,Oper.wp];simp [go_sem,Exit.then,Tryz.ntmps182,e1];apply Or.inl;refine wp_seq (wp_region_list ?_);simp only [wpList,Oper.wp];have hmf:∀ (fn:Fn) (first cap:Array Value) (w:World),(Instr.makeFunc fn first cap).run Tryz.prog w = .ok (.func fn first cap) w:=fun _ _ _ _=>rfl;simp [go_sem,Exit.then]
  iterate 2 apply Or.inl
  refine wp_seq (wp_region_list ?_);simp only [wpList,Oper.wp];simp [go_sem,Exit.then]
  iterate 2 apply Or.inl
  have hb:Below w.heap.size w w1:=e1 ▸ (Below.refl _ w).alloc (qE _) _;have s1:Sim cx ok w1 ι H:=qsJ hs hb
  have v1:RepL ok w1 ι H caps cv.toList:=⟨by simpa using hl,fun j d hj=>by
   have:=(hh j d hj).same fun b zC=>hb.block b (hs.okS b zC);rw [j8,Array.getElem?_toList];rw [jl] at this;exact this⟩
  have hbk:w1.heap[w.heap.size]? = some (.cells #[.int .i64 0] 3 (0,0)):=by rw [← e1];exact heap_alloc_new w _
  have jb:w1.heap.size = w.heap.size+1:=by rw [← e1];simp
  have hfrm:∀ {ok2:Nat→Prop} {w2:World} {ι2:qV} {H2:qe},Evol H.length ok w1 ι H ok2 w2 ι2 H2→w2.heap[w.heap.size]? = some (.cells #[.int .i64 0] 3 (0,0)):=by
   intro ok2 w2 ι2 H2 k;rw [k.frame _ (by omega) fun i ds s hd hi=>by have:=hs.lt hd hi;omega];exact hbk
  cases hcall:call cx g caps H with
  | some q =>
   obtain ⟨r0,H0'⟩:=q;rw [hcall] at h;simp only [qw,zm] at h;obtain ⟨rfl,rfl⟩:=h;have hgo:=qkp hG g caps H r0 H0' ok w1 ι cv.toList hcall s1 v1;simp only [Array.toArray_toList] at hgo;refine Goes.upon (hgo.mono fun v w2 hp=>?_);obtain ⟨ι2,ok2,k1,k2,k3,k4⟩:=hp;have kQ:=hfrm k3;have QB:w2.cell? ⟨w.heap.size,0,none⟩ = some (.int .i64 0):=(by rw [Ye kQ];rfl);have kZ:w2.frozen? ⟨w.heap.size,0,none⟩ = false:=(by rw [qhc kQ];rfl);refine wp_seq (wp_region_list ?_);simp only [wpList,Oper.wp];simp [go_sem,Exit.then,QB,kZ];apply Or.inl;refine wp_ret ?_;refine leaves_cons (f:=227) (args:= #[.pointer (some ⟨w.heap.size,0,none⟩)]) (by simp) (by simp [go_sem]) ((q2j ⟨w.heap.size,0,none⟩ _).mono ?_);rintro e u' w'' ⟨rfl,rfl,rfl⟩;have qn:(w2.setCell ⟨w.heap.size,0,none⟩ (.int .i64 0)).cell? ⟨w.heap.size,0,none⟩ = some (.int .i64 0):=World.cell?_setCell_same' _ _ _ (by rw [QB];rfl);simp [Leaves,settle,results,Tryz.results182,go_sem,qn];have hset2:Below 0 w2 (w2.setCell ⟨w.heap.size,0,none⟩ (.int .i64 0)):=(Below.refl 0 w2).setCell (vV _) _;obtain ⟨u1,u2⟩:=qsI (o:=.cells #[.int .i64 0] 3) (w3:=w2.setCell ⟨w.heap.size,0,none⟩ (.int .i64 0)) hs k1 (by rw [e1];exact k3) ⟨hset2.os,hset2.tape,hset2.output⟩ hset2.size (fun b _ qQ=>Below.heap_setCell _ _ _ _ qQ);exact ⟨ι2,ok2,u1,.int _ _,u2,k4 (by simpa using hgr)⟩
  | none =>
   rw [hcall] at h;simp only at h;split at h
   ·rename_i t c H2 hpan;split at h
    ·rename_i ht;subst ht;have hgo:=qwq hG (qwv hpan) s1 v1;simp only [Array.toArray_toList] at hgo;refine GoesP.upon (hgo.mono fun v w2 hp=>?_);obtain ⟨ι2,ok2,k1,k2,k3⟩:=hp;have kQ:=hfrm k3;have QB:w2.cell? ⟨w.heap.size,0,none⟩ = some (.int .i64 0):=(by rw [Ye kQ];rfl);have kZ:w2.frozen? ⟨w.heap.size,0,none⟩ = false:=by rw [qhc kQ];rfl
     have hv:v = .iface 327 (.agg #[.int .i64 c]):=by
      cases k2 with
      | iface hr =>
       cases hr with
       | agg hl hc h =>
        rename_i us;have h0:=h 0 (.int .i64 c) rfl;have QJ:us.size = 1:=by simpa using hl
        have hu:us = #[us.getD 0 undef]:=by
         apply Array.ext
         ·simp [QJ]
         ·intro i h1 h2;have:i = 0:=(by omega);subst this;simp [QJ]
        generalize us.getD 0 undef = x at h0 hu;cases h0;rw [hu]
     subst hv;simp only [Exit.then];refine leaves_cons (f:=227) (args:= #[.pointer (some ⟨w.heap.size,0,none⟩)]) (by simp) (by simp [go_sem]) ((q2i ⟨w.heap.size,0,none⟩ 0 c [] w2 QB kZ).mono ?_);rintro e u' w'' ⟨rfl,rfl,o,rfl⟩;have hc3:(w2.alloc o).cell? ⟨w.heap.size,0,none⟩ = some (.int .i64 0):=(by rw [World.cell?_of_block (heap_alloc_old w2 _ (Array.getElem?_eq_some_iff.1 kQ).1)];exact QB);have qn:((w2.alloc o).setCell ⟨w.heap.size,0,none⟩ (.int .i64 c)).cell? ⟨w.heap.size,0,none⟩ = some (.int .i64 c):=World.cell?_setCell_same' _ _ _ (by rw [hc3];rfl);simp [Leaves,settle,results,Tryz.results182,go_sem,qn];have hset2:Below w2.heap.size w2 (w2.alloc o):=(Below.refl _ w2).alloc (qE _) o;have hset3:Below 0 (w2.alloc o) ((w2.alloc o).setCell ⟨w.heap.size,0,none⟩ (.int .i64 c)):=(Below.refl 0 _).setCell (vV _) _;obtain ⟨u1,u2⟩:=qsI (o:=.cells #[.int .i64 0] 3) (w3:=(w2.alloc o).setCell ⟨w.heap.size,0,none⟩ (.int .i64 c)) hs k1 (by rw [e1];exact k3) ⟨by rw [hset3.os,hset2.os],by rw [hset3.tape,hset2.tape],by rw [hset3.output,hset2.output]⟩ (zT hset2.size hset3.size) (fun b hb qQ=>by rw [Below.heap_setCell _ _ _ _ qQ,hset2.block b hb]);obtain ⟨ok3,ι3,p1,p2,p3,p4⟩:=qmy u2.nle.2 u1 (Rep.int .i64 c) h;exact ⟨ι3,ok3,p1,p2,u2.trans p3,p4⟩
    ·cases h
   ·cases h
 ·cases h
end Go.Ev.S
namespace Go.Ev
open Go Go.Proofs Go.RowKit
section
variable {X:Cx} {f nt n0:Nat} {e:qr} {H:qe}
theorem qd8 {α:Type} {a b:Option α} (h:∀ x,a = some x↔b = some x):a = b:=by
 cases a with
 | none=>cases b with
  | none=>rfl
  | some y=>exact (h y).2 rfl
 | some x=>exact ((h x).1 rfl).symm
theorem qdN {c:Code} {r:D × qe}:¬ evP X 0 f nt n0 c e H = some r:=by intro h;simp [evP] at h
theorem q1H {c:Operand} {a b:Code}:jC X f nt n0 (.cond c a b) e H = match qW X e c with
  | some (.bool t)=>jC X f nt n0 (if t then a else b) e H
  | _=>none:=by
 apply qd8;intro r;constructor
 ·intro h;obtain ⟨n,hn⟩:=codeP_some.1 h;cases n with
  | zero=>exact (qdN hn).elim
  | succ n =>
   rw [evP.eq_def] at hn;simp only at hn;split at hn
   ·rename_i t hc;rw [hc];exact codeP_some.2 ⟨n,hn⟩
   ·cases hn
 ·intro h;split at h
  ·rename_i t hc;exact q1P hc h
  ·cases h
theorem q1I {id:Nat} {c:Code}:jC X f nt n0 (.block id c) e H = jC X f nt n0 c e H:=by
 apply qd8;intro r;constructor
 ·intro h;obtain ⟨n,hn⟩:=codeP_some.1 h;cases n with
  | zero=>exact (qdN hn).elim
  | succ n=>rw [evP.eq_def] at hn;exact codeP_some.2 ⟨n,hn⟩
 ·exact q1Q
theorem q1D {c:Code}:jC X f nt n0 (.scope c) e H = jC X f nt n0 c e H:=by
 apply qd8;intro r;constructor
 ·intro h;obtain ⟨n,hn⟩:=codeP_some.1 h;cases n with
  | zero=>exact (qdN hn).elim
  | succ n=>rw [evP.eq_def] at hn;exact codeP_some.2 ⟨n,hn⟩
 ·exact q1L
theorem q1C {a b:Code}:jC X f nt n0 (.seq a b) e H = match zk X f nt n0 a e H with
  | some (.normal,e1,H1)=>jC X f nt n0 b e1 H1
  | some _=>none
  | none=>jC X f nt n0 a e H:=by
 apply qd8;intro r;constructor
 ·intro h;obtain ⟨n,hn⟩:=codeP_some.1 h;cases n with
  | zero=>exact (qdN hn).elim
  | succ n =>
   rw [evP.eq_def] at hn;simp only at hn;split at hn
   ·rename_i hc;rw [hc];exact codeP_some.2 ⟨n,hn⟩
   ·cases hn
   ·rename_i hc;rw [hc];exact codeP_some.2 ⟨n,hn⟩
 ·intro h;split at h
  ·rename_i hc;exact q1J hc h
  ·cases h
  ·exact q1K h
theorem q1F {c:Code}:jC X f nt n0 (.loop c) e H = match zk X f nt n0 c e H with
  | some (.normal,e1,H1)=>jC X f nt n0 (.loop c) e1 H1
  | some _=>none
  | none=>jC X f nt n0 c e H:=by
 apply qd8;intro r;constructor
 ·intro h;obtain ⟨n,hn⟩:=codeP_some.1 h;cases n with
  | zero=>exact (qdN hn).elim
  | succ n =>
   rw [evP.eq_def] at hn;simp only at hn;split at hn
   ·rename_i hc;rw [hc];exact codeP_some.2 ⟨n,hn⟩
   ·cases hn
   ·rename_i hc;rw [hc];exact codeP_some.2 ⟨n,hn⟩
 ·intro h;split at h
  ·rename_i hc;exact q1N hc h
  ·cases h
  ·exact q1O h
theorem qwy {n:Nat} {g:Nat} {args:List D} {d:D} (h:Vb X (evP X n) g args = some d):Q0 X g args = some d:=qmw (fun _ _ _ _ _ _ _ hh=>codeP_some.2 ⟨n,hh⟩) h
theorem q1E {id:Nat} {ops:Array Oper}:jC X f nt n0 (.region id ops false) e H = match enter X f n0 id e H with
  | some (e1,H1)=>QR X (Q0 X) nt (Yq X f id false ops) ops ops.toList e1 H1
  | none=>none:=by
 apply qd8;intro r;constructor
 ·intro h;obtain ⟨n,hn⟩:=codeP_some.1 h;cases n with
  | zero=>exact (qdN hn).elim
  | succ n =>
   rw [evP.eq_def] at hn;simp only at hn;split at hn
   ·rename_i zR;rw [zR];exact qg2 (fun _ _ _ hh=>qwy hh) hn
   ·cases hn
 ·intro h;split at h
  ·rename_i zR;exact q1M zR h
  ·cases h
theorem q1G {id:Nat} {ops:Array Oper}:jC X f nt n0 (.region id ops true) e H = none:=by
 apply qd8;intro r;constructor
 ·intro h;obtain ⟨n,hn⟩:=codeP_some.1 h;cases n with
  | zero=>exact (qdN hn).elim
  | succ n=>rw [evP.eq_def] at hn;cases hn
 ·intro h;cases h
inductive OutC where
 | fin (ex:Ex) (e:qr) (H:qe)
 | pan (d:D) (H:qe)
noncomputable def jt (X:Cx) (f nt n0:Nat) (c:Code) (e:qr) (H:qe):Option OutC :=
 match zk X f nt n0 c e H with
 | some (ex,e,H)=>some (.fin ex e H)
 | none=>(jC X f nt n0 c e H).map fun p=>.pan p.1 p.2
theorem q1S {a b:Code}:jt X f nt n0 (.seq a b) e H = match jt X f nt n0 a e H with
  | some (.fin .normal e1 H1)=>jt X f nt n0 b e1 H1
  | o=>o:=by
 unfold jt;rw [qkd,q1C];cases ha:zk X f nt n0 a e H with
 | none=>cases jC X f nt n0 a e H <;> rfl
 | some q =>
  obtain ⟨ex,e1,H1⟩:=q;cases ex with
  | normal=>simp only
  | exit i=>rfl
  | ret=>rfl
theorem q1V {c:Code}:jt X f nt n0 (.loop c) e H = match jt X f nt n0 c e H with
  | some (.fin .normal e1 H1)=>jt X f nt n0 (.loop c) e1 H1
  | o=>o:=by
 have h:jt X f nt n0 (.loop c) e H = match zk X f nt n0 (.loop c) e H with
  | some (ex,e,H)=>some (.fin ex e H)
  | none=>(jC X f nt n0 (.loop c) e H).map fun p=>.pan p.1 p.2:=rfl
 rw [h,qfH,q1F]
 have h2:jt X f nt n0 c e H = match zk X f nt n0 c e H with
  | some (ex,e,H)=>some (.fin ex e H)
  | none=>(jC X f nt n0 c e H).map fun p=>.pan p.1 p.2:=rfl
 rw [h2];cases ha:zk X f nt n0 c e H with
 | none=>cases jC X f nt n0 c e H <;> rfl
 | some q =>
  obtain ⟨ex,e1,H1⟩:=q;cases ex with
  | normal=>simp only;rfl
  | exit i=>rfl
  | ret=>rfl
theorem q1Y {c:Operand} {a b:Code}:jt X f nt n0 (.cond c a b) e H = match qW X e c with
  | some (.bool t)=>jt X f nt n0 (if t then a else b) e H
  | _=>none:=by
 unfold jt;rw [qkf,q1H];cases qW X e c with
 | none=>rfl
 | some d=>cases d <;> rfl
theorem q1Z {id:Nat} {c:Code}:jt X f nt n0 (.block id c) e H = match jt X f nt n0 c e H with
  | some (.fin (.exit i) e1 H1)=>if i = id then some (.fin .normal e1 H1) else some (.fin (.exit i) e1 H1)
  | o=>o:=by
 unfold jt;rw [qkg,q1I];cases ha:zk X f nt n0 c e H with
 | none=>cases jC X f nt n0 c e H <;> rfl
 | some q =>
  obtain ⟨ex,e1,H1⟩:=q;cases ex with
  | normal=>rfl
  | exit i=>by_cases hi:i = id <;> simp [hi]
  | ret=>rfl
theorem q1T {c:Code}:jt X f nt n0 (.scope c) e H = jt X f nt n0 c e H:=by
 unfold jt;rw [qke,q1D]
theorem q1R:jt X f nt n0 .skip e H = some (.fin .normal e H):=by unfold jt;rw [qso]
theorem q1W {l:Nat}:jt X f nt n0 (.label l) e H = some (.fin .normal e H):=by unfold jt;rw [qsq]
theorem q1X {i:Nat}:jt X f nt n0 (.exit i) e H = some (.fin (.exit i) e H):=by unfold jt;rw [qsr]
theorem q1U:jt X f nt n0 .ret e H = some (.fin .ret e H):=by unfold jt;rw [qsp]
variable {Q:Ex→qr→qe→Prop} {P:D→qe→Prop} {fs:List Fr}
def RunO (X:Cx) (f nt n0:Nat) (Q:Ex→qr→qe→Prop) (P:D→qe→Prop):List Fr→Option OutC→Prop
 | _,none=>False
 | _,some (.pan d H)=>P d H
 | [],some (.fin ex e H)=>Q ex e H
 | .seq b :: fs,some (.fin .normal e H)=>RunO X f nt n0 Q P fs (jt X f nt n0 b e H)
 | .seq _ :: fs,some (.fin ex e H)=>RunO X f nt n0 Q P fs (some (.fin ex e H))
 | .block id :: fs,some (.fin (.exit i) e H)=>if i = id then RunO X f nt n0 Q P fs (some (.fin .normal e H)) else RunO X f nt n0 Q P fs (some (.fin (.exit i) e H))
 | .block _ :: fs,some (.fin ex e H)=>RunO X f nt n0 Q P fs (some (.fin ex e H))
variable {a b c:Code}
theorem qah:RunO X f nt n0 Q P fs none = False:=by unfold RunO;rfl
theorem qbg {d:D}:RunO X f nt n0 Q P fs (some (.pan d H)) = P d H:=by unfold RunO;rfl
theorem qck {ex:Ex}:RunO X f nt n0 Q P [] (some (.fin ex e H)) = Q ex e H:=by unfold RunO;rfl
theorem ql5:RunO X f nt n0 Q P (.seq b :: fs) (some (.fin .normal e H)) = RunO X f nt n0 Q P fs (jt X f nt n0 b e H):=by rw [RunO]
theorem ql6 {i:Nat}:RunO X f nt n0 Q P (.seq b :: fs) (some (.fin (.exit i) e H)) = RunO X f nt n0 Q P fs (some (.fin (.exit i) e H)):=by rw [RunO];intro h;cases h
theorem ql4:RunO X f nt n0 Q P (.seq b :: fs) (some (.fin .ret e H)) = RunO X f nt n0 Q P fs (some (.fin .ret e H)):=by rw [RunO];intro h;cases h
theorem ql8 {id:Nat}:RunO X f nt n0 Q P (.block id :: fs) (some (.fin .normal e H)) = RunO X f nt n0 Q P fs (some (.fin .normal e H)):=by rw [RunO];intro i h;cases h
theorem ql7 {id:Nat}:RunO X f nt n0 Q P (.block id :: fs) (some (.fin .ret e H)) = RunO X f nt n0 Q P fs (some (.fin .ret e H)):=by rw [RunO];intro i h;cases h
theorem ql9 {id i:Nat}:RunO X f nt n0 Q P (.block id :: fs) (some (.fin (.exit i) e H)) = if i = id then RunO X f nt n0 Q P fs (some (.fin .normal e H)) else RunO X f nt n0 Q P fs (some (.fin (.exit i) e H)):=by rw [RunO]
theorem quS:RunO X f nt n0 Q P fs (jt X f nt n0 (.seq a b) e H) = RunO X f nt n0 Q P (.seq b :: fs) (jt X f nt n0 a e H):=by
 rw [q1S];cases h:jt X f nt n0 a e H with
 | none=>simp [qah]
 | some q =>
  cases q with
  | pan d H1=>simp [qbg]
  | fin ex e1 H1 =>
   cases ex with
   | normal=>rw [ql5]
   | exit i=>rw [ql6]
   | ret=>rw [ql4]
theorem quW {id:Nat}:RunO X f nt n0 Q P fs (jt X f nt n0 (.block id c) e H) = RunO X f nt n0 Q P (.block id :: fs) (jt X f nt n0 c e H):=by
 rw [q1Z];cases h:jt X f nt n0 c e H with
 | none=>simp [qah]
 | some q =>
  cases q with
  | pan d H1=>simp [qbg]
  | fin ex e1 H1 =>
   cases ex with
   | normal=>rw [ql8]
   | exit i=>rw [ql9];by_cases hi:i = id <;> simp [hi]
   | ret=>rw [ql7]
theorem quT:RunO X f nt n0 Q P fs (jt X f nt n0 (.scope c) e H) = RunO X f nt n0 Q P fs (jt X f nt n0 c e H):=by rw [q1T]
theorem RunO.mono {o:Option OutC} {R:Ex→qr→qe→Prop} (h:RunO X f nt n0 R P [] o) (hq:∀ ex e H,R ex e H→RunO X f nt n0 Q P fs (some (.fin ex e H))):RunO X f nt n0 Q P fs o:=by
 cases o with
 | none=>rw [qah] at h;exact h.elim
 | some q =>
  cases q with
  | pan d H1=>rw [qbg] at h ⊢;exact h
  | fin ex e1 H1 =>
   rw [qck] at h;exact hq _ _ _ h
theorem RunO.loop {σ:Type} (I:σ→qr→qe→Prop) (m:σ→Nat)
  (step:∀ s e H,I s e H→RunO X f nt n0 (fun ex e' H'=>match ex with | .normal=>∃ s',m s' < m s∧I s' e' H' | ex=>Q ex e' H') P [] (jt X f nt n0 c e H)) :
  ∀ s e H,I s e H→RunO X f nt n0 Q P [] (jt X f nt n0 (.loop c) e H):=by
 suffices h:∀ k s e H,m s < k→I s e H→RunO X f nt n0 Q P [] (jt X f nt n0 (.loop c) e H) from
  fun s e H hi=>h (m s+1) s e H (Nat.lt_succ_self _) hi
 intro k
 induction k with
 | zero=>intro s e H h;omega
 | succ k ih =>
  intro s e H hk hi;have hs:=step s e H hi;rw [q1V];cases ho:jt X f nt n0 c e H with
  | none=>rw [ho,qah] at hs;exact hs.elim
  | some q =>
   rw [ho] at hs;cases q with
   | pan d H1=>rw [qbg] at hs;simp only [qbg];exact hs
   | fin ex e1 H1 =>
    rw [qck] at hs;cases ex with
    | normal =>
     obtain ⟨s',qg,Qa⟩:=hs;exact ih s' e1 H1 (by omega) Qa
    | exit i=>simp only [qck];exact hs
    | ret=>simp only [qck];exact hs
theorem RunO.loopThen {σ:Type} (I:σ→qr→qe→Prop) (m:σ→Nat) (s:σ) {e:qr} {H:qe} (h0:I s e H)
  (step:∀ s e H,I s e H→RunO X f nt n0 (fun ex e' H'=>match ex with | .normal=>∃ s',m s' < m s∧I s' e' H' | ex=>RunO X f nt n0 Q P fs (some (.fin ex e' H'))) P [] (jt X f nt n0 c e H)) :
  RunO X f nt n0 Q P fs (jt X f nt n0 (.loop c) e H):=by
 have h:=RunO.loop (Q:=fun ex e H=>ex≠.normal∧RunO X f nt n0 Q P fs (some (.fin ex e H))) I m (fun s e H hi=>by
  refine RunO.mono (step s e H hi) ?_;intro ex e' H' hq;rw [qck];cases ex with
  | normal=>exact hq
  | exit i=>exact ⟨by simp,hq⟩
  | ret=>exact ⟨by simp,hq⟩) s e H h0
 exact RunO.mono h fun ex e H hq=>hq.2
noncomputable def qbo (X:Cx) (P:Nat→List D→Option D) (nt:Nat) (bw:Bool):List SOp→qr→qe→Option (D × qe)
 | [],_,_=>none
 | o :: l,e,H=>match ke nt o.dst,VO e o.g with
  | true,some true=>match qX X (call X) bw o.op e H with
   | some (d,H')=>qbo X P nt bw l (jK e o.dst d) H'
   | none=>(Zl X P o.op e).map (·,H)
  | true,some false=>qbo X P nt bw l (jK e o.dst (.tup [])) H
  | _,_=>none
theorem qm6 {PF:Nat→List D→Option D} {bw:Bool} (ops:Array Oper):∀ (l:List Oper) (e:qr) (H:qe),QR X PF nt bw ops l e H = qbo X PF nt bw (QY ops l) e H
 | [],e,H=>rfl
 | o :: l,e,H=>by
  have h3:VO e (qce ops o).g = vH ops e o.guard:=(qj5 ops e o.guard).symm;rw [QR];show _ = qbo X PF nt bw (qce ops o :: QY ops l) e H;rw [qbo,h3];simp only [qm6 ops l];rfl
def JI (X:Cx) (f nt n0:Nat) (Q:Ex→qr→qe→Prop) (P:D→qe→Prop) (fs:List Fr) (drw:Bool) (l:List SOp) (e:qr) (H:qe):Prop :=
 match Xr X (call X) nt drw l e H with
 | some (e1,H1)=>RunO X f nt n0 Q P fs (some (.fin .normal e1 H1))
 | none=>match qbo X (Q0 X) nt drw l e H with
  | some (d,H1)=>P d H1
  | none=>False
def qbU (X:Cx) (f nt n0:Nat) (Q:Ex→qr→qe→Prop) (P:D→qe→Prop) (fs:List Fr) (drw:Bool) (l:List SOp) (e:qr) (H:qe) (dst:Option Tmp) (op:Op):Option (D × qe)→Prop
 | none=>match Zl X (Q0 X) op e with
  | some d=>P d H
  | none=>False
 | some (d,H)=>JI X f nt n0 Q P fs drw l (jK e dst d) H
def qbV (X:Cx) (f nt n0:Nat) (Q:Ex→qr→qe→Prop) (P:D→qe→Prop) (fs:List Fr) (drw:Bool) (dst:Option Tmp) (op:Op) (want:Bool) (l:List SOp) (e:qr) (H:qe):Option D→Prop
 | some (.bool b)=>if b = want then qbU X f nt n0 Q P fs drw l e H dst op (qX X (call X) drw op e H) else JI X f nt n0 Q P fs drw l (jK e dst (.tup [])) H
 | some (.tup [])=>JI X f nt n0 Q P fs drw l (jK e dst (.tup [])) H
 | _=>False
theorem quZ {drw:Bool}:JI X f nt n0 Q P fs drw [] e H = RunO X f nt n0 Q P fs (some (.fin .normal e H)):=rfl
theorem qva {drw:Bool} {dst:Option Tmp} {op:Op} {l:List SOp} {d:D} {H':qe}:qbU X f nt n0 Q P fs drw l e H dst op (some (d,H')) = JI X f nt n0 Q P fs drw l (jK e dst d) H':=rfl
theorem qvb {drw:Bool} {dst:Option Tmp} {op:Op} {l:List SOp}:qbU X f nt n0 Q P fs drw l e H dst op none = match Zl X (Q0 X) op e with
  | some d=>P d H
  | none=>False:=rfl
theorem qvd {drw:Bool} {dst:Option Tmp} {op:Op} {l:List SOp} {want b:Bool}:qbV X f nt n0 Q P fs drw dst op want l e H (some (.bool b)) =
  if b = want then qbU X f nt n0 Q P fs drw l e H dst op (qX X (call X) drw op e H) else JI X f nt n0 Q P fs drw l (jK e dst (.tup [])) H:=rfl
theorem qvc {drw:Bool} {dst:Option Tmp} {op:Op} {l:List SOp} {want:Bool}:qbV X f nt n0 Q P fs drw dst op want l e H (some (.tup [])) = JI X f nt n0 Q P fs drw l (jK e dst (.tup [])) H:=rfl
theorem quY {drw:Bool} {dst:Option Tmp} {op:Op} {l:List SOp}:JI X f nt n0 Q P fs drw (⟨dst,op,none⟩ :: l) e H =
  (ke nt dst = true∧qbU X f nt n0 Q P fs drw l e H dst op (qX X (call X) drw op e H)):=by
 unfold JI;simp only [Xr,qbo,VO];cases ke nt dst with
 | false=>simp
 | true =>
  cases qX X (call X) drw op e H with
  | none=>cases hp:Zl X (Q0 X) op e <;> simp [qbU,hp]
  | some q=>simp [qbU,JI]
theorem quX {drw:Bool} {dst:Option Tmp} {op:Op} {l:List SOp} {t:Tmp} {want:Bool}:JI X f nt n0 Q P fs drw (⟨dst,op,some (some t,want)⟩ :: l) e H =
  (ke nt dst = true∧qbV X f nt n0 Q P fs drw dst op want l e H (qi e t)):=by
 unfold JI;simp only [Xr,qbo,VO];cases ke nt dst with
 | false=>simp
 | true =>
  cases qi e t with
  | none=>simp [qbV]
  | some d =>
   cases d with
   | bool b =>
    by_cases hb:b = want
    ·subst hb;simp only [beq_self_eq_true,qbV,if_true,true_and];cases qX X (call X) drw op e H with
     | none=>cases hp:Zl X (Q0 X) op e <;> simp [qbU,hp]
     | some q=>simp [qbU,JI]
    ·have:(b == want) = false:=(by simpa using hb);simp [qbV,hb,this,JI]
   | tup cs =>
    cases cs with
    | nil=>simp [qbV,JI]
    | cons=>simp [qbV]
   | _=>simp [qbV]
def qhA (X:Cx) (f nt n0:Nat) (Q:Ex→qr→qe→Prop) (P:D→qe→Prop) (fs:List Fr) (drw:Bool) (l:List SOp):Option (qr × qe)→Prop
 | none=>False
 | some (e,H)=>JI X f nt n0 Q P fs drw l e H
theorem qve {drw:Bool} {l:List SOp}:qhA X f nt n0 Q P fs drw l (some (e,H)) = JI X f nt n0 Q P fs drw l e H:=rfl
theorem quV {id:Nat} {ops:Array Oper}:RunO X f nt n0 Q P fs (jt X f nt n0 (.region id ops false) e H) = qhA X f nt n0 Q P fs (X.cv f id) (QY ops ops.toList) (enter X f n0 id e H):=by
 unfold jt;rw [qht,q1E];cases enter X f n0 id e H with
 | none=>simp [qah,qhA]
 | some q =>
  simp only [qhA,JI,Jk,qhi,qm6,Yq];cases Xr X (call X) nt (X.cv f id) (QY ops ops.toList) q.1 q.2 with
  | some r=>simp
  | none =>
   simp only [Option.map_none];cases qbo X (Q0 X) nt (X.cv f id) (QY ops ops.toList) q.1 q.2 with
   | none=>simp [qah]
   | some p=>simp [qbg]
theorem quU {id:Nat} {ops:Array Oper}:RunO X f nt n0 Q P fs (jt X f nt n0 (.region id ops true) e H) = Run X f nt n0 (fun ex e H=>RunO X f nt n0 Q P fs (some (.fin ex e H))) [] (zk X f nt n0 (.region id ops true) e H):=by
 unfold jt;rw [q1G];cases zk X f nt n0 (.region id ops true) e H with
 | none=>simp [qah]
 | some q=>obtain ⟨ex,e1,H1⟩:=q;simp
theorem qwr {PF:Nat→List D→Option D} {x:Operand}:Zl X PF (.panic x) e = match qW X e x with
  | some (.iface t d)=>if idFree d && vFree d then some (.iface t d) else none
  | _=>none:=rfl
theorem qwu {PF:Nat→List D→Option D} {g:Operand} {args:Array Operand} {ts:Array TypeId}:Zl X PF (.call { callee:=.value g,args:=args,argTypes:=ts }) e = match vL X e args.toList with
  | some vs=>match qW X e g with
   | some (.fn f caps)=>PF f (vs ++ caps)
   | _=>none
  | none=>none:=by
 unfold Zl;simp only;cases vL X e args.toList <;> rfl
theorem q0V {F:zt} {x:Operand}:zw X F (.panic x) e H = none:=rfl
theorem qe7 {fn:Func} {args:List D} {r:D × qe} {d:D} (C:Prop) (hf:X.P.funcs[f]? = some fn) (hb:fn.body.isSome = true) (hbad:X.bad f = false∧X.con f args [] = none) (ha:args.all idFree = true) (hd:idFree d = true∧vFree d = true)
  (h:RunO X f fn.ntmps ([]:qe).length (fun ex e H=>Fin X (X.fzr f) fn.results.toList ([]:qe).length r ex e H∧C) (fun d' _=>d' = d∧¬ C) [] (jt X f fn.ntmps ([]:qe).length (vh (Zi fn)) (kf 0 args) [])) (hg:(X.gr f && X.byRef f) = false:=by rfl) :
  (C→call X f args [] = some r)∧(¬ C→call X f args [] = none∧Q0 X f args = some d):=by
 unfold jt at h;cases hc:zk X f fn.ntmps ([]:qe).length (vh (Zi fn)) (kf 0 args) [] with
 | some q =>
  obtain ⟨ex,e1,H1⟩:=q;rw [hc] at h;simp only [qck] at h;exact ⟨fun _=>qy hf hb hbad (by rw [hc,Ki];exact h.1) hg,fun hn=>absurd h.2 hn⟩
 | none =>
  rw [hc] at h;simp only at h;cases hp:jC X f fn.ntmps ([]:qe).length (vh (Zi fn)) (kf 0 args) [] with
  | none=>rw [hp] at h;simp [qah] at h
  | some p =>
   rw [hp] at h;simp only [jj,qbg] at h;obtain ⟨rfl,hn⟩:=h;have hpf:=qw0 hf hb hbad ha hd (H':=p.2) hp;exact ⟨fun hC=>absurd hC hn,fun _=>⟨qw1 hpf,hpf⟩⟩
theorem qkq {fn:Func} {args:List D} {r p:D × qe} (C:Prop) (hf:X.P.funcs[f]? = some fn) (hb:fn.body.isSome = true) (hbad:X.bad f = false∧X.con f args H = none)
  (h:RunO X f fn.ntmps H.length (fun ex e H'=>Fin X (X.fzr f) fn.results.toList H.length r ex e H'∧C) (fun d' H'=>(d',H') = p∧¬ C) [] (jt X f fn.ntmps H.length (vh (Zi fn)) (kf 0 args) H)) (hg:(X.gr f && X.byRef f) = false:=by rfl) :
  (C→call X f args H = some r)∧(¬ C→call X f args H = none∧Yt X f args H = some p):=by
 unfold jt at h;cases hc:zk X f fn.ntmps H.length (vh (Zi fn)) (kf 0 args) H with
 | some q =>
  obtain ⟨ex,e1,H1⟩:=q;rw [hc] at h;simp only [qck] at h;exact ⟨fun _=>qy hf hb hbad (by rw [hc,Ki];exact h.1) hg,fun hn=>absurd h.2 hn⟩
 | none =>
  rw [hc] at h;simp only at h;cases hp:jC X f fn.ntmps H.length (vh (Zi fn)) (kf 0 args) H with
  | none=>rw [hp] at h;simp [qah] at h
  | some p' =>
   rw [hp] at h;simp only [jj,qbg] at h;obtain ⟨rfl,hn⟩:=h;have hpf:=qww hf hb hbad.1 (r:=p') hp;exact ⟨fun hC=>absurd hC hn,fun _=>⟨qwx hbad.2 hpf,hpf⟩⟩
end
attribute [simp] q1R q1W q1X q1U q1Y qah qbg qck ql5 ql6 ql4 ql8 ql7 ql9 quS quW quT quZ quY quX qva qvb qvd qvc qve quV quU qwr qwu q0V
end Go.Ev
namespace Go.Ev.S
open Go Go.Proofs Go.Ev
def kW (c:Nat):D:=.iface 327 (.agg [.int .i64 (c:Nat)])
theorem qgA [MaxL] [TxtC] (c:Nat):(c = 0→call cx 214 [.int .i64 (c:Nat)] [] = some (.tup [],[]))∧(¬ c = 0→call cx 214 [.int .i64 (c:Nat)] [] = none∧Q0 cx 214 [.int .i64 (c:Nat)] = some (kW c)):=by
 refine qe7 (c = 0) Tryz.func214 rfl ⟨rfl,rfl⟩ (by simp [idFree]) (by simp [kW,idFree,vFree]) ?_;by_cases h:c = 0
 ·subst h;simp [Tryz.f214,kW]
 ·have h':((c:Int) != 0) = true:=kr;simp [Tryz.f214,kW,h,h']
def qY (b:Sl UInt8) (h:HdP):List D:=(.vsl b.nil (qd b.l) b.l.length) :: Enc.cells h
theorem qf2 (h:HdP):(Enc.cells h).drop 67 = .int .u64 (h.siz:Nat) :: (Enc.cells h).drop 68:=h.dn (i:=0) (by omega)
set_option maxRecDepth 4000 in
theorem qhS [MaxL] [TxtC] (b:Sl UInt8) (h:HdP) (hl:b.l.length≤1000000) (a:Nat) (_:a < 18446744073709551616) :
  (¬ (a < h.siz∨b.l.length≤a)→call cx 212 [.vptr (qY b h),.int .u64 a] [] = some (.tup [],[])) ∧
  (¬ ¬ (a < h.siz∨b.l.length≤a)→call cx 212 [.vptr (qY b h),.int .u64 a] [] = none∧Q0 cx 212 [.vptr (qY b h),.int .u64 a] = some (kW 2)):=by
 have Xh:call cx 164 [.vptr (qY b h)] [] = some (.int .u64 b.l.length,[]):=by
  refine qy Tryz.func164 rfl ⟨rfl,rfl⟩ ?_;have hw:=qN (b.l.length:Int) (b.l.length:Int);simp [Tryz.f164,qY,hw]
 refine qe7 _ Tryz.func212 rfl ⟨rfl,rfl⟩ (by simp [idFree,qY]) (by simp [kW,idFree,vFree]) ?_;have h67:=qf2 h;by_cases h1:a < h.siz
 ·have zg:=zI h1;simp [Tryz.f212,kW,h67,h1,zg,qY]
 have zg:=zL h1;by_cases h2:b.l.length≤a
 ·have zH:(b.l.length:Int)≤(a:Int):=by omega
  simp only [qY] at Xh ⊢;simp [Tryz.f212,kW,h67,h1,zg,Xh,h2,zH]
 ·have zH:¬ (b.l.length:Int)≤(a:Int):=by omega
  simp only [qY] at Xh ⊢;simp [Tryz.f212,kW,h67,h1,zg,Xh,h2,zH]
def qfN (b:List UInt8) (a:Nat):List D:=[.int .u64 ((jP b a).headD 0:Nat),.vsl false (qK (jP b a).tail) (jP b a).tail.length]
set_option maxHeartbeats 1000000 in
set_option maxRecDepth 4000 in
theorem qt5 [MaxL] [TxtC] (b:Sl UInt8) (h:HdP) (hl:b.l.length≤1000000) (a:Nat) (ha:a < 18446744073709551616) :
  (vK b.l h.siz a = 0→call cx 211 [.optr 0 1 0,.optr 1 1 0,.optr 2 2 0] [some [.vptr (qY b h)],some [.int .u64 a],some [.int .u64 0,.vsl true [] 0]] =
   some (.tup [],[some [.vptr (qY b h)],some [.int .u64 a],some (qfN b.l a)])) ∧
  (¬ vK b.l h.siz a = 0→call cx 211 [.optr 0 1 0,.optr 1 1 0,.optr 2 2 0] [some [.vptr (qY b h)],some [.int .u64 a],some [.int .u64 0,.vsl true [] 0]] = none ∧
   ∃ L,Yt cx 211 [.optr 0 1 0,.optr 1 1 0,.optr 2 2 0] [some [.vptr (qY b h)],some [.int .u64 a],some [.int .u64 0,.vsl true [] 0]] =
   some (kW (vK b.l h.siz a),[some [.vptr (qY b h)],some [.int .u64 a],some [.int .u64 0,.vsl true [] 0]] ++ L)):=by
 obtain ⟨w1,w2⟩:=qhS b h hl a ha;obtain ⟨m1,m2⟩:=qgA (Z0 b.l a);have hr:=qvM b hl a ha;by_cases zP:a < h.siz∨b.l.length≤a
 ·have hV:vK b.l h.siz a = 2:=by unfold vK;rw [if_pos zP]
  obtain ⟨w3,w4⟩:=w2 (fun hn=>hn zP);rw [hV];refine ⟨by omega,fun _=>?_⟩;have key:=qkq (X:=cx) (f:=211) (H:=[some [.vptr (qY b h)],some [.int .u64 a],some [.int .u64 0,.vsl true [] 0]]) (args:=[.optr 0 1 0,.optr 1 1 0,.optr 2 2 0]) (r:=(.tup [],[])) (p:=(kW 2,[some [.vptr (qY b h)],some [.int .u64 a],some [.int .u64 0,.vsl true [] 0]])) False Tryz.func211 rfl ⟨rfl,rfl⟩ ?_
  ·obtain ⟨k1,k2⟩:=key.2 id;exact ⟨k1,[],by rw [KO];exact k2⟩
  ·simp only [qY] at w3 w4 ⊢;simp [Tryz.f211,w3,w4]
 have hV:vK b.l h.siz a = Z0 b.l a:=by unfold vK;rw [if_neg zP]
 have w3:=w1 zP;rw [hV];by_cases h0:Z0 b.l a = 0
 ·have VD:=m1 h0;rw [h0] at hr VD;have hm:call cx 214 [.int .i64 0] [] = some (.tup [],[]):=VD;have hA:qbR b.l a = .agg (qfN b.l a):=by unfold qbR;rw [if_pos h0];rfl
  rw [hA] at hr;refine ⟨fun _=>?_,fun hn=>absurd h0 hn⟩;refine qy Tryz.func211 rfl ⟨rfl,rfl⟩ ?_;simp only [qY,qfN] at w3 hr ⊢;obtain ⟨x,hx⟩:=ql ((jP b.l a).headD 0);obtain ⟨l,hl⟩:=ql ((jP b.l a).tail);rw [hx,hl] at hr ⊢;simp [Tryz.f211,w3,hr,hm]
 ·obtain ⟨m3,m4⟩:=m2 h0;refine ⟨fun h=>absurd h h0,fun _=>?_⟩;have hA:qbR b.l a = .agg [.int .u64 0,.vsl true [] 0]:=by unfold qbR;rw [if_neg h0]
  rw [hA] at hr;have key:=qkq (X:=cx) (f:=211) (H:=[some [.vptr (qY b h)],some [.int .u64 a],some [.int .u64 0,.vsl true [] 0]]) (args:=[.optr 0 1 0,.optr 1 1 0,.optr 2 2 0]) (r:=(.tup [],[])) (p:=(kW (Z0 b.l a),[some [.vptr (qY b h)],some [.int .u64 a],some [.int .u64 0,.vsl true [] 0]] ++ [some [.int .u64 0,.vsl true [] 0]])) False Tryz.func211 rfl ⟨rfl,rfl⟩ ?_
  ·obtain ⟨k1,k2⟩:=key.2 id;exact ⟨k1,_,k2⟩
  ·simp only [qY] at w3 ⊢;simp [Tryz.f211,w3,hr,m3,m4]
@[instance_reducible] def qba:TxtC:=⟨fun _ _ _=>none⟩
theorem qtH [MaxL]:@qk0 _ qba:=fun h=>by cases h
noncomputable instance txt1 [MaxL]:TxtC:=⟨fun f=>if f = 182 then qaR (@cx _ qba) 327 else fun _ _=>none⟩
set_option maxRecDepth 100000 in
theorem qtG [MaxL]:qk0:=by
 intro f args H r H' h ok w ι vs hs hv;replace h:(if f = 182 then qaR (@cx _ qba) 327 else fun _ _=>none) args H = some (r,H'):=h;by_cases h1:f = 182
 ·rw [if_pos h1] at h;subst h1;have:=@qtM _ qba (@qf4 _ qba qtH) args H H' r ok w ι vs h ⟨hs.okS,hs.glob,hs.inj,hs.blk⟩ hv;refine this.mono ?_;rintro v w' ⟨ι',ok',k1,k2,k3,k4⟩;exact ⟨ι',ok',⟨k1.okS,k1.glob,k1.inj,k1.blk⟩,k2,k3,k4⟩
 ·rw [if_neg h1] at h;cases h
theorem qsm {X:Cx} {T g:Nat} {caps:List D} {H H':qe} {r:D} (hg:(X.gr g && X.byRef g) = false) (h:call X g caps H = some (r,H')):qaR X T [.fn g caps] H = some (.int .i64 0,H'):=by
 simp only [qaR,hg,h];rfl
theorem qsl {X:Cx} {T g:Nat} {caps:List D} {H H':qe} {c:Int} (hg:(X.gr g && X.byRef g) = false) (h:call X g caps H = none) (hp:Yt X g caps H = some (.iface T (.agg [.int .i64 c]),H')):qaR X T [.fn g caps] H = jE false H.length H' (.int .i64 c):=by
 simp only [qaR,hg,h,hp];simp
def qeD (b:List UInt8) (sz a:Nat):D:=if vK b sz a = 0 then .agg (qfN b a) else .agg [.int .u64 0,.vsl true [] 0]
set_option maxHeartbeats 1000000 in
set_option maxRecDepth 4000 in
theorem qt4 [MaxL] (b:Sl UInt8) (h:HdP) (hl:b.l.length≤1000000) (a:Nat) (ha:a < 18446744073709551616) :
  call cx 165 [.vptr (qY b h),.int .u64 a] [] = some (.tup [qeD b.l h.siz a,.int .i64 (vK b.l h.siz a:Nat)],[]):=by
 obtain ⟨k1,k2⟩:=@qt5 _ qba b h hl a ha;have kj:idFree (.fn 211 [.optr 0 1 0,.optr 1 1 0,.optr 2 2 0]) = false:=by simp [idFree]
 have hT:∃ (x:Nat) (nl:Bool) (l:List Nat),qeD b.l h.siz a = .agg [.int .u64 (x:Nat),.vsl nl (qK l) l.length]∧qaR (@cx _ qba) 327 [.fn 211 [.optr 0 1 0,.optr 1 1 0,.optr 2 2 0]] [some [.vptr (qY b h)],some [.int .u64 a],some [.int .u64 0,.vsl true [] 0]] =
   some (.int .i64 (vK b.l h.siz a:Nat),[some [.vptr (qY b h)],some [.int .u64 a],some [.int .u64 (x:Nat),.vsl nl (qK l) l.length]]):=by
  by_cases h0:vK b.l h.siz a = 0
  ·refine ⟨_,_,_,by unfold qeD;rw [if_pos h0];rfl,?_⟩;rw [h0];exact qsm rfl (k1 h0)
  ·obtain ⟨k3,L,k4⟩:=k2 h0;refine ⟨0,true,[],by unfold qeD;rw [if_neg h0];rfl,?_⟩;rw [qsl rfl k3 k4];simp [jE,KX,qY]
 obtain ⟨x,nl,l,Vl,hc3⟩:=hT;rw [Vl];have hcall:=qdU (X:=cx) (f:=182) (show cx.con 182 [.fn 211 [.optr 0 1 0,.optr 1 1 0,.optr 2 2 0]] [some [.vptr (qY b h)],some [.int .u64 a],some [.int .u64 0,.vsl true [] 0]] = _ from hc3);refine qy Tryz.func165 rfl ⟨rfl,rfl⟩ ?_;simp only [qY] at hcall ⊢;simp [Tryz.f165,hcall]
def kt (l:List (List UInt8)):List D:=l.map fun p=>.vsl false (qd p) p.length
def Jt:List (List UInt8)→Int→Int
 | [],v=>v
 | p :: l,v=>Jt l (qH .u64 v (Y1 p))
theorem qhO (b:List UInt8):∀ (l:List (Nat × Nat)) (v:Int),qhP b l v = Jt (l.map fun x=>jN b x.1) v
 | [],_=>rfl
 | _ :: l,_=>qhO b l _
theorem qms {l:List (List UInt8)} {i:Nat} (h:i < l.length):(kt l).drop i = .vsl false (qd l[i]) l[i].length :: (kt l).drop (i+1):=by
 rw [zU (by simpa [kt] using h)];simp [kt]
set_option maxHeartbeats 1000000 in
theorem q0N [MaxL] [TxtC] (l:List (List UInt8)) (nl:Bool) (zF:nl = true→l = []) (hl:l.length≤1000) (hp:∀ p,p∈l→p.length≤1000000):call cx 231 [.vsl nl (kt l) l.length] [] = some (.int .u64 (Jt l 0),[]):=by
 refine qy Tryz.func231 rfl ⟨rfl,rfl⟩ ?_;obtain ⟨R,hR⟩:=ql (Jt l 0);rw [hR];simp [Tryz.f231];refine Run.loopThen (fun (k:Nat) e H=>k≤l.length∧H = []∧qi e 6 = some (.vsl nl (kt l) l.length)∧qi e 7 = some (.int .i64 l.length)∧qi e 8 = some (.int .i64 k)∧∃ v,qi e 3 = some (.int .u64 v)∧Jt (l.drop k) v = R) (fun k=>l.length - k) 0 ?_ ?_
 ·exact ⟨by omega,rfl,by simp,by simp,by simp,0,by simp,by simpa using hR⟩
 rintro k e H ⟨hk,rfl,p6,p7,p8,v,p3,hv⟩;by_cases qg:k < l.length
 ·have qo:=zI qg;have hw:=qx ((k:Int)+1) ((k+1:Nat):Int);have qI:=qms qg;have j6:=qni (Sl.mk false l[k] (by simp)) (by have:=hp _ (v6 qg);simp only;omega);rw [zU qg,Jt] at hv;simp only at j6
  have zx:nl = false:=by
   cases nl with
   | false=>rfl
   | true=>rw [zF rfl] at qg;simp at qg
  subst zx;generalize l[k] = p at *;simp [p3,p6,p7,p8,qo,hw,qI,j6];exact ⟨k+1,by omega,by omega,by omega,hv⟩
 ·have qo:=zL qg;rw [List.drop_of_length_le (by omega),Jt] at hv;subst hv;simp [p3,p6,p7,p8,qo]
theorem qsT (n:Nat) (h:n < 4294967296):(Yf .u32 (n:Int) 4 != 0) = decide (n &&& 4≠0):=by
 have e4:(4:Int) = ((4:Nat):Int):=rfl;rw [e4,q2Y rfl (by simpa [IntKind.bits] using h) (by decide)];have h2:n &&& 4≤4:=Nat.and_le_right;by_cases h3:n &&& 4 = 0
 ·simp [h3]
 ·have:((n &&& 4:Nat):Int)≠0:=by omega
  simp [h3]
set_option maxHeartbeats 1000000 in
set_option maxRecDepth 4000 in
theorem qt0 [MaxL] [TxtC] (b:Sl UInt8) (h:HdP) (hi:h.incompat < 4294967296) (s:Sl UInt8) (hs:s.l.length < 1000000):call cx 245 [.vptr (qY b h),(.vsl s.nil (qd s.l) s.l.length)] [] = some (.int .u64 (Xk (Y3 h) h.file.l s.l),[]):=by
 have ho:=qwb (Y3 h) h.file s hs;have ha:=qsT h.incompat hi;have hk:decide (h.incompat &&& 4≠0) = Y3 h:=rfl;rw [hk] at ha;have d1:=h.d1;have d3:=h.d3;have Jd:(qd h.file.l).length = 16:=by simp [qd,h.file.h]
 refine qy Tryz.func245 rfl ⟨rfl,rfl⟩ ?_;simp [Tryz.f245,qY,d1,d3,ha,ho]
def kV (b:List UInt8) (h:HdP) (a:Nat):Nat:=if a < h.siz∨b.length≤a then 2 else vJ b a
set_option maxHeartbeats 1000000 in
set_option maxRecDepth 4000 in
theorem qt3 [MaxL] [TxtC] (b:Sl UInt8) (h:HdP) (hl:b.l.length≤1000000) (a:Nat) (ha:a < 18446744073709551616) :
  (kV b.l h a = 0→call cx 244 [.vptr (qY b h),.int .u64 a] [] = some (.agg (qdR b.l a),[])) ∧
  (¬ kV b.l h a = 0→call cx 244 [.vptr (qY b h),.int .u64 a] [] = none∧Q0 cx 244 [.vptr (qY b h),.int .u64 a] = some (kW (kV b.l h a))):=by
 obtain ⟨w1,w2⟩:=qhS b h hl a ha;obtain ⟨m1,m2⟩:=qgA (vJ b.l a);have hr:=qwS b hl a ha;unfold qjZ at hr;refine qe7 _ Tryz.func244 rfl ⟨rfl,rfl⟩ (by simp [idFree,qY]) (by simp [kW,idFree,vFree]) ?_;by_cases zP:a < h.siz∨b.l.length≤a
 ·have hV:kV b.l h a = 2:=by unfold kV;rw [if_pos zP]
  obtain ⟨w3,w4⟩:=w2 (fun hn=>hn zP);rw [hV];simp only [qY] at w3 w4 ⊢;simp [Tryz.f244,w3,w4]
 have hV:kV b.l h a = vJ b.l a:=by unfold kV;rw [if_neg zP]
 have w3:=w1 zP;rw [hV];by_cases h0:vJ b.l a = 0
 ·have VD:=m1 h0;rw [if_pos h0] at hr;rw [h0] at hr VD ⊢;have hm:call cx 214 [.int .i64 0] [] = some (.tup [],[]):=VD;obtain ⟨q1,q2,q3,q4,q5⟩:=qdS h0;have hn:(VZ b.l a).length = 6:=by unfold VZ;rw [jU,qan];omega
  unfold qdR at hr ⊢;generalize VZ b.l a = l at *;generalize jN b.l a = p at *;simp only [qY] at w3 ⊢
  match l,hn with
  | [x0,x1,x2,x3,x4,x5],_ =>
   simp only [qK,List.map] at hr ⊢;simp [Tryz.f244,w3,hr,hm]
 ·obtain ⟨m3,m4⟩:=m2 h0;rw [if_neg h0] at hr;simp only [qY,qjY] at w3 hr ⊢;generalize vJ b.l a = c at *;simp [Tryz.f244,w3,hr,m3,m4,h0]
theorem qlm {b:List UInt8} {a:Nat} (h:vJ b a = 0):VZ b a = [Yc b a,qC (qB b a) 8,qC (qB b a) 16,qC (qB b a) 24,qC (qB b a) 32,qC (qB b a) 40]:=by
 obtain ⟨q1,q2,q3,q4,q5⟩:=qdS h;have hl:(VZ b a).length = 6:=by unfold VZ;rw [jU,qan];omega
 apply List.ext_getElem
 ·rw [hl];rfl
 ·intro i h1 h2;have hi:i < 6:=by omega
  have hg:(VZ b a)[i] = qC (qB b a) (8 * i):=by simp [VZ,jw]
  rw [hg]
  match i,hi with
  | 0,_=>rfl
  | 1,_=>rfl
  | 2,_=>rfl
  | 3,_=>rfl
  | 4,_=>rfl
  | 5,_=>rfl
set_option maxHeartbeats 1000000 in
set_option maxRecDepth 4000 in
theorem qty [MaxL] [TxtC] (b:Sl UInt8) (h:HdP) (hi:h.incompat < 4294967296) (hl:b.l.length≤1000000) (a:Nat) (ha:a < 18446744073709551616) :
  (Z5 b.l h a = 0→call cx 229 [.vptr (qY b h),.int .u64 a] [] = some (.agg (qdR b.l a),[])) ∧
  (¬ Z5 b.l h a = 0→call cx 229 [.vptr (qY b h),.int .u64 a] [] = none∧Q0 cx 229 [.vptr (qY b h),.int .u64 a] = some (kW (Z5 b.l h a))):=by
 obtain ⟨w1,w2⟩:=qt3 b h hl a ha;refine qe7 _ Tryz.func229 rfl ⟨rfl,rfl⟩ (by simp [idFree,qY]) (by simp [kW,idFree,vFree]) ?_
 have hP:Z5 b.l h a = if kV b.l h a≠0 then kV b.l h a else if (Yc b.l a:Int)≠Xk (Y3 h) h.file.l (jN b.l a) then 9 else 0:=by
  unfold Z5 kV;by_cases zP:a < h.siz∨b.l.length≤a
  ·rw [if_pos zP,if_pos zP];rfl
  ·rw [if_neg zP,if_neg zP]
 rw [hP];by_cases h0:kV b.l h a = 0
 ·rw [if_neg (by simp [h0])];have w3:=w1 h0
  have vf:vJ b.l a = 0:=by
   unfold kV at h0;split at h0
   ·omega
   ·exact h0
  obtain ⟨q1,q2,q3,q4,q5⟩:=qdS vf;have hpl:(jN b.l a).length < 1000000:=by unfold jN;rw [vQ];omega
  have hh:=qt0 b h hi (Sl.mk false (jN b.l a) (by simp)) hpl;unfold qdR at w3 ⊢;rw [qlm vf] at w3 ⊢;simp only at hh;generalize jN b.l a = p at *;generalize Yc b.l a = x0 at *;generalize qC (qB b.l a) 8 = x1 at *;generalize qC (qB b.l a) 16 = x2 at *;generalize qC (qB b.l a) 24 = x3 at *;generalize qC (qB b.l a) 32 = x4 at *;generalize qC (qB b.l a) 40 = x5 at *;generalize Xk (Y3 h) h.file.l p = hv at *;simp only [qY,qK,List.map] at w3 hh ⊢;by_cases he:(x0:Int) = hv
  ·subst he;simp [Tryz.f229,w3,hh]
  ·have he':((x0:Int) != hv) = true:=(by simp only [bne_iff_ne,ne_eq];exact he);simp [Tryz.f229,w3,hh,he,he',kW]
 ·obtain ⟨m3,m4⟩:=w2 h0;rw [if_pos h0];simp only [qY] at m3 m4 ⊢;generalize kV b.l h a = c at *;simp [Tryz.f229,m3,m4,h0]
def kL (b:List UInt8) (h:HdP) (a:Nat):Nat:=if a < h.siz∨b.length≤a then 2 else kC b a
def Vq (b:List UInt8) (a:Nat):List D:=qaM (qB b a) (.vsl false (jA (jG (qB b a))) (jG (qB b a)).length)
theorem qjS {b:List UInt8} {a:Nat} (h:kC b a = 0):jq b a = 0∧48 < (qB b a).length∧((qB b a).length - 48) % 16 = 0∧(qB b a).length≤b.length:=by
 unfold kC at h;split at h
 · omega
 rename_i h0;have qM:vD b a 3 48 16 = 0:=by omega
 unfold vD at qM;split at qM
 · omega
 rename_i h1;have zg:jq b a = 0:=by omega
 have hb:=qdn zg;have hf:=qaK zg;split at qM
 · omega
 split at qM
 · omega
 refine ⟨zg,by omega,by omega,by omega⟩
theorem qrW {b:List UInt8} {a:Nat} (h:kC b a = 0):(Vq b a).length = 21:=by
 obtain ⟨h1,h2,h3,h4⟩:=qjS h;unfold Vq qaM;simp [qd];omega
theorem qrX (b:List UInt8) (a:Nat):idFree.idFreeL (Vq b a) = true:=by
 have h2:idFree.idFreeL (qd (((qB b a).drop 24).take 16)) = true:=by
  rw [kY,qeH];intro x hx;obtain ⟨c,_,rfl⟩:=List.mem_map.1 hx;rfl
 unfold Vq qaM;rw [kY] at h2 ⊢;simp only [VY,List.all_append,h2,idFree];rfl
set_option maxHeartbeats 1000000 in
set_option maxRecDepth 4000 in
theorem qt1 [MaxL] [TxtC] (b:Sl UInt8) (h:HdP) (hl:b.l.length≤1000000) (a:Nat) (ha:a < 18446744073709551616) :
  (kL b.l h a = 0→call cx 228 [.vptr (qY b h),.int .u64 a] [] = some (.agg (Vq b.l a),[])) ∧
  (¬ kL b.l h a = 0→call cx 228 [.vptr (qY b h),.int .u64 a] [] = none∧Q0 cx 228 [.vptr (qY b h),.int .u64 a] = some (kW (kL b.l h a))):=by
 obtain ⟨w1,w2⟩:=qhS b h hl a ha;obtain ⟨m1,m2⟩:=qgA (kC b.l a);have hr:=q0Y b hl a ha;unfold qdP at hr;refine qe7 _ Tryz.func228 rfl ⟨rfl,rfl⟩ (by simp [idFree,qY]) (by simp [kW,idFree,vFree]) ?_;by_cases zP:a < h.siz∨b.l.length≤a
 ·have hV:kL b.l h a = 2:=by unfold kL;rw [if_pos zP]
  obtain ⟨w3,w4⟩:=w2 (fun hn=>hn zP);rw [hV];simp only [qY] at w3 w4 ⊢;simp [Tryz.f228,w3,w4]
 have hV:kL b.l h a = kC b.l a:=by unfold kL;rw [if_neg zP]
 have w3:=w1 zP;rw [hV];by_cases h0:kC b.l a = 0
 ·have VD:=m1 h0;rw [if_pos h0] at hr;have hCl:=qrW h0;have YP:=qrX b.l a;have hr':call cx 243 [(.vsl b.nil (qd b.l) b.l.length),.int .u64 a] [] = some (.tup [.agg (Vq b.l a),.int .i64 (kC b.l a:Nat)],[]):=hr;rw [h0] at hr' VD ⊢;have hm:call cx 214 [.int .i64 0] [] = some (.tup [],[]):=VD;have hr2:call cx 243 [(.vsl b.nil (qd b.l) b.l.length),.int .u64 a] [] = some (.tup [.agg (Vq b.l a),.int .i64 0],[]):=hr';generalize Vq b.l a = C at *;have hCs:=zsh YP;have jc:List.take 21 C = C:=qP (by omega);have JT:List.drop 21 C = []:=List.drop_of_length_le (by omega);have XV:=Xz YP;simp only [qY] at w3 ⊢;simp [Tryz.f228,w3,hr2,hm,hCl,YP,jc,XV]
 ·obtain ⟨m3,m4⟩:=m2 h0;rw [if_neg h0] at hr;simp only [qY,vI] at w3 hr ⊢;generalize kC b.l a = c at *;simp [Tryz.f228,w3,hr,m3,m4,h0]
theorem qw8 (x y:Nat) (h:y < 72057594037927936):y ||| (x * 72057594037927936) = x * 72057594037927936+y:=by
 have:=Nat.shiftLeft_add_eq_or_of_lt (b:=y) (i:=56) (by simpa using h) x;rw [Nat.shiftLeft_eq] at this;rw [Nat.or_comm];simpa using this.symm
theorem quq (l:List UInt8) (k:Nat) (hk:k = l.length / 8 * 8):JK .u64 ((leN ((l.drop k).take 8):Nat):Int) (IntKind.u64.wrap (((l.length % 256:Nat):Int) * 72057594037927936)) = ((qeT l:Nat):Int):=by
 have h2:(l.drop k).length≤7:=by rw [vQ];omega
 have ht:(l.drop k).take 8 = l.drop k:=qP (by omega);have h3:leN (l.drop k) < 72057594037927936:=jZ (qbu _) (zT (YZ (by decide) h2) (by decide));have h4:l.length % 256 < 256:=Yh _ (by decide);rw [ht];have e1:=qN (((l.length % 256:Nat):Int) * 72057594037927936) ((l.length % 256 * 72057594037927936:Nat):Int);rw [e1,qg0 rfl (Nat.lt_of_lt_of_eq (by omega) bits64.symm) (Nat.lt_of_lt_of_eq (by omega) bits64.symm),qw8 _ _ h3];unfold qeT;rw [← hk];omega
theorem qi2 [MaxL] [TxtC] {a b c d a1 b1 c1 d1:Int} {n:Nat} (hn:n≤100) (h:ZQ n (a,b,c,d) = (a1,b1,c1,d1)) {x:Int} (hx:x = n):call cx 190 [.agg [.int .u64 a,.int .u64 b,.int .u64 c,.int .u64 d],.int .i64 x] [] = some (.agg [.int .u64 a1,.int .u64 b1,.int .u64 c1,.int .u64 d1],[]):=by
 subst hx;have h1:=qlH (a,b,c,d) n hn;rw [h] at h1;exact h1
set_option maxHeartbeats 4000000 in
theorem qup [MaxL] [TxtC] (key:ID) (s:Sl UInt8) (hs:s.l.length < 1000000):call cx 134 [.agg (qd key.l),(.vsl s.nil (qd s.l) s.l.length)] [] = some (.int .u64 (qef key.l s.l),[]):=by
 have e0:=qe2 (Sl.mk false key.l (by simp)) 0 (by omega) (by simp only [key.h];omega) (x:=0) rfl;have e8:=qe2 (Sl.mk false key.l (by simp)) 8 (by omega) (by simp only [key.h];omega) (x:=8) rfl;have hk:key.l.length = 16:=key.h;simp only [hk,List.drop_zero] at e0 e8;obtain ⟨K,hK⟩:=ql (leN (key.l.take 8));obtain ⟨L,hL⟩:=ql (leN ((key.l.drop 8).take 8));unfold qef;rw [hK,hL];rw [hK] at e0;rw [hL] at e8;obtain ⟨R,hR⟩:=ql (KU s.l (qir (K:Nat) (L:Nat)));rw [hR];refine qy Tryz.func134 rfl ⟨rfl,rfl⟩ ?_;simp [Tryz.f134,e0,e8,hk];refine Run.loopThen (fun (k:Nat) e H=>k≤s.l.length∧k % 8 = 0∧qi e 1 = some (.vsl s.nil (qd s.l) s.l.length)∧qi e 7 = some (.optr 1 4 0)∧qi e 8 = some (.int .i64 k)∧∃ a b c d:Int,KU (s.l.drop k) (a,b,c,d) = R∧H = [none,some [.int .u64 a,.int .u64 b,.int .u64 c,.int .u64 d]]) (fun k=>s.l.length - k) 0 ?_ ?_
 ·exact ⟨vV _,rfl,by simp,by simp,by simp,_,_,_,_,hR,rfl⟩
 rintro k e H ⟨hkl,hk8,p1,p7,p8,a,b,c,d,hS,rfl⟩;have hw:=qx ((k:Int)+8) ((k+8:Nat):Int);have ek:=qe2 s k (by omega) (by omega) (x:=(k:Int)) rfl;by_cases h8:k+8≤s.l.length
 ·have h8':((k+8:Nat):Int)≤(s.l.length:Int):=by omega
  have h8'':(k:Int)+8≤(s.l.length:Int):=by omega
  rw [qln (by rw [vQ];omega),jV] at hS;obtain ⟨m,hm⟩:=ql (leN (List.take 8 (List.drop k s.l)));rw [hm] at ek hS;obtain ⟨a1,b1,c1,d1,hr⟩:∃ a1 b1 c1 d1,ZQ 2 (a,b,c,qH .u64 d m) = (a1,b1,c1,d1):=⟨_,_,_,_,rfl⟩;have r2:=qi2 (by omega) hr (x:=2) rfl;have hB:V3 (m:Nat) (a,b,c,d) = (qH .u64 a1 m,b1,c1,d1):=by simp only [V3,hr]
  rw [hB] at hS;simp [p1,p7,p8,hw,h8'',ek,r2];exact ⟨k+8,by omega,by omega,by omega,by omega,_,_,_,_,hS,rfl,rfl,rfl,rfl⟩
 ·have h8':¬ ((k+8:Nat):Int)≤(s.l.length:Int):=by omega
  have h8'':¬ (k:Int)+8≤(s.l.length:Int):=by omega
  rw [qiq (by rw [vQ];omega)] at hS;subst hS;have qa5:=quq s.l k (by omega);obtain ⟨m,hm⟩:=ql (leN (List.take 8 (List.drop k s.l)));rw [hm] at ek qa5;obtain ⟨M,hM⟩:=ql (qeT s.l);rw [hM] at qa5 ⊢
  have htm:(s.l.length:Int).tmod 256 = ((s.l.length % 256:Nat):Int):=by
   rw [Int.tmod_eq_emod_of_nonneg (Int.natCast_nonneg _)];rfl
  have XE:=qN ((s.l.length % 256:Nat):Int) ((s.l.length % 256:Nat):Int);obtain ⟨z,hz⟩:=ql (s.l.length % 256);rw [hz] at htm XE qa5;have qa0:min 56 IntKind.u64.bits = 56:=rfl;obtain ⟨a1,b1,c1,d1,hr⟩:∃ a1 b1 c1 d1,ZQ 2 (a,b,c,qH .u64 d M) = (a1,b1,c1,d1):=⟨_,_,_,_,rfl⟩;have r2:=qi2 (by omega) hr (x:=2) rfl;have hB:V3 (M:Nat) (a,b,c,d) = (qH .u64 a1 M,b1,c1,d1):=by simp only [V3,hr]
  rw [hB];obtain ⟨a2,b2,c2,d2,hr4⟩:∃ a2 b2 c2 d2,ZQ 4 (qH .u64 a1 M,b1,qH .u64 c1 255,d1) = (a2,b2,c2,d2):=⟨_,_,_,_,rfl⟩;have r4:=qi2 (by omega) hr4 (x:=4) rfl;have hE:qbe (qH .u64 a1 M,b1,c1,d1) = qH .u64 (qH .u64 (qH .u64 a2 b2) c2) d2:=by simp only [qbe,hr4]
  rw [hE];simp [p1,p7,p8,hw,h8'',ek,htm,XE,qa0,qa5,r2,r4]
theorem qwO [MaxL] [TxtC] (kd:Bool) (key:ID) (s:Sl UInt8) (hs:s.l.length < 1000000):call cx 86 [.bool kd,.agg (qd key.l),(.vsl s.nil (qd s.l) s.l.length)] [] = some (.int .u64 (Xk kd key.l s.l),[]):=by
 cases kd with
 | true =>
  have h:=qup key s hs;refine qy Tryz.func86 rfl ⟨rfl,rfl⟩ ?_;simp [Tryz.f86,h,Xk]
 | false =>
  have h:=qgn s (by omega);refine qy Tryz.func86 rfl ⟨rfl,rfl⟩ ?_;simp [Tryz.f86,h,Xk]
def vB (h:HdP):List D:=.int .u32 h.compat :: .int .u32 h.incompat :: .int .i64 h.state :: (qd h.file.l ++ (qd h.machine.l ++ (qd h.boot.l ++ (qd h.seq.l ++ (qJ .u64 (h.n.take 20) ++ [.int .u32 h.ta,.int .u32 h.ti,.int .u64 h.te])))))
theorem qf1 (h:HdP):(vB h).length = 90:=by simp [vB,h.hn]
theorem qgZ (h:HdP):idFree.idFreeL (vB h) = true:=by simp [vB,idFree.idFreeL,idFree]
def vc (b:Sl UInt8) (h:HdP):List D:=vB h ++ [.int .u64 (h.g 20:Nat),(.vsl b.nil (qd b.l) b.l.length)]
theorem qhU (b:Sl UInt8) (h:HdP):(vc b h).length = 92:=by simp [vc,qf1]
theorem qaZ (b:Sl UInt8) (h:HdP):idFree.idFreeL (vc b h) = true:=by
 have:=qgZ h;simp [vc,idFree.idFreeL,idFree,this]
theorem qtu (b:Sl UInt8) (h:HdP):(vc b h).drop 1 = .int .u32 h.incompat :: (vc b h).drop 2:=by simp [vc,vB]
theorem qtt (b:Sl UInt8) (h:HdP):((vc b h).drop 3).take 16 = qd h.file.l:=by simp [vc,vB]
theorem qfZ (b:Sl UInt8) (h:HdP):(vc b h).drop 91 = [(.vsl b.nil (qd b.l) b.l.length)]:=by
 unfold vc;rw [show 91 = 90+1 by omega,← jV,kE (qf1 h)];rfl
theorem qhV (b:Sl UInt8) (h:HdP) {i:Nat} (hi:i < 20):(vc b h).drop (67+i) = .int .u64 (h.g i:Nat) :: (vc b h).drop (68+i):=by
 have hl:i < (h.n.take 20).length:=by rw [jU,h.hn];omega
 have key:∀ j,j≤20→(vc b h).drop (67+j) = (qJ .u64 (h.n.take 20) ++ (([.int .u32 h.ta,.int .u32 h.ti,.int .u64 h.te] ++ [.int .u64 (h.g 20:Nat),(.vsl b.nil (qd b.l) b.l.length)]):List D)).drop j:=by
  intro j hj
  have h2:∀ (k:Nat) (l r:List D) (a:Nat),l.length = a→(l ++ r).drop (a+k) = r.drop k:=by
   intro k l r a hl;rw [← jV,kE hl]
  simp only [vc,vB,Qw,Qj];rw [show 67+j = (16+(16+(16+(16+j))))+1+1+1 by omega,List.drop_succ_cons,List.drop_succ_cons,List.drop_succ_cons,h2 _ _ _ 16 (by simp),h2 _ _ _ 16 (by simp),h2 _ _ _ 16 (by simp),h2 _ _ _ 16 (by simp)]
 rw [key i (by omega),show 68+i = 67+(i+1) by omega,key (i+1) (by omega),List.drop_append_of_le_length (by simp [h.hn];omega),List.drop_append_of_le_length (by simp [h.hn];omega),qbs hl,Qw];congr 2
 ·have:i < h.n.length:=by rw [h.hn];omega
  simp [HdP.g,this]
 ·unfold qJ;rw [List.map_drop]
theorem qlZ [MaxL] [TxtC] (b:Sl UInt8) (h:HdP) (hl:b.l.length≤1000000):call cx 168 [.vptr (vc b h)] [] = some (.int .u64 b.l.length,[]):=by
 have h91:=qfZ b h;have hw:=qN (b.l.length:Int) (b.l.length:Int);generalize vc b h = V at *;refine qy Tryz.func168 rfl ⟨rfl,rfl⟩ ?_;simp [Tryz.f168,h91,hw]
theorem qi5 [MaxL] [TxtC] (b:Sl UInt8) (h:HdP) (hl:b.l.length≤1000000) (a:Nat):call cx 169 [.vptr (vc b h),.int .u64 a] [] = some (.int .i64 (if a < h.siz∨b.l.length≤a then 2 else 0:Nat),[]):=by
 have Xh:=qlZ b h hl;have h67:=qhV b h (i:=0) (by omega);have hs:h.g 0 = h.siz:=rfl;rw [hs,Nat.add_zero,Nat.add_zero] at h67;have YL:=qaZ b h;have hVl:=qhU b h;generalize vc b h = V at *;refine qy Tryz.func169 rfl ⟨rfl,rfl⟩ ?_;by_cases h1:a < h.siz
 ·have zg:=zI h1;rw [if_pos (.inl h1)];simp [Tryz.f169,h67,zg]
 have zg:=zL h1;by_cases h2:b.l.length≤a
 ·have zH:(b.l.length:Int)≤(a:Int):=by omega
  rw [if_pos (.inr h2)];simp [Tryz.f169,h67,zg,Xh,zH]
 ·have zH:¬ (b.l.length:Int)≤(a:Int):=by omega
  rw [if_neg (by omega)];simp [Tryz.f169,h67,zg,Xh,zH]
theorem qv0 [MaxL] [TxtC] (b:Sl UInt8) (h:HdP) (hl:b.l.length≤1000000) (a:Nat):call cx 114 [.vptr (vc b h),.int .u64 a] [] = some (.bool (Z6 b.l a),[]):=by
 have Xh:=qlZ b h hl;have YL:=qaZ b h;generalize vc b h = V at *;refine qy Tryz.func114 rfl ⟨rfl,rfl⟩ ?_;unfold Z6;by_cases h1:a = 0
 ·have zg:(a:Int) = 0:=by omega
  simp [Tryz.f114,h1]
 have zg:¬ (a:Int) = 0:=by omega
 by_cases h2:b.l.length≤a
 ·have zH:(b.l.length:Int)≤(a:Int):=by omega
  simp [Tryz.f114,h1,Xh,h2,zH]
 ·have zH:¬ (b.l.length:Int)≤(a:Int):=by omega
  simp [Tryz.f114,h1,Xh,h2,zH]
set_option maxHeartbeats 1000000 in
set_option maxRecDepth 4000 in
theorem qv7 [MaxL] [TxtC] (b:Sl UInt8) (h:HdP) (hi:h.incompat < 4294967296) (s:Sl UInt8) (hs:s.l.length < 1000000):call cx 220 [.vptr (vc b h),(.vsl s.nil (qd s.l) s.l.length)] [] = some (.int .u64 (Xk (Y3 h) h.file.l s.l),[]):=by
 have ho:=qwO (Y3 h) h.file s hs;have ha:=qsT h.incompat hi;have hk:decide (h.incompat &&& 4≠0) = Y3 h:=rfl;rw [hk] at ha;have d1:=qtu b h;have d3:=qtt b h;have hVl:=qhU b h;generalize vc b h = V at *;refine qy Tryz.func220 rfl ⟨rfl,rfl⟩ ?_;simp [Tryz.f220,d1,d3,hVl,ha,ho]
set_option maxHeartbeats 1000000 in
set_option maxRecDepth 4000 in
theorem quC [MaxL] [TxtC] (b:Sl UInt8) (h:HdP) (hl:b.l.length≤1000000) (a:Nat) (ha:a < 18446744073709551616):call cx 219 [.vptr (vc b h),.int .u64 a] [] = some (.tup [.agg (if kV b.l h a = 0 then qej b.l a else qcm),.int .i64 (kV b.l h a:Nat)],[]):=by
 have zP:=qi5 b h hl a;have hr:=qvO b hl a ha;have h91:=qfZ b h;have YL:=qaZ b h;generalize vc b h = V at *;refine qy Tryz.func219 rfl ⟨rfl,rfl⟩ ?_;by_cases h0:a < h.siz∨b.l.length≤a
 ·have hV:kV b.l h a = 2:=by unfold kV;rw [if_pos h0]
  rw [if_pos h0] at zP;rw [hV];simp [Tryz.f219,zP,qcm]
 have hV:kV b.l h a = vJ b.l a:=by unfold kV;rw [if_neg h0]
 rw [if_neg h0] at zP;rw [hV];have hT:(if vJ b.l a = 0 then qej b.l a else qcm) = qgt b.l a:=rfl;rw [hT];have hin2:call cx 169 [.vptr V,.int .u64 a] [] = some (.int .i64 0,[]):=zP;unfold qgt at hr ⊢;by_cases h1:vJ b.l a = 0
 ·rw [if_pos h1,h1] at hr;rw [if_pos h1,h1];unfold qej at hr ⊢;simp [Tryz.f219,hin2,h91,hr]
 ·rw [if_neg h1] at hr;rw [if_neg h1];unfold qcm at hr ⊢;generalize vJ b.l a = c at *;simp [Tryz.f219,hin2,h91,hr]
set_option maxHeartbeats 1000000 in
set_option maxRecDepth 4000 in
theorem quA [MaxL] [TxtC] (b:Sl UInt8) (h:HdP) (hi:h.incompat < 4294967296) (hl:b.l.length≤1000000) (a:Nat) (ha:a < 18446744073709551616):call cx 172 [.vptr (vc b h),.int .u64 a] [] = some (.tup (if Z5 b.l h a = 0 then [.vsl false (qd (jN b.l a)) (jN b.l a).length,.int .u64 (Yc b.l a:Nat),.int .i64 0] else [.vsl true [] 0,.int .u64 0,.int .i64 (Z5 b.l h a:Nat)]),[]):=by
 have hd:=quC b h hl a ha;have YL:=qaZ b h
 have hP:Z5 b.l h a = if kV b.l h a≠0 then kV b.l h a else if (Yc b.l a:Int)≠Xk (Y3 h) h.file.l (jN b.l a) then 9 else 0:=by
  unfold Z5 kV;by_cases zP:a < h.siz∨b.l.length≤a
  ·rw [if_pos zP,if_pos zP];rfl
  ·rw [if_neg zP,if_neg zP]
 rw [hP];refine qy Tryz.func172 rfl ⟨rfl,rfl⟩ ?_;by_cases h0:kV b.l h a = 0
 ·rw [if_pos h0,h0] at hd;rw [if_neg (show ¬ kV b.l h a≠0 by omega)]
  have vf:vJ b.l a = 0:=by
   unfold kV at h0;split at h0
   ·omega
   ·exact h0
  obtain ⟨q1,q2,q3,q4,q5⟩:=qdS vf;have hpl:(jN b.l a).length < 1000000:=by unfold jN;rw [vQ];omega
  have hh:=qv7 b h hi (Sl.mk false (jN b.l a) (by simp)) hpl;unfold qej at hd;simp only at hh;generalize jN b.l a = p at *;generalize Yc b.l a = x0 at *;generalize Xk (Y3 h) h.file.l p = hv at *;generalize vc b h = V at *;by_cases he:(x0:Int) = hv
  ·subst he;simp [Tryz.f172,hd,hh]
  ·have he':((x0:Int) != hv) = true:=(by simp only [bne_iff_ne,ne_eq];exact he);simp [Tryz.f172,hd,hh,he,he']
 ·rw [if_neg h0] at hd;rw [if_pos h0];unfold qcm at hd;have qM:(((kV b.l h a:Nat):Int) != 0) = true:=kr;generalize vc b h = V at *;generalize kV b.l h a = c at *;simp [Tryz.f172,hd,qM,h0]
theorem qkM (c:UInt8):∀ (l:List UInt8),(l.takeWhile fun x=>x != c).length < l.length→l[(l.takeWhile fun x=>x != c).length]? = some c
 | [],h=>by simp at h
 | b :: l,h=>by
  rw [List.takeWhile_cons] at h ⊢;by_cases hb:b = c
  ·subst hb;simp
  ·have zC:(b != c) = true:=(by simp [hb]);rw [zC,if_pos rfl] at h ⊢;simp only [vn] at h ⊢;rw [qdv];exact qkM c l (by omega)
set_option maxHeartbeats 2000000 in
theorem qvo [MaxL] [TxtC] (s:Sl UInt8) (hs:s.l.length≤1000000):call cx 173 [(.vsl s.nil (qd s.l) s.l.length)] [] = some (.tup [qaf s.l,.int .i64 (kz s.l:Nat)],[]):=by
 obtain ⟨P,hP⟩:=ql (s.l);obtain ⟨r,hr⟩:=ql (qaf s.l);obtain ⟨c,hc⟩:=ql (kz s.l);rw [hr,hc];refine qy Tryz.func173 rfl ⟨rfl,rfl⟩ ?_;simp [Tryz.f173];refine Run.loopThen (fun (k:Nat) e H=>k≤(jW s.l).length∧qi e 0 = some (.vsl s.nil (qd s.l) s.l.length)∧qi e 2 = some (.optr 0 2 0)∧qi e 4 = some (.int .i64 k)∧H = [some [.str [],.str []]]) (fun k=>(jW s.l).length - k) 0 ?_ ?_
 ·exact ⟨by omega,by simp,by simp,by simp,by simp⟩
 rintro k e H ⟨hk,k0,k2,k4,rfl⟩;have hpre:jW s.l <+: s.l:=List.takeWhile_prefix _;have hple:=hpre.length_le;have hw:=qx ((k:Int)+1) ((k+1:Nat):Int);by_cases qg:k < s.l.length
 ·have qo:=zI qg;have qI:=vq qg;have zx:s.nil = false:=Sl.nn qg;rw [zx] at k0;by_cases h61:k < (jW s.l).length
  ·have qQ:s.l[k]≠61:=by
    have h1:s.l[k] = (jW s.l)[k]:=(List.IsPrefix.getElem hpre h61).symm;rw [h1];have h2:=List.all_eq_true.1 (List.all_takeWhile (p:=fun x=>x != 61) (l:=s.l)) _ (v6 h61);simpa using h2
   have hne':((s.l[k].toNat:Int) != 61) = true:=by
    simp only [bne_iff_ne,ne_eq];intro h;apply qQ;apply UInt8.toNat_inj.1;have:s.l[k].toNat = 61:=(by omega);rw [this];rfl
   generalize s.l[k] = u at *;simp [k0,k2,k4,qo,qI,hne',hw];exact ⟨k+1,by omega,by omega,zx,by omega⟩
  ·have hkn:k = (jW s.l).length:=(by omega);have hks:(jW s.l).length = k:=hkn.symm
   have Zw:s.l[k] = 61:=by
    have:=qkM 61 s.l (by unfold jW at hkn;omega);unfold jW at hkn;rw [← hkn,zn qg] at this;exact Option.some.inj this
   have heq':(s.l[k].toNat:Int) = 61:=(by rw [Zw];rfl);have Vg:(jW s.l).length < s.l.length:=(by omega);have jc:s.l.take k = jW s.l:=(by rw [hkn,qli]);have hdk:s.l.drop (k+1) = Za s.l:=(by rw [hkn];rfl);have V9:(Za s.l).length = s.l.length - k - 1:=(by rw [← hdk,vQ];omega);have jb:=qx ((s.l.length:Int) - (k:Int)) ((s.l.length - k:Nat):Int);obtain ⟨z,hz⟩:=ql (s.l.length - k);rw [hz] at jb;have qZ:=qx ((z:Int) - 1) ((Za s.l).length:Int);have e1:List.take k (qd s.l) = qd (jW s.l):=(by rw [Yv,jc]);have e2:List.drop (k+1) (qd s.l) = qd (Za s.l):=(by rw [Yw,hdk]);have hn:=qlM (jW s.l) (by omega);have c1:(0:Int)≤(k:Int)∧(k:Int)≤(s.l.length:Int)∧(0:Int)≤(k:Int)+1∧(k:Int)+1≤(s.l.length:Int):=(by omega);have c2:((k:Int)+1).toNat = k+1:=(by omega);have Zf:=qx ((k:Int)+1) ((k:Int)+1);have jI:s.l.length - (k+1) = (Za s.l).length:=(by omega);have htv:List.take (Za s.l).length (qd (Za s.l)) = qd (Za s.l):=qP (by simp [qd]);subst hr;unfold qaf;by_cases hN:Zo (jW s.l) = true
   ·rw [hN] at hn;by_cases h2:256 < (Za s.l).length
    ·have zH:(256:Int) < ((Za s.l).length:Int):=(by omega);have hC:kz s.l = 21:=(by unfold kz;rw [if_pos ⟨Vg,hN⟩,if_pos h2]);rw [← hc,hC];simp [k0,k2,k4,qo,qI,heq',hn,c1,e1,jb,qZ,zH,hks]
    ·have zH:¬ (256:Int) < ((Za s.l).length:Int):=(by omega);have hC:kz s.l = 0:=(by unfold kz;rw [if_pos ⟨Vg,hN⟩,if_neg h2]);rw [← hc,hC];simp [k0,k2,k4,qo,qI,heq',hn,c1,c2,e1,e2,jb,qZ,Zf,zH,hks,jI,htv]
   ·have hC:kz s.l = 20:=(by unfold kz;rw [if_neg (fun hh=>hN hh.2)]);have Xl:Zo (jW s.l) = false:=(by cases hh:Zo (jW s.l) <;> simp_all);rw [Xl] at hn;rw [← hc,hC];simp [k0,k2,k4,qo,qI,heq',hn,c1,e1,hks]
 ·have qo:=zL qg;have hC:kz s.l = 20:=by unfold kz;rw [if_neg (fun hh=>by omega)]
  subst hr;unfold qaf;rw [← hc,hC];simp [k0,k2,k4,qo]
theorem qt2 [MaxL] (b:Sl UInt8) (h:HdP) (hl:b.l.length≤1000000):call cx 164 [.vptr (qY b h)] [] = some (.int .u64 b.l.length,[]):=by
 refine qy Tryz.func164 rfl ⟨rfl,rfl⟩ ?_;have hw:=qN (b.l.length:Int) (b.l.length:Int);simp [Tryz.f164,qY,hw]
theorem qtz [MaxL] (b:Sl UInt8) (h:HdP):call cx 108 [.vptr (qY b h)] [] = some (.agg (Enc.cells h),[]):=by
 refine qy Tryz.func108 rfl ⟨rfl,rfl⟩ ?_;simp [Tryz.f108,qY]
theorem qwY [MaxL] (b:Sl UInt8) (h:HdP) (hl:b.l.length≤1000000) (a:Nat):call cx 109 [.vptr (qY b h),.int .u64 a] [] = some (.bool (Z6 b.l a),[]):=by
 have Xh:=qt2 b h hl;refine qy Tryz.func109 rfl ⟨rfl,rfl⟩ ?_;simp only [qY] at Xh ⊢;unfold Z6;by_cases h1:a = 0
 ·subst h1;simp [Tryz.f109]
 ·have zg:¬ (a:Int) = 0:=by omega
  simp [Tryz.f109,Xh,h1]
def KY (d:D) (a b:Nat):List D:=[d,.int .u64 (a:Nat),.int .u64 (b:Nat)]
theorem qzm [MaxL] {H:qe} {q:Nat} {d:D} {a b:Nat} {out:List Nat} {L:List Nat} (hq:qf H q = some (KY d a b)) (hr:RowA H 1 d (qK out) L) (hn:q ∉ L) (x:Nat) (hlen:out.length≤1000000) :
  ∃ T,call cx 111 [.optr q 3 0,.int .u64 (x:Nat)] H = some (.int .i64 (if 0 < out.length∧x≤out.getLastD 0 then 13 else 0:Nat),T)∧Ext (q :: L) H T∧((0 < out.length∧x≤out.getLastD 0)→T = H) ∧
   (¬ (0 < out.length∧x≤out.getLastD 0)→∃ d' L',qf T q = some (KY d' a b)∧RowA T 1 d' (qK (out ++ [x])) L'∧q ∉ L'∧NewL (q :: L) (q :: L') H.length):=by
 have jL:=hq;simp only [KY] at jL;obtain ⟨H1,e1⟩:=ql (qs H [.int .u64 (x:Nat)]);have x1:=jD e1;have g1:qf H1 H.length = some [.int .u64 (x:Nat)]:=by rw [← e1,zA]
 have r1:RowA H1 1 d (qK out) L:=hr.ext x1 fun _ _=>by simp
 obtain ⟨d',H2,L2,hA,hR2,x2,n2⟩:=r1.append (P:=Tryz.prog) (st:=96) (xt:=96) (e:=24) (x:=.osl H.length 1 0 1 1) (xs:=[.int .u64 (x:Nat)]) (m:=1) (by simp) (by simp) (by simp [-qf,g1]) (by simp) (by omega) (by simp) (by omega) (by simp [qD];omega) (by simp [qD];omega);have hqq:q < H.length:=qA hq;have kO:qf H1 q = some [d,.int .u64 (a:Nat),.int .u64 (b:Nat)]:=x1.get jL (by simp);have ZA:qf H2 q = some [d,.int .u64 (a:Nat),.int .u64 (b:Nat)]:=x2.get kO hn;obtain ⟨r,n,hv,hlen2,hr2,hL2⟩:=hR2.own (by simp);subst hv;obtain ⟨T,eT⟩:=ql (qn H2 q [.osl r (qK out ++ [D.int .u64 (x:Nat)]).length 0 n 1,.int .u64 (a:Nat),.int .u64 (b:Nat)]);have Vg:r < H2.length:=qA hr2
 have hq_n:q ∉ L2:=fun hc=>by
  rcases n2 q hc with h | h
  ·exact hn h
  ·have:=x1.len;omega
 have hTail:∀ hcall:call cx 111 [.optr q 3 0,.int .u64 (x:Nat)] H = some (.int .i64 0,T),¬ (0 < out.length∧x≤out.getLastD 0)→∃ T,call cx 111 [.optr q 3 0,.int .u64 (x:Nat)] H = some (.int .i64 (if 0 < out.length∧x≤out.getLastD 0 then 13 else 0:Nat),T)∧Ext (q :: L) H T∧((0 < out.length∧x≤out.getLastD 0)→T = H) ∧
   (¬ (0 < out.length∧x≤out.getLastD 0)→∃ d' L',qf T q = some (KY d' a b)∧RowA T 1 d' (qK (out ++ [x])) L'∧q ∉ L'∧NewL (q :: L) (q :: L') H.length):=by
  intro hcall hc;refine ⟨T,by rw [if_neg hc];exact hcall,?_,fun h=>absurd h hc,fun _=>⟨.osl r (qK out ++ [D.int .u64 (x:Nat)]).length 0 n 1,L2,?_,?_,hq_n,?_⟩⟩
  ·refine (x1.mono (M:=q :: L) fun i hi=>by simp at hi).trans (M:=q :: L) ?_ (NewL.refl _ _);refine (x2.mono (M:=q :: L) fun i hi=>Jr _ hi).trans (M:=q :: L) ?_ (NewL.refl _ _);exact (eT ▸ Ext.set H2 q _:Ext [q] H2 T).mono fun i hi=>by rw [List.mem_singleton.1 hi];simp
  ·rw [← eT];exact zG (qA ZA)
  ·rw [qer];exact hR2.ext (eT ▸ Ext.set H2 q _:Ext [q] H2 T) fun i hi hc=>hq_n (List.mem_singleton.1 hc ▸ hi)
  ·intro i hi;rcases List.mem_cons.1 hi with rfl | hi
   ·exact .inl (by simp)
   ·rcases n2 i hi with h | h
    ·exact .inl (by simp [h])
    ·exact .inr (zT x1.len h)
 rcases Nat.eq_zero_or_pos out.length with h0 | h0
 ·have vr:out = []:=List.length_eq_zero_iff.1 h0;subst vr;refine hTail ?_ (by simp);refine vt Tryz.func111 rfl ⟨rfl,rfl⟩ ?_;rcases hr with ⟨rfl,hcs,rfl⟩ | ⟨r',n',rfl,h2,h3,rfl⟩
  ·simp only [qmP,Qu,List.length_singleton] at hA eT;simp [-qf,-qn,-qs,-qT,Tryz.f111,jL,e1,hA,ZA,eT,Vg]
  ·have hz:n' = 0:=(by simp at h2;omega);subst hz;simp only [qmP,Qu,List.length_singleton,kp] at hA eT jL ZA;simp [-qf,-qn,-qs,-qT,Tryz.f111,jL,e1,hA,ZA,eT,Vg]
 ·obtain ⟨r',n',rfl,h2,h3,rfl⟩:=hr.own (by intro h;have h':=congrArg List.length h;rw [Z8,kp] at h';omega);have YB:n' = out.length:=by simp at h2;omega
  subst YB;have c1:(0:Int) < (out.length:Int):=by omega
  have hw:=qx ((out.length:Int) - 1) ((out.length:Int) - 1)
  have JT:(qK out).drop (out.length - 1) = [.int .u64 (out.getLastD 0:Nat)]:=by
   have qg:out.length - 1 < out.length:=(by omega);rw [zU (by simpa using qg),List.drop_of_length_le (by simp;omega)]
   have:out.getLastD 0 = out[out.length - 1]:=by
    rw [List.getLastD_eq_getLast?,List.getLast?_eq_getElem?,zn qg];rfl
   rw [this];simp [qK]
  have c3:(1:Int)≤(out.length:Int)∧(out.length:Int) - 1 < (out.length:Int):=by omega
  simp only [zz,Z8,List.length_singleton] at hA eT jL ZA;have n1:((out.length:Int) - 1).toNat = out.length - 1:=by omega
  have c2:(0:Int)≤(out.length:Int) - 1:=by omega
  by_cases hc:x≤out.getLastD 0
  ·refine ⟨H,?_,Ext.refl _ _,fun _=>rfl,fun h=>absurd ⟨h0,hc⟩ h⟩;rw [if_pos ⟨h0,hc⟩];refine vt Tryz.func111 rfl ⟨rfl,rfl⟩ ?_;have VJ:(x:Int)≤(out.getLastD 0:Nat):=(by omega);generalize out.getLastD 0 = z at *;simp [-qf,-qn,-qs,-qT,Tryz.f111,jL,h3,hw,JT,n1,h0,VJ,c3]
  ·refine hTail ?_ fun h=>hc h.2;refine vt Tryz.func111 rfl ⟨rfl,rfl⟩ ?_;have VJ:¬ (x:Int)≤(out.getLastD 0:Nat):=(by omega);generalize out.getLastD 0 = z at *;simp [-qf,-qn,-qs,-qT,Tryz.f111,jL,h3,hw,JT,n1,h0,VJ,e1,hA,ZA,eT,Vg,c3]
def qeC (b:List UInt8) (sz a:Nat):Nat:=if vK b sz a = 0 then (jP b a).headD 0 else 0
def qdo (b:List UInt8) (sz a:Nat):List Nat:=if vK b sz a = 0 then (jP b a).tail else []
theorem q2M (b:List UInt8) (sz a:Nat):qeD b sz a = .agg [.int .u64 (qeC b sz a:Nat),.vsl (decide (¬ vK b sz a = 0)) (qK (qdo b sz a)) (qdo b sz a).length]:=by
 unfold qeD qeC qdo;by_cases h:vK b sz a = 0
 ·rw [if_pos h,if_pos h,if_pos h];simp [h,qfN]
 ·rw [if_neg h,if_neg h,if_neg h];simp [h]
theorem qxD [MaxL] {H:qe} {q:Nat} {d:D} {a c:Nat} (hq:qf H q = some (KY d a c)) (b:Sl UInt8) (h:HdP) (hl:b.l.length≤1000000) (ha:a < 18446744073709551616) (hac:c < a) :
  ∃ T,call cx 110 [.optr q 3 0,.vptr (qY b h)] H = some (.tup [.vsl (decide (¬ vK b.l h.siz a = 0)) (qK (qdo b.l h.siz a)) (qdo b.l h.siz a).length,.int .i64 (vK b.l h.siz a:Nat)],T)∧qf T q = some (KY d (qeC b.l h.siz a) a)∧Ext [q] H T:=by
 have hv:=qt4 b h hl a ha;rw [q2M] at hv;generalize decide (¬ vK b.l h.siz a = 0) = nl at *;generalize qdo b.l h.siz a = l at *;generalize qeC b.l h.siz a = x at *;generalize vK b.l h.siz a = C at *;have jL:=hq;simp only [KY] at jL;have hac':¬ (a:Int)≤(c:Int):=by omega
 obtain ⟨p,hp⟩:=ql (H.length);obtain ⟨H0,e0⟩:=ql (qs H [.int .u64 0,.vsl true [] 0]);have x0:=jD e0;have hq0:=x0.get jL (by simp);have hp0:qf H0 p = some [.int .u64 0,.vsl true [] 0]:=by rw [← e0,← hp,zA]
 obtain ⟨H1,e1⟩:=ql (qn H0 p [.int .u64 (x:Nat),.vsl nl (qK l) l.length]);have hqp0:q < p:=hp ▸ qA hq;have x1:Ext [] H H1:=⟨by rw [← e1,Qo];exact x0.len,fun i hi _=>by rw [← e1,zN (by omega)];exact x0.out i hi (by simp)⟩;have kO:=x1.get jL (by simp);have ku:qf H1 p = some [.int .u64 (x:Nat),.vsl nl (qK l) l.length]:=by rw [← e1];exact zG (qA hp0)
 obtain ⟨H2,e2⟩:=ql (qn H1 q [d,.int .u64 (x:Nat),.int .u64 (c:Nat)]);have hqp:q < p:=hp ▸ qA hq;have ZA:=Qx e2 kO;have ZB:qf H2 p = some [.int .u64 (x:Nat),.vsl nl (qK l) l.length]:=by rw [← e2,zN (by omega)];exact ku
 obtain ⟨T,eT⟩:=ql (qn H2 q [d,.int .u64 (x:Nat),.int .u64 (a:Nat)]);have hpT:qf T p = some [.int .u64 (x:Nat),.vsl nl (qK l) l.length]:=by rw [← eT,zN (by omega)];exact ZB
 refine ⟨T,vt Tryz.func110 rfl ⟨rfl,rfl⟩ ?_,?_,?_⟩
 ·simp only [qY] at hv ⊢;simp [-qf,-qn,-qs,Tryz.f110,jL,hac',hv,hp,e0,hp0,e1,kO,ku,e2,ZA,eT,hpT]
 ·rw [← eT];exact zG (qA ZA)
 ·refine (x1.mono (M:=[q]) fun i hi=>by simp at hi).trans (M:=[q]) ?_ (NewL.refl _ _);exact (e2 ▸ Ext.set H1 q _:Ext [q] H1 H2).trans (eT ▸ Ext.set H2 q _:Ext [q] H2 T) (NewL.refl _ _)
def Z7 (l:List Nat):D:=.vsl (decide (l = [])) (qK l) l.length
def Vr (b:List UInt8) (h:HdP):List Nat × Nat:=XZ b h.siz h.ents (b.length+1) [] h.arr 0
theorem qzM (h:HdP):(Enc.cells h).drop 78 = .int .u64 (h.arr:Nat) :: (Enc.cells h).drop 79:=h.dn (i:=11) (by omega)
theorem qzL (h:HdP):(Enc.cells h).drop 75 = .int .u64 (h.ents:Nat) :: (Enc.cells h).drop 76:=h.dn (i:=8) (by omega)
theorem qeB {l r:List D} {i:Nat} {x:D} (h:l.drop i = x :: r) (hi:i < l.length):l[i] = x:=by
 have:=congrArg (fun l=>l[0]?) h;simp only [Qv,Nat.add_zero,Z1] at this;exact (List.getElem?_eq_some_iff.1 this).2
structure LstI (b:List UInt8) (H:qe) (out:List Nat) (a c:Nat):Prop where
 ex:∃ d L,qf H 0 = some (KY d a c)∧RowA H 1 d (qK out) L∧0 ∉ L∧(out = []→d = .vsl true [] 0)
 len:out.length≤out.getLastD 0
 last:out.getLastD 0≤b.length
theorem qes {H:qe} {d:D} {L:List Nat} {out:List Nat} (hrow:RowA H 1 d (qK out) L) (qU:out = []→d = .vsl true [] 0) (C:Int):jE true 0 H (.tup [d,.int .i64 C]) = some (.tup [Z7 out,.int .i64 C],[]):=by
 by_cases h0:out = []
 ·rw [qU h0,h0];simp [Z7,jE,KX]
 ·obtain ⟨r,n,rfl,h2,h3,rfl⟩:=hrow.own (by intro h;have h':=congrArg List.length h;rw [Z8,kp] at h';exact h0 (List.length_eq_zero_iff.1 h'));have:n = out.length:=by rw [Z8] at h2;omega
  subst this;simp [-qf,Z7,jE,KX,h3,h0]
set_option maxHeartbeats 2000000 in
set_option maxRecDepth 8000 in
theorem q1m [MaxL] (b:Sl UInt8) (h:HdP) (hl:b.l.length≤1000000) (he:h.ents < 18446744073709551616) (ha:h.arr < 18446744073709551616) :
  call cx 73 [.vptr (qY b h)] [] = some (.tup [Z7 (Vr b.l h).1,.int .i64 ((Vr b.l h).2:Nat)],[]):=by
 have hhd:=qtz b h;have jo:=qwY b h hl;obtain ⟨R,hR⟩:=ql (Vr b.l h);obtain ⟨most,hm⟩:=ql (h.ents);rw [hR];refine qy Tryz.func73 rfl ⟨rfl,rfl⟩ ?_;have h1:=qeB (qzM h) (by simp);have h2:=qeB (qzL h) (by simp);rw [hm] at h2 he;have hR0:XZ b.l h.siz most (b.l.length+1) [] h.arr 0 = R:=by rw [← hm];exact hR
 obtain ⟨V,hV⟩:=ql (qY b h);rw [hV] at hhd jo ⊢;have harr:=fun {H:qe} {q:Nat} {d:D} {a c:Nat} (hq:qf H q = some (KY d a c))=>qxD hq b h hl;rw [hV] at harr;simp [Tryz.f73,hhd,h1,h2];refine Run.loopThen (fun (n:Nat) e H=>∃ (out:List Nat) (a c:Nat),LstI b.l H out a c∧a < 18446744073709551616∧c≤b.l.length∧b.l.length < n+c∧XZ b.l h.siz most n out a c = R∧qi e 0 = some (.vptr V)∧qi e 4 = some (.int .u64 (most:Nat))∧qi e 5 = some (.optr 0 3 0)) (fun n=>n) (b.l.length+1) ?_ ?_
 ·refine ⟨[],h.arr,0,⟨⟨.vsl true [] 0,[],?_,RowA.nil _ _,by simp,fun _=>rfl⟩,by simp,by simp⟩,ha,by omega,by omega,hR0,?_⟩
  ·simp [KY,qf]
  ·simp
 rintro n e H ⟨out,a,c,hI,J6,zq,hfu,hE,k0,k4,k5⟩;obtain ⟨d,L,hq,hrow,hnL,qU⟩:=hI.ex;have J3:=hq;simp only [KY] at J3;have Xg:out.length≤b.l.length:=zT hI.len hI.last
 have jp:zf Tryz.prog 96 d = some (.int .i64 out.length):=by
  rcases hrow with ⟨rfl,hcs,rfl⟩ | ⟨r,n,rfl,h2,h3,rfl⟩
  ·have:out.length = 0:=(by have:=congrArg List.length hcs;rw [Z8] at this;exact this);rw [this];simp
  ·have:n = out.length:=(by rw [Z8] at h2;omega);subst this;simp
 have jR:=qN (out.length:Int) (out.length:Int);obtain ⟨n,rfl⟩:∃ m,n = m+1:=⟨n - 1,by omega⟩;rw [XZ] at hE;have J4:=qes hrow qU;by_cases c1:most≤out.length
 ·rw [if_pos c1] at hE;have c1':¬ (out.length:Int) < (most:Int):=by omega
  subst hE;simp [-qf,-zf,k0,k4,k5,J3,jp,jR,c1',-jE];exact J4 _
 rw [if_neg c1] at hE;have c1':(out.length:Int) < (most:Int):=by omega
 have kP:=jo a;by_cases c2:Z6 b.l a = true
 ·rw [if_pos c2] at hE;rw [c2] at kP;subst hE;simp [-qf,-zf,k0,k4,k5,J3,jp,jR,c1',kP,-jE];exact J4 _
 rw [if_neg c2] at hE;have c2':Z6 b.l a = false:=by simpa using c2
 rw [c2'] at kP;by_cases c3:a≤c
 ·rw [if_pos c3] at hE;subst hE;have c3':(a:Int)≤(c:Int):=by omega
  have J6:call cx 110 [.optr 0 3 0,.vptr V] H = some (.tup [.vsl true [] 0,.int .i64 12],H):=by
   refine vt Tryz.func110 rfl ⟨rfl,rfl⟩ ?_;simp [-qf,Tryz.f110,J3,c3']
  simp [-qf,-zf,k0,k4,k5,J3,jp,jR,c1',kP,J6,-jE];exact J4 _
 rw [if_neg c3] at hE;obtain ⟨T,hla2,hqT,xT⟩:=harr hq J6 (by omega);have hqT':=hqT;simp only [KY] at hqT';have hrT:RowA T 1 d (qK out) L:=hrow.ext xT fun i hi hc=>hnL (List.mem_singleton.1 hc ▸ hi);have hpk2:=qes hrT qU;by_cases c4:vK b.l h.siz a≠0
 ·rw [if_pos c4] at hE;have c4':(((vK b.l h.siz a:Nat):Int) != 0) = true:=kr;subst hE;generalize vK b.l h.siz a = C at *;generalize decide (¬ C = 0) = nl at *;simp [-qf,-zf,k0,k4,k5,J3,jp,jR,c1',kP,hla2,c4',hqT',-jE];exact hpk2 _
 rw [if_neg c4] at hE;have c4':vK b.l h.siz a = 0:=by omega
 have hx:qeC b.l h.siz a = (jP b.l a).headD 0:=by unfold qeC;rw [if_pos c4']
 have hL:qdo b.l h.siz a = (jP b.l a).tail:=by unfold qdo;rw [if_pos c4']
 have zF:decide (¬ vK b.l h.siz a = 0) = false:=by simp [c4']
 rw [hL,zF,c4'] at hla2;rw [hx] at hqT
 have XC:(jP b.l a).headD 0 < 18446744073709551616:=by
  cases hh:jP b.l a with
  | nil=>simp
  | cons y r=>exact qg4 (l:=qB b.l a) (by show y∈jP b.l a;rw [hh];simp)
 have XO:∀ y,y∈(jP b.l a).tail→y < 18446744073709551616:=fun y hy=>qg4 (l:=qB b.l a) (List.mem_of_mem_tail hy);obtain ⟨x,hxx⟩:=ql ((jP b.l a).headD 0);obtain ⟨l,Ky⟩:=ql ((jP b.l a).tail);obtain ⟨IR,hIR⟩:=ql (Vd b.l most l out);rw [hxx] at hqT XC hE;rw [Ky] at hla2 XO hE;rw [hIR] at hE;have hla3:call cx 110 [.optr 0 3 0,.vptr V] H = some (.tup [.vsl false (qK l) l.length,.int .i64 0],T):=hla2
 have QC:a < b.l.length:=by
  unfold Z6 at c2';simp at c2';omega
 have hlen:l.length≤1000000:=by
  have h0:(jP b.l a).length≤1000000:=by
   unfold jP;rw [qan];have:(qB b.l a).length≤b.l.length:=(by unfold qB;simp;omega);omega
  rw [← Ky,List.length_tail];omega
 have Vk:zf Tryz.prog 96 (.vsl false (qK l) l.length) = some (.int .i64 l.length):=by simp
 simp [-qf,-zf,k0,k4,k5,J3,jp,Vk,jR,c1',kP,hla3,-jE];refine Run.loopThen (fun (k:Nat) e H=>∃ (out:List Nat),LstI b.l H out x a∧k≤l.length∧Vd b.l most (l.drop k) out = IR∧qi e 0 = some (.vptr V)∧qi e 4 = some (.int .u64 (most:Nat))∧qi e 5 = some (.optr 0 3 0)∧qi e 40 = some (.vsl false (qK l) l.length)∧qi e 41 = some (.int .i64 l.length)∧qi e 42 = some (.int .i64 k)) (fun k=>l.length - k) 0 ?_ ?_
 ·refine ⟨out,⟨⟨d,L,hqT,hrT,hnL,qU⟩,hI.len,hI.last⟩,by omega,hIR,?_⟩;simp
 clear hq hrow hnL qU J3 jp jR Xg c1' hI kP hla2 hla3 hqT hqT' hrT J4 hpk2 xT k0 k4 k5 c1;rintro k e H ⟨out',hI,hk,hD,k0,k4,k5,k40,k41,k42⟩;obtain ⟨d,L,hq,hrow,hnL,qU⟩:=hI.ex;have J3:=hq;simp only [KY] at J3;have Xg:out'.length≤b.l.length:=zT hI.len hI.last
 have jp:zf Tryz.prog 96 d = some (.int .i64 out'.length):=by
  rcases hrow with ⟨rfl,hcs,rfl⟩ | ⟨r,n,rfl,h2,h3,rfl⟩
  ·have:out'.length = 0:=(by have:=congrArg List.length hcs;rw [Z8] at this;exact this);rw [this];simp
  ·have:n = out'.length:=(by rw [Z8] at h2;omega);subst this;simp
 have jR:=qN (out'.length:Int) (out'.length:Int);have J4:=qes hrow qU;by_cases qg:k < l.length
 rotate_left
 ·have qo:=zL qg;rw [Js (by omega),Vd] at hD;subst hD;simp [-qf,-zf,k0,k4,k5,k40,k41,k42,qo,-jE];exact ⟨n,by omega,out',x,a,hI,XC,by omega,by omega,hE⟩
 have qo:=zI qg
 have qI:(qK l).drop k = .int .u64 (l[k]:Nat) :: qK (l.drop (k+1)):=by
  unfold qK;rw [← List.map_drop,zU qg];rfl
 have jb:=qx ((k:Int)+1) ((k+1:Nat):Int);have j6:=XO _ (v6 qg);rw [zU qg,Vd] at hD;generalize l[k] = y at *;have kP:=jo y;by_cases d1:out'.length = most
 ·rw [if_pos d1] at hD;subst hD;subst d1;simp [-qf,-zf,k0,k4,k5,k40,k41,k42,qo,qI,J3,jp,jR,-jE];exact ⟨n,by omega,out',x,a,hI,XC,by omega,by omega,hE⟩
 rw [if_neg d1] at hD;have d1':¬ (out'.length:Int) = (most:Int):=by omega
 by_cases d2:Z6 b.l y = true
 ·rw [if_pos d2] at hD;rw [d2] at kP;subst hD;subst hE;simp [-qf,-zf,k0,k4,k5,k40,k41,k42,qo,qI,J3,jp,jR,d1',kP,-jE];exact J4 _
 rw [if_neg d2] at hD;have d2':Z6 b.l y = false:=by simpa using d2
 rw [d2'] at kP;obtain ⟨T2,hit,xT2,hTE,hTT⟩:=qzm hq hrow hnL y (by omega);by_cases d3:0 < out'.length∧y≤out'.getLastD 0
 ·rw [if_pos d3] at hD hit;subst hD;subst hE;have hTE:=hTE d3;subst hTE;simp [-qf,-zf,k0,k4,k5,k40,k41,k42,qo,qI,J3,jp,jR,d1',kP,hit,-jE];exact J4 _
 ·rw [if_neg d3] at hD hit;obtain ⟨d',L',jL,hr2,zX,hnw⟩:=hTT d3
  have hy:1≤y∧y < b.l.length:=by
   unfold Z6 at d2';simp at d2';omega
  have Jc:(out' ++ [y]).getLastD 0 = y:=by simp
  have hI2:LstI b.l T2 (out' ++ [y]) x a:=⟨⟨d',L',jL,hr2,zX,by simp⟩,by rw [Jc,zz,List.length_singleton];have:=hI.len;omega,by rw [Jc];omega⟩;simp [-qf,-zf,k0,k4,k5,k40,k41,k42,qo,qI,J3,jp,jR,d1',kP,hit,jb,-jE];exact ⟨k+1,by omega,out' ++ [y],hI2,by omega,hD,by omega⟩
theorem qhe [MaxL] (b:Sl UInt8) (hl:b.l.length≤1000000) (a:Nat) (ha:a+4≤b.l.length) {x:Int} (hx:x = a):call cx 207 [.int .i64 x,.vptr [(.vsl b.nil (qd b.l) b.l.length)]] [] = some (.int .u32 (vS b.l a:Nat),[]):=by
 have hg:=qx9 b a ha (by omega) hx;refine qy Tryz.func207 rfl ⟨rfl,rfl⟩ ?_;have:=qec b.l a;have hw:=Yj (vS b.l a:Int) (vS b.l a:Int);simp [Tryz.f207,hg,hw]
def qaC (b:List UInt8):List D:=[.int .u32 (vS b 8:Nat),.int .u32 (vS b 12:Nat),.int .i64 ((b.getD 16 0).toNat:Nat)]
def QN (b:List UInt8) (k:Nat):List D:=(qaC b ++ qd ((b.drop 24).take (16 * k))) ++ (qd (List.replicate (64 - 16 * k) 0) ++ (List.replicate 21 (.int .u64 0) ++ [.int .u32 0,.int .u32 0,.int .u64 0]))
theorem qrb (b:List UInt8) (hb:272≤b.length) {k:Nat} (hk:k≤4):(QN b k).length = 91:=by
 simp [QN,qaC];omega
def hdIds:List D:=[.optr 2 91 3,.optr 2 91 19,.optr 2 91 35,.optr 2 91 51]
def hdNums:List D:=(List.range 21).map fun i=>.optr 2 91 (67+i)
def jY (b:List UInt8) (k:Nat):List D:=(qaC b ++ qd ((b.drop 24).take 64) ++ (qJ .u64 ((List.range k).map fun i=>qC b (88+8 * i)))) ++ (List.replicate (21 - k) (.int .u64 0) ++ [.int .u32 0,.int .u32 0,.int .u64 0])
theorem qzE [MaxL] {H:qe} {q:Nat} {C:List D} (hq:qf H q = some C) (_:C.length = 91):call cx 209 [.optr q 91 0] H = some (.osl H.length 4 0 4 1,qs H [.optr q 91 3,.optr q 91 19,.optr q 91 35,.optr q 91 51]):=by
 refine vt Tryz.func209 rfl ⟨rfl,rfl⟩ ?_;have qg:=qA hq;have qQ:¬ H = []:=by intro h;rw [h] at qg;simp at qg
 simp [-qf,-qs,Tryz.f209,qQ]
set_option maxHeartbeats 2000000 in
set_option maxRecDepth 8000 in
theorem qzD [MaxL] {H:qe} {q:Nat} {C:List D} (hq:qf H q = some C) (_:C.length = 91):call cx 210 [.optr q 91 0] H = some (.osl H.length 21 0 21 1,qs H ((List.range 21).map fun i=>.optr q 91 (67+i))):=by
 refine vt Tryz.func210 rfl ⟨rfl,rfl⟩ ?_;have qg:=qA hq;have qQ:¬ H = []:=by intro h;rw [h] at qg;simp at qg
 have hL:((List.range 21).map fun i=>D.optr q 91 (67+i)) = [.optr q 91 67,.optr q 91 68,.optr q 91 69,.optr q 91 70,.optr q 91 71,.optr q 91 72,.optr q 91 73,.optr q 91 74,.optr q 91 75,.optr q 91 76,.optr q 91 77,.optr q 91 78,.optr q 91 79,.optr q 91 80,.optr q 91 81,.optr q 91 82,.optr q 91 83,.optr q 91 84,.optr q 91 85,.optr q 91 86,.optr q 91 87]:=rfl;rw [hL];simp [-qf,-qs,Tryz.f210,qQ]
def qj3:List D:=.int .u32 0 :: .int .u32 0 :: .int .i64 0 :: (qd (List.replicate 64 0) ++ (List.replicate 21 (.int .u64 0) ++ [.int .u32 0,.int .u32 0,.int .u64 0]))
theorem qzS {k:Nat} (h:k < 4):hdIds.drop k = .optr 2 91 (3+16 * k) :: hdIds.drop (k+1):=by
 match k,h with
 | 0,_=>rfl
 | 1,_=>rfl
 | 2,_=>rfl
 | 3,_=>rfl
theorem qzR {k:Nat} (h:k < 21):hdNums.drop k = .optr 2 91 (67+k) :: hdNums.drop (k+1):=by
 unfold hdNums;rw [← List.map_drop,zU (by simpa using h)];simp
theorem qeW {A B C B':List D} {n:Nat} (hA:A.length = n) (h:B.length = B'.length):zM (A ++ (B ++ C)) n B' = A ++ (B' ++ C):=by
 subst hA;unfold zM;rw [List.take_left' rfl,vX,vX];rw [List.drop_of_length_le (by omega),List.drop_of_length_le (show B.length≤A.length+B'.length - A.length by omega),Qu,Qu,show A.length+B'.length - A.length - B.length = 0 by omega,List.drop_zero,Qj]
theorem qzZ (b:List UInt8) (hb:272≤b.length) {k:Nat} (hk:k < 4):zM (QN b k) (3+16 * k) (qd ((b.drop (24+16 * k)).take 16)) = QN b (k+1):=by
 have e1:qd (List.replicate (64 - 16 * k) 0) = qd (List.replicate 16 0) ++ qd (List.replicate (64 - 16 * (k+1)) 0):=by
  rw [← qct,List.replicate_append_replicate];congr 2;omega
 have e2:qd ((b.drop 24).take (16 * (k+1))) = qd ((b.drop 24).take (16 * k)) ++ qd ((b.drop (24+16 * k)).take 16):=by
  rw [← qct,← jV];congr 1;rw [show 16 * (k+1) = 16 * k+16 by omega,List.take_add]
 unfold QN;rw [e1,e2,Qj (qd (List.replicate 16 0)),qeW]
 ·simp only [Qj]
 ·simp [qaC];omega
 ·simp;omega
theorem qzX (b:List UInt8) (hb:272≤b.length) {k:Nat} (hk:k≤21):(jY b k).length = 91:=by
 simp [jY,qaC];omega
theorem q0a (b:List UInt8):QN b 4 = jY b 0:=by
 simp [QN,jY,qJ,qd]
theorem qzW (b:List UInt8) (hb:272≤b.length) {k:Nat} (hk:k < 21):zM (jY b k) (67+k) [.int .u64 (qC b (88+8 * k):Nat)] = jY b (k+1):=by
 have e1:List.replicate (21 - k) (D.int .u64 0) = [D.int .u64 0] ++ List.replicate (21 - (k+1)) (D.int .u64 0):=by
  rw [show 21 - k = (21 - (k+1))+1 by omega,KM];rfl
 have e2:qJ .u64 ((List.range (k+1)).map fun i=>qC b (88+8 * i)) = qJ .u64 ((List.range k).map fun i=>qC b (88+8 * i)) ++ [.int .u64 (qC b (88+8 * k):Nat)]:=by
  rw [List.range_succ,List.map_append,qg7];rfl
 unfold jY;rw [e1,e2,Qj [D.int .u64 0],qeW]
 ·simp only [Qj]
 ·simp [qaC];omega
 ·rfl
theorem qzY (b:List UInt8) (hb:272≤b.length):∃ PP,jY b 21 = PP ++ [.int .u32 0,.int .u32 0,.int .u64 0]∧PP.length = 88∧Enc.cells (qG b) = PP ++ [.int .u32 (vS b 256:Nat),.int .u32 (vS b 260:Nat),.int .u64 (qC b 264:Nat)]:=by
 refine ⟨qaC b ++ qd ((b.drop 24).take 64) ++ (qJ .u64 ((List.range 21).map fun i=>qC b (88+8 * i))),by simp [jY],by simp [qaC];omega,?_⟩
 have e:qd ((b.drop 24).take 64) = qd (qG b).file.l ++ (qd (qG b).machine.l ++ (qd (qG b).boot.l ++ qd (qG b).seq.l)):=by
  simp only [qG];rw [qdJ (by omega),qdJ (by omega),qdJ (by omega),qdJ (by omega),← qct,← qct,← qct];congr 1;rw [show (64:Nat) = 16+(16+(16+16)) by rfl,List.take_add,List.take_add,List.take_add];simp only [jV]
 rw [e,HdP.cells];simp only [qaC,Qj,Qw,Qu];rfl
set_option maxHeartbeats 4000000 in
set_option maxRecDepth 8000 in
theorem qwk [MaxL] (b:Sl UInt8) (hl:b.l.length≤1000000) (hb:272≤b.l.length):call cx 162 [(.vsl b.nil (qd b.l) b.l.length)] [] = some (.agg (Enc.cells (qG b.l)),[]):=by
 have h8:=qhe b hl 8 (by omega) (x:=8) rfl;have vG:=qhe b hl 12 (by omega) (x:=12) rfl;have qU:b.nil = false:=Sl.nn (i:=0) (by omega);rw [qU] at h8 vG;refine qy Tryz.func162 rfl ⟨rfl,rfl⟩ ?_;have q1:(16:Int) < (b.l.length:Int):=by omega
 have Ji:16 < b.l.length:=by omega
 have o1:=vq Ji;have hw16:IntKind.i64.wrap ((b.l[16]).toNat:Int) = ((b.l[16]).toNat:Int):=by have:=b.l[16].toNat_lt;rw [wrap_i64];omega
 simp [Tryz.f162,qU,q1,o1,h8,vG,hw16];rw [qzE rfl rfl];simp;refine Run.loopThen (fun (k:Nat) e H=>k≤4∧(∃ Z:List D,Z.length = 91∧H = [some [(.vsl b.nil (qd b.l) b.l.length)],some Z,some (QN b.l k),some hdIds])∧qi e 1 = some (.optr 0 1 0)∧qi e 2 = some (.optr 1 91 0)∧qi e 3 = some (.optr 2 91 0)∧qi e 4 = some (.fn 207 [.optr 0 1 0])∧qi e 5 = some (.int .i64 (24+16 * (k:Int)))∧qi e 22 = some (.osl 3 4 0 4 1)∧qi e 23 = some (.int .i64 4)∧qi e 24 = some (.int .i64 k)) (fun k=>4 - k) 0 ?_ ?_
 ·refine ⟨by omega,⟨qj3,by simp [qj3],?_⟩,?_⟩
  ·simp [qU,qj3,QN,qaC,hdIds,qd,List.replicate,Ji]
  ·simp
 rintro k e H ⟨hk,⟨Z,hZ,rfl⟩,k1,k2,k3,k4,k5,k22,k23,k24⟩;by_cases qg:k < 4
 ·have qo:(k:Int) < 4:=by omega
  have hd:=qzS qg;have Kv:=qzZ b.l hb qg;have hlen:=qrb b.l hb (k:=k) (by omega);have jb:=qx ((k:Int)+1) ((k+1:Nat):Int);have J8:hdIds.length = 4:=rfl;have c1:3+16 * k≤75:=by omega
  have c2:(0:Int)≤24+16 * (k:Int)∧24+16 * (k:Int)≤(b.l.length:Int):=by omega
  have n2:(24+16 * (k:Int)).toNat = 24+16 * k:=by omega
  simp [k1,k2,k3,k4,k5,k22,k23,k24,qo,hd,J8,qU,hlen,c1,c2,n2];have qa0:min (b.l.length - (24+16 * k)) 16 = 16:=by omega
  have hlen16:(qd ((b.l.drop (24+16 * k)).take 16)).length = 16:=by simp;omega
  unfold zM at Kv;rw [hlen16] at Kv
  have jc:List.take 16 (List.take (b.l.length - (24+16 * k)) (List.drop (24+16 * k) (qd b.l))) = qd ((b.l.drop (24+16 * k)).take 16):=by
   rw [List.take_take,Nat.min_eq_left (by omega)];simp [qd,List.map_take,List.map_drop]
  rw [qa0,jc];have qZ:=qx (24+16 * (k:Int)+((16:Nat):Int)) (24+16 * ((k+1:Nat):Int));exact ⟨k+1,by omega,by omega,⟨Z,hZ,rfl,by simpa only [Qj] using Kv⟩,qZ,jb⟩
 ·have qo:¬ (k:Int) < 4:=by omega
  have hk4:k = 4:=by omega
  subst hk4;simp [k1,k2,k3,k4,k5,k22,k23,k24,qU];rw [qzD (C:=QN b.l 4) rfl (qrb b.l hb (by omega)),q0a b.l];simp;clear k1 k2 k3 k4 k5 k22 k23 k24 qo qg hk;refine Run.loopThen (fun (k:Nat) e H=>k≤21∧H = [some [(.vsl b.nil (qd b.l) b.l.length)],some Z,some (jY b.l k),some hdIds,some hdNums]∧qi e 1 = some (.optr 0 1 0)∧qi e 2 = some (.optr 1 91 0)∧qi e 3 = some (.optr 2 91 0)∧qi e 4 = some (.fn 207 [.optr 0 1 0])∧qi e 5 = some (.int .i64 (88+8 * (k:Int)))∧qi e 38 = some (.osl 4 21 0 21 1)∧qi e 39 = some (.int .i64 21)∧qi e 40 = some (.int .i64 k)) (fun k=>21 - k) 0 ?_ ?_
  ·refine ⟨by omega,?_,?_⟩
   ·rw [qU];rfl
   ·simp
  rintro k e H ⟨hk,rfl,k1,k2,k3,k4,k5,k38,k39,k40⟩;by_cases qg:k < 21
  ·have qo:(k:Int) < 21:=(by omega);have hd:=qzR qg;have J8:hdNums.length = 21:=rfl;have Kv:=qzW b.l hb qg;have hlen:=qzX b.l hb (k:=k) (by omega);have jb:=qx ((k:Int)+1) ((k+1:Nat):Int);have qZ:=qx (88+8 * (k:Int)+8) (88+8 * ((k+1:Nat):Int));have hg:=qbt b (88+8 * k) (by omega) (by omega) (x:=88+8 * (k:Int)) (by omega);have jn:67+k+1≤91:=(by omega);rw [qU] at hg;simp [k1,k2,k3,k4,k5,k38,k39,k40,qo,hd,J8,qU,hlen,hg,jb,qZ,jn];unfold zM at Kv;exact ⟨k+1,by omega,by omega,by simpa only [Qj,Qw,Qu,List.length_singleton] using Kv,by omega,by omega⟩
  ·have qo:¬ (k:Int) < 21:=(by omega);have hk21:k = 21:=(by omega);subst hk21;obtain ⟨PP,hP,hPl,hPe⟩:=qzY b.l hb;rw [hP];have h4:=qhe b hl 256 (by omega) (x:=256) rfl;have h5:=qhe b hl 260 (by omega) (x:=260) rfl;have hg:=qbt b 264 (by omega) (by omega) (x:=264) rfl;rw [qU] at h4 h5 hg;simp [k1,k2,k3,k4,k5,k38,k39,k40,qU,hPl,h4,h5,hg,ZK,vX,List.drop_of_length_le,qP,hZ,hPe];have hfr:=Enc.free (qG b.l);rw [hPe,List.all_append,jk] at hfr;have hPi:=Xy hfr.1;have hPc:=KR hfr.1;have hPL:=Z3 hfr.1;simp [hPc,hPL,hPl,qP]
theorem q1o (b:List UInt8) (a:Nat):kC b a = if jr b a 3≠0 then jr b a 3 else if (qB b a).length < 64∨(qB b a).length % 16≠0 then 5 else if qC (qB b a) 0 = 0 then 13 else if Kk (jG (qB b a)) then 0 else 11:=by
 unfold kC vD;by_cases h0:jq b a≠0
 ·have h:jr b a 3 = jq b a:=by unfold jr;rw [if_pos h0]
  rw [if_pos h0,h,if_pos h0,if_pos h0]
 rw [if_neg h0];by_cases h1:ZG b a≠3
 ·have h:jr b a 3 = 4:=by unfold jr;rw [if_neg h0,if_pos h1]
  rw [if_pos h1,h,if_pos (by omega),if_pos (by omega)]
 have h:jr b a 3 = 0:=by unfold jr;rw [if_neg h0,if_neg h1]
 obtain ⟨q1,q2,q3,q4,q5⟩:=qek h;rw [if_neg h1,h,if_neg (show ¬ (0:Nat)≠0 by omega),q3];by_cases h2:vz b a≤16+48∨(vz b a - (16+48)) % 16≠0
 ·rw [if_pos h2,if_pos (by omega),if_pos (by omega)]
 ·rw [if_neg h2,if_neg (show ¬ (0:Nat)≠0 by omega),if_neg (show ¬ (vz b a - 16 < 64∨(vz b a - 16) % 16≠0) by omega)]
def YU (x:List UInt8) (k:Nat) (d:D):List D:=([.int .u64 (qC x 0:Nat),.int .u64 (qC x 8:Nat),.int .u64 (qC x 16:Nat)] ++ qd ((x.drop 24).take k)) ++ (qd (List.replicate (16 - k) 0) ++ [.int .u64 (qC x 40:Nat),d])
theorem q2E (x:List UInt8) {k:Nat} (d:D) (h:40≤x.length) (hk:k≤16):(YU x k d).length = 21:=by
 simp [YU];omega
theorem q2D {x:List UInt8} {k:Nat} (d:D) (hk:k < 16) (h:24+k < x.length):zM (YU x k d) (3+k) [.int .u8 (x[24+k].toNat:Nat)] = YU x (k+1) d:=by
 have ht:qd ((x.drop 24).take (k+1)) = qd ((x.drop 24).take k) ++ [.int .u8 (x[24+k].toNat:Nat)]:=by
  rw [VV (by rw [vQ];omega),List.getElem_drop,qct];rfl
 have hr:qd (List.replicate (16 - k) (0:UInt8)) = [.int .u8 0] ++ qd (List.replicate (16 - (k+1)) 0):=by
  rw [show 16 - k = (16 - (k+1))+1 by omega,KM];rfl
 unfold YU;rw [ht,hr,Qj [D.int .u8 0],qeW]
 ·simp only [Qj]
 ·simp;omega
 ·rfl
theorem q2F (x:List UInt8) (d:D):YU x 16 d = qaM x d:=by simp [YU,qaM]
set_option maxHeartbeats 4000000 in
set_option maxRecDepth 8000 in
theorem qvK [MaxL] [TxtC] (s:Sl UInt8) (hl:s.l.length≤1000000) (a:Nat) (ha:a < 18446744073709551616):call cx 218 [(.vsl s.nil (qd s.l) s.l.length),.int .u64 a] [] = some (.tup [qdP s.l a,.int .i64 (kC s.l a:Nat)],[]):=by
 have vO:call cx 217 [(.vsl s.nil (qd s.l) s.l.length),.int .u64 a,.int .i64 3] [] = some (.tup [if jr s.l a 3 = 0 then .vsl false (qd (qB s.l a)) (qB s.l a).length else .vsl true [] 0,.int .i64 (jr s.l a 3:Nat)],[]):=qiH s hl a ha 3;have hC:=q1o s.l a;refine qy Tryz.func218 rfl ⟨rfl,rfl⟩ ?_;unfold qdP;by_cases h0:jr s.l a 3≠0
 ·rw [if_pos h0] at hC;rw [hC,if_neg h0];rw [if_neg h0] at vO;have qM:(((jr s.l a 3:Nat):Int) != 0) = true:=kr;generalize jr s.l a 3 = c at *;simp [Tryz.f218,vO,qM,vI]
 have qM:jr s.l a 3 = 0:=by omega
 obtain ⟨q1,q2,q3,q4,q5⟩:=qek qM;rw [if_neg h0] at hC;rw [if_pos qM,qM] at vO;have hpl:(qB s.l a).length≤1000000:=by omega
 obtain ⟨p,hp⟩:=ql (qB s.l a);rw [hp] at vO hC hpl ⊢;have hrem:IntKind.i64.wrap ((p.length:Int).tmod 16) = ((p.length % 16:Nat):Int):=by rw [show (p.length:Int).tmod 16 = ((p.length % 16:Nat):Int) from rfl,wrap_i64];omega
 by_cases h1:p.length < 64
 ·rw [if_pos (.inl h1)] at hC;have zg:(p.length:Int) < 64:=by omega
  rw [hC];simp [Tryz.f218,vO,zg,vI]
 have zg:¬ (p.length:Int) < 64:=by omega
 by_cases h2:p.length % 16≠0
 ·rw [if_pos (.inr h2)] at hC;have zH:((p.length:Int).tmod 16 != 0) = true:=by rw [show (p.length:Int).tmod 16 = ((p.length % 16:Nat):Int) from rfl];simp only [bne_iff_ne,ne_eq];omega
  rw [hC];simp [Tryz.f218,vO,zg,zH,vI]
 have zH:((p.length:Int).tmod 16 != 0) = false:=by rw [show (p.length:Int).tmod 16 = ((p.length % 16:Nat):Int) from rfl];simp only [bne_eq_false_iff_eq];omega
 rw [if_neg (by omega)] at hC;have u0:=Kj (Sl.mk false p (by simp)) 0 (by simp only;omega) hpl (x:=0) rfl;have u1:=Kj (Sl.mk false p (by simp)) 8 (by simp only;omega) hpl (x:=8) rfl;have u2:=Kj (Sl.mk false p (by simp)) 16 (by simp only;omega) hpl (x:=16) rfl;have u5:=Kj (Sl.mk false p (by simp)) 40 (by simp only;omega) hpl (x:=40) rfl;simp only at u0 u1 u2 u5;have XT:∀ d,YU p 0 d = .int .u64 (qC p 0:Nat) :: .int .u64 (qC p 8:Nat) :: .int .u64 (qC p 16:Nat) :: ((qO []) ++ [.int .u64 (qC p 40:Nat),d]):=fun d=>by simp [YU,qd,List.replicate]
 by_cases h3:qC p 0 = 0
 ·rw [if_pos h3] at hC;rw [hC];rw [h3] at u0;generalize qC p 8 = x1 at *;generalize qC p 16 = x2 at *;generalize qC p 40 = x5 at *;simp [Tryz.f218,vO,zg,zH,u0,u1,u2,u5,vI]
 have vl:¬ (qC p 0:Int) = 0:=by omega
 rw [if_neg h3] at hC;obtain ⟨R,hR⟩:=ql (kC s.l a);rw [hR] at hC ⊢;simp [Tryz.f218,vO,zg,zH,u0,u1,u2,u5,h3];refine Run.loopThen (fun (k:Nat) e H=>k≤16∧qi e 4 = some (.optr 0 21 0)∧qi e 6 = some (.vsl false (qd p) p.length)∧qi e 8 = some (.optr 1 21 0)∧qi e 9 = some (.int .i64 k)∧H = [some vI,some (YU p k (.vsl true [] 0))]) (fun k=>16 - k) 0 ?_ ?_
 ·exact ⟨by omega,by simp,by simp,by simp,by simp,by rw [XT];simp [vI]⟩
 rintro k e H ⟨hk,k4,k6,k8,k9,rfl⟩;by_cases qg:k < 16
 ·have qo:(k:Int) < 16:=by omega
  have hw:=qx ((k:Int)+1) ((k+1:Nat):Int);have qZ:=qx (24+(k:Int)) (24+(k:Int));have hi:24+k < p.length:=by omega
  have Qa:24+(k:Int) < (p.length:Int):=by omega
  have hn:(24+(k:Int)).toNat = 24+k:=by omega
  have Qr:¬ (24+(k:Int)) < 0:=by omega
  have ja:(0:Int)≤24+(k:Int):=by omega
  have qI:=vq hi;have qn:=q2D (x:=p) (k:=k) (.vsl true [] 0) qg hi;have jM:=q2E p (k:=k) (.vsl true [] 0) (by omega) hk;generalize p[24+k] = c at *;generalize YU p k (.vsl true [] 0) = B at *;have h3k:3+k≤20:=by omega
  simp [k4,k6,k8,k9,qo,hw,qZ,Qa,hn,ja,qI,jM,h3k];unfold zM at qn;exact ⟨k+1,by omega,by omega,by omega,by simpa only [Qj,Qw,Qu,List.length_singleton] using qn⟩
 have qo:¬ (k:Int) < 16:=by omega
 have JP:k = 16:=by omega
 subst JP;rw [q2F];have hIl:=qdE p;have hIt:=fun {k} h=>qqr (x:=p) (k:=k) h;have hIg:=fun {k} h=>qfw (x:=p) (k:=k) h;have hu:=fun i (hi:i+8≤p.length) (x:Int) (hx:x = (i:Nat))=>Kj (Sl.mk false p (by simp)) i hi hpl (x:=x) hx;simp only at hu;obtain ⟨I,hI⟩:=ql (jG p);rw [hI] at hIl hIt hIg hC ⊢;unfold qaM;obtain ⟨c0,c1,c2,c3,c4,c5,c6,c7,c8,c9,c10,c11,c12,c13,c14,c15,hB⟩:=qgJ ((p.drop 24).take 16) (by simp;omega);have qb3:qd [c0,c1,c2,c3,c4,c5,c6,c7,c8,c9,c10,c11,c12,c13,c14,c15] = (JY c0 c1 c2 c3 c4 c5 c6 c7 c8 c9 c10 c11 c12 c13 c14 c15 []):=rfl;rw [hB,qb3];obtain ⟨s0,XI⟩:=ql (qC p 0);obtain ⟨s1,QJ⟩:=ql (qC p 8);obtain ⟨s2,kN⟩:=ql (qC p 16);obtain ⟨s5,XH⟩:=ql (qC p 40);rw [XI,QJ,kN,XH];simp [k4,k6,k8,k9];clear k4 k6 k8 k9 qg qo hk XI QJ kN XH u0 u1 u2 u5 XT h3 vl vO hB
 refine Run.loopThen (fun (k:Nat) e H=>k≤I.length∧qi e 4 = some (.optr 0 21 0)∧qi e 6 = some (.vsl false (qd p) p.length)∧qi e 8 = some (.optr 1 21 0)∧qi e 10 = some (.int .i64 ((48+16 * k:Nat):Int))∧(∀ j (hj:j+1 < I.length),j+1 < k→(I[j]).1 < (I[j+1]).1) ∧
  ((k = 0∧H = [some vI,some (.int .u64 (s0:Nat)::.int .u64 (s1:Nat)::.int .u64 (s2:Nat)::JY c0 c1 c2 c3 c4 c5 c6 c7 c8 c9 c10 c11 c12 c13 c14 c15 [.int .u64 (s5:Nat),.vsl true [] 0])]) ∨
  (0 < k∧H = [some vI,some (.int .u64 (s0:Nat)::.int .u64 (s1:Nat)::.int .u64 (s2:Nat)::JY c0 c1 c2 c3 c4 c5 c6 c7 c8 c9 c10 c11 c12 c13 c14 c15 [.int .u64 (s5:Nat),.osl 2 (2 * k) 0 k 2]),some (jA (I.take k))]))) (fun k=>I.length - k) 0 ?_ ?_
 ·exact ⟨by omega,by simp,by simp,by simp,by simp,fun j _ h=>by omega,.inl ⟨rfl,by simp [vI]⟩⟩
 rintro k e H ⟨hk,k4,k6,k8,k10,hRis,hH⟩;obtain ⟨j,hj⟩:∃ j:Nat,48+16 * k = j:=⟨_,rfl⟩;rw [hj] at k10;by_cases qg:k < I.length
 ·have hjM:j < p.length:=by omega
  have Vj:(j:Int) < (p.length:Int):=by omega
  have hw:=qx ((j:Int)+16) ((j+16:Nat):Int);have jb:=qx ((j:Int)+8) ((j:Int)+8);have qZ:=qN (j:Int) (j:Int);have Zf:=qN ((j:Int)+8) ((j:Int)+8);have uj:=hu j (by omega) (j:Int) rfl;have uj8:=hu (j+8) (by omega) ((j:Int)+8) (by omega);have hg:=hIg qg;have e1:qC p (48+16 * k) = (I[k]).1:=by rw [hg]
  have e2:qC p (56+16 * k) = (I[k]).2:=by rw [hg]
  rw [← hj,e1] at uj;rw [show j+8 = 56+16 * k by omega,e2] at uj8;rw [hj] at uj
  have hsn:jA (I.take (k+1)) = jA (I.take k) ++ [.int .u64 ((I[k]).1:Nat),.int .u64 ((I[k]).2:Nat)]:=by
   rw [VV qg,qju];rfl
  have hfk:=qdG (I.take k);have hfkL:=Z3 hfk;have j6:(jA (I.take k)).length = 2 * k:=by rw [qdF,jU];omega
  have Ze:(k+1) * 16≤140737488355328:=by omega
  have hx2:k+1≤140737488355328:=by omega
  rcases hH with ⟨j7,rfl⟩ | ⟨j7,rfl⟩
  ·subst j7;clear e1 e2 hg;generalize (I[0]).1 = y1 at *;generalize (I[0]).2 = y2 at *;simp [k4,k6,k8,k10,Vj,hw,jb,qZ,Zf,uj,uj8,qD,vI];exact ⟨1,by omega,by omega,by omega,fun j _ h=>by omega,by omega,⟨rfl,rfl⟩,by simpa [jA] using hsn.symm⟩
  ·obtain ⟨m,hmk⟩:∃ m,k = m+1:=⟨k - 1,by omega⟩;have hm:m < I.length:=(by omega);have a2:=qcy (I.take k) m (by simp;omega);have ez:(I.take k)[m]'(by simp;omega) = I[m]:=(by simp);rw [ez] at a2;have hRm:=hRis
   have jo:¬ (I[m]).1 < (I[k]).1→Kk I = false:=by
    intro hn;cases hh:Kk I with
    | false=>rfl
    | true =>
     subst hmk;exact absurd ((qfb I).1 hh m qg) hn
   have hst:(I[m]).1 < (I[k]).1→∀ j (hj:j+1 < I.length),j+1 < k+1→(I[j]).1 < (I[j+1]).1:=by
    intro hlt3 j QV YD;by_cases hjm:j = m
    ·subst hjm;subst hmk;exact hlt3
    ·exact hRm j QV (by omega)
   clear e1 e2 hg;generalize (I[k]).1 = y1 at *;generalize (I[k]).2 = y2 at *;generalize (I[m]).1 = z1 at *;generalize (I[m]).2 = z2 at *;generalize jA (I.take k) = A at *;have YR:k * 2 = 2 * k:=(by omega);have d1:List.drop (2 * k) (A ++ [D.int .u64 y1,.int .u64 y2]) = [D.int .u64 y1,.int .u64 y2]:=kE (by omega)
   have d2:List.drop (m * 2) (A ++ [D.int .u64 y1,.int .u64 y2]) = D.int .u64 z1 :: .int .u64 z2 :: (A.drop (2 * m+2) ++ [D.int .u64 y1,.int .u64 y2]):=by
    rw [Nat.mul_comm,List.drop_append_of_le_length (by omega),a2];rfl
   have wm:=qx ((k:Int) - 1) (m:Int);have q1:(0:Int) < (k:Int):=(by omega);have q2:(m:Int) < (k:Int)+1:=(by omega);have q4:m < k+1:=(by omega);have q5:(k:Int) < (k:Int)+1:=(by omega);have qQ:¬ k = 0:=(by omega);by_cases jx:z1 < y1
   ·have Vh:¬ (y1:Int)≤(z1:Int):=(by omega);simp [k4,k6,k8,k10,Vj,hw,jb,qZ,Zf,uj,uj8,qD,vI,j6,Ze,hx2,YR,d1,d2,wm,hfkL,j7,q2,q5,Vh];exact ⟨k+1,by omega,by omega,by omega,hst jx,by omega,⟨by omega,rfl⟩,hsn.symm⟩
   ·have Vh:(y1:Int)≤(z1:Int):=(by omega);have Zr:=jo jx;rw [if_neg (by simp [Zr])] at hC;subst hC;simp [k4,k6,k8,k10,Vj,jb,qZ,Zf,uj,uj8,qD,vI,j6,Ze,hx2,YR,d1,d2,wm,j7,q2,q5,Vh]
 ·have hjM:¬ j < p.length:=by omega
  have Vj:¬ (j:Int) < (p.length:Int):=by omega
  have hkn:k = I.length:=by omega
  subst hkn;have Qr:0 < I.length:=by omega
  rcases hH with ⟨h0,rfl⟩ | ⟨j7,rfl⟩
  ·omega
  rw [List.take_length];have hr:Kk I = true:=(qfb I).2 fun j hj=>hRis j hj (by omega);rw [if_pos hr] at hC;subst hC;have hIf:=qdG I;have hIL:=Z3 hIf;have hIn:=qdF I;have ht:List.take (I.length * 2) (jA I) = jA I:=qP (by omega);have h2n:I.length * 2≤2 * I.length:=by omega
  have hn00:¬ I.length = 0:=by omega
  simp [k4,k6,k8,k10,Vj,vI,hIL,hIn,ht,h2n]
theorem q2N (b:List UInt8) (a:Nat):Z0 b a = if jr b a 6≠0 then jr b a 6 else if (qB b a).length < 16∨(qB b a).length % 8≠0 then 5 else 0:=by
 unfold Z0 vD;by_cases h0:jq b a≠0
 ·have h:jr b a 6 = jq b a:=by unfold jr;rw [if_pos h0]
  rw [if_pos h0,h,if_pos h0]
 rw [if_neg h0];by_cases h1:ZG b a≠6
 ·have h:jr b a 6 = 4:=by unfold jr;rw [if_neg h0,if_pos h1]
  rw [if_pos h1,h,if_pos (by omega)]
 have h:jr b a 6 = 0:=by unfold jr;rw [if_neg h0,if_neg h1]
 obtain ⟨q1,q2,q3,q4,q5⟩:=qek h;rw [if_neg h1,h,if_neg (show ¬ (0:Nat)≠0 by omega),q3];by_cases h2:vz b a≤16+8∨(vz b a - (16+8)) % 8≠0
 ·rw [if_pos h2,if_pos (show vz b a - 16 < 16∨(vz b a - 16) % 8≠0 by omega)]
 ·rw [if_neg h2,if_neg (show ¬ (vz b a - 16 < 16∨(vz b a - 16) % 8≠0) by omega)]
def Kl:List D:=[.int .u64 0,.vsl true [] 0]
def qfj (b:List UInt8) (a:Nat):List D:=[.int .u64 ((jP b a).headD 0:Nat),.vsl false (qK (jP b a).tail) (jP b a).tail.length]
def qiJ (b:List UInt8) (a:Nat):List D:=if Z0 b a = 0 then qfj b a else Kl
set_option maxHeartbeats 4000000 in
set_option maxRecDepth 8000 in
theorem qvP [MaxL] [TxtC] (s:Sl UInt8) (hl:s.l.length≤1000000) (a:Nat) (ha:a < 18446744073709551616):call cx 170 [(.vsl s.nil (qd s.l) s.l.length),.int .u64 a] [] = some (.tup [.agg (qiJ s.l a),.int .i64 (Z0 s.l a:Nat)],[]):=by
 have vO:call cx 217 [(.vsl s.nil (qd s.l) s.l.length),.int .u64 a,.int .i64 6] [] = some (.tup [if jr s.l a 6 = 0 then .vsl false (qd (qB s.l a)) (qB s.l a).length else .vsl true [] 0,.int .i64 (jr s.l a 6:Nat)],[]):=qiH s hl a ha 6;have hC:=q2N s.l a;refine qy Tryz.func170 rfl ⟨rfl,rfl⟩ ?_;unfold qiJ qfj jP;by_cases h0:jr s.l a 6≠0
 ·rw [if_pos h0] at hC;rw [hC,if_neg h0];rw [if_neg h0] at vO;have qM:(((jr s.l a 6:Nat):Int) != 0) = true:=kr;generalize jr s.l a 6 = c at *;simp [Tryz.f170,vO,qM,Kl]
 have qM:jr s.l a 6 = 0:=by omega
 obtain ⟨q1,q2,q3,q4,q5⟩:=qek qM;rw [if_neg h0] at hC;rw [if_pos qM,qM] at vO;have hpl:(qB s.l a).length≤1000000:=by omega
 obtain ⟨p,hp⟩:=ql (qB s.l a);rw [hp] at vO hC hpl ⊢;by_cases h1:p.length < 16
 ·rw [if_pos (.inl h1)] at hC;have zg:(p.length:Int) < 16:=by omega
  rw [hC];simp [Tryz.f170,vO,zg,Kl]
 have zg:¬ (p.length:Int) < 16:=by omega
 by_cases h2:p.length % 8≠0
 ·rw [if_pos (.inr h2)] at hC;have zH:((p.length:Int).tmod 8 != 0) = true:=by rw [show (p.length:Int).tmod 8 = ((p.length % 8:Nat):Int) from rfl];simp only [bne_iff_ne,ne_eq];omega
  rw [hC];simp [Tryz.f170,vO,zg,zH,Kl]
 have zH:((p.length:Int).tmod 8 != 0) = false:=by rw [show (p.length:Int).tmod 8 = ((p.length % 8:Nat):Int) from rfl];simp only [bne_eq_false_iff_eq];omega
 rw [if_neg (by omega)] at hC;rw [hC,if_pos rfl];have hu:=fun i (hi:i+8≤p.length) (x:Int) (hx:x = (i:Nat))=>Kj (Sl.mk false p (by simp)) i hi hpl (x:=x) hx;simp only at hu;have u0:=hu 0 (by omega) 0 rfl;have Vn:(jw p).length = p.length / 8:=qan p;obtain ⟨I,hI⟩:=ql ((jw p).tail);have hIl:I.length = p.length / 8 - 1:=by rw [← hI,List.length_tail,Vn]
 have hIg:∀ k (h:k < I.length),I[k] = qC p (8+8 * k):=by
  intro k h;subst hI;rw [List.getElem_tail];simp only [jw,List.getElem_map,List.getElem_range];congr 1;omega
 have hh:(jw p).headD 0 = qC p 0:=by
  have:0 < p.length / 8:=by omega
  have hg:=qmJ this;cases hn:jw p with
  | nil=>rw [hn] at hg;simp at hg
  | cons x l=>rw [hn] at hg;simpa using hg
 rw [hI,hh];obtain ⟨x0,hx0⟩:=ql (qC p 0);rw [hx0] at u0 ⊢;simp [Tryz.f170,vO,zg,zH,u0]
 refine Run.loopThen (fun (k:Nat) e H=>k≤I.length∧qi e 4 = some (.optr 0 2 0)∧qi e 6 = some (.vsl false (qd p) p.length)∧qi e 8 = some (.optr 1 2 0)∧qi e 9 = some (.int .i64 ((8+8 * k:Nat):Int)) ∧
  ((k = 0∧H = [some Kl,some [.int .u64 x0,.vsl true [] 0]])∨(0 < k∧H = [some Kl,some [.int .u64 x0,.osl 2 k 0 k 1],some (qK (I.take k))]))) (fun k=>I.length - k) 0 ?_ ?_
 ·exact ⟨by omega,by simp,by simp,by simp,by simp,.inl ⟨rfl,by simp [Kl]⟩⟩
 rintro k e H ⟨hk,k4,k6,k8,k9,hH⟩;obtain ⟨j,hj⟩:∃ j:Nat,8+8 * k = j:=⟨_,rfl⟩;rw [hj] at k9;by_cases qg:k < I.length
 ·have hjM:j < p.length:=by omega
  have Vj:(j:Int) < (p.length:Int):=by omega
  have hw:=qx ((j:Int)+8) ((j+8:Nat):Int);have qZ:=qN (j:Int) (j:Int);have uj:=hu j (by omega) (j:Int) rfl
  have hsn:qK (I.take (k+1)) = qK (I.take k) ++ [.int .u64 (qC p j:Nat)]:=by
   rw [VV qg,qer,hIg k qg,hj]
  have j6:(qK (I.take k)).length = k:=by rw [Z8,jU];omega
  generalize qC p j = y at *;have Ze:(k+1) * 8≤140737488355328:=by omega
  have hx2:k+1≤140737488355328:=by omega
  rcases hH with ⟨j7,rfl⟩ | ⟨j7,rfl⟩
  ·subst j7;simp [k4,k6,k8,k9,Vj,hw,qZ,uj,qD,Kl];exact ⟨1,by omega,by omega,by omega,by omega,rfl,by simpa using hsn.symm⟩
  ·have kT:idFree.idFreeL (qK (I.take k)) = true:=qqH _;generalize qK (I.take k) = A at *;have qQ:¬ k = 0:=(by omega);simp [k4,k6,k8,k9,Vj,hw,qZ,uj,qD,Kl,j6,Ze,hx2,kT];exact ⟨k+1,by omega,by omega,by omega,by omega,rfl,hsn.symm⟩
 ·have hjM:¬ j < p.length:=by omega
  have Vj:¬ (j:Int) < (p.length:Int):=by omega
  have hkn:k = I.length:=by omega
  subst hkn;rw [List.take_length] at hH;rcases hH with ⟨j7,rfl⟩ | ⟨j7,rfl⟩
  ·omega
  simp [k4,k6,k8,k9,Vj,Kl]
theorem q1l (b:List UInt8) (a:Nat):idFree.idFreeL (if kC b a = 0 then Vq b a else vI) = true:=by
 split
 ·exact qrX b a
 ·rfl
theorem q1k (b:List UInt8) (a:Nat):(if kC b a = 0 then Vq b a else vI).length = 21:=by
 split
 ·rename_i h;exact qrW h
 ·rfl
set_option maxHeartbeats 1000000 in
set_option maxRecDepth 4000 in
theorem quB [MaxL] [TxtC] (b:Sl UInt8) (h:HdP) (hl:b.l.length≤1000000) (a:Nat) (ha:a < 18446744073709551616):call cx 171 [.vptr (vc b h),.int .u64 a] [] = some (.tup [.agg (if kL b.l h a = 0 then Vq b.l a else vI),.int .i64 (kL b.l h a:Nat)],[]):=by
 have zP:=qi5 b h hl a;have hr:=qvK b hl a ha;have h91:=qfZ b h;generalize vc b h = V at *;refine qy Tryz.func171 rfl ⟨rfl,rfl⟩ ?_;by_cases h0:a < h.siz∨b.l.length≤a
 ·have hV:kL b.l h a = 2:=by unfold kL;rw [if_pos h0]
  rw [if_pos h0] at zP;rw [hV];simp [Tryz.f171,zP,vI]
 have hV:kL b.l h a = kC b.l a:=by unfold kL;rw [if_neg h0]
 rw [if_neg h0] at zP;rw [hV];have hin2:call cx 169 [.vptr V,.int .u64 a] [] = some (.int .i64 0,[]):=zP;have hr2:call cx 218 [(.vsl b.nil (qd b.l) b.l.length),.int .u64 a] [] = some (.tup [.agg (if kC b.l a = 0 then Vq b.l a else vI),.int .i64 (kC b.l a:Nat)],[]):=hr;have YP:=q1l b.l a;have hCl:=q1k b.l a;generalize (if kC b.l a = 0 then Vq b.l a else vI) = C at *;generalize kC b.l a = c at *;have hCs:=zsh YP;have jc:List.take 21 C = C:=qP (by omega);have JT:List.drop 21 C = []:=List.drop_of_length_le (by omega);have XV:=Xz YP;simp [Tryz.f171,hin2,h91,hr2,hCl,YP,jc,XV]
def qiI (b:List UInt8) (sz a:Nat):List D:=if vK b sz a = 0 then qfj b a else Kl
theorem qvQ [MaxL] [TxtC] (b:Sl UInt8) (h:HdP) (hl:b.l.length≤1000000) (a:Nat) (ha:a < 18446744073709551616):call cx 115 [.vptr (vc b h),.int .u64 a] [] = some (.tup [.agg (qiI b.l h.siz a),.int .i64 (vK b.l h.siz a:Nat)],[]):=by
 have zP:=qi5 b h hl a;have hr:=qvP b hl a ha;have h91:=qfZ b h;generalize vc b h = V at *;refine qy Tryz.func115 rfl ⟨rfl,rfl⟩ ?_;unfold qiI;by_cases h0:a < h.siz∨b.l.length≤a
 ·have hV:vK b.l h.siz a = 2:=by unfold vK;rw [if_pos h0]
  rw [if_pos h0] at zP;rw [hV];simp [Tryz.f115,zP,Kl]
 have hV:vK b.l h.siz a = Z0 b.l a:=by unfold vK;rw [if_neg h0]
 rw [if_neg h0] at zP;rw [hV];have hin2:call cx 169 [.vptr V,.int .u64 a] [] = some (.int .i64 0,[]):=zP;unfold qiJ at hr;by_cases h1:Z0 b.l a = 0
 ·rw [if_pos h1,h1] at hr;rw [if_pos h1,h1];unfold qfj at hr ⊢;simp [Tryz.f115,hin2,h91,hr]
 ·rw [if_neg h1] at hr;rw [if_neg h1];unfold Kl at hr ⊢;generalize Z0 b.l a = c at *;simp [Tryz.f115,hin2,h91,hr]
set_option maxHeartbeats 1000000 in
theorem qu8 [MaxL] [TxtC] (l:List (List UInt8)) (nl:Bool) (zF:nl = true→l = []) (hl:l.length≤1000) (hp:∀ p,p∈l→p.length≤1000000):call cx 89 [.vsl nl (kt l) l.length] [] = some (.int .u64 (Jt l 0),[]):=by
 refine qy Tryz.func89 rfl ⟨rfl,rfl⟩ ?_;obtain ⟨R,hR⟩:=ql (Jt l 0);rw [hR];simp [Tryz.f89];refine Run.loopThen (fun (k:Nat) e H=>k≤l.length∧H = []∧qi e 0 = some (.vsl nl (kt l) l.length)∧qi e 4 = some (.int .i64 k)∧∃ v,qi e 3 = some (.int .u64 v)∧Jt (l.drop k) v = R) (fun k=>l.length - k) 0 ?_ ?_
 ·exact ⟨by omega,rfl,by simp,by simp,0,by simp,by simpa using hR⟩
 rintro k e H ⟨hk,rfl,p0,p4,v,p3,hv⟩;by_cases qg:k < l.length
 ·have qo:=zI qg;have hw:=qx ((k:Int)+1) ((k+1:Nat):Int);have qI:=qms qg;have j6:=qgn (Sl.mk false l[k] (by simp)) (by have:=hp _ (v6 qg);simp only;omega);rw [zU qg,Jt] at hv;simp only at j6
  have zx:nl = false:=by
   cases nl with
   | false=>rfl
   | true=>rw [zF rfl] at qg;simp at qg
  subst zx;generalize l[k] = p at *;simp [p0,p3,p4,qo,hw,qI,j6];exact ⟨k+1,by omega,by omega,by omega,hv⟩
 ·have qo:=zL qg;rw [List.drop_of_length_le (by omega),Jt] at hv;subst hv;simp [p0,p3,p4,qo]
theorem qqs (x:List UInt8) {k:Nat} (h:k < (jG x).length):(jG x)[k].1 < 18446744073709551616∧(jG x)[k].2 < 18446744073709551616:=by
 rw [qfw h];exact ⟨qeb _ _,qeb _ _⟩
def vv (b:List UInt8) (l:List (Nat × Nat)):List Pr:=l.map fun x=>qep (jN b x.1)
def jJ (b:List UInt8) (l:List (Nat × Nat)):List (List UInt8):=l.map fun x=>jN b x.1
theorem qkC {b:List UInt8} {h:HdP} {a:Nat} (hp:Z5 b h a = 0):vJ b a = 0:=by
 unfold Z5 at hp;split at hp
 · omega
 split at hp
 ·omega
 ·rename_i h2;omega
theorem qgv (l:List (List UInt8)):idFree.idFreeL (kt l) = true:=by
 rw [kY,qeH];intro x hx;obtain ⟨c,_,rfl⟩:=List.mem_map.1 hx;simp [idFree]
set_option maxHeartbeats 8000000 in
set_option maxRecDepth 8000 in
theorem qtw [MaxL] [TxtC] (b:Sl UInt8) (h:HdP) (hi:h.incompat < 4294967296) (hl:b.l.length≤1000000) (a:Nat) (ha:a < 18446744073709551616) :
  (ka b.l h a = 0→call cx 184 [.vptr (qY b h),.int .u64 a] [] = some (.agg (Enc.cells (X6 b.l a)),[])) ∧
  (¬ ka b.l h a = 0→call cx 184 [.vptr (qY b h),.int .u64 a] [] = none∧Q0 cx 184 [.vptr (qY b h),.int .u64 a] = some (kW (ka b.l h a))):=by
 obtain ⟨w1,w2⟩:=qt1 b h hl a ha;have qb1:=fun a ha=>qty b h hi hl a ha;have hmust:=fun c=>qgA c;refine qe7 _ Tryz.func184 rfl ⟨rfl,rfl⟩ (by simp [idFree,qY]) (by simp [kW,idFree,vFree]) ?_
 have hrec0:ka b.l h a = if kL b.l h a≠0 then kL b.l h a else if 16 < (jG (qB b.l a)).length then 21
   else if V8 b.l h (jG (qB b.l a))≠0 then V8 b.l h (jG (qB b.l a))
   else if (qC (qB b.l a) 40:Int)≠Jt (jJ b.l (jG (qB b.l a))) 0 then 10 else 0:=by
  unfold ka kL;rw [qhO];by_cases zP:a < h.siz∨b.l.length≤a
  ·rw [if_pos zP,if_pos zP];rfl
  ·rw [if_neg zP,if_neg zP];rfl
 obtain ⟨V,hV⟩:=ql (qY b h);have YL:idFree.idFreeL V = true:=by rw [← hV];simp [qY,idFree.idFreeL,idFree]
 rw [hV] at w1 w2 qb1 ⊢;rw [hrec0];by_cases h0:kL b.l h a≠0
 ·obtain ⟨m3,m4⟩:=w2 h0;rw [if_pos h0];generalize kL b.l h a = c at *;simp [Tryz.f184,m3,m4,h0]
 have qM:kL b.l h a = 0:=by omega
 rw [if_neg h0];have w3:=w1 qM
 have he0:kC b.l a = 0:=by
  unfold kL at qM;split at qM
  ·omega
  ·exact qM
 obtain ⟨f1,f2,f3,f4⟩:=qjS he0;unfold Vq qaM at w3
 have hR:Enc.cells (X6 b.l a) = .int .u64 (qC (qB b.l a) 0:Nat) :: .int .u64 (qC (qB b.l a) 8:Nat) :: .int .u64 (qC (qB b.l a) 16:Nat) :: (qd (((qB b.l a).drop 24).take 16) ++ [.vsl false (qu (vv b.l (jG (qB b.l a)))) (vv b.l (jG (qB b.l a))).length]):=by
  rw [Rec.cells];unfold X6;simp only;rw [qdJ (by omega)];rfl
 rw [hR];have qg:=fun {k} hk=>qqs (qB b.l a) (k:=k) hk;have qI:=fun k hk=>qcy (jG (qB b.l a)) k hk;obtain ⟨c0,c1,c2,c3,c4,c5,c6,c7,c8,c9,c10,c11,c12,c13,c14,c15,hB⟩:=qgJ (((qB b.l a).drop 24).take 16) (by simp;omega);have qb3:qd [c0,c1,c2,c3,c4,c5,c6,c7,c8,c9,c10,c11,c12,c13,c14,c15] = (JY c0 c1 c2 c3 c4 c5 c6 c7 c8 c9 c10 c11 c12 c13 c14 c15 []):=rfl;rw [hB,qb3] at w3 ⊢;have hIlen:=qdE (qB b.l a);obtain ⟨I,hI⟩:=ql (jG (qB b.l a));obtain ⟨s0,XI⟩:=ql (qC (qB b.l a) 0);obtain ⟨s1,QJ⟩:=ql (qC (qB b.l a) 8);obtain ⟨s2,kN⟩:=ql (qC (qB b.l a) 16);obtain ⟨s5,XH⟩:=ql (qC (qB b.l a) 40);rw [hI,XI,QJ,kN,XH] at w3;rw [hI] at qg qI hIlen;rw [hI,XI,QJ,kN,XH];clear hR qb3 hB hrec0 h0 w1 w2;have hIL:idFree.idFreeL (jA I) = true:=by rw [kY];exact qdG I
 by_cases Ji:16 < I.length
 ·have VN:(16:Int) < (I.length:Int):=by omega
  rw [if_pos Ji];simp [Tryz.f184,w3,VN,kW]
 have VN:¬ (16:Int) < (I.length:Int):=by omega
 rw [if_neg Ji];obtain ⟨T,hT⟩:=ql (V8 b.l h I);obtain ⟨R,QD⟩:=ql ((if T≠0 then T else if (s5:Int)≠Jt (jJ b.l I) 0 then 10 else 0));rw [hT,QD];simp [Tryz.f184,w3,VN]
 refine RunO.loopThen (fun (k:Nat) e H=>k≤I.length∧qi e 0 = some (.vptr V)∧qi e 4 = some (.optr 0 20 0)∧qi e 5 = some (.optr 1 21 0)∧qi e 6 = some (.optr 2 20 0)∧qi e 32 = some (.vsl false (jA I) I.length)∧qi e 33 = some (.int .i64 I.length)∧qi e 34 = some (.int .i64 k)∧V8 b.l h (I.drop k) = T ∧
  ((k = 0∧qi e 7 = some (.vsl true [] 0)∧H = [some (.int .u64 0::.int .u64 0::.int .u64 0::qO [.vsl true [] 0]),some (.int .u64 (s0:Nat)::.int .u64 (s1:Nat)::.int .u64 (s2:Nat)::JY c0 c1 c2 c3 c4 c5 c6 c7 c8 c9 c10 c11 c12 c13 c14 c15 [.int .u64 (s5:Nat),.vsl false (jA I) I.length]),some (.int .u64 (s0:Nat)::.int .u64 (s1:Nat)::.int .u64 (s2:Nat)::JY c0 c1 c2 c3 c4 c5 c6 c7 c8 c9 c10 c11 c12 c13 c14 c15 [.vsl true [] 0])]) ∨
  (0 < k∧qi e 7 = some (.osl 3 k 0 k 1)∧H = [some (.int .u64 0::.int .u64 0::.int .u64 0::qO [.vsl true [] 0]),some (.int .u64 (s0:Nat)::.int .u64 (s1:Nat)::.int .u64 (s2:Nat)::JY c0 c1 c2 c3 c4 c5 c6 c7 c8 c9 c10 c11 c12 c13 c14 c15 [.int .u64 (s5:Nat),.vsl false (jA I) I.length]),some (.int .u64 (s0:Nat)::.int .u64 (s1:Nat)::.int .u64 (s2:Nat)::JY c0 c1 c2 c3 c4 c5 c6 c7 c8 c9 c10 c11 c12 c13 c14 c15 [.osl 4 (2 * k) 0 k 2]),some (kt (jJ b.l (I.take k))),some (qu (vv b.l (I.take k)))]))) (fun k=>I.length - k) 0 ?_ ?_
 ·exact ⟨by omega,by simp,by simp,by simp,by simp,by simp,by simp,by simp,by simpa using hT,.inl ⟨rfl,by simp,by simp⟩⟩
 rintro k e H ⟨hk,k0,k4,k5,k6,k32,k33,k34,hE,hH⟩;by_cases j6:k < I.length
 ·have ZZ:=zI j6;have hw:=qx ((k:Int)+1) ((k+1:Nat):Int);have QO:=qI k j6;rw [Nat.mul_comm] at QO;have hatk2:=qI k j6;obtain ⟨l1,l2⟩:=qg j6
  have hsnP:jJ b.l (I.take (k+1)) = jJ b.l (I.take k) ++ [jN b.l (I[k]).1]:=by
   unfold jJ;rw [VV j6,List.map_append];rfl
  have hsnR:vv b.l (I.take (k+1)) = vv b.l (I.take k) ++ [qep (jN b.l (I[k]).1)]:=by
   unfold vv;rw [VV j6,List.map_append];rfl
  rw [zU j6,V8] at hE;obtain ⟨y1,hy1⟩:=ql ((I[k]).1);obtain ⟨y2,hy2⟩:=ql ((I[k]).2);rw [hy1] at hE l1 QO hatk2 hsnP hsnR;rw [hy2] at hE l2 QO hatk2;obtain ⟨p1,p2⟩:=qb1 y1 l1;by_cases hp:Z5 b.l h y1≠0
  ·obtain ⟨m3,m4⟩:=p2 hp;rw [if_pos hp] at hE;subst hE;rw [if_pos hp] at QD;subst QD;generalize Z5 b.l h y1 = c at *;rcases hH with ⟨j7,k7,rfl⟩ | ⟨j7,k7,rfl⟩
   ·simp [k0,k4,k5,k6,k7,k32,k33,k34,ZZ,QO,m3,m4,hp]
   ·simp [k0,k4,k5,k6,k7,k32,k33,k34,ZZ,QO,m3,m4,hp]
  have XM:Z5 b.l h y1 = 0:=by omega
  rw [if_neg hp] at hE;have m3:=p1 XM;have vf:=qkC XM;obtain ⟨q1,q2,q3,q4,q5⟩:=qdS vf;have hpl:(jN b.l y1).length≤1000000:=by unfold jN;rw [vQ];omega
  have vx:=q0y (Sl.mk false (jN b.l y1) (by simp)) hpl;simp only at vx;unfold qdR at m3;rw [qlm vf] at m3;simp only [qK,List.map] at m3;clear p1 p2 q1 q2 q3 q4 q5;obtain ⟨x0,hx0⟩:=ql (Yc b.l y1);obtain ⟨P,hP⟩:=ql (jN b.l y1);rw [hx0] at m3 hE;rw [hP] at m3 hE vx hsnP hsnR hpl;generalize qC (qB b.l y1) 8 = x1 at *;generalize qC (qB b.l y1) 16 = x2 at *;generalize qC (qB b.l y1) 24 = x3 at *;generalize qC (qB b.l y1) 32 = x4 at *;generalize qC (qB b.l y1) 40 = x5 at *;by_cases hh:x0≠y2
  ·rw [if_pos hh] at hE;subst hE;rw [if_pos (by omega)] at QD;subst QD;have hh':((x0:Int) != (y2:Int)) = true:=kr;have hh2:¬ x0 = y2:=hh;have hh3:¬ (x0:Int) = (y2:Int):=(by omega);rcases hH with ⟨j7,k7,rfl⟩ | ⟨j7,k7,rfl⟩
   ·simp [k0,k4,k5,k6,k7,k32,k33,k34,ZZ,QO,m3,hh',kW]
   ·simp [k0,k4,k5,k6,k7,k32,k33,k34,ZZ,QO,m3,hh',kW]
  rw [if_neg hh] at hE;have hxy:x0 = y2:=by omega
  subst hxy;by_cases hs:kz P≠0
  ·obtain ⟨m5,m6⟩:=(hmust (kz P)).2 hs;rw [if_pos hs] at hE;subst hE;rw [if_pos hs] at QD;subst QD;unfold qaf at vx;rw [if_neg hs] at vx;generalize kz P = c at *;rcases hH with ⟨j7,k7,rfl⟩ | ⟨j7,k7,rfl⟩
   ·simp [k0,k4,k5,k6,k7,k32,k33,k34,ZZ,QO,m3,vx,m5,m6,hs]
   ·simp [k0,k4,k5,k6,k7,k32,k33,k34,ZZ,QO,m3,vx,m5,m6,hs]
  have hs':kz P = 0:=by omega
  rw [if_neg hs] at hE;have m5:call cx 214 [.int .i64 0] [] = some (.tup [],[]):=(hmust 0).1 rfl;unfold qaf at vx;rw [if_pos hs',hs'] at vx
  have hFs:qu (vv b.l (I.take (k+1))) = qu (vv b.l (I.take k)) ++ [.str (jW P),.str (Za P)]:=by
   rw [hsnR];simp [qu,qep,Pr.cells]
  have hAs:kt (jJ b.l (I.take (k+1))) = kt (jJ b.l (I.take k)) ++ [.vsl false (qd P) P.length]:=by
   rw [hsnP];simp [kt]
  have hFl:(qu (vv b.l (I.take k))).length = 2 * k:=by
   rw [Pr.el];simp [vv];omega
  have Qc:(kt (jJ b.l (I.take k))).length = k:=by
   simp [kt,jJ];omega
  have kT:=qgv (jJ b.l (I.take k));have XU:idFree.idFreeL (qu (vv b.l (I.take k))) = true:=by simp
  have Ze:(k+1) * 32≤140737488355328:=by omega
  have hx2:(k+1) * 24≤140737488355328:=by omega
  have XD:k+1≤140737488355328:=by omega
  have YR:k * 2 = 2 * k:=by omega
  rcases hH with ⟨j7,k7,rfl⟩ | ⟨j7,k7,rfl⟩
  ·have hF0:qu (vv b.l (I.take k)) = []:=List.length_eq_zero_iff.1 (by omega);have hA0:kt (jJ b.l (I.take k)) = []:=List.length_eq_zero_iff.1 (by omega);rw [hF0,Qu] at hFs;rw [hA0,Qu] at hAs;simp [k0,k4,k5,k6,k7,k32,k33,k34,ZZ,QO,m3,vx,m5,hw,qD];have e1:k+1 = 1:=(by omega);rw [e1] at hE hFs hAs;exact ⟨1,by omega,by omega,by omega,hE,by omega,rfl,⟨rfl,rfl⟩,hAs.symm,hFs.symm⟩
  ·generalize qu (vv b.l (I.take k)) = F at *;generalize kt (jJ b.l (I.take k)) = A at *;have qQ:¬ k = 0:=(by omega);simp [k0,k4,k5,k6,k7,k32,k33,k34,ZZ,hatk2,m3,vx,m5,hw,qD,hFl,Qc,kT,XU,Ze,hx2,XD,YR];exact ⟨k+1,by omega,by omega,by omega,hE,by omega,by omega,⟨by omega,rfl⟩,hAs.symm,hFs.symm⟩
 ·have hkn:k = I.length:=by omega
  subst hkn;have ZZ:¬ (I.length:Int) < (I.length:Int):=by omega
  have Qr:0 < I.length:=by omega
  rcases hH with ⟨j7,k7,rfl⟩ | ⟨j7,k7,rfl⟩
  ·omega
  rw [List.drop_of_length_le (qE _),V8] at hE;subst hE;rw [if_neg (by simp)] at QD;rw [List.take_length]
  have hPl:∀ p,p∈jJ b.l I→p.length≤1000000:=by
   intro p hp;obtain ⟨x,_,rfl⟩:=List.mem_map.1 hp;unfold jN qB;simp only [vQ,jU];omega
  have hPn:(jJ b.l I).length = I.length:=by simp [jJ]
  have hx:=q0N (jJ b.l I) false (by simp) (by omega) hPl;have kT:=qgv (jJ b.l I);have Qc:(kt (jJ b.l I)).length = I.length:=by simp [kt,jJ]
  have hAI:=zfb kT
  have hFl:(qu (vv b.l I)).length = 2 * I.length:=by
   rw [Pr.el];simp [vv];omega
  have XU:idFree.idFreeL (qu (vv b.l I)) = true:=by simp
  have hRn:(vv b.l I).length = I.length:=by simp [vv]
  rw [hRn];rw [hPn] at hx;generalize qu (vv b.l I) = F at *;generalize kt (jJ b.l I) = A at *;generalize Jt (jJ b.l I) 0 = X at *;have htA:List.take I.length A = A:=qP (by omega);have htF:List.take (I.length * 2) F = F:=qP (by omega);have h2n:I.length * 2≤2 * I.length:=by omega
  have hn00:¬ I.length = 0:=by omega
  by_cases hX:(s5:Int) = X
  ·rw [if_neg (by simp [hX])] at QD;subst QD;simp [k0,k4,k5,k6,k7,k32,k33,k34,hx,hX,hFl,Qc,hAI,XU,htA,htF,h2n]
  ·rw [if_pos hX] at QD;subst QD;have hX':((s5:Int) != X) = true:=(by simp only [bne_iff_ne,ne_eq];exact hX);simp [k0,k4,k5,k6,k7,k32,k33,k34,hx,hX',Qc,hAI,htA,kW]
def ki:List D:=(.int .u64 0::.int .u64 0::.int .u64 0::qO [.vsl true [] 0])
set_option maxHeartbeats 1000000 in
set_option maxRecDepth 4000 in
theorem qtx [MaxL] [TxtC] (b:Sl UInt8) (h:HdP) (hi:h.incompat < 4294967296) (hl:b.l.length≤1000000) (a:Nat) (ha:a < 18446744073709551616) :
  (ka b.l h a = 0→call cx 183 [.optr 0 1 0,.optr 1 1 0,.optr 2 20 0] [some [.vptr (qY b h)],some [.int .u64 a],some ki] =
   some (.tup [],[some [.vptr (qY b h)],some [.int .u64 a],some (Enc.cells (X6 b.l a))])) ∧
  (¬ ka b.l h a = 0→call cx 183 [.optr 0 1 0,.optr 1 1 0,.optr 2 20 0] [some [.vptr (qY b h)],some [.int .u64 a],some ki] = none ∧
   ∃ L,Yt cx 183 [.optr 0 1 0,.optr 1 1 0,.optr 2 20 0] [some [.vptr (qY b h)],some [.int .u64 a],some ki] =
   some (kW (ka b.l h a),[some [.vptr (qY b h)],some [.int .u64 a],some ki] ++ L)):=by
 obtain ⟨w1,w2⟩:=qtw b h hi hl a ha;obtain ⟨V,hV⟩:=ql (qY b h);have YL:idFree.idFreeL V = true:=by rw [← hV];simp [qY,idFree.idFreeL,idFree]
 rw [hV] at w1 w2 ⊢;by_cases h0:ka b.l h a = 0
 ·refine ⟨fun _=>?_,fun hn=>absurd h0 hn⟩;have w3:=w1 h0;refine qy Tryz.func183 rfl ⟨rfl,rfl⟩ ?_;simp [Tryz.f183,w3,ki]
 ·refine ⟨fun h=>absurd h h0,fun _=>?_⟩;obtain ⟨m3,m4⟩:=w2 h0;have key:=qkq (X:=cx) (f:=183) (H:=[some [.vptr V],some [.int .u64 a],some ki]) (args:=[.optr 0 1 0,.optr 1 1 0,.optr 2 20 0]) (r:=(.tup [],[])) (p:=(kW (ka b.l h a),[some [.vptr V],some [.int .u64 a],some ki])) False Tryz.func183 rfl ⟨rfl,rfl⟩ ?_
  ·obtain ⟨k1,k2⟩:=key.2 id;exact ⟨k1,[],by rw [KO];exact k2⟩
  ·simp [Tryz.f183,m3,m4]
def Z4 (b:List UInt8) (h:HdP) (a:Nat):List D:=if ka b h a = 0 then Enc.cells (X6 b a) else ki
theorem qfh (b:List UInt8) (h:HdP) (a:Nat):(Z4 b h a).length = 20:=by
 unfold Z4;split
 ·simp
 ·rfl
theorem qfi (b:List UInt8) (h:HdP) (a:Nat):idFree.idFreeL (Z4 b h a) = true:=by
 unfold Z4;split
 ·simp
 ·rfl
set_option maxHeartbeats 1000000 in
set_option maxRecDepth 4000 in
theorem qtv [MaxL] (b:Sl UInt8) (h:HdP) (hi:h.incompat < 4294967296) (hl:b.l.length≤1000000) (a:Nat) (ha:a < 18446744073709551616) :
  call cx 125 [.vptr (qY b h),.int .u64 a] [] = some (.tup [.agg (Z4 b.l h a),.int .i64 (ka b.l h a:Nat)],[]):=by
 obtain ⟨k1,k2⟩:=@qtx _ qba b h hi hl a ha
 have hc3:qaR (@cx _ qba) 327 [.fn 183 [.optr 0 1 0,.optr 1 1 0,.optr 2 20 0]] [some [.vptr (qY b h)],some [.int .u64 a],some ki] =
   some (.int .i64 (ka b.l h a:Nat),[some [.vptr (qY b h)],some [.int .u64 a],some (Z4 b.l h a)]):=by
  unfold Z4;by_cases h0:ka b.l h a = 0
  ·rw [if_pos h0,h0];exact qsm rfl (k1 h0)
  ·obtain ⟨k3,L,k4⟩:=k2 h0;rw [if_neg h0,qsl rfl k3 k4];simp [jE,KX,qY,ki]
 have hcall:=qdU (X:=cx) (f:=182) (show cx.con 182 [.fn 183 [.optr 0 1 0,.optr 1 1 0,.optr 2 20 0]] [some [.vptr (qY b h)],some [.int .u64 a],some ki] = _ from hc3);have hTl:=qfh b.l h a;have hTf:=qfi b.l h a;generalize Z4 b.l h a = R at *;generalize ka b.l h a = c at *;obtain ⟨V,hV⟩:=ql (qY b h);have YL:idFree.idFreeL V = true:=by rw [← hV];simp [qY,idFree.idFreeL,idFree]
 rw [hV] at hcall ⊢;have hCs:=zsh hTf;have jc:List.take 20 R = R:=qP (by omega);have JT:List.drop 20 R = []:=List.drop_of_length_le (by omega);have XV:=Xz hTf;simp only [ki] at hcall;refine qy Tryz.func125 rfl ⟨rfl,rfl⟩ ?_;simp [Tryz.f125,hcall,hTl,hTf,jc,JT,XV]
set_option maxHeartbeats 8000000 in
set_option maxRecDepth 8000 in
theorem qu9 [MaxL] (b:Sl UInt8) (h:HdP) (hi:h.incompat < 4294967296) (hl:b.l.length≤1000000) (a:Nat) (ha:a < 18446744073709551616) :
  call cx 116 [.vptr (vc b h),.int .u64 a] [] = some (.tup [.agg (Z4 b.l h a),.int .i64 (ka b.l h a:Nat)],[]):=by
 have w1:=quB b h hl a ha;have qb1:=fun a ha=>quA b h hi hl a ha
 have hrec0:ka b.l h a = if kL b.l h a≠0 then kL b.l h a else if 16 < (jG (qB b.l a)).length then 21
   else if V8 b.l h (jG (qB b.l a))≠0 then V8 b.l h (jG (qB b.l a))
   else if (qC (qB b.l a) 40:Int)≠Jt (jJ b.l (jG (qB b.l a))) 0 then 10 else 0:=by
  unfold ka kL;rw [qhO];by_cases zP:a < h.siz∨b.l.length≤a
  ·rw [if_pos zP,if_pos zP];rfl
  ·rw [if_neg zP,if_neg zP];rfl
 obtain ⟨V,hV⟩:=ql (vc b h);have YL:=qaZ b h;rw [hV] at w1 qb1 YL ⊢;refine qy Tryz.func116 rfl ⟨rfl,rfl⟩ ?_;unfold Z4;rw [hrec0];by_cases h0:kL b.l h a≠0
 ·rw [if_neg h0] at w1;have qM:(((kL b.l h a:Nat):Int) != 0) = true:=kr;rw [if_pos h0,if_neg h0];unfold vI at w1;generalize kL b.l h a = c at *;simp [Tryz.f116,w1,qM,ki]
 have qM:kL b.l h a = 0:=by omega
 rw [if_neg h0];rw [if_pos qM,qM] at w1
 have he0:kC b.l a = 0:=by
  unfold kL at qM;split at qM
  ·omega
  ·exact qM
 obtain ⟨f1,f2,f3,f4⟩:=qjS he0;have w3:call cx 171 [.vptr V,.int .u64 a] [] = some (.tup [.agg (Vq b.l a),.int .i64 0],[]):=w1;have qg:=fun {k} hk=>qqs (qB b.l a) (k:=k) hk;have qI:=fun k hk=>qcy (jG (qB b.l a)) k hk
 have hR:Enc.cells (X6 b.l a) = .int .u64 (qC (qB b.l a) 0:Nat) :: .int .u64 (qC (qB b.l a) 8:Nat) :: .int .u64 (qC (qB b.l a) 16:Nat) :: (qd (((qB b.l a).drop 24).take 16) ++ [.vsl false (qu (vv b.l (jG (qB b.l a)))) (vv b.l (jG (qB b.l a))).length]):=by
  rw [Rec.cells];unfold X6;simp only;rw [qdJ (by omega)];rfl
 rw [hR];unfold Vq qaM at w3;obtain ⟨c0,c1,c2,c3,c4,c5,c6,c7,c8,c9,c10,c11,c12,c13,c14,c15,hB⟩:=qgJ (((qB b.l a).drop 24).take 16) (by simp;omega);have qb3:qd [c0,c1,c2,c3,c4,c5,c6,c7,c8,c9,c10,c11,c12,c13,c14,c15] = (JY c0 c1 c2 c3 c4 c5 c6 c7 c8 c9 c10 c11 c12 c13 c14 c15 []):=rfl;rw [hB,qb3] at w3 ⊢;have hIlen:=qdE (qB b.l a);obtain ⟨I,hI⟩:=ql (jG (qB b.l a));obtain ⟨s0,XI⟩:=ql (qC (qB b.l a) 0);obtain ⟨s1,QJ⟩:=ql (qC (qB b.l a) 8);obtain ⟨s2,kN⟩:=ql (qC (qB b.l a) 16);obtain ⟨s5,XH⟩:=ql (qC (qB b.l a) 40);rw [hI,XI,QJ,kN,XH] at w3;rw [hI] at qg qI hIlen;rw [hI,XI,QJ,kN,XH];clear hR qb3 hB hrec0 h0 w1;have hIL:idFree.idFreeL (jA I) = true:=by rw [kY];exact qdG I
 by_cases Ji:16 < I.length
 ·have VN:(16:Int) < (I.length:Int):=by omega
  rw [if_pos Ji];simp [Tryz.f116,w3,VN,ki]
 have VN:¬ (16:Int) < (I.length:Int):=by omega
 rw [if_neg Ji];obtain ⟨T,hT⟩:=ql (V8 b.l h I);obtain ⟨R,QD⟩:=ql ((if T≠0 then T else if (s5:Int)≠Jt (jJ b.l I) 0 then 10 else 0));rw [hT,QD];simp [Tryz.f116,w3,VN]
 refine Run.loopThen (fun (k:Nat) e H=>k≤I.length∧qi e 0 = some (.vptr V)∧qi e 4 = some (.optr 0 20 0)∧qi e 6 = some (.optr 1 21 0)∧qi e 8 = some (.optr 2 20 0)∧qi e 10 = some (.int .i64 k)∧V8 b.l h (I.drop k) = T ∧
  ((k = 0∧qi e 9 = some (.vsl true [] 0)∧H = [some ki,some (.int .u64 (s0:Nat)::.int .u64 (s1:Nat)::.int .u64 (s2:Nat)::JY c0 c1 c2 c3 c4 c5 c6 c7 c8 c9 c10 c11 c12 c13 c14 c15 [.int .u64 (s5:Nat),.vsl false (jA I) I.length]),some (.int .u64 (s0:Nat)::.int .u64 (s1:Nat)::.int .u64 (s2:Nat)::JY c0 c1 c2 c3 c4 c5 c6 c7 c8 c9 c10 c11 c12 c13 c14 c15 [.vsl true [] 0])]) ∨
  (0 < k∧qi e 9 = some (.osl 3 k 0 k 1)∧H = [some ki,some (.int .u64 (s0:Nat)::.int .u64 (s1:Nat)::.int .u64 (s2:Nat)::JY c0 c1 c2 c3 c4 c5 c6 c7 c8 c9 c10 c11 c12 c13 c14 c15 [.int .u64 (s5:Nat),.vsl false (jA I) I.length]),some (.int .u64 (s0:Nat)::.int .u64 (s1:Nat)::.int .u64 (s2:Nat)::JY c0 c1 c2 c3 c4 c5 c6 c7 c8 c9 c10 c11 c12 c13 c14 c15 [.osl 4 (2 * k) 0 k 2]),some (kt (jJ b.l (I.take k))),some (qu (vv b.l (I.take k)))]))) (fun k=>I.length - k) 0 ?_ ?_
 ·exact ⟨by omega,by simp,by simp,by simp,by simp,by simp,by simpa using hT,.inl ⟨rfl,by simp,by simp [ki]⟩⟩
 rintro k e H ⟨hk,k0,k4,k6,k8,k10,hE,hH⟩;by_cases j6:k < I.length
 ·have ZZ:=zI j6;have hw:=qx ((k:Int)+1) ((k+1:Nat):Int);have QO:=qI k j6;rw [Nat.mul_comm] at QO
  have hatk1:(jA I).drop (k * 2+1) = .int .u64 ((I[k]).2:Nat) :: (jA I).drop (k * 2+2):=by
   have:=congrArg (List.drop 1) QO;rw [jV] at this;simpa using this
  obtain ⟨l1,l2⟩:=qg j6
  have hsnP:jJ b.l (I.take (k+1)) = jJ b.l (I.take k) ++ [jN b.l (I[k]).1]:=by
   unfold jJ;rw [VV j6,List.map_append];rfl
  have hsnR:vv b.l (I.take (k+1)) = vv b.l (I.take k) ++ [qep (jN b.l (I[k]).1)]:=by
   unfold vv;rw [VV j6,List.map_append];rfl
  rw [zU j6,V8] at hE;obtain ⟨y1,hy1⟩:=ql ((I[k]).1);obtain ⟨y2,hy2⟩:=ql ((I[k]).2);rw [hy1] at hE l1 QO hsnP hsnR;rw [hy2] at hE l2 QO hatk1;have p1:=qb1 y1 l1;by_cases hp:Z5 b.l h y1≠0
  ·rw [if_neg hp] at p1;rw [if_pos hp] at hE;subst hE;rw [if_pos hp] at QD;subst QD;have XM:(((Z5 b.l h y1:Nat):Int) != 0) = true:=kr;generalize Z5 b.l h y1 = c at *;rcases hH with ⟨j7,k9,rfl⟩ | ⟨j7,k9,rfl⟩
   ·simp [k0,k4,k6,k8,k9,k10,ZZ,QO,p1,XM,hp,ki]
   ·simp [k0,k4,k6,k8,k9,k10,ZZ,QO,p1,XM,hp,ki]
  have XM:Z5 b.l h y1 = 0:=by omega
  rw [if_neg hp] at hE;rw [if_pos XM] at p1;have vf:=qkC XM;obtain ⟨q1,q2,q3,q4,q5⟩:=qdS vf;have hpl:(jN b.l y1).length≤1000000:=by unfold jN;rw [vQ];omega
  have vx:=qvo (Sl.mk false (jN b.l y1) (by simp)) hpl;simp only at vx;clear q1 q2 q3 q4 q5;obtain ⟨x0,hx0⟩:=ql (Yc b.l y1);obtain ⟨P,hP⟩:=ql (jN b.l y1);rw [hx0] at p1 hE;rw [hP] at p1 hE vx hsnP hsnR hpl;by_cases hh:x0≠y2
  ·rw [if_pos hh] at hE;subst hE;rw [if_pos (by omega)] at QD;subst QD;have hh':((x0:Int) != (y2:Int)) = true:=kr;have hh2:¬ x0 = y2:=hh;have hh3:¬ (x0:Int) = (y2:Int):=(by omega);rcases hH with ⟨j7,k9,rfl⟩ | ⟨j7,k9,rfl⟩
   ·simp [k0,k4,k6,k8,k9,k10,ZZ,QO,p1,hh',ki]
   ·simp [k0,k4,k6,k8,k9,k10,ZZ,QO,p1,hh',ki]
  rw [if_neg hh] at hE;have hxy:x0 = y2:=by omega
  subst hxy;by_cases hs:kz P≠0
  ·rw [if_pos hs] at hE;subst hE;rw [if_pos hs] at QD;subst QD;unfold qaf at vx;rw [if_neg hs] at vx;have hs':(((kz P:Nat):Int) != 0) = true:=kr;generalize kz P = c at *;rcases hH with ⟨j7,k9,rfl⟩ | ⟨j7,k9,rfl⟩
   ·simp [k0,k4,k6,k8,k9,k10,ZZ,QO,p1,vx,hs,hs',ki]
   ·simp [k0,k4,k6,k8,k9,k10,ZZ,QO,p1,vx,hs,hs',ki]
  have hs':kz P = 0:=by omega
  rw [if_neg hs] at hE;unfold qaf at vx;rw [if_pos hs',hs'] at vx
  have hFs:qu (vv b.l (I.take (k+1))) = qu (vv b.l (I.take k)) ++ [.str (jW P),.str (Za P)]:=by
   rw [hsnR];simp [qu,qep,Pr.cells]
  have hAs:kt (jJ b.l (I.take (k+1))) = kt (jJ b.l (I.take k)) ++ [.vsl false (qd P) P.length]:=by
   rw [hsnP];simp [kt]
  have hFl:(qu (vv b.l (I.take k))).length = 2 * k:=by
   rw [Pr.el];simp [vv];omega
  have Qc:(kt (jJ b.l (I.take k))).length = k:=by
   simp [kt,jJ];omega
  have kT:=qgv (jJ b.l (I.take k));have XU:idFree.idFreeL (qu (vv b.l (I.take k))) = true:=by simp
  have Ze:(k+1) * 32≤140737488355328:=by omega
  have hx2:(k+1) * 24≤140737488355328:=by omega
  have XD:k+1≤140737488355328:=by omega
  have YR:k * 2 = 2 * k:=by omega
  rcases hH with ⟨j7,k9,rfl⟩ | ⟨j7,k9,rfl⟩
  ·have hF0:qu (vv b.l (I.take k)) = []:=List.length_eq_zero_iff.1 (by omega);have hA0:kt (jJ b.l (I.take k)) = []:=List.length_eq_zero_iff.1 (by omega);rw [hF0,Qu] at hFs;rw [hA0,Qu] at hAs;simp [k0,k4,k6,k8,k9,k10,ZZ,QO,p1,vx,hw,qD,ki];have e1:k+1 = 1:=(by omega);rw [e1] at hE hFs hAs;exact ⟨1,by omega,by omega,by omega,hE,by omega,rfl,⟨rfl,rfl⟩,hAs.symm,hFs.symm⟩
  ·generalize qu (vv b.l (I.take k)) = F at *;generalize kt (jJ b.l (I.take k)) = A at *;have qQ:¬ k = 0:=(by omega);rw [YR] at QO hatk1;simp [k0,k4,k6,k8,k9,k10,ZZ,QO,p1,vx,hw,qD,hFl,Qc,kT,XU,Ze,hx2,XD,YR,ki];exact ⟨k+1,by omega,by omega,by omega,hE,by omega,by omega,⟨by omega,rfl⟩,hAs.symm,hFs.symm⟩
 ·have hkn:k = I.length:=by omega
  subst hkn;have ZZ:¬ (I.length:Int) < (I.length:Int):=by omega
  have Qr:0 < I.length:=by omega
  rcases hH with ⟨j7,k9,rfl⟩ | ⟨j7,k9,rfl⟩
  ·omega
  rw [List.drop_of_length_le (qE _),V8] at hE;subst hE;rw [if_neg (by simp)] at QD;rw [List.take_length]
  have hPl:∀ p,p∈jJ b.l I→p.length≤1000000:=by
   intro p hp;obtain ⟨x,_,rfl⟩:=List.mem_map.1 hp;unfold jN qB;simp only [vQ,jU];omega
  have hPn:(jJ b.l I).length = I.length:=by simp [jJ]
  have hx:=qu8 (jJ b.l I) false (by simp) (by omega) hPl;have kT:=qgv (jJ b.l I);have Qc:(kt (jJ b.l I)).length = I.length:=by simp [kt,jJ]
  have hAI:=zfb kT
  have hFl:(qu (vv b.l I)).length = 2 * I.length:=by
   rw [Pr.el];simp [vv];omega
  have XU:idFree.idFreeL (qu (vv b.l I)) = true:=by simp
  have hRn:(vv b.l I).length = I.length:=by simp [vv]
  rw [hRn];rw [hPn] at hx;generalize qu (vv b.l I) = F at *;generalize kt (jJ b.l I) = A at *;generalize Jt (jJ b.l I) 0 = X at *;have htA:List.take I.length A = A:=qP (by omega);have htF:List.take (I.length * 2) F = F:=qP (by omega);have h2n:I.length * 2≤2 * I.length:=by omega
  have hn00:¬ I.length = 0:=by omega
  by_cases hX:(s5:Int) = X
  ·rw [if_neg (by simp [hX])] at QD;subst QD;simp [k0,k4,k6,k8,k9,k10,hx,hX,hFl,Qc,hAI,XU,htA,htF,h2n,ki]
  ·rw [if_pos hX] at QD;subst QD;have hX':((s5:Int) != X) = true:=(by simp only [bne_iff_ne,ne_eq];exact hX);simp [k0,k4,k6,k8,k9,k10,hx,hX',Qc,hAI,htA,ki]
theorem q2I [MaxL] (a b:Sl UInt8) (_:a.l.length < 1000000) (_:b.l.length < 1000000):call cx 206 [(.vsl a.nil (qd a.l) a.l.length),(.vsl b.nil (qd b.l) b.l.length)] [] = some (.bool (a.l == b.l),[]):=by
 refine qy Tryz.func206 rfl ⟨rfl,rfl⟩ ?_;have t1:List.take a.l.length (qd a.l) = qd a.l:=qP (by simp);have t2:List.take b.l.length (qd b.l) = qd b.l:=qP (by simp);simp [Tryz.f206]
theorem q2B [MaxL] (s:Sl UInt8) (p:List UInt8) (hs:s.l.length≤1000000) (hp:p.length < 1000000) (h1:1≤p.length):call cx 161 [(.vsl s.nil (qd s.l) s.l.length),.vsl false (qd p) p.length] [] = some (.bool (s.l.take p.length == p),[]):=by
 refine qy Tryz.func161 rfl ⟨rfl,rfl⟩ ?_;by_cases jx:p.length≤s.l.length
 ·have Vh:(p.length:Int)≤(s.l.length:Int):=by omega
  have zx:s.nil = false:=Sl.nn (i:=0) (by omega);have he:=q2I (.of (s.l.take p.length)) (.of p) (by simp;omega) hp;simp only [Sl.of_l,Sl.of_nil] at he;have t1:List.take p.length (qd s.l) = qd (s.l.take p.length):=Yv _ _;have l1:(s.l.take p.length).length = p.length:=by simp;omega
  rw [l1] at he;simp [Tryz.f161,Vh,zx,t1,he]
 ·have Vh:¬ (p.length:Int)≤(s.l.length:Int):=by omega
  have qQ:(s.l.take p.length == p) = false:=by
   refine beq_eq_false_iff_ne.2 fun e=>?_;have:=congrArg List.length e;simp at this;omega
  rw [qQ];simp [Tryz.f161,Vh]
theorem qra (h:HdP):(Enc.cells h).drop 68 = .int .u64 (h.arena:Nat) :: (Enc.cells h).drop 69:=h.dn (i:=1) (by omega)
theorem qqV [MaxL] (h:HdP) (h0:h.g 0 < 18446744073709551616) (h1:h.g 1 < 18446744073709551616):call cx 107 [.agg (Enc.cells h)] [] = some (.tup [.int .u64 (h.endN:Nat),.bool h.endC],[]):=by
 refine qy Tryz.func107 rfl ⟨rfl,rfl⟩ ?_;have e0:=qeB (qf2 h) (by simp);have e1:=qeB (qra h) (by simp);have e0':=qf2 h;have e1':=qra h;rw [show h.siz = h.g 0 from rfl] at e0 e0';rw [show h.arena = h.g 1 from rfl] at e1 e1';unfold HdP.endN HdP.endC;generalize h.g 0 = a at *;generalize h.g 1 = c at *;by_cases hc:a+c < 18446744073709551616
 ·have hw:=qN ((a:Int)+(c:Int)) ((a:Int)+(c:Int));have hn:¬ (a:Int)+(c:Int) < (a:Int):=by omega
  simp [Tryz.f107,e0',e1',hw,hn,hc]
 ·have hw:IntKind.u64.wrap ((a:Int)+(c:Int)) = (a:Int)+(c:Int) - 18446744073709551616:=by
   simp only [IntKind.wrap,IntKind.signed,IntKind.bits];simp;omega
  have hn:(a:Int)+(c:Int) - 18446744073709551616 < (a:Int):=by omega
  simp [Tryz.f107,e0',e1',hw,hn,hc]
set_option maxHeartbeats 1000000 in
theorem qqK [MaxL] (h:HdP) (h0:h.g 0 < 18446744073709551616) (a size till:Nat) (ha:a < 18446744073709551616) (hs:size < 18446744073709551616) (ht:till < 18446744073709551616) :
  call cx 163 [.agg (Enc.cells h),.int .u64 a,.int .u64 size,.int .u64 till] [] = some (.int .i64 (Yl (h.g 0) a size till:Nat),[]):=by
 refine qy Tryz.func163 rfl ⟨rfl,rfl⟩ ?_;have e0:=qeB (qf2 h) (by simp);have e0':=qf2 h;rw [show h.siz = h.g 0 from rfl] at e0 e0';unfold Yl;generalize h.g 0 = f at *;have r8:(a:Int).tmod 8 = ((a % 8:Nat):Int):=rfl;have r16:(size:Int).tmod 16 = ((size % 16:Nat):Int):=rfl;by_cases c1:a % 8≠0
 ·have c1':((a:Int).tmod 8 != 0) = true:=by rw [r8];simp only [bne_iff_ne,ne_eq];omega
  rw [if_pos c1];simp [Tryz.f163,c1']
 have c1':((a:Int).tmod 8 != 0) = false:=by rw [r8];simp only [bne_eq_false_iff_eq];omega
 rw [if_neg c1];by_cases c2:size = 0
 ·rw [if_pos (.inl c2)];subst c2;simp [Tryz.f163,c1']
 have c2':¬ (size:Int) = 0:=by omega
 by_cases c3:size % 16≠0
 ·rw [if_pos (.inr c3)];have c3':((size:Int).tmod 16 != 0) = true:=by rw [r16];simp only [bne_iff_ne,ne_eq];omega
  simp [Tryz.f163,c1',c2,c3']
 rw [if_neg (by omega)];have c3':((size:Int).tmod 16 != 0) = false:=by rw [r16];simp only [bne_eq_false_iff_eq];omega
 by_cases c4:a < f
 ·rw [if_pos (.inl c4)];have c4':=zI c4;simp [Tryz.f163,c1',c2,c3',e0',c4']
 have c4':=zL c4;have ZW:=qN ((a:Int) - (f:Int)) ((a:Int) - (f:Int));by_cases c5:a - f < 16
 ·rw [if_pos (.inr (.inl c5))];have c5':(a:Int) - (f:Int) < 16:=by omega
  simp [Tryz.f163,c1',c2,c3',e0',c4',ZW,c5']
 have c5':¬ (a:Int) - (f:Int) < 16:=by omega
 by_cases c6:till < a
 ·rw [if_pos (.inr (.inr (.inl c6)))];have c6':=zI c6;simp [Tryz.f163,c1',c2,c3',e0',c4',ZW,c5',c6']
 have c6':=zL c6;have Y8:=qN ((till:Int) - (a:Int)) ((till:Int) - (a:Int));by_cases c7:till - a < size
 ·rw [if_pos (.inr (.inr (.inr c7)))];have c7':(till:Int) - (a:Int) < (size:Int):=by omega
  simp [Tryz.f163,c1',c2,c3',e0',c4',ZW,c5',c6',Y8,c7']
 ·rw [if_neg (by omega)];have c7':¬ (till:Int) - (a:Int) < (size:Int):=by omega
  simp [Tryz.f163,c1',c2,c3',e0',c4',ZW,c5',c6',Y8,c7']
def hdZ:List D:=.int .u32 0 :: .int .u32 0 :: .int .i64 0 :: (qd (List.replicate 64 0) ++ (List.replicate 21 (.int .u64 0) ++ [.int .u32 0,.int .u32 0,.int .u64 0]))
def headD (b:List UInt8):D:=.agg (if zy b = 0 then Enc.cells (qG b) else hdZ)
theorem qzO (h:HdP):(Enc.cells h)[1] = .int .u32 (h.incompat:Nat):=by simp [HdP.cells]
theorem qzN (h:HdP):(Enc.cells h)[2] = .int .i64 (h.state:Nat):=by simp [HdP.cells]
theorem qey (h:HdP) (i:Nat) (hi:i < 21) (hh:67+i < (Enc.cells h).length):(Enc.cells h)[67+i] = .int .u64 (h.g i:Nat):=qeB (h.dn hi) hh
theorem qaB {b:List UInt8} {c:Nat} (h:zy b = c) (h0:c≠0):headD b = .agg hdZ:=by
 unfold headD;rw [h,if_neg h0]
theorem qqW {b:List UInt8} (h:zy b = 0):headD b = .agg (Enc.cells (qG b)):=by
 unfold headD;rw [if_pos h]
set_option maxHeartbeats 4000000 in
set_option maxRecDepth 8000 in
theorem qz9 [MaxL] (b:Sl UInt8) (hl:b.l.length≤1000000):call cx 106 [(.vsl b.nil (qd b.l) b.l.length)] [] = some (.tup [headD b.l,.int .i64 (zy b.l:Nat)],[]):=by
 have hZ:hdZ = hdZ:=rfl
 conv at hZ=>rhs;simp [hdZ,qd,List.replicate]
 refine qy Tryz.func106 rfl ⟨rfl,rfl⟩ ?_;by_cases c0:b.l.length < 272
 ·have hC:zy b.l = 22:=by unfold zy;rw [if_pos c0]
  have c0':(b.l.length:Int) < 272:=by omega
  rw [qaB hC (by decide),hC,hZ];simp [Tryz.f106,c0']
 have c0':¬ (b.l.length:Int) < 272:=by omega
 have hpf:=q2B b signL (by omega) (by decide) (by decide);by_cases c1:b.l.take 8≠signL
 ·have hC:zy b.l = 6:=by unfold zy;rw [if_neg c0,if_pos c1]
  have e1:(b.l.take signL.length == signL) = false:=by simp only [beq_eq_false_iff_ne];exact c1
  rw [e1] at hpf;replace hpf:call cx 161 [(.vsl b.nil (qd b.l) b.l.length),.vsl false [.int .u8 76,.int .u8 80,.int .u8 75,.int .u8 83,.int .u8 72,.int .u8 72,.int .u8 82,.int .u8 72] 8] [] = some (.bool false,[]):=hpf;rw [qaB hC (by decide),hC,hZ];simp [Tryz.f106,c0',hpf]
 have e1:(b.l.take signL.length == signL) = true:=by simp only [beq_iff_eq];exact Classical.not_not.1 c1
 rw [e1] at hpf;replace hpf:call cx 161 [(.vsl b.nil (qd b.l) b.l.length),.vsl false [.int .u8 76,.int .u8 80,.int .u8 75,.int .u8 83,.int .u8 72,.int .u8 72,.int .u8 82,.int .u8 72] 8] [] = some (.bool true,[]):=hpf;have hC:zy b.l = Je (qG b.l) b.l.length:=by unfold zy;rw [if_neg c0,if_neg c1]
 have vy:=qwk b hl (by omega);have Jb:=qaD b.l;obtain ⟨h,hh⟩:=ql (qG b.l);rw [hh] at vy hC Jb;have zR:=qqV h (Jb 0) (Jb 1);have i1:=qzO h;have i2:=qzN h;have g0:=qey h 0 (by omega) (by simp);have g1:=qey h 1 (by omega) (by simp);have g2:=qey h 2 (by omega) (by simp);have g3:=qey h 3 (by omega) (by simp);have g4:=qey h 4 (by omega) (by simp);have g5:=qey h 5 (by omega) (by simp);have j1:=h.d1;have j2:=h.d2;have k0:=h.dn (i:=0) (by omega);have k1:=h.dn (i:=1) (by omega);have k2:=h.dn (i:=2) (by omega);have k3:=h.dn (i:=3) (by omega);have k4:=h.dn (i:=4) (by omega);have k5:=h.dn (i:=5) (by omega);simp only [Nat.reduceAdd,Nat.add_zero] at g0 g1 g2 g3 g4 g5 k0 k1 k2 k3 k4 k5;have jd:h.endN < 18446744073709551616:=by unfold HdP.endN;split <;> omega
 have t1:=qqK h (Jb 0) (h.g 2) (h.g 3) h.endN (Jb 2) (Jb 3) jd;have t2:=qqK h (Jb 0) (h.g 4) (h.g 5) h.endN (Jb 4) (Jb 5) jd;by_cases d1:qbS .u32 h.incompat 4≠0
 ·have zS:zy b.l = 7:=by rw [hC];unfold Je;rw [if_pos d1]
  rw [qaB zS (by decide),zS,hZ];have d1':(qbS .u32 h.incompat 4 != 0) = true:=by simp only [bne_iff_ne,ne_eq];exact d1
  simp [Tryz.f106,c0',hpf,vy,zR,j1,d1']
 have d1':(qbS .u32 h.incompat 4 != 0) = false:=by simp only [bne_eq_false_iff_eq];exact Classical.not_not.1 d1
 by_cases d2:2 < h.state
 ·have zS:zy b.l = 8:=by rw [hC];unfold Je;rw [if_neg d1,if_pos d2]
  rw [qaB zS (by decide),zS,hZ];have d2':(2:Int) < (h.state:Int):=by omega
  simp [Tryz.f106,c0',hpf,vy,zR,j1,d1',j2,d2']
 have d2':¬ (2:Int) < (h.state:Int):=by omega
 have r0:((h.g 0:Nat):Int).tmod 8 = ((h.g 0 % 8:Nat):Int):=rfl;have r1:((h.g 1:Nat):Int).tmod 8 = ((h.g 1 % 8:Nat):Int):=rfl;by_cases d3:h.g 0 < 272∨h.g 0 % 8≠0∨h.g 1 % 8≠0
 ·have zS:zy b.l = 5:=by rw [hC];unfold Je;rw [if_neg d1,if_neg d2,if_pos d3]
  rw [qaB zS (by decide),zS,hZ];by_cases a1:h.g 0 < 272
  ·have a1':((h.g 0:Nat):Int) < 272:=(by omega);simp [Tryz.f106,c0',hpf,vy,zR,j1,d1',j2,d2',k0,a1']
  have a1':¬ ((h.g 0:Nat):Int) < 272:=by omega
  by_cases a2:h.g 0 % 8≠0
  ·have a2':(((h.g 0:Nat):Int).tmod 8 != 0) = true:=(by rw [r0];simp only [bne_iff_ne,ne_eq];omega);simp [Tryz.f106,c0',hpf,vy,zR,j1,d1',j2,d2',k0,a1',a2']
  have a2':(((h.g 0:Nat):Int).tmod 8 != 0) = false:=by rw [r0];simp only [bne_eq_false_iff_eq];omega
  have a3':(((h.g 1:Nat):Int).tmod 8 != 0) = true:=by rw [r1];simp only [bne_iff_ne,ne_eq];omega
  simp [Tryz.f106,c0',hpf,vy,zR,j1,d1',j2,d2',k0,a1',a2',k1,a3']
 have a1':¬ ((h.g 0:Nat):Int) < 272:=by omega
 have a2':(((h.g 0:Nat):Int).tmod 8 != 0) = false:=by rw [r0];simp only [bne_eq_false_iff_eq];omega
 have a3':(((h.g 1:Nat):Int).tmod 8 != 0) = false:=by rw [r1];simp only [bne_eq_false_iff_eq];omega
 have jR:=qN (b.l.length:Int) (b.l.length:Int);by_cases d4:h.endC = false
 ·have zS:zy b.l = 2:=by rw [hC];unfold Je;rw [if_neg d1,if_neg d2,if_neg d3,if_pos (.inl d4)]
  rw [qaB zS (by decide),zS,hZ];rw [d4] at zR;simp [Tryz.f106,c0',hpf,vy,zR,j1,d1',j2,d2',k0,a1',a2',k1,a3']
 have d4':h.endC = true:=by simpa using d4
 rw [d4'] at zR;by_cases d5:b.l.length < h.endN
 ·have zS:zy b.l = 2:=by rw [hC];unfold Je;rw [if_neg d1,if_neg d2,if_neg d3,if_pos (.inr d5)]
  rw [qaB zS (by decide),zS,hZ];have d5':=zI d5;simp [Tryz.f106,c0',hpf,vy,zR,j1,d1',j2,d2',k0,a1',a2',k1,a3',jR,d5']
 have d5':=zL d5;have d45:¬ (h.endC = false∨b.l.length < h.endN):=by rintro (h | h);exact d4 h;exact d5 h
 obtain ⟨T1,hT1⟩:=ql (Yl (h.g 0) (h.g 2) (h.g 3) h.endN);obtain ⟨T2,JV⟩:=ql (Yl (h.g 0) (h.g 4) (h.g 5) h.endN);rw [hT1] at t1;rw [JV] at t2;by_cases d6:T1≠0
 ·have zS:zy b.l = T1:=by rw [hC];unfold Je;rw [if_neg d1,if_neg d2,if_neg d3,if_neg d45,hT1,if_pos d6]
  rw [qaB zS d6,zS,hZ];have d6':((T1:Int) != 0) = true:=kr;simp [Tryz.f106,c0',hpf,vy,zR,j1,d1',j2,d2',k0,a1',a2',k1,a3',jR,d5',k2,k3,t1,d6']
 have d6':T1 = 0:=by omega
 have zS:zy b.l = T2:=by rw [hC];unfold Je;rw [if_neg d1,if_neg d2,if_neg d3,if_neg d45,hT1,if_neg d6,JV]
 rw [d6'] at t1;by_cases d7:T2≠0
 ·rw [qaB zS d7,zS,hZ];have d7':((T2:Int) != 0) = true:=kr;simp [Tryz.f106,c0',hpf,vy,zR,j1,d1',j2,d2',k0,a1',a2',k1,a3',jR,d5',k2,k3,t1,k4,k5,t2,d7']
 ·have d7':T2 = 0:=by omega
  rw [d7'] at zS t2;rw [qqW zS,zS,hh];simp [Tryz.f106,c0',hpf,vy,zR,j1,d1',j2,d2',k0,a1',a2',k1,a3',jR,d5',k2,k3,t1,k4,k5,t2]
def zi (b:List UInt8):Sl UInt8:=⟨false,b.take (qG b).endN,by simp⟩
def qd9 (b:List UInt8):D:=if zy b = 0 then .vptr (qY (zi b) (qG b)) else .nilp
theorem qj2 {b:List UInt8} (h:zy b = 0):(qG b).endC = true∧(qG b).endN≤b.length∧272≤b.length∧272≤(qG b).endN:=by
 unfold zy at h;split at h
 · omega
 split at h
 · omega
 unfold Je at h;split at h
 · omega
 split at h
 · omega
 split at h
 · omega
 split at h
 · omega
 rename_i h0 h1 h2 h3 h4 h5
 have h6:(qG b).endC = true:=by
  cases hh:(qG b).endC with
  | true=>rfl
  | false=>exact absurd (.inl hh) h5
 refine ⟨h6,by omega,by omega,?_⟩;unfold HdP.endC at h6;unfold HdP.endN;simp at h6;rw [if_pos h6];omega
theorem qij {k:D→Option (D × List Nat)}:∀ {l:List D},idFree.idFreeL l = true→vY (fun x=>if idFree x = true then some (x,[]) else k x) l = some (l,[])
 | [],_=>rfl
 | d :: l,h=>by
  simp only [idFree.idFreeL,jk] at h;simp only [vY,qij h.2,h.1,if_true,KO]
theorem qzP:hdZ.length = 91:=rfl
theorem qqX:idFree.idFreeL hdZ = true:=by
 simp [hdZ,idFree,kY]
theorem qzQ (n:Nat):(∀ x,x∈hdZ→closed n x = true) = True:=eq_true fun x hx=>qhv n x (List.all_eq_true.1 (by rw [← kY];exact qqX) x hx)
set_option maxHeartbeats 1000000 in
set_option maxRecDepth 8000 in
theorem q2X [MaxL] (b:Sl UInt8) (hl:b.l.length≤1000000):call cx 72 [(.vsl b.nil (qd b.l) b.l.length)] [] = some (.tup [qd9 b.l,.int .i64 (zy b.l:Nat)],[]):=by
 have hr:=qz9 b hl;refine qy Tryz.func72 rfl ⟨rfl,rfl⟩ ?_;by_cases h0:zy b.l = 0
 ·obtain ⟨h1,h2,h3,h4⟩:=qj2 h0;have zR:=qqV (qG b.l) (qaD _ _) (qaD _ _);have zq:=qkv (zi b.l) (by simp [zi];omega);rw [h1] at zR;rw [qqW h0,h0] at hr;have qU:b.nil = false:=Sl.nn (i:=0) (by omega);rw [qU] at hr;unfold qd9;rw [if_pos h0,h0];simp only [qY];simp only [zi,QE,if_false] at zq ⊢;have V9:(b.l.take (qG b.l).endN).length = (qG b.l).endN:=by simp;omega
  rw [V9] at zq ⊢;have jc:List.take (qG b.l).endN (qd b.l) = qd (b.l.take (qG b.l).endN):=Yv _ _;generalize (qG b.l).endN = n at *;have n1:(0:Int)≤(n:Int)∧(n:Int)≤(b.l.length:Int):=by omega
  simp [Tryz.f72,qU,hr,zR,zq,jc,n1,h2,qij]
 ·have qM:(((zy b.l:Nat):Int) != 0) = true:=kr;rw [qaB rfl h0] at hr;unfold qd9;rw [if_neg h0];generalize zy b.l = c at *;simp [Tryz.f72,hr,qM,qzP,qqX,qzQ]
def XY (b:List UInt8):List D:=[.vptr (qY (zi b) (qG b)),Z7 (Vr (zi b).l (qG b)).1,.int .i64 ((Vr (zi b).l (qG b)).2:Nat),.vsl true [] 0,.bool false]
theorem qyr [MaxL] (b:Sl UInt8) (hl:b.l.length≤1000000):call cx 35 [(.vsl b.nil (qd b.l) b.l.length)] [] = if zy b.l = 0 then some (.tup [.optr 0 5 0,.int .i64 0],[some (XY b.l)]) else some (.tup [.nilp,.int .i64 (zy b.l:Nat)],[]):=by
 have ho:=q2X b hl;by_cases h0:zy b.l = 0
 ·obtain ⟨h1,h2,h3,h4⟩:=qj2 h0;have zR:=q1m (zi b.l) (qG b.l) (by simp [zi];omega) (qaD b.l 8) (qaD b.l 11);have hO:qd9 b.l = .vptr (qY (zi b.l) (qG b.l)):=by unfold qd9;rw [if_pos h0]
  rw [hO,h0] at ho;rw [if_pos h0];unfold XY;have hf:idFree.idFreeL (qY (zi b.l) (qG b.l)) = true:=by simp [qY,idFree.idFreeL,idFree]
  generalize qY (zi b.l) (qG b.l) = V at *;generalize Vr (zi b.l).l (qG b.l) = R at *;obtain ⟨nl,hn⟩:=ql (decide (R.1 = []));unfold Z7 at *;rw [hn] at zR ⊢;refine qy Tryz.func35 rfl ⟨rfl,rfl⟩ ?_;simp [Tryz.f35,ho,zR]
 ·have qM:(((zy b.l:Nat):Int) != 0) = true:=kr;have hO:qd9 b.l = .nilp:=by unfold qd9;rw [if_neg h0]
  rw [hO] at ho;rw [if_neg h0];generalize zy b.l = c at *;refine qy Tryz.func35 rfl ⟨rfl,rfl⟩ ?_;simp [Tryz.f35,ho,qM]
theorem qz0 {b:List UInt8} {a k:Nat} (hk:k < 16) (h:a+k < b.length):zM (qd ((b.drop a).take k) ++ qd (List.replicate (16 - k) 0)) k [.int .u8 (b[a+k].toNat:Nat)] = qd ((b.drop a).take (k+1)) ++ qd (List.replicate (16 - (k+1)) 0):=by
 have ht:qd ((b.drop a).take (k+1)) = qd ((b.drop a).take k) ++ [.int .u8 (b[a+k].toNat:Nat)]:=by
  rw [VV (by rw [vQ];omega),List.getElem_drop,qct];rfl
 have hr:qd (List.replicate (16 - k) (0:UInt8)) = [.int .u8 0] ++ qd (List.replicate (16 - (k+1)) 0):=by
  rw [show 16 - k = (16 - (k+1))+1 by omega,KM];rfl
 rw [ht,hr,qeW]
 ·simp only [Qj]
 ·simp;omega
 ·rfl
set_option maxHeartbeats 1000000 in
theorem qgo [MaxL] (s:Sl UInt8) (a:Nat) (ha:a+16≤s.l.length) (hl:s.l.length≤1000000) {x:Int} (hx:x = a):call cx 215 [(.vsl s.nil (qd s.l) s.l.length),.int .i64 x] [] = some (.agg (qd (Zq s.l a).l),[]):=by
 subst hx;have zx:s.nil = false:=Sl.nn (i:=a) (by omega);rw [zx,qdJ ha];obtain ⟨b,hb⟩:=ql (s.l);rw [hb] at ha hl ⊢;obtain ⟨Z,hZ⟩:∃ Z:List D,(qO []) = Z:=⟨_,rfl⟩;have hZl:Z.length = 16:=by rw [← hZ];rfl
 refine qy Tryz.func215 rfl ⟨rfl,rfl⟩ ?_;simp [Tryz.f215];refine Run.loopThen (fun (k:Nat) e H=>k≤16∧qi e 0 = some (.vsl false (qd b) b.length)∧qi e 1 = some (.int .i64 a)∧qi e 4 = some (.optr 0 16 0)∧qi e 5 = some (.optr 1 16 0)∧qi e 6 = some (.int .i64 k)∧H = [some Z,some (qd ((b.drop a).take k) ++ qd (List.replicate (16 - k) 0))]) (fun k=>16 - k) 0 ?_ ?_
 ·exact ⟨by omega,by simp,by simp,by simp,by simp,by simp,by simp [← hZ,qd,List.replicate]⟩
 rintro k e H ⟨hk,k0,k1,k4,k5,k6,rfl⟩;by_cases qg:k < 16
 ·have qo:(k:Int) < 16:=by omega
  have hw:=qx ((k:Int)+1) ((k+1:Nat):Int);have qZ:=qx ((a:Int)+(k:Int)) ((a:Int)+(k:Int));have hi:a+k < b.length:=by omega
  have Qa:(a:Int)+(k:Int) < (b.length:Int):=by omega
  have hn:((a:Int)+(k:Int)).toNat = a+k:=by omega
  have ja:(0:Int)≤(a:Int)+(k:Int):=by omega
  have qI:=vq hi;have qn:=qz0 (b:=b) (a:=a) qg hi;have KJ:(qd ((b.drop a).take k) ++ qd (List.replicate (16 - k) 0)).length = 16:=by simp;omega
  have h15:k≤15:=by omega
  generalize b[a+k] = c at *;generalize qd ((b.drop a).take k) ++ qd (List.replicate (16 - k) 0) = B at *;simp [k0,k1,k4,k5,k6,qo,hw,qZ,Qa,hn,ja,qI,KJ,h15];unfold zM at qn;exact ⟨k+1,by omega,by omega,by omega,by simpa only [Qj,Qw,Qu,List.length_singleton] using qn⟩
 have qo:¬ (k:Int) < 16:=by omega
 have JP:k = 16:=by omega
 subst JP;have KJ:(qd ((b.drop a).take 16)).length = 16:=by simp;omega
 have h0:qd (List.replicate (16 - 16) (0:UInt8)) = []:=rfl;rw [h0,KO];have tB:List.take 16 (qd ((b.drop a).take 16)) = qd ((b.drop a).take 16):=qP (by omega);have dZ:List.drop 16 Z = []:=List.drop_of_length_le (by omega);have qa0:min 16 (b.length - a) = 16:=by omega
 simp [k0,k1,k4,k5,k6,hZl,tB,dZ,qa0]
def Vf (b:List UInt8) (c i:Nat):List D:=[.int .u32 (c:Nat),.int .u32 (i:Nat),.int .i64 ((b.getD 16 0).toNat:Nat)]
def ZX (b:List UInt8) (k:Nat):List D:=(Vf b (vS b 8) (vS b 12) ++ (qd (Zq b 24).l ++ (qd (Zq b 40).l ++ (qd (Zq b 56).l ++ qd (Zq b 72).l))) ++ qJ .u64 ((List.range k).map fun i=>qC b (88+8 * i))) ++ (List.replicate (20 - k) (.int .u64 0) ++ [.int .u32 0,.int .u32 0,.int .u64 0])
def YH:List D:=.int .u32 0 :: .int .u32 0 :: .int .i64 0 :: (qd (List.replicate 64 0) ++ (List.replicate 20 (.int .u64 0) ++ [.int .u32 0,.int .u32 0,.int .u64 0]))
theorem qgU (b:List UInt8) (a:Nat):(qd (Zq b a).l).length = 16:=by simp
theorem qzB (b:List UInt8) {k:Nat} (hk:k≤20):(ZX b k).length = 90:=by
 simp [ZX,Vf];omega
theorem qzA (b:List UInt8) {k:Nat} (hk:k < 20):zM (ZX b k) (67+k) [.int .u64 (qC b (88+8 * k):Nat)] = ZX b (k+1):=by
 have e1:List.replicate (20 - k) (D.int .u64 0) = [D.int .u64 0] ++ List.replicate (20 - (k+1)) (D.int .u64 0):=by
  rw [show 20 - k = (20 - (k+1))+1 by omega,KM];rfl
 have e2:qJ .u64 ((List.range (k+1)).map fun i=>qC b (88+8 * i)) = qJ .u64 ((List.range k).map fun i=>qC b (88+8 * i)) ++ [.int .u64 (qC b (88+8 * k):Nat)]:=by
  rw [List.range_succ,List.map_append,qg7];rfl
 unfold ZX;rw [e1,e2,Qj [D.int .u64 0],qeW]
 ·simp only [Qj]
 ·simp [Vf];omega
 ·rfl
theorem qzC (b:List UInt8):∃ PP,ZX b 20 = PP ++ [.int .u32 0,.int .u32 0,.int .u64 0]∧PP.length = 87∧PP.all idFree = true∧vB (qG b) = PP ++ [.int .u32 (vS b 256:Nat),.int .u32 (vS b 260:Nat),.int .u64 (qC b 264:Nat)]:=by
 refine ⟨(Vf b (vS b 8) (vS b 12) ++ (qd (Zq b 24).l ++ (qd (Zq b 40).l ++ (qd (Zq b 56).l ++ qd (Zq b 72).l))) ++ qJ .u64 ((List.range 20).map fun i=>qC b (88+8 * i))),by simp [ZX],by simp [Vf],by simp [Vf,idFree],?_⟩
 have e:((List.range 21).map fun i=>qC b (88+8 * i)).take 20 = (List.range 20).map fun i=>qC b (88+8 * i):=by
  rw [← List.map_take];rfl
 unfold vB;simp only [qG,e];simp only [Vf,Qj,Qw,Qu]
set_option maxHeartbeats 4000000 in
set_option maxRecDepth 8000 in
theorem qvs [MaxL] (s:Sl UInt8) (hl:s.l.length≤1000000) (hb:272≤s.l.length):call cx 166 [(.vsl s.nil (qd s.l) s.l.length)] [] = some (.tup [.agg (vB (qG s.l)),.int .u64 (qC s.l 248:Nat)],[]):=by
 have i1:=qgo s 24 (by omega) hl (x:=24) rfl;have i2:=qgo s 40 (by omega) hl (x:=40) rfl;have i3:=qgo s 56 (by omega) hl (x:=56) rfl;have i4:=qgo s 72 (by omega) hl (x:=72) rfl;have g8:=qfd s 8 4 (.inl rfl) (by omega) hl (x:=8) (y:=4) rfl rfl;have g12:=qfd s 12 4 (.inl rfl) (by omega) hl (x:=12) (y:=4) rfl rfl;have g256:=qfd s 256 4 (.inl rfl) (by omega) hl (x:=256) (y:=4) rfl rfl;have g260:=qfd s 260 4 (.inl rfl) (by omega) hl (x:=260) (y:=4) rfl rfl;have hu:=fun a ha x hx=>Kj s a ha hl (x:=x) hx;have u264:=hu 264 (by omega) 264 rfl;have u248:=hu 248 (by omega) 248 rfl;have f4:∀ a,leN ((s.l.drop a).take 4) = vS s.l a:=fun _=>rfl;rw [f4] at g8 g12 g256 g260;have l8:=qec s.l 8;have l12:=qec s.l 12;have l256:=qec s.l 256;have l260:=qec s.l 260;have w8:=Yj (vS s.l 8:Int) (vS s.l 8:Int);have w12:=Yj (vS s.l 12:Int) (vS s.l 12:Int);have w256:=Yj (vS s.l 256:Int) (vS s.l 256:Int);have w260:=Yj (vS s.l 260:Int) (vS s.l 260:Int);have zx:s.nil = false:=Sl.nn (i:=16) (by omega);have q16:(16:Int) < (s.l.length:Int):=by omega
 have Ji:16 < s.l.length:=by omega
 have o16:=vq Ji;have e16:(s.l.getD 16 0).toNat = s.l[16].toNat:=by simp [Ji]
 have hw16:IntKind.i64.wrap ((s.l[16]).toNat:Int) = ((s.l[16]).toNat:Int):=by have:=s.l[16].toNat_lt;rw [wrap_i64];omega
 have a1:=qgU s.l 24;have a2:=qgU s.l 40;have a3:=qgU s.l 56;have a4:=qgU s.l 72;rw [zx] at i1 i2 i3 i4 g8 g12 g256 g260 u264 u248 hu
 have hr10:ZX s.l 0 = .int .u32 (vS s.l 8:Nat) :: .int .u32 (vS s.l 12:Nat) :: .int .i64 ((s.l[16]).toNat:Nat) :: (qd (Zq s.l 24).l ++ (qd (Zq s.l 40).l ++ (qd (Zq s.l 56).l ++ (qd (Zq s.l 72).l ++ (List.replicate 20 (.int .u64 0) ++ [.int .u32 0,.int .u32 0,.int .u64 0]))))):=by
  simp [ZX,Vf,Ji,qJ]
 refine qy Tryz.func166 rfl ⟨rfl,rfl⟩ ?_;simp [Tryz.f166,zx,q16,o16,hw16,i1,i2,i3,i4,g8,g12,w8,w12,ZK,vX,qP,List.drop_of_length_le,a1,a2,a3,a4];refine Run.loopThen (fun (k:Nat) e H=>k≤20∧qi e 0 = some (.vsl false (qd s.l) s.l.length)∧qi e 2 = some (.optr 0 90 0)∧qi e 4 = some (.optr 1 90 0)∧qi e 9 = some (.int .i64 k)∧∃ Z:List D,Z.length = 90∧H = [some Z,some (ZX s.l k)]) (fun k=>20 - k) 0 ?_ ?_
 ·refine ⟨by omega,by simp,by simp,by simp,by simp,YH,by simp [YH],?_⟩;rw [hr10];simp [YH,qd,List.replicate]
 rintro k e H ⟨hk,k0,k2,k4,k9,Z,hZl,rfl⟩;by_cases qg:k < 20
 ·have qo:(k:Int) < 20:=by omega
  have hw:=qx ((k:Int)+1) ((k+1:Nat):Int);have qZ:=qx (8 * (k:Int)) (8 * (k:Int));have Zf:=qx (88+8 * (k:Int)) (88+8 * (k:Int));have ZW:=qN (88+8 * (k:Int)) (88+8 * (k:Int));have uk:=hu (88+8 * k) (by omega) (88+8 * (k:Int)) (by omega);have qn:=qzA s.l qg;have KJ:=qzB s.l (k:=k) (by omega);have h67:67+k≤89:=by omega
  generalize qC s.l (88+8 * k) = y at *;generalize ZX s.l k = B at *;simp [k0,k2,k4,k9,qo,hw,qZ,Zf,ZW,uk,KJ,h67];unfold zM at qn;exact ⟨k+1,by omega,by omega,by omega,Z,hZl,rfl,by simpa only [Qj,Qw,Qu,List.length_singleton] using qn⟩
 have qo:¬ (k:Int) < 20:=by omega
 have JP:k = 20:=by omega
 subst JP;obtain ⟨PP,hP,hPl,hPf,hPe⟩:=qzC s.l;rw [hP,hPe];have hPi:=Xy hPf;have hPc:=KR hPf;have hPL:=Z3 hPf;generalize vS s.l 256 = y1 at *;generalize vS s.l 260 = y2 at *;generalize qC s.l 264 = y3 at *;generalize qC s.l 248 = y4 at *;clear hr10;simp [k0,k2,k4,k9,g256,g260,w256,w260,u264,u248,hPl,ZK,vX,List.drop_of_length_le,qP,hZl,hPc,hPL]
end Go.Ev.S
