import Derived.Test.YtjjofhpbbndccaaGreatDoorC4
namespace Go.Ev.S
open Go Go.Proofs Go.Ev
theorem qtD [MaxL] [TxtC] (s:List UInt8) (hs:s.length < 1000000):call cx 64 [.str s] [] = some (.bool (JI s),[]):=by
 refine qA Tryz.func64 rfl ⟨rfl,rfl⟩ ?_;by_cases h1:s.length < 1
 ·have zR:(s.length:Int) < 1:=by omega
  have hN:JI s = false:=by simp [JI];omega
  rw [hN];simp [Tryz.f64,zR]
 by_cases h2:96 < s.length
 ·have zR:¬ (s.length:Int) < 1:=by omega
  have vn:(96:Int) < (s.length:Int):=by omega
  have hN:JI s = false:=by simp [JI];omega
  rw [hN];simp [Tryz.f64,zR,vn]
 have zR:¬ (s.length:Int) < 1:=by omega
 have vn:¬ (96:Int) < (s.length:Int):=by omega
 obtain ⟨r,hr⟩:∃ r,(s.all fun c=>decide (33≤c.toNat) && decide (c.toNat≤126)) = r:=⟨_,rfl⟩;have hN:JI s = r:=by simp only [JI,hr];rw [decide_eq_true (by omega),decide_eq_true (by omega)];simp
 rw [hN];simp [Tryz.f64,zR,vn];refine Run.loopThen (fun (k:Nat) e H'=>k≤s.length∧((s.drop k).all fun c=>decide (33≤c.toNat) && decide (c.toNat≤126)) = r∧qg e 0 = some (.str s)∧qg e 13 = some (.int .i64 s.length)∧qg e 14 = some (.int .i64 k)∧H' = []) (fun k=>s.length - k) 0 ?_ ?_
 ·simpa using hr
 rintro k e H' ⟨hk,hR,k0,k5,k6,rfl⟩;by_cases qi:k < s.length
 ·have qq:(k:Int) < (s.length:Int):=by omega
  have hw:IntKind.i64.wrap ((k:Int)+1) = ((k+1:Nat):Int):=by rw [wrap_i64] <;> omega
  have zC:s[k]? = some s[k]:=qU qi;rw [vR qi,qal] at hR;generalize s[k] = c at *;by_cases h3:c.toNat < 33
  ·have vK:(c.toNat:Int) < 33:=(by omega);rw [decide_eq_false (by omega),qcC,qcC] at hR;subst hR;simp [k0,k5,k6,qq,zC,vK]
  ·have vK:¬ (c.toNat:Int) < 33:=(by omega);by_cases h4:126 < c.toNat
   ·have YU:(126:Int) < (c.toNat:Int):=(by omega);rw [decide_eq_false (show ¬ c.toNat≤126 by omega),Bool.and_false,qcC] at hR;subst hR;simp [k0,k5,k6,qq,zC,vK,YU]
   ·have YU:¬ (126:Int) < (c.toNat:Int):=(by omega);rw [decide_eq_true (show 33≤c.toNat by omega),decide_eq_true (show c.toNat≤126 by omega),qer,qer] at hR;simp [k0,k5,k6,qq,zC,hw,vK,YU];exact ⟨k+1,by omega,by omega,by simpa using hR,by omega⟩
 ·have qq:¬ (k:Int) < (s.length:Int):=by omega
  rw [JS (by omega)] at hR;have:r = true:=hR.symm;subst this;simp [k0,k5,k6,qq]
def vh (v:FSv) (i:Nat):Nat:=(v.nd.getD i (0,0)).1
def qdP (v:FSv) (i:Nat):Nat:=(v.nd.getD i (0,0)).2
theorem Zg {v:FSv} {i:Nat} (h:i < v.nd.length):v.nd[i]? = some (vh v i,qdP v i):=by
 simp [vh,qdP,h]
theorem qeW {v:FSv} {k:Nat} (h:k < v.nd.length):v.ptrs.drop k = .optr (vh v k) 3 0 :: v.ptrs.drop (k+1):=by
 have e:v.nd.drop k = (vh v k,qdP v k) :: v.nd.drop (k+1):=by
  rw [vR h];congr 1;simp [vh,qdP,h]
 unfold FSv.ptrs;rw [← List.map_drop,e,List.map_cons,List.map_drop]
theorem qtJ [MaxL] [TxtC] {H:qd} {q:Nat} {s:Fs} {v:FSv} (h:FSw H q s v) (hn:s.nodes.length < 1000000) (name:List UInt8) :
  call cx 58 [.optr q 5 0,.str name] H = some (match ve s.nodes name with | some i=>.optr (vh v i) 3 0 | none=>.nilp,H):=by
 obtain ⟨r,hr⟩:∃ r,ve s.nodes name = r:=⟨_,rfl⟩;rw [hr];have zW:=h.root;simp only [Fs.cells] at zW;refine zt Tryz.func58 rfl ⟨rfl,rfl⟩ ?_;rcases h.row with ⟨VW,hp,hL⟩ | ⟨b,n,VW,hlen,hb,hL⟩
 ·have hl:=h.len;have:v.nd = []:=by simpa [FSv.ptrs] using hp
  rw [this] at hl;have hs:s.nodes = []:=List.length_eq_zero_iff.1 hl.symm;rw [VW] at zW;rw [hs] at hr;have hr':r = none:=by rw [← hr];rfl
  subst hr';simp [-qe,Tryz.f58,zW];refine qbN ?_;simp
 ·rw [VW] at zW;have vE:v.ptrs.length = v.nd.length:=by simp [FSv.ptrs]
  have zq:n = s.nodes.length:=by have:=h.len;omega
  subst zq;simp [-qe,Tryz.f58,zW];refine Run.loopThen (fun (k:Nat) e H'=>k≤s.nodes.length∧(ve (s.nodes.drop k) name).map (·+k) = r∧qg e 1 = some (.str name)∧qg e 10 = some (.osl b v.ptrs.length 0 s.nodes.length 1)∧qg e 11 = some (.int .i64 s.nodes.length)∧qg e 12 = some (.int .i64 k)∧H' = H) (fun k=>s.nodes.length - k) 0 ?_ ?_
  ·simpa using hr
  rintro k e H' ⟨hk,hR,k1,k10,k11,k12,rfl⟩;by_cases qi:k < s.nodes.length
  ·have qq:(k:Int) < (s.nodes.length:Int):=(by omega);have hw:IntKind.i64.wrap ((k:Int)+1) = ((k+1:Nat):Int):=(by rw [wrap_i64] <;> omega);have YG:k < v.nd.length:=(by rw [h.len];exact qi);obtain ⟨jf,jO⟩:=h.node k _ _ (qU qi) (Zg YG);simp only [Nd.cells] at jf;have KK:=qeW YG;rw [vR qi] at hR;generalize s.nodes[k] = x at *;unfold ve at hR;rw [List.findIdx?_cons] at hR;cases ht:x.there with
   | false =>
    rw [ht] at jf hR;simp at hR;simp [-qe,k1,k10,k11,k12,qq,hw,hb,KK,jf];refine ⟨k+1,by omega,by omega,?_,by omega⟩;rw [← hR];unfold ve;cases List.findIdx? (fun n=>n.there && n.name == name) (s.nodes.drop (k+1)) <;> simp;omega
   | true =>
    rw [ht] at jf hR;by_cases hx:x.name = name
    ·have hr1:r = some k:=(by simpa [hx] using hR.symm);subst hr1;simp [-qe,k1,k10,k11,k12,qq,hb,KK,jf,hx]
    ·simp [hx] at hR;simp [-qe,k1,k10,k11,k12,qq,hw,hb,KK,jf,hx];refine ⟨k+1,by omega,by omega,?_,by omega⟩;rw [← hR];unfold ve;cases List.findIdx? (fun n=>n.there && n.name == name) (s.nodes.drop (k+1)) <;> simp;omega
  ·have qq:¬ (k:Int) < (s.nodes.length:Int):=(by omega);rw [JS (by omega)] at hR;have hr1:r = none:=(by rw [← hR];rfl);subst hr1;simp [k1,k10,k11,k12,qq]
theorem qtG [MaxL] [TxtC] {H:qd} {q:Nat} {s:Fs} {v:FSv} (h:FSw H q s v) (name:List UInt8) (hn:name.length < 1000000) {b:Nat} (hb:qe H b = some [.str name]) :
  call cx 37 [.optr q 5 0,.osl b 1 0 1 1] H = some (.int .i64 (Jr s name),H):=by
 have zW:=h.root;simp only [Fs.cells] at zW;have hr:=qtD name hn;refine zt Tryz.func37 rfl ⟨rfl,rfl⟩ ?_;unfold Jr;cases ho:s.off with
 | true =>
  rw [ho] at zW;simp [-qe,Tryz.f37,zW]
 | false =>
  rw [ho] at zW;simp [-qe,Tryz.f37,zW];refine qcU ?_;cases hf:JI name with
  | false =>
   rw [hf] at hr;simp [-qe,hb,hr]
  | true =>
   rw [hf] at hr;simp [-qe,hb,hr];refine qbN ?_;simp
def jD (s:Fs) (name:List UInt8):Nat:=if Jr s name≠0 then Jr s name else if (ve s.nodes name).isSome then 0 else 16
def YV (s:Fs) (v:FSv) (name:List UInt8):D:=if Jr s name≠0 then .nilp else match ve s.nodes name with | some i=>.optr (vh v i) 3 0 | none=>.nilp
theorem qci [MaxL] [TxtC] {H:qd} {q:Nat} {s:Fs} {v:FSv} (h:FSw H q s v) (hn:s.nodes.length < 1000000) (name:List UInt8) (hl:name.length < 1000000) :
  call cx 24 [.optr q 5 0,.str name] H = some (.tup [YV s v name,.int .i64 (jD s name)],qo H [.str name]):=by
 have hw:FSw (qo H [.str name]) q s v:=h.ext (Ext.new H [.str name]) fun _ _=>by simp
 have hm:=qtG hw name hl (b:=H.length) qN;have hf:=qtJ hw hn name;refine zt Tryz.func24 rfl ⟨rfl,rfl⟩ ?_;unfold jD YV;by_cases hz:Jr s name = 0
 ·rw [hz] at hm;rw [if_neg (by simpa using hz),if_neg (by simpa using hz)];cases XK:ve s.nodes name with
  | none =>
   rw [XK] at hf;simp [-qe,-qo,Tryz.f24,hm,hf]
  | some i =>
   rw [XK] at hf;simp [-qe,-qo,Tryz.f24,hm,hf]
 ·have hz':¬ ((Jr s name:Nat):Int) = 0:=by omega
  rw [if_pos (by simpa using hz),if_pos (by simpa using hz)];simp [-qe,-qo,Tryz.f24,hm,hz]
theorem qcj [MaxL] [TxtC] {H:qd} {q:Nat} {s:Fs} {v:FSv} (h:FSw H q s v) (hf:-9000000000000000000≤s.fuse∧s.fuse≤9000000000000000000) :
  call cx 26 [.optr q 5 0] H = some (.int .i64 (zS s).1,ql H q ((zS s).2.cells v)):=by
 have zW:=h.root;simp only [Fs.cells] at zW;refine zt Tryz.func26 rfl ⟨rfl,rfl⟩ ?_;unfold zS;have hself:=qa8 zW;by_cases h0:s.fuse = 0
 ·rw [if_pos h0];simp [-qe,-ql,Tryz.f26,zW,h0,Fs.cells]
 ·rw [if_neg h0];by_cases h1:0 < s.fuse
  ·rw [if_pos h1];have hw:IntKind.i64.wrap (s.fuse - 1) = s.fuse - 1:=(by rw [wrap_i64];omega);simp [-qe,-ql,Tryz.f26,zW,h0,h1,hw,Fs.cells]
  ·rw [if_neg h1];simp [-qe,-ql,Tryz.f26,zW,h0,h1,Fs.cells,hself]
theorem qbI [MaxL] [TxtC] {H:qd} {b:Nat} {x y:Sl UInt8} (h:qe H b = some [(.vsl x.nil (qf x.l) x.l.length),(.vsl y.nil (qf y.l) y.l.length)]):call cx 30 [.optr b 2 0] H = some (.int .i64 x.l.length,H):=by
 refine zt Tryz.func30 rfl ⟨rfl,rfl⟩ ?_;simp [-qe,Tryz.f30,h]
theorem qfC [MaxL] [TxtC] {H:qd} {q:Nat} {s:Fs} {v:FSv} (h:FSw H q s v) (hn:s.nodes.length < 1000000) (hb:∀ n,n∈s.nodes→n.b.l.length≤1000000) :
  call cx 25 [.optr q 5 0] H = some (.tup [.int .i64 (Js s.nodes),.int .i64 (jM s.nodes)],H):=by
 have zW:=h.root;simp only [Fs.cells] at zW;refine zt Tryz.func25 rfl ⟨rfl,rfl⟩ ?_;rcases h.row with ⟨VW,hp,hL⟩ | ⟨b,n,VW,hlen,qI,hL⟩
 ·have hl:=h.len;have:v.nd = []:=by simpa [FSv.ptrs] using hp
  rw [this] at hl;have hs:s.nodes = []:=List.length_eq_zero_iff.1 hl.symm;rw [VW] at zW;rw [hs];simp [-qe,Tryz.f25,zW];refine qbN ?_;simp [Js,jM]
 ·rw [VW] at zW;have vE:v.ptrs.length = v.nd.length:=by simp [FSv.ptrs]
  have zq:n = s.nodes.length:=by have:=h.len;omega
  subst zq;simp [-qe,Tryz.f25,zW];obtain ⟨F,hF⟩:∃ F,Js s.nodes = F:=⟨_,rfl⟩;obtain ⟨S,hS⟩:∃ S,jM s.nodes = S:=⟨_,rfl⟩;rw [hF,hS];refine Run.loopThen (fun (k:Nat) e H'=>k≤s.nodes.length∧∃ f z:Nat,f≤k∧z≤k * 1000000∧f+Js (s.nodes.drop k) = F∧z+jM (s.nodes.drop k) = S∧qg e 4 = some (.int .i64 f)∧qg e 5 = some (.int .i64 z)∧qg e 11 = some (.osl b v.ptrs.length 0 s.nodes.length 1)∧qg e 12 = some (.int .i64 s.nodes.length)∧qg e 13 = some (.int .i64 k)∧H' = H) (fun k=>s.nodes.length - k) 0 ?_ ?_
  ·exact ⟨by omega,0,0,by omega,by omega,by simpa using hF,by simpa using hS,rfl,rfl,rfl,rfl,rfl,rfl⟩
  rintro k e H' ⟨hk,f,z,hfk,hzk,hR,hR2,k4,k5,k11,k12,k13,rfl⟩;by_cases qi:k < s.nodes.length
  ·have qq:(k:Int) < (s.nodes.length:Int):=(by omega);have hw:IntKind.i64.wrap ((k:Int)+1) = ((k+1:Nat):Int):=(by rw [wrap_i64] <;> omega);have YG:k < v.nd.length:=(by rw [h.len];exact qi);obtain ⟨jf,jO⟩:=h.node k _ _ (qU qi) (Zg YG);have hbx:=hb _ (vQ qi);simp only [Nd.cells] at jf;simp only [Nd.data] at jO;have KK:=qeW YG;have hlen2:=qbI jO;rw [vR qi] at hR hR2;generalize s.nodes[k] = x at *;cases ht:x.there with
   | false =>
    rw [ht] at jf;simp [Js,jM,ht] at hR hR2;simp [-qe,k4,k5,k11,k12,k13,qq,hw,qI,KK,jf];exact ⟨k+1,by omega,by omega,f,by omega,z,jA hzk (qah _ (Nat.le_succ k)),by unfold Js;exact hR,hR2,rfl,rfl,by omega⟩
   | true =>
    rw [ht] at jf;simp [Js,jM,ht] at hR hR2;have hwf:IntKind.i64.wrap ((f:Int)+1) = ((f+1:Nat):Int):=(by rw [wrap_i64] <;> omega);have hwz:IntKind.i64.wrap ((z:Int)+(x.b.l.length:Int)) = ((z+x.b.l.length:Nat):Int):=(by rw [wrap_i64] <;> omega);simp [-qe,k4,k5,k11,k12,k13,qq,hw,qI,KK,jf,hlen2,hwf,hwz];refine ⟨k+1,by omega,by omega,f+1,by omega,z+x.b.l.length,by rw [QZ,Nat.one_mul];exact Nat.add_le_add hzk hbx,?_,by omega,by omega,by omega,by omega⟩;unfold Js;omega
  ·have qq:¬ (k:Int) < (s.nodes.length:Int):=(by omega);rw [JS (by omega)] at hR hR2;simp [Js,jM] at hR hR2;subst hR;subst hR2;simp [k4,k5,k11,k12,k13,qq]
theorem qmv [MaxL] [TxtC]:call cx 27 [] [] = some (.optr 0 2 0,[some [.vsl true [] 0,.vsl true [] 0]]):=by
 refine qA Tryz.func27 rfl ⟨rfl,rfl⟩ ?_;simp [Tryz.f27]
theorem qtE [MaxL] [TxtC]:call cx 15 [.int .i64 1048576] [] = some (.tup [.optr 0 5 0,.int .i64 0],[some [.int .i64 1048576,.int .i64 (-1),.bool false,.vsl true [] 0,.vsl true [] 0]]):=call_some.2 ⟨60,by kernel_rfl⟩
theorem qfo {H:qd} {i:Nat} {ds:List D} (h:qe H i = some ds):(H = []) = False:=eq_false fun e=>by
 have:=qt h;rw [e] at this;simp at this
theorem qwe (H:qd) (ds:List D):H ++ [some ds] = qo H ds:=rfl
def XQ (s:Fs) (name:List UInt8):Nat × Fs :=
 if jD s name = 0 then (17,s)
 else if jD s name≠16 then (jD s name,s)
 else if 24≤Js s.nodes then (15,s)
 else if (zS s).1≠0 then zS s
 else (0,{ (zS s).2 with nodes:=s.nodes ++ [⟨name,true,Sl.none,Sl.none⟩] })
theorem qfE (s:Fs):(zS s).1 = 0∨(zS s).1 = 18:=by
 unfold zS;split
 ·exact .inr rfl
 ·split
  ·exact .inl rfl
  ·exact .inl rfl
theorem qbl (s:Fs):(zS s).2.nodes = s.nodes:=by
 unfold zS;split
 ·rfl
 ·split <;> rfl
theorem qbk {H:qd} {q:Nat} {s s':Fs} {v:FSv} (h:FSw H q s v) (hn:s'.nodes = s.nodes):FSw (ql H q (s'.cells v)) q s' v:=by
 obtain ⟨f,hf⟩:=h.ty;have hq:=qt h.root;have qH:∀ i,i≠q→qe (ql H q (s'.cells v)) i = qe H i:=fun i hi=>qZ hi;refine ⟨qV hq,h.row.ext (Ext.set H q _) fun i hi=>?_,h.pend.ext (Ext.set H q _) fun i hi=>?_,by rw [hn];exact h.len,fun i n x h1 h2=>?_,f,hf⟩
 ·intro hc;have h1:=hf.row i hi;rw [List.mem_singleton.1 hc,hf.root] at h1;omega
 ·intro hc;have h1:=hf.pend i hi;rw [List.mem_singleton.1 hc,hf.root] at h1;omega
 ·rw [hn] at h1;obtain ⟨a1,a2⟩:=h.node i n x h1 h2;obtain ⟨b1,b2⟩:=hf.node i x h2;rw [qH,qH]
  ·exact ⟨a1,a2⟩
  ·intro e;rw [e,hf.root] at b2;omega
  ·intro e;rw [e,hf.root] at b1;omega
set_option maxRecDepth 4000 in
theorem qj5 [MaxL] [TxtC] {H:qd} {q:Nat} {s:Fs} {v:FSv} (h:FSw H q s v) (hn:s.nodes.length < 100000) (hp:v.pc.length < 400000) (hb:∀ n,n∈s.nodes→n.b.l.length≤1000000) (hf:-9000000000000000000≤s.fuse∧s.fuse≤9000000000000000000) (name:List UInt8) (hl:name.length < 1000000) :
  ∃ T v',call cx 7 [.optr q 5 0,.str name] H = some (.int .i64 (XQ s name).1,T)∧FSw T q (XQ s name).2 v'∧Ext (v.names q) H T∧NewL (v.names q) (v'.names q) H.length∧v'.pc.length≤v.pc.length+4:=by
 obtain ⟨H1,e1⟩:∃ H1,qo H [.str name] = H1:=⟨_,rfl⟩;have x1:Ext [] H H1:=e1 ▸ Ext.new H _;have w1:FSw H1 q s v:=h.ext x1 fun _ _=>by simp
 have hget_:=qci h (by omega) name hl;rw [e1] at hget_;have Zi:=qfC w1 (by omega) hb;have hx0:Ext (v.names q) H H1:=x1.mono fun _ hi=>by simp at hi
 unfold XQ;by_cases c0:jD s name = 0
 ·rw [if_pos c0];rw [c0] at hget_;refine ⟨H1,v,zt Tryz.func7 rfl ⟨rfl,rfl⟩ ?_,w1,hx0,NewL.refl _ _,by omega⟩;simp [-qe,-ql,-qo,Tryz.f7,hget_,Zi]
 rw [if_neg c0];by_cases c1:jD s name = 16
 rotate_left
 ·rw [if_pos c1];have c0':¬ ((jD s name:Nat):Int) = 0:=by omega
  have c1':¬ ((jD s name:Nat):Int) = 16:=by omega
  refine ⟨H1,v,zt Tryz.func7 rfl ⟨rfl,rfl⟩ ?_,w1,hx0,NewL.refl _ _,by omega⟩;simp [-qe,-ql,-qo,Tryz.f7,hget_,Zi,c0,c1']
 rw [if_neg (by simpa using c1)];rw [c1] at hget_;by_cases c2:24≤Js s.nodes
 ·rw [if_pos c2];have c2':(24:Int)≤((Js s.nodes:Nat):Int):=by omega
  refine ⟨H1,v,zt Tryz.func7 rfl ⟨rfl,rfl⟩ ?_,w1,hx0,NewL.refl _ _,by omega⟩;simp [-qe,-ql,-qo,Tryz.f7,hget_,Zi,c2']
 rw [if_neg c2];have c2':¬ (24:Int)≤((Js s.nodes:Nat):Int):=by omega
 have vl:=qcj w1 hf;obtain ⟨H2,e2⟩:∃ H2,ql H1 q ((zS s).2.cells v) = H2:=⟨_,rfl⟩;have w2:FSw H2 q (zS s).2 v:=e2 ▸ qbk w1 (qbl s);have x2:Ext [q] H1 H2:=e2 ▸ Ext.set H1 q _;rw [e2] at vl;have hx2:Ext (v.names q) H H2:=hx0.trans (x2.mono fun i hi=>by rw [List.mem_singleton.1 hi];simp [FSv.names]) (NewL.refl _ _);by_cases c3:(zS s).1 = 0
 rotate_left
 ·rw [if_pos c3];have c3':(zS s).1 = 18:=(qfE s).resolve_left c3;rw [c3'] at vl;refine ⟨H2,v,zt Tryz.func7 rfl ⟨rfl,rfl⟩ ?_,w2,hx2,NewL.refl _ _,by omega⟩;simp [-qe,-ql,-qo,Tryz.f7,hget_,Zi,c2',vl,c3']
 rw [if_neg (by simpa using c3)];rw [c3] at vl;obtain ⟨s2,Zj⟩:∃ s2,(zS s).2 = s2:=⟨_,rfl⟩;have Vk:s2.nodes = s.nodes:=by rw [← Zj];exact qbl s
 rw [Zj] at w2 ⊢;obtain ⟨f,hf2⟩:=w2.ty;have jL:=qt w2.root;have ka:=qmv;obtain ⟨a2,l2⟩:∃ a,H2.length = a:=⟨_,rfl⟩;obtain ⟨H3,e3⟩:∃ K,qo H2 [.vsl true [] 0,.vsl true [] 0] = K:=⟨_,rfl⟩;have l3:H3.length = a2+1:=by rw [← e3,zG,l2]
 obtain ⟨a3,f3⟩:∃ a,a2+1 = a:=⟨_,rfl⟩;rw [f3] at l3;have lt23:a2 < a3:=by omega
 obtain ⟨H4,e4⟩:∃ K,qo H3 [.str name,.bool true,.optr a2 2 0] = K:=⟨_,rfl⟩;have l4':H4.length = a3+1:=by rw [← e4,zG,l3]
 obtain ⟨a4,f4⟩:∃ a,a3+1 = a:=⟨_,rfl⟩;have l4:H4.length = a4:=by omega
 have lt34:a3 < a4:=by omega
 have x34:Ext [] H2 H4:=(e3 ▸ Ext.new H2 _:Ext [] H2 H3).trans (e4 ▸ Ext.new H3 _) (NewL.refl _ _);have w4:FSw H4 q s2 v:=w2.ext x34 fun _ _=>by simp
 have r4:=w4.root;simp only [Fs.cells] at r4
 have ga2:qe H4 a2 = some [.vsl true [] 0,.vsl true [] 0]:=by
  rw [← e4,jF (by omega),← e3,← l2,qN]
 have ga3:qe H4 a3 = some [.str name,.bool true,.optr a2 2 0]:=by rw [← e4,← l3,qN]
 obtain ⟨H5,e5⟩:∃ K,qo H4 [.optr a3 3 0] = K:=⟨_,rfl⟩;have x5:Ext [] H4 H5:=e5 ▸ Ext.new H4 _;have w5:FSw H5 q s2 v:=w4.ext x5 fun _ _=>by simp
 have g5:qe H5 a4 = some [.optr a3 3 0]:=by rw [← e5,← l4,qN]
 have vE:v.ptrs.length = s.nodes.length:=by rw [← Vk,← w2.len];simp [FSv.ptrs]
 obtain ⟨nv',H6,L6,hA,hR6,x6,n6⟩:=w5.row.append (P:=Tryz.prog) (st:=78) (xt:=78) (e:=69) (x:=.osl a4 1 0 1 1) (xs:=[.optr a3 3 0]) (m:=1) (by simp) (by simp) (by simp [-qe,g5]) (by simp) (by omega) (by simp) (by omega) (by simp [qw];omega) (by simp [qw];omega);obtain ⟨r,n,hv6,hlen6,Z7,Vo⟩:=hR6.own (by simp);have hq6:q ∉ v.Ln:=fun hc=>by have:=hf2.row q hc;rw [hf2.root] at this;omega
 have r6:=x6.get w5.root hq6;simp only [Fs.cells] at r6;have hlt6:r < H6.length:=qt Z7;subst hv6;have hpl1:(v.ptrs ++ ([.optr a3 3 0]:List D)).length = v.ptrs.length+1:=by simp
 rw [hpl1] at hA;obtain ⟨H7,e7⟩:∃ K,ql H6 q [.int .i64 s2.room,.int .i64 s2.fuse,.bool s2.off,.osl r (v.ptrs.length+1) 0 n 1,v.pv] = K:=⟨_,rfl⟩;have r7:qe H7 q = some [.int .i64 s2.room,.int .i64 s2.fuse,.bool s2.off,.osl r (v.ptrs.length+1) 0 n 1,v.pv]:=by rw [← e7];exact qV (qt r6)
 obtain ⟨a7,l7⟩:∃ a,H7.length = a:=⟨_,rfl⟩;obtain ⟨H8,e8⟩:∃ K,qo H7 [.int .i64 0,.optr a3 3 0,.str [],.nilp] = K:=⟨_,rfl⟩;have g8:qe H8 a7 = some [.int .i64 0,.optr a3 3 0,.str [],.nilp]:=by rw [← e8,← l7,qN]
 have r8:qe H8 q = some [.int .i64 s2.room,.int .i64 s2.fuse,.bool s2.off,.osl r (v.ptrs.length+1) 0 n 1,v.pv]:=by rw [← e8,jF (qt r7)];exact r7
 have lt37:a3 < a7:=by
  have h1:=x5.len;have h2:=x6.len;rw [← l7,← e7,kN];omega
 have hp8:RowA H8 4 v.pv v.pc v.Lp:=by
  have p6:RowA H6 4 v.pv v.pc v.Lp:=w5.pend.ext x6 fun i hi hc=>by have h1:=hf2.row i hc;have h2:=hf2.pend i hi;omega
  have p7:RowA H7 4 v.pv v.pc v.Lp:=p6.ext (e7 ▸ Ext.set H6 q _) fun i hi hc=>by have h2:=hf2.pend i hi;rw [List.mem_singleton.1 hc,hf2.root] at h2;omega
  exact p7.ext (e8 ▸ Ext.new H7 _) fun _ _=>by simp
 obtain ⟨pv',H9,L9,Ki,hR9,x9,n9⟩:=hp8.append (P:=Tryz.prog) (st:=79) (xt:=79) (e:=83) (x:=.osl a7 4 0 1 4) (xs:=[.int .i64 0,.optr a3 3 0,.str [],.nilp]) (m:=1) (by simp) (by simp) (by simp [-qe,g8]) (by simp) (by omega) (by simp) (by omega) (by simp [qw];omega) (by simp [qw];omega);obtain ⟨rp,np,hv9,hlen9,hr9,hL9⟩:=hR9.own (by simp);have hq9:q ∉ v.Lp:=fun hc=>by have:=hf2.pend q hc;rw [hf2.root] at this;omega
 have r9:=x9.get r8 hq9;have hlt9:rp < H9.length:=qt hr9;subst hv9;have Y9:(v.pc ++ ([.int .i64 0,.optr a3 3 0,.str [],.nilp]:List D)).length = v.pc.length+4:=by simp
 rw [Y9] at Ki;obtain ⟨HT,eT⟩:∃ K,ql H9 q [.int .i64 s2.room,.int .i64 s2.fuse,.bool s2.off,.osl r (v.ptrs.length+1) 0 n 1,.osl rp (v.pc.length+4) 0 np 4] = K:=⟨_,rfl⟩;have l67:H7.length = H6.length:=by rw [← e7,kN]
 have l78:H8.length = H7.length+1:=by rw [← e8,zG]
 have l9T:HT.length = H9.length:=by rw [← eT,kN]
 have l45:H5.length = a4+1:=by rw [← e5,zG,l4]
 have l56:=x6.len;have l89:=x9.len;have Z6:=n6 r (by rw [Vo];simp);have hrp:=n9 rp (by rw [hL9];simp);have hx5:Ext (v.names q) H H5:=(hx2.trans x34 (fun _ hi=>by simp at hi)).trans x5 (fun _ hi=>by simp at hi);have old5:∀ i,i∈v.names q→i < H2.length:=fun i hi=>w2.lt hi
 have hrq:r≠q:=by
  intro e;rcases Z6 with hr | hr
  ·have:=hf2.row r hr;rw [e,hf2.root] at this;omega
  ·omega
 have hrpq:rp≠q:=by
  intro e;rcases hrp with hr | hr
  ·have:=hf2.pend rp hr;rw [e,hf2.root] at this;omega
  ·omega
 have hrLp:r ∉ v.Lp:=by
  intro hc;rcases Z6 with hr | hr
  ·have h1:=hf2.row r hr;have h2:=hf2.pend r hc;omega
  ·have:=old5 r (by simp [FSv.names,hc]);omega
 have hra:r≠a3∧r≠a2:=by
  rcases Z6 with hr | hr
  ·have:=old5 r (by simp [FSv.names,hr]);omega
  ·omega
 have hrpa:rp≠a3∧rp≠a2:=by
  rcases hrp with hr | hr
  ·have:=old5 rp (by simp [FSv.names,hr]);omega
  ·omega
 have hrpr:rp≠r:=by
  intro e;rcases hrp with hr | hr
  ·exact hrLp (e ▸ hr)
  ·omega
 have k6:∀ i,i < H6.length→i≠q→i ∉ v.Lp→qe HT i = qe H6 i:=by
  intro i hi hiq hip;rw [← eT,qZ hiq,x9.out i (by omega) hip,← e8,jF (by omega),← e7,qZ hiq]
 have key:∀ i,i < H5.length→i≠q→i ∉ v.Ln→i ∉ v.Lp→qe HT i = qe H5 i:=by
  intro i hi hiq Vl hip;rw [k6 i (by omega) hiq hip,x6.out i hi Vl]
 refine ⟨HT,⟨v.nd ++ [(a3,a2)],.osl r (v.ptrs.length+1) 0 n 1,.osl rp (v.pc.length+4) 0 np 4,v.pc ++ [.int .i64 0,.optr a3 3 0,.str [],.nilp],[r],[rp]⟩,zt Tryz.func7 rfl ⟨rfl,rfl⟩ ?_,?_,?_,?_,?_⟩
 ·simp [-qe,-ql,-qo,-qM,Tryz.f7,hget_,Zi,c2',vl,ka,qwe,e3,e4,e5,l2,l3,l4,lt23,r4,hA,r6,hlt6,e7,l7,r7,e8,Ki,r9,hlt9,eT,qC,qfo r4,qfo r7]
 ·refine ⟨by rw [← eT];exact qV (qt r9),?_,?_,?_,?_,?_⟩
  ·have hp':FSv.ptrs ⟨v.nd ++ [(a3,a2)],.osl r (v.ptrs.length+1) 0 n 1,.osl rp (v.pc.length+4) 0 np 4,v.pc ++ [.int .i64 0,.optr a3 3 0,.str [],.nilp],[r],[rp]⟩ = v.ptrs ++ [.optr a3 3 0]:=(by simp [FSv.ptrs]);rw [hp'];refine .inr ⟨r,n,by rw [hpl1],hlen6,by rw [k6 r hlt6 hrq hrLp];exact Z7,rfl⟩
  ·exact .inr ⟨rp,np,by rw [Y9],hlen9,by rw [← eT,qZ hrpq];exact hr9,rfl⟩
  ·simp only [qX,ju,jR];rw [w2.len,Vk]
  ·intro i nd x h1 h2;have hl5:v.nd.length = s.nodes.length:=(by rw [w2.len,Vk]);by_cases qi:i < s.nodes.length
   ·have zR:s2.nodes[i]? = some nd:=(by rw [Vk];rw [← h1];exact (jX qi).symm);have vn:v.nd[i]? = some x:=(by rw [← h2];exact (jX (by omega)).symm);obtain ⟨b1,b2⟩:=w5.node i nd x zR vn;obtain ⟨t1,t2⟩:=hf2.node i x vn
    have hnot:∀ j k,f j = k→3≤k→j≠q∧j ∉ v.Ln∧j ∉ v.Lp:=by
     intro j k hj hk;refine ⟨fun e=>?_,fun hc=>?_,fun hc=>?_⟩
     ·rw [e,hf2.root] at hj;omega
     ·have:=hf2.row j hc;omega
     ·have:=hf2.pend j hc;omega
    obtain ⟨u1,u2,u3⟩:=hnot _ _ t1 (by omega);obtain ⟨y1,y2,y3⟩:=hnot _ _ t2 (by omega);rw [key _ (qt b1) u1 u2 u3,key _ (qt b2) y1 y2 y3];exact ⟨b1,b2⟩
   ·have hi:i = s.nodes.length:=by
     have:=(List.getElem?_eq_some_iff.1 h1).1;simp only [qX,ju,jR] at this;omega
    subst hi;have e1:nd = ⟨name,true,Sl.none,Sl.none⟩:=by simpa using h1.symm
    have e2:x = (a3,a2):=by
     rw [ku (by omega),hl5,Nat.sub_self] at h2;simpa using h2.symm
    subst e1 e2;have old:∀ j,H2.length≤j→j≠q∧j ∉ v.Ln∧j ∉ v.Lp:=fun j hj=>⟨by omega,fun hc=>by have:=old5 j (by simp [FSv.names,hc]);omega,fun hc=>by have:=old5 j (by simp [FSv.names,hc]);omega⟩;obtain ⟨u1,u2,u3⟩:=old a3 (by omega);obtain ⟨y1,y2,y3⟩:=old a2 (by omega);rw [key _ (by omega) u1 u2 u3,key _ (by omega) y1 y2 y3,← e5,jF (by omega),jF (by omega)];exact ⟨ga3,ga2⟩
  ·refine ⟨fun i=>if i = a3 then 3+2 * s.nodes.length else if i = a2 then 4+2 * s.nodes.length else if i = r then 1 else if i = rp then 2 else f i,?_,?_,?_,?_⟩
   ·show (if q = a3 then _ else _) = 0;rw [if_neg (by omega),if_neg (by omega),if_neg hrq.symm,if_neg hrpq.symm];exact hf2.root
   ·intro i hi;rw [List.mem_singleton.1 hi];show (if r = a3 then _ else _) = 1;rw [if_neg hra.1,if_neg hra.2,if_pos rfl]
   ·intro i hi;rw [List.mem_singleton.1 hi];show (if rp = a3 then _ else _) = 2;rw [if_neg hrpa.1,if_neg hrpa.2,if_neg hrpr,if_pos rfl]
   ·intro j x hj;have hl5:v.nd.length = s.nodes.length:=(by rw [w2.len,Vk]);by_cases qi:j < s.nodes.length
    ·have vG:v.nd[j]? = some x:=(by rw [← hj];exact (jX (by omega)).symm);obtain ⟨t1,t2⟩:=hf2.node j x vG;have hm:=ZS vG
     have g:∀ y k,f y = k→3≤k→y < H2.length→(if y = a3 then 3+2 * s.nodes.length else if y = a2 then 4+2 * s.nodes.length else if y = r then 1 else if y = rp then 2 else f y) = k:=by
      intro y k hy hk hl;rw [if_neg (by omega),if_neg (by omega),if_neg ?_,if_neg ?_]
      ·exact hy
      ·intro e;rcases hrp with hr | hr
       ·have:=hf2.pend rp hr;rw [← e] at this;omega
       ·omega
      ·intro e;rcases Z6 with hr | hr
       ·have:=hf2.row r hr;rw [← e] at this;omega
       ·omega
     exact ⟨g _ _ t1 (by omega) (old5 _ (by simp only [FSv.names,zA,ji,kI];exact .inr (.inr (.inr (.inl ⟨x,hm,rfl⟩))))),g _ _ t2 (by omega) (old5 _ (by simp only [FSv.names,zA,ji,kI];exact .inr (.inr (.inr (.inr ⟨x,hm,rfl⟩)))))⟩
    ·have KR:j = s.nodes.length:=by
      have:=(List.getElem?_eq_some_iff.1 hj).1;simp only [qX,ju,jR] at this;omega
     subst KR
     have e2:x = (a3,a2):=by
      rw [ku (by omega),hl5,Nat.sub_self] at hj;simpa using hj.symm
     subst e2;refine ⟨?_,?_⟩
     ·show (if a3 = a3 then _ else _) = _;rw [if_pos rfl]
     ·show (if a2 = a3 then _ else _) = _;rw [if_neg (by omega),if_pos rfl]
 ·refine ⟨by have:=hx5.len;omega,fun i hi hn=>?_⟩;rw [key i (by have:=hx5.len;omega) (fun e=>hn (by simp [FSv.names,e])) (fun hc=>hn (by simp [FSv.names,hc])) (fun hc=>hn (by simp [FSv.names,hc])),hx5.out i hi hn]
 ·intro i hi;have lH:H.length≤H2.length:=hx2.len;simp only [FSv.names,List.map_append,List.map_cons,List.map_nil,zA,ji,List.not_mem_nil,or_false] at hi ⊢;rcases hi with hi | hi | hi | (hi | hi) | (hi | hi)
  ·exact .inl (.inl hi)
  ·subst hi;rcases Z6 with hr | hr
   ·exact .inl (.inr (.inl hr))
   ·exact .inr (by omega)
  ·subst hi;rcases hrp with hr | hr
   ·exact .inl (.inr (.inr (.inl hr)))
   ·exact .inr (by omega)
  ·exact .inl (.inr (.inr (.inr (.inl hi))))
  ·exact .inr (by omega)
  ·exact .inl (.inr (.inr (.inr (.inr hi))))
  ·exact .inr (by omega)
 ·simp
theorem qh1 {H:qd} {k:Nat} {v:D} {cs:List D} {L:List Nat} (h:RowA H k v cs L):cellsOf v = some [v]:=by
 rcases h with ⟨rfl,_⟩ | ⟨r,n,rfl,_⟩ <;> rfl
theorem qh0 {H:qd} {k n:Nat} {v:D} {cs:List D} {L:List Nat} (h:RowA H k v cs L) (hn:H.length≤n):closed n v = true:=by
 rcases h with ⟨rfl,_⟩ | ⟨r,m,rfl,_,h3,_⟩
 ·rfl
 ·have:=qt h3;simp only [closed,decide_eq_true_eq];omega
theorem qgk [MaxL] [TxtC] (s:Sl UInt8) (hn:s.l.length≤1000000):∃ d L0,call cx 59 [(.vsl s.nil (qf s.l) s.l.length)] [] = some (d,L0)∧∀ H:qd,∃ Lz,RowA (H ++ L0) 1 (shift H.length d) (qf s.l) Lz∧Ext [] H (H ++ L0)∧∀ i,i∈Lz→i = H.length∧H.length < (H ++ L0).length:=by
 have h:=qkG s (by omega);by_cases hz:s.nil = true
 ·have hl:=s.h hz;rw [if_pos hz] at h;refine ⟨_,_,h,fun H=>⟨[],.inl ⟨rfl,by rw [hl];rfl,rfl⟩,Ext.app H [],by simp⟩⟩
 ·rw [if_neg hz] at h;refine ⟨_,_,h,fun H=>⟨[H.length],.inr ⟨H.length,s.l.length,?_,by simp,?_,rfl⟩,Ext.app H _,fun i hi=>⟨List.mem_singleton.1 hi,by simp⟩⟩⟩
  ·simp [shift]
  ·exact qN
theorem qvt (cs:List D):cellsOf (.agg cs) = some cs:=rfl
theorem qhi [MaxL] [TxtC] {H:qd} {b:Nat} {x y:Sl UInt8} (h:qe H b = some [(.vsl x.nil (qf x.l) x.l.length),(.vsl y.nil (qf y.l) y.l.length)]) (hx:x.l.length≤1000000) (hy:y.l.length≤1000000) :
  ∃ c bx cy T Lx Ly,call cx 28 [.optr b 2 0] H = some (.optr c 2 0,T)∧qe T c = some [bx,cy]∧RowA T 1 bx (qf x.l) Lx∧RowA T 1 cy (qf y.l) Ly∧(∀ i,i∈Lx→H.length≤i∧i < c)∧(∀ i,i∈Ly→H.length≤i∧i < c∧i ∉ Lx)∧H.length≤c∧Ext [] H T:=by
 obtain ⟨dx,X0,c1,k1⟩:=qgk x hx;obtain ⟨dy,Y0,c2,k2⟩:=qgk y hy;obtain ⟨Lx,r1,x1,m1⟩:=k1 H;obtain ⟨bx,e1⟩:∃ d,shift H.length dx = d:=⟨_,rfl⟩;obtain ⟨H1,e2⟩:∃ K,H ++ X0 = K:=⟨_,rfl⟩;rw [e1,e2] at r1;rw [e2] at x1 m1;obtain ⟨Ly,r2,x2,m2⟩:=k2 H1;obtain ⟨cy,e3⟩:∃ d,shift H1.length dy = d:=⟨_,rfl⟩;obtain ⟨H2,e4⟩:∃ K,H1 ++ Y0 = K:=⟨_,rfl⟩;rw [e3,e4] at r2;rw [e4] at x2 m2;have g1:qe H1 b = some [(.vsl x.nil (qf x.l) x.l.length),(.vsl y.nil (qf y.l) y.l.length)]:=x1.get h (by simp);have r1':=r1.ext x2 fun _ _=>by simp
 have t1:=qh1 r1;have t2:=qh1 r2;have t3:=qh0 (n:=H2.length) r1' (qv _);have t4:=qh0 (n:=H2.length) r2 (qv _);have l1:=x1.len;have l2:=x2.len;have x3:=Ext.new H2 [bx,cy];refine ⟨H2.length,bx,cy,qo H2 [bx,cy],Lx,Ly,zt Tryz.func28 rfl ⟨rfl,rfl⟩ ?_,qN,r1'.ext x3 fun _ _=>by simp,r2.ext x3 fun _ _=>by simp,fun i hi=>?_,fun i hi=>?_,by omega,(x1.trans x2 (NewL.refl _ _)).trans x3 (NewL.refl _ _)⟩
 ·simp [-qe,-ql,-qo,-cellsOf,Tryz.f28,h,c1,e1,e2,g1,c2,e3,e4,t1,t2,t3,t4,qvt]
 ·obtain ⟨a1,a2⟩:=m1 i hi;omega
 ·obtain ⟨a1,a2⟩:=m2 i hi;refine ⟨by omega,by omega,fun hc=>?_⟩;obtain ⟨a3,a4⟩:=m1 i hc;omega
def kJ (l:List UInt8) (a:Nat) (b:List UInt8):List UInt8:=(l ++ List.replicate (a+b.length - l.length) 0).take a ++ b ++ (l ++ List.replicate (a+b.length - l.length) 0).drop (a+b.length)
def kf (a:Nat) (b:List UInt8):Nat:=if 32768 < a∨32768 < a+b.length then 15 else 0
def vg (l:List UInt8) (a:Nat) (b:List UInt8):List UInt8:=if kf a b = 0∧b≠[] then kJ l a b else l
theorem qmt [MaxL] [TxtC] {H:qd} {c:Nat} {bx cy:D} {l:List UInt8} {Lx:List Nat} (h:qe H c = some [bx,cy]) (hr:RowA H 1 bx (qf l) Lx) (hc:c ∉ Lx) (hl:l.length≤1000000) (a:Nat) (ha:a≤1000000000) (b:Sl UInt8) (hb:b.l.length≤1000000000) :
  ∃ bx' T Lx',call cx 29 [.optr c 2 0,.int .i64 a,(.vsl b.nil (qf b.l) b.l.length)] H = some (.int .i64 (kf a b.l),T)∧qe T c = some [bx',cy]∧RowA T 1 bx' (qf (vg l a b.l)) Lx'∧Ext (c :: Lx) H T∧NewL Lx Lx' H.length∧c ∉ Lx':=by
 have Jn:¬ (a:Int) < 0:=by omega
 have qY:=qt h;by_cases h1:32768 < a
 ·have zR:(32768:Int) < (a:Int):=by omega
  have hC:kf a b.l = 15:=by simp [kf,h1]
  have hR:vg l a b.l = l:=by simp [vg,hC]
  rw [hC,hR];refine ⟨bx,H,Lx,zt Tryz.func29 rfl ⟨rfl,rfl⟩ ?_,h,hr,Ext.refl _ _,NewL.refl _ _,hc⟩;simp [-qe,-ql,-qo,Tryz.f29,Jn,zR]
 have zR:¬ (32768:Int) < (a:Int):=by omega
 have zB:IntKind.i64.wrap (32768 - (a:Int)) = 32768 - (a:Int):=by rw [wrap_i64];omega
 by_cases h2:32768 < a+b.l.length
 ·have vn:(32768:Int) - (a:Int) < (b.l.length:Int):=by omega
  have hC:kf a b.l = 15:=by simp [kf,h2]
  have hR:vg l a b.l = l:=by simp [vg,hC]
  rw [hC,hR];refine ⟨bx,H,Lx,zt Tryz.func29 rfl ⟨rfl,rfl⟩ ?_,h,hr,Ext.refl _ _,NewL.refl _ _,hc⟩;simp [-qe,-ql,-qo,Tryz.f29,Jn,zR,zB,vn]
 have vn:¬ (32768:Int) - (a:Int) < (b.l.length:Int):=by omega
 have hC:kf a b.l = 0:=by simp [kf];omega
 rw [hC];by_cases h3:b.l = []
 ·have hR:vg l a b.l = l:=by simp [vg,h3]
  have hz:(b.l.length:Int) = 0:=by simp [h3]
  rw [hR];refine ⟨bx,H,Lx,zt Tryz.func29 rfl ⟨rfl,rfl⟩ ?_,h,hr,Ext.refl _ _,NewL.refl _ _,hc⟩;simp [-qe,-ql,-qo,-Int.natCast_eq_zero,-List.length_eq_zero_iff,Tryz.f29,Jn,zR,zB,hz,show ¬ ((32768:Int) - (a:Int) < 0) by omega]
 have jG:0 < b.l.length:=List.length_pos_iff.2 h3;have hR:vg l a b.l = kJ l a b.l:=by simp [vg,hC,h3]
 rw [hR];have hz:¬ (b.l.length:Int) = 0:=by omega
 have QO:(((b.l.length:Nat):Int) == 0) = false:=by simpa using h3
 have zp:IntKind.i64.wrap ((a:Int)+(b.l.length:Int)) = (a:Int)+(b.l.length:Int):=by rw [wrap_i64];omega
 have V5:IntKind.i64.wrap ((a:Int)+(b.l.length:Int) - (l.length:Int)) = (a:Int)+(b.l.length:Int) - (l.length:Int):=by rw [wrap_i64];omega
 have hlb:(qf l).length = l.length:=by simp
 obtain ⟨m,hm⟩:∃ m,a+b.l.length - l.length = m:=⟨_,rfl⟩;obtain ⟨p,hp⟩:∃ p,l ++ List.replicate m 0 = p:=⟨_,rfl⟩;have vE:p.length = l.length+m:=by rw [← hp];simp
 have hpo:qf p = qf l ++ qf (List.replicate m 0):=by rw [← hp];simp [qf]
 have vY:kJ l a b.l = p.take a ++ b.l ++ p.drop (a+b.l.length):=by unfold kJ;rw [hm,hp]
 have hs:∀ r:Nat,JW Tryz.prog 26 (.osl r p.length 0 p.length 1) (some (.int .i64 a)) none = some (.osl r p.length a (p.length - a) 1):=by
  intro r;have e1:(a:Int)≤(p.length:Int):=by omega
  have e2:a = 0∨a < p.length:=by omega
  simp [e1,e2]
 have hcp:∀ (r:Nat) (T:qd),qe T r = some (qf p)→Xg Tryz.prog T 26 26 (.osl r p.length a (p.length - a) 1) (.vsl b.nil (qf b.l) b.l.length) = some (.int .i64 b.l.length,ql T r (qf (kJ l a b.l))):=by
  intro r T hT;have e1:min b.l.length (p.length - a) = b.l.length:=by omega
  have e2:a+(p.length - a)≤p.length:=by omega
  have e3:(qf b.l).take b.l.length = qf b.l:=qP (by simp);simp [-qe,-ql,hT,e1,e2,e3];rw [vY];simp [qf,List.map_take,List.map_drop]
 have JH:(kJ l a b.l).length = p.length:=by rw [vY];simp;omega
 by_cases hgr:l.length < a+b.l.length
 ·have hg:(0:Int) < (a:Int)+(b.l.length:Int) - (l.length:Int):=by omega
  have jb:((a:Int)+(b.l.length:Int) - (l.length:Int)).toNat = m:=by omega
  have J8:Ku Tryz.prog H 5 3 (.int .i64 ((a:Int)+(b.l.length:Int) - (l.length:Int))) = some (qf (List.replicate m 0),m):=by
   have e1:(0:Int)≤(a:Int)+(b.l.length:Int) - (l.length:Int)∧(a:Int)+(b.l.length:Int) - (l.length:Int)≤(qw:Int)∧((a:Int)+(b.l.length:Int) - (l.length:Int)).toNat * bytesOf Tryz.prog 5≤qw:=by
    refine ⟨by omega,by simp only [qw];omega,?_⟩;rw [jb];simp [qw];omega
   have e2:Zd Tryz.prog 5 m = some (qf (List.replicate m 0)):=by
    simp [Zd,qf]
   unfold Ku;simp only [show Tryz.prog.underlying 3 = some (.int .i64) from by simp];rw [if_pos e1,jb,e2];rfl
  obtain ⟨nv,H6,L6,hA,hR6,x6,n6⟩:=hr.append (P:=Tryz.prog) (st:=26) (xt:=3) (e:=5) (x:=.int .i64 ((a:Int)+(b.l.length:Int) - (l.length:Int))) (xs:=qf (List.replicate m 0)) (m:=m) (by simp) (by simp) J8 (by simp) (by omega) (by simp) (by omega) (by simp [qw];omega) (by simp [qw];omega);rw [← hpo] at hR6
  obtain ⟨r,n,hv6,hlen6,Z7,Vo⟩:=hR6.own (by
   intro e;have h0:(qf p).length = 0:=(by rw [e];rfl);rw [show (qf p).length = p.length by simp] at h0;omega)
  have hn:n = p.length:=by simpa using hlen6.symm
  subst hn;subst hv6;have YA:(qf p).length = p.length:=by simp
  rw [YA] at hA;have Z6:=n6 r (by rw [Vo];simp)
  have Ql:r≠c:=by
   intro e;rcases Z6 with h1 | h1
   ·exact hc (e ▸ h1)
   ·omega
  have r6:=x6.get h hc;have hlt6:r < H6.length:=qt Z7;obtain ⟨H7,e7⟩:∃ K,ql H6 c [.osl r p.length 0 p.length 1,cy] = K:=⟨_,rfl⟩;have r7:qe H7 c = some [.osl r p.length 0 p.length 1,cy]:=by rw [← e7];exact qV (qt r6)
  have g7:qe H7 r = some (qf p):=by rw [← e7,qZ Ql];exact Z7
  have x7:Ext [c] H6 H7:=e7 ▸ Ext.set H6 c _;have hlen:=x6.len
  have xT:Ext (c :: Lx) H (ql H7 r (qf (kJ l a b.l))):=by
   refine ⟨by rw [kN];have:=x7.len;omega,fun i hi hn=>?_⟩;simp only [zA,not_or] at hn;rw [qZ ?_,x7.out i (by omega) (by simpa using hn.1),x6.out i hi hn.2];intro e;rcases Z6 with h1 | h1
   ·exact hn.2 (e ▸ h1)
   ·omega
  refine ⟨.osl r p.length 0 p.length 1,ql H7 r (qf (kJ l a b.l)),[r],zt Tryz.func29 rfl ⟨rfl,rfl⟩ ?_,by rw [qZ (Ne.symm Ql)];exact r7,.inr ⟨r,p.length,by simp [JH],by simp [JH],qV (qt g7),rfl⟩,xT,fun i hi=>by rw [List.mem_singleton.1 hi];exact Z6,by simpa using Ne.symm Ql⟩
  have Jh:zj Tryz.prog 26 bx = some (.int .i64 l.length):=by
   rcases hr with ⟨rfl,hl0,_⟩ | ⟨r0,n0,rfl,hl0,_⟩
   ·have:l.length = 0:=(by rw [← hlb,hl0];rfl);simp [this]
   ·have:n0 = l.length:=(by simpa using hl0.symm);simp [this]
  have hlb2:zj Tryz.prog 26 (.vsl b.nil (qf b.l) b.l.length) = some (.int .i64 b.l.length):=by simp
  simp [-qe,-ql,-qo,-qM,-JW,-Xg,-zj,hlb2,Tryz.f29,Jn,zR,zB,vn,QO,h,Jh,zp,V5,show (l.length:Int) < (a:Int)+(b.l.length:Int) by omega,hA,r6,hlt6,e7,r7,hs,hcp,g7]
 ·have hg:¬ (0:Int) < (a:Int)+(b.l.length:Int) - (l.length:Int):=by omega
  have XA:m = 0:=by omega
  have hpl0:p = l:=by rw [← hp,XA];simp
  obtain ⟨r,n,hv,hlen6,Z7,Vo⟩:=hr.own (by
   intro e;have h0:(qf l).length = 0:=(by rw [e];rfl);rw [hlb] at h0;omega)
  have hn:n = l.length:=by simpa using hlen6.symm
  subst hn;subst hv;rw [hlb] at h;rw [← hpl0] at h Z7
  have Ql:r≠c:=by
   intro e;exact hc (by rw [Vo,e];simp)
  have x7:Ext [r] H (ql H r (qf (kJ l a b.l))):=Ext.set H r _;refine ⟨.osl r p.length 0 p.length 1,ql H r (qf (kJ l a b.l)),[r],zt Tryz.func29 rfl ⟨rfl,rfl⟩ ?_,by rw [qZ (Ne.symm Ql)];exact h,.inr ⟨r,p.length,by simp [JH],by simp [JH],qV (qt Z7),rfl⟩,x7.mono fun i hi=>by rw [List.mem_singleton.1 hi,Vo];simp,fun i hi=>.inl (by rw [Vo];exact hi),by simpa using Ne.symm Ql⟩;have hlb2:zj Tryz.prog 26 (.vsl b.nil (qf b.l) b.l.length) = some (.int .i64 b.l.length):=by simp
  have Jh:zj Tryz.prog 26 (.osl r p.length 0 p.length 1) = some (.int .i64 l.length):=by simp [hpl0]
  simp [-qe,-ql,-qo,-qM,-JW,-Xg,-zj,hlb2,Tryz.f29,Jn,zR,zB,vn,QO,h,Jh,zp,V5,show ¬ (l.length:Int) < (a:Int)+(b.l.length:Int) by omega,hs,hcp,Z7]
theorem qeA {H:qd} {v:D} {l:List UInt8} {L:List Nat} (h:RowA H 1 v (qf l) L):∃ nl,zF H 9 v = some (.vsl nl (qf l) l.length,L)∧(nl = true→l = []):=by
 rcases h with ⟨rfl,h1,rfl⟩ | ⟨r,n,rfl,h1,h2,rfl⟩
 ·have hl:l = []:=by
   cases l with
   | nil=>rfl
   | cons a l=>simp [qf] at h1
  subst hl;exact ⟨true,rfl,fun _=>rfl⟩
 ·have hn:n = l.length:=by simpa using h1.symm
  subst hn;refine ⟨false,?_,fun h=>by cases h⟩;have e1:0+l.length * 1≤(qf l).length:=by simp
  unfold zF;simp only [idFree,kB,if_false,h2];rw [if_pos (by simp)];simp
theorem Xi {l:List Nat}:∀ {H:qd} {i:Nat},i ∉ l→qe (jq H l) i = qe H i:=by
 induction l with
 | nil=>intro H i _;rfl
 | cons j l ih =>
  intro H i hi;simp only [zA,not_or] at hi;rw [jq,ih hi.2];unfold qe;rw [List.getElem?_set_ne (Ne.symm hi.1)]
theorem qgQ {H:qd} {c:Nat} {x y:D} {l m:List UInt8} {Lx Ly:List Nat} (h:qe H c = some [x,y]) (hx:RowA H 1 x (qf l) Lx) (hy:RowA H 1 y (qf m) Ly) (hcx:c ∉ Lx) (hcy:c ∉ Ly) :
  ∃ (a b:Sl UInt8) (T:qd),kh H c = some T∧a.l = l∧b.l = m∧qe T c = some [(.vsl a.nil (qf a.l) a.l.length),(.vsl b.nil (qf b.l) b.l.length)]∧Ext (c :: (Lx ++ Ly)) H T:=by
 obtain ⟨nx,s1,t1⟩:=qeA hx;obtain ⟨ny,s2,t2⟩:=qeA hy;have qY:=qt h;by_cases hf:[x,y].all idFree = true
 ·have hx':x = .vsl nx (qf l) l.length∧Lx = []:=by
   rcases hx with ⟨rfl,_,rfl⟩ | ⟨r,n,rfl,_⟩
   ·simp [zF,idFree] at s1;obtain ⟨rfl,h1,h2⟩:=s1;exact ⟨by rw [← h1,h2],rfl⟩
   ·simp [idFree] at hf
  have hy':y = .vsl ny (qf m) m.length∧Ly = []:=by
   rcases hy with ⟨rfl,_,rfl⟩ | ⟨r,n,rfl,_⟩
   ·simp [zF,idFree] at s2;obtain ⟨rfl,h1,h2⟩:=s2;exact ⟨by rw [← h1,h2],rfl⟩
   ·simp [idFree] at hf
  refine ⟨⟨nx,l,t1⟩,⟨ny,m,t2⟩,H,?_,rfl,rfl,by rw [h,hx'.1,hy'.1],Ext.refl _ _⟩;unfold kh;simp only [h,hf,if_true]
 ·refine ⟨⟨nx,l,t1⟩,⟨ny,m,t2⟩,ql (jq H (Lx ++ Ly)) c [.vsl nx (qf l) l.length,.vsl ny (qf m) m.length],?_,rfl,rfl,qV (by rw [Qk];exact qY),?_⟩
  ·have hn:c ∉ Lx ++ Ly:=(by simp [hcx,hcy]);unfold kh;simp only [h];rw [if_neg hf];simp only [jJ,s1,s2,Xm];rw [if_neg hn]
  ·refine ⟨by rw [kN,Qk];exact qv _,fun i hi hn=>?_⟩;simp only [zA,not_or] at hn;rw [qZ hn.1,Xi hn.2]
def QA (s:Fs) (name:List UInt8) (a:Nat) (b:List UInt8):Nat :=
 if jD s name≠0 then jD s name
 else match (ve s.nodes name).bind (s.nodes[·]?) with
  | none=>16
  | some n=>if kf a b≠0 then 15
   else if n.b.l.length < (vg n.b.l a b).length∧s.room < (jM s.nodes+((vg n.b.l a b).length - n.b.l.length):Nat) then 15
   else (zS s).1
def ZG (s:Fs) (name:List UInt8) (a:Nat) (b:List UInt8) (s':Fs):Prop :=
 if QA s name a b = 0 then ∃ i n n',ve s.nodes name = some i∧s.nodes[i]? = some n∧s' = { (zS s).2 with nodes:=s.nodes.set i n' }∧n'.name = n.name∧n'.there = n.there∧n'.b.l = vg n.b.l a b∧n'.safe.l = n.safe.l
 else s' = s∨s' = (zS s).2
theorem qdE {l:List Nd} {name:List UInt8} {i:Nat} (h:ve l name = some i):∃ hi:i < l.length,l[i].there = true∧l[i].name = name:=by
 unfold ve at h;obtain ⟨hi,h1,_⟩:=List.findIdx?_eq_some_iff_getElem.1 h;refine ⟨hi,?_⟩;simpa using h1
theorem qfD {s:Fs} {name:List UInt8} (h:jD s name = 0):Jr s name = 0∧∃ i,ve s.nodes name = some i:=by
 unfold jD at h;split at h
 ·rename_i h1;exact absurd h h1
 ·rename_i h1;split at h
  ·rename_i h2;exact ⟨by simpa using h1,Option.isSome_iff_exists.1 h2⟩
  ·omega
theorem qg2 (l:List UInt8) (a:Nat) (b:List UInt8):(kJ l a b).length = max l.length (a+b.length):=by
 unfold kJ;simp;omega
theorem qey (l:List UInt8) (a:Nat) (b:List UInt8) (hl:l.length≤32768):(vg l a b).length≤32768:=by
 unfold vg;split
 ·rename_i h;rw [qg2];have:=h.1;unfold kf at this;split at this
  ·omega
  ·omega
 ·exact hl
theorem qg1 (l:List UInt8) (a:Nat) (b:List UInt8):l.length≤(vg l a b).length:=by
 unfold vg;split
 ·rw [qg2];omega
 ·exact qv _
theorem qba {v:FSv} {q i:Nat} {x:Nat × Nat} (h:v.nd[i]? = some x):x.1∈v.names q∧x.2∈v.names q:=by
 have hm:=ZS h;simp only [FSv.names,zA,ji,kI];exact ⟨.inr (.inr (.inr (.inl ⟨x,hm,rfl⟩))),.inr (.inr (.inr (.inr ⟨x,hm,rfl⟩)))⟩
theorem qj2 {H:qd} {q i c:Nat} {s:Fs} {v:FSv} {n n':Nd} (h:FSw H q s v) (hi:s.nodes[i]? = some n) (hc:qe H c = some n'.data) (ka:c ∉ v.names q) :
  FSw (ql H (vh v i) (n'.cells c)) q { s with nodes:=s.nodes.set i n' } { v with nd:=v.nd.set i (vh v i,c) }:=by
 obtain ⟨f,hf⟩:=h.ty;have QR:i < s.nodes.length:=(List.getElem?_eq_some_iff.1 hi).1;have hiv:i < v.nd.length:=by rw [h.len];exact QR
 obtain ⟨t1,t2⟩:=hf.node i _ (Zg hiv);obtain ⟨a1,a2⟩:=h.node i n _ hi (Zg hiv)
 have qH:∀ j k,f j = k→k≠3+2 * i→j≠vh v i:=by
  intro j k hj hk e;rw [e] at hj;simp only at t1;omega
 have VC:c≠vh v i:=fun e=>ka (e ▸ (qba (Zg hiv)).1);have x1:Ext [vh v i] H (ql H (vh v i) (n'.cells c)):=Ext.set H _ _
 have hptr:FSv.ptrs { v with nd:=v.nd.set i (vh v i,c) } = v.ptrs:=by
  unfold FSv.ptrs;simp only [List.map_set];apply List.ext_getElem?;intro j;rw [List.getElem?_set];by_cases hj:i = j
  ·subst hj;simp [hiv,vh]
  ·rw [if_neg hj]
 refine ⟨?_,?_,?_,?_,?_,?_⟩
 ·rw [qZ (qH q 0 hf.root (by omega))];exact h.root
 ·rw [hptr];exact h.row.ext x1 fun j hj VZ=>qH j 1 (hf.row j hj) (by omega) (List.mem_singleton.1 VZ)
 ·exact h.pend.ext x1 fun j hj VZ=>qH j 2 (hf.pend j hj) (by omega) (List.mem_singleton.1 VZ)
 ·simp only [vt];exact h.len
 ·intro j m x h1 h2;by_cases hj:i = j
  ·subst hj;simp only [List.getElem?_set_self QR,qs] at h1;simp only [List.getElem?_set_self hiv,qs] at h2;subst h1 h2;exact ⟨qV (qt a1),by rw [qZ VC];exact hc⟩
  ·rw [List.getElem?_set_ne hj] at h1 h2;obtain ⟨b1,b2⟩:=h.node j m x h1 h2;obtain ⟨y1,y2⟩:=hf.node j x h2;rw [qZ (qH _ _ y1 (by omega)),qZ (qH _ _ y2 (by omega))];exact ⟨b1,b2⟩
 ·refine ⟨fun j=>if j = c then 4+2 * i else f j,?_,?_,?_,?_⟩
  ·show (if q = c then _ else _) = 0;rw [if_neg fun e=>ka (by simp [FSv.names,e])];exact hf.root
  ·intro j hj;show (if j = c then _ else _) = 1;rw [if_neg fun e=>ka (by simp only [FSv.names,zA,ji];exact .inr (.inl (e ▸ hj)))];exact hf.row j hj
  ·intro j hj;show (if j = c then _ else _) = 2;rw [if_neg fun e=>ka (by simp only [FSv.names,zA,ji];exact .inr (.inr (.inl (e ▸ hj))))];exact hf.pend j hj
  ·intro j x hj;by_cases qR:i = j
   ·subst qR;simp only [List.getElem?_set_self hiv,qs] at hj;subst hj;refine ⟨?_,?_⟩
    ·show (if vh v i = c then _ else _) = _;rw [if_neg (Ne.symm VC)];exact t1
    ·show (if c = c then _ else _) = _;rw [if_pos rfl]
   ·rw [List.getElem?_set_ne qR] at hj;obtain ⟨y1,y2⟩:=hf.node j x hj;obtain ⟨z1,z2⟩:=qba (q:=q) hj;refine ⟨?_,?_⟩
    ·show (if x.1 = c then _ else _) = _;rw [if_neg (fun e:x.1 = c=>ka (e ▸ z1))];exact y1
    ·show (if x.2 = c then _ else _) = _;rw [if_neg (fun e:x.2 = c=>ka (e ▸ z2))];exact y2
set_option maxRecDepth 4000 in
theorem qt8 [MaxL] [TxtC] {H:qd} {q:Nat} {s:Fs} {v:FSv} (h:FSw H q s v) (hn:s.nodes.length < 100000) (hb:∀ n,n∈s.nodes→n.b.l.length≤32768∧n.safe.l.length≤32768) (hf:-9000000000000000000≤s.fuse∧s.fuse≤9000000000000000000) (_hrm:0≤s.room∧s.room≤1000000000) (name:List UInt8) (hl:name.length < 1000000)
  (a:Nat) (ha:a≤1000000000) (b:Sl UInt8) (jG:b.l.length≤1000000000) :
  ∃ s' T v',call cx 8 [.optr q 5 0,.str name,.int .i64 a,(.vsl b.nil (qf b.l) b.l.length)] H = some (.int .i64 (QA s name a b.l),T)∧FSw T q s' v'∧ZG s name a b.l s'∧Ext (v.names q) H T∧NewL (v.names q) (v'.names q) H.length∧v'.pc = v.pc:=by
 obtain ⟨H1,e1⟩:∃ H1,qo H [.str name] = H1:=⟨_,rfl⟩;have x1:Ext [] H H1:=e1 ▸ Ext.new H _;have w1:FSw H1 q s v:=h.ext x1 fun _ _=>by simp
 have hget_:=qci h (by omega) name hl;rw [e1] at hget_;have hx0:Ext (v.names q) H H1:=x1.mono fun _ hi=>by simp at hi
 by_cases c0:jD s name = 0
 rotate_left
 ·have hC:QA s name a b.l = jD s name:=by simp [QA,c0]
  have c0':¬ ((jD s name:Nat):Int) = 0:=by omega
  refine ⟨s,H1,v,?_,w1,by unfold ZG;rw [hC,if_neg c0];exact .inl rfl,hx0,NewL.refl _ _,rfl⟩;rw [hC];refine zt Tryz.func8 rfl ⟨rfl,rfl⟩ ?_;simp [-qe,-ql,-qo,Tryz.f8,hget_,c0]
 obtain ⟨VX,i,Jj⟩:=qfD c0;obtain ⟨hi,J7,vF⟩:=qdE Jj;have hiv:i < v.nd.length:=by rw [h.len];exact hi
 obtain ⟨jf,jO⟩:=w1.node i _ _ (qU hi) (Zg hiv);have hbn:=hb _ (vQ hi);have vj:s.nodes[i]? = some s.nodes[i]:=qU hi;obtain ⟨n,hnd⟩:∃ n,s.nodes[i] = n:=⟨_,rfl⟩;rw [hnd] at jf jO hbn vj J7 vF;simp only [Nd.cells,J7] at jf;simp only [Nd.data] at jO;have hgp:YV s v name = .optr (vh v i) 3 0:=by simp [YV,VX,Jj]
 rw [c0,hgp] at hget_;obtain ⟨c,bx,cy,H2,Lx,Ly,Jl,g2,rx2,ry2,mx,my,KZ,x2⟩:=qhi jO (by omega) (by omega);have w2:FSw H2 q s v:=w1.ext x2 fun _ _=>by simp
 have hcx:c ∉ Lx:=fun hc=>by have:=mx c hc;omega
 have hcy:c ∉ Ly:=fun hc=>by have:=my c hc;omega
 obtain ⟨bx',H3,Lx',vY,g3,rx3,x3,n3,hcx'⟩:=qmt g2 rx2 hcx (by omega) a ha b jG;have hC0:(ve s.nodes name).bind (s.nodes[·]?) = some n:=by rw [Jj];exact vj
 have old1:∀ j,j∈v.names q→j < H1.length:=fun j hj=>w1.lt hj
 have dis:∀ j,j∈v.names q→j ∉ c :: Lx:=by
  intro j hj hc;have:=old1 j hj;rcases List.mem_cons.1 hc with hc | hc
  ·omega
  ·have:=(mx j hc).1;omega
 have w3:FSw H3 q s v:=w2.ext x3 dis;have hl12:=x2.len;have hl23:=x3.len
 have xx3:Ext (v.names q) H H3:=by
  refine ⟨by have:=x1.len;omega,fun j hj zy=>?_⟩;have Qp:j < H1.length:=jr hj x1.len;rw [x3.out j (by omega) ?_,x2.out j Qp (by simp),x1.out j hj (by simp)];intro hc;rcases List.mem_cons.1 hc with hc | hc
  ·omega
  ·have:=(mx j hc).1;omega
 by_cases c1:kf a b.l = 0
 rotate_left
 ·have hc15:kf a b.l = 15:=by
   unfold kf at c1 ⊢;split
   ·rfl
   ·rename_i h0;rw [if_neg h0] at c1;exact absurd rfl c1
  have hC:QA s name a b.l = 15:=by simp [QA,c0,hC0,c1]
  rw [hc15] at vY;refine ⟨s,H3,v,?_,w3,by unfold ZG;rw [hC];exact .inl rfl,xx3,NewL.refl _ _,rfl⟩;rw [hC];refine zt Tryz.func8 rfl ⟨rfl,rfl⟩ ?_;simp [-qe,-ql,-qo,Tryz.f8,hget_,jf,Jl,vY]
 rw [c1] at vY
 have dLy:∀ j,j∈Ly→j ∉ c :: Lx:=fun j hj hc=>by
  rcases List.mem_cons.1 hc with hc | hc
  ·exact hcy (hc ▸ hj)
  ·exact (my j hj).2.2 hc
 have ry3:RowA H3 1 cy (qf n.safe.l) Ly:=ry2.ext x3 dLy;obtain ⟨nb,nsf,H4,hst,V8,hnsf,g4,x4⟩:=qgQ g3 rx3 ry3 hcx' hcy;have hl34:=x4.len
 have newx:∀ j,j∈c :: (Lx' ++ Ly)→H1.length≤j:=by
  intro j hj;rcases List.mem_cons.1 hj with hj | hj
  ·omega
  ·rcases List.mem_append.1 hj with hj | hj
   ·rcases n3 j hj with hj | hj
    ·exact (mx j hj).1
    ·omega
   ·exact (my j hj).1
 have w4:FSw H4 q s v:=w3.ext x4 fun j hj hc=>by have:=old1 j hj;have:=newx j hc;omega
 have xx4:Ext (v.names q) H H4:=by
  refine ⟨by have:=xx3.len;omega,fun j hj zy=>?_⟩;have Qp:j < H1.length:=jr hj x1.len;rw [x4.out j (by omega) fun hc=>by have:=newx j hc;omega,xx3.out j hj zy]
 have Zi:=qfC w4 (by omega) fun m hm=>by have:=hb m hm;omega
 obtain ⟨jl,qW⟩:=w4.node i _ _ vj (Zg hiv);simp only [Nd.cells,J7] at jl;simp only [Nd.data] at qW;have len1:=qbI g4;have len2:=qbI qW;rw [V8] at len1;obtain ⟨W,hW⟩:∃ W,vg n.b.l a b.l = W:=⟨_,rfl⟩;have hWge:=qg1 n.b.l a b.l;have hWle:=qey n.b.l a b.l hbn.1;rw [hW] at len1 hWge hWle;obtain ⟨dl,kG⟩:∃ dl,W.length - n.b.l.length = dl:=⟨_,rfl⟩;have zB:IntKind.i64.wrap ((W.length:Int) - (n.b.l.length:Int)) = (dl:Int):=by rw [wrap_i64];all_goals omega
 have zx:jM s.nodes≤s.nodes.length * 32768:=by
  have:∀ l:List Nd,(∀ m,m∈l→m.b.l.length≤32768)→jM l≤l.length * 32768:=by
   intro l
   induction l with
   | nil=>intro _;simp [jM]
   | cons m l ih =>
    intro hm;have h1:=ih fun k hk=>hm k (kS _ hk);have h2:=hm m (Za ..);simp only [jM,ju,QZ,Nat.one_mul];split <;> omega
  exact this _ fun m hm=>(hb m hm).1
 have zp:IntKind.i64.wrap ((jM s.nodes:Nat)+(dl:Int)) = ((jM s.nodes+dl:Nat):Int):=by rw [wrap_i64] <;> omega
 have r4:=w4.root;simp only [Fs.cells] at r4
 have Qf:QA s name a b.l = if n.b.l.length < W.length∧s.room < (jM s.nodes+dl:Nat) then 15 else (zS s).1:=by
  unfold QA;rw [if_neg (by simpa using c0),hC0];simp only [c1,hW,kG];simp
 by_cases c2:n.b.l.length < W.length∧s.room < (jM s.nodes+dl:Nat)
 ·rw [if_pos c2] at Qf;have q1:(0:Int) < (dl:Int):=by omega
  have q2:s.room < ((jM s.nodes:Nat):Int)+(dl:Int):=by omega
  refine ⟨s,H4,v,?_,w4,by unfold ZG;rw [Qf];exact .inl rfl,xx4,NewL.refl _ _,rfl⟩;rw [Qf];refine zt Tryz.func8 rfl ⟨rfl,rfl⟩ ?_;simp [-qe,-ql,-qo,-kh,Tryz.f8,hget_,jf,Jl,vY,hst,len1,len2,jl,zB,Zi,show 0 < dl by omega,zp,r4,q2]
 rw [if_neg c2] at Qf;have vl:=qcj w4 hf;obtain ⟨H5,e5⟩:∃ K,ql H4 q ((zS s).2.cells v) = K:=⟨_,rfl⟩;have w5:FSw H5 q (zS s).2 v:=e5 ▸ qbk w4 (qbl s);have x5:Ext [q] H4 H5:=e5 ▸ Ext.set H4 q _;rw [e5] at vl;have xx5:Ext (v.names q) H H5:=xx4.trans (x5.mono fun j hj=>by rw [List.mem_singleton.1 hj];simp [FSv.names]) (NewL.refl _ _);have q2:0 < dl→¬ s.room < ((jM s.nodes:Nat):Int)+(dl:Int):=by omega
 by_cases c3:(zS s).1 = 0
 rotate_left
 ·have c3':(zS s).1 = 18:=(qfE s).resolve_left c3;rw [c3'] at vl Qf;refine ⟨(zS s).2,H5,v,?_,w5,by unfold ZG;rw [Qf];exact .inr rfl,xx5,NewL.refl _ _,rfl⟩;rw [Qf];refine zt Tryz.func8 rfl ⟨rfl,rfl⟩ ?_;by_cases hd:0 < dl
  ·simp [-qe,-ql,-qo,-kh,Tryz.f8,hget_,jf,Jl,vY,hst,len1,len2,jl,zB,Zi,hd,zp,r4,q2 hd,vl]
  ·simp [-qe,-ql,-qo,-kh,Tryz.f8,hget_,jf,Jl,vY,hst,len1,len2,jl,zB,Zi,hd,vl]
 rw [c3] at vl Qf;obtain ⟨s2,Zj⟩:∃ s2,(zS s).2 = s2:=⟨_,rfl⟩;have Vk:s2.nodes = s.nodes:=by rw [← Zj];exact qbl s
 rw [Zj] at w5;obtain ⟨vx,J9⟩:=w5.node i n _ (by rw [Vk];exact vj) (Zg hiv);simp only [Nd.cells,J7] at vx;have XM:c < H5.length:=by have:=qt g4;have:=x5.len;omega
 obtain ⟨T,eT⟩:∃ K,ql H5 (vh v i) [.str n.name,.bool true,.optr c 2 0] = K:=⟨_,rfl⟩;refine ⟨{ s2 with nodes:=s.nodes.set i { n with b:=nb,safe:=nsf } },T,{ v with nd:=v.nd.set i (vh v i,c) },?_,?_,?_,?_,?_,rfl⟩
 ·rw [Qf];refine zt Tryz.func8 rfl ⟨rfl,rfl⟩ ?_;by_cases hd:0 < dl
  ·simp [-qe,-ql,-qo,-kh,Tryz.f8,hget_,jf,Jl,vY,hst,len1,len2,jl,zB,Zi,hd,zp,r4,q2 hd,vl,vx,XM,eT,qC]
  ·simp [-qe,-ql,-qo,-kh,Tryz.f8,hget_,jf,Jl,vY,hst,len1,len2,jl,zB,Zi,hd,vl,vx,XM,eT,qC]
 ·have VC:c ∉ v.names q:=fun hc=>by have:=old1 c hc;omega
  have g5:qe H5 c = some (Nd.data { n with b:=nb,safe:=nsf }):=x5.get g4 fun hc=>VC (by rw [List.mem_singleton.1 hc];simp [FSv.names]);have:=qj2 w5 (by rw [Vk];exact vj) g5 VC;simp only [Nd.cells,J7,eT,Vk] at this;rw [J7];exact this
 ·unfold ZG;rw [Qf,if_pos rfl,Zj];exact ⟨i,n,{ n with b:=nb,safe:=nsf },Jj,vj,rfl,rfl,rfl,by rw [V8],hnsf⟩
 ·have hm:=(qba (q:=q) (Zg hiv)).1;exact xx5.trans ((eT ▸ Ext.set H5 _ _:Ext [vh v i] H5 T).mono fun j hj=>by rw [List.mem_singleton.1 hj];exact hm) (NewL.refl _ _)
 ·intro j hj;have hlen:H.length≤H1.length:=x1.len;have ql:∀ x,x∈v.nd.set i (vh v i,c)→x∈v.nd∨x = (vh v i,c):=fun x hx=>qb7 hx;have hm:=qba (q:=q) (Zg hiv);simp only [FSv.names,zA,ji,kI] at hj hm ⊢;rcases hj with hj | hj | hj | ⟨x,hx,rfl⟩ | ⟨x,hx,rfl⟩
  ·exact .inl (.inl hj)
  ·exact .inl (.inr (.inl hj))
  ·exact .inl (.inr (.inr (.inl hj)))
  ·rcases ql x hx with hx | rfl
   ·exact .inl (.inr (.inr (.inr (.inl ⟨x,hx,rfl⟩))))
   ·exact .inl hm.1
  ·rcases ql x hx with hx | rfl
   ·exact .inl (.inr (.inr (.inr (.inr ⟨x,hx,rfl⟩))))
   ·exact .inr (by show H.length≤c;omega)
theorem qcN {H:qd} {v:D} {cs:List D} {L:List Nat} (h:RowA H 1 v cs L) (hf:cs.all idFree = true):∃ nl,zF H 9 v = some (.vsl nl cs cs.length,L)∧(nl = true→cs = []):=by
 rcases h with ⟨rfl,rfl,rfl⟩ | ⟨r,n,rfl,h1,h2,rfl⟩
 ·exact ⟨true,rfl,fun _=>rfl⟩
 ·have hn:n = cs.length:=by omega
  subst hn;refine ⟨false,?_,fun h=>by cases h⟩;unfold zF;simp only [idFree,kB,if_false,h2];rw [if_pos ⟨trivial,by omega⟩,if_pos (by rw [kO];exact hf)];simp
theorem qcB {H:qd} (L:List Nat):Ext L H (jq H L):=⟨by rw [Qk];exact qv _,fun _ _ h=>Xi h⟩
@[simp] theorem qcL (l:List (List UInt8)):(zZ l).length = l.length:=by simp [zZ]
theorem qlB (l:List (List UInt8)):(zZ l).all idFree = true:=by
 rw [List.all_eq_true];intro d hd;simp only [zZ,kI] at hd;obtain ⟨s,_,rfl⟩:=hd;rfl
theorem qmi [MaxL] [TxtC] {H:qd} {ov:D} {l:List (List UInt8)} {L:List Nat} (h:RowA H 1 ov (zZ l) L) (hl:l.length < 1000000) :
  ∃ T,call cx 60 [ov] H = some (.tup [],T)∧RowA T 1 ov (zZ (jn l)) L∧Ext L H T:=by
 rcases h with ⟨rfl,h1,rfl⟩ | ⟨r,n,rfl,h1,h2,rfl⟩
 ·have hl0:l = []:=by
   cases l with
   | nil=>rfl
   | cons a l=>simp [zZ] at h1
  subst hl0;refine ⟨H,qbx ?_,.inl ⟨rfl,by simp [jn,zZ],rfl⟩,Ext.refl _ _⟩;rfl
 ·have hn:n = l.length:=by simpa using h1.symm
  subst hn;refine ⟨ql H r (zZ (jn l)),qbx ?_,.inr ⟨r,l.length,by simp,by simp,qV (qt h2),rfl⟩,Ext.set H r _⟩;rw [qkz,qcL];simp only [qcu,h2,qgL];rw [if_pos ⟨trivial,trivial,by omega⟩]
def v8 (s:Fs):List (List UInt8):=if s.off then [] else (s.nodes.filter (·.there)).map (·.name)
theorem qtF [MaxL] [TxtC] {H:qd} {q:Nat} {s:Fs} {v:FSv} (h:FSw H q s v) (hn:s.nodes.length < 100000) :
  ∃ T nl,call cx 32 [.optr q 5 0] H = some (.vsl nl (zZ (jn (v8 s))) (v8 s).length,T)∧Ext [] H T∧(nl = true→v8 s = []):=by
 obtain ⟨N,hN⟩:∃ N,v8 s = N:=⟨_,rfl⟩
 have hNl:N.length≤s.nodes.length:=by
  rw [← hN];unfold v8;split
  ·simp
  ·rw [List.length_map];exact List.length_filter_le _ _
 rw [hN];have zW:=h.root;simp only [Fs.cells] at zW
 suffices hs:∃ r,call cx 32 [.optr q 5 0] H = some r∧∃ nl T,r = (.vsl nl (zZ (jn N)) N.length,T)∧Ext [] H T∧(nl = true→N = []) by
  obtain ⟨_,h1,nl,T,rfl,h2,h3⟩:=hs;exact ⟨T,nl,h1,h2,h3⟩
 have fin:∀ (ov:D) (H':qd) (L:List Nat),RowA H' 1 ov (zZ N) L→Ext [] H H'→(∀ j,j∈L→H.length≤j) →
   ∃ T1 nl,call cx 60 [ov] H' = some (.tup [],T1)∧zF T1 9 ov = some (.vsl nl (zZ (jn N)) N.length,L)∧Ext [] H (jq T1 L)∧(nl = true→N = []):=by
  intro ov H' L hr hx hL;obtain ⟨T1,a1,a2,a3⟩:=qmi hr (by omega);obtain ⟨nl,b1,b2⟩:=qcN a2 (qlB _);have ka:NewL [] L H.length:=fun i hi=>.inr (hL i hi);refine ⟨T1,nl,a1,by simpa using b1,(hx.trans a3 ka).trans (qcB L) ka,fun zq=>?_⟩;have:=congrArg List.length (b2 zq);simp at this;exact this
 rcases h.row with ⟨VW,hp,hL⟩ | ⟨b,n,VW,hlen,qI,hL⟩
 ·have hl:=h.len;have:v.nd = []:=by simpa [FSv.ptrs] using hp
  rw [this] at hl;have hs:s.nodes = []:=List.length_eq_zero_iff.1 hl.symm;rw [VW] at zW;have hN0:N = []:=by rw [← hN];simp [v8,hs]
  obtain ⟨T1,nl,f1,f2,f3,f4⟩:=fin (.vsl true [] 0) H [] (.inl ⟨rfl,by rw [hN0];rfl,rfl⟩) (Ext.refl _ _) (by simp);refine Zt _ Tryz.func32 rfl ⟨rfl,rfl⟩ ?_;simp [-qe,Tryz.f32,zW];refine qbN ?_;simp [f1];exact ⟨T1,⟨⟨by rw [hN0];simp [jn,zZ],by rw [hN0];rfl⟩,rfl⟩,f3,hN0⟩
 ·rw [VW] at zW;have vE:v.ptrs.length = v.nd.length:=by simp [FSv.ptrs]
  have zq:n = s.nodes.length:=by have:=h.len;omega
  subst zq;refine Zt _ Tryz.func32 rfl ⟨rfl,rfl⟩ ?_;simp [-qe,Tryz.f32,zW];refine Run.loopThen (fun (k:Nat) e H'=>k≤s.nodes.length∧∃ ov L,RowA H' 1 ov (zZ (if s.off then [] else ((s.nodes.take k).filter (·.there)).map (·.name))) L∧Ext [] H H'∧(∀ j,j∈L→H.length≤j)∧qg e 0 = some (.optr q 5 0)∧qg e 3 = some ov∧qg e 9 = some (.osl b v.ptrs.length 0 s.nodes.length 1)∧qg e 10 = some (.int .i64 s.nodes.length)∧qg e 11 = some (.int .i64 k)) (fun k=>s.nodes.length - k) 0 ?_ ?_
  ·exact ⟨by omega,.vsl true [] 0,[],.inl ⟨rfl,by simp [zZ],rfl⟩,Ext.refl _ _,by simp,rfl,rfl,rfl,rfl,rfl⟩
  rintro k e H' ⟨hk,ov,L,hr,hx,hL2,k0,k3,k9,k10,k11⟩;by_cases qi:k < s.nodes.length
  ·have qq:(k:Int) < (s.nodes.length:Int):=(by omega);have hw:IntKind.i64.wrap ((k:Int)+1) = ((k+1:Nat):Int):=(by rw [wrap_i64] <;> omega);have YG:k < v.nd.length:=(by rw [h.len];exact qi);obtain ⟨jf,jO⟩:=h.node k _ _ (qU qi) (Zg YG);have hn1':=hx.get jf (by simp);have hroot':=hx.get zW (by simp);have vy:=hx.get qI (by simp);simp only [Nd.cells] at hn1';have KK:=qeW YG;have vD:s.nodes.take (k+1) = s.nodes.take k ++ [s.nodes[k]]:=(by rw [List.take_add_one,qU qi];rfl);cases ht:s.nodes[k].there with
   | false =>
    rw [ht] at hn1';simp [-qe,k0,k3,k9,k10,k11,qq,hw,vy,KK,hn1'];refine ⟨k+1,by omega,by omega,ov,L,?_,hx,hL2,rfl,by omega⟩;rw [vD,List.filter_append];simpa [ht] using hr
   | true =>
    rw [ht] at hn1';cases ho:s.off with
    | true =>
     rw [ho] at hroot' hr;simp [-qe,k0,k3,k9,k10,k11,qq,hw,vy,KK,hn1',hroot'];exact ⟨k+1,by omega,by omega,ov,L,by simpa using hr,hx,hL2,rfl,by omega⟩
    | false =>
     rw [ho] at hroot' hr;simp only [kB,if_false] at hr;obtain ⟨H2,e2⟩:∃ K,qo H' [.str s.nodes[k].name] = K:=⟨_,rfl⟩;obtain ⟨a2,l2⟩:∃ a,H'.length = a:=⟨_,rfl⟩;have x2:Ext [] H' H2:=e2 ▸ Ext.new H' _;have g2:qe H2 a2 = some [.str s.nodes[k].name]:=by rw [← e2,← l2,qN]
     have hlen:(((s.nodes.take k).filter (·.there)).map (·.name)).length≤k:=by
      rw [List.length_map];refine jA (List.length_filter_le _ _) ?_;rw [kt];omega
     have hB:bytesOf Tryz.prog 9 = 16:=(by simp);obtain ⟨ov2,H3,L3,hA,hR3,x3,n3⟩:=(hr.ext x2 fun _ _=>by simp).append (P:=Tryz.prog) (st:=37) (xt:=37) (e:=9) (x:=.osl a2 1 0 1 1) (xs:=[.str s.nodes[k].name]) (m:=1) (by simp) (by simp) (by simp [-qe,g2]) (by simp) (by omega) (by simp) (by omega) (by rw [hB,qcL];simp only [qw];omega) (by rw [qcL];simp only [qw];omega);have hx3:Ext [] H H3:=(hx.trans x2 (NewL.refl _ _)).trans x3 fun i hi=>.inr (hL2 i hi);simp [-qe,-qo,-qM,k0,k3,k9,k10,k11,qq,hw,vy,KK,hn1',hroot',e2,l2,hA,qfo hroot'];refine ⟨k+1,by omega,by omega,ov2,L3,?_,hx3,fun j hj=>?_,rfl,by omega⟩
     ·rw [vD,List.filter_append];simpa [ht,zZ] using hR3
     ·have:=x2.len;have:=hx.len;rcases n3 j hj with h1 | h1
      ·exact hL2 j h1
      ·omega
  ·have qq:¬ (k:Int) < (s.nodes.length:Int):=(by omega);have KQ:k = s.nodes.length:=(by omega);have hNN:(if s.off then [] else ((s.nodes.take k).filter (·.there)).map (·.name)) = N:=(by rw [KQ,List.take_length,← hN];rfl);rw [hNN] at hr;obtain ⟨T1,nl,f1,f2,f3,f4⟩:=fin ov H' L hr hx hL2;simp [-qe,-zF,k0,k3,k9,k10,k11,qq,f1,f2];cases nl with
   | false=>exact .inl ⟨_,⟨rfl,rfl⟩,f3⟩
   | true=>exact .inr ⟨_,⟨rfl,rfl⟩,f3,f4 rfl⟩
theorem qmw [MaxL] [TxtC] {H:qd} {b:Nat} {x y:Sl UInt8} (h:qe H b = some [(.vsl x.nil (qf x.l) x.l.length),(.vsl y.nil (qf y.l) y.l.length)]) (hx:x.l.length≤1000000) :
  ∃ T nl,call cx 61 [.optr b 2 0] H = some (.vsl nl (qf x.l) x.l.length,T)∧Ext [] H T∧(nl = true→x.l = []):=by
 obtain ⟨dx,X0,c1,k1⟩:=qgk x hx;obtain ⟨Lx,r1,x1,m1⟩:=k1 H;obtain ⟨bx,e1⟩:∃ d,shift H.length dx = d:=⟨_,rfl⟩;obtain ⟨H1,e2⟩:∃ K,H ++ X0 = K:=⟨_,rfl⟩;rw [e1,e2] at r1;rw [e2] at x1 m1;obtain ⟨nl,s1,s2⟩:=qeA r1;refine ⟨jq H1 Lx,nl,zt Tryz.func61 rfl ⟨rfl,rfl⟩ ?_,x1.trans (qcB Lx) fun i hi=>.inr (by have:=m1 i hi;omega),s2⟩;simp [-qe,-ql,-qo,-zF,Tryz.f61,h,c1,e1,e2,s1]
def zu (s:Fs) (name:List UInt8):List UInt8:=if jD s name≠0 then [] else match (ve s.nodes name).bind (s.nodes[·]?) with | some n=>n.b.l | none=>[]
theorem qtK [MaxL] [TxtC] {H:qd} {q:Nat} {s:Fs} {v:FSv} (h:FSw H q s v) (hn:s.nodes.length < 100000) (hb:∀ n,n∈s.nodes→n.b.l.length≤1000000) (name:List UInt8) (hl:name.length < 1000000) :
  ∃ T nl,call cx 33 [.optr q 5 0,.str name] H = some (.tup [.vsl nl (qf (zu s name)) (zu s name).length,.int .i64 (jD s name)],T)∧Ext [] H T∧(nl = true→zu s name = []):=by
 obtain ⟨H1,e1⟩:∃ H1,qo H [.str name] = H1:=⟨_,rfl⟩;have x1:Ext [] H H1:=e1 ▸ Ext.new H _;have w1:FSw H1 q s v:=h.ext x1 fun _ _=>by simp
 have hget_:=qci h (by omega) name hl;rw [e1] at hget_;by_cases c0:jD s name = 0
 rotate_left
 ·have c0':¬ ((jD s name:Nat):Int) = 0:=by omega
  have hA:zu s name = []:=by simp [zu,c0]
  rw [hA];refine ⟨H1,true,zt Tryz.func33 rfl ⟨rfl,rfl⟩ ?_,x1,fun _=>rfl⟩;simp [-qe,-ql,-qo,Tryz.f33,hget_,c0];rfl
 obtain ⟨VX,i,Jj⟩:=qfD c0;obtain ⟨hi,J7,vF⟩:=qdE Jj;have hiv:i < v.nd.length:=by rw [h.len];exact hi
 obtain ⟨jf,jO⟩:=w1.node i _ _ (qU hi) (Zg hiv);have hbn:=hb _ (vQ hi);have vj:s.nodes[i]? = some s.nodes[i]:=qU hi;simp only [Nd.cells] at jf;simp only [Nd.data] at jO;have hgp:YV s v name = .optr (vh v i) 3 0:=by simp [YV,VX,Jj]
 rw [c0,hgp] at hget_;have hA:zu s name = s.nodes[i].b.l:=by simp [zu,c0,Jj,vj]
 obtain ⟨T,nl,a1,a2,a3⟩:=qmw jO hbn;rw [hA,c0];refine ⟨T,nl,zt Tryz.func33 rfl ⟨rfl,rfl⟩ ?_,x1.trans a2 (NewL.refl _ _),a3⟩;simp [-qe,-ql,-qo,Tryz.f33,hget_,jf,a1]
theorem qj4 [MaxL] [TxtC] {H:qd} {q:Nat} {s:Fs} {v:FSv} (h:FSw H q s v):call cx 31 [.optr q 5 0] H = some (.bool s.off,H):=by
 have zW:=h.root;simp only [Fs.cells] at zW;refine zt Tryz.func31 rfl ⟨rfl,rfl⟩ ?_;simp [-qe,Tryz.f31,zW]
theorem qtI [MaxL] [TxtC] {H:qd} {q:Nat} {s:Fs} {v:FSv} (h:FSw H q s v):∃ T,call cx 11 [.optr q 5 0,.int .i64 0] H = some (.tup [],T)∧FSw T q { s with fuse:=0 } v∧Ext (v.names q) H T:=by
 have zW:=h.root;simp only [Fs.cells] at zW;obtain ⟨T,eT⟩:∃ K,ql H q [.int .i64 s.room,.int .i64 0,.bool s.off,v.nv,v.pv] = K:=⟨_,rfl⟩;refine ⟨T,zt Tryz.func11 rfl ⟨rfl,rfl⟩ ?_,?_,?_⟩
 ·simp [-qe,-ql,Tryz.f11,zW,qC,eT]
 ·have:=qbk (s':={ s with fuse:=0 }) h rfl;simp only [Fs.cells,eT] at this;exact this
 ·exact (eT ▸ Ext.set H q _:Ext [q] H T).mono fun j hj=>by rw [List.mem_singleton.1 hj];simp [FSv.names]
theorem qtH [MaxL] [TxtC] {H:qd} {q:Nat} {s:Fs} {v:FSv} (h:FSw H q s v):call cx 37 [.optr q 5 0,.vsl true [] 0] H = some (.int .i64 (if s.off then 18 else 0:Nat),H):=by
 have zW:=h.root;simp only [Fs.cells] at zW;refine zt Tryz.func37 rfl ⟨rfl,rfl⟩ ?_;cases ho:s.off with
 | true =>
  rw [ho] at zW;simp [-qe,Tryz.f37,zW]
 | false =>
  rw [ho] at zW;simp [-qe,Tryz.f37,zW];refine qbN ?_;simp
theorem qtC [MaxL] [TxtC] {H:qd} {q:Nat} {s:Fs} {v:FSv} (h:FSw H q s v) (hn:s.nodes.length < 100000) (hf:s.fuse = 0) (name:List UInt8) (hl:name.length < 1000000) :
  ∃ T c s',call cx 12 [.optr q 5 0,.str name] H = some (.int .i64 c,T)∧FSw T q s' v∧(s' = s∨s' = { s with off:=true })∧Ext (v.names q) H T:=by
 obtain ⟨H1,e1⟩:∃ H1,qo H [.str name] = H1:=⟨_,rfl⟩;have x1:Ext [] H H1:=e1 ▸ Ext.new H _;have w1:FSw H1 q s v:=h.ext x1 fun _ _=>by simp
 have hget_:=qci h (by omega) name hl;rw [e1] at hget_;have hx0:Ext (v.names q) H H1:=x1.mono fun _ hi=>by simp at hi
 by_cases c0:jD s name = 0
 rotate_left
 ·have c0':¬ ((jD s name:Nat):Int) = 0:=by omega
  refine ⟨H1,jD s name,s,zt Tryz.func12 rfl ⟨rfl,rfl⟩ ?_,w1,.inl rfl,hx0⟩;simp [-qe,-ql,-qo,Tryz.f12,hget_,c0]
 ·have vl:=qcj w1 (by omega);have hB:zS s = (18,{ s with off:=true }):=by simp [zS,hf]
  rw [hB] at vl;obtain ⟨T,eT⟩:∃ K,ql H1 q (Fs.cells { s with off:=true } v) = K:=⟨_,rfl⟩;rw [eT] at vl;rw [c0] at hget_;refine ⟨T,18,{ s with off:=true },zt Tryz.func12 rfl ⟨rfl,rfl⟩ ?_,eT ▸ qbk w1 rfl,.inr rfl,hx0.trans ((eT ▸ Ext.set H1 q _:Ext [q] H1 T).mono fun j hj=>by rw [List.mem_singleton.1 hj];simp [FSv.names]) (NewL.refl _ _)⟩;simp [-qe,-ql,-qo,Tryz.f12,hget_,vl]
theorem qtB [MaxL] [TxtC] {H:qd} {q:Nat} {s:Fs} {v:FSv} (h:FSw H q s v) (hf:s.fuse = 0) :
  ∃ T,call cx 13 [.optr q 5 0] H = some (.int .i64 18,T)∧FSw T q { s with off:=true } v∧Ext (v.names q) H T:=by
 have hm:=qtH h;have vl:=qcj h (by omega);have hB:zS s = (18,{ s with off:=true }):=by simp [zS,hf]
 rw [hB] at vl;obtain ⟨T,eT⟩:∃ K,ql H q (Fs.cells { s with off:=true } v) = K:=⟨_,rfl⟩;rw [eT] at vl;cases ho:s.off with
 | true =>
  rw [ho] at hm;have hs:{ s with off:=true } = s:=by cases s;simp at ho;simp [ho]
  refine ⟨H,zt Tryz.func13 rfl ⟨rfl,rfl⟩ ?_,by rw [hs];exact h,Ext.refl _ _⟩;simp [-qe,-ql,-qo,Tryz.f13,hm]
 | false =>
  rw [ho] at hm;refine ⟨T,zt Tryz.func13 rfl ⟨rfl,rfl⟩ ?_,eT ▸ qbk h rfl,(eT ▸ Ext.set H q _:Ext [q] H T).mono fun j hj=>by rw [List.mem_singleton.1 hj];simp [FSv.names]⟩;simp [-qe,-ql,-qo,Tryz.f13,hm,vl]
theorem qtv [MaxL] [TxtC] {W:World} (h:laidMet Tryz.prog YtjjofhpbbndccaaGreatDoor.Rows.scanHindersRow.laid W) (jl:W.cell? ⟨1,0,none⟩ = some (.int .i64 MaxL.m)):∀ g cs,cx.glob g = some cs→Rep (· < W.heap.size) W zo [] (.vptr cs) (.pointer (some ⟨g,0,none⟩)):=by
 unfold YtjjofhpbbndccaaGreatDoor.Rows.scanHindersRow at h;have t6:=qeQ (g:=6) (zs:=gz6) (Lib.tabIs_of_head (g:=6) (t:=289) (e:=5) (n:=32) (k:=.u8) (by kernel_rfl) (by kernel_rfl) (by kernel_rfl) (by kernel_rfl) (by kernel_rfl) (by kernel_rfl) h) (by kernel_rfl);replace h:=h.tail;have t7:=qeQ (g:=7) (zs:=gz7) (Lib.tabIs_of_head (g:=7) (t:=290) (e:=5) (n:=64) (k:=.u8) (by kernel_rfl) (by kernel_rfl) (by kernel_rfl) (by kernel_rfl) (by kernel_rfl) (by kernel_rfl) h) (by kernel_rfl);replace h:=h.tail;have t0:=qeQ (g:=0) (zs:=gz0) (Lib.tabIs_of_head (g:=0) (t:=115) (e:=25) (n:=20) (k:=.u64) (by kernel_rfl) (by kernel_rfl) (by kernel_rfl) (by kernel_rfl) (by kernel_rfl) (by kernel_rfl) h) (by kernel_rfl);replace h:=h.tail;replace h:=h.tail;have t3 := qh8 (g := 3) (text := gs3) (by kernel_rfl) (laid_sentinel (g := 3) (ti := 142) (tp := 286) (te := 288) (ts := 9) h (by kernel_rfl) (by kernel_rfl) Tryz.underlying142 (qjW (base := "errors.errorString") (by decide) (by kernel_rfl) (by kernel_rfl) (by decide)) Tryz.underlying286 Tryz.underlying288 rfl rfl (by kernel_rfl) (by kernel_rfl) (by kernel_rfl));replace h:=h.tail;have t2 := qh8 (g := 2) (text := XP) (by kernel_rfl) (laid_sentinel (g := 2) (ti := 142) (tp := 286) (te := 288) (ts := 9) h (by kernel_rfl) (by kernel_rfl) Tryz.underlying142 (qjW (base := "errors.errorString") (by decide) (by kernel_rfl) (by kernel_rfl) (by decide)) Tryz.underlying286 Tryz.underlying288 rfl rfl (by kernel_rfl) (by kernel_rfl) (by kernel_rfl));replace h:=h.tail;intro g cs hg;have VB:qfA g = some cs:=hg;unfold qfA at VB;split at VB
 ·cases VB;exact t0
 ·cases VB;exact t2
 ·cases VB;exact t3
 ·cases VB;exact t6
 ·cases VB;exact t7
 ·cases VB;exact qnl jl
 ·cases VB
end Go.Ev.S
namespace Go.Ev
open Go Go.Proofs
section
variable {P:Program} {n:Nat} {t e:TypeId} {cs:List D}
theorem qf7 {k:IntKind} (hu:P.underlying t = some (.int k)) (h:vS P (n+1) t cs):∃ x,cs = [.int k x]∧(Lit.int k x).wf = true:=by
 unfold vS at h;rw [hu] at h;exact h
theorem qtm (hu:P.underlying t = some (.int .u64)) (h:vS P (n+1) t cs):∃ x,cs = [.int .u64 x]∧zH x:=by
 obtain ⟨x,h1,h2⟩:=qf7 hu h;refine ⟨x,h1,?_⟩;simp [Lit.wf,IntKind.min,IntKind.max,IntKind.signed,IntKind.bits] at h2;unfold zH;omega
def qf2 (n:Int):Prop:= -9223372036854775808≤n∧n < 9223372036854775808
theorem qto (hu:P.underlying t = some (.int .i64)) (h:vS P (n+1) t cs):∃ x,cs = [.int .i64 x]∧qf2 x:=by
 obtain ⟨x,h1,h2⟩:=qf7 hu h;refine ⟨x,h1,?_⟩;simp [Lit.wf,IntKind.min,IntKind.max,IntKind.signed,IntKind.bits] at h2;unfold qf2;omega
theorem qtl (hu:P.underlying t = some (.int .u8)) (h:vS P (n+1) t cs):∃ x:UInt8,cs = [.int .u8 x.toNat]:=by
 obtain ⟨x,h1,h2⟩:=qf7 hu h;simp [Lit.wf,IntKind.min,IntKind.max,IntKind.signed,IntKind.bits] at h2;refine ⟨UInt8.ofNat x.toNat,?_⟩;rw [h1,qej (by simp;omega)];congr 2;omega
theorem qeJ {e:TypeId} (hu:P.underlying e = some (.int .u8)):∀ (ls:List (List D)),(∀ l,l∈ls→l.length = P.cellsOf e∧vS P (n+1) e l)→∃ s:List UInt8,ls.flatten = qf s∧s.length = ls.length
 | [],_=>⟨[],rfl,rfl⟩
 | l :: ls,h=>by
  obtain ⟨x,hx⟩:=qtl hu (h l (Za ..)).2;obtain ⟨s,h1,h2⟩:=qeJ hu ls fun l' hl=>h l' (kS _ hl);exact ⟨x :: s,by rw [qen,hx,h1];rfl,by simp [h2]⟩
theorem qtn (hu:P.underlying t = some (.array 16 e)) (he:P.underlying e = some (.int .u8)) (h:vS P (n+2) t cs):∃ i:ID,cs = qf i.l:=by
 unfold vS at h;rw [hu] at h;obtain ⟨ls,h1,h2,h3⟩:=h;obtain ⟨s,s1,s2⟩:=qeJ he ls h3;exact ⟨⟨s,by omega⟩,by rw [h1,s1]⟩
theorem qtp (hu:P.underlying t = some (.slice e)) (he:P.underlying e = some (.int .u8)) (h:vS P (n+2) t cs):∃ s:Sl UInt8,cs = [(.vsl s.nil (qf s.l) s.l.length)]∧s.l.length≤maxLen:=by
 unfold vS at h;rw [hu] at h;rcases h with rfl | ⟨ls,h1,h2,h3⟩
 ·exact ⟨.none,rfl,by simp⟩
 ·obtain ⟨s,s1,s2⟩:=qeJ he ls h3;exact ⟨.of s,by rw [h1,s1,← s2];rfl,by simp only [Sl.of_l];have:=h2.1;omega⟩
theorem qhy {α:Type} [Enc α] {R:α→Prop} {Q:List D→Prop} (zJ:∀ l,Q l→∃ a:α,l = Enc.cells a∧R a):∀ (ls:List (List D)),(∀ l,l∈ls→Q l)→∃ s:List α,ls.flatten = qk s∧s.length = ls.length∧∀ a,a∈s→R a
 | [],_=>⟨[],rfl,rfl,by simp⟩
 | l :: ls,h=>by
  obtain ⟨x,hx,hr⟩:=zJ l (h l (Za ..));obtain ⟨s,h1,h2,h3⟩:=qhy zJ ls fun l' hl=>h l' (kS _ hl);refine ⟨x :: s,by rw [qen,hx,h1,Kk],by simp [h2],fun a ha=>?_⟩;rcases List.mem_cons.1 ha with rfl | ha
  ·exact hr
  ·exact h3 a ha
theorem qju {α:Type} [Enc α] {R:α→Prop} (hu:P.underlying t = some (.slice e)) (zJ:∀ l,vS P n e l→∃ a:α,l = Enc.cells a∧R a) (h:vS P (n+1) t cs):∃ s:Sl α,cs = [(.vsl s.nil (qk s.l) s.l.length)]∧s.l.length≤maxLen∧∀ a,a∈s.l→R a:=by
 unfold vS at h;rw [hu] at h;rcases h with rfl | ⟨ls,h1,h2,h3⟩
 ·exact ⟨.none,rfl,by simp,by simp⟩
 ·obtain ⟨s,s1,s2,s3⟩:=qhy zJ ls fun l hl=>(h3 l hl).2;exact ⟨.of s,by rw [h1,s1,← s2];rfl,by simp only [Sl.of_l];have:=h2.1;omega,s3⟩
end
theorem qgb {W:World} {d:D} {v:Value} (h:VI W [d] v.cells.toList) (ho:v.oneCell' = true):Rep (· < W.heap.size) W zo [] d v:=by
 have hv:v.cells.toList = [v]:=by
  cases v <;> first | rfl | simp [Value.oneCell'] at ho
 rw [hv] at h;exact h.2.2 0 d rfl
theorem quH {W:World} {ds:List D} {vs:Array Value} (h:VI W ds vs.toList):Rep (· < W.heap.size) W zo [] (.agg ds) (.agg vs):=by
 refine .agg (by simpa using h.1.symm) h.2.1 fun j d hj=>?_;have:=h.2.2 j d hj;simpa [jd,zw] using this
end Go.Ev
namespace Go.Ev
open Go Go.Proofs
theorem qic {P:Program} {W:World} {base:Nat} {t e:TypeId} {v:Value} (hu:P.underlying t = some (.slice e)) (h:Value.okWide P W .any base t v):v.oneCell' = true:=by
 simp only [Value.okWide,hu,Cell.okWide] at h;cases v <;> first | rfl | simp [Cell.ok,hu] at h
theorem qnT {P:Program} {W:World} {base:Nat} {t:TypeId} {k:IntKind} {v:Value} (hu:P.underlying t = some (.int k)) (h:Value.okWide P W .any base t v):v.oneCell' = true:=by
 simp only [Value.okWide,hu,Cell.okWide] at h;cases v <;> first | rfl | simp [Cell.ok,hu] at h
theorem qwt {P:Program} {W:World} {base:Nat} {t e:TypeId} {n:Nat} {v:Value} (hu:P.underlying t = some (.array n e)) (h:Value.okWide P W .any base t v):∃ vs,v = .agg vs:=by
 simp only [Value.okWide,hu] at h;obtain ⟨cs,h,_⟩:=h;exact ⟨cs,h⟩
section
variable {H:Type} {enc:TypeId × Value→H} {P:Program} {W:World} {base n:Nat} {t e:TypeId} {v:Value} {d:DataW H} {ps:List MemPlace}
theorem qvZ (hu:P.underlying t = some (.slice e)) (he:P.underlying e = some (.int .u8)) (hp:Ks P (n+2) t = true) (hv:Value.okWide P W .any base t v) (h:DataW.Trod enc P W 0 (fun _=>true) true t v d ps∧Wok P t d) :
  ∃ s:Sl UInt8,Rep (· < W.heap.size) W zo [] (.vsl s.nil (qf s.l) s.l.length) v∧s.l.length≤maxLen:=by
 obtain ⟨ds,h1,h2⟩:=qdc hp h;obtain ⟨s,rfl,hl⟩:=qtp hu he h1;exact ⟨s,qgb h2 (qic hu hv),hl⟩
theorem qvX {α:Type} [Enc α] {R:α→Prop} (hu:P.underlying t = some (.slice e)) (zJ:∀ l,vS P n e l→∃ a:α,l = Enc.cells a∧R a) (hp:Ks P (n+1) t = true) (hv:Value.okWide P W .any base t v) (h:DataW.Trod enc P W 0 (fun _=>true) true t v d ps∧Wok P t d) :
  ∃ s:Sl α,Rep (· < W.heap.size) W zo [] (.vsl s.nil (qk s.l) s.l.length) v∧s.l.length≤maxLen∧∀ a,a∈s.l→R a:=by
 obtain ⟨ds,h1,h2⟩:=qdc hp h;obtain ⟨s,rfl,hl,hr⟩:=qju hu zJ h1;exact ⟨s,qgb h2 (qic hu hv),hl,hr⟩
end
theorem qnn {ok:Nat→Prop} {w:World} {ι:qz} {H:qd}:RepL ok w ι H [] []:=⟨rfl,by simp⟩
theorem qcZ {ok:Nat→Prop} {w:World} {ι:qz} {H:qd} {d:D} {v:Value} {ds:List D} {vs:List Value} (h:Rep ok w ι H d v) (hs:RepL ok w ι H ds vs):RepL ok w ι H (d :: ds) (v :: vs):=by
 refine ⟨by simp [hs.1],fun j x hj=>?_⟩;cases j with
 | zero=>simp at hj;subst hj;exact h
 | succ j=>exact hs.2 j x (by simpa using hj)
end Go.Ev
namespace Go.Ev
open Go Go.Proofs
@[simp] theorem ID.ta (i:ID) (r:List D):(qf i.l ++ r).take 16 = qf i.l:=by simp
@[simp] theorem ID.da (i:ID) (r:List D):(qf i.l ++ r).drop 16 = r:=by simp
structure Cur where
 seq:ID
 n:Int
 boot:ID
 mono:Int
 real:Int
 xor:Int
 deriving DecidableEq
instance:Enc Cur:=⟨36,fun m=>(qf m.seq.l ++ (.int .u64 m.n :: (qf m.boot.l ++ (.int .u64 m.mono :: (.int .u64 m.real :: (.int .u64 m.xor :: ([]:List D))))))),fun m=>by simp,fun m=>by simp [idFree]⟩
theorem Cur.cells (m:Cur):Enc.cells m = (qf m.seq.l ++ (.int .u64 m.n :: (qf m.boot.l ++ (.int .u64 m.mono :: (.int .u64 m.real :: (.int .u64 m.xor :: ([]:List D))))))):=rfl
@[simp] theorem Cur.size:Enc.size Cur = 36:=rfl
@[simp] theorem Cur.cl (a:Cur):(Enc.cells a).length = 36:=Enc.len a
@[simp] theorem Cur.ct (a:Cur) (r:List D):(Enc.cells a ++ r).take 36 = Enc.cells a:=ZN rfl a r
@[simp] theorem Cur.ct' (a:Cur):(Enc.cells a).take 36 = Enc.cells a:=ZM rfl a
@[simp] theorem Cur.cd (a:Cur) (r:List D):(Enc.cells a ++ r).drop 36 = r:=ZO rfl a r
@[simp] theorem Cur.el (l:List Cur):(qk l).length = l.length * 36:=ZJ rfl l
@[simp] theorem Cur.ed (l:List Cur) (i:Nat):(qk l).drop (i * 36) = qk (l.drop i):=QV rfl l i
@[simp] theorem Cur.et (l:List Cur) (i:Nat):(qk l).take (i * 36) = qk (l.take i):=QU rfl l i
@[simp high] theorem Cur.ea {l:List Cur} {i:Nat} (h:i < l.length):(qk l).drop (i * 36) = Enc.cells l[i] ++ qk (l.drop (i+1)):=QD rfl h
@[simp high] theorem Cur.es (m:Cur) {l:List Cur} {j:Nat} (h:j < l.length):qC (qk l) (j * 36) (Enc.cells m) = qk (l.set j m):=Qu rfl m l h
@[simp] theorem Cur.t0 (m:Cur):(Enc.cells m).take 16 = qf m.seq.l:=by simp [Cur.cells]
@[simp] theorem Cur.t0' (m:Cur) (r:List D):(Enc.cells m ++ r).take 16 = qf m.seq.l:=by simp [Cur.cells]
@[simp] theorem Cur.s0 (m:Cur) (x:ID):qC (Enc.cells m) 0 (qf x.l) = Enc.cells { m with seq:=x }:=by simp [kR,Cur.cells]
@[simp] theorem Cur.d16 (m:Cur):(Enc.cells m).drop 16 = (.int .u64 m.n :: (qf m.boot.l ++ (.int .u64 m.mono :: (.int .u64 m.real :: (.int .u64 m.xor :: ([]:List D)))))):=by simp [Cur.cells]
@[simp] theorem Cur.d16' (m:Cur) (r:List D):(Enc.cells m ++ r).drop 16 = (.int .u64 m.n :: (qf m.boot.l ++ (.int .u64 m.mono :: (.int .u64 m.real :: (.int .u64 m.xor :: ([]:List D)))))) ++ r:=by simp [Cur.cells]
@[simp] theorem Cur.g16 (m:Cur) (h):(Enc.cells m)[16]'h = .int .u64 m.n:=by simp [Cur.cells]
@[simp] theorem Cur.q16 (m:Cur):(Enc.cells m)[16]? = some (.int .u64 m.n):=by simp [Cur.cells]
@[simp] theorem Cur.s16 (m:Cur) (x:Int):qC (Enc.cells m) 16 [.int .u64 x] = Enc.cells { m with n:=x }:=by simp [zk,jE,Cur.cells]
@[simp] theorem Cur.d17 (m:Cur):(Enc.cells m).drop 17 = (qf m.boot.l ++ (.int .u64 m.mono :: (.int .u64 m.real :: (.int .u64 m.xor :: ([]:List D))))):=by simp [zk,jE,Cur.cells]
@[simp] theorem Cur.d17' (m:Cur) (r:List D):(Enc.cells m ++ r).drop 17 = (qf m.boot.l ++ (.int .u64 m.mono :: (.int .u64 m.real :: (.int .u64 m.xor :: ([]:List D))))) ++ r:=by simp [zk,jE,Cur.cells]
@[simp] theorem Cur.s17 (m:Cur) (x:ID):qC (Enc.cells m) 17 (qf x.l) = Enc.cells { m with boot:=x }:=by simp [kR,zk,jE,qP,Cur.cells]
@[simp] theorem Cur.d33 (m:Cur):(Enc.cells m).drop 33 = (.int .u64 m.mono :: (.int .u64 m.real :: (.int .u64 m.xor :: ([]:List D)))):=by simp [zk,jE,Cur.cells]
@[simp] theorem Cur.d33' (m:Cur) (r:List D):(Enc.cells m ++ r).drop 33 = (.int .u64 m.mono :: (.int .u64 m.real :: (.int .u64 m.xor :: ([]:List D)))) ++ r:=by simp [zk,jE,Cur.cells]
@[simp] theorem Cur.g33 (m:Cur) (h):(Enc.cells m)[33]'h = .int .u64 m.mono:=by simp [Cur.cells]
@[simp] theorem Cur.q33 (m:Cur):(Enc.cells m)[33]? = some (.int .u64 m.mono):=by simp [Cur.cells]
@[simp] theorem Cur.s33 (m:Cur) (x:Int):qC (Enc.cells m) 33 [.int .u64 x] = Enc.cells { m with mono:=x }:=by simp [kR,zk,jE,qP,Cur.cells]
@[simp] theorem Cur.d34 (m:Cur):(Enc.cells m).drop 34 = (.int .u64 m.real :: (.int .u64 m.xor :: ([]:List D))):=by simp [zk,jE,Cur.cells]
@[simp] theorem Cur.d34' (m:Cur) (r:List D):(Enc.cells m ++ r).drop 34 = (.int .u64 m.real :: (.int .u64 m.xor :: ([]:List D))) ++ r:=by simp [zk,jE,Cur.cells]
@[simp] theorem Cur.g34 (m:Cur) (h):(Enc.cells m)[34]'h = .int .u64 m.real:=by simp [Cur.cells]
@[simp] theorem Cur.q34 (m:Cur):(Enc.cells m)[34]? = some (.int .u64 m.real):=by simp [Cur.cells]
@[simp] theorem Cur.s34 (m:Cur) (x:Int):qC (Enc.cells m) 34 [.int .u64 x] = Enc.cells { m with real:=x }:=by simp [kR,zk,jE,qP,Cur.cells]
@[simp] theorem Cur.d35 (m:Cur):(Enc.cells m).drop 35 = (.int .u64 m.xor :: ([]:List D)):=by simp [zk,jE,Cur.cells]
@[simp] theorem Cur.d35' (m:Cur) (r:List D):(Enc.cells m ++ r).drop 35 = (.int .u64 m.xor :: ([]:List D)) ++ r:=by simp [zk,jE,Cur.cells]
@[simp] theorem Cur.g35 (m:Cur) (h):(Enc.cells m)[35]'h = .int .u64 m.xor:=by simp [Cur.cells]
@[simp] theorem Cur.q35 (m:Cur):(Enc.cells m)[35]? = some (.int .u64 m.xor):=by simp [Cur.cells]
@[simp] theorem Cur.s35 (m:Cur) (x:Int):qC (Enc.cells m) 35 [.int .u64 x] = Enc.cells { m with xor:=x }:=by simp [kR,zk,jE,qP,Cur.cells]
def jC (k:Nat):UInt8:=if k < 10 then UInt8.ofNat (48+k) else UInt8.ofNat (87+k)
def Qs:Nat→Nat→List UInt8
 | 0,_=>[]
 | f+1,v=>if v < 16 then [jC v] else Qs f (v / 16) ++ [jC (v % 16)]
def hx (v:Nat):List UInt8:=Qs 16 v
def JL:List UInt8:=[48,49,50,51,52,53,54,55,56,57,97,98,99,100,101,102]
def qfZ:List UInt8:=[48,49,50,51,52,53,54,55,56,57,97,98,99,100,101,102,103,104,105,106,107,108,109,110,111,112,113,114,115,116,117,118,119,120,121,122]
theorem qkp:∀ k,k < 16→qfZ[k]? = some (jC k):=by decide
theorem qko:∀ k,k < 16→JL[k]? = some (jC k):=by decide
theorem qkn:∀ k,k < 16→Z4 (jC k) JL 0 = (k:Int):=by decide
theorem qjm:∀ (f v:Nat),(Qs f v).length≤f
 | 0,_=>qv _
 | f+1,v=>by
  rw [Qs];split
  ·simp
  ·have:=qjm f (v / 16);simp;omega
theorem qjd (v:Nat):(hx v).length≤16:=qjm 16 v
theorem qdD:∀ k,k < 16→jC k≠59∧jC k≠61∧jC k≠45:=by decide
theorem qjl:∀ (f v:Nat),∀ x∈Qs f v,x≠59∧x≠61∧x≠45
 | 0,_=>by simp [Qs]
 | f+1,v=>by
  rw [Qs];split
  ·intro x hx;rw [List.mem_singleton.1 hx];exact qdD v (by assumption)
  ·intro x hx;rcases List.mem_append.1 hx with h | h
   ·exact qjl f _ x h
   ·rw [List.mem_singleton.1 h];exact qdD _ (Yf _ (by decide))
theorem qsL (v:Nat):∀ x∈hx v,x≠59∧x≠61∧x≠45:=qjl 16 v
def zI:List UInt8→List UInt8
 | []=>[]
 | b :: l=>jC (b.toNat / 16) :: jC (b.toNat % 16) :: zI l
theorem qa9:∀ (l:List UInt8),(zI l).length = 2 * l.length
 | []=>rfl
 | b :: l=>by simp [zI,qa9 l];omega
theorem qjj:∀ (a b:List UInt8),zI (a ++ b) = zI a ++ zI b
 | [],_=>rfl
 | x :: a,b=>by simp [zI,qjj a b]
theorem qji:∀ (l:List UInt8),∀ x∈zI l,x≠59∧x≠61∧x≠45
 | []=>by simp [zI]
 | b :: l=>by
  intro x hx;simp only [zI,zA] at hx;have hb:=b.toNat_lt;rcases hx with rfl | rfl | hx
  ·exact qdD _ (by omega)
  ·exact qdD _ (by omega)
  ·exact qji l x hx
def vO (v:Nat):List UInt8:=List.replicate (16 - (hx v).length) 48 ++ hx v
theorem qbo (v:Nat):(vO v).length = 16:=by
 have:=qjd v;simp [vO];omega
def Vd:List UInt8→Nat→List UInt8→Option (List UInt8)
 | [],_,st=>some st
 | c :: l,i,st=>if Z4 c JL 0 < 0 then none else Vd l (i+1) (st.set (i / 2) ((st.getD (i / 2) 0 <<< 4) ||| UInt8.ofNat (Z4 c JL 0).toNat))
def zero16:List UInt8:=List.replicate 16 0
def J5 (s:List UInt8):Option (List UInt8):=if s.length = 32 then Vd s 0 zero16 else none
theorem qja:∀ (s:List UInt8) (i:Nat) (st r:List UInt8),Vd s i st = some r→r.length = st.length
 | [],_,st,r,h=>by simp only [Vd,qs] at h;rw [h]
 | c :: l,i,st,r,h=>by
  simp only [Vd] at h;split at h
  ·cases h
  ·have:=qja l _ _ r h;simpa using this
theorem qsG {s r:List UInt8} (h:J5 s = some r):r.length = 16:=by
 unfold J5 at h;split at h
 ·have:=qja _ _ _ _ h;simpa [zero16] using this
 ·cases h
theorem qiU (c:UInt8):∀ (l:List UInt8) (n:Nat),Z4 c l n = -1∨∃ k,k < l.length∧Z4 c l n = ((n+k:Nat):Int)
 | [],_=>.inl rfl
 | b :: l,n=>by
  unfold Z4;split
  ·exact .inr ⟨0,by simp,by simp⟩
  ·rcases qiU c l (n+1) with h | ⟨k,h1,h2⟩
   ·exact .inl h
   ·exact .inr ⟨k+1,by simp;omega,by rw [h2];omega⟩
theorem qol:∀ n,n < 256→(((0:UInt8) <<< 4 ||| UInt8.ofNat (n / 16)) <<< 4) ||| UInt8.ofNat (n % 16) = UInt8.ofNat n:=by decide +kernel
theorem qom (b:UInt8):(((0:UInt8) <<< 4 ||| UInt8.ofNat (b.toNat / 16)) <<< 4) ||| UInt8.ofNat (b.toNat % 16) = b:=by
 rw [qol b.toNat b.toNat_lt,UInt8.ofNat_toNat]
theorem qjb:∀ (l done:List UInt8),Vd (zI l) (2 * done.length) (done ++ List.replicate l.length 0) = some (done ++ l)
 | [],done=>by simp [zI,Vd]
 | b :: l,done=>by
  have hb:=b.toNat_lt;have h1:=qkn (b.toNat / 16) (by omega);have h2:=qkn (b.toNat % 16) (by omega);simp only [zI,Vd,h1,h2];rw [if_neg (by omega),if_neg (by omega)];have e1:2 * done.length / 2 = done.length:=by omega
  have e2:(2 * done.length+1) / 2 = done.length:=by omega
  have e3:2 * done.length+1+1 = 2 * (done ++ [b]).length:=by simp;omega
  have g1:(done ++ List.replicate (b :: l).length 0).getD done.length 0 = (0:UInt8):=by
   simp [List.getD,qai]
  rw [e1,e2,e3,g1]
  have s1:∀ x:UInt8,(done ++ List.replicate (b :: l).length (0:UInt8)).set done.length x = done ++ x :: List.replicate l.length 0:=by
   intro x;simp [qai]
  rw [s1]
  have g2:∀ x:UInt8,(done ++ x :: List.replicate l.length (0:UInt8)).getD done.length 0 = x:=by
   intro x;simp [List.getD]
  rw [g2]
  have s2:∀ x y:UInt8,(done ++ x :: List.replicate l.length (0:UInt8)).set done.length y = (done ++ [y]) ++ List.replicate l.length 0:=by
   intro x y;simp
  have e4:((((b.toNat / 16:Nat):Int)).toNat) = b.toNat / 16:=by omega
  have e5:((((b.toNat % 16:Nat):Int)).toNat) = b.toNat % 16:=by omega
  rw [s2,e4,e5,qom b,qjb l (done ++ [b])];simp
theorem qsH {l:List UInt8} (h:l.length = 16):J5 (zI l) = some l:=by
 unfold J5;rw [if_pos (by rw [qa9,h])];have:=qjb l [];simpa [zero16,h] using this
theorem qmr:∀ n:Nat,n < 256→∀ k:Nat,k < 16→Z1 .u8 (IntKind.u8.wrap ((n:Int) * 16)) (k:Int) = ((UInt8.ofNat n <<< 4 ||| UInt8.ofNat k).toNat:Int):=by decide +kernel
theorem qmq (a:UInt8) (k:Nat) (hk:k < 16):Z1 .u8 (IntKind.u8.wrap ((a.toNat:Int) * 16)) (k:Int) = ((a <<< 4 ||| UInt8.ofNat k).toNat:Int):=by
 rw [qmr a.toNat a.toNat_lt k hk,UInt8.ofNat_toNat]
theorem qwj {n:Nat} (h:n < 18446744073709551616):qb4 .u64 (n:Int) 15 = ((n % 16:Nat):Int):=by
 unfold qb4
 have e:(BitVec.ofInt IntKind.u64.bits (n:Int) &&& BitVec.ofInt IntKind.u64.bits 15).toNat = n % 16:=by
  show (BitVec.ofInt 64 (n:Int) &&& BitVec.ofInt 64 ((15:Nat):Int)).toNat = n % 16;rw [qet,qet,BitVec.toNat_and,qes,qes,qc8 (show n < 2 ^ 64 by omega)];exact Nat.and_two_pow_sub_one_eq_mod n 4
 rw [e,qF];omega
theorem qwh:∀ n:Nat,n < 256→qb4 .u8 (n:Int) 15 = ((n % 16:Nat):Int):=by decide +kernel
theorem qwi (b:UInt8):qb4 .u8 (b.toNat:Int) 15 = ((b.toNat % 16:Nat):Int):=qwh b.toNat b.toNat_lt
theorem qjI (n:Nat):Int.fdiv (n:Int) 16 = ((n / 16:Nat):Int):=by
 rw [Int.fdiv_eq_ediv_of_nonneg _ (by omega)];omega
theorem qtZ (i:Nat) (s:List UInt8) (c:UInt8):qC (List.replicate (i+1) (D.int .u8 0) ++ qf s) i [.int .u8 c.toNat] = List.replicate i (.int .u8 0) ++ qf (c :: s):=by
 unfold qC;have h:(List.replicate (i+1) (D.int .u8 0) ++ qf s).drop (i+1) = qf s:=VH (by simp)
 have h2:(List.replicate (i+1) (D.int .u8 0) ++ qf s).take i = List.replicate i (D.int .u8 0):=by
  rw [List.take_append_of_le_length (by simp),List.take_replicate];congr 1;omega
 rw [h2,List.length_singleton,h];simp [qf]
end Go.Ev
namespace Go.Ev.S
open Go Go.Proofs Go.Ev
theorem qnv [MaxL] [TxtC]:call cx 165 [.int .i64 16] [] = some (.bool true,[]):=call_some.2 ⟨60,by kernel_rfl⟩
theorem qlA [MaxL] [TxtC]:call cx 166 [.int .u64 16] [] = some (.int .i64 4,[]):=call_some.2 ⟨100,by kernel_rfl⟩
def qc9 (v i u:Nat) (s:List UInt8):Prop:= ∃ g,1≤g∧g≤16∧i = 49+g∧s.length+g = 16∧u < 16 ^ g∧Qs g u ++ s = hx v
theorem qsR {v i u:Nat} {s:List UInt8} (h:qc9 v i u s) (hu:16≤u):51≤i∧qc9 v (i - 1) (u / 16) (jC (u % 16) :: s):=by
 obtain ⟨g,h1,h2,rfl,h4,h5,h6⟩:=h;obtain ⟨f,rfl⟩:∃ f,g = f+1:=⟨g - 1,by omega⟩
 have hf:1≤f:=by
  rcases f with _ | f
  ·simp at h5;omega
  ·omega
 refine ⟨by omega,f,hf,by omega,by omega,by simp;omega,by rw [qb5] at h5;omega,?_⟩;rw [Qs,if_neg (by omega)] at h6;simpa using h6
theorem qsT {v i u:Nat} {s:List UInt8} (h:qc9 v i u s) (hu:u < 16):jC u :: s = hx v∧50≤i∧i≤65∧i+s.length = 65:=by
 obtain ⟨g,h1,h2,rfl,h4,h5,h6⟩:=h;obtain ⟨f,rfl⟩:∃ f,g = f+1:=⟨g - 1,by omega⟩;rw [Qs,if_pos hu] at h6;exact ⟨by simpa using h6,by omega,by omega,by omega⟩
theorem qsS {v i u:Nat} {s:List UInt8} (h:qc9 v i u s):i+s.length = 65∧50≤i:=by
 obtain ⟨g,h1,h2,rfl,h4,h5,h6⟩:=h;omega
theorem qjH {i j:Nat} (hi:i = j+1) (s:List UInt8) (c:UInt8):qC (List.replicate i (D.int .u8 0) ++ qf s) j [.int .u8 c.toNat] = List.replicate j (.int .u8 0) ++ qf (c :: s):=by
 rw [hi];exact qtZ j s c
set_option maxHeartbeats 2000000 in
theorem quc [MaxL] [TxtC] (v:Nat) (hv:v < 18446744073709551616):call cx 123 [.vsl true [] 0,.int .u64 v,.int .i64 16,.bool false,.bool false] [] = some (.tup [.vsl true [] 0,.str (hx v)],[]):=by
 have h1:=qnv;have h2:=qlA;have w16:IntKind.u64.wrap 16 = 16:=by decide
 have w15:IntKind.u64.wrap 15 = 15:=by decide
 have w4:IntKind.u64.wrap 4 = 4:=by decide
 refine qA Tryz.func123 rfl ⟨rfl,rfl⟩ ?_;simp [-List.reduceReplicate,Tryz.f123,h1,h2,w16,w15,w4]
 refine Run.loopThen (fun (q:Nat × Nat × List UInt8) e H'=>qc9 v q.1 q.2.1 q.2.2∧q.2.1 < 18446744073709551616∧H' = [some (List.replicate q.1 (.int .u8 0) ++ qf q.2.2)] ∧
   qg e 0 = some (.vsl true [] 0)∧qg e 1 = some (.int .u64 (q.2.1:Nat))∧qg e 3 = some (.bool false)∧qg e 4 = some (.bool false)∧qg e 10 = some (.vsl true [] 0)∧qg e 11 = some (.str [])∧qg e 12 = some (.optr 0 65 0) ∧
   qg e 13 = some (.int .i64 (q.1:Nat))∧qg e 14 = some (.int .u64 4)∧qg e 15 = some (.int .u64 16)∧qg e 16 = some (.int .u64 15)) (fun q=>q.2.1) (65,v,[]) ?_ ?_
 ·refine ⟨⟨16,by omega,by omega,by omega,by simp,by omega,by simp [hx]⟩,hv,?_,?_⟩
  ·show [some (List.replicate 65 (D.int .u8 0))] = [some (List.replicate 65 (D.int .u8 0) ++ [])];rw [Xm]
  ·simp
 rintro ⟨i,u,s⟩ e H' ⟨hI,hu,rfl,k0,k1,k3,k4,k10,k11,k12,k13,k14,k15,k16⟩;simp only at hI hu k1 k13;obtain ⟨hl,h50⟩:=qsS hI;obtain ⟨j,hj⟩:∃ j,i = j+1:=⟨i - 1,by omega⟩;have hw:IntKind.i64.wrap ((i:Int) - 1) = (j:Int):=by rw [wrap_i64] <;> omega
 have hj65:(j:Int) < 65:=by omega
 have Qp:j+1≤i+s.length:=by omega
 have hj64:j≤64:=by omega
 by_cases h16:16≤u
 ·have h16':(16:Int)≤(u:Int):=by omega
  obtain ⟨h51,hS⟩:=qsR hI h16;have ha:=qwj hu;have hd:=qkp (u % 16) (Yf _ (by decide));simp only [qfZ] at hd;have hf:=qjI u;have hst:=qjH hj s (jC (u % 16));have e1:i - 1 = j:=by omega
  rw [e1] at hS;have hu2:u / 16 < u:=by omega
  have hu3:u / 16 < 18446744073709551616:=by omega
  generalize u / 16 = u2 at *;generalize jC (u % 16) = c at *;obtain ⟨m,hm⟩:∃ m,m = u % 16:=⟨_,rfl⟩;rw [← hm] at ha hd;simp [-qaP,k0,k1,k3,k4,k10,k11,k12,k13,k14,k15,k16,h16',hw,hj65,hj64,hl,ha,hd,hst];have hp4:(2:Int) ^ min 4 IntKind.u64.bits = 16:=by decide
  exact ⟨j,u2,hu2,c :: s,hS,hu3,by simp [hp4,hf]⟩
 ·have h16':¬ (16:Int)≤(u:Int):=by omega
  obtain ⟨hE,_,_,_⟩:=qsT hI (by omega);have hd:=qkp u (by omega);simp only [qfZ] at hd;have hst:=qjH hj s (jC u)
  have YL:List.take (65 - j) (List.drop j (List.replicate j (D.int .u8 0) ++ qf (jC u :: s))) = qf (hx v):=by
   rw [VH (by simp),hE];refine qP ?_;rw [← hE];simp;omega
  have hj2:(j:Int)≤65:=by omega
  have hj3:j≤65:=by omega
  have hj4:j < 65:=by omega
  have hl3:j+(65 - j) = 65:=by omega
  have hl4:j+(hx v).length = 65:=by rw [← hE];simp;omega
  have hlh:(hx v).length = 65 - j:=by rw [← hE];simp;omega
  have hl2:j+(qf (jC u :: s)).length = 65:=by simp;omega
  simp only [hE] at hst YL hl2;generalize jC u = c at *;simp [-qaP,k0,k1,k3,k4,k10,k11,k12,k13,k14,k15,k16,h16',hw,hj65,hj64,hl,hd,hst,hj2,hj4,hl3,hlh]
theorem qt6 [MaxL] [TxtC] (v:Nat) (hv:v < 18446744073709551616):call cx 86 [.int .u64 v,.int .i64 16] [] = some (.str (hx v),[]):=by
 have h:=quc v hv;refine qA Tryz.func86 rfl ⟨rfl,rfl⟩ ?_;simp [Tryz.f86,h]
theorem qt7 [MaxL] [TxtC] (v:Nat) (hv:v < 18446744073709551616):call cx 56 [.int .u64 v,.int .i64 16] [] = some (.str (hx v),[]):=by
 have h:=qt6 v hv;refine qA Tryz.func56 rfl ⟨rfl,rfl⟩ ?_;simp [Tryz.f56,h]
theorem qnR (a b:UInt8):Z1 .u8 (a.toNat:Int) (b.toNat:Int) = ((a ||| b).toNat:Int):=by
 unfold Z1;have h:=(a ||| b).toNat_lt
 have e:(BitVec.ofInt IntKind.u8.bits (a.toNat:Int) ||| BitVec.ofInt IntKind.u8.bits (b.toNat:Int)).toNat = (a ||| b).toNat:=by
  simp [IntKind.bits];rfl
 rw [e,ZV];omega
theorem qi1 [MaxL] [TxtC] (c:UInt8):call cx 149 [.int .u8 c.toNat] [] = some (.int .u8 ((c ||| 32).toNat:Int),[]):=by
 have h:=qnR c 32;have h':Z1 .u8 (c.toNat:Int) 32 = ((c ||| 32).toNat:Int):=h;refine qA Tryz.func149 rfl ⟨rfl,rfl⟩ ?_;simp [Tryz.f149,h']
theorem qwm {p:UInt8→Bool} (h:((List.range 256).all fun k=>p (UInt8.ofNat k)) = true) (c:UInt8):p c = true:=by
 have:=List.all_eq_true.1 h c.toNat (List.mem_range.2 c.toNat_lt);rw [UInt8.ofNat_toNat] at this;exact this
theorem qi2 {c:UInt8} (h:c.toNat < 48):(c ||| 32).toNat < 97:=by
 have:=qwm (p:=fun c=>decide (c.toNat < 48) == false || decide ((c ||| 32).toNat < 97)) (by decide +kernel) c;simpa [h] using this
theorem qi3 {c:UInt8} (h:c.toNat = 95):122 < (c ||| 32).toNat:=by
 simp [h]
def qbs (c:UInt8):Option Nat:=if 48≤c.toNat∧c.toNat≤57 then some (c.toNat - 48) else if 97≤(c ||| 32).toNat∧(c ||| 32).toNat≤122 then some ((c ||| 32).toNat - 97+10) else none
def vV (b:Nat):List UInt8→Nat→Option Nat
 | [],n=>some n
 | c :: l,n=>match qbs c with
  | none=>none
  | some d=>if b≤d then none else if 18446744073709551616≤n * b+d then none else vV b l (n * b+d)
def pu (b:Nat) (s:List UInt8):Option Nat:=if s = [] then none else vV b s 0
theorem qcF {x d:Nat} (hx:x < 18446744073709551616) (hd:d < 16) (h:18446744073709551616≤x+d):IntKind.u64.wrap ((x:Int)+(d:Int)) < (x:Int):=by
 simp only [IntKind.wrap,IntKind.signed,IntKind.bits];simp;omega
theorem qhG (b:Nat):∀ (l:List UInt8) (n v:Nat),n < 18446744073709551616→vV b l n = some v→v < 18446744073709551616
 | [],n,v,hn,h=>by simp [vV] at h;omega
 | c :: l,n,v,hn,h=>by
  unfold vV at h;split at h
  ·cases h
  ·split at h
   ·cases h
   ·split at h
    ·cases h
    ·exact qhG b l _ v (by omega) h
set_option maxHeartbeats 2000000 in
set_option maxRecDepth 4000 in
theorem qnr [MaxL] [TxtC] (b:Nat) (hb:b = 10∨b = 16) (s:List UInt8) (hs:s.length < 4611686018427387904) :
  (∃ n,pu b s = some n∧call cx 106 [.str s,.int .i64 b,.int .i64 64] [] = some (.tup [.int .u64 n,.nili],[])) ∨
  (pu b s = none∧∃ (x:Nat) (c:Int),(c = 1∨c = 2)∧call cx 106 [.str s,.int .i64 b,.int .i64 64] [] = some (.tup [.int .u64 x,.iface 235 (.int .i64 c)],[])):=by
 suffices h:∃ r,call cx 106 [.str s,.int .i64 b,.int .i64 64] [] = some r∧((∃ n,pu b s = some n∧r = (.tup [.int .u64 n,.nili],[]))∨(pu b s = none∧∃ (x:Nat) (c:Int),(c = 1∨c = 2)∧r = (.tup [.int .u64 x,.iface 235 (.int .i64 c)],[]))) by
  obtain ⟨r,h1,⟨n,h2,rfl⟩ | ⟨h2,x,c,h3,rfl⟩⟩:=h
  ·exact .inl ⟨n,h2,h1⟩
  ·exact .inr ⟨h2,x,c,h3,h1⟩
 refine Jt (fun r=>(∃ n:Nat,pu b s = some n∧r = (D.tup [.int .u64 n,.nili],[]))∨(pu b s = none∧∃ (x:Nat) (c:Int),(c = 1∨c = 2)∧r = (D.tup [.int .u64 x,.iface 235 (.int .i64 c)],[]))) Tryz.func106 rfl ⟨rfl,rfl⟩ ?_;by_cases h0:s = []
 ·subst h0;simp [Tryz.f106,pu];exact ⟨0,rfl⟩
 ·have Z8:s.length≠0:=by simpa using h0
  have Q9:(2:Int)≤(b:Int):=by omega
  have hc36:(b:Int)≤36:=by omega
  have hbz:¬ (b:Int) = 0:=by omega
  have Zl:IntKind.u64.wrap (IntKind.u64.wrap (2 ^ min 64 IntKind.u64.bits) - 1) = 18446744073709551615:=by decide
  have kr:pu b s = vV b s 0:=by rw [pu,if_neg h0]
  rcases hb with rfl | rfl
  ·simp [Tryz.f106,h0,Zl];refine Run.loopThen (fun (z:Nat × Nat) e H'=>z.1≤s.length∧z.2 < 18446744073709551616∧vV 10 (s.drop z.1) z.2 = vV 10 s 0∧H' = [some (qf s)]∧qg e 1 = some (.int .i64 10)∧qg e 8 = some (.bool false)∧qg e 9 = some (.str s)∧qg e 10 = some (.int .u64 1844674407370955162)∧qg e 11 = some (.int .u64 18446744073709551615)∧qg e 12 = some (.bool false)∧qg e 13 = some (.int .u64 (z.2:Nat))∧qg e 99 = some (.osl 0 s.length 0 s.length 1)∧qg e 100 = some (.int .i64 s.length)∧qg e 101 = some (.int .i64 (z.1:Nat))) (fun z=>s.length - z.1) (0,0) (by simp) ?_;rintro ⟨i,n⟩ e H' ⟨hi,hn,hp,rfl,h1,h8,h9,vN,vL,jV,vo,vJ,vM,vp⟩;simp only at hi hn hp vo vp;by_cases qi:i < s.length
   ·have qq:(i:Int) < (s.length:Int):=(by omega);have hw:IntKind.i64.wrap ((i:Int)+1) = ((i+1:Nat):Int):=(by rw [wrap_i64] <;> omega);have hc:=qi1 s[i];have hclt:=s[i].toNat_lt;rw [vR qi,vV] at hp;unfold qbs at hp;by_cases hd:48≤s[i].toNat∧s[i].toNat≤57
    ·rw [if_pos hd] at hp;have g1:(48:Int)≤(s[i].toNat:Int):=(by omega);have g2:(s[i].toNat:Int)≤57:=(by omega);have g3:¬ (s[i].toNat:Int) = 95:=(by omega);obtain ⟨d,hdd⟩:∃ d,d = s[i].toNat - 48:=⟨_,rfl⟩;have dw:IntKind.u8.wrap ((s[i].toNat:Int) - 48) = (d:Int):=(by rw [ZV] <;> omega);rw [← hdd] at hp;simp only at hp;have hd16:d < 16:=(by omega);have wd:IntKind.u64.wrap (d:Int) = (d:Int):=(by rw [qF];omega);by_cases zY:10≤d
     ·have kH:(10:Int)≤(d:Int):=(by omega);rw [if_pos zY] at hp;simp [h1,h8,h9,vN,vL,jV,vo,vJ,vM,vp,qq,jK qi,g1,g2,g3,dw,kH];exact ⟨by rw [kr];exact hp.symm,0,rfl⟩
     ·have kH:¬ (10:Int)≤(d:Int):=(by omega);rw [if_neg zY] at hp;by_cases hcut:1844674407370955162≤n
      ·have Q6:(1844674407370955162:Int)≤(n:Int):=(by omega);rw [if_pos (by omega)] at hp;simp [h1,h8,h9,vN,vL,jV,vo,vJ,vM,vp,qq,jK qi,g1,g2,g3,dw,kH,Q6];exact ⟨by rw [kr];exact hp.symm,18446744073709551615,rfl⟩
      ·have Q6:¬ (1844674407370955162:Int)≤(n:Int):=(by omega);obtain ⟨m,hm⟩:∃ m,m = n * 10:=⟨_,rfl⟩;have hm64:m < 18446744073709551616:=(by omega);have wm:IntKind.u64.wrap ((n:Int) * 10) = (m:Int):=(by rw [qF] <;> omega);rw [← hm] at hp;by_cases Jg:18446744073709551616≤m+d
       ·rw [if_pos Jg] at hp;have hx:=qcF hm64 (by omega) Jg;generalize hX:IntKind.u64.wrap ((m:Int)+(d:Int)) = X at hx;simp [h1,h8,h9,vN,vL,jV,vo,vJ,vM,vp,qq,jK qi,g1,g2,g3,dw,kH,Q6,wd,wm,hX,hx];exact ⟨by rw [kr];exact hp.symm,18446744073709551615,rfl⟩
       ·rw [if_neg Jg] at hp;obtain ⟨q,hq⟩:∃ q,q = m+d:=⟨_,rfl⟩;have wq:IntKind.u64.wrap ((m:Int)+(d:Int)) = (q:Int):=(by rw [qF] <;> omega);have X1:¬ (q:Int) < (m:Int):=(by omega);have hx2:¬ (18446744073709551615:Int) < (q:Int):=(by omega);rw [← hq] at hp;simp [h1,h8,h9,vN,vL,jV,vo,vJ,vM,vp,qq,jK qi,g1,g2,g3,dw,kH,Q6,wd,wm,wq,X1,hx2,hw];exact ⟨i+1,by omega,by omega,q,by omega,hp,rfl,by simp⟩
    ·rw [if_neg hd] at hp;by_cases YT:s[i].toNat < 48
     ·have lw:=qi2 YT;rw [if_neg (by omega)] at hp;have g1:¬ (48:Int)≤(s[i].toNat:Int):=(by omega);have g3:¬ (s[i].toNat:Int) = 95:=(by omega);have f1:¬ (97:Int)≤((s[i] ||| 32).toNat:Int):=(by omega);generalize (s[i] ||| 32).toNat = lc at *;simp only at hp;simp [h1,h8,h9,vN,vL,jV,vo,vJ,vM,vp,qq,jK qi,g1,g3,hc,f1];exact ⟨by rw [kr];exact hp.symm,0,rfl⟩
     ·have g1:(48:Int)≤(s[i].toNat:Int):=(by omega);have g2:¬ (s[i].toNat:Int)≤57:=(by omega);by_cases g95:s[i].toNat = 95
      ·have lw:=qi3 g95;rw [if_neg (by omega)] at hp;have g3:(s[i].toNat:Int) = 95:=(by omega);have f1:(97:Int)≤((s[i] ||| 32).toNat:Int):=(by omega);have f2:¬ ((s[i] ||| 32).toNat:Int)≤122:=(by omega);generalize (s[i] ||| 32).toNat = lc at *;rw [g3] at hc;simp only at hp;simp [h1,h8,h9,vN,vL,jV,vo,vJ,vM,vp,qq,jK qi,g3,hc,f1,f2];exact ⟨by rw [kr];exact hp.symm,0,rfl⟩
      ·have g3:¬ (s[i].toNat:Int) = 95:=(by omega);have lw256:=(s[i] ||| 32).toNat_lt;generalize (s[i] ||| 32).toNat = lc at *;by_cases f:97≤lc∧lc≤122
       ·rw [if_pos f] at hp;have f1:(97:Int)≤(lc:Int):=(by omega);have f2:(lc:Int)≤122:=(by omega);obtain ⟨d0,jU⟩:∃ d,d = lc - 97:=⟨_,rfl⟩;obtain ⟨d,hdd⟩:∃ d,d = d0+10:=⟨_,rfl⟩;have dw1:IntKind.u8.wrap ((lc:Int) - 97) = (d0:Int):=(by rw [ZV] <;> omega);have dw2:IntKind.u8.wrap ((d0:Int)+10) = (d:Int):=(by rw [ZV] <;> omega);rw [← jU,← hdd] at hp;simp only at hp;have hd16:d < 36:=(by omega);have wd:IntKind.u64.wrap (d:Int) = (d:Int):=(by rw [qF];omega);by_cases zY:10≤d
        ·have kH:(10:Int)≤(d:Int):=(by omega);rw [if_pos zY] at hp;simp [h1,h8,h9,vN,vL,jV,vo,vJ,vM,vp,qq,jK qi,g1,g2,g3,hc,f1,f2,dw1,dw2,kH];exact ⟨by rw [kr];exact hp.symm,0,rfl⟩
        ·have kH:¬ (10:Int)≤(d:Int):=(by omega);rw [if_neg zY] at hp;by_cases hcut:1844674407370955162≤n
         ·have Q6:(1844674407370955162:Int)≤(n:Int):=(by omega);rw [if_pos (by omega)] at hp;simp [h1,h8,h9,vN,vL,jV,vo,vJ,vM,vp,qq,jK qi,g1,g2,g3,hc,f1,f2,dw1,dw2,kH,Q6];exact ⟨by rw [kr];exact hp.symm,18446744073709551615,rfl⟩
         ·have Q6:¬ (1844674407370955162:Int)≤(n:Int):=(by omega);obtain ⟨m,hm⟩:∃ m,m = n * 10:=⟨_,rfl⟩;have hm64:m < 18446744073709551616:=(by omega);have wm:IntKind.u64.wrap ((n:Int) * 10) = (m:Int):=(by rw [qF] <;> omega);rw [← hm] at hp;by_cases Jg:18446744073709551616≤m+d
          ·rw [if_pos Jg] at hp;have hx:=qcF hm64 (by omega) Jg;generalize hX:IntKind.u64.wrap ((m:Int)+(d:Int)) = X at hx;simp [h1,h8,h9,vN,vL,jV,vo,vJ,vM,vp,qq,jK qi,g1,g2,g3,hc,f1,f2,dw1,dw2,kH,Q6,wd,wm,hX,hx];exact ⟨by rw [kr];exact hp.symm,18446744073709551615,rfl⟩
          ·rw [if_neg Jg] at hp;obtain ⟨q,hq⟩:∃ q,q = m+d:=⟨_,rfl⟩;have wq:IntKind.u64.wrap ((m:Int)+(d:Int)) = (q:Int):=(by rw [qF] <;> omega);have X1:¬ (q:Int) < (m:Int):=(by omega);have hx2:¬ (18446744073709551615:Int) < (q:Int):=(by omega);rw [← hq] at hp;simp [h1,h8,h9,vN,vL,jV,vo,vJ,vM,vp,qq,jK qi,g1,g2,g3,hc,f1,f2,dw1,dw2,kH,Q6,wd,wm,wq,X1,hx2,hw];exact ⟨i+1,by omega,by omega,q,by omega,hp,rfl,by simp⟩
       ·rw [if_neg f] at hp;by_cases f3:97≤lc
        ·have f1:(97:Int)≤(lc:Int):=(by omega);have f2:¬ (lc:Int)≤122:=(by omega);simp only at hp;simp [h1,h8,h9,vN,vL,jV,vo,vJ,vM,vp,qq,jK qi,g1,g2,g3,hc,f1,f2];exact ⟨by rw [kr];exact hp.symm,0,rfl⟩
        ·have f1:¬ (97:Int)≤(lc:Int):=(by omega);simp only at hp;simp [h1,h8,h9,vN,vL,jV,vo,vJ,vM,vp,qq,jK qi,g1,g2,g3,hc,f1];exact ⟨by rw [kr];exact hp.symm,0,rfl⟩
   ·have qq:¬ (i:Int) < (s.length:Int):=(by omega);rw [JS (by omega),vV] at hp;simp [h1,h8,h9,vN,vL,jV,vo,vJ,vM,vp,qq];exact ⟨n,by rw [kr];exact hp.symm,rfl⟩
  ·simp [Tryz.f106,h0,Zl];refine Run.loopThen (fun (z:Nat × Nat) e H'=>z.1≤s.length∧z.2 < 18446744073709551616∧vV 16 (s.drop z.1) z.2 = vV 16 s 0∧H' = [some (qf s)]∧qg e 1 = some (.int .i64 16)∧qg e 8 = some (.bool false)∧qg e 9 = some (.str s)∧qg e 10 = some (.int .u64 1152921504606846976)∧qg e 11 = some (.int .u64 18446744073709551615)∧qg e 12 = some (.bool false)∧qg e 13 = some (.int .u64 (z.2:Nat))∧qg e 99 = some (.osl 0 s.length 0 s.length 1)∧qg e 100 = some (.int .i64 s.length)∧qg e 101 = some (.int .i64 (z.1:Nat))) (fun z=>s.length - z.1) (0,0) (by simp) ?_;rintro ⟨i,n⟩ e H' ⟨hi,hn,hp,rfl,h1,h8,h9,vN,vL,jV,vo,vJ,vM,vp⟩;simp only at hi hn hp vo vp;by_cases qi:i < s.length
   ·have qq:(i:Int) < (s.length:Int):=(by omega);have hw:IntKind.i64.wrap ((i:Int)+1) = ((i+1:Nat):Int):=(by rw [wrap_i64] <;> omega);have hc:=qi1 s[i];have hclt:=s[i].toNat_lt;rw [vR qi,vV] at hp;unfold qbs at hp;by_cases hd:48≤s[i].toNat∧s[i].toNat≤57
    ·rw [if_pos hd] at hp;have g1:(48:Int)≤(s[i].toNat:Int):=(by omega);have g2:(s[i].toNat:Int)≤57:=(by omega);have g3:¬ (s[i].toNat:Int) = 95:=(by omega);obtain ⟨d,hdd⟩:∃ d,d = s[i].toNat - 48:=⟨_,rfl⟩;have dw:IntKind.u8.wrap ((s[i].toNat:Int) - 48) = (d:Int):=(by rw [ZV] <;> omega);rw [← hdd] at hp;simp only at hp;have hd16:d < 16:=(by omega);have wd:IntKind.u64.wrap (d:Int) = (d:Int):=(by rw [qF];omega);by_cases zY:16≤d
     ·have kH:(16:Int)≤(d:Int):=(by omega);rw [if_pos zY] at hp;simp [h1,h8,h9,vN,vL,jV,vo,vJ,vM,vp,qq,jK qi,g1,g2,g3,dw,kH];exact ⟨by rw [kr];exact hp.symm,0,rfl⟩
     ·have kH:¬ (16:Int)≤(d:Int):=(by omega);rw [if_neg zY] at hp;by_cases hcut:1152921504606846976≤n
      ·have Q6:(1152921504606846976:Int)≤(n:Int):=(by omega);rw [if_pos (by omega)] at hp;simp [h1,h8,h9,vN,vL,jV,vo,vJ,vM,vp,qq,jK qi,g1,g2,g3,dw,kH,Q6];exact ⟨by rw [kr];exact hp.symm,18446744073709551615,rfl⟩
      ·have Q6:¬ (1152921504606846976:Int)≤(n:Int):=(by omega);obtain ⟨m,hm⟩:∃ m,m = n * 16:=⟨_,rfl⟩;have hm64:m < 18446744073709551616:=(by omega);have wm:IntKind.u64.wrap ((n:Int) * 16) = (m:Int):=(by rw [qF] <;> omega);rw [← hm] at hp;by_cases Jg:18446744073709551616≤m+d
       ·rw [if_pos Jg] at hp;have hx:=qcF hm64 (by omega) Jg;generalize hX:IntKind.u64.wrap ((m:Int)+(d:Int)) = X at hx;simp [h1,h8,h9,vN,vL,jV,vo,vJ,vM,vp,qq,jK qi,g1,g2,g3,dw,kH,Q6,wd,wm,hX,hx];exact ⟨by rw [kr];exact hp.symm,18446744073709551615,rfl⟩
       ·rw [if_neg Jg] at hp;obtain ⟨q,hq⟩:∃ q,q = m+d:=⟨_,rfl⟩;have wq:IntKind.u64.wrap ((m:Int)+(d:Int)) = (q:Int):=(by rw [qF] <;> omega);have X1:¬ (q:Int) < (m:Int):=(by omega);have hx2:¬ (18446744073709551615:Int) < (q:Int):=(by omega);rw [← hq] at hp;simp [h1,h8,h9,vN,vL,jV,vo,vJ,vM,vp,qq,jK qi,g1,g2,g3,dw,kH,Q6,wd,wm,wq,X1,hx2,hw];exact ⟨i+1,by omega,by omega,q,by omega,hp,rfl,by simp⟩
    ·rw [if_neg hd] at hp;by_cases YT:s[i].toNat < 48
     ·have lw:=qi2 YT;rw [if_neg (by omega)] at hp;have g1:¬ (48:Int)≤(s[i].toNat:Int):=(by omega);have g3:¬ (s[i].toNat:Int) = 95:=(by omega);have f1:¬ (97:Int)≤((s[i] ||| 32).toNat:Int):=(by omega);generalize (s[i] ||| 32).toNat = lc at *;simp only at hp;simp [h1,h8,h9,vN,vL,jV,vo,vJ,vM,vp,qq,jK qi,g1,g3,hc,f1];exact ⟨by rw [kr];exact hp.symm,0,rfl⟩
     ·have g1:(48:Int)≤(s[i].toNat:Int):=(by omega);have g2:¬ (s[i].toNat:Int)≤57:=(by omega);by_cases g95:s[i].toNat = 95
      ·have lw:=qi3 g95;rw [if_neg (by omega)] at hp;have g3:(s[i].toNat:Int) = 95:=(by omega);have f1:(97:Int)≤((s[i] ||| 32).toNat:Int):=(by omega);have f2:¬ ((s[i] ||| 32).toNat:Int)≤122:=(by omega);generalize (s[i] ||| 32).toNat = lc at *;rw [g3] at hc;simp only at hp;simp [h1,h8,h9,vN,vL,jV,vo,vJ,vM,vp,qq,jK qi,g3,hc,f1,f2];exact ⟨by rw [kr];exact hp.symm,0,rfl⟩
      ·have g3:¬ (s[i].toNat:Int) = 95:=(by omega);have lw256:=(s[i] ||| 32).toNat_lt;generalize (s[i] ||| 32).toNat = lc at *;by_cases f:97≤lc∧lc≤122
       ·rw [if_pos f] at hp;have f1:(97:Int)≤(lc:Int):=(by omega);have f2:(lc:Int)≤122:=(by omega);obtain ⟨d0,jU⟩:∃ d,d = lc - 97:=⟨_,rfl⟩;obtain ⟨d,hdd⟩:∃ d,d = d0+10:=⟨_,rfl⟩;have dw1:IntKind.u8.wrap ((lc:Int) - 97) = (d0:Int):=(by rw [ZV] <;> omega);have dw2:IntKind.u8.wrap ((d0:Int)+10) = (d:Int):=(by rw [ZV] <;> omega);rw [← jU,← hdd] at hp;simp only at hp;have hd16:d < 36:=(by omega);have wd:IntKind.u64.wrap (d:Int) = (d:Int):=(by rw [qF];omega);by_cases zY:16≤d
        ·have kH:(16:Int)≤(d:Int):=(by omega);rw [if_pos zY] at hp;simp [h1,h8,h9,vN,vL,jV,vo,vJ,vM,vp,qq,jK qi,g1,g2,g3,hc,f1,f2,dw1,dw2,kH];exact ⟨by rw [kr];exact hp.symm,0,rfl⟩
        ·have kH:¬ (16:Int)≤(d:Int):=(by omega);rw [if_neg zY] at hp;by_cases hcut:1152921504606846976≤n
         ·have Q6:(1152921504606846976:Int)≤(n:Int):=(by omega);rw [if_pos (by omega)] at hp;simp [h1,h8,h9,vN,vL,jV,vo,vJ,vM,vp,qq,jK qi,g1,g2,g3,hc,f1,f2,dw1,dw2,kH,Q6];exact ⟨by rw [kr];exact hp.symm,18446744073709551615,rfl⟩
         ·have Q6:¬ (1152921504606846976:Int)≤(n:Int):=(by omega);obtain ⟨m,hm⟩:∃ m,m = n * 16:=⟨_,rfl⟩;have hm64:m < 18446744073709551616:=(by omega);have wm:IntKind.u64.wrap ((n:Int) * 16) = (m:Int):=(by rw [qF] <;> omega);rw [← hm] at hp;by_cases Jg:18446744073709551616≤m+d
          ·rw [if_pos Jg] at hp;have hx:=qcF hm64 (by omega) Jg;generalize hX:IntKind.u64.wrap ((m:Int)+(d:Int)) = X at hx;simp [h1,h8,h9,vN,vL,jV,vo,vJ,vM,vp,qq,jK qi,g1,g2,g3,hc,f1,f2,dw1,dw2,kH,Q6,wd,wm,hX,hx];exact ⟨by rw [kr];exact hp.symm,18446744073709551615,rfl⟩
          ·rw [if_neg Jg] at hp;obtain ⟨q,hq⟩:∃ q,q = m+d:=⟨_,rfl⟩;have wq:IntKind.u64.wrap ((m:Int)+(d:Int)) = (q:Int):=(by rw [qF] <;> omega);have X1:¬ (q:Int) < (m:Int):=(by omega);have hx2:¬ (18446744073709551615:Int) < (q:Int):=(by omega);rw [← hq] at hp;simp [h1,h8,h9,vN,vL,jV,vo,vJ,vM,vp,qq,jK qi,g1,g2,g3,hc,f1,f2,dw1,dw2,kH,Q6,wd,wm,wq,X1,hx2,hw];exact ⟨i+1,by omega,by omega,q,by omega,hp,rfl,by simp⟩
       ·rw [if_neg f] at hp;by_cases f3:97≤lc
        ·have f1:(97:Int)≤(lc:Int):=(by omega);have f2:¬ (lc:Int)≤122:=(by omega);simp only at hp;simp [h1,h8,h9,vN,vL,jV,vo,vJ,vM,vp,qq,jK qi,g1,g2,g3,hc,f1,f2];exact ⟨by rw [kr];exact hp.symm,0,rfl⟩
        ·have f1:¬ (97:Int)≤(lc:Int):=(by omega);simp only at hp;simp [h1,h8,h9,vN,vL,jV,vo,vJ,vM,vp,qq,jK qi,g1,g2,g3,hc,f1];exact ⟨by rw [kr];exact hp.symm,0,rfl⟩
   ·have qq:¬ (i:Int) < (s.length:Int):=(by omega);rw [JS (by omega),vV] at hp;simp [h1,h8,h9,vN,vL,jV,vo,vJ,vM,vp,qq];exact ⟨n,by rw [kr];exact hp.symm,rfl⟩
theorem qk5 [MaxL] [TxtC] (s:List UInt8) (h:s.length≤281474976710656):call cx 189 [.str s] [] = some (.str s,[]):=by
 refine qbx ?_;rw [qk1,qcx,if_pos h]
theorem qlM [MaxL] [TxtC] (f s:List UInt8) (h:s.length≤281474976710656):∃ d,call cx 151 [.str f,.str s] [] = some (.vptr d,[]):=by
 have hc:=qk5 s h
 suffices hh:∃ r,call cx 151 [.str f,.str s] [] = some r∧∃ d,r = (.vptr d,[]) by
  obtain ⟨r,h1,d,rfl⟩:=hh;exact ⟨d,h1⟩
 refine Jt (fun r=>∃ d,r = (D.vptr d,[])) Tryz.func151 rfl ⟨rfl,rfl⟩ ?_;simp [Tryz.f151,hc]
theorem qnp [MaxL] [TxtC] (f s:List UInt8) (h:s.length≤281474976710656):∃ d,call cx 152 [.str f,.str s] [] = some (.vptr d,[]):=by
 have hc:=qk5 s h
 suffices hh:∃ r,call cx 152 [.str f,.str s] [] = some r∧∃ d,r = (.vptr d,[]) by
  obtain ⟨r,h1,d,rfl⟩:=hh;exact ⟨d,h1⟩
 refine Jt (fun r=>∃ d,r = (D.vptr d,[])) Tryz.func152 rfl ⟨rfl,rfl⟩ ?_;simp [Tryz.f152,hc]
theorem qlJ [MaxL] [TxtC] (f s:List UInt8) (h:s.length≤281474976710656) (b c:Int) (hc:c = 1∨c = 2):∃ d,call cx 107 [.str f,.str s,.int .i64 b,.int .i64 64,.iface 235 (.int .i64 c)] [] = some (.iface 237 (.vptr d),[]):=by
 obtain ⟨d1,h1⟩:=qlM f s h;obtain ⟨d2,h2⟩:=qnp f s h
 suffices hh:∃ r,call cx 107 [.str f,.str s,.int .i64 b,.int .i64 64,.iface 235 (.int .i64 c)] [] = some r∧∃ d,r = (.iface 237 (.vptr d),[]) by
  obtain ⟨r,h1,d,rfl⟩:=hh;exact ⟨d,h1⟩
 refine Jt (fun r=>∃ d,r = (D.iface 237 (.vptr d),[])) Tryz.func107 rfl ⟨rfl,rfl⟩ ?_;rcases hc with rfl | rfl
 ·simp [Tryz.f107,h2]
 ·simp [Tryz.f107,h1]
theorem qns [MaxL] [TxtC] (b:Nat) (hb:b = 10∨b = 16) (s:List UInt8) (hs:s.length≤281474976710656) :
  (∃ n,pu b s = some n∧call cx 72 [.str s,.int .i64 b,.int .i64 64] [] = some (.tup [.int .u64 n,.nili],[])) ∨
  (pu b s = none∧∃ (x:Nat) (d:List D),call cx 72 [.str s,.int .i64 b,.int .i64 64] [] = some (.tup [.int .u64 x,.iface 237 (.vptr d)],[])):=by
 rcases qnr b hb s (by omega) with ⟨n,h1,h2⟩ | ⟨h1,x,c,hc,h2⟩
 ·refine .inl ⟨n,h1,?_⟩;refine qA Tryz.func72 rfl ⟨rfl,rfl⟩ ?_;simp [Tryz.f72,h2]
 ·obtain ⟨d,hd⟩:=qlJ [80,97,114,115,101,85,105,110,116] s hs b c hc;refine .inr ⟨h1,x,d,?_⟩;refine qA Tryz.func72 rfl ⟨rfl,rfl⟩ ?_;simp [Tryz.f72,h2,hd]
theorem qjg {l:List UInt8} {k:Nat} (h:k < l.length):zI (l.take (k+1)) = zI (l.take k) ++ [jC (l[k].toNat / 16),jC (l[k].toNat % 16)]:=by
 rw [List.take_succ_eq_append_getElem h,qjj];rfl
set_option maxHeartbeats 2000000 in
theorem qsQ [MaxL] [TxtC] (l:List UInt8) (hl:l.length = 16):call cx 22 [.agg (qf l)] [] = some (.str (zI l),[]):=by
 refine qA Tryz.func22 rfl ⟨rfl,rfl⟩ ?_;have ht:List.take 16 (qf l) = qf l:=qP (by simp;omega);have hl2:16≤l.length:=by omega
 simp [Tryz.f22,ht,hl2]
 refine Run.loopThen (fun (k:Nat) e H'=>k≤16∧qg e 6 = some (.agg (qf l))∧qg e 7 = some (.int .i64 k) ∧
   ((k = 0∧qg e 3 = some (.vsl true [] 0)∧H' = [some (qf l)]) ∨
   (∃ w,qg e 3 = some (.osl 1 (zI (l.take k)).length 0 (zI (l.take k)).length 1)∧H' = [w,some (qf (zI (l.take k)))]) ∨
   (∃ w,qg e 3 = some (.osl 0 (zI (l.take k)).length 0 (zI (l.take k)).length 1)∧H' = [some (qf (zI (l.take k))),w]))) (fun k=>16 - k) 0 ?_ ?_
 ·simp
 rintro k e H' ⟨hk,k6,k7,hH⟩;by_cases qi:k < 16
 ·have qq:(k:Int) < 16:=by omega
  have XE:k < l.length:=by omega
  have hw:IntKind.i64.wrap ((k:Int)+1) = ((k+1:Nat):Int):=by rw [wrap_i64] <;> omega
  have zC:=jK XE;have VT:=qjg XE;have hb:=l[k].toNat_lt;have ha:=qwi l[k];have hp4:(2:Int) ^ min 4 IntKind.u8.bits = 16:=by decide
  have hf:=qjI l[k].toNat;have d1:=qko (l[k].toNat / 16) (by omega);have d2:=qko (l[k].toNat % 16) (by omega);simp only [JL] at d1 d2
  have qe:(qf l)[k]? = some (.int .u8 l[k].toNat):=by
   rw [qU (by simpa using XE),qod]
  have hlen:(zI (l.take k)).length = 2 * k:=by rw [qa9,kt];omega
  generalize l[k] = b at *;generalize jC (b.toNat / 16) = c1 at *;generalize jC (b.toNat % 16) = c2 at *;obtain ⟨m1,jl⟩:∃ m,m = b.toNat / 16:=⟨_,rfl⟩;obtain ⟨m2,qW⟩:∃ m,m = b.toNat % 16:=⟨_,rfl⟩;rw [← jl] at hf d1;rw [← qW] at ha d2;have hXl:(zI (l.take (k+1))).length = (zI (l.take k)).length+2:=by rw [VT];simp
  have hap:qf (zI (l.take k)) ++ [.int .u8 c1.toNat,.int .u8 c2.toNat] = qf (zI (l.take (k+1))):=by rw [VT];simp [qf]
  have Zl:(zI (l.take k)).length+2≤qw:=jA (show _≤100 by omega) (by decide);rcases hH with ⟨rfl,k3,rfl⟩ | ⟨w,k3,rfl⟩ | ⟨w,k3,rfl⟩
  ·simp at hap hXl;have qW:2≤qw:=(by decide);simp [k3,k6,k7,qe,ha,hp4,hf,d1,d2,qW];exact ⟨1,by omega,by omega,by simp,by rw [hXl];simp [zI],by rw [← hap];simp [zI,qf]⟩
  ·generalize zI (l.take k) = X at *;simp [k3,k6,k7,qq,hw,qe,ha,hp4,hf,d1,d2,hap,Zl];exact ⟨k+1,by omega,by omega,by simp,by rw [hXl],rfl⟩
  ·generalize zI (l.take k) = X at *;simp [k3,k6,k7,qq,hw,qe,ha,hp4,hf,d1,d2,hap,Zl];exact ⟨k+1,by omega,by omega,by simp,by rw [hXl],rfl⟩
 ·have qq:¬ (k:Int) < 16:=by omega
  have hke:k = 16:=by omega
  subst hke;have vD:l.take 16 = l:=qP (by omega);rw [vD] at hH;rcases hH with ⟨h,_⟩ | ⟨w,k3,rfl⟩ | ⟨w,k3,rfl⟩
  ·omega
  ·simp [k3,k6,k7]
  ·simp [k3,k6,k7]
theorem qsB [MaxL] [TxtC] (s:List UInt8) (c:UInt8):call cx 71 [.str s,.int .u8 c.toNat] [] = some (.int .i64 (Z4 c s 0),[]):=by
 have h0:call cx 148 [.str s,.int .u8 c.toNat] [] = some (.int .i64 (Z4 c s 0),[]):=by
  rw [qkE (X:=cx) (f:=148) rfl Tryz.func148 rfl,qjL];simp [qcd]
 have h1:call cx 105 [.str s,.int .u8 c.toNat] [] = some (.int .i64 (Z4 c s 0),[]):=by
  refine qA Tryz.func105 rfl ⟨rfl,rfl⟩ ?_;simp [Tryz.f105,h0]
 refine qA Tryz.func71 rfl ⟨rfl,rfl⟩ ?_;simp [Tryz.f71,h1]
theorem qll:qf zero16 = [.int .u8 0,.int .u8 0,.int .u8 0,.int .u8 0,.int .u8 0,.int .u8 0,.int .u8 0,.int .u8 0,.int .u8 0,.int .u8 0,.int .u8 0,.int .u8 0,.int .u8 0,.int .u8 0,.int .u8 0,.int .u8 0]:=rfl
theorem qmx (st:List UInt8) (j:Nat) (c:UInt8) (h:j < st.length):qC (qf st) j [.int .u8 c.toNat] = qf (st.set j c):=by
 unfold qC qf;rw [qle,if_pos h];simp
set_option maxHeartbeats 2000000 in
theorem qsF [MaxL] [TxtC] (s:List UInt8) (_:s.length < 1000000):call cx 43 [.str s] [] = some (.tup [.agg (qf ((J5 s).getD zero16)),.bool (J5 s).isSome],[]):=by
 refine qA Tryz.func43 rfl ⟨rfl,rfl⟩ ?_;have z16:=qll;have z16l:zero16.length = 16:=rfl;have z16d:List.drop 16 (qf zero16) = []:=rfl;by_cases h32:s.length = 32
 ·have h32':(s.length:Int) = 32:=by omega
  have hP:J5 s = Vd s 0 zero16:=by unfold J5;rw [if_pos h32]
  rw [hP];simp [Tryz.f43,h32'];rw [← z16]
  refine Run.loopThen (fun (q:Nat × List UInt8) e H'=>q.1≤32∧q.2.length = 16∧Vd (s.drop q.1) q.1 q.2 = Vd s 0 zero16∧H' = [some (qf zero16),some (qf q.2)]∧qg e 0 = some (.str s)∧qg e 2 = some (.optr 0 16 0)∧qg e 4 = some (.optr 1 16 0) ∧
    qg e 12 = some (.int .i64 32)∧qg e 13 = some (.int .i64 (q.1:Nat))) (fun q=>32 - q.1) (0,zero16) ?_ ?_
  ·simp [zero16]
  rintro ⟨k,st⟩ e H' ⟨hk,hst,hgo,rfl,k0,k2,k4,k12,k13⟩;simp only at hk hst hgo k13;by_cases qi:k < 32
  ·have qq:(k:Int) < 32:=(by omega);have hks:k < s.length:=(by omega);rw [vR hks,Vd] at hgo;have hsk:s[k]? = some s[k]:=qU hks;have KS:=qsB JL s[k];have hir:=qiU s[k] JL 0;generalize s[k] = c at *;simp only [JL] at KS;have hw:IntKind.i64.wrap ((k:Int)+1) = ((k+1:Nat):Int):=(by rw [wrap_i64] <;> omega);rcases hir with hn | ⟨m,jl,qW⟩
   ·rw [hn,if_pos (by omega)] at hgo;simp only [JL] at hn;rw [hn] at KS;rw [← hgo];simp [k0,k2,k4,k12,k13,qq,hsk,KS,← z16,z16l,z16d]
   ·rw [Zx] at qW;have hm16:m < 16:=jl;rw [qW,if_neg (by omega)] at hgo;simp only [JL] at qW;rw [qW] at KS;have hmn:¬ (m:Int) < 0:=(by omega);have hmt:((m:Nat):Int).toNat = m:=(by omega);rw [hmt] at hgo;have hq:(k:Int).tdiv 2 = ((k / 2:Nat):Int):=(Int.ofNat_tdiv k 2).symm;have jL:IntKind.i64.wrap ((k:Int) / 2) = ((k / 2:Nat):Int):=(by rw [wrap_i64] <;> omega);obtain ⟨j,hj⟩:∃ j,j = k / 2:=⟨_,rfl⟩;rw [← hj] at hgo hq jL;have hj16:j < st.length:=(by omega);have hj16':(j:Int) < 16:=(by omega);have zC:=jK hj16;have hgd:st.getD j 0 = st[j]:=(by rw [List.getD,qU hj16];rfl);rw [hgd] at hgo;have hwm:IntKind.u8.wrap (m:Int) = (m:Int):=(by rw [ZV] <;> omega);have hor:=qmq st[j] m hm16;have ql:=qmx st j (st[j] <<< 4 ||| UInt8.ofNat m) hj16;generalize st[j] = b at *;generalize hx:b <<< 4 ||| UInt8.ofNat m = x at *;have Qp:j+1≤st.length:=(by omega);have hj15:j≤15:=(by omega);have hp8:(2:Int) ^ min 4 IntKind.u8.bits = 16:=(by decide);have ko:(st.set j x).length = 16:=(by simpa using hst);generalize st.set j x = st' at *;simp [-qaP,k0,k2,k4,k12,k13,qq,hsk,KS,hmn,jL,hj16',zC,hwm,hor,hp8,ql,hst,hj15,hw];exact ⟨k+1,by omega,by omega,st',ko,hgo,rfl,by simp⟩
  ·have qq:¬ (k:Int) < 32:=(by omega);rw [JS (by omega),Vd] at hgo;rw [← hgo];have hl16:16≤st.length:=(by omega);have ht:List.take 16 (qf st) = qf st:=qP (by simp;omega);simp [k0,k2,k4,k12,k13,qq,ht,hst,z16l,z16d]
 ·have h32':¬ (s.length:Int) = 32:=by omega
  have hP:J5 s = none:=by unfold J5;rw [if_neg h32]
  rw [hP];simp [Tryz.f43,h32',← z16,z16l,z16d]
theorem qnj [MaxL] [TxtC] (n:Nat) (h:n≤16):call cx 57 [.str [48],.int .i64 n] [] = some (.str (List.replicate n 48),[]):=by
 refine qbx ?_
 have e:∀ n,Lib.repeatL [48] n = List.replicate n (48:UInt8):=by
  intro n
  induction n with
  | zero=>rfl
  | succ n ih=>rw [Lib.repeatL,ih];rfl
 have hn:((n:Nat):Int).toNat = n:=by omega
 rw [qk0,qcv,if_pos ⟨by omega,by omega,by rw [hn];simp;omega⟩,hn,e]
theorem qfJ [MaxL] [TxtC] (v:Nat) (hv:v < 18446744073709551616):call cx 23 [.int .u64 v] [] = some (.str (vO v),[]):=by
 have h1:=qt7 v hv;have h2:=qjd v;have h3:=qnj (16 - (hx v).length) (by omega);have hw:IntKind.i64.wrap (16 - ((hx v).length:Int)) = ((16 - (hx v).length:Nat):Int):=by rw [wrap_i64] <;> omega
 have hz:(16 - (hx v).length)+(hx v).length≤4611686018427387904:=by omega
 refine qA Tryz.func23 rfl ⟨rfl,rfl⟩ ?_;unfold vO;generalize hx v = x at *;generalize 16 - x.length = n at *;simp [Tryz.f23,h1,h3,hw,hz]
def Jz (s:List UInt8):Option Nat:=match pu 16 s with
 | none=>none
 | some v=>if vO v = s then some v else none
theorem qhJ {s:List UInt8} {v:Nat} (h:pu 16 s = some v):v < 18446744073709551616:=by
 unfold pu at h;split at h
 ·cases h
 ·exact qhG 16 _ _ _ (by decide) h
theorem qin [MaxL] [TxtC] (s:List UInt8) (hs:s.length < 1000000):call cx 44 [.str s] [] = some (.tup [.int .u64 ((Jz s).getD 0:Nat),.bool (Jz s).isSome],[]):=by
 refine qA Tryz.func44 rfl ⟨rfl,rfl⟩ ?_;unfold Jz;rcases qns 16 (.inr rfl) s (by omega) with ⟨v,e1,e2⟩ | ⟨e1,x,d,e2⟩
 ·replace e2:call cx 72 [.str s,.int .i64 16,.int .i64 64] [] = some (.tup [.int .u64 v,.nili],[]):=e2;rw [e1];simp only;have h:=qfJ v (qhJ e1);by_cases he:vO v = s
  ·rw [if_pos he];rw [he] at h;simp [Tryz.f44,e2,h]
  ·rw [if_neg he];have he2:(vO v == s) = false:=beq_eq_false_iff_ne.2 he;generalize vO v = w at *;simp [Tryz.f44,e2,h,he2]
 ·replace e2:call cx 72 [.str s,.int .i64 16,.int .i64 64] [] = some (.tup [.int .u64 x,.iface 237 (.vptr d)],[]):=e2;rw [e1];simp [Tryz.f44,e2]
end Go.Ev.S
namespace Go.Ev
open Go Go.Proofs
structure Rq where
 path:List UInt8
 epoch:Int
 number:Int
 body:Sl UInt8
instance:Enc Rq:=⟨4,fun m=>(.str m.path :: (.int .u64 m.epoch :: (.int .u64 m.number :: ((.vsl m.body.nil (qf m.body.l) m.body.l.length) :: ([]:List D))))),fun m=>by simp,fun m=>by simp [idFree]⟩
theorem Rq.cells (m:Rq):Enc.cells m = (.str m.path :: (.int .u64 m.epoch :: (.int .u64 m.number :: ((.vsl m.body.nil (qf m.body.l) m.body.l.length) :: ([]:List D))))):=rfl
@[simp] theorem Rq.size:Enc.size Rq = 4:=rfl
@[simp] theorem Rq.cl (a:Rq):(Enc.cells a).length = 4:=Enc.len a
@[simp] theorem Rq.ct (a:Rq) (r:List D):(Enc.cells a ++ r).take 4 = Enc.cells a:=ZN rfl a r
@[simp] theorem Rq.ct' (a:Rq):(Enc.cells a).take 4 = Enc.cells a:=ZM rfl a
@[simp] theorem Rq.cd (a:Rq) (r:List D):(Enc.cells a ++ r).drop 4 = r:=ZO rfl a r
@[simp] theorem Rq.el (l:List Rq):(qk l).length = l.length * 4:=ZJ rfl l
@[simp] theorem Rq.ed (l:List Rq) (i:Nat):(qk l).drop (i * 4) = qk (l.drop i):=QV rfl l i
@[simp] theorem Rq.et (l:List Rq) (i:Nat):(qk l).take (i * 4) = qk (l.take i):=QU rfl l i
@[simp high] theorem Rq.ea {l:List Rq} {i:Nat} (h:i < l.length):(qk l).drop (i * 4) = Enc.cells l[i] ++ qk (l.drop (i+1)):=QD rfl h
@[simp high] theorem Rq.es (m:Rq) {l:List Rq} {j:Nat} (h:j < l.length):qC (qk l) (j * 4) (Enc.cells m) = qk (l.set j m):=Qu rfl m l h
@[simp] theorem Rq.g0 (m:Rq) (h):(Enc.cells m)[0]'h = .str m.path:=by simp [Rq.cells]
@[simp] theorem Rq.q0 (m:Rq):(Enc.cells m)[0]? = some (.str m.path):=by simp [Rq.cells]
@[simp] theorem Rq.s0 (m:Rq) (x:List UInt8):qC (Enc.cells m) 0 [.str x] = Enc.cells { m with path:=x }:=by simp [Rq.cells]
@[simp] theorem Rq.d1 (m:Rq):(Enc.cells m).drop 1 = (.int .u64 m.epoch :: (.int .u64 m.number :: ((.vsl m.body.nil (qf m.body.l) m.body.l.length) :: ([]:List D)))):=by simp [Rq.cells]
@[simp] theorem Rq.d1' (m:Rq) (r:List D):(Enc.cells m ++ r).drop 1 = (.int .u64 m.epoch :: (.int .u64 m.number :: ((.vsl m.body.nil (qf m.body.l) m.body.l.length) :: ([]:List D)))) ++ r:=by simp [Rq.cells]
@[simp] theorem Rq.g1 (m:Rq) (h):(Enc.cells m)[1]'h = .int .u64 m.epoch:=by simp [Rq.cells]
@[simp] theorem Rq.q1 (m:Rq):(Enc.cells m)[1]? = some (.int .u64 m.epoch):=by simp [Rq.cells]
@[simp] theorem Rq.s1 (m:Rq) (x:Int):qC (Enc.cells m) 1 [.int .u64 x] = Enc.cells { m with epoch:=x }:=by simp [Rq.cells]
@[simp] theorem Rq.d2 (m:Rq):(Enc.cells m).drop 2 = (.int .u64 m.number :: ((.vsl m.body.nil (qf m.body.l) m.body.l.length) :: ([]:List D))):=by simp [Rq.cells]
@[simp] theorem Rq.d2' (m:Rq) (r:List D):(Enc.cells m ++ r).drop 2 = (.int .u64 m.number :: ((.vsl m.body.nil (qf m.body.l) m.body.l.length) :: ([]:List D))) ++ r:=by simp [Rq.cells]
@[simp] theorem Rq.g2 (m:Rq) (h):(Enc.cells m)[2]'h = .int .u64 m.number:=by simp [Rq.cells]
@[simp] theorem Rq.q2 (m:Rq):(Enc.cells m)[2]? = some (.int .u64 m.number):=by simp [Rq.cells]
@[simp] theorem Rq.s2 (m:Rq) (x:Int):qC (Enc.cells m) 2 [.int .u64 x] = Enc.cells { m with number:=x }:=by simp [Rq.cells]
@[simp] theorem Rq.d3 (m:Rq):(Enc.cells m).drop 3 = ((.vsl m.body.nil (qf m.body.l) m.body.l.length) :: ([]:List D)):=by simp [Rq.cells]
@[simp] theorem Rq.d3' (m:Rq) (r:List D):(Enc.cells m ++ r).drop 3 = ((.vsl m.body.nil (qf m.body.l) m.body.l.length) :: ([]:List D)) ++ r:=by simp [Rq.cells]
@[simp] theorem Rq.g3 (m:Rq) (h):(Enc.cells m)[3]'h = (.vsl m.body.nil (qf m.body.l) m.body.l.length):=by simp [Rq.cells]
@[simp] theorem Rq.q3 (m:Rq):(Enc.cells m)[3]? = some ((.vsl m.body.nil (qf m.body.l) m.body.l.length)):=by simp [Rq.cells]
@[simp] theorem Rq.s3 (m:Rq) (x:Sl UInt8):qC (Enc.cells m) 3 [(.vsl x.nil (qf x.l) x.l.length)] = Enc.cells { m with body:=x }:=by simp [Rq.cells]
structure Msg where
 kind:Int
 epoch:Int
 number:Int
 body:Sl UInt8
instance:Enc Msg:=⟨4,fun m=>(.int .i64 m.kind :: (.int .u64 m.epoch :: (.int .u64 m.number :: ((.vsl m.body.nil (qf m.body.l) m.body.l.length) :: ([]:List D))))),fun m=>by simp,fun m=>by simp [idFree]⟩
theorem Msg.cells (m:Msg):Enc.cells m = (.int .i64 m.kind :: (.int .u64 m.epoch :: (.int .u64 m.number :: ((.vsl m.body.nil (qf m.body.l) m.body.l.length) :: ([]:List D))))):=rfl
@[simp] theorem Msg.size:Enc.size Msg = 4:=rfl
@[simp] theorem Msg.cl (a:Msg):(Enc.cells a).length = 4:=Enc.len a
@[simp] theorem Msg.ct (a:Msg) (r:List D):(Enc.cells a ++ r).take 4 = Enc.cells a:=ZN rfl a r
@[simp] theorem Msg.ct' (a:Msg):(Enc.cells a).take 4 = Enc.cells a:=ZM rfl a
@[simp] theorem Msg.cd (a:Msg) (r:List D):(Enc.cells a ++ r).drop 4 = r:=ZO rfl a r
@[simp] theorem Msg.el (l:List Msg):(qk l).length = l.length * 4:=ZJ rfl l
@[simp] theorem Msg.ed (l:List Msg) (i:Nat):(qk l).drop (i * 4) = qk (l.drop i):=QV rfl l i
@[simp] theorem Msg.et (l:List Msg) (i:Nat):(qk l).take (i * 4) = qk (l.take i):=QU rfl l i
@[simp high] theorem Msg.ea {l:List Msg} {i:Nat} (h:i < l.length):(qk l).drop (i * 4) = Enc.cells l[i] ++ qk (l.drop (i+1)):=QD rfl h
@[simp high] theorem Msg.es (m:Msg) {l:List Msg} {j:Nat} (h:j < l.length):qC (qk l) (j * 4) (Enc.cells m) = qk (l.set j m):=Qu rfl m l h
@[simp] theorem Msg.g0 (m:Msg) (h):(Enc.cells m)[0]'h = .int .i64 m.kind:=by simp [Msg.cells]
@[simp] theorem Msg.q0 (m:Msg):(Enc.cells m)[0]? = some (.int .i64 m.kind):=by simp [Msg.cells]
@[simp] theorem Msg.s0 (m:Msg) (x:Int):qC (Enc.cells m) 0 [.int .i64 x] = Enc.cells { m with kind:=x }:=by simp [Msg.cells]
@[simp] theorem Msg.d1 (m:Msg):(Enc.cells m).drop 1 = (.int .u64 m.epoch :: (.int .u64 m.number :: ((.vsl m.body.nil (qf m.body.l) m.body.l.length) :: ([]:List D)))):=by simp [Msg.cells]
@[simp] theorem Msg.d1' (m:Msg) (r:List D):(Enc.cells m ++ r).drop 1 = (.int .u64 m.epoch :: (.int .u64 m.number :: ((.vsl m.body.nil (qf m.body.l) m.body.l.length) :: ([]:List D)))) ++ r:=by simp [Msg.cells]
@[simp] theorem Msg.g1 (m:Msg) (h):(Enc.cells m)[1]'h = .int .u64 m.epoch:=by simp [Msg.cells]
@[simp] theorem Msg.q1 (m:Msg):(Enc.cells m)[1]? = some (.int .u64 m.epoch):=by simp [Msg.cells]
@[simp] theorem Msg.s1 (m:Msg) (x:Int):qC (Enc.cells m) 1 [.int .u64 x] = Enc.cells { m with epoch:=x }:=by simp [Msg.cells]
@[simp] theorem Msg.d2 (m:Msg):(Enc.cells m).drop 2 = (.int .u64 m.number :: ((.vsl m.body.nil (qf m.body.l) m.body.l.length) :: ([]:List D))):=by simp [Msg.cells]
@[simp] theorem Msg.d2' (m:Msg) (r:List D):(Enc.cells m ++ r).drop 2 = (.int .u64 m.number :: ((.vsl m.body.nil (qf m.body.l) m.body.l.length) :: ([]:List D))) ++ r:=by simp [Msg.cells]
@[simp] theorem Msg.g2 (m:Msg) (h):(Enc.cells m)[2]'h = .int .u64 m.number:=by simp [Msg.cells]
@[simp] theorem Msg.q2 (m:Msg):(Enc.cells m)[2]? = some (.int .u64 m.number):=by simp [Msg.cells]
@[simp] theorem Msg.s2 (m:Msg) (x:Int):qC (Enc.cells m) 2 [.int .u64 x] = Enc.cells { m with number:=x }:=by simp [Msg.cells]
@[simp] theorem Msg.d3 (m:Msg):(Enc.cells m).drop 3 = ((.vsl m.body.nil (qf m.body.l) m.body.l.length) :: ([]:List D)):=by simp [Msg.cells]
@[simp] theorem Msg.d3' (m:Msg) (r:List D):(Enc.cells m ++ r).drop 3 = ((.vsl m.body.nil (qf m.body.l) m.body.l.length) :: ([]:List D)) ++ r:=by simp [Msg.cells]
@[simp] theorem Msg.g3 (m:Msg) (h):(Enc.cells m)[3]'h = (.vsl m.body.nil (qf m.body.l) m.body.l.length):=by simp [Msg.cells]
@[simp] theorem Msg.q3 (m:Msg):(Enc.cells m)[3]? = some ((.vsl m.body.nil (qf m.body.l) m.body.l.length)):=by simp [Msg.cells]
@[simp] theorem Msg.s3 (m:Msg) (x:Sl UInt8):qC (Enc.cells m) 3 [(.vsl x.nil (qf x.l) x.l.length)] = Enc.cells { m with body:=x }:=by simp [Msg.cells]
structure Rs where
 status:Int
 epoch:Int
 number:Int
 body:Sl UInt8
instance:Enc Rs:=⟨4,fun m=>(.int .i64 m.status :: (.int .u64 m.epoch :: (.int .u64 m.number :: ((.vsl m.body.nil (qf m.body.l) m.body.l.length) :: ([]:List D))))),fun m=>by simp,fun m=>by simp [idFree]⟩
theorem Rs.cells (m:Rs):Enc.cells m = (.int .i64 m.status :: (.int .u64 m.epoch :: (.int .u64 m.number :: ((.vsl m.body.nil (qf m.body.l) m.body.l.length) :: ([]:List D))))):=rfl
@[simp] theorem Rs.size:Enc.size Rs = 4:=rfl
@[simp] theorem Rs.cl (a:Rs):(Enc.cells a).length = 4:=Enc.len a
@[simp] theorem Rs.ct (a:Rs) (r:List D):(Enc.cells a ++ r).take 4 = Enc.cells a:=ZN rfl a r
@[simp] theorem Rs.ct' (a:Rs):(Enc.cells a).take 4 = Enc.cells a:=ZM rfl a
@[simp] theorem Rs.cd (a:Rs) (r:List D):(Enc.cells a ++ r).drop 4 = r:=ZO rfl a r
@[simp] theorem Rs.el (l:List Rs):(qk l).length = l.length * 4:=ZJ rfl l
@[simp] theorem Rs.ed (l:List Rs) (i:Nat):(qk l).drop (i * 4) = qk (l.drop i):=QV rfl l i
@[simp] theorem Rs.et (l:List Rs) (i:Nat):(qk l).take (i * 4) = qk (l.take i):=QU rfl l i
@[simp high] theorem Rs.ea {l:List Rs} {i:Nat} (h:i < l.length):(qk l).drop (i * 4) = Enc.cells l[i] ++ qk (l.drop (i+1)):=QD rfl h
@[simp high] theorem Rs.es (m:Rs) {l:List Rs} {j:Nat} (h:j < l.length):qC (qk l) (j * 4) (Enc.cells m) = qk (l.set j m):=Qu rfl m l h
@[simp] theorem Rs.g0 (m:Rs) (h):(Enc.cells m)[0]'h = .int .i64 m.status:=by simp [Rs.cells]
@[simp] theorem Rs.q0 (m:Rs):(Enc.cells m)[0]? = some (.int .i64 m.status):=by simp [Rs.cells]
@[simp] theorem Rs.s0 (m:Rs) (x:Int):qC (Enc.cells m) 0 [.int .i64 x] = Enc.cells { m with status:=x }:=by simp [Rs.cells]
@[simp] theorem Rs.d1 (m:Rs):(Enc.cells m).drop 1 = (.int .u64 m.epoch :: (.int .u64 m.number :: ((.vsl m.body.nil (qf m.body.l) m.body.l.length) :: ([]:List D)))):=by simp [Rs.cells]
@[simp] theorem Rs.d1' (m:Rs) (r:List D):(Enc.cells m ++ r).drop 1 = (.int .u64 m.epoch :: (.int .u64 m.number :: ((.vsl m.body.nil (qf m.body.l) m.body.l.length) :: ([]:List D)))) ++ r:=by simp [Rs.cells]
@[simp] theorem Rs.g1 (m:Rs) (h):(Enc.cells m)[1]'h = .int .u64 m.epoch:=by simp [Rs.cells]
@[simp] theorem Rs.q1 (m:Rs):(Enc.cells m)[1]? = some (.int .u64 m.epoch):=by simp [Rs.cells]
@[simp] theorem Rs.s1 (m:Rs) (x:Int):qC (Enc.cells m) 1 [.int .u64 x] = Enc.cells { m with epoch:=x }:=by simp [Rs.cells]
@[simp] theorem Rs.d2 (m:Rs):(Enc.cells m).drop 2 = (.int .u64 m.number :: ((.vsl m.body.nil (qf m.body.l) m.body.l.length) :: ([]:List D))):=by simp [Rs.cells]
@[simp] theorem Rs.d2' (m:Rs) (r:List D):(Enc.cells m ++ r).drop 2 = (.int .u64 m.number :: ((.vsl m.body.nil (qf m.body.l) m.body.l.length) :: ([]:List D))) ++ r:=by simp [Rs.cells]
@[simp] theorem Rs.g2 (m:Rs) (h):(Enc.cells m)[2]'h = .int .u64 m.number:=by simp [Rs.cells]
@[simp] theorem Rs.q2 (m:Rs):(Enc.cells m)[2]? = some (.int .u64 m.number):=by simp [Rs.cells]
@[simp] theorem Rs.s2 (m:Rs) (x:Int):qC (Enc.cells m) 2 [.int .u64 x] = Enc.cells { m with number:=x }:=by simp [Rs.cells]
@[simp] theorem Rs.d3 (m:Rs):(Enc.cells m).drop 3 = ((.vsl m.body.nil (qf m.body.l) m.body.l.length) :: ([]:List D)):=by simp [Rs.cells]
@[simp] theorem Rs.d3' (m:Rs) (r:List D):(Enc.cells m ++ r).drop 3 = ((.vsl m.body.nil (qf m.body.l) m.body.l.length) :: ([]:List D)) ++ r:=by simp [Rs.cells]
@[simp] theorem Rs.g3 (m:Rs) (h):(Enc.cells m)[3]'h = (.vsl m.body.nil (qf m.body.l) m.body.l.length):=by simp [Rs.cells]
@[simp] theorem Rs.q3 (m:Rs):(Enc.cells m)[3]? = some ((.vsl m.body.nil (qf m.body.l) m.body.l.length)):=by simp [Rs.cells]
@[simp] theorem Rs.s3 (m:Rs) (x:Sl UInt8):qC (Enc.cells m) 3 [(.vsl x.nil (qf x.l) x.l.length)] = Enc.cells { m with body:=x }:=by simp [Rs.cells]
@[simp] theorem q0p:qf [] = []:=rfl
def Msg.zero:Msg:=⟨0,0,0,.none⟩
theorem Vt {x y s:List UInt8} (e:s = x ++ y) (h:x.length+y.length≤100000):QH .add x y = some (.str s):=by
 simp only [QH,e];rw [if_pos (by omega)]
section
variable {H:Type} {enc:TypeId × Value→H} {P:Program} {W:World} {base n:Nat} {t e:TypeId} {v:Value} {d:DataW H} {ps:List MemPlace}
theorem qvW (hu:P.underlying t = some (.int .u64)) (hp:Ks P (n+1) t = true) (hv:Value.okWide P W .any base t v) (h:DataW.Trod enc P W 0 (fun _=>true) true t v d ps∧Wok P t d):∃ b,Rep (· < W.heap.size) W zo [] (.int .u64 b) v∧zH b:=by
 obtain ⟨ds,h1,h2⟩:=qdc hp h;obtain ⟨b,rfl,hb⟩:=qtm hu h1;exact ⟨b,qgb h2 (qnT hu hv),hb⟩
end
end Go.Ev
namespace Go.Ev
open Go Go.Proofs
def Cur.zero:Cur:=⟨ID.zero,0,ID.zero,0,0,0⟩
def VK (c:UInt8):Nat→List UInt8→List (List UInt8)
 | 0,s=>[s]
 | n+1,s=>if QN [c] s 0 = -1 then [s] else s.take (QN [c] s 0).toNat :: VK c n (s.drop ((QN [c] s 0).toNat+1))
def Qy (c:UInt8) (s:List UInt8):List (List UInt8):=VK c (s.count c) s
def qd6 (s:List UInt8):ID:=⟨(J5 s).getD zero16,by
 cases h:J5 s with
 | none=>rfl
 | some r=>exact qsG h⟩
def quF (a b:Cur):Bool:=a.seq == b.seq && (a.n == b.n && (a.boot == b.boot && (a.mono == b.mono && (a.real == b.real && a.xor == b.xor))))
@[simp] theorem Cur.eq36 (a b:Cur):jt [.i,.i,.i,.i,.i,.i,.i,.i,.i,.i,.i,.i,.i,.i,.i,.i,.i,.i,.i,.i,.i,.i,.i,.i,.i,.i,.i,.i,.i,.i,.i,.i,.i,.i,.i,.i] (Enc.cells a) (Enc.cells b) = some (quF a b):=by
 have h1:=qgn a.seq b.seq;have h2:=qgn a.boot b.boot;rw [Cur.cells,Cur.cells];have e:([.i,.i,.i,.i,.i,.i,.i,.i,.i,.i,.i,.i,.i,.i,.i,.i,.i,.i,.i,.i,.i,.i,.i,.i,.i,.i,.i,.i,.i,.i,.i,.i,.i,.i,.i,.i]:List CK) = [.i,.i,.i,.i,.i,.i,.i,.i,.i,.i,.i,.i,.i,.i,.i,.i] ++ (.i :: ([.i,.i,.i,.i,.i,.i,.i,.i,.i,.i,.i,.i,.i,.i,.i,.i] ++ [.i,.i,.i])):=rfl;rw [e,qdY _ _ _ _ _ _ (by simp) (by simp),h1];simp only [jt,Ko,if_true];rw [qdY _ _ _ _ _ _ (by simp) (by simp),h2];simp only [jt,Ko,if_true,Bool.and_true];rfl
theorem qiW (c:UInt8):∀ (A B:List UInt8) (n:Nat),(∀ x∈A,x≠c)→QN [c] (A ++ c :: B) n = ((n+A.length:Nat):Int)
 | [],B,n,_=>by simp [QN,List.isPrefixOf]
 | x :: A,B,n,h=>by
  have hx:=h x (by simp);have hx2:(c == x) = false:=by simpa using Ne.symm hx
  rw [Jx,QN,if_neg (by simp [List.isPrefixOf,hx2]),qiW c A B (n+1) fun y hy=>h y (by simp [hy])];simp;omega
theorem qgY {c:UInt8} {A:List UInt8} (h:∀ x∈A,x≠c) (B:List UInt8):Qy c (A ++ c :: B) = A :: Qy c B:=by
 have h0:A.count c = 0:=List.count_eq_zero.2 fun hm=>h c hm rfl
 have hc:(A ++ c :: B).count c = B.count c+1:=by
  rw [List.count_append,h0,List.count_cons_self];omega
 unfold Qy;rw [hc,VK,qiW c A B 0 h,Zx,if_neg (by omega)];have e:((A.length:Nat):Int).toNat = A.length:=by omega
 rw [e,List.take_left];congr 1;rw [← kA,List.drop_left];rfl
theorem qme {c:UInt8} {A:List UInt8} (h:∀ x∈A,x≠c):Qy c A = [A]:=by
 have h0:A.count c = 0:=List.count_eq_zero.2 fun hm=>h c hm rfl;unfold Qy;rw [h0,VK]
theorem qsI (i:ID):qd6 (zI i.l) = i:=ID.ext' (by show (J5 (zI i.l)).getD zero16 = i.l;rw [qsH i.h];rfl)
end Go.Ev
namespace Go.Ev.S
open Go Go.Proofs Go.Ev
theorem qiV (sep:List UInt8):∀ (s:List UInt8) (n:Nat),(∃ i:Nat,QN sep s n = ((n+i:Nat):Int)∧i+sep.length≤s.length∧sep.isPrefixOf (s.drop i) = true)∨QN sep s n = -1
 | [],n=>by
  unfold QN;cases sep with
  | nil=>exact .inl ⟨0,by simp⟩
  | cons a l=>exact .inr (by simp)
 | b :: l,n=>by
  unfold QN;by_cases h:sep.isPrefixOf (b :: l) = true
  ·rw [if_pos h];refine .inl ⟨0,by simp,?_,by simpa using h⟩;have:=List.IsPrefix.length_le (List.isPrefixOf_iff_prefix.1 h);simpa using this
  ·rw [if_neg h];rcases qiV sep l (n+1) with ⟨i,h1,h2,h3⟩ | h1
   ·exact .inl ⟨i+1,by rw [h1];omega,by simp;omega,by simpa using h3⟩
   ·exact .inr h1
theorem qs0 [MaxL] [TxtC] (s sep:List UInt8) (hs:s.length < 4294967281):call cx 147 [.str s,.str sep] [] = some (.int .i64 (QN sep s 0),[]):=by
 refine qbx ?_;rw [qk2,qcw,if_pos hs]
theorem quG [MaxL] [TxtC] (s:List UInt8) (c:UInt8):call cx 103 [.str s,.str [c]] [] = some (.int .i64 (s.count c:Nat),[]):=by
 have h0:call cx 146 [.str s,.int .u8 c.toNat] [] = some (.int .i64 (s.count c:Nat),[]):=by
  rw [qkE (X:=cx) (f:=146) rfl Tryz.func146 rfl,qjM];simp [qcz]
 refine qA Tryz.func103 rfl ⟨rfl,rfl⟩ ?_;simp [Tryz.f103,h0]
theorem qmm [MaxL] [TxtC] (s sep:List UInt8) (hs:s.length < 4294967281):call cx 104 [.str s,.str sep] [] = some (.int .i64 (QN sep s 0),[]):=by
 have h:=qs0 s sep hs;refine qA Tryz.func104 rfl ⟨rfl,rfl⟩ ?_;simp [Tryz.f104,h]
theorem qeH (ps:List (List UInt8)) (x:List UInt8) (n:Nat):qC (ps.map D.str ++ List.replicate (n+1) (D.str [])) ps.length [.str x] = (ps ++ [x]).map D.str ++ List.replicate n (D.str []):=by
 have h1:List.drop (ps.length+1) (ps.map D.str ++ D.str [] :: List.replicate n (D.str [])) = List.replicate n (D.str []):=by
  rw [show ps.map D.str ++ D.str [] :: List.replicate n (D.str []) = (ps.map D.str ++ [D.str []]) ++ List.replicate n (D.str []) by simp];exact VH (by simp)
 unfold qC;rw [qai];simp [h1]
set_option maxHeartbeats 2000000 in
theorem qtz [MaxL] [TxtC] (c:UInt8) (s:List UInt8) (hs:s.length < 1000000):call cx 70 [.str s,.str [c],.int .i64 0,.int .i64 (-1)] [] = some (.vsl false ((Qy c s).map D.str) (Qy c s).length,[]):=by
 have hc:=quG s c;have qY:s.count c≤s.length:=List.count_le_length;unfold Qy;generalize s.count c = m at *;refine qA Tryz.func70 rfl ⟨rfl,rfl⟩ ?_;have w1:IntKind.i64.wrap ((m:Int)+1) = ((m+1:Nat):Int):=by rw [wrap_i64] <;> omega
 have w2:IntKind.i64.wrap ((s.length:Int)+1) = ((s.length+1:Nat):Int):=by rw [wrap_i64] <;> omega
 have w3:¬ s.length < m:=by omega
 have w4:IntKind.i64.wrap (m:Int) = (m:Int):=by rw [wrap_i64];omega
 have w5:(16:Int) * ((m:Int)+1)≤(qw:Nat):=by simp only [qw];omega
 have w6:(m:Int)+1≤(qw:Nat):=by simp only [qw];omega
 have w7:(0:Int)≤(m:Int)+1:=by omega
 have w8:IntKind.i64.wrap ((m:Int)+1 - 1) = (m:Int):=by rw [wrap_i64] <;> omega
 simp [Tryz.f70,hc,w1,w2,w3,w4,w5,w6,w7]
 refine Run.loopThen (fun (q:List (List UInt8) × List UInt8) e H'=>q.1.length≤m∧q.2.length≤s.length∧q.1 ++ VK c (m - q.1.length) q.2 = VK c m s∧H' = [some (q.1.map D.str ++ List.replicate (m - q.1.length+1) (.str []))] ∧
   qg e 0 = some (.str q.2)∧qg e 1 = some (.str [c])∧qg e 2 = some (.int .i64 0)∧qg e 3 = some (.int .i64 m)∧qg e 9 = some (.osl 0 (m+1) 0 (m+1) 1)∧qg e 10 = some (.int .i64 (q.1.length:Nat))) (fun q=>m - q.1.length) ([],s) ?_ ?_
 ·simp
 rintro ⟨ps,r⟩ e H' ⟨hp,hr,hgo,rfl,k0,k1,k2,k3,k9,k10⟩;simp only at hp hr hgo k0 k10;have KS:=qmm r [c] (by omega);have Qm:(ps.length:Int) < (m:Int)+1:=by omega
 have jb:(0:Int)≤(ps.length:Int)+1:=by omega
 have KP:ps.length+(m - ps.length+1) = m+1:=by omega
 have hpw:IntKind.i64.wrap ((ps.length:Int)+1) = ((ps.length+1:Nat):Int):=by rw [wrap_i64] <;> omega
 have vE:ps.length+1≤m+1:=by omega
 have JB:∀ (x:List UInt8),List.take (ps.length+1) ((ps ++ [x]).map D.str ++ List.replicate (m - ps.length) (.str [])) = (ps ++ [x]).map D.str:=by
  intro x;exact List.take_left' (by simp)
 have hl5:ps.length+1+(m - ps.length) = m+1:=by omega
 have hidf:idFree.idFreeL (List.map D.str (ps ++ [r]) ++ List.replicate (m - ps.length) (D.str [])) = true:=by
  rw [kO];simp [idFree]
 by_cases qi:ps.length < m
 ·have qq:(ps.length:Int) < (m:Int):=by omega
  obtain ⟨d,hd⟩:∃ d,m - ps.length = d+1:=⟨m - ps.length - 1,by omega⟩;rw [hd,VK] at hgo;rcases qiV [c] r 0 with ⟨j,h1,h2,-⟩ | h1
  ·rw [Zx] at h1;rw [h1] at KS;rw [h1,if_neg (by omega)] at hgo;have hjt:((j:Nat):Int).toNat = j:=(by omega);rw [hjt] at hgo;have Qp:j+1≤r.length:=(by simpa using h2);have Qd:¬ (j:Int) < 0:=(by omega);have hwj:IntKind.i64.wrap (j:Int) = (j:Int):=(by rw [wrap_i64];omega);obtain ⟨i,hi⟩:∃ i,i = j+1:=⟨_,rfl⟩;have X3:IntKind.i64.wrap ((j:Int)+1) = (i:Int):=(by rw [wrap_i64] <;> omega);rw [← hi] at hgo;have hst:=qeH ps (r.take j) (d+1);have YL:List.take (r.length - i) (List.drop i r) = r.drop i:=qP (by simp);have hrl:(r.drop i).length≤s.length:=(by simp;omega);have g1:(j:Int)≤(r.length:Int):=(by omega);have g2:j≤r.length:=(by omega);have g3:(i:Int)≤(r.length:Int):=(by omega);have g4:i≤r.length:=(by omega);have g5:m - ps.length+1 = d+1+1:=(by omega);have g6:m - (ps.length+1)+1 = d+1:=(by omega);have g7:ps.length+(d+1+1) = m+1:=(by omega);have g8:ps.length+1≤ps.length+(d+1+1):=(by omega);rw [g5];simp [-qaP,-List.map_append,-List.map_cons,hp,k0,k1,k2,k3,k9,k10,qq,KS,Qd,hwj,X3,g1,g3,g7,Qm,hst,YL,hpw];have Y9:(ps ++ [r.take j]).length = ps.length+1:=(by simp);refine ⟨ps ++ [r.take j],by rw [Y9];omega,by rw [Y9];omega,r.drop i,hrl,?_,?_,rfl,by rw [Y9];simp⟩
   ·rw [Y9,show m - (ps.length+1) = d by omega,← hgo];simp
   ·rw [Y9,show m - (ps.length+1)+1 = d+1 by omega]
  ·rw [h1] at KS;rw [h1,if_pos rfl] at hgo;have hst:=qeH ps r (m - ps.length);rw [← hgo];simp [-qaP,-List.map_append,-List.map_cons,hp,jb,k0,k1,k2,k3,k9,k10,qq,KS,Qm,hst,KP,hpw,vE,JB,hl5,hidf]
 ·have qq:¬ (ps.length:Int) < (m:Int):=by omega
  have Vi:ps.length = m:=by omega
  have hd:m - ps.length = 0:=by omega
  rw [hd,VK] at hgo;have hst:=qeH ps r (m - ps.length);rw [← hgo];simp [-qaP,-List.map_append,-List.map_cons,hp,jb,k0,k1,k2,k3,k9,k10,qq,Qm,hst,KP,hpw,vE,JB,hl5,hidf]
theorem qmf [MaxL] [TxtC] (c:UInt8) (s:List UInt8) (hs:s.length < 1000000):call cx 42 [.str s,.str [c]] [] = some (.vsl false ((Qy c s).map D.str) (Qy c s).length,[]):=by
 have h:=qtz c s hs;refine qA Tryz.func42 rfl ⟨rfl,rfl⟩ ?_;simp [Tryz.f42,h]
theorem qgZ (c:UInt8):∀ (n:Nat) (s:List UInt8),∀ x∈VK c n s,x.length≤s.length
 | 0,s,x,h=>by simp [VK] at h;rw [h];exact qv _
 | n+1,s,x,h=>by
  rw [VK] at h;split at h
  ·simp at h;rw [h];exact qv _
  ·rcases List.mem_cons.1 h with rfl | h
   ·simp;omega
   ·have:=qgZ c n _ x h;simp at this;omega
theorem qkh:∀ k,k < 16→qbs (jC k) = some k:=by decide
theorem qhI:∀ (l r:List UInt8) (n:Nat),vV 16 (l ++ r) n = match vV 16 l n with
  | none=>none
  | some m=>vV 16 r m
 | [],r,n=>by simp [vV]
 | c :: l,r,n=>by
  simp only [Jx,vV];cases qbs c with
  | none=>rfl
  | some d =>
   simp only;split
   ·rfl
   ·split
    ·rfl
    ·exact qhI l r _
theorem qhH:∀ (f v:Nat),v < 16 ^ f→1≤f→v < 18446744073709551616→vV 16 (Qs f v) 0 = some v
 | f+1,v,h,_,h64=>by
  rw [Qs];by_cases hv:v < 16
  ·rw [if_pos hv];simp only [vV,qkh v hv];rw [if_neg (by omega),if_neg (by omega)];congr 1;omega
  ·rw [if_neg hv,qhI]
   have hf:1≤f:=by
    rcases f with _ | f
    ·simp at h;omega
    ·omega
   rw [qhH f (v / 16) (by rw [qb5] at h;omega) hf (by omega)];simp only [vV,qkh _ (Yf v (by decide:16 > 0))];rw [if_neg (by omega),if_neg (by omega)];congr 1;omega
theorem qnt {v:Nat} (h:v < 18446744073709551616):vV 16 (hx v) 0 = some v:=qhH 16 v (by omega) (by omega) h
theorem qhF (l:List UInt8):∀ n,vV 16 (List.replicate n 48 ++ l) 0 = vV 16 l 0
 | 0=>rfl
 | n+1=>by
  rw [qai,Jx,vV];have:qbs 48 = some 0:=by decide
  rw [this];simp only;rw [if_neg (by omega),if_neg (by omega)];exact qhF l n
theorem qoj {v:Nat} (h:v < 18446744073709551616):Jz (vO v) = some v:=by
 have hl:=qbo v
 have hp:pu 16 (vO v) = some v:=by
  unfold pu;rw [if_neg (by intro e;rw [e] at hl;simp at hl)];unfold vO;rw [qhF,qnt h]
 unfold Jz;rw [hp];simp
end Go.Ev.S
namespace Go.Ev
open Go Go.Proofs
structure Inf where
 kind:Int
 seq:ID
 head:Int
 real:Int
 deriving DecidableEq
instance:Enc Inf:=⟨19,fun m=>(.int .i64 m.kind :: (qf m.seq.l ++ (.int .u64 m.head :: (.int .u64 m.real :: ([]:List D))))),fun m=>by simp,fun m=>by simp [idFree]⟩
theorem Inf.cells (m:Inf):Enc.cells m = (.int .i64 m.kind :: (qf m.seq.l ++ (.int .u64 m.head :: (.int .u64 m.real :: ([]:List D))))):=rfl
@[simp] theorem Inf.size:Enc.size Inf = 19:=rfl
@[simp] theorem Inf.cl (a:Inf):(Enc.cells a).length = 19:=Enc.len a
@[simp] theorem Inf.ct (a:Inf) (r:List D):(Enc.cells a ++ r).take 19 = Enc.cells a:=ZN rfl a r
@[simp] theorem Inf.ct' (a:Inf):(Enc.cells a).take 19 = Enc.cells a:=ZM rfl a
@[simp] theorem Inf.cd (a:Inf) (r:List D):(Enc.cells a ++ r).drop 19 = r:=ZO rfl a r
@[simp] theorem Inf.el (l:List Inf):(qk l).length = l.length * 19:=ZJ rfl l
@[simp] theorem Inf.ed (l:List Inf) (i:Nat):(qk l).drop (i * 19) = qk (l.drop i):=QV rfl l i
@[simp] theorem Inf.et (l:List Inf) (i:Nat):(qk l).take (i * 19) = qk (l.take i):=QU rfl l i
@[simp high] theorem Inf.ea {l:List Inf} {i:Nat} (h:i < l.length):(qk l).drop (i * 19) = Enc.cells l[i] ++ qk (l.drop (i+1)):=QD rfl h
@[simp high] theorem Inf.es (m:Inf) {l:List Inf} {j:Nat} (h:j < l.length):qC (qk l) (j * 19) (Enc.cells m) = qk (l.set j m):=Qu rfl m l h
@[simp] theorem Inf.g0 (m:Inf) (h):(Enc.cells m)[0]'h = .int .i64 m.kind:=by simp [Inf.cells]
@[simp] theorem Inf.q0 (m:Inf):(Enc.cells m)[0]? = some (.int .i64 m.kind):=by simp [Inf.cells]
@[simp] theorem Inf.s0 (m:Inf) (x:Int):qC (Enc.cells m) 0 [.int .i64 x] = Enc.cells { m with kind:=x }:=by simp [zk,Inf.cells]
@[simp] theorem Inf.d1 (m:Inf):(Enc.cells m).drop 1 = (qf m.seq.l ++ (.int .u64 m.head :: (.int .u64 m.real :: ([]:List D)))):=by simp [zk,Inf.cells]
@[simp] theorem Inf.d1' (m:Inf) (r:List D):(Enc.cells m ++ r).drop 1 = (qf m.seq.l ++ (.int .u64 m.head :: (.int .u64 m.real :: ([]:List D)))) ++ r:=by simp [zk,Inf.cells]
@[simp] theorem Inf.s1 (m:Inf) (x:ID):qC (Enc.cells m) 1 (qf x.l) = Enc.cells { m with seq:=x }:=by simp [kR,Inf.cells]
@[simp] theorem Inf.d17 (m:Inf):(Enc.cells m).drop 17 = (.int .u64 m.head :: (.int .u64 m.real :: ([]:List D))):=by simp [Inf.cells]
@[simp] theorem Inf.d17' (m:Inf) (r:List D):(Enc.cells m ++ r).drop 17 = (.int .u64 m.head :: (.int .u64 m.real :: ([]:List D))) ++ r:=by simp [Inf.cells]
@[simp] theorem Inf.g17 (m:Inf) (h):(Enc.cells m)[17]'h = .int .u64 m.head:=by simp [Inf.cells]
@[simp] theorem Inf.q17 (m:Inf):(Enc.cells m)[17]? = some (.int .u64 m.head):=by simp [Inf.cells]
@[simp] theorem Inf.s17 (m:Inf) (x:Int):qC (Enc.cells m) 17 [.int .u64 x] = Enc.cells { m with head:=x }:=by simp [zk,jE,Inf.cells]
@[simp] theorem Inf.d18 (m:Inf):(Enc.cells m).drop 18 = (.int .u64 m.real :: ([]:List D)):=by simp [zk,jE,Inf.cells]
@[simp] theorem Inf.d18' (m:Inf) (r:List D):(Enc.cells m ++ r).drop 18 = (.int .u64 m.real :: ([]:List D)) ++ r:=by simp [zk,jE,Inf.cells]
@[simp] theorem Inf.g18 (m:Inf) (h):(Enc.cells m)[18]'h = .int .u64 m.real:=by simp [Inf.cells]
@[simp] theorem Inf.q18 (m:Inf):(Enc.cells m)[18]? = some (.int .u64 m.real):=by simp [Inf.cells]
@[simp] theorem Inf.s18 (m:Inf) (x:Int):qC (Enc.cells m) 18 [.int .u64 x] = Enc.cells { m with real:=x }:=by simp [kR,zk,jE,qP,Inf.cells]
def qaK:List UInt8:=[115,121,115,116,101,109,46,106,111,117,114,110,97,108]
def qaZ:List UInt8:=[115,121,115,116,101,109,46,110,101,119]
def aheadL:List UInt8:=[115,121,115,116,101,109,64]
def behindL:List UInt8:=[46,106,111,117,114,110,97,108]
def V2 (q:List UInt8) (h r:Nat):List UInt8:=zI q ++ 45 :: (vO h ++ 45 :: vO r)
def vA (q:List UInt8) (h r:Nat):List UInt8:=aheadL ++ (V2 q h r ++ behindL)
def jY (i:Inf):List UInt8:=if i.kind = 1 then qaK else if i.kind = 4 then qaZ else if i.kind = 2 then vA i.seq.l i.head.toNat i.real.toNat else if i.kind = 3 then vA i.seq.l i.head.toNat i.real.toNat ++ [126] else []
def ZY (p s:List UInt8):Bool:=decide (p.length≤s.length) && (s.drop (s.length - p.length) == p)
def kC (p s:List UInt8):List UInt8:=if ZY p s then s.take (s.length - p.length) else s
theorem qgK (p s:List UInt8):ZY p (s ++ p) = true:=by
 unfold ZY;have e:(s ++ p).length - p.length = s.length:=by simp
 rw [e,List.drop_left];simp
theorem qe3 (p s:List UInt8):kC p (s ++ p) = s:=by
 have e:(s ++ p).length - p.length = s.length:=by simp
 unfold kC;rw [qgK,if_pos rfl,e,List.take_left]
theorem qlQ {a b:UInt8} (h:a≠b) (s:List UInt8):ZY [b] (s ++ [a]) = false:=by
 unfold ZY;have e:(s ++ [a]).length - [b].length = s.length:=by simp
 rw [e,List.drop_left];have:([a] == [b]) = false:=by simpa using h
 rw [this,Bool.and_false]
def Xn (p s:List UInt8):List UInt8:=if s.take p.length == p then s.drop p.length else s
theorem qgG (p s:List UInt8):Xn p (p ++ s) = s:=by
 unfold Xn;rw [List.take_left,if_pos (by simp),List.drop_left]
def QM (s:List UInt8):List UInt8:=Xn aheadL (kC behindL (kC [126] s))
theorem qkO (q:List UInt8) (h r:Nat):ZY [126] (vA q h r) = false:=by
 have e:vA q h r = (aheadL ++ (V2 q h r ++ [46,106,111,117,114,110,97])) ++ [108]:=by
  simp [vA,behindL]
 rw [e];exact qlQ (by decide) _
theorem qoA (q:List UInt8) (h r:Nat):QM (vA q h r) = V2 q h r:=by
 have e:kC [126] (vA q h r) = vA q h r:=by
  unfold kC;rw [qkO,if_neg (by decide)]
 have e2:vA q h r = (aheadL ++ V2 q h r) ++ behindL:=by simp [vA]
 unfold QM;rw [e,e2,qe3,qgG]
theorem qo9 (q:List UInt8) (h r:Nat):QM (vA q h r ++ [126]) = V2 q h r:=by
 have e2:vA q h r = (aheadL ++ V2 q h r) ++ behindL:=by simp [vA]
 unfold QM;rw [qe3,e2,qe3,qgG]
theorem qjD (v:Nat):∀ x∈vO v,x≠59∧x≠61∧x≠45:=by
 intro x hx;unfold vO at hx;rcases List.mem_append.1 hx with h | h
 ·rw [(List.mem_replicate.1 h).2];decide
 ·exact qsL v x h
theorem qgX (q:List UInt8) (h r:Nat):Qy 45 (V2 q h r) = [zI q,vO h,vO r]:=by
 unfold V2;rw [qgY (fun x hx=>(qji q x hx).2.2),qgY (fun x hx=>(qjD h x hx).2.2),qme (fun x hx=>(qjD r x hx).2.2)]
theorem qaE {q:List UInt8} (hq:q.length = 16) (h r:Nat):(vA q h r).length = 81:=by
 simp only [vA,V2,qX,ju,qa9,hq,qbo,aheadL,behindL,jR]
end Go.Ev
namespace Go.Ev.S
open Go Go.Proofs Go.Ev
theorem qgJ [MaxL] [TxtC] (s p:List UInt8) (hs:s.length < 1000000) (hp:p.length < 1000000):call cx 67 [.str s,.str p] [] = some (.bool (ZY p s),[]):=by
 refine qA Tryz.func67 rfl ⟨rfl,rfl⟩ ?_;unfold ZY;by_cases h:p.length≤s.length
 ·have h':(p.length:Int)≤(s.length:Int):=by omega
  obtain ⟨j,hj⟩:∃ j,j = s.length - p.length:=⟨_,rfl⟩;have hw:IntKind.i64.wrap ((s.length:Int) - (p.length:Int)) = (j:Int):=by rw [wrap_i64] <;> omega
  have g1:(j:Int)≤(s.length:Int):=by omega
  have g2:j≤s.length:=by omega
  have ht:List.take (s.length - j) (List.drop j s) = List.drop j s:=qP (by simp);rw [← hj];simp [Tryz.f67,h,h',hw,g1,ht]
 ·have h':¬ (p.length:Int)≤(s.length:Int):=by omega
  simp [Tryz.f67,h,h']
theorem qlP [MaxL] [TxtC] (s p:List UInt8) (hs:s.length < 1000000) (hp:p.length < 1000000):call cx 39 [.str s,.str p] [] = some (.bool (ZY p s),[]):=by
 have h:=qgJ s p hs hp;refine qA Tryz.func39 rfl ⟨rfl,rfl⟩ ?_;simp [Tryz.f39,h]
theorem qlE [MaxL] [TxtC] (s p:List UInt8) (hs:s.length < 1000000) (hp:p.length < 1000000):call cx 69 [.str s,.str p] [] = some (.str (kC p s),[]):=by
 have h:=qgJ s p hs hp;refine qA Tryz.func69 rfl ⟨rfl,rfl⟩ ?_;unfold kC;cases hq:ZY p s with
 | false =>
  rw [hq] at h;simp [Tryz.f69,h]
 | true =>
  rw [hq] at h
  have hl:p.length≤s.length:=by
   unfold ZY at hq;rw [zL] at hq;simpa using hq.1
  obtain ⟨j,hj⟩:∃ j,j = s.length - p.length:=⟨_,rfl⟩;have hw:IntKind.i64.wrap ((s.length:Int) - (p.length:Int)) = (j:Int):=by rw [wrap_i64] <;> omega
  have g1:(j:Int)≤(s.length:Int):=by omega
  have g2:j≤s.length:=by omega
  rw [← hj];simp [Tryz.f69,h,hw,g1]
theorem qgF [MaxL] [TxtC] (s p:List UInt8) (hs:s.length < 1000000) (hp:p.length < 1000000):call cx 41 [.str s,.str p] [] = some (.str (kC p s),[]):=by
 have h:=qlE s p hs hp;refine qA Tryz.func41 rfl ⟨rfl,rfl⟩ ?_;simp [Tryz.f41,h]
theorem qnu [MaxL] [TxtC] (s p:List UInt8) (_:s.length < 1000000) (_:p.length < 1000000):call cx 101 [.str s,.str p] [] = some (.bool (s.take p.length == p),[]):=by
 refine qA Tryz.func101 rfl ⟨rfl,rfl⟩ ?_;by_cases h:p.length≤s.length
 ·have h':(p.length:Int)≤(s.length:Int):=by omega
  simp [Tryz.f101,h']
 ·have h':¬ (p.length:Int)≤(s.length:Int):=by omega
  have hn:(s.take p.length == p) = false:=by
   rw [beq_eq_false_iff_ne];intro e;have:=congrArg List.length e;rw [kt] at this;omega
  simp [Tryz.f101,h',hn]
theorem qlG [MaxL] [TxtC] (s p:List UInt8) (hs:s.length < 1000000) (hp:p.length < 1000000):call cx 68 [.str s,.str p] [] = some (.str (Xn p s),[]):=by
 have h:=qnu s p hs hp;refine qA Tryz.func68 rfl ⟨rfl,rfl⟩ ?_;unfold Xn;cases hq:(s.take p.length == p) with
 | false =>
  rw [hq] at h;simp [Tryz.f68,h]
 | true =>
  rw [hq] at h
  have hl:p.length≤s.length:=by
   have:=congrArg List.length (beq_iff_eq.1 hq);rw [kt] at this;omega
  have g1:(p.length:Int)≤(s.length:Int):=by omega
  have ht:List.take (s.length - p.length) (List.drop p.length s) = List.drop p.length s:=qP (by simp);simp [Tryz.f68,h,g1,ht]
theorem qlF [MaxL] [TxtC] (s p:List UInt8) (hs:s.length < 1000000) (hp:p.length < 1000000):call cx 40 [.str s,.str p] [] = some (.str (Xn p s),[]):=by
 have h:=qlG s p hs hp;refine qA Tryz.func40 rfl ⟨rfl,rfl⟩ ?_;simp [Tryz.f40,h]
def dsh:List UInt8:=[45]
structure InfOk (i:Inf):Prop where
 head:zH i.head
 real:zH i.real
set_option maxHeartbeats 2000000 in
theorem qiu [MaxL] [TxtC] (i:Inf) (h:InfOk i) (h2:i.kind = 2):call cx 6 [.agg (Enc.cells i)] [] = some (.str (vA i.seq.l i.head.toNat i.real.toNat),[]):=by
 obtain ⟨kd,sq,hd,rl⟩:=i;obtain ⟨w1,w2⟩:=h;simp only at h2 w1 w2;subst h2;unfold zH at w1 w2;have e1:((hd.toNat:Nat):Int) = hd:=by omega
 have e2:((rl.toNat:Nat):Int) = rl:=by omega
 have h1:=qsQ sq.l sq.h;have h3:=qfJ hd.toNat (by omega);have h4:=qfJ rl.toNat (by omega);rw [e1] at h3;rw [e2] at h4;have l1:=qa9 sq.l;have l2:=qbo hd.toNat;have l3:=qbo rl.toNat;rw [sq.h] at l1;simp only [vA,V2];generalize zI sq.l = a1 at *;generalize vO hd.toNat = a2 at *;generalize vO rl.toNat = a3 at *;clear e1 e2 w1 w2;have h18:List.drop 17 (qf sq.l ++ [D.int .u64 hd,D.int .u64 rl]) = [D.int .u64 rl]:=by simp [zk,jE]
 obtain ⟨s1,es1⟩:∃ s,s = aheadL ++ a1:=⟨_,rfl⟩;have ls1:s1.length = aheadL.length+a1.length:=by rw [es1,qX]
 obtain ⟨s2,es2⟩:∃ s,s = s1 ++ dsh:=⟨_,rfl⟩;have ls2:s2.length = s1.length+dsh.length:=by rw [es2,qX]
 obtain ⟨s3,es3⟩:∃ s,s = s2 ++ a2:=⟨_,rfl⟩;have ls3:s3.length = s2.length+a2.length:=by rw [es3,qX]
 obtain ⟨s4,es4⟩:∃ s,s = s3 ++ dsh:=⟨_,rfl⟩;have ls4:s4.length = s3.length+dsh.length:=by rw [es4,qX]
 obtain ⟨s5,es5⟩:∃ s,s = s4 ++ a3:=⟨_,rfl⟩;have ls5:s5.length = s4.length+a3.length:=by rw [es5,qX]
 obtain ⟨s6,es6⟩:∃ s,s = s5 ++ behindL:=⟨_,rfl⟩;have ls6:s6.length = s5.length+behindL.length:=by rw [es6,qX]
 simp only [aheadL,dsh,behindL,ju,jR] at ls1 ls2 ls3 ls4 ls5 ls6;have cs1:=Vt es1 (by (try simp only [aheadL,ju,jR]);omega);have cs2:=Vt es2 (by (try simp only [dsh,ju,jR]);omega);have cs3:=Vt es3 (by (try simp only [aheadL,dsh,behindL,ju,jR]);omega);have cs4:=Vt es4 (by (try simp only [dsh,ju,jR]);omega);have cs5:=Vt es5 (by (try simp only [aheadL,dsh,behindL,ju,jR]);omega);have cs6:=Vt es6 (by (try simp only [behindL,ju,jR]);omega);simp only [aheadL,dsh,behindL] at cs1 cs2 cs3 cs4 cs5 cs6
 have JB:aheadL ++ (a1 ++ 45 :: (a2 ++ 45 :: a3) ++ behindL) = s6:=by
  simp [es6,es5,es4,es3,es2,es1,dsh]
 rw [JB];clear JB es1 es2 es3 es4 es5 es6 ls1 ls2 ls3 ls4 ls5 ls6 l1 l2 l3;refine qA Tryz.func6 rfl ⟨rfl,rfl⟩ ?_;simp [Tryz.f6,Inf.cells,h18,h1,h3,h4,-QH,cs1,cs2,cs3,cs4,cs5,cs6]
theorem qit [MaxL] [TxtC] (i:Inf) (h:InfOk i):call cx 6 [.agg (Enc.cells i)] [] = some (.str (jY i),[]):=by
 unfold jY;by_cases h1:i.kind = 1
 ·refine qA Tryz.func6 rfl ⟨rfl,rfl⟩ ?_;simp [Tryz.f6,Inf.cells,h1,qaK]
 ·by_cases h4:i.kind = 4
  ·refine qA Tryz.func6 rfl ⟨rfl,rfl⟩ ?_;simp [Tryz.f6,Inf.cells,h4,qaZ]
  ·by_cases h2:i.kind = 2
   ·rw [if_neg h1,if_neg h4,if_pos h2];exact qiu i h h2
   ·by_cases h3:i.kind = 3
    ·have ha:=qiu ⟨2,i.seq,i.head,i.real⟩ ⟨h.head,h.real⟩ rfl;have hl:=qaE i.seq.h i.head.toNat i.real.toNat;simp only at ha;have ht18:List.take 18 (qf i.seq.l ++ [D.int .u64 i.head,D.int .u64 i.real]) = qf i.seq.l ++ [D.int .u64 i.head,D.int .u64 i.real]:=qP (by simp);simp [Inf.cells] at ha;rw [if_neg h1,if_neg h4,if_neg h2,if_pos h3];generalize vA i.seq.l i.head.toNat i.real.toNat = w at *;have hz:w.length+1≤4611686018427387904:=(by omega);refine qA Tryz.func6 rfl ⟨rfl,rfl⟩ ?_;simp [Tryz.f6,Inf.cells,h3,ha,hz,ht18]
    ·refine qA Tryz.func6 rfl ⟨rfl,rfl⟩ ?_;simp [Tryz.f6,Inf.cells,h1,h2,h3,h4]
def qd2:Inf:=⟨0,ID.zero,0,0⟩
def J4 (k:Int) (l:List (List UInt8)):Inf:=⟨k,qd6 (l.getD 0 []),((Jz (l.getD 1 [])).getD 0:Nat),((Jz (l.getD 2 [])).getD 0:Nat)⟩
def V4 (s:List UInt8):Int:=if ZY [126] s then 3 else 2
def vW (s:List UInt8):Inf × Bool:=if s = qaK then (⟨1,ID.zero,0,0⟩,true) else if s = qaZ then (⟨4,ID.zero,0,0⟩,true) else
 if (Qy 45 (QM s)).length = 3∧jY (J4 (V4 s) (Qy 45 (QM s))) = s then (J4 (V4 s) (Qy 45 (QM s)),true) else (qd2,false)
theorem qio (s:List UInt8):(Jz s).getD 0 < 18446744073709551616:=by
 unfold Jz;cases h:pu 16 s with
 | none=>show 0 < 18446744073709551616;omega
 | some v =>
  simp only;split
  ·exact qhJ h
  ·show 0 < 18446744073709551616;omega
theorem qsx (k:Int) (l:List (List UInt8)):InfOk (J4 k l):=by
 refine ⟨?_,?_⟩
 ·have:=qio (l.getD 1 []);show zH ((Jz (l.getD 1 [])).getD 0:Nat);unfold zH;omega
 ·have:=qio (l.getD 2 []);show zH ((Jz (l.getD 2 [])).getD 0:Nat);unfold zH;omega
def qlf (i:Inf):Prop:=(i = ⟨1,ID.zero,0,0⟩∨i = ⟨4,ID.zero,0,0⟩)∨((i.kind = 2∨i.kind = 3)∧InfOk i)
theorem qiT (i:Inf) (h:InfOk i):J4 i.kind [zI i.seq.l,vO i.head.toNat,vO i.real.toNat] = i:=by
 obtain ⟨w1,w2⟩:=h;unfold zH at w1 w2
 have e:∀ x:Int,0≤x∧x < 18446744073709551616→(((Jz (vO x.toNat)).getD 0:Nat):Int) = x:=by
  intro x hx;rw [qoj (by omega)];show ((x.toNat:Nat):Int) = x;omega
 unfold J4;simp only [List.getD_cons_zero,List.getD_cons_succ,qsI,e _ w1,e _ w2]
theorem qdv {s t:List UInt8} (h:s.length≠t.length):s≠t:=fun e=>h (by rw [e])
theorem qeZ (i:Inf) (h:qlf i):vW (jY i) = (i,true):=by
 rcases h with (rfl | rfl) | ⟨h2 | h3,hok⟩
 ·rfl
 ·rfl
 ·have hn:jY i = vA i.seq.l i.head.toNat i.real.toNat:=by
   unfold jY;rw [h2,if_neg (by decide),if_neg (by decide),if_pos rfl]
  have hl:=qaE i.seq.h i.head.toNat i.real.toNat
  have hk:V4 (vA i.seq.l i.head.toNat i.real.toNat) = i.kind:=by
   unfold V4;rw [qkO,if_neg (by decide),h2]
  unfold vW;rw [hn,if_neg (qdv (by rw [hl];decide)),if_neg (qdv (by rw [hl];decide)),qoA,qgX,hk,qiT i hok,if_pos ⟨rfl,hn⟩]
 ·have hn:jY i = vA i.seq.l i.head.toNat i.real.toNat ++ [126]:=by
   unfold jY;rw [h3,if_neg (by decide),if_neg (by decide),if_neg (by decide),if_pos rfl]
  have hl:(vA i.seq.l i.head.toNat i.real.toNat ++ [126]).length = 82:=by rw [qX,qaE i.seq.h];rfl
  have hk:V4 (vA i.seq.l i.head.toNat i.real.toNat ++ [126]) = i.kind:=by
   unfold V4;rw [qgK,if_pos rfl,h3]
  unfold vW;rw [hn,if_neg (qdv (by rw [hl];decide)),if_neg (qdv (by rw [hl];decide)),qo9,qgX,hk,qiT i hok,if_pos ⟨rfl,hn⟩]
end Go.Ev.S
namespace Go.Ev
open Go Go.Proofs
def qsy (a b:Inf):Bool:=a.kind == b.kind && (a.seq == b.seq && (a.head == b.head && a.real == b.real))
@[simp] theorem Inf.eq19 (a b:Inf):jt [.i,.i,.i,.i,.i,.i,.i,.i,.i,.i,.i,.i,.i,.i,.i,.i,.i,.i,.i] (Enc.cells a) (Enc.cells b) = some (qsy a b):=by
 have h1:=qgn a.seq b.seq;rw [Inf.cells,Inf.cells];have e:([.i,.i,.i,.i,.i,.i,.i,.i,.i,.i,.i,.i,.i,.i,.i,.i,.i,.i,.i]:List CK) = .i :: ([.i,.i,.i,.i,.i,.i,.i,.i,.i,.i,.i,.i,.i,.i,.i,.i] ++ [.i,.i]):=rfl;rw [e];simp only [jt,Ko,if_true];rw [qdY _ _ _ _ _ _ (by simp) (by simp),h1];simp only [jt,Ko,if_true,Bool.and_true];rfl
theorem qcM (p s:List UInt8):(kC p s).length≤s.length:=by
 unfold kC;split
 ·rw [kt];omega
 ·exact qv _
theorem qlH (p s:List UInt8):(Xn p s).length≤s.length:=by
 unfold Xn;split
 ·rw [Zb];omega
 ·exact qv _
theorem qoB (s:List UInt8):(QM s).length≤s.length:=by
 unfold QM;have h1:=qlH aheadL (kC behindL (kC [126] s));have h2:=qcM behindL (kC [126] s);have h3:=qcM [126] s;omega
end Go.Ev
namespace Go.Ev.S
open Go Go.Proofs Go.Ev
theorem z19 (k:Int):[D.int .i64 k,.int .u8 0,.int .u8 0,.int .u8 0,.int .u8 0,.int .u8 0,.int .u8 0,.int .u8 0,.int .u8 0,.int .u8 0,.int .u8 0,.int .u8 0,.int .u8 0,.int .u8 0,.int .u8 0,.int .u8 0,.int .u8 0,.int .u64 0,.int .u64 0] = Enc.cells (⟨k,ID.zero,0,0⟩:Inf):=rfl
theorem qn4 [MaxL] [TxtC]:call cx 14 [.str qaK] [] = some (.tup [.agg (Enc.cells (⟨1,ID.zero,0,0⟩:Inf)),.bool true],[]):=call_some.2 ⟨200,by kernel_rfl⟩
theorem qn5 [MaxL] [TxtC]:call cx 14 [.str qaZ] [] = some (.tup [.agg (Enc.cells (⟨4,ID.zero,0,0⟩:Inf)),.bool true],[]):=call_some.2 ⟨200,by kernel_rfl⟩
set_option maxHeartbeats 4000000 in
set_option maxRecDepth 4000 in
theorem qn6 [MaxL] [TxtC] (s:List UInt8) (hs:s.length < 100000):call cx 14 [.str s] [] = some (.tup [.agg (Enc.cells (vW s).1),.bool (vW s).2],[]):=by
 by_cases h1:s = qaK
 ·rw [h1];exact qn4
 by_cases h2:s = qaZ
 ·rw [h2];exact qn5
 have b1:(s == [115,121,115,116,101,109,46,106,111,117,114,110,97,108]) = false:=beq_eq_false_iff_ne.2 h1;have b2:(s == [115,121,115,116,101,109,46,110,101,119]) = false:=beq_eq_false_iff_ne.2 h2;have e1:=qlP s [126] (by omega) (by decide);have e2:=qgF s [126] (by omega) (by decide);have t1:=qcM [126] s;have e3:=qgF (kC [126] s) behindL (by omega) (by decide);have t2:=qcM behindL (kC [126] s);have e4:=qlF (kC behindL (kC [126] s)) aheadL (by omega) (by decide);have hm:=qoB s;have e5:=qmf 45 (QM s) (by omega);have vE:∀ x∈Qy 45 (QM s),x.length≤(QM s).length:=qgZ 45 _ (QM s)
 have hP:vW s = if (Qy 45 (QM s)).length = 3∧jY (J4 (V4 s) (Qy 45 (QM s))) = s then (J4 (V4 s) (Qy 45 (QM s)),true) else (qd2,false):=by
  unfold vW;rw [if_neg h1,if_neg h2]
 have hz:=z19 0;have J6:Enc.cells (⟨0,ID.zero,0,0⟩:Inf) = Enc.cells qd2:=rfl;rw [J6] at hz;have hid0:qf ID.zero.l = [.int .u8 0,.int .u8 0,.int .u8 0,.int .u8 0,.int .u8 0,.int .u8 0,.int .u8 0,.int .u8 0,.int .u8 0,.int .u8 0,.int .u8 0,.int .u8 0,.int .u8 0,.int .u8 0,.int .u8 0,.int .u8 0]:=rfl;have hmid:Xn aheadL (kC behindL (kC [126] s)) = QM s:=rfl;rw [hmid] at e4;simp only [behindL,aheadL] at e3 e4;generalize vW s = res at *;generalize QM s = m at *;generalize kC [46,106,111,117,114,110,97,108] (kC [126] s) = m1 at *;generalize kC [126] s = m2 at *;generalize Qy 45 m = P at *;by_cases h3:P.length = 3
 ·obtain ⟨y0,y1,y2,hPy⟩:∃ y0 y1 y2,P = [y0,y1,y2]:=by
   clear hP vE e5
   match P,h3 with
   | [a,b,c],_=>exact ⟨a,b,c,rfl⟩
  subst hPy;have l0:=vE y0 (by simp);have l1:=vE y1 (by simp);have l2:=vE y2 (by simp);have i0:call cx 43 [.str y0] [] = some (.tup [.agg (qf (qd6 y0).l),.bool (J5 y0).isSome],[]):=qsF y0 (by omega);have i1:=qin y1 (by omega);have i2:=qin y2 (by omega);have hn:=qit _ (qsx (V4 s) [y0,y1,y2]);have hcu:J4 (V4 s) [y0,y1,y2] = ⟨V4 s,qd6 y0,((Jz y1).getD 0:Nat),((Jz y2).getD 0:Nat)⟩:=rfl;have hk:V4 s = if ZY [126] s then 3 else 2:=rfl;have hd19:List.drop 19 (Enc.cells qd2) = []:=JS (by simp);cases hsf:ZY [126] s with
  | true =>
   rw [hsf] at hk e1;simp only [if_true] at hk;rw [hk] at hn hP hcu;by_cases hq:jY (J4 3 [y0,y1,y2]) = s
   ·rw [if_pos ⟨h3,hq⟩] at hP;rw [hq] at hn;subst hP;rw [hcu] at hn ⊢;rw [Inf.cells] at hn ⊢;simp only at hn;refine qA Tryz.func14 rfl ⟨rfl,rfl⟩ ?_;simp [Tryz.f14,b1,b2,e1,e2,e3,e4,e5,i0,i1,i2,hn,kR,zk,jE,qP]
   ·rw [if_neg (fun h=>hq h.2)] at hP;subst hP;have jL:(jY (J4 3 [y0,y1,y2]) == s) = false:=beq_eq_false_iff_ne.2 hq;generalize jY (J4 3 [y0,y1,y2]) = w at *;rw [hcu] at hn;refine qA Tryz.func14 rfl ⟨rfl,rfl⟩ ?_;simp [Tryz.f14,b1,b2,e1,e2,e3,e4,e5,i0,i1,i2,hn,jL,hz,hd19,qP]
  | false =>
   rw [hsf] at hk e1;simp only [kB,if_false] at hk;rw [hk] at hn hP hcu;by_cases hq:jY (J4 2 [y0,y1,y2]) = s
   ·rw [if_pos ⟨h3,hq⟩] at hP;rw [hq] at hn;subst hP;rw [hcu] at hn ⊢;rw [Inf.cells] at hn ⊢;simp only at hn;refine qA Tryz.func14 rfl ⟨rfl,rfl⟩ ?_;simp [Tryz.f14,b1,b2,e1,e2,e3,e4,e5,i0,i1,i2,hn,kR,zk,jE,qP]
   ·rw [if_neg (fun h=>hq h.2)] at hP;subst hP;have jL:(jY (J4 2 [y0,y1,y2]) == s) = false:=beq_eq_false_iff_ne.2 hq;generalize jY (J4 2 [y0,y1,y2]) = w at *;rw [hcu] at hn;refine qA Tryz.func14 rfl ⟨rfl,rfl⟩ ?_;simp [Tryz.f14,b1,b2,e1,e2,e3,e4,e5,i0,i1,i2,hn,jL,hz,hd19,qP]
 ·have vK:¬ (P.length:Int) = 3:=by omega
  rw [if_neg (fun h=>h3 h.1)] at hP;subst hP;refine qA Tryz.func14 rfl ⟨rfl,rfl⟩ ?_
  cases hsf:ZY [126] s <;> rw [hsf] at e1 <;>
   simp [Tryz.f14,b1,b2,e1,e2,e3,e4,e5,vK,hz]
def qbw (i:Inf):Inf:=if i.kind = 1∨i.kind = 4 then ⟨i.kind,ID.zero,0,0⟩ else i
theorem qvy (i:Inf):jY (qbw i) = jY i:=by
 unfold qbw;split
 ·rename_i h;rcases h with h | h <;> simp [jY,h]
 ·rfl
theorem qvx {i:Inf} (hk:i.kind = 1∨i.kind = 2∨i.kind = 3∨i.kind = 4) (h:InfOk i):qlf (qbw i):=by
 unfold qbw;split
 ·rename_i h1;rcases h1 with h1 | h1
  ·exact .inl (.inl (by rw [h1]))
  ·exact .inl (.inr (by rw [h1]))
 ·rename_i h1;exact .inr ⟨by omega,h⟩
theorem qos {i:Inf} (hk:i.kind = 1∨i.kind = 2∨i.kind = 3∨i.kind = 4) (h:InfOk i) (h77:i.real≠77) (q:ID) (n:Int) (hn:zH n):jY i≠jY ⟨2,q,n,77⟩:=by
 intro e;have h1:=qeZ (qbw i) (qvx hk h);have h2:=qeZ ⟨2,q,n,77⟩ (.inr ⟨.inl rfl,hn,by show (0:Int)≤77∧(77:Int) < 18446744073709551616;decide⟩);rw [qvy,e,h2] at h1;injection h1 with h1 _;unfold qbw at h1;split at h1
 ·rename_i h3;injection h1 with h4 _ _ _;omega
 ·exact h77 (by rw [← h1])
theorem qmh {A B:List (List UInt8)} {p q:List UInt8→Bool} (h:(A.filter p).Perm (B.filter q)):(jn A).filter p = (jn B).filter q :=
 qmg ((qhb A).filter p) ((qhb B).filter q) (((qaN A).filter p).trans (h.trans ((qaN B).filter q).symm))
def vX (all:List UInt8→List UInt8) (ok:List UInt8→Bool) (n:List UInt8):Bool:=(vW n).2 && (!decide ((vW n).1.kind = 4) && ok (all n))
def vw (all:List UInt8→List UInt8) (ok:List UInt8→Bool) (n:List UInt8):Bool:=(vW n).2 && (!decide ((vW n).1.kind = 4) && !ok (all n))
theorem quC {A:List (List UInt8)} {x:List UInt8} {f g:List UInt8→List UInt8} {ok:List UInt8→Bool} (hx:(vW x).2 = true) (hx4:(vW x).1.kind≠4) (hgx:ok (g x) = false) (he:∀ n,n∈A→g n = f n) :
  (jn (A ++ [x])).filter (vX g ok) = (jn A).filter (vX f ok)∧((jn (A ++ [x])).filter (vw g ok)).length = ((jn A).filter (vw f ok)).length+1:=by
 have e1:A.filter (vX g ok) = A.filter (vX f ok):=List.filter_congr fun n hn=>by unfold vX;rw [he n hn]
 have e2:A.filter (vw g ok) = A.filter (vw f ok):=List.filter_congr fun n hn=>by unfold vw;rw [he n hn]
 have x1:vX g ok x = false:=by simp [vX,hgx]
 have x2:vw g ok x = true:=by simp [vw,hgx,hx,hx4]
 refine ⟨qmh ?_,?_⟩
 ·rw [List.filter_append,e1];simp [x1]
 ·have p1:=((qaN (A ++ [x])).filter (vw g ok)).length_eq;have p2:=((qaN A).filter (vw f ok)).length_eq;rw [p1,p2,List.filter_append,e2];simp [x2]
theorem qo4 [MaxL] [TxtC] (n b:Int):call cx 47 [.int .i64 n,.int .i64 b] [] = some (.int .i64 (if b < 1 then 0 else (IntKind.i64.wrap (n.tmod b+b)).tmod b),[]):=by
 refine qA Tryz.func47 rfl ⟨rfl,rfl⟩ ?_;by_cases h1:b < 1
 ·simp [Tryz.f47,h1]
 ·have h2:b≠0:=by omega
  simp [Tryz.f47,h1,h2]
theorem qoi [MaxL] [TxtC] (n:Int) (b:Nat) (hb:1≤b) (vy:b≤1000000):∃ x:Nat,x < b∧call cx 47 [.int .i64 n,.int .i64 b] [] = some (.int .i64 x,[]):=by
 have h1:n.tmod b < b:=Int.tmod_lt_of_pos _ (by omega)
 have h2:-(b:Int) < n.tmod b:=by
  have:=Int.tmod_lt_of_pos (-n) (show (0:Int) < b by omega);rw [Int.neg_tmod] at this;omega
 have h:=qo4 n b;rw [if_neg (by omega)] at h;generalize n.tmod b = x at *;have hw:IntKind.i64.wrap (x+b) = x+b:=by rw [wrap_i64];omega
 rw [hw] at h;have h3:0≤x+b:=by omega
 have h4:=Int.tmod_nonneg (b:Int) h3;have h5:=Int.tmod_lt_of_pos (x+b) (show (0:Int) < b by omega);refine ⟨((x+b).tmod b).toNat,by omega,?_⟩;rw [h];congr 3;omega
end Go.Ev.S
namespace Go.Ev
open Go Go.Proofs
def KA (c:UInt8):Bool:=(decide (65≤c.toNat) && decide (c.toNat≤90)) || (decide (48≤c.toNat) && decide (c.toNat≤57)) || decide (c.toNat = 95)
def YX (c:UInt8):Bool:=decide (48≤c.toNat) && decide (c.toNat≤57)
def Yy:List UInt8→Bool
 | []=>false
 | c :: l=>decide ((c :: l).length≤64) && !YX c && (c :: l).all KA
def qbT (p:Pr):Bool:=Yy p.name && decide (p.value.length≤256)
end Go.Ev
namespace Go.Ev.S
open Go Go.Proofs Go.Ev
def jy (nil:Bool) (zs:List Int) (k:Nat):List D:=[.vsl nil (Vc .i64 zs) zs.length,.int .i64 k]
theorem qiS {k:IntKind} {l:List Int} {i:Nat} (h:i < l.length):(Vc k l).drop i = .int k l[i] :: Vc k (l.drop (i+1)):=by
 unfold Vc;rw [← List.map_drop,vR h];rfl
@[simp] theorem q3k (k:IntKind) (l:List Int):(Vc k l).length = l.length:=by simp [Vc]
theorem qbL (nil:Bool) (zs:List Int) (k:Nat):(∀ x,x∈jy nil zs k→idFree x = true) = True:=eq_true (by
 unfold jy;simp)
theorem qbK (nil:Bool) (zs:List Int) (k:Nat):(jy nil zs k).length = 2:=rfl
theorem qbM (nil:Bool) (zs:List Int) (k n:Nat):(∀ x,x∈jy nil zs k→closed n x = true) = True:=eq_true (by
 unfold jy;simp)
theorem qo3 [MaxL] [TxtC] (nil:Bool) (zs:List Int) (k:Nat):call cx 50 [.optr 0 2 0] [some (jy nil zs k)] = some (.bool (decide (k < zs.length)),[some (jy nil zs k)]):=by
 refine qA Tryz.func50 rfl ⟨rfl,rfl⟩ ?_;unfold jy;by_cases h:k < zs.length
 ·have h':(k:Int) < (zs.length:Int):=by omega
  simp [Tryz.f50,h,h']
 ·have h':¬ (k:Int) < (zs.length:Int):=by omega
  simp [Tryz.f50,h,h']
theorem qfm [MaxL] [TxtC] (n b:Int) (hb:1≤b) (vy:b≤1000000):∃ x:Nat,(x:Int) < b∧call cx 47 [.int .i64 n,.int .i64 b] [] = some (.int .i64 x,[]):=by
 obtain ⟨x,h1,h2⟩:=qoi n b.toNat (by omega) (by omega);rw [show ((b.toNat:Nat):Int) = b by omega] at h2;exact ⟨x,by omega,h2⟩
theorem QL [MaxL] [TxtC] (nil:Bool) (zs:List Int) (qQ:nil = true→zs = []) (hz:zs.length≤1000000) (k:Nat) (b:Int) (hb:1≤b) (vy:b≤1000000) :
  ∃ x k':Nat,(x:Int) < b∧(k < zs.length→k < k')∧call cx 17 [.optr 0 2 0,.int .i64 b] [some (jy nil zs k)] = some (.int .i64 x,[some (jy nil zs k')]):=by
 unfold jy;by_cases qi:k < zs.length
 ·have jZ:nil = false:=by
   cases nil with
   | false=>rfl
   | true=>rw [qQ rfl] at qi;simp at qi
  subst jZ;have qq:¬ (zs.length:Int)≤(k:Int):=by omega
  have XB:(k:Int) < (zs.length:Int):=by omega
  have hw:IntKind.i64.wrap ((k:Int)+1) = ((k+1:Nat):Int):=by rw [wrap_i64] <;> omega
  have zp:IntKind.i64.wrap (((k+1:Nat):Int) - 1) = (k:Int):=by rw [wrap_i64] <;> omega
  have V5:IntKind.i64.wrap (k:Int) = (k:Int):=by rw [wrap_i64];omega
  obtain ⟨x,hx,hn⟩:=qfm zs[k] b hb vy;refine ⟨x,k+1,hx,fun _=>Nat.lt_succ_self k,?_⟩;refine qA Tryz.func17 rfl ⟨rfl,rfl⟩ ?_;simp [Tryz.f17,qq,hw,XB,V5,qiS qi,hn]
 ·have qq:(zs.length:Int)≤(k:Int):=by omega
  refine ⟨0,k,by omega,fun h=>absurd h qi,?_⟩;refine qA Tryz.func17 rfl ⟨rfl,rfl⟩ ?_;simp [Tryz.f17,qq]
def namesL:List (List UInt8):=[[65],[66],[77,69,83,83,65,71,69],[95,80,73,68],[88,95,49],[80,82,73,79,82,73,84,89]]
def valuesL:List (List UInt8):=[[],[48],[49],[50,50],[97,61,98],[111,110,101,10,116,119,111],[0,255],[116,97,98,9,104,101,114,101],[108,111,110,103,32,108,111,110,103,32,108,111,110,103,32,108,111,110,103,32,108,111,110,103,32,108,111,110,103,32,108,111,110,103],[126,127,128]]
def QH (l:List (List UInt8)):List D:=l.map D.str
theorem qgN {l:List (List UInt8)} {i:Nat} (h:i < l.length):(QH l).drop i = .str l[i] :: QH (l.drop (i+1)):=by
 unfold QH;rw [← List.map_drop,vR h];rfl
theorem qor [MaxL] [TxtC]:call cx 156 [] [] = some (.vsl false (QH namesL) 6,[]):=by
 refine call_some.2 ⟨60,?_⟩;kernel_rfl
theorem ql0 [MaxL] [TxtC]:call cx 157 [] [] = some (.vsl false (QH valuesL) 10,[]):=by
 refine call_some.2 ⟨60,?_⟩;kernel_rfl
def Jc (p:Pr):Bool:=qbT p && (decide (p.name.length≤8) && decide (p.value.length≤36))
theorem qfs {p:Pr} (h:Jc p = true):qbT p = true:=by
 unfold Jc at h;rw [zL] at h;exact h.1
theorem qo6 {p:Pr} (h:Jc p = true):p.name.length≤8∧p.value.length≤36:=by
 unfold Jc at h;simp only [zL,decide_eq_true_eq] at h;exact h.2
theorem qnM:∀ n∈namesL,∀ v∈valuesL,Jc ⟨n,v⟩ = true:=by decide
set_option maxHeartbeats 1000000 in
theorem qo2 [MaxL] [TxtC] (nil:Bool) (zs:List Int) (qQ:nil = true→zs = []) (hz:zs.length≤1000000) (k:Nat) :
  ∃ (p:Pr) (k':Nat),Jc p = true∧call cx 111 [.optr 0 2 0] [some (jy nil zs k)] = some (.agg (Enc.cells p),[some (jy nil zs k')]):=by
 obtain ⟨x,k1,hx,-,h1⟩:=QL nil zs qQ hz k 6 (by decide) (by decide);obtain ⟨y,k2,hy,-,h2⟩:=QL nil zs qQ hz k1 10 (by decide) (by decide);have hx':x < namesL.length:=by show x < 6;omega
 have hy':y < valuesL.length:=by show y < 10;omega
 have g1:=qor;have g2:=ql0;refine ⟨⟨namesL[x],valuesL[y]⟩,k2,qnM _ (vQ hx') _ (vQ hy'),?_⟩;have a1:=qgN hx';have a2:=qgN hy';generalize namesL[x] = n at *;generalize valuesL[y] = v at *;generalize QH namesL = N at *;generalize QH valuesL = V at *;refine qA Tryz.func111 rfl ⟨rfl,rfl⟩ ?_;unfold jy at h1 h2 ⊢;simp [Tryz.f111,h1,h2,g1,g2,a1,a2,hx,hy,Pr.cells]
def idN (j:Nat):ID:=⟨[94,0,0,0,0,0,0,0,0,0,0,0,0,0,0,UInt8.ofNat j],rfl⟩
theorem qdn [MaxL] [TxtC] (n:Int):∃ j:Nat,j < 5∧call cx 18 [.int .i64 n] [] = some (.agg (qf (idN j).l),[]):=by
 obtain ⟨x,hx,hn⟩:=qfm n 5 (by decide) (by decide);refine ⟨x,by omega,?_⟩;refine qA Tryz.func18 rfl ⟨rfl,rfl⟩ ?_;have h:x = 0∨x = 1∨x = 2∨x = 3∨x = 4:=by omega
 rcases h with rfl | rfl | rfl | rfl | rfl <;> simp [Tryz.f18,hn] <;> rfl
theorem qo8 [MaxL] [TxtC] {j:Nat} (hj:j < 5):call cx 18 [.int .i64 j] [] = some (.agg (qf (idN j).l),[]):=by
 have h:j = 0∨j = 1∨j = 2∨j = 3∨j = 4:=by omega
 refine call_some.2 ⟨60,?_⟩;rcases h with rfl | rfl | rfl | rfl | rfl <;> kernel_rfl
def qw1 {α:Type} [Enc α] (S:List D) (sz:Nat) (l:List α) (d:D) (H:qd):Prop :=
 (l = []∧d = .vsl true [] 0∧H = [some S])∨(l≠[]∧∃ n k t,n = l.length * sz∧k = l.length∧((d = .osl 2 n 0 k sz∧H = [some S,some t,some (qk l)])∨(d = .osl 1 n 0 k sz∧H = [some S,some (qk l),some t])))
def qkZ (nil:Bool) (zs:List Int) (q:D × qd):Prop:= ∃ (l:List Pr) (k':Nat),1≤l.length∧l.length≤4∧(∀ p∈l,Jc p = true)∧q = (.vsl false (qk l) l.length,[some (jy nil zs k')])
set_option maxHeartbeats 1000000 in
theorem qo1 [MaxL] [TxtC] (nil:Bool) (zs:List Int) (qQ:nil = true→zs = []) (hz:zs.length≤1000000) (k:Nat) :
  ∃ q,call cx 75 [.optr 0 2 0,.int .i64 4] [some (jy nil zs k)] = some q∧qkZ nil zs q:=by
 obtain ⟨x,k1,hx,-,h1⟩:=QL nil zs qQ hz k 4 (by decide) (by decide);refine Jt (X:=cx) (f:=75) (args:=[.optr 0 2 0,.int .i64 4]) (H:=[some (jy nil zs k)]) (qkZ nil zs) Tryz.func75 rfl ⟨rfl,rfl⟩ ?_;have hw:IntKind.i64.wrap ((x:Int)+1) = ((x+1:Nat):Int):=by rw [wrap_i64] <;> omega
 have sf:=qbL nil zs;have sl:=qbK nil zs;have sc:=qbM nil zs;simp [Tryz.f75,h1,sf];refine Run.loopThen (fun (q:List Pr × Nat × Nat) e H'=>q.1.length+q.2.1 = x+1∧(∀ p∈q.1,Jc p = true)∧qg e 0 = some (.optr 0 2 0)∧qg e 6 = some (.int .i64 (q.2.1:Nat))∧∃ d,qg e 5 = some d∧qw1 (jy nil zs q.2.2) 2 q.1 d H') (fun q=>q.2.1) ([],x+1,k1) ?_ ?_
 ·exact ⟨by simp,by simp,by simp,by simp [hw],_,by simp,.inl ⟨rfl,rfl,rfl⟩⟩
 rintro ⟨l,i,k2⟩ e H' ⟨hi,hok,k0,k6,d,k5,hH⟩;simp only at hi hok k6 hH;obtain ⟨p,k3,hp,h2⟩:=qo2 nil zs qQ hz k2;rcases hH with ⟨rfl,rfl,rfl⟩ | ⟨qH,n,m,t,hn,hm,hH⟩
 ·have Vm:0 < i:=by simp at hi;omega
  have zp:IntKind.i64.wrap ((i:Int) - 1) = ((i - 1:Nat):Int):=by rw [wrap_i64] <;> (simp at hi;omega)
  simp [k0,k5,k6,Vm,h2,sf,sc,zp,Pr.cells,qw];exact ⟨[p],i - 1,by omega,by simp at hi ⊢;omega,by simp [hp],rfl,k3,.inr ⟨by simp,2,1,_,rfl,rfl,.inl ⟨rfl,rfl⟩⟩⟩
 ·have jl:(m+1) * 32≤140737488355328:=by omega
  have qW:m+1≤140737488355328:=by omega
  have ZA:l.length = m:=hm.symm;have Qo:m * 2 = n:=by omega
  have vD:List.take n (qk l) = qk l:=qP (by simp;omega);by_cases Vm:0 < i
  ·have zp:IntKind.i64.wrap ((i:Int) - 1) = ((i - 1:Nat):Int):=(by rw [wrap_i64] <;> omega);rcases hH with ⟨rfl,rfl⟩ | ⟨rfl,rfl⟩
   all_goals
    simp [k0,k5,k6,Vm,h2,sf,sc,zp,Pr.cells,qw,ZA,Qo,jl,qW];refine ⟨l ++ [p],i - 1,by omega,by simp;omega,fun q hq=>?_,rfl,k3,.inr ⟨by simp,n+2,m+1,_,by simp;omega,by simp [ZA],.inr ⟨rfl,by rw [qdO];rfl⟩⟩⟩;rcases List.mem_append.1 hq with h | h
    ·exact hok q h
    ·rw [List.mem_singleton.1 h];exact hp
  ·have Q3:l.isEmpty = false:=by simpa using qH
   have KP:1≤l.length:=by
    cases l with
    | nil=>exact absurd rfl qH
    | cons=>simp
   rcases hH with ⟨rfl,rfl⟩ | ⟨rfl,rfl⟩
   all_goals
    simp [k0,k5,k6,Vm,sc,ZA,Qo,vD];exact ⟨l,k2,KP,by omega,hok,by rw [ZA]⟩
end Go.Ev.S
namespace Go.Ev
open Go Go.Proofs
def Kj:Nat→Nat→List UInt8
 | 0,_=>[]
 | n+1,v=>Kj n (v / 16) ++ [jC (v % 16)]
theorem qj0:∀ (n:Nat),Kj n 0 = List.replicate n 48
 | 0=>rfl
 | n+1=>by
  rw [Kj,Nat.zero_div,qj0 n,Nat.zero_mod];have:jC 0 = 48:=by decide
  rw [this,List.replicate_succ']
theorem qj1:∀ (f n v:Nat),v < 16 ^ f→1≤f→f≤n→List.replicate (n - (Qs f v).length) 48 ++ Qs f v = Kj n v
 | 0,_,_,_,h,_=>by omega
 | f+1,0,_,_,_,h=>by omega
 | f+1,n+1,v,h,_,hn=>by
  rw [Qs,Kj];by_cases hv:v < 16
  ·rw [if_pos hv,show v / 16 = 0 by omega,qj0,qc8 hv];rfl
  ·rw [if_neg hv]
   have hf:1≤f:=by
    rcases f with _ | f
    ·simp at h;omega
    ·omega
   have ih:=qj1 f n (v / 16) (by rw [qb5] at h;omega) hf (by omega)
   have hl:n+1 - (Qs f (v / 16) ++ [jC (v % 16)]).length = n - (Qs f (v / 16)).length:=by
    rw [qX];simp
   rw [hl,← ZT,ih]
theorem qjE {v:Nat} (h:v < 18446744073709551616):vO v = Kj 16 v:=qj1 16 16 v (by omega) (by omega) (by omega)
def ja (x:Int) (k:Nat):Int:=Z1 .u32 (IntKind.u32.wrap (x * 2 ^ k)) (x.fdiv (2 ^ (32 - k)))
def vr (a b:Int):Int:=IntKind.u32.wrap (a+b)
def jB (a b:Int):Int:=IntKind.u32.wrap (a - b)
def QI (k:Nat):Int × Int × Int→Int × Int × Int
 | (a,b,c)=>(b,vr c b,zi .u32 (jB a c) (ja c k))
def qdm (t:Int × Int × Int):Int × Int × Int:=QI 4 (QI 19 (QI 16 (QI 8 (QI 6 (QI 4 t)))))
def kT (k:Nat):Int × Int × Int→Int × Int × Int
 | (p,q,r)=>(r,jB (zi .u32 p q) (ja q k),q)
def qck:Int × Int × Int→Int × Int × Int
 | (x,y,z)=>kT 24 (kT 14 (kT 4 (kT 16 (kT 25 (kT 11 (kT 14 (z,y,x)))))))
theorem qo7 {x y z x1 z1 y1 x2 z2 y2 x3 z3 y3 x4 z4 y4 a1 a2 a3 a4 a5 a6:Int}
  (h1:jB x z = a1) (h2:zi .u32 a1 (ja z 4) = x1) (h3:vr z y = z1)
  (h4:jB y x1 = a2) (h5:zi .u32 a2 (ja x1 6) = y1) (h6:vr x1 z1 = x2)
  (h7:jB z1 y1 = a3) (h8:zi .u32 a3 (ja y1 8) = z2) (h9:vr y1 x2 = y2)
  (g1:jB x2 z2 = a4) (g2:zi .u32 a4 (ja z2 16) = x3) (g3:vr z2 y2 = z3)
  (g4:jB y2 x3 = a5) (g5:zi .u32 a5 (ja x3 19) = y3) (g6:vr x3 z3 = x4)
  (g7:jB z3 y3 = a6) (g8:zi .u32 a6 (ja y3 4) = z4) (g9:vr y3 x4 = y4):qdm (x,y,z) = (x4,y4,z4):=by
 unfold qdm;have e1:QI 4 (x,y,z) = (y,z1,x1):=by simp only [QI,h1,h2,h3]
 have e2:QI 6 (y,z1,x1) = (z1,x2,y1):=by simp only [QI,h4,h5,h6]
 have e3:QI 8 (z1,x2,y1) = (x2,y2,z2):=by simp only [QI,h7,h8,h9]
 have e4:QI 16 (x2,y2,z2) = (y2,z3,x3):=by simp only [QI,g1,g2,g3]
 have e5:QI 19 (y2,z3,x3) = (z3,x4,y3):=by simp only [QI,g4,g5,g6]
 have e6:QI 4 (z3,x4,y3) = (x4,y4,z4):=by simp only [QI,g7,g8,g9]
 rw [e1,e2,e3,e4,e5,e6]
theorem qtU {x y z a1 z1 a2 x1 a3 y1 a4 z2 a5 x2 a6 y2 a7 z3:Int}
  (h1:zi .u32 z y = a1) (h2:jB a1 (ja y 14) = z1)
  (h3:zi .u32 x z1 = a2) (h4:jB a2 (ja z1 11) = x1)
  (h5:zi .u32 y x1 = a3) (h6:jB a3 (ja x1 25) = y1)
  (h7:zi .u32 z1 y1 = a4) (h8:jB a4 (ja y1 16) = z2)
  (g1:zi .u32 x1 z2 = a5) (g2:jB a5 (ja z2 4) = x2)
  (g3:zi .u32 y1 x2 = a6) (g4:jB a6 (ja x2 14) = y2)
  (g5:zi .u32 z2 y2 = a7) (g6:jB a7 (ja y2 24) = z3):qck (x,y,z) = (x2,z3,y2):=by
 unfold qck;have e1:kT 14 (z,y,x) = (x,z1,y):=by simp only [kT,h1,h2]
 have e2:kT 11 (x,z1,y) = (y,x1,z1):=by simp only [kT,h3,h4]
 have e3:kT 25 (y,x1,z1) = (z1,y1,x1):=by simp only [kT,h5,h6]
 have e4:kT 16 (z1,y1,x1) = (x1,z2,y1):=by simp only [kT,h7,h8]
 have e5:kT 4 (x1,z2,y1) = (y1,x2,z2):=by simp only [kT,g1,g2]
 have e6:kT 14 (y1,x2,z2) = (z2,y2,x2):=by simp only [kT,g3,g4]
 have e7:kT 24 (z2,y2,x2) = (x2,z3,y2):=by simp only [kT,g5,g6]
 simp only [e1,e2,e3,e4,e5,e6,e7]
def jS (l:List UInt8) (a:Nat):Nat:=vi ((l.drop a).take 4)
theorem qcG (l:List UInt8) (a:Nat):jS l a < 4294967296:=by
 refine jr (qbd _) ?_;have:((l.drop a).take 4).length≤4:=by rw [kt];omega
 exact jA (qb6 (by decide) this) (by decide)
def XY (l:List UInt8):Int × Int × Int→Int × Int × Int
 | (x,y,z)=>(vr x (jS l 0:Nat),vr y (jS l 4:Nat),vr z (jS l 8:Nat))
def qa0:Int × Int × Int→Int
 | (_,y,z)=>Z1 .u64 (IntKind.u64.wrap (IntKind.u64.wrap z * 4294967296)) (IntKind.u64.wrap y)
def V3 (l:List UInt8) (t:Int × Int × Int):Int :=
 if 12 < l.length then V3 (l.drop 12) (qdm (XY l t)) else if l.length = 0 then qa0 t else match qck (XY l t) with | (_,z,y)=>qa0 (0,y,z)
termination_by l.length
decreasing_by simp;omega
def qca (l:List UInt8):Int:=V3 l (vr 3735928559 (IntKind.u32.wrap (l.length:Nat)),vr 3735928559 (IntKind.u32.wrap (l.length:Nat)),vr 3735928559 (IntKind.u32.wrap (l.length:Nat)))
theorem qiA {l:List UInt8} (h:12 < l.length) (t:Int × Int × Int):V3 l t = V3 (l.drop 12) (qdm (XY l t)):=by
 rw [V3,if_pos h]
theorem qiB {l:List UInt8} (h:¬ 12 < l.length) (h0:l.length≠0) {t:Int × Int × Int} {x y z:Int} (hf:qck (XY l t) = (x,z,y)):V3 l t = qa0 (0,y,z):=by
 rw [V3,if_neg h,if_neg h0,hf]
theorem qi9 {l:List UInt8} (h0:l.length = 0) (t:Int × Int × Int):V3 l t = qa0 t:=by
 rw [V3,if_neg (by omega),if_pos h0]
end Go.Ev
namespace Go.Ev.S
open Go Go.Proofs Go.Ev
def Jy (p:Pr):List UInt8:=(p.name ++ [61]) ++ p.value
theorem qde [MaxL] [TxtC] (p:Pr) (h1:p.name.length < 1000000) (h2:p.value.length < 1000000):call cx 110 [.agg (Enc.cells p)] [] = some (.str (Jy p),[]):=by
 refine qA Tryz.func110 rfl ⟨rfl,rfl⟩ ?_;have x1:p.name.length+1≤4611686018427387904:=by omega
 have x2:p.name.length+1+p.value.length≤4611686018427387904:=by omega
 have x3:p.name.length+(p.value.length+1)≤4611686018427387904:=by omega
 unfold Jy;simp [Tryz.f110,Pr.cells,x1,x2]
def Kz:List UInt8→Nat→Bool
 | [],_=>true
 | c :: l,k=>(KA c && (decide (0 < k) || !YX c)) && Kz l (k+1)
theorem qiv:∀ (l:List UInt8) (k:Nat),0 < k→Kz l k = l.all KA
 | [],_,_=>rfl
 | c :: l,k,h=>by rw [Kz,qiv l (k+1) (by omega)];simp [h]
theorem qou (s:List UInt8):Yy s = (Kz s 0 && (decide (1≤s.length) && decide (s.length≤64))):=by
 cases s with
 | nil=>rfl
 | cons c l =>
  rw [Yy,Kz,qiv l 1 (by omega),qal];simp;cases KA c <;> cases YX c <;> cases l.all KA <;> simp
set_option maxHeartbeats 4000000 in
theorem qnb [MaxL] [TxtC] (s:List UInt8) (_:s.length≤9223372036854775807):call cx 155 [.str s] [] = some (.bool (Yy s),[]):=by
 refine qA Tryz.func155 rfl ⟨rfl,rfl⟩ ?_;rw [qou];obtain ⟨r,hr⟩:∃ r,(Kz s 0 && (decide (1≤s.length) && decide (s.length≤64))) = r:=⟨_,rfl⟩;rw [hr];simp [Tryz.f155];refine Run.loopThen (fun (k:Nat) e H'=>k≤s.length∧(Kz (s.drop k) k && (decide (1≤s.length) && decide (s.length≤64))) = r∧qg e 0 = some (.str s)∧qg e 3 = some (.int .i64 k)∧H' = []) (fun k=>s.length - k) 0 ?_ ?_
 ·simpa using hr
 rintro k e H' ⟨hk,hR,k0,k3,rfl⟩;by_cases qi:k < s.length
 ·have qq:(k:Int) < (s.length:Int):=by omega
  have hw:IntKind.i64.wrap ((k:Int)+1) = ((k+1:Nat):Int):=by rw [wrap_i64] <;> omega
  have zC:s[k]? = some s[k]:=qU qi;rw [vR qi,Kz] at hR;generalize s[k] = c at *;have hnx:(KA c && (decide (0 < k) || !YX c)) = true→∃ j:Nat,s.length - j < s.length - k∧j≤s.length∧(Kz (s.drop j) j && (decide (1≤s.length) && decide (s.length≤64))) = r∧(j:Int) = (k:Int)+1:=fun h=>⟨k+1,by omega,by omega,by rw [h,qer] at hR;exact hR,by omega⟩;have zy:(KA c && (decide (0 < k) || !YX c)) = false→r = false:=fun h=>by rw [h,qcC,qcC] at hR;exact hR.symm
  cases hb:(KA c && (decide (0 < k) || !YX c)) with
  | true =>
   obtain ⟨j,j1,j2,j3,j4⟩:=hnx hb;simp [KA,YX] at hb;by_cases h1:(48:Int)≤(c.toNat:Int) <;> by_cases h2:(c.toNat:Int)≤57 <;> rcases (show ((k = 0) = True∧(0 < k) = False)∨((k = 0) = False∧(0 < k) = True) by by_cases hk0:k = 0;exact .inl ⟨eq_true hk0,eq_false (by omega)⟩;exact .inr ⟨eq_false hk0,eq_true (by omega)⟩) with ⟨h3,vK⟩ | ⟨h3,vK⟩ <;> by_cases h4:(65:Int)≤(c.toNat:Int) <;> by_cases h5:(c.toNat:Int)≤90 <;> by_cases h6:(c.toNat:Int) = 95 <;> try (exfalso;simp at h3;omega)
   all_goals simp [k0,k3,qq,zC,hw,h1,h2,vK,h4,h5,h6]
   all_goals exact ⟨j,j1,j2,j3,by omega⟩
  | false =>
   have:=zy hb;subst this;simp [KA,YX] at hb;by_cases h1:(48:Int)≤(c.toNat:Int) <;> by_cases h2:(c.toNat:Int)≤57 <;> rcases (show ((k = 0) = True∧(0 < k) = False)∨((k = 0) = False∧(0 < k) = True) by by_cases hk0:k = 0;exact .inl ⟨eq_true hk0,eq_false (by omega)⟩;exact .inr ⟨eq_false hk0,eq_true (by omega)⟩) with ⟨h3,vK⟩ | ⟨h3,vK⟩ <;> by_cases h4:(65:Int)≤(c.toNat:Int) <;> by_cases h5:(c.toNat:Int)≤90 <;> by_cases h6:(c.toNat:Int) = 95 <;> try (exfalso;simp at h3;omega)
   all_goals simp [k0,k3,qq,zC,h1,h2,vK,h4,h5,h6]
 ·have qq:¬ (k:Int) < (s.length:Int):=by omega
  rw [JS (by omega),Kz,qer] at hR;by_cases h1:1≤s.length
  ·have zR:(1:Int)≤(s.length:Int):=(by omega);by_cases h2:s.length≤64
   ·have vn:(s.length:Int)≤64:=(by omega);simp only [h1,h2,decide_true,Bool.and_self] at hR;subst hR;simp [k0,k3,qq,zR,vn]
   ·have vn:¬ (s.length:Int)≤64:=(by omega);simp only [h1,h2,decide_true,decide_false,Bool.and_false] at hR;subst hR;simp [k0,k3,qq,zR,vn]
  ·have zR:¬ (1:Int)≤(s.length:Int):=(by omega);simp only [h1,decide_false,qcC] at hR;subst hR;simp [k0,k3,qq,zR]
theorem qnc [MaxL] [TxtC] (s:List UInt8) (hs:s.length < 1000000):call cx 155 [.str s] [] = some (.bool (Yy s),[]):=qnb s (by omega)
theorem qot {n:List UInt8} (h:Yy n = true):n.length≤64:=by
 unfold Yy at h;split at h
 ·cases h
 ·simp only [zL,decide_eq_true_eq] at h;exact h.1.1
theorem qeX {p:Pr} (h:qbT p = true):Yy p.name = true∧p.name.length≤64∧p.value.length≤256:=by
 unfold qbT at h;simp only [zL,decide_eq_true_eq] at h;exact ⟨h.1,qot h.1,h.2⟩
theorem qrz [MaxL] [TxtC] (p:Pr) (h:qbT p = true):call cx 109 [.agg (Enc.cells p)] [] = some (.tup [.vsl false (qf (Jy p)) (Jy p).length,.int .i64 0],[]):=by
 obtain ⟨hn,jO,hv⟩:=qeX h;have vF:=qnc p.name (by omega);rw [hn] at vF;have hp:=qde p (by omega) (by omega);have hv':¬ (256:Int) < (p.value.length:Int):=by omega
 refine qA Tryz.func109 rfl ⟨rfl,rfl⟩ ?_;rw [Pr.cells] at hp ⊢;have hl:(Jy p).length≤321:=by unfold Jy;simp;omega
 have qH:(Jy p).length≠0:=by unfold Jy;simp
 generalize Jy p = w at *;have hm:w.length≤140737488355328:=by omega
 simp [Tryz.f109,vF,hp,hv']
theorem KB {X:Cx} {f nt n0:Nat} {Q:Ex→qn→qd→Prop} {fs:List Fr} {c:Code} {σ:Type} (I:σ→qn→qd→Prop) (m:σ→Nat) (s:σ) (J:Ex→qn→qd→Prop) {e:qn} {H:qd} (h0:I s e H)
  (step:∀ s e H,I s e H→Run X f nt n0 (fun ex e' H'=>match ex with | .normal=>∃ s',m s' < m s∧I s' e' H' | ex=>J ex e' H') [] (qE X f nt n0 c e H))
  (done:∀ ex e H,J ex e H→Run X f nt n0 Q fs (some (ex,e,H))):Run X f nt n0 Q fs (qE X f nt n0 (.loop c) e H):=by
 refine Run.loopThen I m s h0 fun s e H hi=>Run.mono (step s e H hi) fun ex e H hq=>?_;rw [Zy];cases ex with
 | normal=>exact hq
 | _=>exact done _ _ _ hq
def LsM (L:List Pr) (d:D) (H:qd):Prop :=
 ∃ n k t,n = L.length * 2∧k = L.length∧((d = .osl 1 n 0 k 2∧H = [some t,some (qk L)])∨(d = .osl 0 n 0 k 2∧H = [some (qk L),some t])∨(d = .osl 0 n 0 k 2∧H = [some (qk L)]))
def LsH (out:List Pr) (d:D) (H:qd):Prop :=
 (out = []∧d = .vsl true [] 0∧H = [])∨(out≠[]∧LsM out d H)
def LsQ (q:D × qd):Prop:= ∃ out:List Pr,1≤out.length∧out.length≤4∧(∀ p∈out,Jc p = true)∧q = (.tup [.vsl false (qk out) out.length,.int .i64 0],[])
set_option maxHeartbeats 4000000 in
theorem qiE [MaxL] [TxtC] (l:List Pr) (h1:1≤l.length) (h4:l.length≤4) (hok:∀ p∈l,Jc p = true):∃ q,call cx 74 [.vsl false (qk l) l.length] [] = some q∧LsQ q:=by
 refine Jt (X:=cx) (f:=74) (args:=[.vsl false (qk l) l.length]) (H:=[]) LsQ Tryz.func74 rfl ⟨rfl,rfl⟩ ?_;have hz:¬ l.length = 0:=by omega
 simp [Tryz.f74,hz];refine Run.loopThen (fun (q:Nat × List Pr) e H'=>q.1≤l.length∧q.2.length≤q.1∧(1≤q.1→1≤q.2.length)∧(∀ p∈q.2,Jc p = true)∧qg e 0 = some (.vsl false (qk l) l.length)∧qg e 5 = some (.int .i64 (q.1:Nat))∧∃ d,qg e 4 = some d∧LsH q.2 d H') (fun q=>l.length - q.1) (0,[]) ?_ ?_
 ·exact ⟨by simp,by simp,by simp,by simp,by simp,by simp,_,by simp,.inl ⟨rfl,rfl,rfl⟩⟩
 rintro ⟨i,out⟩ e H' ⟨hi,ho,X8,hp,k0,k5,d,k4,hH⟩;simp only at hi ho X8 hp k5 hH;by_cases qi:i < l.length
 ·have qq:(i:Int) < (l.length:Int):=by omega
  have hj:=qrz l[i] (qfs (hok _ (vQ qi)));have vE:=hok _ (vQ qi);obtain ⟨-,Xa,vy⟩:=qeX (qfs vE);have hw5:IntKind.i64.wrap ((i:Int)+1) = ((i+1:Nat):Int):=by rw [wrap_i64] <;> omega
  rw [Pr.cells] at hj;rcases hH with ⟨rfl,rfl,rfl⟩ | ⟨qH,n,k,t,hn,hk,hH⟩
  ·simp [k0,k4,k5,qi,qq,hj,Pr.cells];refine qcU ?_;simp [qw];refine qcU ?_;simp [qi,qq,Pr.cells,hw5];exact ⟨i+1,by omega,by omega,[l[i]],by simp,fun _=>by simp,by simp [vE],by simp,.inr ⟨by simp,2,1,_,rfl,rfl,.inl ⟨rfl,rfl⟩⟩⟩
  have vD:List.take n (qk out) = qk out:=qP (by simp;omega);have ZA:out.length = k:=hk.symm;have Qo:k * 2 = n:=by omega
  have jl:(k+1) * 32≤140737488355328:=by omega
  have qW:k+1≤140737488355328:=by omega
  have Y4:IntKind.i64.wrap (k:Int) = (k:Int):=by rw [wrap_i64];omega
  rcases hH with ⟨rfl,rfl⟩ | ⟨rfl,rfl⟩ | ⟨rfl,rfl⟩
  all_goals
   simp [k0,k4,k5,qi,qq,hj,Pr.cells]
   refine KB (fun (z:Nat) e H'=>z≤k∧qg e 0 = some (.vsl false (qk l) l.length)∧qg e 4 = some (.osl 0 n 0 k 2)∧qg e 5 = some (.int .i64 (i:Nat))∧qg e 8 = some (.int .i64 (z:Nat))∧H' = [some (qk out)]) (fun z=>k - z) 0
    (fun ex e H'=>ex = .exit 2∧∃ z,z≤k∧qg e 0 = some (.vsl false (qk l) l.length)∧qg e 4 = some (.osl 0 n 0 k 2)∧qg e 5 = some (.int .i64 (i:Nat))∧qg e 8 = some (.int .i64 (z:Nat))∧H' = [some (qk out)]) ⟨vf _,by simp,by simp,by simp,by simp,rfl⟩ ?_ ?_
   ·clear k0 k4 k5;rintro z e H' ⟨hz,k0,k4,k5,k8,rfl⟩;have hwz:IntKind.i64.wrap ((z:Int)+1) = ((z+1:Nat):Int):=(by rw [wrap_i64] <;> omega);by_cases Qa:z < k
    ·have VR:z < out.length:=(by omega);obtain ⟨-,c1,c2⟩:=qeX (qfs (hp _ (vQ VR)));have p1:=qde out[z] (by omega) (by omega);have p2:=qde l[i] (by omega) (by omega);rw [Pr.cells] at p1 p2;generalize Jy out[z] = w1 at *;generalize Jy l[i] = w2 at *;cases hb:Op.bytesLess w1 w2 with
     | true =>
      simp [k0,k4,k5,k8,Qa,qi,qq,Pr.cells,p1,p2,hb,hwz,ZA,Qo];exact ⟨z+1,by omega,by omega,rfl⟩
     | false =>
      simp [k0,k4,k5,k8,Qa,qi,qq,Pr.cells,p1,p2,hb,ZA,Qo];exact ⟨z,hz,rfl⟩
    ·simp [k0,k4,k5,k8,Qa];exact ⟨z,hz,rfl⟩
   ·clear k0 k4 k5;rintro ex e H' ⟨rfl,z,hz,k0,k4,k5,k8,rfl⟩
    have hcase:(∃ h:z < out.length,out[z].name = l[i].name∧out[z].value = l[i].value)∨(∃ h:z < out.length,¬ out[z].name = l[i].name)∨(∃ h:z < out.length,out[z].name = l[i].name∧¬ out[z].value = l[i].value)∨¬ z < k:=by
     by_cases h:z < out.length
     ·by_cases h1:out[z].name = l[i].name
      ·by_cases h2:out[z].value = l[i].value
       ·exact .inl ⟨h,h1,h2⟩
       ·exact .inr (.inr (.inl ⟨h,h1,h2⟩))
      ·exact .inr (.inl ⟨h,h1⟩)
     ·exact .inr (.inr (.inr (by omega)))
    have Q7:=fun (h:z < out.length)=>(show z < k by omega);rcases hcase with ⟨VR,e1,e2⟩ | ⟨VR,e1⟩ | ⟨VR,e1,e2⟩ | Qa
    ·simp [k0,k4,k5,k8,Q7 VR,qi,qq,Pr.cells,e1,e2,ZA,Qo,hw5];exact ⟨i+1,by omega,by omega,out,by omega,fun _=>by omega,hp,by simp,.inr ⟨qH,n,k,t,hn,hk,.inr (.inr ⟨rfl,rfl⟩)⟩⟩
    all_goals
     first
      | simp [k0,k4,k5,k8,Q7 VR,qi,qq,Pr.cells,e1,e2,ZA,Qo,Y4,jl,qW,qw]
      | simp [k0,k4,k5,k8,Q7 VR,qi,qq,Pr.cells,e1,ZA,Qo,Y4,jl,qW,qw]
      | simp [k0,k4,k5,k8,Qa,ZA,Qo,Y4,jl,qW,qw]
     refine KB (fun (q:Nat × List Pr) e H'=>z≤q.1∧q.1≤k∧q.2.length = k+1∧(∀ x (h:x < q.2.length),x≠q.1→Jc q.2[x] = true)∧qg e 0 = some (.vsl false (qk l) l.length)∧qg e 4 = some (.osl 0 (n+2) 0 (k+1) 2)∧qg e 5 = some (.int .i64 (i:Nat))∧qg e 8 = some (.int .i64 (z:Nat))∧qg e 9 = some (.int .i64 (q.1:Nat))∧H' = [some (qk q.2),some [.str [],.str []]]) (fun q=>q.1 - z) (k,out ++ [⟨[],[]⟩])
      (fun ex e H'=>ex = .exit 4∧∃ L:List Pr,L.length = k+1∧(∀ x (h:x < L.length),x≠z→Jc L[x] = true)∧qg e 0 = some (.vsl false (qk l) l.length)∧qg e 4 = some (.osl 0 (n+2) 0 (k+1) 2)∧qg e 5 = some (.int .i64 (i:Nat))∧qg e 8 = some (.int .i64 (z:Nat))∧H' = [some (qk L),some [.str [],.str []]]) ?_ ?_ ?_
     ·refine ⟨hz,qv _,by simp [ZA],fun x h hx=>?_,by simp,by simp,by simp,by simp,by simp,by rw [qdO];rfl⟩;have hxo:x < out.length:=(by simp at h;omega);simp only [List.getElem_append_left hxo];exact hp _ (vQ hxo)
     ·clear k0 k4 k5 k8;rintro ⟨j,L⟩ e H' ⟨hzj,XF,YP,hLp,k0,k4,k5,k8,k9,rfl⟩;simp only at hzj XF YP hLp k9;by_cases hj2:z < j
      ·obtain ⟨a,rfl⟩:∃ a,j = a+1:=⟨j - 1,by omega⟩;have hwa:IntKind.i64.wrap (((a+1:Nat):Int) - 1) = (a:Int):=(by rw [wrap_i64] <;> omega);have hwb:IntKind.i64.wrap ((a:Int)+1 - 1) = (a:Int):=(by rw [wrap_i64] <;> omega);have hwc:IntKind.i64.wrap (a:Int) = (a:Int):=(by rw [wrap_i64];omega);have hak:a < k:=(by omega);have JE:(a:Int) < (k:Int)+1:=(by omega);have hza:(z:Int) < (a:Int)+1:=(by omega);have hza2:z < a+1:=hj2;have h0a:(0:Int)≤(a:Int)+1:=(by omega);have ha2n:(a+1) * 2≤n:=(by omega);have Xb:a < L.length:=(by omega);have ha3:a+1 < L.length:=(by omega);have hLn:L.length * 2 = n+2:=(by omega);simp [k0,k4,k5,k8,k9,hwc,hak,JE,Xb,ha3,hLn,hza,h0a,ha2n];refine ⟨a,by omega,by omega,by omega,_,by simp [YP],fun x h hx=>?_,rfl,rfl⟩;rw [List.getElem_set];split
       ·exact hLp a Xb (by omega)
       ·exact hLp x (by simpa using h) (by omega)
      ·simp [k0,k4,k5,k8,k9,hj2];exact ⟨L,YP,fun x h hx=>hLp x h (by omega),rfl⟩
     ·clear k0 k4 k5 k8;rintro ex e H' ⟨rfl,L,YP,hLp,k0,k4,k5,k8,rfl⟩;have hzl2:z < L.length:=(by omega);have hz1:(z:Int) < (k:Int)+1:=(by omega);have QO:z * 2≤n:=(by omega);have hLn:L.length * 2 = n+2:=(by omega);simp [k0,k4,k5,k8,hzl2,qi,qq,hw5,hz1,QO,hLn];refine ⟨i+1,by omega,by omega,L.set z l[i],by simp [YP];omega,fun _=>by simp [YP],fun p hp=>?_,by simp,.inr ⟨fun h=>?_,n+2,k+1,_,by simp [hLn],by simp [YP],.inr (.inl ⟨rfl,rfl⟩)⟩⟩
      ·obtain ⟨x,hx,rfl⟩:=List.mem_iff_getElem.1 hp;rw [List.getElem_set];split
       ·exact vE
       ·exact hLp x (by simpa using hx) (by omega)
      ·have:=congrArg List.length h;simp [YP] at this
 ·have qq:¬ (i:Int) < (l.length:Int):=by omega
  have ho2:=X8 (by omega);rcases hH with ⟨rfl,rfl,rfl⟩ | ⟨qH,n,k,t,hn,hk,hH⟩
  ·simp at ho2
  have h16:¬ (16:Int) < (k:Int):=by omega
  have vD:List.take n (qk out) = qk out:=qP (by simp;omega);have ZA:out.length = k:=hk.symm;have Qo:k * 2 = n:=by omega
  rcases hH with ⟨rfl,rfl⟩ | ⟨rfl,rfl⟩ | ⟨rfl,rfl⟩
  all_goals
   simp [k0,k4,k5,qq,h16,vD,ZA,Qo];exact ⟨out,by omega,by omega,hp,by rw [ZA]⟩
def j6 (b:List UInt8):Bool:=decide (j8 b = 0)
def ZH:List (List UInt8)→List Nat→List D
 | n :: fl,p :: ps=>.str n :: (Enc.cells (vW n).1 ++ .optr p 5 0 :: ZH fl ps)
 | _,_=>[]
theorem qjA:∀ (fl:List (List UInt8)) (ps:List Nat) (n:List UInt8) (p:Nat),fl.length = ps.length→ZH (fl ++ [n]) (ps ++ [p]) = ZH fl ps ++ (.str n :: (Enc.cells (vW n).1 ++ [.optr p 5 0]))
 | [],[],n,p,_=>rfl
 | a :: fl,b :: ps,n,p,h=>by
  simp only [Jx,ZH,qjA fl ps n p (by simpa using h),ZT]
 | [],_ :: _,_,_,h=>by simp at h
 | _ :: _,[],_,_,h=>by simp at h
theorem qbn:∀ (fl:List (List UInt8)) (ps:List Nat),fl.length = ps.length→(ZH fl ps).length = fl.length * 21
 | [],[],_=>rfl
 | a :: fl,b :: ps,h=>by
  have ih:=qbn fl ps (by simpa using h);have hc:(Enc.cells (vW a).1:List D).length = 19:=by simp
  simp only [ZH,ju,qX,ih,hc];omega
 | [],_ :: _,h=>by simp at h
 | _ :: _,[],h=>by simp at h
theorem qfI:∀ (fl:List (List UInt8)) (ps:List Nat) (i:Nat) (n:List UInt8) (p:Nat),fl.length = ps.length→fl[i]? = some n→ps[i]? = some p→∃ r,List.drop (i * 21) (ZH fl ps) = .str n :: (Enc.cells (vW n).1 ++ .optr p 5 0 :: r)
 | [],_,i,n,p,_,h,_=>by simp at h
 | a :: fl,b :: ps,0,n,p,_,h1,h2=>by
  simp only [Qh,qs] at h1 h2;subst h1;subst h2;exact ⟨_,rfl⟩
 | a :: fl,b :: ps,i+1,n,p,h,h1,h2=>by
  obtain ⟨r,hr⟩:=qfI fl ps i n p (by simpa using h) (by simpa using h1) (by simpa using h2);refine ⟨r,?_⟩;have hc:(Enc.cells (vW a).1:List D).length = 19:=by simp
  have e:(i+1) * 21 = i * 21+21:=by omega
  have e2:ZH (a :: fl) (b :: ps) = (.str a :: (Enc.cells (vW a).1 ++ [.optr b 5 0])) ++ ZH fl ps:=by simp [ZH]
  rw [e2,e,Nat.add_comm,← kA,VH (by simp),hr]
 | _ :: _,[],_,_,_,h,_,_=>by simp at h
theorem qd8 (H:qd) (a b:List D):ql (qo H a) H.length b = qo H b:=by simp [ql,qo]
structure DirI (H:qd) (s:Fs) (N:List (List UInt8)) (i:Nat) (K:qd) (ps:List Nat) (oD hD:D) (Lo Lh:List Nat):Prop where
 ext:Ext [] H K
 pl:((N.take i).filter (vX (zu s) j6)).length = ps.length
 oR:RowA K 21 oD (ZH ((N.take i).filter (vX (zu s) j6)) ps) Lo
 hR:RowA K 1 hD (zZ ((N.take i).filter (vw (zu s) j6))) Lh
 file:∀ (j:Nat) (n:List UInt8) (p:Nat),((N.take i).filter (vX (zu s) j6))[j]? = some n→ps[j]? = some p→qe K p = some (ZI (zu s n))
 oN:∀ j,j∈Lo→H.length≤j∧j ∉ Lh∧j ∉ ps
 hN:∀ j,j∈Lh→H.length≤j∧j ∉ ps
 pN:∀ j,j∈ps→j < K.length
section
variable {H K:qd} {s:Fs} {N:List (List UInt8)} {i:Nat} {ps:List Nat} {oD hD:D} {Lo Lh:List Nat} {n:List UInt8}
theorem DirI.skip (I:DirI H s N i K ps oD hD Lo Lh) (ht:N.take (i+1) = N.take i ++ [n]) (h1:vX (zu s) j6 n = false) (h2:vw (zu s) j6 n = false) {T:qd} (x:Ext [] K T):DirI H s N (i+1) T ps oD hD Lo Lh:=by
 have e1:(N.take (i+1)).filter (vX (zu s) j6) = (N.take i).filter (vX (zu s) j6):=by rw [ht,List.filter_append];simp [h1]
 have e2:(N.take (i+1)).filter (vw (zu s) j6) = (N.take i).filter (vw (zu s) j6):=by rw [ht,List.filter_append];simp [h2]
 exact ⟨I.ext.trans x (NewL.refl _ _),by rw [e1];exact I.pl,by rw [e1];exact I.oR.ext x (fun _ _=>by simp),by rw [e2];exact I.hR.ext x (fun _ _=>by simp),fun j n p hj hp=>x.get (I.file j n p (by rw [e1] at hj;exact hj) hp) (by simp),I.oN,I.hN,fun j hj=>x.lt (I.pN j hj)⟩
theorem DirI.other (I:DirI H s N i K ps oD hD Lo Lh) (ht:N.take (i+1) = N.take i ++ [n]) (h1:vX (zu s) j6 n = false) (h2:vw (zu s) j6 n = true) {K2 T:qd} {hD':D} {Lh':List Nat} (x2:Ext [] K K2)
  (hR:RowA T 1 hD' (zZ ((N.take i).filter (vw (zu s) j6)) ++ [.str n]) Lh') (x:Ext Lh K2 T) (nl:NewL Lh Lh' K2.length):DirI H s N (i+1) T ps oD hD' Lo Lh':=by
 have e1:(N.take (i+1)).filter (vX (zu s) j6) = (N.take i).filter (vX (zu s) j6):=by rw [ht,List.filter_append];simp [h1]
 have e2:(N.take (i+1)).filter (vw (zu s) j6) = (N.take i).filter (vw (zu s) j6) ++ [n]:=by rw [ht,List.filter_append];simp [h2]
 have l2:=x2.len;have lH:=I.ext.len;have loK:∀ j,j∈Lo→j < K.length:=fun j hj=>I.oR.lt hj;refine ⟨(I.ext.trans x2 (NewL.refl _ _)).trans x (fun j hj=>.inr (I.hN j hj).1),by rw [e1];exact I.pl,?_,?_,fun j n p hj hp=>?_,fun j hj=>?_,fun j hj=>?_,fun j hj=>x.lt (x2.lt (I.pN j hj))⟩
 ·rw [e1];exact (I.oR.ext x2 (fun _ _=>by simp)).ext x (fun j hj hc=>(I.oN j hj).2.1 hc)
 ·rw [e2];have:zZ ((N.take i).filter (vw (zu s) j6) ++ [n]) = zZ ((N.take i).filter (vw (zu s) j6)) ++ [.str n]:=by simp [zZ]
  rw [this];exact hR
 ·have Qm:=ZS hp;exact x.get (x2.get (I.file j n p (by rw [e1] at hj;exact hj) hp) (by simp)) (fun hc=>(I.hN p hc).2 Qm)
 ·refine ⟨(I.oN j hj).1,fun hc=>?_,(I.oN j hj).2.2⟩;rcases nl j hc with h | h
  ·exact (I.oN j hj).2.1 h
  ·have:=loK j hj;omega
 ·rcases nl j hj with h | h
  ·exact I.hN j h
  ·exact ⟨by omega,fun hc=>by have:=I.pN j hc;omega⟩
theorem DirI.found (I:DirI H s N i K ps oD hD Lo Lh) (ht:N.take (i+1) = N.take i ++ [n]) (h1:vX (zu s) j6 n = true) (h2:vw (zu s) j6 n = false) {K2 T:qd} {p:Nat} {oD':D} {Lo':List Nat} (x2:Ext [] K K2)
  (hp:qe K2 p = some (ZI (zu s n))) (Vh:K.length≤p) (hR:RowA T 21 oD' (ZH ((N.take i).filter (vX (zu s) j6)) ps ++ (.str n :: (Enc.cells (vW n).1 ++ [.optr p 5 0]))) Lo') (x:Ext Lo K2 T) (nl:NewL Lo Lo' K2.length):DirI H s N (i+1) T (ps ++ [p]) oD' hD Lo' Lh:=by
 have e1:(N.take (i+1)).filter (vX (zu s) j6) = (N.take i).filter (vX (zu s) j6) ++ [n]:=by rw [ht,List.filter_append];simp [h1]
 have e2:(N.take (i+1)).filter (vw (zu s) j6) = (N.take i).filter (vw (zu s) j6):=by rw [ht,List.filter_append];simp [h2]
 have l2:=x2.len;have lH:=I.ext.len;have loK:∀ j,j∈Lo→j < K.length:=fun j hj=>I.oR.lt hj;have lhK:∀ j,j∈Lh→j < K.length:=fun j hj=>I.hR.lt hj;have vE:=qt hp;refine ⟨(I.ext.trans x2 (NewL.refl _ _)).trans x (fun j hj=>.inr (I.oN j hj).1),by rw [e1,qX,qX,I.pl];rfl,?_,?_,fun j m r hj hr=>?_,fun j hj=>?_,fun j hj=>?_,fun j hj=>?_⟩
 ·rw [e1,qjA _ _ _ _ I.pl];exact hR
 ·rw [e2];exact (I.hR.ext x2 (fun _ _=>by simp)).ext x (fun j hj hc=>(I.oN j hc).2.1 hj)
 ·rw [e1] at hj;by_cases zm:j < ps.length
  ·rw [jX (by rw [I.pl];exact zm)] at hj;rw [jX zm] at hr;have Qm:=ZS hr;exact x.get (x2.get (I.file j m r hj hr) (by simp)) (fun hc=>(I.oN r hc).2.2 Qm)
  ·rw [ku (by rw [I.pl];omega),I.pl] at hj;rw [ku (by omega)] at hr
   have h0:j - ps.length = 0:=by
    have:=(List.getElem?_eq_some_iff.1 hr).1;simp at this;omega
   rw [h0] at hj hr;simp only [Qh,qs] at hj hr;subst hj;subst hr;exact x.get hp (fun hc=>by have:=loK _ hc;omega)
 ·rcases nl j hj with h | h
  ·have h3:=I.oN j h;have:=loK j h;refine ⟨h3.1,h3.2.1,fun hc=>?_⟩;rcases List.mem_append.1 hc with h4 | h4
   ·exact h3.2.2 h4
   ·have:=List.mem_singleton.1 h4;omega
  ·refine ⟨by omega,fun hc=>by have:=lhK j hc;omega,fun hc=>?_⟩;rcases List.mem_append.1 hc with h4 | h4
   ·have:=I.pN j h4;omega
   ·have:=List.mem_singleton.1 h4;omega
 ·refine ⟨(I.hN j hj).1,fun hc=>?_⟩;rcases List.mem_append.1 hc with h4 | h4
  ·exact (I.hN j hj).2 h4
  ·have:=List.mem_singleton.1 h4;have:=lhK j hj;omega
 ·rcases List.mem_append.1 hj with h4 | h4
  ·exact x.lt (x2.lt (I.pN j h4))
  ·have:=List.mem_singleton.1 h4;have:=x.len;omega
end
def qkm (H:qd) (q:Nat) (s:Fs) (N:List (List UInt8)) (nl:Bool) (i:Nat) (e:qn) (K:qd):Prop :=
 i≤N.length∧qg e 0 = some (.optr q 5 0)∧qg e 18 = some (.vsl nl (zZ N) N.length)∧qg e 19 = some (.int .i64 N.length)∧qg e 20 = some (.int .i64 i)∧∃ ps oD hD Lo Lh,qg e 5 = some oD∧qg e 6 = some hD∧DirI H s N i K ps oD hD Lo Lh
set_option maxHeartbeats 8000000 in
set_option maxRecDepth 10000 in
theorem qkl [MaxL] {H:qd} {q:Nat} {s:Fs} {v:FSv} (W:FSw H q s v) (YD:s.off = false) (hn:s.nodes.length < 1000) (hb:∀ n,n∈s.nodes→n.b.l.length≤1000000) (vF:∀ n,n∈v8 s→n.length≤1000) :
  ∃ T ps oD hD Lo Lh,call cx 9 [.optr q 5 0] H = some (.tup [oD,hD,.int .i64 0],T)∧DirI H s (jn (v8 s)) (jn (v8 s)).length T ps oD hD Lo Lh:=by
 suffices hs:∃ r,call cx 9 [.optr q 5 0] H = some r∧∃ (T:qd) (ps:List Nat) (oD hD:D) (Lo Lh:List Nat),r = (.tup [oD,hD,.int .i64 0],T)∧DirI H s (jn (v8 s)) (jn (v8 s)).length T ps oD hD Lo Lh by
  obtain ⟨r,hc,T,ps,oD,hD,Lo,Lh,rfl,h1⟩:=hs;exact ⟨T,ps,oD,hD,Lo,Lh,hc,h1⟩
 refine Zt (X:=cx) (f:=9) _ Tryz.func9 rfl ⟨rfl,rfl⟩ ?_;have Zk:=qj4 W;rw [YD] at Zk;obtain ⟨K1,nl,hnames,x1,zq⟩:=qtF W (by omega);obtain ⟨N,hN⟩:∃ N,N = jn (v8 s):=⟨_,rfl⟩;have hNl:(v8 s).length = N.length:=by rw [hN];simp
 have hNb:N.length≤1000:=by
  rw [← hNl];unfold v8;rw [YD];simp only [kB,if_false,List.length_map];exact jA (List.length_filter_le _ _) (by omega)
 have hNn:∀ n,n∈N→n.length≤1000:=fun n h=>vF n (sortL_mem.1 (hN ▸ h));rw [← hN,hNl] at hnames;rw [← hN];simp [-qe,-ql,-qo,-qM,Tryz.f9,Zk,hnames];refine KB (qkm H q s N nl) (fun i=>N.length - i) 0 (fun ex e K=>ex = .exit 0∧qkm H q s N nl N.length e K) ?_ ?_ ?_
 ·exact ⟨vf _,by simp,by simp,by simp,by simp,[],.vsl true [] 0,.vsl true [] 0,[],[],by simp,by simp,x1,rfl,RowA.nil _ _,RowA.nil _ _,fun j n p h=>by simp at h,fun j hj=>by simp at hj,fun j hj=>by simp at hj,fun j hj=>by simp at hj⟩
 ·rintro i e K ⟨hi,p0,p18,p19,p20,ps,oD,hD,Lo,Lh,p5,p6,I⟩;by_cases qi:i < N.length
  ·have qq:(i:Int) < (N.length:Int):=(by omega);have hw:IntKind.i64.wrap ((i:Int)+1) = ((i+1:Nat):Int):=by rw [wrap_i64] <;> omega
   have jZ:nl = false:=by
    cases jO:nl with
    | false=>rfl
    | true =>
     have h0:=zq jO;rw [h0] at hNl;simp at hNl;omega
   subst jZ;obtain ⟨n,hnd⟩:∃ n,N[i] = n:=⟨_,rfl⟩
   have zC:List.drop i (zZ N) = .str n :: zZ (N.drop (i+1)):=by
    unfold zZ;rw [← List.map_drop,vR qi,hnd];rfl
   have hnl1:n.length≤1000:=hNn n (hnd ▸ vQ qi);have htake:N.take (i+1) = N.take i ++ [n]:=(by rw [← hnd];exact List.take_succ_eq_append_getElem qi);have YB:=qn6 n (by omega);obtain ⟨inf,Q2⟩:∃ x,x = (vW n).1:=⟨_,rfl⟩;rw [← Q2] at YB;obtain ⟨cr,hcr⟩:∃ cr:List D,(Enc.cells inf:List D) = .int .i64 inf.kind :: cr:=⟨_,rfl⟩;rw [hcr] at YB
   have lcr:cr.length = 18:=by
    have:(Enc.cells inf:List D).length = 19:=(by simp);rw [hcr] at this;simpa using this
   have fcr:cr.all idFree = true:=by
    have:=Enc.free inf;rw [hcr] at this;simpa [idFree] using this
   have ccr:∀ m,(∀ x,x∈cr→closed m x = true) = True:=fun m=>eq_true fun x hx=>KH x (List.all_eq_true.1 fcr x hx);have fcrL:idFree.idFreeL cr = true:=(by rw [kO];exact fcr);have tcr:List.take 18 cr = cr:=qP (by omega);obtain ⟨Ka,ky⟩:∃ T,qo K (.int .i64 inf.kind :: cr) = T:=⟨_,rfl⟩;have xa:Ext [] K Ka:=ky ▸ Ext.new K _;have ga:qe Ka K.length = some (.int .i64 inf.kind :: cr):=(by rw [← ky,qN]);have Wa:=(W.ext I.ext (fun _ _=>by simp)).ext xa (fun _ _=>by simp);obtain ⟨Kb,nb,jH,xb,V8⟩:=qtK Wa (by omega) hb n (by omega);obtain ⟨A,hA⟩:∃ A,A = zu s n:=⟨_,rfl⟩;rw [← hA] at jH V8
   have hAl:A.length≤1000000:=by
    rw [hA];unfold zu;split
    ·simp
    ·cases KU:(ve s.nodes n).bind (s.nodes[·]?) with
     | none=>simp
     | some x =>
      simp only;cases hf:ve s.nodes n with
      | none=>rw [hf] at KU;simp at KU
      | some j =>
       rw [hf] at KU;exact hb x (ZS KU)
   have hopen:=qry ⟨nb,A,V8⟩ hAl;replace hopen:call cx 34 [.vsl nb (qf A) A.length] [] = if j8 A = 0 then some (.tup [.optr 0 5 0,.int .i64 0],[some (ZI A)]) else some (.tup [.nilp,.int .i64 (j8 A:Nat)],[]):=hopen;have gb:qe Kb K.length = some (.int .i64 inf.kind :: cr):=xb.get ga (by simp);cases hp:(vW n).2 with
   | false =>
    rw [hp] at YB;simp [-qe,-ql,-qo,-qM,p0,p5,p6,p18,p19,p20,qq,zC,YB,qN,qd8,fcrL,ccr,lcr,ky,hw];exact ⟨i+1,by omega,by omega,by simp,by simp,by simp,by simp,ps,oD,hD,Lo,Lh,by simp,by simp,I.skip htake (by simp [vX,hp]) (by simp [vw,hp]) xa⟩
   | true =>
    rw [hp] at YB;by_cases h4:inf.kind = 4
    ·have YU:(inf.kind == 4) = true:=(by rw [h4];rfl);have h4p:=eq_true h4;simp [-qe,-ql,-qo,-qM,p0,p5,p6,p18,p19,p20,qq,zC,YB,qN,qd8,fcrL,ccr,lcr,ky,ga,hw,YU];rw [Q2] at h4;exact ⟨i+1,by omega,by omega,by simp,by simp,by simp,by simp,ps,oD,hD,Lo,Lh,by simp,by simp,I.skip htake (by simp [vX,h4]) (by simp [vw,h4]) xa⟩
    ·have YU:(inf.kind == 4) = false:=(by simp [h4]);have h4p:=eq_false h4;by_cases hc:j8 A = 0
     ·rw [if_pos hc] at hopen;obtain ⟨Kc,QT⟩:∃ T:qd,Kb ++ [some (ZI A)] = T:=⟨_,rfl⟩;have hKc':qo Kb (ZI A) = Kc:=QT;have xc:Ext [] Kb Kc:=hKc' ▸ Ext.new Kb _;have gc:qe Kc K.length = some (.int .i64 inf.kind :: cr):=xc.get gb (by simp);have gf:qe Kc Kb.length = some (ZI A):=(by rw [← hKc',qN]);have lKb:=xa.len;have lKc:=xb.len;have lKd:Kc.length = Kb.length+1:=(by rw [← hKc',zG]);obtain ⟨fc,hfc⟩:∃ c:List D,c = .str n :: .int .i64 inf.kind :: (cr ++ [.optr Kb.length 5 0]):=⟨_,rfl⟩;have lfc:fc.length = 21:=(by rw [hfc];simp [lcr]);have tfc:List.take 21 fc = fc:=qP (by omega)
      have cfc:(∀ x,x∈fc→closed Kc.length x = true) = True:=eq_true fun x hx=>by
       rw [hfc] at hx;simp only [zA,ji,List.not_mem_nil,or_false] at hx;rcases hx with rfl | rfl | hx | rfl
       ·rfl
       ·rfl
       ·exact KH x (List.all_eq_true.1 fcr x hx)
       ·simp [closed];omega
      obtain ⟨Kd,hKd⟩:∃ T,qo Kc fc = T:=⟨_,rfl⟩;have xd:Ext [] Kc Kd:=hKd ▸ Ext.new Kc _;have gd:qe Kd Kc.length = some fc:=(by rw [← hKd,qN]);have e19:List.drop 19 (cr ++ [D.nilp]) = []:=(by simp [lcr]);have hKcne:Kc≠[]:=fun e0=>by rw [e0] at lKd;simp at lKd
      have x4:=((xa.trans xb (NewL.refl _ _)).trans xc (NewL.refl _ _)).trans xd (NewL.refl _ _);have Zq:=qbn _ _ I.pl;have hfil:((N.take i).filter (vX (zu s) j6)).length≤1000:=jA (List.length_filter_le _ _) (by rw [kt];omega);obtain ⟨oD',Ke,Lo',hAe,hRe,xe,ne⟩:=(I.oR.ext x4 (fun _ _=>by simp)).append (P:=Tryz.prog) (st:=36) (xt:=36) (e:=42) (x:=.osl Kc.length 21 0 1 21) (xs:=fc) (m:=1) (by simp) (by simp) (by simp [-qe,gd,lfc,tfc]) (by simp) (by omega) (by rw [lfc]) (by omega) (by rw [Zq];simp [qw];omega) (by rw [Zq];simp [qw];omega);simp [-qe,-ql,-qo,-qM,p0,p5,p6,p18,p19,p20,qq,zC,YB,qN,qd8,fcrL,ccr,lcr,ky,ga,hw,YU,jH,hopen,tcr,QT,gc,← hfc,lfc,hKd,hKcne,hAe,e19];have hfc2:fc = .str n :: (Enc.cells (vW n).1 ++ [.optr Kb.length 5 0]):=(by rw [← Q2,hcr,hfc];rfl);rw [hfc2] at hRe;exact ⟨i+1,by omega,by omega,by simp,by simp,by simp,by simp,ps ++ [Kb.length],oD',hD,Lo',Lh,by simp,by simp,I.found htake (by simp [vX,hp,← Q2,h4,j6,← hA,hc]) (by simp [vw,hp,← Q2,h4,j6,← hA,hc]) x4 (by rw [← hA];exact xd.get gf (by simp)) (by omega) hRe xe ne⟩
     ·rw [if_neg hc] at hopen;have VZ:((j8 A:Int) != 0) = true:=(by simp;omega);obtain ⟨Kc,QT⟩:∃ T,qo Kb [.str n] = T:=⟨_,rfl⟩;have xc:Ext [] Kb Kc:=QT ▸ Ext.new Kb _;have gc:qe Kc Kb.length = some [.str n]:=(by rw [← QT,qN]);have x4:=(xa.trans xb (NewL.refl _ _)).trans xc (NewL.refl _ _);have hfil:((N.take i).filter (vw (zu s) j6)).length≤1000:=jA (List.length_filter_le _ _) (by rw [kt];omega);obtain ⟨hD',Ke,Lh',hAe,hRe,xe,ne⟩:=(I.hR.ext x4 (fun _ _=>by simp)).append (P:=Tryz.prog) (st:=37) (xt:=37) (e:=9) (x:=.osl Kb.length 1 0 1 1) (xs:=[.str n]) (m:=1) (by simp) (by simp) (by simp [-qe,gc]) (by simp) (by omega) (by simp) (by omega) (by simp [qw];omega) (by simp [qw];omega);simp [-qe,-ql,-qo,-qM,p0,p5,p6,p18,p19,p20,qq,zC,YB,qN,qd8,fcrL,ccr,lcr,ky,ga,hw,YU,jH,hopen,VZ,QT,hAe];exact ⟨i+1,by omega,by omega,by simp,by simp,by simp,by simp,ps,oD,hD',Lo,Lh',by simp,by simp,I.other htake (by simp [vX,hp,← Q2,h4,j6,← hA,hc]) (by simp [vw,hp,← Q2,h4,j6,← hA,hc]) x4 hRe xe ne⟩
  ·have qq:¬ (i:Int) < (N.length:Int):=(by omega);have Q3:i = N.length:=(by omega);subst Q3;simp [-qe,-ql,-qo,-qM,p0,p5,p6,p18,p19,p20,qq];exact ⟨qv _,by simp,by simp,by simp,by simp,ps,oD,hD,Lo,Lh,by simp,by simp,I⟩
 ·rintro ex e K ⟨rfl,-,p0,p18,p19,p20,ps,oD,hD,Lo,Lh,p5,p6,I⟩;simp [-qe,-ql,-qo,-qM,p5,p6];exact ⟨_,ps,_,_,⟨⟨rfl,rfl⟩,rfl⟩,Lo,Lh,I⟩
end Go.Ev.S
namespace Go.Ev.S
open Go Go.Proofs Go.Ev
theorem JV [MaxL] [TxtC] {x r:Int} {k:Nat} (hk:k < 32) (e:ja x k = r) {kk:Int} (KQ:kk = k):call cx 162 [.int .u32 x,.int .u64 kk] [] = some (.int .u32 r,[]):=by
 rw [KQ,← e];have zp:IntKind.u64.wrap (32 - (k:Int)) = ((32 - k:Nat):Int):=by rw [qF] <;> omega
 have m1:min k 32 = k:=by omega
 have hn:¬ (k:Int) < 0:=by omega
 refine qA Tryz.func162 rfl ⟨rfl,rfl⟩ ?_;unfold ja;obtain ⟨j,hj⟩:∃ j,j = 32 - k:=⟨_,rfl⟩;rw [← hj] at zp ⊢;have m2:min j 32 = j:=by omega
 have jO:¬ (j:Int) < 0:=by omega
 simp [Tryz.f162,zp,IntKind.bits,m1,m2,hn,jO]
theorem bits32:2 ^ IntKind.u32.bits = 4294967296:=by simp only [IntKind.bits]
theorem qlu (x y:Nat) (hy:y < 256) (hx:x * 256+y < 4294967296):Z1 .u32 ((x:Int) * 256) (y:Int) = ((x * 256+y:Nat):Int):=by
 have e3:x * 256 < 2 ^ IntKind.u32.bits:=Nat.lt_of_lt_of_eq (Nat.lt_of_le_of_lt (Nat.le_add_right _ _) hx) bits32.symm;have e4:y < 2 ^ IntKind.u32.bits:=Nat.lt_of_lt_of_eq (jr hy (by decide)) bits32.symm;have e1:(x:Int) * 256 = ((x * 256:Nat):Int):=by omega
 rw [e1,qfb rfl e3 e4,qhX x y hy]
set_option maxHeartbeats 1000000 in
theorem Yi [MaxL] [TxtC] (nl:Bool) (l:List UInt8) (zq:nl = true→l = []) (a:Nat) (ha:a < 5611686018427387904) (_:l.length < 4611686018427387904) {at_:Int} (zC:at_ = a):call cx 161 [.vsl nl (qf l) l.length,.int .i64 at_] [] = some (.int .u32 (jS l a:Nat),[]):=by
 subst zC;refine qA Tryz.func161 rfl ⟨rfl,rfl⟩ ?_;simp [Tryz.f161];refine Run.loopThen (fun (k:Nat) e H=>k≤4∧H = []∧qg e 0 = some (.vsl nl (qf l) l.length)∧qg e 1 = some (.int .i64 a)∧qg e 5 = some (.int .u32 (vi ((l.drop (a+k)).take (4 - k)):Nat))∧qg e 6 = some (.int .i64 ((k:Int) - 1))) (fun k=>k) 4 (by simp [vi]) ?_;rintro k e H ⟨hk,rfl,h0,h1,h5,h6⟩;cases k with
 | zero =>
  simp [h0,h1,h5,h6];rfl
 | succ j =>
  have hj:(0:Int)≤(j:Int):=by omega
  have e1:((j+1:Nat):Int) - 1 = (j:Int):=by omega
  rw [e1] at h6;have Y4:IntKind.i64.wrap ((j:Int) - 1) = (j:Int) - 1:=by rw [wrap_i64];omega
  have hwj:IntKind.i64.wrap ((a:Int)+(j:Int)) = ((a+j:Nat):Int):=by rw [wrap_i64] <;> omega
  have hp8:(2:Int) ^ min 8 IntKind.u32.bits = 256:=by decide
  have hn8:vi ((l.drop (a+(j+1))).take (4 - (j+1))) < 256 ^ 3:=by
   refine jr (qbd _) (qb6 (by decide) ?_);rw [kt];omega
  obtain ⟨v,hv⟩:∃ v,vi ((l.drop (a+(j+1))).take (4 - (j+1))) = v:=⟨_,rfl⟩;rw [hv] at h5 hn8;have hwv:IntKind.u32.wrap ((v:Int) * 256) = (v:Int) * 256:=by rw [qaI] <;> omega
  by_cases qi:a+j < l.length
  ·have qq:((a+j:Nat):Int) < (l.length:Int):=by omega
   have jb:nl = false:=by
    cases hq:nl with
    | false=>rfl
    | true=>rw [zq hq] at qi;simp at qi
   have hd:(l.drop (a+j)).take (4 - j) = l[a+j] :: (l.drop (a+(j+1))).take (4 - (j+1)):=by
    rw [vR qi,show 4 - j = (4 - (j+1))+1 by omega,List.take_succ_cons,qel]
   have hb:=l[a+j].toNat_lt;have hst:=qlu v l[a+j].toNat hb (by omega);have hwu:IntKind.u32.wrap (l[a+j].toNat:Int) = (l[a+j].toNat:Int):=(by rw [qaI];omega);have g1:(0:Int)≤(a:Int)+(j:Int):=(by omega);have g2:(a:Int)+(j:Int) < (l.length:Int):=(by omega);have g3:((a:Int)+(j:Int)).toNat = a+j:=(by omega);have zC:=jK qi;simp [h0,h1,h5,h6,hj,hwj,Y4,hwu,jb,g1,g2,g3,zC,hp8,hwv,hst];exact ⟨j,by omega,by omega,by rw [hd,vi,hv];omega,rfl⟩
  ·have qq:¬ ((a+j:Nat):Int) < (l.length:Int):=(by omega);have g2:¬ (a:Int)+(j:Int) < (l.length:Int):=by omega
   have hv0:v = 0:=by
    rw [← hv,JS (by omega)];simp [vi]
   subst hv0;simp [h0,h1,h5,h6,hj,hwj,Y4,g2,hp8];exact ⟨j,by omega,by omega,by rw [JS (by omega)];simp [vi],rfl⟩
theorem qg3 (l:List UInt8) (a k:Nat):jS (l.drop a) k = jS l (a+k):=by
 unfold jS;rw [kA]
set_option maxHeartbeats 4000000 in
set_option maxRecDepth 4000 in
theorem qh4 [MaxL] [TxtC] (s:Sl UInt8) (hs:s.l.length < 4611686018427387904):call cx 117 [(.vsl s.nil (qf s.l) s.l.length)] [] = some (.int .u64 (qca s.l),[]):=by
 refine qA Tryz.func117 rfl ⟨rfl,rfl⟩ ?_;have hN:qca s.l = V3 s.l (vr 3735928559 (IntKind.u32.wrap (s.l.length:Nat)),vr 3735928559 (IntKind.u32.wrap (s.l.length:Nat)),vr 3735928559 (IntKind.u32.wrap (s.l.length:Nat))):=rfl;obtain ⟨n,hn⟩:∃ n,IntKind.u32.wrap (3735928559+IntKind.u32.wrap (s.l.length:Nat)) = n:=⟨_,rfl⟩;have jO:vr 3735928559 (IntKind.u32.wrap (s.l.length:Nat)) = n:=hn;rw [jO] at hN;clear jO;have hp64:(2:Int) ^ min 32 IntKind.u64.bits = 4294967296:=by decide
 generalize qca s.l = res at *;by_cases h0:s.l.length = 0
 ·have j9:(s.l.length:Int) = 0:=by omega
  rw [qi9 h0] at hN;subst hN;rw [h0] at hn;replace hn:IntKind.u32.wrap (3735928559+IntKind.u32.wrap (0:Int)) = n:=hn;have Qb:n = 3735928559:=by rw [← hn];decide
  subst Qb;simp [Tryz.f117,h0,qa0,hp64]
 have j9:¬ (s.l.length:Int) = 0:=by omega
 simp [Tryz.f117,hn,h0];refine Run.loopThen (fun (q:Nat × Int × Int × Int) e H'=>q.1 < s.l.length∧V3 (s.l.drop q.1) q.2 = res∧qg e 0 = some (.vsl s.nil (qf s.l) s.l.length)∧qg e 3 = some (.int .u32 q.2.1)∧qg e 4 = some (.int .u32 q.2.2.1)∧qg e 5 = some (.int .u32 q.2.2.2)∧qg e 6 = some (.int .i64 q.1)∧H' = []) (fun q=>s.l.length - q.1) (0,n,n,n) ?_ ?_
 ·simp [hN];omega
 rintro ⟨at_,x,y,z⟩ e H' ⟨zC,hR,k0,k3,k4,k5,k6,rfl⟩;simp only at zC hR k3 k4 k5 k6;have hsub:IntKind.i64.wrap ((s.l.length:Int) - (at_:Int)) = ((s.l.length - at_:Nat):Int):=by rw [wrap_i64] <;> omega
 have kG:(s.l.drop at_).length = s.l.length - at_:=Zb
 by_cases jV:12 < s.l.length - at_
 ·have h12':(12:Int) < ((s.l.length - at_:Nat):Int):=by omega
  rw [qiA (by omega),kA] at hR;have w0:=Yi s.nil s.l s.h (at_+0) (by omega) hs (at_:=(at_:Int)) (by omega);obtain ⟨x0,p0⟩:∃ v,vr x (jS s.l (at_+0):Nat) = v:=⟨_,rfl⟩;have w4:=Yi s.nil s.l s.h (at_+4) (by omega) hs (at_:=(at_:Int)+4) (by omega);obtain ⟨y0,p4⟩:∃ v,vr y (jS s.l (at_+4):Nat) = v:=⟨_,rfl⟩;have w8:=Yi s.nil s.l s.h (at_+8) (by omega) hs (at_:=(at_:Int)+8) (by omega);obtain ⟨z0,p8⟩:∃ v,vr z (jS s.l (at_+8):Nat) = v:=⟨_,rfl⟩;have ha:XY (s.l.drop at_) (x,y,z) = (x0,y0,z0):=by simp only [XY,qg3,p0,p4,p8]
  have c0:IntKind.u32.wrap (x+(jS s.l (at_+0):Nat)) = x0:=p0;generalize jS s.l (at_+0) = u0 at *;have c4:IntKind.u32.wrap (y+(jS s.l (at_+4):Nat)) = y0:=p4;generalize jS s.l (at_+4) = u4 at *;have c8:IntKind.u32.wrap (z+(jS s.l (at_+8):Nat)) = z0:=p8;generalize jS s.l (at_+8) = u8 at *;clear p0 p4 p8;have i4:IntKind.i64.wrap ((at_:Int)+4) = (at_:Int)+4:=by rw [wrap_i64] <;> omega
  have i8:IntKind.i64.wrap ((at_:Int)+8) = (at_:Int)+8:=by rw [wrap_i64] <;> omega
  rw [ha] at hR;obtain ⟨a1,h1⟩:∃ v,jB x0 z0 = v:=⟨_,rfl⟩;have e0:IntKind.u32.wrap (x0 - z0) = a1:=h1;obtain ⟨r0,q0⟩:∃ v,ja z0 4 = v:=⟨_,rfl⟩;have e1:=JV (by omega) q0 (kk:=4) rfl;obtain ⟨x1,f0⟩:∃ v,zi .u32 a1 r0 = v:=⟨_,rfl⟩;have h2:zi .u32 a1 (ja z0 4) = x1:=by rw [q0];exact f0
  obtain ⟨z1,h3⟩:∃ v,vr z0 y0 = v:=⟨_,rfl⟩;have e2:IntKind.u32.wrap (z0+y0) = z1:=h3;obtain ⟨a2,h4⟩:∃ v,jB y0 x1 = v:=⟨_,rfl⟩;have e3:IntKind.u32.wrap (y0 - x1) = a2:=h4;obtain ⟨r1,q1⟩:∃ v,ja x1 6 = v:=⟨_,rfl⟩;have e4:=JV (by omega) q1 (kk:=6) rfl;obtain ⟨y1,f1⟩:∃ v,zi .u32 a2 r1 = v:=⟨_,rfl⟩;have h5:zi .u32 a2 (ja x1 6) = y1:=by rw [q1];exact f1
  obtain ⟨x2,h6⟩:∃ v,vr x1 z1 = v:=⟨_,rfl⟩;have e5:IntKind.u32.wrap (x1+z1) = x2:=h6;obtain ⟨a3,h7⟩:∃ v,jB z1 y1 = v:=⟨_,rfl⟩;have e6:IntKind.u32.wrap (z1 - y1) = a3:=h7;obtain ⟨r2,q2⟩:∃ v,ja y1 8 = v:=⟨_,rfl⟩;have e7:=JV (by omega) q2 (kk:=8) rfl;obtain ⟨z2,f2⟩:∃ v,zi .u32 a3 r2 = v:=⟨_,rfl⟩;have h8:zi .u32 a3 (ja y1 8) = z2:=by rw [q2];exact f2
  obtain ⟨y2,h9⟩:∃ v,vr y1 x2 = v:=⟨_,rfl⟩;have e8:IntKind.u32.wrap (y1+x2) = y2:=h9;obtain ⟨a4,g1⟩:∃ v,jB x2 z2 = v:=⟨_,rfl⟩;have e9:IntKind.u32.wrap (x2 - z2) = a4:=g1;obtain ⟨r3,q3⟩:∃ v,ja z2 16 = v:=⟨_,rfl⟩;have e10:=JV (by omega) q3 (kk:=16) rfl;obtain ⟨x3,f3⟩:∃ v,zi .u32 a4 r3 = v:=⟨_,rfl⟩;have g2:zi .u32 a4 (ja z2 16) = x3:=by rw [q3];exact f3
  obtain ⟨z3,g3⟩:∃ v,vr z2 y2 = v:=⟨_,rfl⟩;have e11:IntKind.u32.wrap (z2+y2) = z3:=g3;obtain ⟨a5,g4⟩:∃ v,jB y2 x3 = v:=⟨_,rfl⟩;have e12:IntKind.u32.wrap (y2 - x3) = a5:=g4;obtain ⟨r4,q4⟩:∃ v,ja x3 19 = v:=⟨_,rfl⟩;have e13:=JV (by omega) q4 (kk:=19) rfl;obtain ⟨y3,f4⟩:∃ v,zi .u32 a5 r4 = v:=⟨_,rfl⟩;have g5:zi .u32 a5 (ja x3 19) = y3:=by rw [q4];exact f4
  obtain ⟨x4,g6⟩:∃ v,vr x3 z3 = v:=⟨_,rfl⟩;have e14:IntKind.u32.wrap (x3+z3) = x4:=g6;obtain ⟨a6,g7⟩:∃ v,jB z3 y3 = v:=⟨_,rfl⟩;have e15:IntKind.u32.wrap (z3 - y3) = a6:=g7;obtain ⟨r5,q5⟩:∃ v,ja y3 4 = v:=⟨_,rfl⟩;have e16:=JV (by omega) q5 (kk:=4) rfl;obtain ⟨z4,f5⟩:∃ v,zi .u32 a6 r5 = v:=⟨_,rfl⟩;have g8:zi .u32 a6 (ja y3 4) = z4:=by rw [q5];exact f5
  obtain ⟨y4,g9⟩:∃ v,vr y3 x4 = v:=⟨_,rfl⟩;have e17:IntKind.u32.wrap (y3+x4) = y4:=g9;have hm:=qo7 h1 h2 h3 h4 h5 h6 h7 h8 h9 g1 g2 g3 g4 g5 g6 g7 g8 g9;rw [hm] at hR;clear g9 g8 g7 g6 g5 g4 g3 g2 g1 h9 h8 h7 h6 h5 h4 h3 h2 h1 hm q0 q1 q2 q3 q4 q5;have i12:IntKind.i64.wrap ((at_:Int)+12) = ((at_+12:Nat):Int):=by rw [wrap_i64] <;> omega
  clear ha hN;generalize hjj:s.l.length - at_ = j at *
  simp [k0,k3,k4,k5,k6,hsub,h12',i12,w0,w4,w8,c0,c4,c8,i4,i8,e0,e1,f0,e2,e3,e4,f1,e5,e6,e7,f2,e8,e9,e10,f3,e11,e12,e13,f4,e14,e15,e16,f5,e17];exact ⟨at_+12,by omega,by omega,_,_,_,hR,by omega,rfl,rfl,by omega⟩
 ·have h12':¬ (12:Int) < ((s.l.length - at_:Nat):Int):=by omega
  have w0:=Yi s.nil s.l s.h (at_+0) (by omega) hs (at_:=(at_:Int)) (by omega);obtain ⟨x0,p0⟩:∃ v,vr x (jS s.l (at_+0):Nat) = v:=⟨_,rfl⟩;have w4:=Yi s.nil s.l s.h (at_+4) (by omega) hs (at_:=(at_:Int)+4) (by omega);obtain ⟨y0,p4⟩:∃ v,vr y (jS s.l (at_+4):Nat) = v:=⟨_,rfl⟩;have w8:=Yi s.nil s.l s.h (at_+8) (by omega) hs (at_:=(at_:Int)+8) (by omega);obtain ⟨z0,p8⟩:∃ v,vr z (jS s.l (at_+8):Nat) = v:=⟨_,rfl⟩;have ha:XY (s.l.drop at_) (x,y,z) = (x0,y0,z0):=by simp only [XY,qg3,p0,p4,p8]
  have c0:IntKind.u32.wrap (x+(jS s.l (at_+0):Nat)) = x0:=p0;generalize jS s.l (at_+0) = u0 at *;have c4:IntKind.u32.wrap (y+(jS s.l (at_+4):Nat)) = y0:=p4;generalize jS s.l (at_+4) = u4 at *;have c8:IntKind.u32.wrap (z+(jS s.l (at_+8):Nat)) = z0:=p8;generalize jS s.l (at_+8) = u8 at *;clear p0 p4 p8;have i4:IntKind.i64.wrap ((at_:Int)+4) = (at_:Int)+4:=by rw [wrap_i64] <;> omega
  have i8:IntKind.i64.wrap ((at_:Int)+8) = (at_:Int)+8:=by rw [wrap_i64] <;> omega
  obtain ⟨a1,h1⟩:∃ v,zi .u32 z0 y0 = v:=⟨_,rfl⟩;obtain ⟨r0,q0⟩:∃ v,ja y0 14 = v:=⟨_,rfl⟩;have e1:=JV (by omega) q0 (kk:=14) rfl;obtain ⟨z1,f0⟩:∃ v,jB a1 r0 = v:=⟨_,rfl⟩;have d0:IntKind.u32.wrap (a1 - r0) = z1:=f0;have h2:jB a1 (ja y0 14) = z1:=by rw [q0];exact f0
  obtain ⟨a2,h3⟩:∃ v,zi .u32 x0 z1 = v:=⟨_,rfl⟩;obtain ⟨r1,q1⟩:∃ v,ja z1 11 = v:=⟨_,rfl⟩;have e3:=JV (by omega) q1 (kk:=11) rfl;obtain ⟨x1,f1⟩:∃ v,jB a2 r1 = v:=⟨_,rfl⟩;have d1:IntKind.u32.wrap (a2 - r1) = x1:=f1;have h4:jB a2 (ja z1 11) = x1:=by rw [q1];exact f1
  obtain ⟨a3,h5⟩:∃ v,zi .u32 y0 x1 = v:=⟨_,rfl⟩;obtain ⟨r2,q2⟩:∃ v,ja x1 25 = v:=⟨_,rfl⟩;have e5:=JV (by omega) q2 (kk:=25) rfl;obtain ⟨y1,f2⟩:∃ v,jB a3 r2 = v:=⟨_,rfl⟩;have d2:IntKind.u32.wrap (a3 - r2) = y1:=f2;have h6:jB a3 (ja x1 25) = y1:=by rw [q2];exact f2
  obtain ⟨a4,h7⟩:∃ v,zi .u32 z1 y1 = v:=⟨_,rfl⟩;obtain ⟨r3,q3⟩:∃ v,ja y1 16 = v:=⟨_,rfl⟩;have e7:=JV (by omega) q3 (kk:=16) rfl;obtain ⟨z2,f3⟩:∃ v,jB a4 r3 = v:=⟨_,rfl⟩;have d3:IntKind.u32.wrap (a4 - r3) = z2:=f3;have h8:jB a4 (ja y1 16) = z2:=by rw [q3];exact f3
  obtain ⟨a5,g1⟩:∃ v,zi .u32 x1 z2 = v:=⟨_,rfl⟩;obtain ⟨r4,q4⟩:∃ v,ja z2 4 = v:=⟨_,rfl⟩;have e9:=JV (by omega) q4 (kk:=4) rfl;obtain ⟨x2,f4⟩:∃ v,jB a5 r4 = v:=⟨_,rfl⟩;have d4:IntKind.u32.wrap (a5 - r4) = x2:=f4;have g2:jB a5 (ja z2 4) = x2:=by rw [q4];exact f4
  obtain ⟨a6,g3⟩:∃ v,zi .u32 y1 x2 = v:=⟨_,rfl⟩;obtain ⟨r5,q5⟩:∃ v,ja x2 14 = v:=⟨_,rfl⟩;have e11:=JV (by omega) q5 (kk:=14) rfl;obtain ⟨y2,f5⟩:∃ v,jB a6 r5 = v:=⟨_,rfl⟩;have d5:IntKind.u32.wrap (a6 - r5) = y2:=f5;have g4:jB a6 (ja x2 14) = y2:=by rw [q5];exact f5
  obtain ⟨a7,g5⟩:∃ v,zi .u32 z2 y2 = v:=⟨_,rfl⟩;obtain ⟨r6,q6⟩:∃ v,ja y2 24 = v:=⟨_,rfl⟩;have e13:=JV (by omega) q6 (kk:=24) rfl;obtain ⟨z3,f6⟩:∃ v,jB a7 r6 = v:=⟨_,rfl⟩;have d6:IntKind.u32.wrap (a7 - r6) = z3:=f6;have g6:jB a7 (ja y2 24) = z3:=by rw [q6];exact f6
  have hn:=qtU h1 h2 h3 h4 h5 h6 h7 h8 g1 g2 g3 g4 g5 g6;clear g6 g4 g2 h8 h6 h4 h2 f0 q0 f1 q1 f2 q2 f3 q3 f4 q4 f5 q5 f6 q6;rw [qiB (by omega) (by omega) (x:=x2) (y:=y2) (z:=z3) (by rw [ha];exact hn)] at hR;subst hR;clear ha hn;generalize hjj:s.l.length - at_ = j at *
  simp [k0,k3,k4,k5,k6,hsub,h12',qa0,hp64,w0,w4,w8,c0,c4,c8,i4,i8,h1,e1,d0,h3,e3,d1,h5,e5,d2,h7,e7,d3,g1,e9,d4,g3,e11,d5,g5,e13,d6]
end Go.Ev.S
namespace Go.Ev
open Go Go.Proofs
abbrev Q4:=Int × Int × Int × Int
def Vx (a b:Int):Int:=IntKind.u64.wrap (a+b)
def kV (x:Int) (k:Nat):Int:=Z1 .u64 (IntKind.u64.wrap (x * 2 ^ k)) (x.fdiv (2 ^ (64 - k)))
def qeN:Q4→Q4
 | (p,q,r,s) =>
  let p1:=Vx p q
  let q1:=zi .u64 (kV q 13) p1
  let r1:=Vx r s
  let s1:=zi .u64 (kV s 16) r1
  let p3:=Vx (kV p1 32) s1
  let r2:=Vx r1 q1
  (p3,zi .u64 (kV q1 17) r2,kV r2 32,zi .u64 (kV s1 21) p3)
theorem qna {p q r s p1 q0 q1 p2 r1 s0 s1 p3 s2 s3 r2 q2 q3 r3:Int} (h1:Vx p q = p1) (h2:kV q 13 = q0) (h3:zi .u64 q0 p1 = q1) (h4:kV p1 32 = p2) (h5:Vx r s = r1) (h6:kV s 16 = s0) (h7:zi .u64 s0 r1 = s1)
  (h8:Vx p2 s1 = p3) (h9:kV s1 21 = s2) (g1:zi .u64 s2 p3 = s3) (g2:Vx r1 q1 = r2) (g3:kV q1 17 = q2) (g4:zi .u64 q2 r2 = q3) (g5:kV r2 32 = r3):qeN (p,q,r,s) = (p3,q3,r3,s3):=by
 simp only [qeN,h1,h2,h3,h4,h5,h6,h7,h8,h9,g1,g2,g3,g4,g5]
def qat:Nat→Q4→Q4
 | 0,t=>t
 | n+1,t=>qat n (qeN t)
end Go.Ev
namespace Go.Ev.S
open Go Go.Proofs Go.Ev
theorem ql1 [MaxL] [TxtC] (x:Int) (k:Nat) (hk:k < 64):call cx 192 [.int .u64 x,.int .u64 k] [] = some (.int .u64 (kV x k),[]):=by
 have zp:IntKind.u64.wrap (64 - (k:Int)) = ((64 - k:Nat):Int):=by rw [qF] <;> omega
 have m1:min k 64 = k:=by omega
 have hn:¬ (k:Int) < 0:=by omega
 refine qA Tryz.func192 rfl ⟨rfl,rfl⟩ ?_;unfold kV;obtain ⟨j,hj⟩:∃ j,j = 64 - k:=⟨_,rfl⟩;rw [← hj] at zp ⊢;have m2:min j 64 = j:=by omega
 have jO:¬ (j:Int) < 0:=by omega
 simp [Tryz.f192,zp,IntKind.bits,m1,m2,hn,jO]
theorem qaJ [MaxL] [TxtC] {x r:Int} {k:Nat} (hk:k < 64) (e:kV x k = r) {kk:Int} (KQ:kk = k):call cx 192 [.int .u64 x,.int .u64 kk] [] = some (.int .u64 r,[]):=by
 rw [KQ,← e];exact ql1 x k hk
def q4D:Q4→List D
 | (p,q,r,s)=>[.int .u64 p,.int .u64 q,.int .u64 r,.int .u64 s]
set_option maxHeartbeats 1000000 in
theorem qmZ [MaxL] [TxtC] (t:Q4) (n:Nat) (hn:n≤100):call cx 160 [.agg (q4D t),.int .i64 n] [] = some (.agg (q4D (qat n t)),[]):=by
 obtain ⟨R,hR⟩:∃ R,qat n t = R:=⟨_,rfl⟩;rw [hR];obtain ⟨p0,q0,r0,s0⟩:=t;refine qA Tryz.func160 rfl ⟨rfl,rfl⟩ ?_;simp [Tryz.f160,q4D];refine Run.loopThen (fun (k:Nat) e H'=>k≤n∧∃ p q r s:Int,qat (n - k) (p,q,r,s) = R∧qg e 1 = some (.int .i64 n)∧qg e 9 = some (.int .i64 k)∧qg e 5 = some (.int .u64 p)∧qg e 6 = some (.int .u64 q)∧qg e 7 = some (.int .u64 r)∧qg e 8 = some (.int .u64 s)∧qg e 4 = some (.optr 1 4 0)∧∃ Z,H' = [Z,some [.int .u64 0,.int .u64 0,.int .u64 0,.int .u64 0]]) (fun k=>n - k) 0 ?_ ?_
 ·exact ⟨by omega,p0,q0,r0,s0,by simpa using hR,by simp,by simp,by simp,by simp,by simp,by simp,by simp,_,rfl⟩
 rintro k e H ⟨hk,p,q,r,s,hE,k1,k9,k5,k6,k7,k8,k4,Z,rfl⟩;by_cases qi:k < n
 ·have qq:(k:Int) < (n:Int):=by omega
  have hw:IntKind.i64.wrap ((k:Int)+1) = ((k+1:Nat):Int):=by rw [wrap_i64] <;> omega
  rw [show n - k = (n - (k+1))+1 by omega,qat] at hE;obtain ⟨p1,h1⟩:∃ x,Vx p q = x:=⟨_,rfl⟩;obtain ⟨q0',h2⟩:∃ x,kV q 13 = x:=⟨_,rfl⟩;obtain ⟨q1,h3⟩:∃ x,zi .u64 q0' p1 = x:=⟨_,rfl⟩;obtain ⟨p2,h4⟩:∃ x,kV p1 32 = x:=⟨_,rfl⟩;obtain ⟨r1,h5⟩:∃ x,Vx r s = x:=⟨_,rfl⟩;obtain ⟨s0',h6⟩:∃ x,kV s 16 = x:=⟨_,rfl⟩;obtain ⟨s1,h7⟩:∃ x,zi .u64 s0' r1 = x:=⟨_,rfl⟩;obtain ⟨p3,h8⟩:∃ x,Vx p2 s1 = x:=⟨_,rfl⟩;obtain ⟨s2,h9⟩:∃ x,kV s1 21 = x:=⟨_,rfl⟩;obtain ⟨s3,g1⟩:∃ x,zi .u64 s2 p3 = x:=⟨_,rfl⟩;obtain ⟨r2,g2⟩:∃ x,Vx r1 q1 = x:=⟨_,rfl⟩;obtain ⟨q2,g3⟩:∃ x,kV q1 17 = x:=⟨_,rfl⟩;obtain ⟨q3,g4⟩:∃ x,zi .u64 q2 r2 = x:=⟨_,rfl⟩;obtain ⟨r3,g5⟩:∃ x,kV r2 32 = x:=⟨_,rfl⟩;rw [qna h1 h2 h3 h4 h5 h6 h7 h8 h9 g1 g2 g3 g4 g5] at hE;have u2:=qaJ (k:=13) (by decide) h2 (kk:=13) rfl;have u4:=qaJ (k:=32) (by decide) h4 (kk:=32) rfl;have u6:=qaJ (k:=16) (by decide) h6 (kk:=16) rfl;have u9:=qaJ (k:=21) (by decide) h9 (kk:=21) rfl;have v3:=qaJ (k:=17) (by decide) g3 (kk:=17) rfl;have v5:=qaJ (k:=32) (by decide) g5 (kk:=32) rfl;unfold Vx at h1 h5 h8 g2;simp [k1,k9,k5,k6,k7,k8,k4,qq,hw,h1,u2,h3,u4,h5,u6,h7,h8,u9,g1,g2,v3,g4,v5];exact ⟨k+1,by omega,by omega,p3,q3,r3,s3,hE,by omega,rfl,rfl,rfl,rfl⟩
 ·have qq:¬ (k:Int) < (n:Int):=by omega
  rw [show n - k = 0 by omega,qat] at hE;subst hE;simp [k1,k9,k5,k6,k7,k8,k4,qq]
theorem qnO (x y:Nat) (h:y < 4294967296):y ||| (x * 4294967296) = x * 4294967296+y:=by
 have:=Nat.shiftLeft_add_eq_or_of_lt (b:=y) (i:=32) (by simpa using h) x;rw [Nat.shiftLeft_eq] at this;rw [Nat.or_comm];simpa using this.symm
theorem qu7 (_l:List UInt8) (_a:Nat) (u v:Nat) (hu:u < 4294967296) (hv:v < 4294967296):Z1 .u64 (u:Nat) (IntKind.u64.wrap ((v:Int) * 4294967296)) = ((v * 4294967296+u:Nat):Int):=by
 have e1:IntKind.u64.wrap ((v:Int) * 4294967296) = ((v * 4294967296:Nat):Int):=by rw [qF] <;> omega
 rw [e1,qfb rfl (Nat.lt_of_lt_of_eq (by omega) bits64.symm) (Nat.lt_of_lt_of_eq (by omega) bits64.symm),qnO v u hu]
theorem qoW (l:List UInt8) (a:Nat):vi ((l.drop a).take 8) = jS l (a+4) * 4294967296+jS l a:=by
 unfold jS;rw [show (8:Nat) = 4+4 by rfl,List.take_add,qiG,kA];by_cases h:4≤(l.drop a).length
 ·have:((l.drop a).take 4).length = 4:=by rw [kt];omega
  rw [this];omega
 ·have:(l.drop (a+4)).take 4 = []:=by
   rw [List.drop_of_length_le (by rw [Zb] at h;omega)];rfl
  rw [this];simp [vi]
theorem qfX [MaxL] [TxtC] (s:Sl UInt8) (a:Nat) (ha:a < 1000000000) (hs:s.l.length < 1000000000) {x:Int} (hx:x = a):call cx 159 [(.vsl s.nil (qf s.l) s.l.length),.int .i64 x] [] = some (.int .u64 (vi ((s.l.drop a).take 8):Nat),[]):=by
 subst hx;have w1:=Yi s.nil s.l s.h a (by omega) (by omega) (at_:=a) rfl;have w2:=Yi s.nil s.l s.h (a+4) (by omega) (by omega) (at_:=(a:Int)+4) (by omega);have hw:IntKind.i64.wrap ((a:Int)+4) = (a:Int)+4:=by rw [wrap_i64];omega
 have hv:=qu7 s.l a _ _ (qcG s.l a) (qcG s.l (a+4));have hu1:=qcG s.l a;have hu2:=qcG s.l (a+4);rw [qoW];generalize jS s.l a = u at *;generalize jS s.l (a+4) = v at *;refine qA Tryz.func159 rfl ⟨rfl,rfl⟩ ?_;simp [Tryz.f159,w1,w2,hw];have e1:IntKind.u64.wrap (u:Int) = (u:Int):=by rw [qF];omega
 have e2:IntKind.u64.wrap (v:Int) = (v:Int):=by rw [qF];omega
 have e3:min 32 IntKind.u64.bits = 32:=rfl;rw [e1,e2,e3];simpa using hv
def qc7 (q:D × qd):Prop:= ∃ x:Int,zH x∧q = (.int .u64 x,[])
theorem qan (z:Int):zH (IntKind.u64.wrap z):=by
 simp only [IntKind.wrap,IntKind.signed,IntKind.bits];simp;unfold zH;omega
theorem qg0 (a b:Int):zH (zi .u64 a b):=by
 unfold zi;exact qan _
theorem qeL [MaxL] [TxtC] (a b c d:Int) (n:Nat) (hn:n≤100) {x:Int} (hx:x = n):∃ a1 b1 c1 d1:Int,call cx 160 [.agg [.int .u64 a,.int .u64 b,.int .u64 c,.int .u64 d],.int .i64 x] [] = some (.agg [.int .u64 a1,.int .u64 b1,.int .u64 c1,.int .u64 d1],[]):=by
 subst hx;have h:=qmZ (a,b,c,d) n hn;obtain ⟨⟨a1,b1,c1,d1⟩,hR⟩:∃ t,qat n (a,b,c,d) = t:=⟨_,rfl⟩;rw [hR] at h;exact ⟨a1,b1,c1,d1,h⟩
set_option maxHeartbeats 2000000 in
theorem qml [MaxL] [TxtC] (key:ID) (s:Sl UInt8) (hs:s.l.length < 1000000):∃ q,call cx 116 [.agg (qf key.l),(.vsl s.nil (qf s.l) s.l.length)] [] = some q∧qc7 q:=by
 have e0:=qfX (Sl.mk false key.l (by simp)) 0 (by omega) (by simp only [key.h];omega) (x:=0) rfl;have e8:=qfX (Sl.mk false key.l (by simp)) 8 (by omega) (by simp only [key.h];omega) (x:=8) rfl;refine Jt (X:=cx) (f:=116) qc7 Tryz.func116 rfl ⟨rfl,rfl⟩ ?_;have hk:key.l.length = 16:=key.h;simp only [hk] at e0 e8;simp [Tryz.f116,e0,e8,hk];refine Run.loopThen (fun (k:Nat) e H=>k≤s.l.length∧qg e 1 = some (.vsl s.nil (qf s.l) s.l.length)∧qg e 7 = some (.optr 1 4 0)∧qg e 8 = some (.int .i64 k)∧∃ a b c d:Int,H = [none,some [.int .u64 a,.int .u64 b,.int .u64 c,.int .u64 d]]) (fun k=>s.l.length - k) 0 ?_ ?_
 ·exact ⟨vf _,by simp,by simp,by simp,_,_,_,_,rfl⟩
 rintro k e H ⟨XE,p1,p7,p8,a,b,c,d,rfl⟩;have hw:IntKind.i64.wrap ((k:Int)+8) = ((k+8:Nat):Int):=by rw [wrap_i64] <;> omega
 have ek:=qfX s k (by omega) (by omega) (x:=(k:Int)) rfl;obtain ⟨m,hm⟩:∃ m,vi (List.take 8 (List.drop k s.l)) = m:=⟨_,rfl⟩;rw [hm] at ek;by_cases h8:k+8≤s.l.length
 ·have h8':((k+8:Nat):Int)≤(s.l.length:Int):=by omega
  have h8'':(k:Int)+8≤(s.l.length:Int):=by omega
  obtain ⟨a1,b1,c1,d1,r2⟩:=qeL a b c (zi .u64 d m) 2 (by omega) (x:=2) rfl;simp [p1,p7,p8,hw,h8'',ek,r2];exact ⟨k+8,by omega,by omega,by omega⟩
 ·have h8':¬ ((k+8:Nat):Int)≤(s.l.length:Int):=by omega
  have h8'':¬ (k:Int)+8≤(s.l.length:Int):=by omega
  obtain ⟨M,hM⟩:∃ M,Z1 .u64 (m:Int) (IntKind.u64.wrap (IntKind.u64.wrap ((s.l.length:Int).tmod 256) * 2 ^ (min 56 IntKind.u64.bits))) = M:=⟨_,rfl⟩;obtain ⟨a1,b1,c1,d1,r2⟩:=qeL a b c (zi .u64 d M) 2 (by omega) (x:=2) rfl;obtain ⟨a2,b2,c2,d2,r4⟩:=qeL (zi .u64 a1 M) b1 (zi .u64 c1 255) d1 4 (by omega) (x:=4) rfl;simp [p1,p7,p8,hw,h8'',ek,hM,r2,r4];exact ⟨_,qg0 _ _,rfl⟩
end Go.Ev.S
