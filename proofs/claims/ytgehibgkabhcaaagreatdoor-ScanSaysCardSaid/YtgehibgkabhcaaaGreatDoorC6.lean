import Derived.Test.YtgehibgkabhcaaaGreatDoorC5
namespace Go.Ev.S
open Go Go.Proofs Go.Ev
theorem qcO (h:HdP) {i:Nat} (hi:i < 20):(vB h).drop (67+i) = .int .u64 (h.g i:Nat) :: (vB h).drop (68+i):=by
 have hl:i < (h.n.take 20).length:=by rw [jU,h.hn];omega
 have key:∀ j,j≤20→(vB h).drop (67+j) = (qJ .u64 (h.n.take 20) ++ ([.int .u32 h.ta,.int .u32 h.ti,.int .u64 h.te]:List D)).drop j:=by
  intro j hj
  have h2:∀ (k:Nat) (l r:List D) (a:Nat),l.length = a→(l ++ r).drop (a+k) = r.drop k:=by
   intro k l r a hl;rw [← jV,kE hl]
  simp only [vB];rw [show 67+j = (16+(16+(16+(16+j))))+1+1+1 by omega,List.drop_succ_cons,List.drop_succ_cons,List.drop_succ_cons,h2 _ _ _ 16 (by simp),h2 _ _ _ 16 (by simp),h2 _ _ _ 16 (by simp),h2 _ _ _ 16 (by simp)]
 rw [key i (by omega),show 68+i = 67+(i+1) by omega,key (i+1) (by omega),List.drop_append_of_le_length (by simp [h.hn];omega),List.drop_append_of_le_length (by simp [h.hn];omega),qbs hl,Qw];congr 2
 ·have:i < h.n.length:=by rw [h.hn];omega
  simp [HdP.g,this]
 ·unfold qJ;rw [List.map_drop]
theorem qzU (h:HdP):(vB h).drop 1 = .int .u32 h.incompat :: (vB h).drop 2:=by simp [vB]
theorem qzT (h:HdP):(vB h).drop 2 = .int .i64 h.state :: (vB h).drop 3:=by simp [vB]
theorem qma [MaxL] (h:HdP) (h0:h.g 0 < 18446744073709551616) (h1:h.g 1 < 18446744073709551616):call cx 113 [.agg (vB h)] [] = some (.tup [.int .u64 (h.endN:Nat),.bool h.endC],[]):=by
 have k0:=qcO h (i:=0) (by omega);have k1:=qcO h (i:=1) (by omega);simp only [Nat.reduceAdd,Nat.add_zero] at k0 k1;have hl:=qf1 h;have hf:=qgZ h;have ht:List.take 90 (vB h) = vB h:=qP (by omega);have hc9:=Xz hf;refine qy Tryz.func113 rfl ⟨rfl,rfl⟩ ?_;unfold HdP.endN HdP.endC;generalize vB h = A at *;generalize h.g 0 = a at *;generalize h.g 1 = c at *;have hw:=qN (18446744073709551615 - (a:Int)) (18446744073709551615 - (a:Int));by_cases hc:a+c < 18446744073709551616
 ·have qZ:=qN ((a:Int)+(c:Int)) ((a:Int)+(c:Int));have hn:¬ 18446744073709551615 - (a:Int) < (c:Int):=by omega
  simp [Tryz.f113,k0,k1,hl,hc9,hw,qZ,hn,hc]
 ·have hn:18446744073709551615 - (a:Int) < (c:Int):=by omega
  simp [Tryz.f113,k0,k1,hl,hc9,hw,hn,hc]
set_option maxHeartbeats 1000000 in
theorem qlB [MaxL] (f a size till:Nat) (h0:f < 18446744073709551616) (ha:a < 18446744073709551616) (hs:size < 18446744073709551616) (ht:till < 18446744073709551616) :
  call cx 167 [.int .u64 a,.int .u64 size,.int .u64 f,.int .u64 till] [] = some (.int .i64 (Yl f a size till:Nat),[]):=by
 refine qy Tryz.func167 rfl ⟨rfl,rfl⟩ ?_;unfold Yl;have r8:(a:Int).tmod 8 = ((a % 8:Nat):Int):=rfl;have r16:(size:Int).tmod 16 = ((size % 16:Nat):Int):=rfl;by_cases c1:a % 8≠0
 ·have c1':((a:Int).tmod 8 != 0) = true:=by rw [r8];simp only [bne_iff_ne,ne_eq];omega
  rw [if_pos c1];simp [Tryz.f167,c1']
 have c1':((a:Int).tmod 8 != 0) = false:=by rw [r8];simp only [bne_eq_false_iff_eq];omega
 rw [if_neg c1];by_cases c2:size = 0
 ·rw [if_pos (.inl c2)];subst c2;simp [Tryz.f167,c1']
 have c2':¬ (size:Int) = 0:=by omega
 by_cases c3:size % 16≠0
 ·rw [if_pos (.inr c3)];have c3':((size:Int).tmod 16 != 0) = true:=by rw [r16];simp only [bne_iff_ne,ne_eq];omega
  simp [Tryz.f167,c1',c2,c3']
 rw [if_neg (by omega)];have c3':((size:Int).tmod 16 != 0) = false:=by rw [r16];simp only [bne_eq_false_iff_eq];omega
 by_cases c4:a < f
 ·rw [if_pos (.inl c4)];have c4':=zI c4;simp [Tryz.f167,c1',c2,c3',c4']
 have c4':=zL c4;have ZW:=qN ((a:Int) - (f:Int)) ((a:Int) - (f:Int));by_cases c5:a - f < 16
 ·rw [if_pos (.inr (.inl c5))];have c5':(a:Int) - (f:Int) < 16:=by omega
  simp [Tryz.f167,c1',c2,c3',c4',ZW,c5']
 have c5':¬ (a:Int) - (f:Int) < 16:=by omega
 by_cases c6:till < a
 ·rw [if_pos (.inr (.inr (.inl c6)))];have c6':=zI c6;simp [Tryz.f167,c1',c2,c3',c4',ZW,c5',c6']
 have c6':=zL c6;have Y8:=qN ((till:Int) - (a:Int)) ((till:Int) - (a:Int));by_cases c7:till - a < size
 ·rw [if_pos (.inr (.inr (.inr c7)))];have c7':(till:Int) - (a:Int) < (size:Int):=by omega
  simp [Tryz.f167,c1',c2,c3',c4',ZW,c5',c6',Y8,c7']
 ·rw [if_neg (by omega)];have c7':¬ (till:Int) - (a:Int) < (size:Int):=by omega
  simp [Tryz.f167,c1',c2,c3',c4',ZW,c5',c6',Y8,c7']
def qfc (b:List UInt8):D:=.tup [.agg (if zy b = 0 then vB (qG b) else YH),.int .u64 (if zy b = 0 then (qG b).g 20 else 0:Nat),.int .i64 (zy b:Nat)]
theorem qai {b:List UInt8} {c:Nat} (h:zy b = c) (h0:c≠0):qfc b = .tup [.agg YH,.int .u64 0,.int .i64 (c:Nat)]:=by
 unfold qfc;rw [h,if_neg h0,if_neg h0];rfl
theorem qlN {b:List UInt8} (h:zy b = 0):qfc b = .tup [.agg (vB (qG b)),.int .u64 ((qG b).g 20:Nat),.int .i64 0]:=by
 unfold qfc;rw [h,if_pos rfl,if_pos rfl];rfl
set_option maxHeartbeats 4000000 in
set_option maxRecDepth 8000 in
theorem qv6 [MaxL] (b:Sl UInt8) (hl:b.l.length≤1000000):call cx 112 [(.vsl b.nil (qd b.l) b.l.length)] [] = some (qfc b.l,[]):=by
 have hZ:YH = YH:=rfl
 conv at hZ=>rhs;simp [YH,qd,List.replicate]
 refine qy Tryz.func112 rfl ⟨rfl,rfl⟩ ?_;by_cases c0:b.l.length < 272
 ·have hC:zy b.l = 22:=by unfold zy;rw [if_pos c0]
  have c0':(b.l.length:Int) < 272:=by omega
  rw [qai hC (by decide),hZ];simp [Tryz.f112,c0']
 have c0':¬ (b.l.length:Int) < 272:=by omega
 have n8:(8:Int)≤(b.l.length:Int):=by omega
 have t8:List.take 8 (qd b.l) = qd (b.l.take 8):=Yv _ _;have m8:min 8 b.l.length = 8:=by omega
 have XW:zy b.l = if b.l.take 8≠signL then 6 else Je (qG b.l) b.l.length:=by unfold zy;rw [if_neg c0]
 have vy:=qvs b hl (by omega);have hg20:(qG b.l).g 20 = qC b.l 248:=qqZ b.l (by omega);rw [← hg20] at vy;by_cases c1:b.l.take 8≠signL
 ·have hC:zy b.l = 6:=by rw [XW,if_pos c1]
  have c1':(b.l.take 8 == [76,80,75,83,72,72,82,72]) = false:=by simp only [beq_eq_false_iff_ne];exact c1
  rw [qai hC (by decide),hZ];simp [Tryz.f112,c0',n8,t8,m8,c1']
 have c1':(b.l.take 8 == [76,80,75,83,72,72,82,72]) = true:=by simp only [beq_iff_eq];exact Classical.not_not.1 c1
 have hC:zy b.l = Je (qG b.l) b.l.length:=by rw [XW,if_neg c1]
 have Jb:=qaD b.l;obtain ⟨h,hh⟩:=ql (qG b.l);rw [hh] at vy hC Jb;have zR:=qma h (Jb 0) (Jb 1);have j1:=qzU h;have j2:=qzT h;have k0:=qcO h (i:=0) (by omega);have k1:=qcO h (i:=1) (by omega);have k2:=qcO h (i:=2) (by omega);have k3:=qcO h (i:=3) (by omega);have k4:=qcO h (i:=4) (by omega);have k5:=qcO h (i:=5) (by omega);simp only [Nat.reduceAdd,Nat.add_zero] at k0 k1 k2 k3 k4 k5;have jd:h.endN < 18446744073709551616:=by unfold HdP.endN;split <;> omega
 have t1:=qlB (h.g 0) (h.g 2) (h.g 3) h.endN (Jb 0) (Jb 2) (Jb 3) jd;have t2:=qlB (h.g 0) (h.g 4) (h.g 5) h.endN (Jb 0) (Jb 4) (Jb 5) jd;have Qc:=qf1 h;have kT:=qgZ h;have tA:List.take 90 (vB h) = vB h:=qP (by omega);have dA:List.drop 90 (vB h) = []:=List.drop_of_length_le (by omega);have hAi:=zfb kT;have Xn:=Xz kT;have hAs:∀ n,shift.shiftL n (vB h) = vB h:=fun n=>qci _ _ kT;obtain ⟨A,hA⟩:=ql (vB h);rw [hA] at vy zR j1 j2 k0 k1 k2 k3 k4 k5 Qc kT tA dA hAi Xn hAs;by_cases d1:qbS .u32 h.incompat 4≠0
 ·have zS:zy b.l = 7:=by rw [hC];unfold Je;rw [if_pos d1]
  rw [qai zS (by decide),hZ];have d1':(qbS .u32 h.incompat 4 != 0) = true:=by simp only [bne_iff_ne,ne_eq];exact d1
  simp [Tryz.f112,c0',n8,t8,m8,c1',vy,zR,Qc,kT,tA,Xn,j1,d1']
 have d1':(qbS .u32 h.incompat 4 != 0) = false:=by simp only [bne_eq_false_iff_eq];exact Classical.not_not.1 d1
 by_cases d2:2 < h.state
 ·have zS:zy b.l = 8:=by rw [hC];unfold Je;rw [if_neg d1,if_pos d2]
  rw [qai zS (by decide),hZ];have d2':(2:Int) < (h.state:Int):=by omega
  simp [Tryz.f112,c0',n8,t8,m8,c1',vy,zR,Qc,kT,tA,Xn,j1,d1',j2,d2']
 have d2':¬ (2:Int) < (h.state:Int):=by omega
 have r0:((h.g 0:Nat):Int).tmod 8 = ((h.g 0 % 8:Nat):Int):=rfl;have r1:((h.g 1:Nat):Int).tmod 8 = ((h.g 1 % 8:Nat):Int):=rfl;by_cases d3:h.g 0 < 272∨h.g 0 % 8≠0∨h.g 1 % 8≠0
 ·have zS:zy b.l = 5:=by rw [hC];unfold Je;rw [if_neg d1,if_neg d2,if_pos d3]
  rw [qai zS (by decide),hZ];by_cases a1:h.g 0 < 272
  ·have a1':((h.g 0:Nat):Int) < 272:=(by omega);simp [Tryz.f112,c0',n8,t8,m8,c1',vy,zR,Qc,kT,tA,Xn,j1,d1',j2,d2',k0,a1']
  have a1':¬ ((h.g 0:Nat):Int) < 272:=by omega
  by_cases a2:h.g 0 % 8≠0
  ·have a2':(((h.g 0:Nat):Int).tmod 8 != 0) = true:=(by rw [r0];simp only [bne_iff_ne,ne_eq];omega);simp [Tryz.f112,c0',n8,t8,m8,c1',vy,zR,Qc,kT,tA,Xn,j1,d1',j2,d2',k0,a1',a2']
  have a2':(((h.g 0:Nat):Int).tmod 8 != 0) = false:=by rw [r0];simp only [bne_eq_false_iff_eq];omega
  have a3':(((h.g 1:Nat):Int).tmod 8 != 0) = true:=by rw [r1];simp only [bne_iff_ne,ne_eq];omega
  simp [Tryz.f112,c0',n8,t8,m8,c1',vy,zR,Qc,kT,tA,Xn,j1,d1',j2,d2',k0,a1',a2',k1,a3']
 have a1':¬ ((h.g 0:Nat):Int) < 272:=by omega
 have a2':(((h.g 0:Nat):Int).tmod 8 != 0) = false:=by rw [r0];simp only [bne_eq_false_iff_eq];omega
 have a3':(((h.g 1:Nat):Int).tmod 8 != 0) = false:=by rw [r1];simp only [bne_eq_false_iff_eq];omega
 have jR:=qN (b.l.length:Int) (b.l.length:Int);by_cases d4:h.endC = false
 ·have zS:zy b.l = 2:=by rw [hC];unfold Je;rw [if_neg d1,if_neg d2,if_neg d3,if_pos (.inl d4)]
  rw [qai zS (by decide),hZ];rw [d4] at zR;simp [Tryz.f112,c0',n8,t8,m8,c1',vy,zR,Qc,kT,tA,Xn,j1,d1',j2,d2',k0,a1',a2',k1,a3']
 have d4':h.endC = true:=by simpa using d4
 rw [d4'] at zR;by_cases d5:b.l.length < h.endN
 ·have zS:zy b.l = 2:=by rw [hC];unfold Je;rw [if_neg d1,if_neg d2,if_neg d3,if_pos (.inr d5)]
  rw [qai zS (by decide),hZ];have d5':=zI d5;simp [Tryz.f112,c0',n8,t8,m8,c1',vy,zR,Qc,kT,tA,Xn,j1,d1',j2,d2',k0,a1',a2',k1,a3',jR,d5']
 have d5':=zL d5;have d45:¬ (h.endC = false∨b.l.length < h.endN):=by rintro (h | h);exact d4 h;exact d5 h
 obtain ⟨T1,hT1⟩:=ql (Yl (h.g 0) (h.g 2) (h.g 3) h.endN);obtain ⟨T2,JV⟩:=ql (Yl (h.g 0) (h.g 4) (h.g 5) h.endN);rw [hT1] at t1;rw [JV] at t2;by_cases d6:T1≠0
 ·have zS:zy b.l = T1:=by rw [hC];unfold Je;rw [if_neg d1,if_neg d2,if_neg d3,if_neg d45,hT1,if_pos d6]
  rw [qai zS d6,hZ];have d6n:¬ (T1:Int) = 0:=by omega
  have d6':((T1:Int) != 0) = true:=kr;simp [Tryz.f112,c0',n8,t8,m8,c1',vy,zR,Qc,kT,tA,Xn,j1,d1',j2,d2',k0,a1',a2',k1,a3',jR,d5',k2,k3,t1,d6',d6]
 have d6':T1 = 0:=by omega
 have zS:zy b.l = T2:=by rw [hC];unfold Je;rw [if_neg d1,if_neg d2,if_neg d3,if_neg d45,hT1,if_neg d6,JV]
 rw [d6'] at t1;by_cases d7:T2≠0
 ·rw [qai zS d7,hZ];have d7':((T2:Int) != 0) = true:=kr;simp [Tryz.f112,c0',n8,t8,m8,c1',vy,zR,Qc,kT,tA,Xn,j1,d1',j2,d2',k0,a1',a2',k1,a3',jR,d5',k2,k3,t1,k4,k5,t2,d7']
 ·have d7':T2 = 0:=by omega
  rw [d7'] at zS t2;rw [qlN zS,hh,hA];simp [Tryz.f112,c0',n8,t8,m8,c1',vy,zR,Qc,kT,tA,Xn,j1,d1',j2,d2',k0,a1',a2',k1,a3',jR,d5',k2,k3,t1,k4,k5,t2]
set_option maxHeartbeats 1000000 in
set_option maxRecDepth 8000 in
theorem qvy [MaxL] (b:Sl UInt8) (hl:b.l.length≤1000000):call cx 74 [(.vsl b.nil (qd b.l) b.l.length)] [] = some (.tup [if zy b.l = 0 then .vptr (vc (zi b.l) (qG b.l)) else .nilp,.int .i64 (zy b.l:Nat)],[]):=by
 have hr:=qv6 b hl;refine qy Tryz.func74 rfl ⟨rfl,rfl⟩ ?_;by_cases h0:zy b.l = 0
 ·obtain ⟨h1,h2,h3,h4⟩:=qj2 h0;have zR:=qma (qG b.l) (qaD _ _) (qaD _ _);rw [h1] at zR;rw [qlN h0] at hr;have qU:b.nil = false:=Sl.nn (i:=0) (by omega);rw [qU] at hr;rw [if_pos h0,h0];unfold vc;have V9:(b.l.take (qG b.l).endN).length = (qG b.l).endN:=by simp;omega
  simp only [zi,V9];have jc:List.take (qG b.l).endN (qd b.l) = qd (b.l.take (qG b.l).endN):=Yv _ _;have Qc:=qf1 (qG b.l);have kT:=qgZ (qG b.l);have tA:List.take 90 (vB (qG b.l)) = vB (qG b.l):=qP (by omega);have dA:List.drop 90 (vB (qG b.l)) = []:=List.drop_of_length_le (by omega);have hAi:=zfb kT;have Xn:=Xz kT;have e1:((qG b.l).endN:Int)≤(b.l.length:Int):=by omega
  have e2:(0:Int)≤((qG b.l).endN:Int):=by omega
  have e3:¬ (qG b.l).endN = 0:=by omega
  have e4:(qG b.l).endN≤140737488355328:=by omega
  generalize vB (qG b.l) = A at *;generalize (qG b.l).g 20 = G at *;generalize (qG b.l).endN = N at *;generalize b.l.take N = P at *;have q1:List.drop 91 (A ++ [D.int .u64 0,.vsl true [] 0]) = [.vsl true [] 0]:=by rw [show 91 = 90+1 by omega,← jV,kE Qc];rfl
  have q2:List.take 91 (A ++ [D.int .u64 (G:Nat),.vsl true [] 0]) = A ++ [D.int .u64 (G:Nat)]:=by rw [show 91 = A.length+1 by omega,List.take_length_add_append];rfl
  have q3:List.drop 92 (A ++ [D.int .u64 (G:Nat),.vsl true [] 0]) = []:=by rw [show 92 = 90+2 by omega,← jV,kE Qc];rfl
  simp [Tryz.f74,q1,q2,q3,hr,qU,zR,jc,Qc,kT,tA,Xn,e1,e2,e4,qD,V9,qil,qij]
 ·rw [qai rfl h0] at hr;rw [if_neg h0];have qM:(((zy b.l:Nat):Int) != 0) = true:=kr;have hZ:YH = YH:=rfl
  conv at hZ=>rhs;simp [YH,qd,List.replicate]
  rw [hZ] at hr;generalize zy b.l = c at *;simp [Tryz.f74,hr,qM]
theorem qmQ {l:List Nat} (h:l≠[]):(qK l).drop (l.length - 1) = [.int .u64 (l.getLastD 0:Nat)]:=by
 obtain ⟨m,x,rfl⟩:∃ m x,l = m ++ [x]:=⟨l.dropLast,l.getLast h,(List.dropLast_concat_getLast h).symm⟩;rw [qer,zz,List.length_singleton,Nat.add_sub_cancel,kE (Z8 m)];simp
set_option maxHeartbeats 8000000 in
set_option maxRecDepth 8000 in
theorem qvJ [MaxL] (b:Sl UInt8) (h:HdP) (hl:b.l.length≤1000000) (he:h.ents < 18446744073709551616) (ha:h.arr < 18446744073709551616) :
  call cx 75 [.vptr (vc b h)] [] = some (.tup [Z7 (Vr b.l h).1,.int .i64 ((Vr b.l h).2:Nat)],[]):=by
 have jo:=fun a=>qv0 b h hl a;have harr:=fun a ha=>qvQ b h hl a ha;obtain ⟨R,hR⟩:=ql (Vr b.l h);obtain ⟨most,hm⟩:=ql (h.ents);rw [hR];have g8:=qhV b h (i:=8) (by omega);have g11:=qhV b h (i:=11) (by omega);have hVl:=qhU b h;have YL:=qaZ b h;simp only [Nat.reduceAdd] at g8 g11;rw [show h.g 8 = most from hm] at g8;rw [hm] at he;have hR0:XZ b.l h.siz most (b.l.length+1) [] h.arr 0 = R:=by rw [← hm];exact hR
 rw [show h.g 11 = h.arr from rfl] at g11;generalize vc b h = V at *;refine qy Tryz.func75 rfl ⟨rfl,rfl⟩ ?_;simp [Tryz.f75,g8,g11];refine Run.loopThen (fun (n:Nat) e H=>∃ (out:List Nat) (a c:Nat) (d:D) (L:List Nat),out.length≤out.getLastD 0∧out.getLastD 0≤b.l.length∧a < 18446744073709551616∧c≤b.l.length∧b.l.length < n+c∧XZ b.l h.siz most n out a c = R∧RowA H 1 d (qK out) L∧(out = []→d = .vsl true [] 0)∧qi e 0 = some (.vptr V)∧qi e 4 = some d∧qi e 5 = some (.int .u64 (most:Nat))∧qi e 6 = some (.int .u64 (a:Nat))∧qi e 7 = some (.int .u64 (c:Nat))) (fun n=>n) (b.l.length+1) ?_ ?_
 ·exact ⟨[],h.arr,0,.vsl true [] 0,[],by simp,by simp,ha,by omega,by omega,hR0,RowA.nil _ _,fun _=>rfl,by simp,by simp,by simp,by simp,by simp⟩
 rintro n e H ⟨out,a,c,d,L,jx,J6,QC,zq,hfu,hE,hrow,qU,k0,k4,k5,k6,k7⟩;have Xg:out.length≤b.l.length:=zT jx J6
 have jp:zf Tryz.prog 96 d = some (.int .i64 out.length):=by
  rcases hrow with ⟨rfl,hcs,rfl⟩ | ⟨r,n,rfl,h2,h3,rfl⟩
  ·have:out.length = 0:=(by have:=congrArg List.length hcs;rw [Z8] at this;exact this);rw [this];simp
  ·have:n = out.length:=(by rw [Z8] at h2;omega);subst this;simp
 have jR:=qN (out.length:Int) (out.length:Int);obtain ⟨n,rfl⟩:∃ m,n = m+1:=⟨n - 1,by omega⟩;rw [XZ] at hE;have kP:=jo a;have J4:=qes hrow qU;by_cases c1:most≤out.length
 ·rw [if_pos c1] at hE;subst hE;have c1':¬ (out.length:Int) < (most:Int):=by omega
  simp [-qf,-zf,k0,k4,k5,k6,k7,jp,jR,c1',-jE];exact J4 _
 rw [if_neg c1] at hE;have c1':(out.length:Int) < (most:Int):=by omega
 by_cases c2:Z6 b.l a = true
 ·rw [if_pos c2] at hE;rw [c2] at kP;subst hE;simp [-qf,-zf,k0,k4,k5,k6,k7,jp,jR,c1',kP,-jE];exact J4 _
 rw [if_neg c2] at hE;have c2':Z6 b.l a = false:=by simpa using c2
 rw [c2'] at kP;by_cases c3:a≤c
 ·rw [if_pos c3] at hE;subst hE;have c3':(a:Int)≤(c:Int):=by omega
  simp [-qf,-zf,k0,k4,k5,k6,k7,jp,jR,c1',kP,c3',-jE];exact J4 _
 rw [if_neg c3] at hE;have c3':¬ (a:Int)≤(c:Int):=by omega
 have KE:=harr a QC;unfold qiI at KE;by_cases c4:vK b.l h.siz a≠0
 ·rw [if_pos c4] at hE;have c4':(((vK b.l h.siz a:Nat):Int) != 0) = true:=kr;rw [if_neg c4] at KE;subst hE;unfold Kl at KE;generalize vK b.l h.siz a = C at *;obtain ⟨q,hqd⟩:=ql (H.length);obtain ⟨H0,e0⟩:=ql (qs H [.int .u64 0,.vsl true [] 0]);have x0:=jD e0;have hq0:qf H0 q = some [.int .u64 0,.vsl true [] 0]:=by rw [← e0,← hqd,zA]
  obtain ⟨H1,e1⟩:=ql (qn H0 q [.int .u64 0,.vsl true [] 0]);have x1:=Qk e1;have hlq:∀ j,j∈L→j ∉ [q]:=fun j hj hc=>by have:=hrow.lt hj;have:=List.mem_singleton.1 hc;omega
  have hpk2:=qes ((hrow.ext x0 (fun _ _=>by simp)).ext x1 hlq) qU;simp [-qf,-qn,-qs,-zf,k0,k4,k5,k6,k7,jp,jR,c1',kP,c3',KE,c4',e0,hqd,hq0,e1,-jE];exact hpk2 _
 rw [if_neg c4] at hE;have c4':vK b.l h.siz a = 0:=by omega
 rw [if_pos c4',c4'] at KE;unfold qfj at KE
 have XC:(jP b.l a).headD 0 < 18446744073709551616:=by
  cases hh:jP b.l a with
  | nil=>simp
  | cons y r=>exact qg4 (l:=qB b.l a) (by show y∈jP b.l a;rw [hh];simp)
 have XO:∀ y,y∈(jP b.l a).tail→y < 18446744073709551616:=fun y hy=>qg4 (l:=qB b.l a) (List.mem_of_mem_tail hy);obtain ⟨x,hxx⟩:=ql ((jP b.l a).headD 0);obtain ⟨l,Ky⟩:=ql ((jP b.l a).tail);obtain ⟨IR,hIR⟩:=ql (Vd b.l most l out)
 have hlen:l.length≤1000000:=by
  have h0:(jP b.l a).length≤1000000:=by
   unfold jP;rw [qan];have:(qB b.l a).length≤b.l.length:=(by unfold qB;simp;omega);omega
  rw [← Ky,List.length_tail];omega
 rw [hxx] at XC hE KE;rw [Ky] at XO hE KE;rw [hIR] at hE
 have hab:a < b.l.length:=by
  unfold Z6 at c2';simp at c2';omega
 have har2:call cx 115 [.vptr V,.int .u64 a] [] = some (.tup [.agg [.int .u64 x,.vsl false (qK l) l.length],.int .i64 0],[]):=KE;obtain ⟨q,hqd⟩:=ql (H.length);obtain ⟨H0,e0⟩:=ql (qs H [.int .u64 0,.vsl true [] 0]);have x0:=jD e0;have hq0:qf H0 q = some [.int .u64 0,.vsl true [] 0]:=by rw [← e0,← hqd,zA]
 obtain ⟨H1,e1⟩:=ql (qn H0 q [.int .u64 x,.vsl false (qK l) l.length]);have x1:=Qk e1;have kO:qf H1 q = some [.int .u64 x,.vsl false (qK l) l.length]:=by rw [← e1];exact zG (qA hq0)
 have hlq:∀ j,j∈L→j ∉ [q]:=fun j hj hc=>by have:=hrow.lt hj;have:=List.mem_singleton.1 hc;omega
 have ZX:=(hrow.ext x0 (fun _ _=>by simp)).ext x1 hlq;simp [-qf,-qn,-qs,-zf,k0,k4,k5,k6,k7,jp,jR,c1',kP,c3',har2,e0,e1,hqd,hq0,-jE];refine Run.loopThen (fun (k:Nat) e H=>∃ (out:List Nat) (d:D) (L:List Nat),out.length≤most∧out.length≤out.getLastD 0∧out.getLastD 0≤b.l.length∧k≤l.length∧Vd b.l most (l.drop k) out = IR∧RowA H 1 d (qK out) L∧(out = []→d = .vsl true [] 0)∧q ∉ L∧qf H q = some [.int .u64 x,.vsl false (qK l) l.length]∧qi e 0 = some (.vptr V)∧qi e 4 = some d∧qi e 5 = some (.int .u64 (most:Nat))∧qi e 6 = some (.int .u64 (a:Nat))∧qi e 8 = some (.optr q 2 0)∧qi e 10 = some (.int .i64 k)) (fun k=>l.length - k) 0 ?_ ?_
 ·exact ⟨out,d,L,by omega,jx,J6,by omega,hIR,ZX,qU,fun hc=>hlq q hc (by simp),kO,by simp⟩
 clear hrow qU jp jR Xg kP KE har2 J4 x1 ZX kO hlq k0 k4 k5 k6 k7 jx J6 e1 e0 x0 hq0;rintro k e H ⟨out',d,L,hmo,jx,J6,hk,hD,hrow,qU,hqL,hq,k0,k4,k5,k6,k8,k10⟩;have Xg:out'.length≤b.l.length:=zT jx J6
 have jp:zf Tryz.prog 96 d = some (.int .i64 out'.length):=by
  rcases hrow with ⟨rfl,hcs,rfl⟩ | ⟨r,n,rfl,h2,h3,rfl⟩
  ·have:out'.length = 0:=(by have:=congrArg List.length hcs;rw [Z8] at this;exact this);rw [this];simp
  ·have:n = out'.length:=(by rw [Z8] at h2;omega);subst this;simp
 have jR:=qN (out'.length:Int) (out'.length:Int);have J4:=qes hrow qU;have Vk:zf Tryz.prog 96 (.vsl false (qK l) l.length) = some (.int .i64 l.length):=by simp
 by_cases qg:k < l.length
 rotate_left
 ·have qo:=zL qg;rw [Js (by omega),Vd] at hD;subst hD;simp [-qf,-zf,k0,k4,k5,k6,k8,k10,hq,Vk,qo,-jE];exact ⟨n,by omega,out',by simpa using jx,by simpa using J6,x,XC,a,by omega,by omega,hE,d,⟨L,hrow⟩,qU,by simp⟩
 have qo:=zI qg
 have qI:(qK l).drop k = .int .u64 (l[k]:Nat) :: qK (l.drop (k+1)):=by
  unfold qK;rw [← List.map_drop,zU qg];rfl
 have jb:=qx ((k:Int)+1) ((k+1:Nat):Int);have j6:=XO _ (v6 qg);rw [zU qg,Vd] at hD;generalize l[k] = y at *;have kP:=jo y;by_cases d1:out'.length = most
 ·rw [if_pos d1] at hD;subst hD;have d1':¬ (out'.length:Int) < (most:Int):=by omega
  simp [-qf,-zf,k0,k4,k5,k6,k8,k10,hq,Vk,qo,jp,jR,d1',-jE];exact ⟨n,by omega,out',by simpa using jx,by simpa using J6,x,XC,a,by omega,by omega,hE,d,⟨L,hrow⟩,qU,by simp⟩
 rw [if_neg d1] at hD;have d1':(out'.length:Int) < (most:Int):=by omega
 by_cases d2:Z6 b.l y = true
 ·rw [if_pos d2] at hD;rw [d2] at kP;subst hD;subst hE;simp [-qf,-zf,k0,k4,k5,k6,k8,k10,hq,Vk,qo,qI,jp,jR,d1',kP,-jE];exact J4 _
 rw [if_neg d2] at hD;have d2':Z6 b.l y = false:=by simpa using d2
 rw [d2'] at kP;by_cases d3:0 < out'.length∧y≤out'.getLastD 0
 ·rw [if_pos d3] at hD;subst hD;subst hE;have qQ:out'≠[]:=fun h0=>by rw [h0] at d3;simp at d3
  obtain ⟨r,n',rfl,h2,h3,rfl⟩:=hrow.own (by intro h;have h':=congrArg List.length h;rw [Z8,kp] at h';omega);have YB:n' = out'.length:=by simp at h2;omega
  subst YB;simp only [Z8] at jp k4 J4;have e1:(0:Int) < (out'.length:Int):=by omega
  have e1n:=d3.1;have e2:(y:Int)≤(out'.getLastD 0:Nat):=by omega
  have hw:=qx ((out'.length:Int) - 1) ((out'.length:Int) - 1);have JT:=qmQ qQ;have f1:((out'.length:Int) - 1).toNat = out'.length - 1:=by omega
  have f2:(0:Int)≤(out'.length:Int) - 1:=by omega
  have f3:out'.length - 1 < out'.length:=by omega
  have f4:(out'.length:Int) - 1 < (out'.length:Int):=by omega
  have f5:(1:Int)≤(out'.length:Int):=by omega
  generalize out'.getLastD 0 = z at *;simp [-qf,-zf,k0,k4,k5,k6,k8,k10,hq,Vk,qo,qI,jp,jR,d1',kP,e1n,e2,hw,JT,f1,f4,f5,h3,-jE];exact J4 _
 ·rw [if_neg d3] at hD
  have hy:1≤y∧y < b.l.length:=by
   unfold Z6 at d2';simp at d2';omega
  have Jc:(out' ++ [y]).getLastD 0 = y:=by simp
  obtain ⟨H2,e2⟩:=ql (qs H [.int .u64 (y:Nat)]);have x2:=jD e2;have g2:=kh e2;have jL:=x2.get hq (by simp);have r2:RowA H2 1 d (qK out') L:=hrow.ext x2 fun _ _=>by simp
  obtain ⟨d',H3,L3,hA,hR3,x3,n3⟩:=r2.append (P:=Tryz.prog) (st:=96) (xt:=96) (e:=24) (x:=.osl H.length 1 0 1 1) (xs:=[.int .u64 (y:Nat)]) (m:=1) (by simp) (by simp) (by simp [-qf,g2]) (by simp) (by omega) (by simp) (by omega) (by simp [qD];omega) (by simp [qD];omega);have ZA:=x3.get jL hqL;rw [← qer] at hR3
  have hqL3:q ∉ L3:=fun hc=>by
   have:=qA hq;have:=x2.len;rcases n3 q hc with h | h
   ·exact hqL h
   ·omega
  have hfin:(out' ++ [y]).length≤most∧(out' ++ [y]).length≤(out' ++ [y]).getLastD 0∧(out' ++ [y]).getLastD 0≤b.l.length:=by
   rw [Jc,zz,List.length_singleton];refine ⟨by omega,?_,by omega⟩;by_cases h0:0 < out'.length
   ·have:¬ y≤out'.getLastD 0:=fun h=>d3 ⟨h0,h⟩;omega
   ·omega
  by_cases h0:out' = []
  ·have hd:=qU h0;subst hd;have e1:¬ (0:Int) < (out'.length:Int):=(by rw [h0];simp);have e1n:¬ 0 < out'.length:=(by rw [h0];simp);simp [-qf,-qn,-qs,-qT,-zf,k0,k4,k5,k6,k8,k10,hq,Vk,qo,qI,jp,jR,d1',kP,e1n,e2,hA,jb,-jE];exact ⟨k+1,by omega,out' ++ [y],hfin.1,by simpa using hfin.2.1,by simpa using hfin.2.2,by omega,hD,d',L3,hR3,by simp,hqL3,ZA,rfl,by omega⟩
  ·obtain ⟨r,n',rfl,h2,h3,rfl⟩:=hrow.own (by intro h;have h':=congrArg List.length h;rw [Z8,kp] at h';exact h0 (List.length_eq_zero_iff.1 h'));have YB:n' = out'.length:=(by simp at h2;omega);subst YB
   have QT:0 < out'.length:=by
    cases out' with
    | nil=>exact absurd rfl h0
    | cons _ _=>simp
   simp only [Z8] at jp k4 hA;have e1:(0:Int) < (out'.length:Int):=(by omega);have JT:=qmQ h0;have e3:¬ (y:Int)≤(out'.getLastD 0:Nat):=fun h=>d3 ⟨QT,by omega⟩;have hw:=qx ((out'.length:Int) - 1) ((out'.length:Int) - 1);have f1:((out'.length:Int) - 1).toNat = out'.length - 1:=(by omega);have f2:(0:Int)≤(out'.length:Int) - 1:=(by omega);have f3:out'.length - 1 < out'.length:=(by omega);have f4:(out'.length:Int) - 1 < (out'.length:Int):=(by omega);have f5:(1:Int)≤(out'.length:Int):=(by omega);clear jx J6 Jc d3;generalize out'.getLastD 0 = z at *;simp [-qf,-qn,-qs,-qT,-zf,k0,k4,k5,k6,k8,k10,hq,Vk,qo,qI,jp,jR,d1',kP,QT,e2,e3,hw,JT,f1,f4,f5,h3,hA,jb,-jE];exact ⟨k+1,by omega,out' ++ [y],hfin.1,by simpa using hfin.2.1,by simpa using hfin.2.2,by omega,hD,d',L3,hR3,by simp,hqL3,ZA,rfl,by omega⟩
theorem qjv {b:List UInt8} {most:Nat}:∀ {l out:List Nat} {x:Nat},x∈(Vd b most l out).1→x∈out∨x < b.length
 | [],out,x,h=>.inl h
 | y :: l,out,x,h=>by
  rw [Vd] at h;split at h
  ·exact .inl h
  ·split at h
   ·exact .inl h
   ·rename_i h1 h2;split at h
    ·exact .inl h
    ·rcases qjv h with h3 | h3
     ·rcases List.mem_append.1 h3 with h4 | h4
      ·exact .inl h4
      ·rw [List.mem_singleton.1 h4];right;unfold Z6 at h2;simp at h2;omega
     ·exact .inr h3
theorem qrR {b:List UInt8} {sz most:Nat}:∀ {n:Nat} {out:List Nat} {a c x:Nat},x∈(XZ b sz most n out a c).1→x∈out∨x < b.length
 | 0,out,a,c,x,h=>.inl h
 | n+1,out,a,c,x,h=>by
  rw [XZ] at h;split at h
  ·exact .inl h
  ·split at h
   ·exact .inl h
   ·split at h
    ·exact .inl h
    ·split at h
     ·exact .inl h
     ·split at h
      ·rename_i out' c' he;have:=qjv (b:=b) (most:=most) (l:=(jP b a).tail) (out:=out) (x:=x) (by rw [he];exact h);exact this
      ·rename_i out' he;rcases qrR h with h3 | h3
       ·exact qjv (b:=b) (most:=most) (l:=(jP b a).tail) (out:=out) (x:=x) (by rw [he];exact h3)
       ·exact .inr h3
def qS (b:List UInt8):List Nat:=(Vr (zi b).l (qG b)).1
theorem qsK {b:List UInt8} {x:Nat} (h:x∈qS b):x < b.length:=by
 rcases qrR h with h1 | h1
 ·simp at h1
 ·refine jZ h1 ?_;simp [zi];omega
def KK (b:List UInt8) (g kn:D):List D:=[.vptr (qY (zi b) (qG b)),Z7 (qS b),.int .i64 ((Vr (zi b).l (qG b)).2:Nat),g,kn]
theorem q0H (b:List UInt8):XY b = KK b (.vsl true [] 0) (.bool false):=rfl
theorem qy8 [MaxL] {H:qe} {q:Nat} {b:List UInt8} {g kn:D} (hq:qf H q = some (KK b g kn)):call cx 42 [.optr q 5 0] H = some (.int .i64 (qS b).length,H):=by
 unfold KK Z7 at hq;refine vt Tryz.func42 rfl ⟨rfl,rfl⟩ ?_;simp [-qf,-qn,-qs,Tryz.f42,hq]
theorem qzk [MaxL] {H:qe} {q:Nat} {b:List UInt8} {g kn:D} (hq:qf H q = some (KK b g kn)) {i:Nat} (hi:i < (qS b).length) (_:(qS b).length≤1000000) {x:Int} (hx:x = i):call cx 124 [.optr q 5 0,.int .i64 x] H = some (.tup [.int .u64 ((qS b)[i]:Nat),.int .i64 0],H):=by
 subst hx;have qQ:¬ qS b = []:=fun h=>by rw [h] at hi;simp at hi
 unfold KK Z7 at hq
 have hd:(qK (qS b)).drop i = .int .u64 ((qS b)[i]:Nat) :: (qK (qS b)).drop (i+1):=by
  rw [zU (by simpa using hi)];simp [qK]
 have Qa:(i:Int) < ((qS b).length:Int):=by omega
 have JR:¬ (i:Int) < 0:=by omega
 have VH:¬ ((qS b).length:Int)≤(i:Int):=by omega
 generalize (qS b)[i] = y at *;refine vt Tryz.func124 rfl ⟨rfl,rfl⟩ ?_;simp [-qf,-qn,-qs,Tryz.f124,hq,qQ,hd,Qa,JR,VH]
theorem qqY (b:List UInt8):(qG b).incompat < 4294967296:=qec b 12
set_option maxHeartbeats 1000000 in
set_option maxRecDepth 8000 in
theorem qyp [MaxL] {H:qe} {q:Nat} {b:List UInt8} {g kn:D} (hq:qf H q = some (KK b g kn)) {i:Nat} (hi:i < (qS b).length) (hl:(qS b).length≤1000000) (hb:b.length≤1000000) {x:Int} (hx:x = i) :
  ∃ T,call cx 79 [.optr q 5 0,.int .i64 x] H = some (.tup [.agg (Z4 (zi b).l (qG b) (qS b)[i]),.int .i64 (ka (zi b).l (qG b) (qS b)[i]:Nat)],T)∧Ext [] H T:=by
 have qg:=qsK (v6 hi);have V9:(zi b).l.length≤1000000:=by simp [zi];omega
 have hr:=qtv (zi b) (qG b) (qqY b) V9 (qS b)[i] (by omega);have KH:=qfh (zi b).l (qG b) (qS b)[i];have JC:=qfi (zi b).l (qG b) (qS b)[i];obtain ⟨p,hp⟩:=ql (H.length);obtain ⟨H1,e1⟩:=ql (qs H ki);have x1:=jD e1;have hq1':=x1.get hq (by simp);have kO:=hq1';unfold KK at kO;obtain ⟨y,hy⟩:=ql ((qS b)[i]);rw [hy] at qg hr KH JC ⊢;generalize Z4 (zi b).l (qG b) y = R at *;generalize ka (zi b).l (qG b) y = c at *;generalize qY (zi b) (qG b) = V at *;have g1:qf H1 p = some ki:=by rw [← e1,← hp,zA]
 have Vm:=qzk (b:=b) (g:=g) (kn:=kn) (H:=H1) hq1' hi hl hx;rw [hy] at Vm;have hCs:=zsh JC;have jc:List.take 20 R = R:=qP (by omega);have JT:List.drop 20 R = []:=List.drop_of_length_le (by omega);have XV:=Xz JC;obtain ⟨T,eT⟩:=ql (qn H1 p R);have gT:=Qx eT g1;simp only [ki] at e1 g1;refine ⟨T,vt Tryz.func79 rfl ⟨rfl,rfl⟩ ?_,?_⟩
 ·simp [-qf,-qn,-qs,Tryz.f79,hp,e1,Vm,kO,hr,g1,KH,JC,jc,XV,eT,gT]
 ·exact ⟨by rw [← eT,Qo];exact x1.len,fun i hi _=>by rw [← eT,zN (by omega)];exact x1.out i hi (by simp)⟩
def jQ (l:List Nat):List D:=l.map fun i=>.int .i64 (i:Nat)
theorem qgQ (l:List Nat):(jQ l).all idFree = true:=by
 rw [qeH];intro x hx;obtain ⟨c,_,rfl⟩:=List.mem_map.1 hx;rfl
set_option maxRecDepth 8000 in
theorem qz7 [MaxL] (l:List Nat) (hl:l.length≤1000000):call cx 80 [if l = [] then .vsl true [] 0 else .vsl false (jQ l) l.length] [] = if l = [] then some (.vsl true [] 0,[]) else some (.osl 0 l.length 0 l.length 1,[some (jQ l)]):=by
 by_cases h:l = []
 ·rw [if_pos h,if_pos h];refine qy Tryz.func80 rfl ⟨rfl,rfl⟩ ?_;simp [Tryz.f80]
 ·rw [if_neg h,if_neg h];have h2:l.length * 8≤140737488355328:=by omega
  have h3:l.length≤140737488355328:=by omega
  have hL:(jQ l).length = l.length:=by simp [jQ]
  have hLf:=qgQ l;have hLI:=Z3 hLf;have YM:=Xy hLf;have ht:List.take l.length (jQ l) = jQ l:=qP (by omega);generalize jQ l = L at *;refine qy Tryz.func80 rfl ⟨rfl,rfl⟩ ?_;simp [Tryz.f80,qD,h2,h3,hL,YM]
def Zb (b:List UInt8):List D:=[.vptr (vc (zi b) (qG b)),Z7 (qS b),.int .i64 ((Vr (zi b).l (qG b)).2:Nat)]
theorem qfe (b:List UInt8):idFree.idFreeL (Zb b) = true:=by
 have:=qaZ (zi b) (qG b);simp [Zb,Z7,idFree.idFreeL,idFree]
theorem qvz [MaxL] (s:Sl UInt8) (hl:s.l.length≤1000000):call cx 36 [(.vsl s.nil (qd s.l) s.l.length)] [] = some (.tup [if zy s.l = 0 then .vptr (Zb s.l) else .nilp,.int .i64 (zy s.l:Nat)],[]):=by
 have ho:=qvy s hl;refine qy Tryz.func36 rfl ⟨rfl,rfl⟩ ?_;by_cases h0:zy s.l = 0
 ·rw [if_pos h0,h0] at ho;rw [if_pos h0,h0];have V9:(zi s.l).l.length≤1000000:=by simp [zi];omega
  have he:=qvJ (zi s.l) (qG s.l) V9 (qaD _ _) (qaD _ _);have YL:=qaZ (zi s.l) (qG s.l);have qI:(Vr (zi s.l).l (qG s.l)).1 = qS s.l:=rfl;rw [qI] at he;unfold Zb;unfold Z7 at he ⊢;generalize vc (zi s.l) (qG s.l) = V at *;generalize qS s.l = A at *;generalize (Vr (zi s.l).l (qG s.l)).2 = C at *;have ho2:call cx 74 [(.vsl s.nil (qd s.l) s.l.length)] [] = some (.tup [.vptr V,.int .i64 0],[]):=ho;simp [Tryz.f36,ho2,he]
 ·rw [if_neg h0] at ho;rw [if_neg h0];have qM:(((zy s.l:Nat):Int) != 0) = true:=kr;generalize zy s.l = c at *;simp [Tryz.f36,ho,qM]
set_option maxHeartbeats 1000000 in
set_option maxRecDepth 4000 in
theorem qlP [MaxL] (b:List UInt8) (hb:b.length≤1000000) {i:Nat} (hi:i < (qS b).length) (_:(qS b).length≤1000000) {x:Int} (hx:x = i):call cx 76 [.vptr (Zb b),.int .i64 x] [] = some (.tup [.agg (Z4 (zi b).l (qG b) (qS b)[i]),.int .i64 (ka (zi b).l (qG b) (qS b)[i]:Nat)],[]):=by
 subst hx;have qg:=qsK (v6 hi);have V9:(zi b).l.length≤1000000:=by simp [zi];omega
 have hr:=qu9 (zi b) (qG b) (qqY b) V9 (qS b)[i] (by omega);have KH:=qfh (zi b).l (qG b) (qS b)[i];have JC:=qfi (zi b).l (qG b) (qS b)[i];have YL:=qaZ (zi b) (qG b)
 have hd:(qK (qS b)).drop i = .int .u64 ((qS b)[i]:Nat) :: (qK (qS b)).drop (i+1):=by
  rw [zU (by simpa using hi)];simp [qK]
 have qQ:¬ qS b = []:=fun h=>by rw [h] at hi;simp at hi
 unfold Zb Z7;generalize vc (zi b) (qG b) = V at *;generalize (qS b)[i] = y at *;generalize Z4 (zi b).l (qG b) y = R at *;generalize ka (zi b).l (qG b) y = c at *;have Qa:(i:Int) < ((qS b).length:Int):=by omega
 have JR:¬ (i:Int) < 0:=by omega
 have VH:¬ ((qS b).length:Int)≤(i:Int):=by omega
 have hCs:=zsh JC;have jc:List.take 20 R = R:=qP (by omega);have JT:List.drop 20 R = []:=List.drop_of_length_le (by omega);have XV:=Xz JC;refine qy Tryz.func76 rfl ⟨rfl,rfl⟩ ?_;simp [Tryz.f76,qQ,hd,Qa,JR,VH,hr,KH,JC,jc,XV]
def XA (l:List Nat):D:=.vsl (decide (l = [])) (jQ l) l.length
theorem qqx (l:List Nat) (x:Nat):jQ (l ++ [x]) = jQ l ++ [.int .i64 (x:Nat)]:=by simp [jQ]
theorem qfx (l:List Nat):(jQ l).length = l.length:=by simp [jQ]
def Qs (b:List UInt8):List Nat:=JE (zi b).l (qG b) (qS b) 0 0
theorem qmf {b:List UInt8} {h:HdP} {a:Nat} (hc:ka b h a = 0):∃ r,Z4 b h a = .int .u64 (qC (qB b a) 0:Nat) :: r:=by
 unfold Z4;rw [if_pos hc,Rec.cells];exact ⟨_,rfl⟩
theorem qmg {b:List UInt8} {h:HdP} {a:Nat} (hc:¬ ka b h a = 0):∃ r,Z4 b h a = .int .u64 0 :: r:=by
 unfold Z4;rw [if_neg hc];exact ⟨_,rfl⟩
set_option maxHeartbeats 2000000 in
set_option maxRecDepth 8000 in
theorem qlO [MaxL] (b:List UInt8) (hb:b.length≤1000000) (hl:(qS b).length≤1000000):call cx 45 [.vptr (Zb b)] [] = some (XA (Qs b),[]):=by
 have VB:=fun {i} hi x hx=>qlP b hb (i:=i) hi hl (x:=x) hx;have XU:=qfe b;have hF:∃ V c,Zb b = [.vptr V,.vsl (decide (qS b = [])) (qK (qS b)) (qS b).length,.int .i64 c]:=⟨_,_,rfl⟩;obtain ⟨V,c,hF⟩:=hF;obtain ⟨R,hR⟩:=ql (Qs b);have hR0:JE (zi b).l (qG b) (qS b) 0 0 = R:=hR;rw [hR];refine qy Tryz.func45 rfl ⟨rfl,rfl⟩ ?_;simp [Tryz.f45]
 refine Run.loopThen (fun (k:Nat) e H=>k≤(qS b).length∧qi e 0 = some (.vptr (Zb b))∧qi e 5 = some (.int .i64 k)∧∃ (g:List Nat) (last:Nat),qi e 4 = some (.int .u64 last)∧g.length≤k∧g ++ JE (zi b).l (qG b) ((qS b).drop k) k last = R ∧
  ((g = []∧qi e 3 = some (.vsl true [] 0)∧H = [])∨(g≠[]∧qi e 3 = some (.osl 0 g.length 0 g.length 1)∧H = [some (jQ g)]))) (fun k=>(qS b).length - k) 0 ?_ ?_
 ·exact ⟨by omega,by simp,by simp,[],0,by simp,by simp,by simpa using hR0,.inl ⟨rfl,by simp,by simp⟩⟩
 rintro k e H ⟨hk,k0,k5,g,last,k4,Jc,hE,hS⟩;by_cases qg:k < (qS b).length
 ·have qo:(k:Int) < ((qS b).length:Int):=by omega
  have hw:=qx ((k:Int)+1) ((k+1:Nat):Int);have hr:=VB qg (k:Int) rfl;rw [hF] at hr;have KH:=qfh (zi b).l (qG b) (qS b)[k];have JC:=qfi (zi b).l (qG b) (qS b)[k];rw [zU qg,JE] at hE;have Qb:=qgQ g;have hgiL:=Z3 Qb;have hgiA:=Xy Qb;have YF:=qfx g;have hsn:=qqx g k;generalize (qS b)[k] = y at *;by_cases hc:ka (zi b).l (qG b) y = 0
  ·obtain ⟨r,Vf⟩:=qmf hc;rw [hc] at hr;rw [Vf] at hr KH JC;have QK:r.length = 19:=(by simpa using KH);have Zr:idFree.idFreeL r = true:=(by simpa [idFree.idFreeL,idFree] using JC);have hrs:=zsh Zr;have Qp:=Xz Zr;generalize qC (qB (zi b).l y) 0 = sq at *;by_cases h2:last < sq
   ·rw [if_pos ⟨hc,h2⟩] at hE;have zH:=zI h2;have hE2:(g ++ [k]) ++ JE (zi b).l (qG b) ((qS b).drop (k+1)) (k+1) sq = R:=(by rw [← hE];simp);have Ze:(g.length+1) * 8≤140737488355328:=(by omega);have hx2:g.length+1≤140737488355328:=(by omega);rcases hS with ⟨rfl,k3,rfl⟩ | ⟨hg0,k3,rfl⟩
    ·simp [k0,k3,k4,k5,qo,hF,hw,hr,QK,Zr,Qp,zH,qD];exact ⟨k+1,by omega,by omega,by omega,[k],sq,rfl,by simp,by simpa using hE2,by simp,rfl,rfl⟩
    ·simp [k0,k3,k4,k5,qo,hF,hw,hr,QK,Zr,Qp,zH,qD,hgiA,YF,Ze,hx2];exact ⟨k+1,by omega,by omega,by omega,g ++ [k],sq,rfl,by simp;omega,hE2,by simp,by simp,hsn.symm⟩
   ·rw [if_neg (fun h=>h2 h.2)] at hE;have zH:=zL h2;rcases hS with ⟨rfl,k3,rfl⟩ | ⟨hg0,k3,rfl⟩
    ·simp [k0,k3,k4,k5,qo,hF,hw,hr,QK,Zr,Qp,zH];exact ⟨k+1,by omega,by omega,by omega,[],last,rfl,by simp,by simpa using hE,rfl⟩
    ·simp [k0,k3,k4,k5,qo,hF,hw,hr,QK,Zr,Qp,zH,hgiA];exact ⟨k+1,by omega,by omega,by omega,g,last,rfl,by omega,hE,hg0,rfl,rfl⟩
  ·rw [if_neg (fun h=>hc h.1)] at hE;obtain ⟨r,Vf⟩:=qmg hc;have VJ:¬ ((ka (zi b).l (qG b) y:Nat):Int) = 0:=(by omega);rw [Vf] at hr KH JC;have QK:r.length = 19:=(by simpa using KH);have Zr:idFree.idFreeL r = true:=(by simpa [idFree.idFreeL,idFree] using JC);have hrs:=zsh Zr;have Qp:=Xz Zr;generalize ka (zi b).l (qG b) y = cc at *;rcases hS with ⟨rfl,k3,rfl⟩ | ⟨hg0,k3,rfl⟩
   ·simp [k0,k3,k4,k5,qo,hF,hw,hr,QK,Zr,Qp,hc];exact ⟨k+1,by omega,by omega,by omega,[],last,rfl,by simp,by simpa using hE,rfl⟩
   ·simp [k0,k3,k4,k5,qo,hF,hw,hr,QK,Zr,Qp,hc,hgiA];exact ⟨k+1,by omega,by omega,by omega,g,last,rfl,by omega,hE,hg0,rfl,rfl⟩
 ·have qo:¬ (k:Int) < ((qS b).length:Int):=by omega
  rw [List.drop_of_length_le (by omega),JE,KO] at hE;subst hE;have Qb:=qgQ g;have hgiL:=Z3 Qb;have YF:=qfx g;have hgt:List.take g.length (jQ g) = jQ g:=qP (by omega);rcases hS with ⟨rfl,k3,rfl⟩ | ⟨hg0,k3,rfl⟩
  ·simp [k0,k3,k4,k5,hF,qo,XA,jQ]
  ·simp [k0,k3,k4,k5,hF,qo,XA,hgiL,YF,hgt,hg0]
theorem qj9 {b:List UInt8} {h:HdP}:∀ {l:List Nat} {i last x:Nat},x∈JE b h l i last→∃ j,∃ hj:j < l.length,x = i+j∧ka b h l[j] = 0
 | [],i,last,x,hx=>by simp [JE] at hx
 | a :: l,i,last,x,hx=>by
  rw [JE] at hx;split at hx
  ·rename_i hc;rcases List.mem_cons.1 hx with rfl | hx
   ·exact ⟨0,by simp,by omega,hc.1⟩
   ·obtain ⟨j,hj,rfl,h2⟩:=qj9 hx;exact ⟨j+1,by simp;omega,by omega,h2⟩
  ·obtain ⟨j,hj,rfl,h2⟩:=qj9 hx;exact ⟨j+1,by simp;omega,by omega,h2⟩
theorem q0m {b:List UInt8} {x:Nat} (hx:x∈Qs b):∃ hx2:x < (qS b).length,ka (zi b).l (qG b) (qS b)[x] = 0:=by
 obtain ⟨j,hj,h1,h2⟩:=qj9 hx;have:x = j:=by omega
 subst this;exact ⟨hj,h2⟩
theorem qf3 {b:List UInt8} {h:HdP}:∀ {l:List Nat} {i last:Nat},(JE b h l i last).length≤l.length
 | [],i,last=>by simp [JE]
 | a :: l,i,last=>by
  rw [JE];split
  ·simp only [vn];have:=qf3 (b:=b) (h:=h) (l:=l) (i:=i+1) (last:=qC (qB b a) 0);omega
  ·simp only [vn];have:=qf3 (b:=b) (h:=h) (l:=l) (i:=i+1) (last:=last);omega
def X5 (b:List UInt8):List Rec:=(Qs b).map fun i=>X6 (zi b).l ((qS b).getD i 0)
def qak (b:List UInt8):D:=.vsl (decide (X5 b = [])) (qu (X5 b)) (X5 b).length
set_option maxHeartbeats 2000000 in
set_option maxRecDepth 8000 in
theorem qvq [MaxL] (b:List UInt8) (hb:b.length≤1000000) (hl:(qS b).length≤1000000):call cx 37 [.vptr (Zb b)] [] = some (qak b,[]):=by
 have VB:=fun {i} hi x hx=>qlP b hb (i:=i) hi hl (x:=x) hx;have hgood:=qlO b hb hl;have XU:=qfe b;have JO:=fun {x} hx=>q0m (b:=b) (x:=x) hx;have Jc:(Qs b).length≤1000000:=zT qf3 hl;obtain ⟨F,hF⟩:=ql (Zb b);rw [hF] at hgood XU;have QK:(X5 b).length = (Qs b).length:=by simp [X5]
 unfold XA at hgood;unfold qak;obtain ⟨G,hG⟩:=ql (Qs b);rw [hG] at hgood JO Jc QK
 have hre:∀ k (hk:k < G.length),(X5 b).take (k+1) = (X5 b).take k ++ [X6 (zi b).l ((qS b).getD G[k] 0)]:=by
  intro k hk;rw [VV (by omega)];congr 2;simp [X5,hG]
 obtain ⟨R,hR⟩:=ql (X5 b);rw [hR] at QK hre ⊢;refine qy Tryz.func37 rfl ⟨rfl,rfl⟩ ?_;simp [Tryz.f37,hF,hgood]
 refine Run.loopThen (fun (k:Nat) e H=>k≤G.length∧qi e 0 = some (.vptr F)∧qi e 3 = some (.vsl (decide (G = [])) (jQ G) G.length)∧qi e 5 = some (.int .i64 k) ∧
  ((k = 0∧qi e 4 = some (.vsl true [] 0)∧H = [])∨(0 < k∧qi e 4 = some (.osl 0 (20 * k) 0 k 20)∧H = [some (qu (R.take k))]))) (fun k=>G.length - k) 0 ?_ ?_
 ·exact ⟨by omega,by simp,by simp,by simp,.inl ⟨rfl,by simp,by simp⟩⟩
 rintro k e H ⟨hk,k0,k3,k5,hS⟩;by_cases qg:k < G.length
 ·have qo:=zI qg;have hw:=qx ((k:Int)+1) ((k+1:Nat):Int)
  have hd:(jQ G).drop k = .int .i64 (G[k]:Nat) :: (jQ G).drop (k+1):=by
   rw [zU (by rw [qfx];exact qg)];simp [jQ]
  have qQ:¬ G = []:=fun h=>by rw [h] at qg;simp at qg
  obtain ⟨hx2,XD⟩:=JO (v6 qg);have hr:=VB hx2 (G[k]:Nat) rfl;have hre1:=hre k qg;have hgd:(qS b).getD G[k] 0 = (qS b)[G[k]]:=by simp [hx2]
  rw [hgd] at hre1;rw [hF,XD] at hr;have hT:Z4 (zi b).l (qG b) (qS b)[G[k]] = Enc.cells (X6 (zi b).l (qS b)[G[k]]):=by unfold Z4;rw [if_pos XD]
  rw [hT] at hr
  have hEs:qu (R.take (k+1)) = qu (R.take k) ++ Enc.cells (X6 (zi b).l (qS b)[G[k]]):=by
   rw [hre1];simp [qu]
  have hEl:(qu (R.take k)).length = 20 * k:=by
   rw [qaP (n:=20) rfl,jU];omega
  generalize X6 (zi b).l (qS b)[G[k]] = r at *;have hEf:idFree.idFreeL (qu (R.take k)) = true:=by simp
  have hCl:(Enc.cells r:List D).length = 20:=by simp
  have YP:=Enc.free r;generalize qu (R.take k) = E at *;generalize (G[k]) = y at *;generalize hCC:(Enc.cells r:List D) = C at *;have hCfL:=Z3 YP;have hCs:=zsh hCfL;have jc:List.take 20 C = C:=qP (by omega);have JT:List.drop 20 C = []:=List.drop_of_length_le (by omega);have XV:=KR YP;have YR:k * 20 = 20 * k:=by omega
  have hCi:=Xy YP;have hEi:=zfb hEf;have Ze:(k+1) * 64≤140737488355328:=by omega
  have hx2:k+1≤140737488355328:=by omega
  rcases hS with ⟨j7,k4,rfl⟩ | ⟨j7,k4,rfl⟩
  ·subst j7;have hE0:E = []:=List.length_eq_zero_iff.1 (by omega);rw [hE0,Qu] at hEs;simp [k0,k3,k4,k5,qg,hd,qQ,hr,hCl,hCfL,jc,XV,hCi,qD];exact ⟨1,by omega,by omega,by omega,by omega,⟨rfl,rfl⟩,hEs.symm⟩
  ·have hne0:¬ k = 0:=(by omega);simp [k0,k3,k4,k5,qo,hw,hd,qQ,hr,hCl,hCfL,jc,XV,hCi,qD,hEl,hEi,YR,Ze,hx2];exact ⟨k+1,by omega,by omega,by omega,by omega,⟨by omega,rfl⟩,hEs.symm⟩
 ·have qo:=zL qg;have hkn:k = G.length:=by omega
  subst hkn;rcases hS with ⟨j7,k4,rfl⟩ | ⟨j7,k4,rfl⟩
  ·have hR0:R = []:=List.length_eq_zero_iff.1 (by omega);subst hR0;simp [k0,k3,k4,k5,qo]
  ·rw [← QK,List.take_length]
   have hEl:(qu R).length = 20 * R.length:=by
    rw [qaP (n:=20) rfl];omega
   have hEf:idFree.idFreeL (qu R) = true:=(by simp);have htE:List.take (R.length * 20) (qu R) = qu R:=qP (by omega);have zX:R.length * 20≤20 * R.length:=(by omega);have qQ:¬ R = []:=fun h=>by rw [h] at QK;simp at QK;omega
   rw [← QK] at k4 k5 k3 qo;generalize qu R = E at *;simp [k0,k3,k4,k5,qo,hEl,hEf,htE,zX,qQ]
theorem qvZ [MaxL] [TxtC]:call cx 223 [.int .i64 16] [] = some (.bool true,[]):=call_some.2 ⟨60,by kernel_rfl⟩
theorem qtE [MaxL] [TxtC]:call cx 224 [.int .u64 16] [] = some (.int .i64 4,[]):=call_some.2 ⟨100,by kernel_rfl⟩
def qfS (v i u:Nat) (s:List UInt8):Prop:= ∃ g,1≤g∧g≤16∧i = 49+g∧s.length+g = 16∧u < 16 ^ g∧JS g u ++ s = hx v
theorem qzH {v i u:Nat} {s:List UInt8} (h:qfS v i u s) (hu:16≤u):51≤i∧qfS v (i - 1) (u / 16) (vU (u % 16) :: s):=by
 obtain ⟨g,h1,h2,rfl,h4,h5,h6⟩:=h;obtain ⟨f,rfl⟩:∃ f,g = f+1:=⟨g - 1,by omega⟩
 have hf:1≤f:=by
  rcases f with _ | f
  ·simp at h5;omega
  ·omega
 refine ⟨by omega,f,hf,by omega,by omega,by simp;omega,by rw [qdu] at h5;omega,?_⟩;rw [JS,if_neg (by omega)] at h6;simpa using h6
theorem qzJ {v i u:Nat} {s:List UInt8} (h:qfS v i u s) (hu:u < 16):vU u :: s = hx v∧50≤i∧i≤65∧i+s.length = 65:=by
 obtain ⟨g,h1,h2,rfl,h4,h5,h6⟩:=h;obtain ⟨f,rfl⟩:∃ f,g = f+1:=⟨g - 1,by omega⟩;rw [JS,if_pos hu] at h6;exact ⟨by simpa using h6,by omega,by omega,by omega⟩
theorem qzI {v i u:Nat} {s:List UInt8} (h:qfS v i u s):i+s.length = 65∧50≤i:=by
 obtain ⟨g,h1,h2,rfl,h4,h5,h6⟩:=h;omega
theorem qr6 {i j:Nat} (hi:i = j+1) (s:List UInt8) (c:UInt8):zM (List.replicate i (D.int .u8 0) ++ qd s) j [.int .u8 c.toNat] = List.replicate j (.int .u8 0) ++ qd (c :: s):=by
 rw [hi];exact q0G j s c
set_option maxHeartbeats 2000000 in
theorem q0K [MaxL] [TxtC] (v:Nat) (hv:v < 18446744073709551616):call cx 177 [.vsl true [] 0,.int .u64 v,.int .i64 16,.bool false,.bool false] [] = some (.tup [.vsl true [] 0,.str (hx v)],[]):=by
 have h1:=qvZ;have h2:=qtE;have w16:IntKind.u64.wrap 16 = 16:=by decide
 have w15:IntKind.u64.wrap 15 = 15:=by decide
 have w4:IntKind.u64.wrap 4 = 4:=by decide
 refine qy Tryz.func177 rfl ⟨rfl,rfl⟩ ?_;simp [-List.reduceReplicate,Tryz.f177,h1,h2,w16,w15,w4]
 refine Run.loopThen (fun (q:Nat × Nat × List UInt8) e H'=>qfS v q.1 q.2.1 q.2.2∧q.2.1 < 18446744073709551616∧H' = [some (List.replicate q.1 (.int .u8 0) ++ qd q.2.2)] ∧
   qi e 0 = some (.vsl true [] 0)∧qi e 1 = some (.int .u64 (q.2.1:Nat))∧qi e 3 = some (.bool false)∧qi e 4 = some (.bool false)∧qi e 10 = some (.vsl true [] 0)∧qi e 11 = some (.str [])∧qi e 12 = some (.optr 0 65 0) ∧
   qi e 13 = some (.int .i64 (q.1:Nat))∧qi e 14 = some (.int .u64 4)∧qi e 15 = some (.int .u64 16)∧qi e 16 = some (.int .u64 15)) (fun q=>q.2.1) (65,v,[]) ?_ ?_
 ·refine ⟨⟨16,by omega,by omega,by omega,by simp,by omega,by simp [hx]⟩,hv,?_,?_⟩
  ·show [some (List.replicate 65 (D.int .u8 0))] = [some (List.replicate 65 (D.int .u8 0) ++ [])];rw [KO]
  ·simp
 rintro ⟨i,u,s⟩ e H' ⟨hI,hu,rfl,k0,k1,k3,k4,k10,k11,k12,k13,k14,k15,k16⟩;simp only at hI hu k1 k13;obtain ⟨hl,h50⟩:=qzI hI;obtain ⟨j,hj⟩:∃ j,i = j+1:=⟨i - 1,by omega⟩;have hw:=qx ((i:Int) - 1) (j:Int);have hj65:(j:Int) < 65:=by omega
 have QV:j+1≤i+s.length:=by omega
 have hj64:j≤64:=by omega
 by_cases Ji:16≤u
 ·have VN:(16:Int)≤(u:Int):=by omega
  obtain ⟨h51,hS⟩:=qzH hI Ji;have ha:=q3f hu;have hd:=qsh (u % 16) (Yh _ (by decide));simp only [qjX] at hd;have hf:=qr7 u;have hst:=qr6 hj s (vU (u % 16));have e1:i - 1 = j:=by omega
  rw [e1] at hS;have hu2:u / 16 < u:=by omega
  have hu3:u / 16 < 18446744073709551616:=by omega
  generalize u / 16 = u2 at *;generalize vU (u % 16) = c at *;obtain ⟨m,hm⟩:∃ m,m = u % 16:=⟨_,rfl⟩;rw [← hm] at ha hd;simp [-qcj,k0,k1,k3,k4,k10,k11,k12,k13,k14,k15,k16,VN,hw,hj65,hj64,hl,ha,hd,hst];have hp4:(2:Int) ^ min 4 IntKind.u64.bits = 16:=by decide
  exact ⟨j,u2,hu2,c :: s,hS,hu3,by simp [hp4,hf]⟩
 ·have VN:¬ (16:Int)≤(u:Int):=by omega
  obtain ⟨hE,_,_,_⟩:=qzJ hI (by omega);have hd:=qsh u (by omega);simp only [qjX] at hd;have hst:=qr6 hj s (vU u)
  have JT:List.take (65 - j) (List.drop j (List.replicate j (D.int .u8 0) ++ qd (vU u :: s))) = qd (hx v):=by
   rw [kE (by simp),hE];refine qP ?_;rw [← hE];simp;omega
  have YD:(j:Int)≤65:=by omega
  have hj3:j≤65:=by omega
  have hj4:j < 65:=by omega
  have hl3:j+(65 - j) = 65:=by omega
  have hl4:j+(hx v).length = 65:=by rw [← hE];simp;omega
  have hlh:(hx v).length = 65 - j:=by rw [← hE];simp;omega
  have XP:j+(qd (vU u :: s)).length = 65:=by simp;omega
  simp only [hE] at hst JT XP;generalize vU u = c at *;simp [-qcj,k0,k1,k3,k4,k10,k11,k12,k13,k14,k15,k16,VN,hw,hj65,hj64,hl,hd,hst,YD,hj4,hl3,hlh]
theorem q0t [MaxL] [TxtC] (v:Nat) (hv:v < 18446744073709551616):call cx 117 [.int .u64 v,.int .i64 16] [] = some (.str (hx v),[]):=by
 have h:=q0K v hv;refine qy Tryz.func117 rfl ⟨rfl,rfl⟩ ?_;simp [Tryz.f117,h]
theorem q0u [MaxL] [TxtC] (v:Nat) (hv:v < 18446744073709551616):call cx 77 [.int .u64 v,.int .i64 16] [] = some (.str (hx v),[]):=by
 have h:=q0t v hv;refine qy Tryz.func77 rfl ⟨rfl,rfl⟩ ?_;simp [Tryz.f77,h]
theorem qwC (a b:UInt8):JK .u8 (a.toNat:Int) (b.toNat:Int) = ((a ||| b).toNat:Int):=by
 unfold JK;have h:=(a ||| b).toNat_lt
 have e:(BitVec.ofInt IntKind.u8.bits (a.toNat:Int) ||| BitVec.ofInt IntKind.u8.bits (b.toNat:Int)).toNat = (a ||| b).toNat:=by
  simp [IntKind.bits];rfl
 rw [e,qdx];omega
theorem qne [MaxL] [TxtC] (c:UInt8):call cx 144 [.int .u8 c.toNat] [] = some (.int .u8 ((c ||| 32).toNat:Int),[]):=by
 have h:=qwC c 32;have h':JK .u8 (c.toNat:Int) 32 = ((c ||| 32).toNat:Int):=h;refine qy Tryz.func144 rfl ⟨rfl,rfl⟩ ?_;simp [Tryz.f144,h']
theorem q3i {p:UInt8→Bool} (h:((List.range 256).all fun k=>p (UInt8.ofNat k)) = true) (c:UInt8):p c = true:=by
 have:=List.all_eq_true.1 h c.toNat (List.mem_range.2 c.toNat_lt);rw [UInt8.ofNat_toNat] at this;exact this
theorem qnf {c:UInt8} (h:c.toNat < 48):(c ||| 32).toNat < 97:=by
 have:=q3i (p:=fun c=>decide (c.toNat < 48) == false || decide ((c ||| 32).toNat < 97)) (by decide +kernel) c;simpa [h] using this
theorem qng {c:UInt8} (h:c.toNat = 95):122 < (c ||| 32).toNat:=by
 simp [h]
def qe4 (c:UInt8):Option Nat:=if 48≤c.toNat∧c.toNat≤57 then some (c.toNat - 48) else if 97≤(c ||| 32).toNat∧(c ||| 32).toNat≤122 then some ((c ||| 32).toNat - 97+10) else none
def Qn (b:Nat):List UInt8→Nat→Option Nat
 | [],n=>some n
 | c :: l,n=>match qe4 c with
  | none=>none
  | some d=>if b≤d then none else if 18446744073709551616≤n * b+d then none else Qn b l (n * b+d)
def pu (b:Nat) (s:List UInt8):Option Nat:=if s = [] then none else Qn b s 0
theorem qfY {x d:Nat} (hx:x < 18446744073709551616) (hd:d < 16) (h:18446744073709551616≤x+d):IntKind.u64.wrap ((x:Int)+(d:Int)) < (x:Int):=by
 simp only [IntKind.wrap,IntKind.signed,IntKind.bits];simp;omega
theorem qml (b:Nat):∀ (l:List UInt8) (n v:Nat),n < 18446744073709551616→Qn b l n = some v→v < 18446744073709551616
 | [],n,v,hn,h=>by simp [Qn] at h;omega
 | c :: l,n,v,hn,h=>by
  unfold Qn at h;split at h
  ·cases h
  ·split at h
   ·cases h
   ·split at h
    ·cases h
    ·exact qml b l _ v (by omega) h
set_option maxHeartbeats 2000000 in
set_option maxRecDepth 4000 in
theorem qvU [MaxL] [TxtC] (b:Nat) (hb:b = 10∨b = 16) (s:List UInt8) (hs:s.length < 4611686018427387904) :
  (∃ n,pu b s = some n∧call cx 102 [.str s,.int .i64 b,.int .i64 64] [] = some (.tup [.int .u64 n,.nili],[])) ∨
  (pu b s = none∧∃ (x:Nat) (c:Int),(c = 1∨c = 2)∧call cx 102 [.str s,.int .i64 b,.int .i64 64] [] = some (.tup [.int .u64 x,.iface 246 (.int .i64 c)],[])):=by
 suffices h:∃ r,call cx 102 [.str s,.int .i64 b,.int .i64 64] [] = some r∧((∃ n,pu b s = some n∧r = (.tup [.int .u64 n,.nili],[]))∨(pu b s = none∧∃ (x:Nat) (c:Int),(c = 1∨c = 2)∧r = (.tup [.int .u64 x,.iface 246 (.int .i64 c)],[]))) by
  obtain ⟨r,h1,⟨n,h2,rfl⟩ | ⟨h2,x,c,h3,rfl⟩⟩:=h
  ·exact .inl ⟨n,h2,h1⟩
  ·exact .inr ⟨h2,x,c,h3,h1⟩
 refine VR (fun r=>(∃ n:Nat,pu b s = some n∧r = (D.tup [.int .u64 n,.nili],[]))∨(pu b s = none∧∃ (x:Nat) (c:Int),(c = 1∨c = 2)∧r = (D.tup [.int .u64 x,.iface 246 (.int .i64 c)],[]))) Tryz.func102 rfl ⟨rfl,rfl⟩ ?_;by_cases h0:s = []
 ·subst h0;simp [Tryz.f102,pu];exact ⟨0,rfl⟩
 ·have QT:s.length≠0:=by simpa using h0
  have QB:(2:Int)≤(b:Int):=by omega
  have hc36:(b:Int)≤36:=by omega
  have hbz:¬ (b:Int) = 0:=by omega
  have Zt:IntKind.u64.wrap (IntKind.u64.wrap (2 ^ min 64 IntKind.u64.bits) - 1) = 18446744073709551615:=by decide
  have Q5:pu b s = Qn b s 0:=by rw [pu,if_neg h0]
  rcases hb with rfl | rfl
  ·simp [Tryz.f102,h0,Zt];refine Run.loopThen (fun (z:Nat × Nat) e H'=>z.1≤s.length∧z.2 < 18446744073709551616∧Qn 10 (s.drop z.1) z.2 = Qn 10 s 0∧H' = [some (qd s)]∧qi e 1 = some (.int .i64 10)∧qi e 8 = some (.bool false)∧qi e 9 = some (.str s)∧qi e 10 = some (.int .u64 1844674407370955162)∧qi e 11 = some (.int .u64 18446744073709551615)∧qi e 12 = some (.bool false)∧qi e 13 = some (.int .u64 (z.2:Nat))∧qi e 99 = some (.osl 0 s.length 0 s.length 1)∧qi e 100 = some (.int .i64 s.length)∧qi e 101 = some (.int .i64 (z.1:Nat))) (fun z=>s.length - z.1) (0,0) (by simp) ?_;rintro ⟨i,n⟩ e H' ⟨hi,hn,hp,rfl,h1,h8,h9,Qg,Qe,vG,kJ,Qd,Qf,kK⟩;simp only at hi hn hp kJ kK;by_cases qg:i < s.length
   ·have qo:=zI qg;have hw:=qx ((i:Int)+1) ((i+1:Nat):Int);have hc:=qne s[i];have hclt:=s[i].toNat_lt;rw [zU qg,Qn] at hp;unfold qe4 at hp;by_cases hd:48≤s[i].toNat∧s[i].toNat≤57
    ·rw [if_pos hd] at hp;have g1:(48:Int)≤(s[i].toNat:Int):=(by omega);have g2:(s[i].toNat:Int)≤57:=(by omega);have g3:¬ (s[i].toNat:Int) = 95:=(by omega);obtain ⟨d,hdd⟩:∃ d,d = s[i].toNat - 48:=⟨_,rfl⟩;have dw:=zu8 ((s[i].toNat:Int) - 48) (d:Int);rw [← hdd] at hp;simp only at hp;have hd16:d < 16:=(by omega);have wd:=qN (d:Int) (d:Int);by_cases jy:10≤d
     ·have QW:(10:Int)≤(d:Int):=(by omega);rw [if_pos jy] at hp;simp [h1,h8,h9,Qg,Qe,vG,kJ,Qd,Qf,kK,qo,vq qg,g1,g2,g3,dw,QW];exact ⟨by rw [Q5];exact hp.symm,0,rfl⟩
     ·have QW:¬ (10:Int)≤(d:Int):=(by omega);rw [if_neg jy] at hp;by_cases hcut:1844674407370955162≤n
      ·have Jg:(1844674407370955162:Int)≤(n:Int):=(by omega);rw [if_pos (by omega)] at hp;simp [h1,h8,h9,Qg,Qe,vG,kJ,Qd,Qf,kK,qo,vq qg,g1,g2,g3,dw,QW,Jg];exact ⟨by rw [Q5];exact hp.symm,18446744073709551615,rfl⟩
      ·have Jg:¬ (1844674407370955162:Int)≤(n:Int):=(by omega);obtain ⟨m,hm⟩:∃ m,m = n * 10:=⟨_,rfl⟩;have hm64:m < 18446744073709551616:=(by omega);have wm:=qN ((n:Int) * 10) (m:Int);rw [← hm] at hp;by_cases VC:18446744073709551616≤m+d
       ·rw [if_pos VC] at hp;have hx:=qfY hm64 (by omega) VC;generalize hX:IntKind.u64.wrap ((m:Int)+(d:Int)) = X at hx;simp [h1,h8,h9,Qg,Qe,vG,kJ,Qd,Qf,kK,qo,vq qg,g1,g2,g3,dw,QW,Jg,wd,wm,hX,hx];exact ⟨by rw [Q5];exact hp.symm,18446744073709551615,rfl⟩
       ·rw [if_neg VC] at hp;obtain ⟨q,hq⟩:∃ q,q = m+d:=⟨_,rfl⟩;have wq:=qN ((m:Int)+(d:Int)) (q:Int);have Ze:¬ (q:Int) < (m:Int):=(by omega);have hx2:¬ (18446744073709551615:Int) < (q:Int):=(by omega);rw [← hq] at hp;simp [h1,h8,h9,Qg,Qe,vG,kJ,Qd,Qf,kK,qo,vq qg,g1,g2,g3,dw,QW,Jg,wd,wm,wq,Ze,hx2,hw];exact ⟨i+1,by omega,by omega,q,by omega,hp,rfl,by simp⟩
    ·rw [if_neg hd] at hp;by_cases Vp:s[i].toNat < 48
     ·have lw:=qnf Vp;rw [if_neg (by omega)] at hp;have g1:¬ (48:Int)≤(s[i].toNat:Int):=(by omega);have g3:¬ (s[i].toNat:Int) = 95:=(by omega);have f1:¬ (97:Int)≤((s[i] ||| 32).toNat:Int):=(by omega);generalize (s[i] ||| 32).toNat = lc at *;simp only at hp;simp [h1,h8,h9,Qg,Qe,vG,kJ,Qd,Qf,kK,qo,vq qg,g1,g3,hc,f1];exact ⟨by rw [Q5];exact hp.symm,0,rfl⟩
     ·have g1:(48:Int)≤(s[i].toNat:Int):=(by omega);have g2:¬ (s[i].toNat:Int)≤57:=(by omega);by_cases g95:s[i].toNat = 95
      ·have lw:=qng g95;rw [if_neg (by omega)] at hp;have g3:(s[i].toNat:Int) = 95:=(by omega);have f1:(97:Int)≤((s[i] ||| 32).toNat:Int):=(by omega);have f2:¬ ((s[i] ||| 32).toNat:Int)≤122:=(by omega);generalize (s[i] ||| 32).toNat = lc at *;rw [g3] at hc;simp only at hp;simp [h1,h8,h9,Qg,Qe,vG,kJ,Qd,Qf,kK,qo,vq qg,g3,hc,f1,f2];exact ⟨by rw [Q5];exact hp.symm,0,rfl⟩
      ·have g3:¬ (s[i].toNat:Int) = 95:=(by omega);have lw256:=(s[i] ||| 32).toNat_lt;generalize (s[i] ||| 32).toNat = lc at *;by_cases f:97≤lc∧lc≤122
       ·rw [if_pos f] at hp;have f1:(97:Int)≤(lc:Int):=(by omega);have f2:(lc:Int)≤122:=(by omega);obtain ⟨d0,vf⟩:∃ d,d = lc - 97:=⟨_,rfl⟩;obtain ⟨d,hdd⟩:∃ d,d = d0+10:=⟨_,rfl⟩;have dw1:=zu8 ((lc:Int) - 97) (d0:Int);have dw2:=zu8 ((d0:Int)+10) (d:Int);rw [← vf,← hdd] at hp;simp only at hp;have hd16:d < 36:=(by omega);have wd:=qN (d:Int) (d:Int);by_cases jy:10≤d
        ·have QW:(10:Int)≤(d:Int):=(by omega);rw [if_pos jy] at hp;simp [h1,h8,h9,Qg,Qe,vG,kJ,Qd,Qf,kK,qo,vq qg,g1,g2,g3,hc,f1,f2,dw1,dw2,QW];exact ⟨by rw [Q5];exact hp.symm,0,rfl⟩
        ·have QW:¬ (10:Int)≤(d:Int):=(by omega);rw [if_neg jy] at hp;by_cases hcut:1844674407370955162≤n
         ·have Jg:(1844674407370955162:Int)≤(n:Int):=(by omega);rw [if_pos (by omega)] at hp;simp [h1,h8,h9,Qg,Qe,vG,kJ,Qd,Qf,kK,qo,vq qg,g1,g2,g3,hc,f1,f2,dw1,dw2,QW,Jg];exact ⟨by rw [Q5];exact hp.symm,18446744073709551615,rfl⟩
         ·have Jg:¬ (1844674407370955162:Int)≤(n:Int):=(by omega);obtain ⟨m,hm⟩:∃ m,m = n * 10:=⟨_,rfl⟩;have hm64:m < 18446744073709551616:=(by omega);have wm:=qN ((n:Int) * 10) (m:Int);rw [← hm] at hp;by_cases VC:18446744073709551616≤m+d
          ·rw [if_pos VC] at hp;have hx:=qfY hm64 (by omega) VC;generalize hX:IntKind.u64.wrap ((m:Int)+(d:Int)) = X at hx;simp [h1,h8,h9,Qg,Qe,vG,kJ,Qd,Qf,kK,qo,vq qg,g1,g2,g3,hc,f1,f2,dw1,dw2,QW,Jg,wd,wm,hX,hx];exact ⟨by rw [Q5];exact hp.symm,18446744073709551615,rfl⟩
          ·rw [if_neg VC] at hp;obtain ⟨q,hq⟩:∃ q,q = m+d:=⟨_,rfl⟩;have wq:=qN ((m:Int)+(d:Int)) (q:Int);have Ze:¬ (q:Int) < (m:Int):=(by omega);have hx2:¬ (18446744073709551615:Int) < (q:Int):=(by omega);rw [← hq] at hp;simp [h1,h8,h9,Qg,Qe,vG,kJ,Qd,Qf,kK,qo,vq qg,g1,g2,g3,hc,f1,f2,dw1,dw2,QW,Jg,wd,wm,wq,Ze,hx2,hw];exact ⟨i+1,by omega,by omega,q,by omega,hp,rfl,by simp⟩
       ·rw [if_neg f] at hp;by_cases f3:97≤lc
        ·have f1:(97:Int)≤(lc:Int):=(by omega);have f2:¬ (lc:Int)≤122:=(by omega);simp only at hp;simp [h1,h8,h9,Qg,Qe,vG,kJ,Qd,Qf,kK,qo,vq qg,g1,g2,g3,hc,f1,f2];exact ⟨by rw [Q5];exact hp.symm,0,rfl⟩
        ·have f1:¬ (97:Int)≤(lc:Int):=(by omega);simp only at hp;simp [h1,h8,h9,Qg,Qe,vG,kJ,Qd,Qf,kK,qo,vq qg,g1,g2,g3,hc,f1];exact ⟨by rw [Q5];exact hp.symm,0,rfl⟩
   ·have qo:=zL qg;rw [Js (by omega),Qn] at hp;simp [h1,h8,h9,Qg,Qe,vG,kJ,Qd,Qf,kK,qo];exact ⟨n,by rw [Q5];exact hp.symm,rfl⟩
  ·simp [Tryz.f102,h0,Zt];refine Run.loopThen (fun (z:Nat × Nat) e H'=>z.1≤s.length∧z.2 < 18446744073709551616∧Qn 16 (s.drop z.1) z.2 = Qn 16 s 0∧H' = [some (qd s)]∧qi e 1 = some (.int .i64 16)∧qi e 8 = some (.bool false)∧qi e 9 = some (.str s)∧qi e 10 = some (.int .u64 1152921504606846976)∧qi e 11 = some (.int .u64 18446744073709551615)∧qi e 12 = some (.bool false)∧qi e 13 = some (.int .u64 (z.2:Nat))∧qi e 99 = some (.osl 0 s.length 0 s.length 1)∧qi e 100 = some (.int .i64 s.length)∧qi e 101 = some (.int .i64 (z.1:Nat))) (fun z=>s.length - z.1) (0,0) (by simp) ?_;rintro ⟨i,n⟩ e H' ⟨hi,hn,hp,rfl,h1,h8,h9,Qg,Qe,vG,kJ,Qd,Qf,kK⟩;simp only at hi hn hp kJ kK;by_cases qg:i < s.length
   ·have qo:=zI qg;have hw:=qx ((i:Int)+1) ((i+1:Nat):Int);have hc:=qne s[i];have hclt:=s[i].toNat_lt;rw [zU qg,Qn] at hp;unfold qe4 at hp;by_cases hd:48≤s[i].toNat∧s[i].toNat≤57
    ·rw [if_pos hd] at hp;have g1:(48:Int)≤(s[i].toNat:Int):=(by omega);have g2:(s[i].toNat:Int)≤57:=(by omega);have g3:¬ (s[i].toNat:Int) = 95:=(by omega);obtain ⟨d,hdd⟩:∃ d,d = s[i].toNat - 48:=⟨_,rfl⟩;have dw:=zu8 ((s[i].toNat:Int) - 48) (d:Int);rw [← hdd] at hp;simp only at hp;have hd16:d < 16:=(by omega);have wd:=qN (d:Int) (d:Int);by_cases jy:16≤d
     ·have QW:(16:Int)≤(d:Int):=(by omega);rw [if_pos jy] at hp;simp [h1,h8,h9,Qg,Qe,vG,kJ,Qd,Qf,kK,qo,vq qg,g1,g2,g3,dw,QW];exact ⟨by rw [Q5];exact hp.symm,0,rfl⟩
     ·have QW:¬ (16:Int)≤(d:Int):=(by omega);rw [if_neg jy] at hp;by_cases hcut:1152921504606846976≤n
      ·have Jg:(1152921504606846976:Int)≤(n:Int):=(by omega);rw [if_pos (by omega)] at hp;simp [h1,h8,h9,Qg,Qe,vG,kJ,Qd,Qf,kK,qo,vq qg,g1,g2,g3,dw,QW,Jg];exact ⟨by rw [Q5];exact hp.symm,18446744073709551615,rfl⟩
      ·have Jg:¬ (1152921504606846976:Int)≤(n:Int):=(by omega);obtain ⟨m,hm⟩:∃ m,m = n * 16:=⟨_,rfl⟩;have hm64:m < 18446744073709551616:=(by omega);have wm:=qN ((n:Int) * 16) (m:Int);rw [← hm] at hp;by_cases VC:18446744073709551616≤m+d
       ·rw [if_pos VC] at hp;have hx:=qfY hm64 (by omega) VC;generalize hX:IntKind.u64.wrap ((m:Int)+(d:Int)) = X at hx;simp [h1,h8,h9,Qg,Qe,vG,kJ,Qd,Qf,kK,qo,vq qg,g1,g2,g3,dw,QW,Jg,wd,wm,hX,hx];exact ⟨by rw [Q5];exact hp.symm,18446744073709551615,rfl⟩
       ·rw [if_neg VC] at hp;obtain ⟨q,hq⟩:∃ q,q = m+d:=⟨_,rfl⟩;have wq:=qN ((m:Int)+(d:Int)) (q:Int);have Ze:¬ (q:Int) < (m:Int):=(by omega);have hx2:¬ (18446744073709551615:Int) < (q:Int):=(by omega);rw [← hq] at hp;simp [h1,h8,h9,Qg,Qe,vG,kJ,Qd,Qf,kK,qo,vq qg,g1,g2,g3,dw,QW,Jg,wd,wm,wq,Ze,hx2,hw];exact ⟨i+1,by omega,by omega,q,by omega,hp,rfl,by simp⟩
    ·rw [if_neg hd] at hp;by_cases Vp:s[i].toNat < 48
     ·have lw:=qnf Vp;rw [if_neg (by omega)] at hp;have g1:¬ (48:Int)≤(s[i].toNat:Int):=(by omega);have g3:¬ (s[i].toNat:Int) = 95:=(by omega);have f1:¬ (97:Int)≤((s[i] ||| 32).toNat:Int):=(by omega);generalize (s[i] ||| 32).toNat = lc at *;simp only at hp;simp [h1,h8,h9,Qg,Qe,vG,kJ,Qd,Qf,kK,qo,vq qg,g1,g3,hc,f1];exact ⟨by rw [Q5];exact hp.symm,0,rfl⟩
     ·have g1:(48:Int)≤(s[i].toNat:Int):=(by omega);have g2:¬ (s[i].toNat:Int)≤57:=(by omega);by_cases g95:s[i].toNat = 95
      ·have lw:=qng g95;rw [if_neg (by omega)] at hp;have g3:(s[i].toNat:Int) = 95:=(by omega);have f1:(97:Int)≤((s[i] ||| 32).toNat:Int):=(by omega);have f2:¬ ((s[i] ||| 32).toNat:Int)≤122:=(by omega);generalize (s[i] ||| 32).toNat = lc at *;rw [g3] at hc;simp only at hp;simp [h1,h8,h9,Qg,Qe,vG,kJ,Qd,Qf,kK,qo,vq qg,g3,hc,f1,f2];exact ⟨by rw [Q5];exact hp.symm,0,rfl⟩
      ·have g3:¬ (s[i].toNat:Int) = 95:=(by omega);have lw256:=(s[i] ||| 32).toNat_lt;generalize (s[i] ||| 32).toNat = lc at *;by_cases f:97≤lc∧lc≤122
       ·rw [if_pos f] at hp;have f1:(97:Int)≤(lc:Int):=(by omega);have f2:(lc:Int)≤122:=(by omega);obtain ⟨d0,vf⟩:∃ d,d = lc - 97:=⟨_,rfl⟩;obtain ⟨d,hdd⟩:∃ d,d = d0+10:=⟨_,rfl⟩;have dw1:=zu8 ((lc:Int) - 97) (d0:Int);have dw2:=zu8 ((d0:Int)+10) (d:Int);rw [← vf,← hdd] at hp;simp only at hp;have hd16:d < 36:=(by omega);have wd:=qN (d:Int) (d:Int);by_cases jy:16≤d
        ·have QW:(16:Int)≤(d:Int):=(by omega);rw [if_pos jy] at hp;simp [h1,h8,h9,Qg,Qe,vG,kJ,Qd,Qf,kK,qo,vq qg,g1,g2,g3,hc,f1,f2,dw1,dw2,QW];exact ⟨by rw [Q5];exact hp.symm,0,rfl⟩
        ·have QW:¬ (16:Int)≤(d:Int):=(by omega);rw [if_neg jy] at hp;by_cases hcut:1152921504606846976≤n
         ·have Jg:(1152921504606846976:Int)≤(n:Int):=(by omega);rw [if_pos (by omega)] at hp;simp [h1,h8,h9,Qg,Qe,vG,kJ,Qd,Qf,kK,qo,vq qg,g1,g2,g3,hc,f1,f2,dw1,dw2,QW,Jg];exact ⟨by rw [Q5];exact hp.symm,18446744073709551615,rfl⟩
         ·have Jg:¬ (1152921504606846976:Int)≤(n:Int):=(by omega);obtain ⟨m,hm⟩:∃ m,m = n * 16:=⟨_,rfl⟩;have hm64:m < 18446744073709551616:=(by omega);have wm:=qN ((n:Int) * 16) (m:Int);rw [← hm] at hp;by_cases VC:18446744073709551616≤m+d
          ·rw [if_pos VC] at hp;have hx:=qfY hm64 (by omega) VC;generalize hX:IntKind.u64.wrap ((m:Int)+(d:Int)) = X at hx;simp [h1,h8,h9,Qg,Qe,vG,kJ,Qd,Qf,kK,qo,vq qg,g1,g2,g3,hc,f1,f2,dw1,dw2,QW,Jg,wd,wm,hX,hx];exact ⟨by rw [Q5];exact hp.symm,18446744073709551615,rfl⟩
          ·rw [if_neg VC] at hp;obtain ⟨q,hq⟩:∃ q,q = m+d:=⟨_,rfl⟩;have wq:=qN ((m:Int)+(d:Int)) (q:Int);have Ze:¬ (q:Int) < (m:Int):=(by omega);have hx2:¬ (18446744073709551615:Int) < (q:Int):=(by omega);rw [← hq] at hp;simp [h1,h8,h9,Qg,Qe,vG,kJ,Qd,Qf,kK,qo,vq qg,g1,g2,g3,hc,f1,f2,dw1,dw2,QW,Jg,wd,wm,wq,Ze,hx2,hw];exact ⟨i+1,by omega,by omega,q,by omega,hp,rfl,by simp⟩
       ·rw [if_neg f] at hp;by_cases f3:97≤lc
        ·have f1:(97:Int)≤(lc:Int):=(by omega);have f2:¬ (lc:Int)≤122:=(by omega);simp only at hp;simp [h1,h8,h9,Qg,Qe,vG,kJ,Qd,Qf,kK,qo,vq qg,g1,g2,g3,hc,f1,f2];exact ⟨by rw [Q5];exact hp.symm,0,rfl⟩
        ·have f1:¬ (97:Int)≤(lc:Int):=(by omega);simp only at hp;simp [h1,h8,h9,Qg,Qe,vG,kJ,Qd,Qf,kK,qo,vq qg,g1,g2,g3,hc,f1];exact ⟨by rw [Q5];exact hp.symm,0,rfl⟩
   ·have qo:=zL qg;rw [Js (by omega),Qn] at hp;simp [h1,h8,h9,Qg,Qe,vG,kJ,Qd,Qf,kK,qo];exact ⟨n,by rw [Q5];exact hp.symm,rfl⟩
theorem qsz [MaxL] [TxtC] (s:List UInt8) (h:s.length≤281474976710656):call cx 197 [.str s] [] = some (.str s,[]):=by
 refine qdU ?_;rw [qsv,qfG,if_pos h]
theorem qtQ [MaxL] [TxtC] (f s:List UInt8) (h:s.length≤281474976710656):∃ d,call cx 146 [.str f,.str s] [] = some (.vptr d,[]):=by
 have hc:=qsz s h
 suffices hh:∃ r,call cx 146 [.str f,.str s] [] = some r∧∃ d,r = (.vptr d,[]) by
  obtain ⟨r,h1,d,rfl⟩:=hh;exact ⟨d,h1⟩
 refine VR (fun r=>∃ d,r = (D.vptr d,[])) Tryz.func146 rfl ⟨rfl,rfl⟩ ?_;simp [Tryz.f146,hc]
theorem qvR [MaxL] [TxtC] (f s:List UInt8) (h:s.length≤281474976710656):∃ d,call cx 147 [.str f,.str s] [] = some (.vptr d,[]):=by
 have hc:=qsz s h
 suffices hh:∃ r,call cx 147 [.str f,.str s] [] = some r∧∃ d,r = (.vptr d,[]) by
  obtain ⟨r,h1,d,rfl⟩:=hh;exact ⟨d,h1⟩
 refine VR (fun r=>∃ d,r = (D.vptr d,[])) Tryz.func147 rfl ⟨rfl,rfl⟩ ?_;simp [Tryz.f147,hc]
theorem qtN [MaxL] [TxtC] (f s:List UInt8) (h:s.length≤281474976710656) (b c:Int) (hc:c = 1∨c = 2):∃ d,call cx 103 [.str f,.str s,.int .i64 b,.int .i64 64,.iface 246 (.int .i64 c)] [] = some (.iface 248 (.vptr d),[]):=by
 obtain ⟨d1,h1⟩:=qtQ f s h;obtain ⟨d2,h2⟩:=qvR f s h
 suffices hh:∃ r,call cx 103 [.str f,.str s,.int .i64 b,.int .i64 64,.iface 246 (.int .i64 c)] [] = some r∧∃ d,r = (.iface 248 (.vptr d),[]) by
  obtain ⟨r,h1,d,rfl⟩:=hh;exact ⟨d,h1⟩
 refine VR (fun r=>∃ d,r = (D.iface 248 (.vptr d),[])) Tryz.func103 rfl ⟨rfl,rfl⟩ ?_;rcases hc with rfl | rfl
 ·simp [Tryz.f103,h2]
 ·simp [Tryz.f103,h1]
theorem qvV [MaxL] [TxtC] (b:Nat) (hb:b = 10∨b = 16) (s:List UInt8) (hs:s.length≤281474976710656) :
  (∃ n,pu b s = some n∧call cx 67 [.str s,.int .i64 b,.int .i64 64] [] = some (.tup [.int .u64 n,.nili],[])) ∨
  (pu b s = none∧∃ (x:Nat) (d:List D),call cx 67 [.str s,.int .i64 b,.int .i64 64] [] = some (.tup [.int .u64 x,.iface 248 (.vptr d)],[])):=by
 rcases qvU b hb s (by omega) with ⟨n,h1,h2⟩ | ⟨h1,x,c,hc,h2⟩
 ·refine .inl ⟨n,h1,?_⟩;refine qy Tryz.func67 rfl ⟨rfl,rfl⟩ ?_;simp [Tryz.f67,h2]
 ·obtain ⟨d,hd⟩:=qtN [80,97,114,115,101,85,105,110,116] s hs b c hc;refine .inr ⟨h1,x,d,?_⟩;refine qy Tryz.func67 rfl ⟨rfl,rfl⟩ ?_;simp [Tryz.f67,h2,hd]
theorem qqO {l:List UInt8} {k:Nat} (h:k < l.length):ju (l.take (k+1)) = ju (l.take k) ++ [vU (l[k].toNat / 16),vU (l[k].toNat % 16)]:=by
 rw [VV h,qqQ];rfl
set_option maxHeartbeats 2000000 in
theorem qzG [MaxL] [TxtC] (l:List UInt8) (hl:l.length = 16):call cx 38 [.agg (qd l)] [] = some (.str (ju l),[]):=by
 refine qy Tryz.func38 rfl ⟨rfl,rfl⟩ ?_;have ht:List.take 16 (qd l) = qd l:=qP (by simp;omega);have XP:16≤l.length:=by omega
 simp [Tryz.f38,ht,XP]
 refine Run.loopThen (fun (k:Nat) e H'=>k≤16∧qi e 6 = some (.agg (qd l))∧qi e 7 = some (.int .i64 k) ∧
   ((k = 0∧qi e 3 = some (.vsl true [] 0)∧H' = [some (qd l)]) ∨
   (∃ w,qi e 3 = some (.osl 1 (ju (l.take k)).length 0 (ju (l.take k)).length 1)∧H' = [w,some (qd (ju (l.take k)))]) ∨
   (∃ w,qi e 3 = some (.osl 0 (ju (l.take k)).length 0 (ju (l.take k)).length 1)∧H' = [some (qd (ju (l.take k))),w]))) (fun k=>16 - k) 0 ?_ ?_
 ·simp
 rintro k e H' ⟨hk,k6,k7,hH⟩;by_cases qg:k < 16
 ·have qo:(k:Int) < 16:=by omega
  have hkl:k < l.length:=by omega
  have hw:=qx ((k:Int)+1) ((k+1:Nat):Int);have qI:=vq hkl;have hsn:=qqO hkl;have hb:=l[k].toNat_lt;have ha:=q3e l[k];have hp4:(2:Int) ^ min 4 IntKind.u8.bits = 16:=by decide
  have hf:=qr7 l[k].toNat;have d1:=qsg (l[k].toNat / 16) (by omega);have d2:=qsg (l[k].toNat % 16) (by omega);simp only [digL] at d1 d2
  have qf:(qd l)[k]? = some (.int .u8 l[k].toNat):=by
   rw [zn (by simpa using hkl),qwR]
  have hlen:(ju (l.take k)).length = 2 * k:=by rw [qcL,jU];omega
  generalize l[k] = b at *;generalize vU (b.toNat / 16) = c1 at *;generalize vU (b.toNat % 16) = c2 at *;obtain ⟨m1,kb⟩:∃ m,m = b.toNat / 16:=⟨_,rfl⟩;obtain ⟨m2,zJ⟩:∃ m,m = b.toNat % 16:=⟨_,rfl⟩;rw [← kb] at hf d1;rw [← zJ] at ha d2;have hXl:(ju (l.take (k+1))).length = (ju (l.take k)).length+2:=by rw [hsn];simp
  have hap:qd (ju (l.take k)) ++ [.int .u8 c1.toNat,.int .u8 c2.toNat] = qd (ju (l.take (k+1))):=by rw [hsn];simp [qd]
  have Zt:(ju (l.take k)).length+2≤qD:=zT (show _≤100 by omega) (by decide);rcases hH with ⟨rfl,k3,rfl⟩ | ⟨w,k3,rfl⟩ | ⟨w,k3,rfl⟩
  ·simp at hap hXl;have zJ:2≤qD:=(by decide);simp [k3,k6,k7,qf,ha,hp4,hf,d1,d2,zJ];exact ⟨1,by omega,by omega,by simp,by rw [hXl];simp [ju],by rw [← hap];simp [ju,qd]⟩
  ·generalize ju (l.take k) = X at *;simp [k3,k6,k7,qo,hw,qf,ha,hp4,hf,d1,d2,hap,Zt];exact ⟨k+1,by omega,by omega,by simp,by rw [hXl],rfl⟩
  ·generalize ju (l.take k) = X at *;simp [k3,k6,k7,qo,hw,qf,ha,hp4,hf,d1,d2,hap,Zt];exact ⟨k+1,by omega,by omega,by simp,by rw [hXl],rfl⟩
 ·have qo:¬ (k:Int) < 16:=by omega
  have JP:k = 16:=by omega
  subst JP;have jc:l.take 16 = l:=qP (by omega);rw [jc] at hH;rcases hH with ⟨h,_⟩ | ⟨w,k3,rfl⟩ | ⟨w,k3,rfl⟩
  ·omega
  ·simp [k3,k6,k7]
  ·simp [k3,k6,k7]
theorem qzv [MaxL] [TxtC] (s:List UInt8) (c:UInt8):call cx 66 [.str s,.int .u8 c.toNat] [] = some (.int .i64 (ve c s 0),[]):=by
 have h0:call cx 143 [.str s,.int .u8 c.toNat] [] = some (.int .i64 (ve c s 0),[]):=by
  rw [qkr (X:=cx) (f:=143) rfl Tryz.func143 rfl,qrA];simp [qfz]
 have h1:call cx 101 [.str s,.int .u8 c.toNat] [] = some (.int .i64 (ve c s 0),[]):=by
  refine qy Tryz.func101 rfl ⟨rfl,rfl⟩ ?_;simp [Tryz.f101,h0]
 refine qy Tryz.func66 rfl ⟨rfl,rfl⟩ ?_;simp [Tryz.f66,h1]
theorem qk4:qd zero16=[.int .u8 0,.int .u8 0,.int .u8 0,.int .u8 0,.int .u8 0,.int .u8 0,.int .u8 0,.int .u8 0,.int .u8 0,.int .u8 0,.int .u8 0,.int .u8 0,.int .u8 0,.int .u8 0,.int .u8 0,.int .u8 0]:=rfl
theorem qlt (st:List UInt8) (j:Nat) (c:UInt8) (h:j < st.length):zM (qd st) j [.int .u8 c.toNat] = qd (st.set j c):=by
 unfold zM qd;rw [qte,if_pos h];simp
set_option maxHeartbeats 2000000 in
theorem qz1 [MaxL] [TxtC] (s:List UInt8) (_:s.length < 1000000):call cx 28 [.str s] [] = some (.tup [.agg (qd ((QH s).getD zero16)),.bool (QH s).isSome],[]):=by
 refine qy Tryz.func28 rfl ⟨rfl,rfl⟩ ?_;have z16:=qk4;have z16l:zero16.length = 16:=rfl;have z16d:List.drop 16 (qd zero16) = []:=rfl;by_cases h32:s.length = 32
 ·have h32':(s.length:Int) = 32:=by omega
  have hP:QH s = QI s 0 zero16:=by unfold QH;rw [if_pos h32]
  rw [hP];simp [Tryz.f28,h32'];rw [← z16]
  refine Run.loopThen (fun (q:Nat × List UInt8) e H'=>q.1≤32∧q.2.length = 16∧QI (s.drop q.1) q.1 q.2 = QI s 0 zero16∧H' = [some (qd zero16),some (qd q.2)]∧qi e 0 = some (.str s)∧qi e 2 = some (.optr 0 16 0)∧qi e 4 = some (.optr 1 16 0) ∧
    qi e 12 = some (.int .i64 32)∧qi e 13 = some (.int .i64 (q.1:Nat))) (fun q=>32 - q.1) (0,zero16) ?_ ?_
  ·simp [zero16]
  rintro ⟨k,st⟩ e H' ⟨hk,hst,hgo,rfl,k0,k2,k4,k12,k13⟩;simp only at hk hst hgo k13;by_cases qg:k < 32
  ·have qo:(k:Int) < 32:=(by omega);have hks:k < s.length:=(by omega);rw [zU hks,QI] at hgo;have hsk:s[k]? = some s[k]:=zn hks;have hix:=qzv digL s[k];have hir:=qq1 s[k] digL 0;generalize s[k] = c at *;simp only [digL] at hix;have hw:=qx ((k:Int)+1) ((k+1:Nat):Int);rcases hir with hn | ⟨m,kb,zJ⟩
   ·rw [hn,if_pos (by omega)] at hgo;simp only [digL] at hn;rw [hn] at hix;rw [← hgo];simp [k0,k2,k4,k12,k13,qo,hsk,hix,← z16,z16l,z16d]
   ·rw [Jo] at zJ;have hm16:m < 16:=kb;rw [zJ,if_neg (by omega)] at hgo;simp only [digL] at zJ;rw [zJ] at hix;have hmn:¬ (m:Int) < 0:=(by omega);have hmt:((m:Nat):Int).toNat = m:=(by omega);rw [hmt] at hgo;have hq:(k:Int).tdiv 2 = ((k / 2:Nat):Int):=(Int.ofNat_tdiv k 2).symm;have jL:=qx ((k:Int) / 2) ((k / 2:Nat):Int);obtain ⟨j,hj⟩:∃ j,j = k / 2:=⟨_,rfl⟩;rw [← hj] at hgo hq jL;have hj16:j < st.length:=(by omega);have hj16':(j:Int) < 16:=(by omega);have qI:=vq hj16;have hgd:st.getD j 0 = st[j]:=(by rw [List.getD,zn hj16];rfl);rw [hgd] at hgo;have hwm:=zu8 (m:Int) (m:Int);have hor:=qux st[j] m hm16;have qn:=qlt st j (st[j] <<< 4 ||| UInt8.ofNat m) hj16;generalize st[j] = b at *;generalize hx:b <<< 4 ||| UInt8.ofNat m = x at *;have QV:j+1≤st.length:=(by omega);have hj15:j≤15:=(by omega);have hp8:(2:Int) ^ min 4 IntKind.u8.bits = 16:=(by decide);have kA:(st.set j x).length = 16:=(by simpa using hst);generalize st.set j x = st' at *;simp [-qcj,k0,k2,k4,k12,k13,qo,hsk,hix,hmn,jL,hj16',qI,hwm,hor,hp8,qn,hst,hj15,hw];exact ⟨k+1,by omega,by omega,st',kA,hgo,rfl,by simp⟩
  ·have qo:¬ (k:Int) < 32:=(by omega);rw [Js (by omega),QI] at hgo;rw [← hgo];have hl16:16≤st.length:=(by omega);have ht:List.take 16 (qd st) = qd st:=qP (by simp;omega);simp [k0,k2,k4,k12,k13,qo,ht,hst,z16l,z16d]
 ·have h32':¬ (s.length:Int) = 32:=by omega
  have hP:QH s = none:=by unfold QH;rw [if_neg h32]
  rw [hP];simp [Tryz.f28,h32',← z16,z16l,z16d]
theorem qvE [MaxL] [TxtC] (n:Nat) (h:n≤16):call cx 78 [.str [48],.int .i64 n] [] = some (.str (List.replicate n 48),[]):=by
 refine qdU ?_
 have e:∀ n,Lib.repeatL [48] n = List.replicate n (48:UInt8):=by
  intro n
  induction n with
  | zero=>rfl
  | succ n ih=>rw [Lib.repeatL,ih];rfl
 have hn:((n:Nat):Int).toNat = n:=by omega
 rw [qst,qfE,if_pos ⟨by omega,by omega,by rw [hn];simp;omega⟩,hn,e]
theorem qjF [MaxL] [TxtC] (v:Nat) (hv:v < 18446744073709551616):call cx 39 [.int .u64 v] [] = some (.str (kc v),[]):=by
 have h1:=q0u v hv;have h2:=qqJ v;have h3:=qvE (16 - (hx v).length) (by omega);have hw:=qx (16 - ((hx v).length:Int)) ((16 - (hx v).length:Nat):Int);have hz:(16 - (hx v).length)+(hx v).length≤4611686018427387904:=by omega
 refine qy Tryz.func39 rfl ⟨rfl,rfl⟩ ?_;unfold kc;generalize hx v = x at *;generalize 16 - x.length = n at *;simp [Tryz.f39,h1,h3,hw,hz]
def vA (s:List UInt8):Option Nat:=match pu 16 s with
 | none=>none
 | some v=>if kc v = s then some v else none
theorem qiN {s:List UInt8} {v:Nat} (h:pu 16 s = some v):v < 18446744073709551616:=by
 unfold pu at h;split at h
 ·cases h
 ·exact qml 16 _ _ _ (by decide) h
theorem qmL [MaxL] [TxtC] (s:List UInt8) (hs:s.length < 1000000):call cx 29 [.str s] [] = some (.tup [.int .u64 ((vA s).getD 0:Nat),.bool (vA s).isSome],[]):=by
 refine qy Tryz.func29 rfl ⟨rfl,rfl⟩ ?_;unfold vA;rcases qvV 16 (.inr rfl) s (by omega) with ⟨v,e1,e2⟩ | ⟨e1,x,d,e2⟩
 ·replace e2:call cx 67 [.str s,.int .i64 16,.int .i64 64] [] = some (.tup [.int .u64 v,.nili],[]):=e2;rw [e1];simp only;have h:=qjF v (qiN e1);by_cases he:kc v = s
  ·rw [if_pos he];rw [he] at h;simp [Tryz.f29,e2,h]
  ·rw [if_neg he];have he2:(kc v == s) = false:=beq_eq_false_iff_ne.2 he;generalize kc v = w at *;simp [Tryz.f29,e2,h,he2]
 ·replace e2:call cx 67 [.str s,.int .i64 16,.int .i64 64] [] = some (.tup [.int .u64 x,.iface 248 (.vptr d)],[]):=e2;rw [e1];simp [Tryz.f29,e2]
theorem qq2 (sep:List UInt8):∀ (s:List UInt8) (n:Nat),(∃ i:Nat,J1 sep s n = ((n+i:Nat):Int)∧i+sep.length≤s.length∧sep.isPrefixOf (s.drop i) = true)∨J1 sep s n = -1
 | [],n=>by
  unfold J1;cases sep with
  | nil=>exact .inl ⟨0,by simp⟩
  | cons a l=>exact .inr (by simp)
 | b :: l,n=>by
  unfold J1;by_cases h:sep.isPrefixOf (b :: l) = true
  ·rw [if_pos h];refine .inl ⟨0,by simp,?_,by simpa using h⟩;have:=List.IsPrefix.length_le (List.isPrefixOf_iff_prefix.1 h);simpa using this
  ·rw [if_neg h];rcases qq2 sep l (n+1) with ⟨i,h1,h2,h3⟩ | h1
   ·exact .inl ⟨i+1,by rw [h1];omega,by simp;omega,by simpa using h3⟩
   ·exact .inr h1
theorem qzt [MaxL] [TxtC] (s sep:List UInt8) (hs:s.length < 4294967281):call cx 142 [.str s,.str sep] [] = some (.int .i64 (J1 sep s 0),[]):=by
 refine qdU ?_;rw [qsw,qfF,if_pos hs]
theorem q11 [MaxL] [TxtC] (s:List UInt8) (c:UInt8):call cx 99 [.str s,.str [c]] [] = some (.int .i64 (s.count c:Nat),[]):=by
 have h0:call cx 141 [.str s,.int .u8 c.toNat] [] = some (.int .i64 (s.count c:Nat),[]):=by
  rw [qkr (X:=cx) (f:=141) rfl Tryz.func141 rfl,qrB];simp [qfI]
 refine qy Tryz.func99 rfl ⟨rfl,rfl⟩ ?_;simp [Tryz.f99,h0]
theorem qus [MaxL] [TxtC] (s sep:List UInt8) (hs:s.length < 4294967281):call cx 100 [.str s,.str sep] [] = some (.int .i64 (J1 sep s 0),[]):=by
 have h:=qzt s sep hs;refine qy Tryz.func100 rfl ⟨rfl,rfl⟩ ?_;simp [Tryz.f100,h]
theorem qiu (ps:List (List UInt8)) (x:List UInt8) (n:Nat):zM (ps.map D.str ++ List.replicate (n+1) (D.str [])) ps.length [.str x] = (ps ++ [x]).map D.str ++ List.replicate n (D.str []):=by
 have h1:List.drop (ps.length+1) (ps.map D.str ++ D.str [] :: List.replicate n (D.str [])) = List.replicate n (D.str []):=by
  rw [show ps.map D.str ++ D.str [] :: List.replicate n (D.str []) = (ps.map D.str ++ [D.str []]) ++ List.replicate n (D.str []) by simp];exact kE (by simp)
 unfold zM;rw [KM];simp [h1]
set_option maxHeartbeats 2000000 in
theorem q0r [MaxL] [TxtC] (c:UInt8) (s:List UInt8) (hs:s.length < 1000000):call cx 65 [.str s,.str [c],.int .i64 0,.int .i64 (-1)] [] = some (.vsl false ((ZO c s).map D.str) (ZO c s).length,[]):=by
 have hc:=q11 s c;have zq:s.count c≤s.length:=List.count_le_length;unfold ZO;generalize s.count c = m at *;refine qy Tryz.func65 rfl ⟨rfl,rfl⟩ ?_;have w1:=qx ((m:Int)+1) ((m+1:Nat):Int);have w2:=qx ((s.length:Int)+1) ((s.length+1:Nat):Int);have w3:¬ s.length < m:=by omega
 have w4:=qx (m:Int) (m:Int);have w5:(16:Int) * ((m:Int)+1)≤(qD:Nat):=by simp only [qD];omega
 have w6:(m:Int)+1≤(qD:Nat):=by simp only [qD];omega
 have w7:(0:Int)≤(m:Int)+1:=by omega
 have w8:=qx ((m:Int)+1 - 1) (m:Int);simp [Tryz.f65,hc,w1,w2,w3,w4,w5,w6,w7]
 refine Run.loopThen (fun (q:List (List UInt8) × List UInt8) e H'=>q.1.length≤m∧q.2.length≤s.length∧q.1 ++ Ym c (m - q.1.length) q.2 = Ym c m s∧H' = [some (q.1.map D.str ++ List.replicate (m - q.1.length+1) (.str []))] ∧
   qi e 0 = some (.str q.2)∧qi e 1 = some (.str [c])∧qi e 2 = some (.int .i64 0)∧qi e 3 = some (.int .i64 m)∧qi e 9 = some (.osl 0 (m+1) 0 (m+1) 1)∧qi e 10 = some (.int .i64 (q.1.length:Nat))) (fun q=>m - q.1.length) ([],s) ?_ ?_
 ·simp
 rintro ⟨ps,r⟩ e H' ⟨hp,hr,hgo,rfl,k0,k1,k2,k3,k9,k10⟩;simp only at hp hr hgo k0 k10;have hix:=qus r [c] (by omega);have Zg:(ps.length:Int) < (m:Int)+1:=by omega
 have zx:(0:Int)≤(ps.length:Int)+1:=by omega
 have J7:ps.length+(m - ps.length+1) = m+1:=by omega
 have hpw:=qx ((ps.length:Int)+1) ((ps.length+1:Nat):Int);have hpl:ps.length+1≤m+1:=by omega
 have hfin:∀ (x:List UInt8),List.take (ps.length+1) ((ps ++ [x]).map D.str ++ List.replicate (m - ps.length) (.str [])) = (ps ++ [x]).map D.str:=by
  intro x;exact List.take_left' (by simp)
 have hl5:ps.length+1+(m - ps.length) = m+1:=by omega
 have hidf:idFree.idFreeL (List.map D.str (ps ++ [r]) ++ List.replicate (m - ps.length) (D.str [])) = true:=by
  rw [kY];simp [idFree]
 by_cases qg:ps.length < m
 ·have qo:=zI qg;obtain ⟨d,hd⟩:∃ d,m - ps.length = d+1:=⟨m - ps.length - 1,by omega⟩;rw [hd,Ym] at hgo;rcases qq2 [c] r 0 with ⟨j,h1,h2,-⟩ | h1
  ·rw [Jo] at h1;rw [h1] at hix;rw [h1,if_neg (by omega)] at hgo;have hjt:((j:Nat):Int).toNat = j:=(by omega);rw [hjt] at hgo;have QV:j+1≤r.length:=(by simpa using h2);have hjn:¬ (j:Int) < 0:=(by omega);have hwj:=qx (j:Int) (j:Int);obtain ⟨i,hi⟩:∃ i,i = j+1:=⟨_,rfl⟩;have hwi:=qx ((j:Int)+1) (i:Int);rw [← hi] at hgo;have hst:=qiu ps (r.take j) (d+1);have JT:List.take (r.length - i) (List.drop i r) = r.drop i:=qP (by simp);have QK:(r.drop i).length≤s.length:=(by simp;omega);have g1:(j:Int)≤(r.length:Int):=(by omega);have g2:j≤r.length:=(by omega);have g3:(i:Int)≤(r.length:Int):=(by omega);have g4:i≤r.length:=(by omega);have g5:m - ps.length+1 = d+1+1:=(by omega);have g6:m - (ps.length+1)+1 = d+1:=(by omega);have g7:ps.length+(d+1+1) = m+1:=(by omega);have g8:ps.length+1≤ps.length+(d+1+1):=(by omega);rw [g5];simp [-qcj,-List.map_append,-List.map_cons,hp,k0,k1,k2,k3,k9,k10,qo,hix,hjn,hwj,hwi,g1,g3,g7,Zg,hst,JT,hpw];have Kw:(ps ++ [r.take j]).length = ps.length+1:=(by simp);refine ⟨ps ++ [r.take j],by rw [Kw];omega,by rw [Kw];omega,r.drop i,QK,?_,?_,rfl,by rw [Kw];simp⟩
   ·rw [Kw,show m - (ps.length+1) = d by omega,← hgo];simp
   ·rw [Kw,show m - (ps.length+1)+1 = d+1 by omega]
  ·rw [h1] at hix;rw [h1,if_pos rfl] at hgo;have hst:=qiu ps r (m - ps.length);rw [← hgo];simp [-qcj,-List.map_append,-List.map_cons,hp,zx,k0,k1,k2,k3,k9,k10,qo,hix,Zg,hst,J7,hpw,hpl,hfin,hl5,hidf]
 ·have qo:=zL qg;have Xf:ps.length = m:=by omega
  have hd:m - ps.length = 0:=by omega
  rw [hd,Ym] at hgo;have hst:=qiu ps r (m - ps.length);rw [← hgo];simp [-qcj,-List.map_append,-List.map_cons,hp,zx,k0,k1,k2,k3,k9,k10,qo,Zg,hst,J7,hpw,hpl,hfin,hl5,hidf]
theorem quj [MaxL] [TxtC] (c:UInt8) (s:List UInt8) (hs:s.length < 1000000):call cx 27 [.str s,.str [c]] [] = some (.vsl false ((ZO c s).map D.str) (ZO c s).length,[]):=by
 have h:=q0r c s hs;refine qy Tryz.func27 rfl ⟨rfl,rfl⟩ ?_;simp [Tryz.f27,h]
theorem qlh (c:UInt8):∀ (n:Nat) (s:List UInt8),∀ x∈Ym c n s,x.length≤s.length
 | 0,s,x,h=>by simp [Ym] at h;rw [h];exact qE _
 | n+1,s,x,h=>by
  rw [Ym] at h;split at h
  ·simp at h;rw [h];exact qE _
  ·rcases List.mem_cons.1 h with rfl | h
   ·simp;omega
   ·have:=qlh c n _ x h;simp at this;omega
theorem qsc:∀ k,k < 16→qe4 (vU k) = some k:=by decide
theorem qmn:∀ (l r:List UInt8) (n:Nat),Qn 16 (l ++ r) n = match Qn 16 l n with
  | none=>none
  | some m=>Qn 16 r m
 | [],r,n=>by simp [Qn]
 | c :: l,r,n=>by
  simp only [Qw,Qn];cases qe4 c with
  | none=>rfl
  | some d =>
   simp only;split
   ·rfl
   ·split
    ·rfl
    ·exact qmn l r _
theorem qmm:∀ (f v:Nat),v < 16 ^ f→1≤f→v < 18446744073709551616→Qn 16 (JS f v) 0 = some v
 | f+1,v,h,_,h64=>by
  rw [JS];by_cases hv:v < 16
  ·rw [if_pos hv];simp only [Qn,qsc v hv];rw [if_neg (by omega),if_neg (by omega)];congr 1;omega
  ·rw [if_neg hv,qmn]
   have hf:1≤f:=by
    rcases f with _ | f
    ·simp at h;omega
    ·omega
   rw [qmm f (v / 16) (by rw [qdu] at h;omega) hf (by omega)];simp only [Qn,qsc _ (Yh v (by decide:16 > 0))];rw [if_neg (by omega),if_neg (by omega)];congr 1;omega
theorem qvW {v:Nat} (h:v < 18446744073709551616):Qn 16 (hx v) 0 = some v:=qmm 16 v (by omega) (by omega) h
theorem qmk (l:List UInt8):∀ n,Qn 16 (List.replicate n 48 ++ l) 0 = Qn 16 l 0
 | 0=>rfl
 | n+1=>by
  rw [KM,Qw,Qn];have:qe4 48 = some 0:=by decide
  rw [this];simp only;rw [if_neg (by omega),if_neg (by omega)];exact qmk l n
theorem qjc {v:Nat} (h:v < 18446744073709551616):vA (kc v) = some v:=by
 have hl:=qbN v
 have hp:pu 16 (kc v) = some v:=by
  unfold pu;rw [if_neg (by intro e;rw [e] at hl;simp at hl)];unfold kc;rw [qmk,qvW h]
 unfold vA;rw [hp];simp
end Go.Ev.S
namespace Go.Ev
open Go Go.Proofs
structure Inf where
 kind:Int
 seq:ID
 head:Int
 real:Int
 deriving DecidableEq
instance:Enc Inf:=⟨19,fun m=>(.int .i64 m.kind :: (qd m.seq.l ++ (.int .u64 m.head :: (.int .u64 m.real :: ([]:List D))))),fun m=>by simp,fun m=>by simp [idFree]⟩
theorem Inf.cells (m:Inf):Enc.cells m = (.int .i64 m.kind :: (qd m.seq.l ++ (.int .u64 m.head :: (.int .u64 m.real :: ([]:List D))))):=rfl
@[simp] theorem Inf.size:Enc.size Inf = 19:=rfl
@[simp] theorem Inf.cl (a:Inf):(Enc.cells a).length = 19:=Enc.len a
@[simp] theorem Inf.ct (a:Inf) (r:List D):(Enc.cells a ++ r).take 19 = Enc.cells a:=qdg rfl a r
@[simp] theorem Inf.ct' (a:Inf):(Enc.cells a).take 19 = Enc.cells a:=qdf rfl a
@[simp] theorem Inf.cd (a:Inf) (r:List D):(Enc.cells a ++ r).drop 19 = r:=qdh rfl a r
@[simp] theorem Inf.el (l:List Inf):(qu l).length = l.length * 19:=qaP rfl l
@[simp] theorem Inf.ed (l:List Inf) (i:Nat):(qu l).drop (i * 19) = qu (l.drop i):=qaQ rfl l i
@[simp] theorem Inf.et (l:List Inf) (i:Nat):(qu l).take (i * 19) = qu (l.take i):=qaO rfl l i
@[simp high] theorem Inf.ea {l:List Inf} {i:Nat} (h:i < l.length):(qu l).drop (i * 19) = Enc.cells l[i] ++ qu (l.drop (i+1)):=YS rfl h
@[simp high] theorem Inf.es (m:Inf) {l:List Inf} {j:Nat} (h:j < l.length):zM (qu l) (j * 19) (Enc.cells m) = qu (l.set j m):=Ya rfl m l h
@[simp] theorem Inf.g0 (m:Inf) (h):(Enc.cells m)[0]'h = .int .i64 m.kind:=by simp [Inf.cells]
@[simp] theorem Inf.q0 (m:Inf):(Enc.cells m)[0]? = some (.int .i64 m.kind):=by simp [Inf.cells]
@[simp] theorem Inf.s0 (m:Inf) (x:Int):zM (Enc.cells m) 0 [.int .i64 x] = Enc.cells { m with kind:=x }:=by simp [vX,Inf.cells]
@[simp] theorem Inf.d1 (m:Inf):(Enc.cells m).drop 1 = (qd m.seq.l ++ (.int .u64 m.head :: (.int .u64 m.real :: ([]:List D)))):=by simp [vX,Inf.cells]
@[simp] theorem Inf.d1' (m:Inf) (r:List D):(Enc.cells m ++ r).drop 1 = (qd m.seq.l ++ (.int .u64 m.head :: (.int .u64 m.real :: ([]:List D)))) ++ r:=by simp [vX,Inf.cells]
@[simp] theorem Inf.s1 (m:Inf) (x:ID):zM (Enc.cells m) 1 (qd x.l) = Enc.cells { m with seq:=x }:=by simp [ZK,Inf.cells]
@[simp] theorem Inf.d17 (m:Inf):(Enc.cells m).drop 17 = (.int .u64 m.head :: (.int .u64 m.real :: ([]:List D))):=by simp [Inf.cells]
@[simp] theorem Inf.d17' (m:Inf) (r:List D):(Enc.cells m ++ r).drop 17 = (.int .u64 m.head :: (.int .u64 m.real :: ([]:List D))) ++ r:=by simp [Inf.cells]
@[simp] theorem Inf.g17 (m:Inf) (h):(Enc.cells m)[17]'h = .int .u64 m.head:=by simp [Inf.cells]
@[simp] theorem Inf.q17 (m:Inf):(Enc.cells m)[17]? = some (.int .u64 m.head):=by simp [Inf.cells]
@[simp] theorem Inf.s17 (m:Inf) (x:Int):zM (Enc.cells m) 17 [.int .u64 x] = Enc.cells { m with head:=x }:=by simp [vX,qdd,Inf.cells]
@[simp] theorem Inf.d18 (m:Inf):(Enc.cells m).drop 18 = (.int .u64 m.real :: ([]:List D)):=by simp [vX,qdd,Inf.cells]
@[simp] theorem Inf.d18' (m:Inf) (r:List D):(Enc.cells m ++ r).drop 18 = (.int .u64 m.real :: ([]:List D)) ++ r:=by simp [vX,qdd,Inf.cells]
@[simp] theorem Inf.g18 (m:Inf) (h):(Enc.cells m)[18]'h = .int .u64 m.real:=by simp [Inf.cells]
@[simp] theorem Inf.q18 (m:Inf):(Enc.cells m)[18]? = some (.int .u64 m.real):=by simp [Inf.cells]
@[simp] theorem Inf.s18 (m:Inf) (x:Int):zM (Enc.cells m) 18 [.int .u64 x] = Enc.cells { m with real:=x }:=by simp [ZK,vX,qdd,qP,Inf.cells]
def qbc:List UInt8:=[115,121,115,116,101,109,46,106,111,117,114,110,97,108]
def qbr:List UInt8:=[115,121,115,116,101,109,46,110,101,119]
def aheadL:List UInt8:=[115,121,115,116,101,109,64]
def behindL:List UInt8:=[46,106,111,117,114,110,97,108]
def X9 (q:List UInt8) (h r:Nat):List UInt8:=ju q ++ 45 :: (kc h ++ 45 :: kc r)
def kD (q:List UInt8) (h r:Nat):List UInt8:=aheadL ++ (X9 q h r ++ behindL)
def vw (i:Inf):List UInt8:=if i.kind = 1 then qbc else if i.kind = 4 then qbr else if i.kind = 2 then kD i.seq.l i.head.toNat i.real.toNat else if i.kind = 3 then kD i.seq.l i.head.toNat i.real.toNat ++ [126] else []
def V2 (p s:List UInt8):Bool:=decide (p.length≤s.length) && (s.drop (s.length - p.length) == p)
def QQ (p s:List UInt8):List UInt8:=if V2 p s then s.take (s.length - p.length) else s
theorem qkU (p s:List UInt8):V2 p (s ++ p) = true:=by
 unfold V2;have e:(s ++ p).length - p.length = s.length:=by simp
 rw [e,List.drop_left];simp
theorem qia (p s:List UInt8):QQ p (s ++ p) = s:=by
 have e:(s ++ p).length - p.length = s.length:=by simp
 unfold QQ;rw [qkU,if_pos rfl,e,List.take_left]
theorem qtU {a b:UInt8} (h:a≠b) (s:List UInt8):V2 [b] (s ++ [a]) = false:=by
 unfold V2;have e:(s ++ [a]).length - [b].length = s.length:=by simp
 rw [e,List.drop_left];have:([a] == [b]) = false:=by simpa using h
 rw [this,Bool.and_false]
def qbb (p s:List UInt8):List UInt8:=if s.take p.length == p then s.drop p.length else s
theorem qkQ (p s:List UInt8):qbb p (p ++ s) = s:=by
 unfold qbb;rw [List.take_left,if_pos (by simp),List.drop_left]
def Jz (s:List UInt8):List UInt8:=qbb aheadL (QQ behindL (QQ [126] s))
theorem qsN (q:List UInt8) (h r:Nat):V2 [126] (kD q h r) = false:=by
 have e:kD q h r = (aheadL ++ (X9 q h r ++ [46,106,111,117,114,110,97])) ++ [108]:=by
  simp [kD,behindL]
 rw [e];exact qtU (by decide) _
theorem qxs (q:List UInt8) (h r:Nat):Jz (kD q h r) = X9 q h r:=by
 have e:QQ [126] (kD q h r) = kD q h r:=by
  unfold QQ;rw [qsN,if_neg (by decide)]
 have e2:kD q h r = (aheadL ++ X9 q h r) ++ behindL:=by simp [kD]
 unfold Jz;rw [e,e2,qia,qkQ]
theorem qxr (q:List UInt8) (h r:Nat):Jz (kD q h r ++ [126]) = X9 q h r:=by
 have e2:kD q h r = (aheadL ++ X9 q h r) ++ behindL:=by simp [kD]
 unfold Jz;rw [qia,e2,qia,qkQ]
theorem qr4 (v:Nat):∀ x∈kc v,x≠59∧x≠61∧x≠45:=by
 intro x hx;unfold kc at hx;rcases List.mem_append.1 hx with h | h
 ·rw [(List.mem_replicate.1 h).2];decide
 ·exact qz8 v x h
theorem qlf (q:List UInt8) (h r:Nat):ZO 45 (X9 q h r) = [ju q,kc h,kc r]:=by
 unfold X9;rw [qlg (fun x hx=>(qqP q x hx).2.2),qlg (fun x hx=>(qr4 h x hx).2.2),qui (fun x hx=>(qr4 r x hx).2.2)]
theorem qfO {q:List UInt8} (hq:q.length = 16) (h r:Nat):(kD q h r).length = 81:=by
 simp only [kD,X9,zz,vn,qcL,hq,qbN,aheadL,behindL,kp]
end Go.Ev
namespace Go.Ev.S
open Go Go.Proofs Go.Ev
theorem qkT [MaxL] [TxtC] (s p:List UInt8) (hs:s.length < 1000000) (hp:p.length < 1000000):call cx 62 [.str s,.str p] [] = some (.bool (V2 p s),[]):=by
 refine qy Tryz.func62 rfl ⟨rfl,rfl⟩ ?_;unfold V2;by_cases h:p.length≤s.length
 ·have h':(p.length:Int)≤(s.length:Int):=by omega
  obtain ⟨j,hj⟩:∃ j,j = s.length - p.length:=⟨_,rfl⟩;have hw:=qx ((s.length:Int) - (p.length:Int)) (j:Int);have g1:(j:Int)≤(s.length:Int):=by omega
  have g2:j≤s.length:=by omega
  have ht:List.take (s.length - j) (List.drop j s) = List.drop j s:=qP (by simp);rw [← hj];simp [Tryz.f62,h,h',hw,g1,ht]
 ·have h':¬ (p.length:Int)≤(s.length:Int):=by omega
  simp [Tryz.f62,h,h']
theorem qtT [MaxL] [TxtC] (s p:List UInt8) (hs:s.length < 1000000) (hp:p.length < 1000000):call cx 24 [.str s,.str p] [] = some (.bool (V2 p s),[]):=by
 have h:=qkT s p hs hp;refine qy Tryz.func24 rfl ⟨rfl,rfl⟩ ?_;simp [Tryz.f24,h]
theorem qtI [MaxL] [TxtC] (s p:List UInt8) (hs:s.length < 1000000) (hp:p.length < 1000000):call cx 64 [.str s,.str p] [] = some (.str (QQ p s),[]):=by
 have h:=qkT s p hs hp;refine qy Tryz.func64 rfl ⟨rfl,rfl⟩ ?_;unfold QQ;cases hq:V2 p s with
 | false =>
  rw [hq] at h;simp [Tryz.f64,h]
 | true =>
  rw [hq] at h
  have hl:p.length≤s.length:=by
   unfold V2 at hq;rw [jk] at hq;simpa using hq.1
  obtain ⟨j,hj⟩:∃ j,j = s.length - p.length:=⟨_,rfl⟩;have hw:=qx ((s.length:Int) - (p.length:Int)) (j:Int);have g1:(j:Int)≤(s.length:Int):=by omega
  have g2:j≤s.length:=by omega
  rw [← hj];simp [Tryz.f64,h,hw,g1]
theorem qkP [MaxL] [TxtC] (s p:List UInt8) (hs:s.length < 1000000) (hp:p.length < 1000000):call cx 26 [.str s,.str p] [] = some (.str (QQ p s),[]):=by
 have h:=qtI s p hs hp;refine qy Tryz.func26 rfl ⟨rfl,rfl⟩ ?_;simp [Tryz.f26,h]
theorem qvY [MaxL] [TxtC] (s p:List UInt8) (_:s.length < 1000000) (_:p.length < 1000000):call cx 97 [.str s,.str p] [] = some (.bool (s.take p.length == p),[]):=by
 refine qy Tryz.func97 rfl ⟨rfl,rfl⟩ ?_;by_cases h:p.length≤s.length
 ·have h':(p.length:Int)≤(s.length:Int):=by omega
  simp [Tryz.f97,h']
 ·have h':¬ (p.length:Int)≤(s.length:Int):=by omega
  have hn:(s.take p.length == p) = false:=by
   rw [beq_eq_false_iff_ne];intro e;have:=congrArg List.length e;rw [jU] at this;omega
  simp [Tryz.f97,h',hn]
theorem qtK [MaxL] [TxtC] (s p:List UInt8) (hs:s.length < 1000000) (hp:p.length < 1000000):call cx 63 [.str s,.str p] [] = some (.str (qbb p s),[]):=by
 have h:=qvY s p hs hp;refine qy Tryz.func63 rfl ⟨rfl,rfl⟩ ?_;unfold qbb;cases hq:(s.take p.length == p) with
 | false =>
  rw [hq] at h;simp [Tryz.f63,h]
 | true =>
  rw [hq] at h
  have hl:p.length≤s.length:=by
   have:=congrArg List.length (beq_iff_eq.1 hq);rw [jU] at this;omega
  have g1:(p.length:Int)≤(s.length:Int):=by omega
  have ht:List.take (s.length - p.length) (List.drop p.length s) = List.drop p.length s:=qP (by simp);simp [Tryz.f63,h,g1,ht]
theorem qtJ [MaxL] [TxtC] (s p:List UInt8) (hs:s.length < 1000000) (hp:p.length < 1000000):call cx 25 [.str s,.str p] [] = some (.str (qbb p s),[]):=by
 have h:=qtK s p hs hp;refine qy Tryz.func25 rfl ⟨rfl,rfl⟩ ?_;simp [Tryz.f25,h]
def dsh:List UInt8:=[45]
structure InfOk (i:Inf):Prop where
 head:j5 i.head
 real:j5 i.real
set_option maxHeartbeats 2000000 in
theorem qmT [MaxL] [TxtC] (i:Inf) (h:InfOk i) (h2:i.kind = 2):call cx 12 [.agg (Enc.cells i)] [] = some (.str (kD i.seq.l i.head.toNat i.real.toNat),[]):=by
 obtain ⟨kd,sq,hd,rl⟩:=i;obtain ⟨w1,w2⟩:=h;simp only at h2 w1 w2;subst h2;unfold j5 at w1 w2;have e1:((hd.toNat:Nat):Int) = hd:=by omega
 have e2:((rl.toNat:Nat):Int) = rl:=by omega
 have h1:=qzG sq.l sq.h;have h3:=qjF hd.toNat (by omega);have h4:=qjF rl.toNat (by omega);rw [e1] at h3;rw [e2] at h4;have l1:=qcL sq.l;have l2:=qbN hd.toNat;have l3:=qbN rl.toNat;rw [sq.h] at l1;simp only [kD,X9];generalize ju sq.l = a1 at *;generalize kc hd.toNat = a2 at *;generalize kc rl.toNat = a3 at *;clear e1 e2 w1 w2;have h18:List.drop 17 (qd sq.l ++ [D.int .u64 hd,D.int .u64 rl]) = [D.int .u64 rl]:=by simp [vX,qdd]
 obtain ⟨s1,es1⟩:∃ s,s = aheadL ++ a1:=⟨_,rfl⟩;have ls1:s1.length = aheadL.length+a1.length:=by rw [es1,zz]
 obtain ⟨s2,es2⟩:∃ s,s = s1 ++ dsh:=⟨_,rfl⟩;have ls2:s2.length = s1.length+dsh.length:=by rw [es2,zz]
 obtain ⟨s3,es3⟩:∃ s,s = s2 ++ a2:=⟨_,rfl⟩;have ls3:s3.length = s2.length+a2.length:=by rw [es3,zz]
 obtain ⟨s4,es4⟩:∃ s,s = s3 ++ dsh:=⟨_,rfl⟩;have ls4:s4.length = s3.length+dsh.length:=by rw [es4,zz]
 obtain ⟨s5,es5⟩:∃ s,s = s4 ++ a3:=⟨_,rfl⟩;have ls5:s5.length = s4.length+a3.length:=by rw [es5,zz]
 obtain ⟨s6,es6⟩:∃ s,s = s5 ++ behindL:=⟨_,rfl⟩;have ls6:s6.length = s5.length+behindL.length:=by rw [es6,zz]
 simp only [aheadL,dsh,behindL,vn,kp] at ls1 ls2 ls3 ls4 ls5 ls6;have cs1:=Xt es1 (by (try simp only [aheadL,vn,kp]);omega);have cs2:=Xt es2 (by (try simp only [dsh,vn,kp]);omega);have cs3:=Xt es3 (by (try simp only [aheadL,dsh,behindL,vn,kp]);omega);have cs4:=Xt es4 (by (try simp only [dsh,vn,kp]);omega);have cs5:=Xt es5 (by (try simp only [aheadL,dsh,behindL,vn,kp]);omega);have cs6:=Xt es6 (by (try simp only [behindL,vn,kp]);omega);simp only [aheadL,dsh,behindL] at cs1 cs2 cs3 cs4 cs5 cs6
 have hfin:aheadL ++ (a1 ++ 45 :: (a2 ++ 45 :: a3) ++ behindL) = s6:=by
  simp [es6,es5,es4,es3,es2,es1,dsh]
 rw [hfin];clear hfin es1 es2 es3 es4 es5 es6 ls1 ls2 ls3 ls4 ls5 ls6 l1 l2 l3;refine qy Tryz.func12 rfl ⟨rfl,rfl⟩ ?_;simp [Tryz.f12,Inf.cells,h18,h1,h3,h4,-Go.Ev.strD,cs1,cs2,cs3,cs4,cs5,cs6]
theorem qmS [MaxL] [TxtC] (i:Inf) (h:InfOk i):call cx 12 [.agg (Enc.cells i)] [] = some (.str (vw i),[]):=by
 unfold vw;by_cases h1:i.kind = 1
 ·refine qy Tryz.func12 rfl ⟨rfl,rfl⟩ ?_;simp [Tryz.f12,Inf.cells,h1,qbc]
 ·by_cases h4:i.kind = 4
  ·refine qy Tryz.func12 rfl ⟨rfl,rfl⟩ ?_;simp [Tryz.f12,Inf.cells,h4,qbr]
  ·by_cases h2:i.kind = 2
   ·rw [if_neg h1,if_neg h4,if_pos h2];exact qmT i h h2
   ·by_cases h3:i.kind = 3
    ·have ha:=qmT ⟨2,i.seq,i.head,i.real⟩ ⟨h.head,h.real⟩ rfl;have hl:=qfO i.seq.h i.head.toNat i.real.toNat;simp only at ha;have ht18:List.take 18 (qd i.seq.l ++ [D.int .u64 i.head,D.int .u64 i.real]) = qd i.seq.l ++ [D.int .u64 i.head,D.int .u64 i.real]:=qP (by simp);simp [Inf.cells] at ha;rw [if_neg h1,if_neg h4,if_neg h2,if_pos h3];generalize kD i.seq.l i.head.toNat i.real.toNat = w at *;have hz:w.length+1≤4611686018427387904:=(by omega);refine qy Tryz.func12 rfl ⟨rfl,rfl⟩ ?_;simp [Tryz.f12,Inf.cells,h3,ha,hz,ht18]
    ·refine qy Tryz.func12 rfl ⟨rfl,rfl⟩ ?_;simp [Tryz.f12,Inf.cells,h1,h2,h3,h4]
def qbv:Inf:=⟨0,ID.zero,0,0⟩
def Kt (k:Int) (l:List (List UInt8)):Inf:=⟨k,qcz (l.getD 0 []),((vA (l.getD 1 [])).getD 0:Nat),((vA (l.getD 2 [])).getD 0:Nat)⟩
def V7 (s:List UInt8):Int:=if V2 [126] s then 3 else 2
def jm (s:List UInt8):Inf × Bool:=if s = qbc then (⟨1,ID.zero,0,0⟩,true) else if s = qbr then (⟨4,ID.zero,0,0⟩,true) else
 if (ZO 45 (Jz s)).length = 3∧vw (Kt (V7 s) (ZO 45 (Jz s))) = s then (Kt (V7 s) (ZO 45 (Jz s)),true) else (qbv,false)
theorem qg5 (s:List UInt8):(vA s).getD 0 < 18446744073709551616:=by
 unfold vA;cases h:pu 16 s with
 | none=>show 0 < 18446744073709551616;omega
 | some v =>
  simp only;split
  ·exact qiN h
  ·show 0 < 18446744073709551616;omega
theorem qqz (k:Int) (l:List (List UInt8)):InfOk (Kt k l):=by
 refine ⟨?_,?_⟩
 ·have:=qg5 (l.getD 1 []);show j5 ((vA (l.getD 1 [])).getD 0:Nat);unfold j5;omega
 ·have:=qg5 (l.getD 2 []);show j5 ((vA (l.getD 2 [])).getD 0:Nat);unfold j5;omega
theorem qev (k:Int):InfOk ⟨k,ID.zero,0,0⟩:=by
 refine ⟨?_,?_⟩ <;> (show j5 0;unfold j5;omega)
theorem qwl (s:List UInt8):InfOk (jm s).1:=by
 unfold jm;split
 ·exact qev 1
 ·split
  ·exact qev 4
  ·split
   ·exact qqz _ _
   ·exact qev 0
theorem qwm {s:List UInt8} (h:(jm s).2 = true):vw (jm s).1 = s:=by
 unfold jm at h ⊢;split
 ·rename_i h1;rw [h1];rfl
 ·rename_i h1;rw [if_neg h1] at h;split
  ·rename_i h2;rw [h2];rfl
  ·rename_i h2;rw [if_neg h2] at h;split
   ·rename_i h3;exact h3.2
   ·rename_i h3;rw [if_neg h3] at h;cases h
def q3w (i:Inf):Prop:=(i = ⟨1,ID.zero,0,0⟩∨i = ⟨4,ID.zero,0,0⟩)∨((i.kind = 2∨i.kind = 3)∧InfOk i)
theorem qqy (i:Inf) (h:InfOk i):Kt i.kind [ju i.seq.l,kc i.head.toNat,kc i.real.toNat] = i:=by
 obtain ⟨w1,w2⟩:=h;unfold j5 at w1 w2
 have e:∀ x:Int,0≤x∧x < 18446744073709551616→(((vA (kc x.toNat)).getD 0:Nat):Int) = x:=by
  intro x hx;rw [qjc (by omega)];show ((x.toNat:Nat):Int) = x;omega
 unfold Kt;simp only [List.getD_cons_zero,List.getD_cons_succ,qqD,e _ w1,e _ w2]
theorem qgK {s t:List UInt8} (h:s.length≠t.length):s≠t:=fun e=>h (by rw [e])
theorem qwj (i:Inf) (h:q3w i):jm (vw i) = (i,true):=by
 rcases h with (rfl | rfl) | ⟨h2 | h3,J5⟩
 ·rfl
 ·rfl
 ·have hn:vw i = kD i.seq.l i.head.toNat i.real.toNat:=by
   unfold vw;rw [h2,if_neg (by decide),if_neg (by decide),if_pos rfl]
  have hl:=qfO i.seq.h i.head.toNat i.real.toNat
  have hk:V7 (kD i.seq.l i.head.toNat i.real.toNat) = i.kind:=by
   unfold V7;rw [qsN,if_neg (by decide),h2]
  unfold jm;rw [hn,if_neg (qgK (by rw [hl];decide)),if_neg (qgK (by rw [hl];decide)),qxs,qlf,hk,qqy i J5,if_pos ⟨rfl,hn⟩]
 ·have hn:vw i = kD i.seq.l i.head.toNat i.real.toNat ++ [126]:=by
   unfold vw;rw [h3,if_neg (by decide),if_neg (by decide),if_neg (by decide),if_pos rfl]
  have hl:(kD i.seq.l i.head.toNat i.real.toNat ++ [126]).length = 82:=by rw [zz,qfO i.seq.h];rfl
  have hk:V7 (kD i.seq.l i.head.toNat i.real.toNat ++ [126]) = i.kind:=by
   unfold V7;rw [qkU,if_pos rfl,h3]
  unfold jm;rw [hn,if_neg (qgK (by rw [hl];decide)),if_neg (qgK (by rw [hl];decide)),qxr,qlf,hk,qqy i J5,if_pos ⟨rfl,hn⟩]
end Go.Ev.S
namespace Go.Ev
open Go Go.Proofs
def qgR (a b:Inf):Bool:=a.kind == b.kind && (a.seq == b.seq && (a.head == b.head && a.real == b.real))
theorem qq0 (a b:Inf):qgR a b = true↔a = b:=by
 obtain ⟨a1,a2,a3,a4⟩:=a;obtain ⟨b1,b2,b3,b4⟩:=b;simp [qgR]
@[simp] theorem Inf.eq19 (a b:Inf):ko (qfK [.i,.i,.i]) (Enc.cells a) (Enc.cells b) = some (qgR a b):=by
 have h1:=q2g a.seq b.seq;rw [Inf.cells,Inf.cells];have e:((qfK [.i,.i,.i]):List CK) = .i :: ((qfK []) ++ [.i,.i]):=rfl;rw [e];simp only [ko,qdi,if_true];rw [qsB _ _ _ _ _ _ (by simp) (by simp),h1];simp only [ko,qdi,if_true,Bool.and_true];rfl
theorem qgd (p s:List UInt8):(QQ p s).length≤s.length:=by
 unfold QQ;split
 ·rw [jU];omega
 ·exact qE _
theorem qtL (p s:List UInt8):(qbb p s).length≤s.length:=by
 unfold qbb;split
 ·rw [vQ];omega
 ·exact qE _
theorem qxt (s:List UInt8):(Jz s).length≤s.length:=by
 unfold Jz;have h1:=qtL aheadL (QQ behindL (QQ [126] s));have h2:=qgd behindL (QQ [126] s);have h3:=qgd [126] s;omega
end Go.Ev
namespace Go.Ev.S
open Go Go.Proofs Go.Ev
theorem z19 (k:Int):(D.int .i64 k::qO [.int .u64 0,.int .u64 0]) = Enc.cells (⟨k,ID.zero,0,0⟩:Inf):=rfl
theorem qwn [MaxL] [TxtC]:call cx 6 [.str qbc] [] = some (.tup [.agg (Enc.cells (⟨1,ID.zero,0,0⟩:Inf)),.bool true],[]):=call_some.2 ⟨200,by kernel_rfl⟩
theorem qwo [MaxL] [TxtC]:call cx 6 [.str qbr] [] = some (.tup [.agg (Enc.cells (⟨4,ID.zero,0,0⟩:Inf)),.bool true],[]):=call_some.2 ⟨200,by kernel_rfl⟩
set_option maxHeartbeats 4000000 in
set_option maxRecDepth 4000 in
theorem qmv [MaxL] [TxtC] (s:List UInt8) (hs:s.length < 100000):call cx 6 [.str s] [] = some (.tup [.agg (Enc.cells (jm s).1),.bool (jm s).2],[]):=by
 by_cases h1:s = qbc
 ·rw [h1];exact qwn
 by_cases h2:s = qbr
 ·rw [h2];exact qwo
 have b1:(s == [115,121,115,116,101,109,46,106,111,117,114,110,97,108]) = false:=beq_eq_false_iff_ne.2 h1;have b2:(s == [115,121,115,116,101,109,46,110,101,119]) = false:=beq_eq_false_iff_ne.2 h2;have e1:=qtT s [126] (by omega) (by decide);have e2:=qkP s [126] (by omega) (by decide);have t1:=qgd [126] s;have e3:=qkP (QQ [126] s) behindL (by omega) (by decide);have t2:=qgd behindL (QQ [126] s);have e4:=qtJ (QQ behindL (QQ [126] s)) aheadL (by omega) (by decide);have hm:=qxt s;have e5:=quj 45 (Jz s) (by omega);have hpl:∀ x∈ZO 45 (Jz s),x.length≤(Jz s).length:=qlh 45 _ (Jz s)
 have hP:jm s = if (ZO 45 (Jz s)).length = 3∧vw (Kt (V7 s) (ZO 45 (Jz s))) = s then (Kt (V7 s) (ZO 45 (Jz s)),true) else (qbv,false):=by
  unfold jm;rw [if_neg h1,if_neg h2]
 have hz:=z19 0;have Ve:Enc.cells (⟨0,ID.zero,0,0⟩:Inf) = Enc.cells qbv:=rfl;rw [Ve] at hz;have hid0:qd ID.zero.l = (qO []):=rfl;have hmid:qbb aheadL (QQ behindL (QQ [126] s)) = Jz s:=rfl;rw [hmid] at e4;simp only [behindL,aheadL] at e3 e4;generalize jm s = res at *;generalize Jz s = m at *;generalize QQ [46,106,111,117,114,110,97,108] (QQ [126] s) = m1 at *;generalize QQ [126] s = m2 at *;generalize ZO 45 m = P at *;by_cases h3:P.length = 3
 ·obtain ⟨y0,y1,y2,hPy⟩:∃ y0 y1 y2,P = [y0,y1,y2]:=by
   clear hP hpl e5
   match P,h3 with
   | [a,b,c],_=>exact ⟨a,b,c,rfl⟩
  subst hPy;have l0:=hpl y0 (by simp);have l1:=hpl y1 (by simp);have l2:=hpl y2 (by simp);have i0:call cx 28 [.str y0] [] = some (.tup [.agg (qd (qcz y0).l),.bool (QH y0).isSome],[]):=qz1 y0 (by omega);have i1:=qmL y1 (by omega);have i2:=qmL y2 (by omega);have hn:=qmS _ (qqz (V7 s) [y0,y1,y2]);have hcu:Kt (V7 s) [y0,y1,y2] = ⟨V7 s,qcz y0,((vA y1).getD 0:Nat),((vA y2).getD 0:Nat)⟩:=rfl;have hk:V7 s = if V2 [126] s then 3 else 2:=rfl;have hd19:List.drop 19 (Enc.cells qbv) = []:=Js (by simp);cases hsf:V2 [126] s with
  | true =>
   rw [hsf] at hk e1;simp only [if_true] at hk;rw [hk] at hn hP hcu;by_cases hq:vw (Kt 3 [y0,y1,y2]) = s
   ·rw [if_pos ⟨h3,hq⟩] at hP;rw [hq] at hn;subst hP;rw [hcu] at hn ⊢;rw [Inf.cells] at hn ⊢;simp only at hn;refine qy Tryz.func6 rfl ⟨rfl,rfl⟩ ?_;simp [Tryz.f6,b1,b2,e1,e2,e3,e4,e5,i0,i1,i2,hn,ZK,vX,qdd,qP]
   ·rw [if_neg (fun h=>hq h.2)] at hP;subst hP;have jL:(vw (Kt 3 [y0,y1,y2]) == s) = false:=beq_eq_false_iff_ne.2 hq;generalize vw (Kt 3 [y0,y1,y2]) = w at *;rw [hcu] at hn;refine qy Tryz.func6 rfl ⟨rfl,rfl⟩ ?_;simp [Tryz.f6,b1,b2,e1,e2,e3,e4,e5,i0,i1,i2,hn,jL,hz,hd19,qP]
  | false =>
   rw [hsf] at hk e1;simp only [QE,if_false] at hk;rw [hk] at hn hP hcu;by_cases hq:vw (Kt 2 [y0,y1,y2]) = s
   ·rw [if_pos ⟨h3,hq⟩] at hP;rw [hq] at hn;subst hP;rw [hcu] at hn ⊢;rw [Inf.cells] at hn ⊢;simp only at hn;refine qy Tryz.func6 rfl ⟨rfl,rfl⟩ ?_;simp [Tryz.f6,b1,b2,e1,e2,e3,e4,e5,i0,i1,i2,hn,ZK,vX,qdd,qP]
   ·rw [if_neg (fun h=>hq h.2)] at hP;subst hP;have jL:(vw (Kt 2 [y0,y1,y2]) == s) = false:=beq_eq_false_iff_ne.2 hq;generalize vw (Kt 2 [y0,y1,y2]) = w at *;rw [hcu] at hn;refine qy Tryz.func6 rfl ⟨rfl,rfl⟩ ?_;simp [Tryz.f6,b1,b2,e1,e2,e3,e4,e5,i0,i1,i2,hn,jL,hz,hd19,qP]
 ·have vl:¬ (P.length:Int) = 3:=by omega
  rw [if_neg (fun h=>h3 h.1)] at hP;subst hP;refine qy Tryz.func6 rfl ⟨rfl,rfl⟩ ?_
  cases hsf:V2 [126] s <;> rw [hsf] at e1 <;>
   simp [Tryz.f6,b1,b2,e1,e2,e3,e4,e5,vl,hz]
theorem qjV (k:Nat) (h:k < 16):List.take 1 (List.drop k digL) = [vU k]:=by
 have:∀ k,k < 16→List.take 1 (List.drop k digL) = [vU k]:=by decide
 exact this k h
set_option maxHeartbeats 2000000 in
theorem qv5 [MaxL] [TxtC] (l:List UInt8) (hl:l.length = 16):call cx 40 [.agg (qd l)] [] = some (.str (ju l),[]):=by
 refine qy Tryz.func40 rfl ⟨rfl,rfl⟩ ?_;simp [Tryz.f40,hl];refine Run.loopThen (fun (k:Nat) e H'=>k≤16∧qi e 1 = some (.optr 0 16 0)∧qi e 3 = some (.str (ju (l.take k)))∧qi e 4 = some (.int .i64 k)∧H' = [some (qd l)]) (fun k=>16 - k) 0 ?_ ?_
 ·simp [ju]
 rintro k e H' ⟨hk,k1,k3,k4,rfl⟩;by_cases qg:k < 16
 ·have qo:(k:Int) < 16:=by omega
  have hkl:k < l.length:=by omega
  have hw:=qx ((k:Int)+1) ((k+1:Nat):Int);have qI:=vq hkl;have hsn:=qqO hkl;have hb:=l[k].toNat_lt;have hlen:(ju (l.take k)).length = 2 * k:=by rw [qcL,jU];omega
  generalize l[k] = b at *;have d1:=qjV (b.toNat / 16) (by omega);have d2:=qjV (b.toNat % 16) (by omega);generalize vU (b.toNat / 16) = c1 at *;generalize vU (b.toNat % 16) = c2 at *;obtain ⟨m1,kb⟩:∃ m,m = b.toNat / 16:=⟨_,rfl⟩;obtain ⟨m2,zJ⟩:∃ m,m = b.toNat % 16:=⟨_,rfl⟩;rw [← kb] at d1;rw [← zJ] at d2;have q1:=zu8 ((b.toNat:Int) / 16) (m1:Int);have q2:(b.toNat:Int).tmod 16 = (m2:Int):=by rw [zJ];exact (Int.ofNat_tmod b.toNat 16).symm
  have w1:=zu8 ((m1:Int)+1) ((m1+1:Nat):Int);have w2:=zu8 ((m2:Int)+1) ((m2+1:Nat):Int);have t1:m1≤15:=by omega
  have t2:m2≤15:=by omega
  have n1:((m1:Int)+1).toNat = m1+1:=by omega
  have n2:((m2:Int)+1).toNat = m2+1:=by omega
  have u1:(m1:Int)+1≤16:=by omega
  have u2:(m2:Int)+1≤16:=by omega
  have v1:(0:Int)≤(m1:Int)+1:=by omega
  have v2:(0:Int)≤(m2:Int)+1:=by omega
  have y1:(m1:Int)≤(m1:Int)+1:=by omega
  have y2:(m2:Int)≤(m2:Int)+1:=by omega
  simp only [digL] at d1 d2;generalize ju (l.take k) = X at *;have x1:X.length+1≤4611686018427387904:=by omega
  have x2:X.length+1+1≤4611686018427387904:=by omega
  simp [k1,k3,k4,qo,hw,qI,hl,q1,q2,w1,w2,d1,d2,n1,n2,u1,u2,v1,v2,x1,x2,y1,y2];exact ⟨k+1,by omega,by omega,by rw [hsn],by omega⟩
 ·have qo:¬ (k:Int) < 16:=by omega
  have JP:k = 16:=by omega
  subst JP;have jc:l.take 16 = l:=qP (by omega);rw [jc] at k3;simp [k1,k3,k4]
set_option maxHeartbeats 2000000 in
theorem qlT [MaxL] [TxtC] (v:Nat) (hv:v < 18446744073709551616):call cx 41 [.int .u64 v] [] = some (.str (VP 16 v),[]):=by
 refine qy Tryz.func41 rfl ⟨rfl,rfl⟩ ?_;obtain ⟨r,hr⟩:=ql (VP 16 v);rw [hr];simp [Tryz.f41];refine Run.loopThen (fun (q:Nat × Nat × List UInt8) e H'=>q.1≤16∧q.2.1 < 18446744073709551616∧q.2.2.length = q.1∧VP (16 - q.1) q.2.1 ++ q.2.2 = r∧qi e 0 = some (.int .u64 (q.2.1:Nat))∧qi e 3 = some (.str q.2.2)∧qi e 4 = some (.int .i64 (q.1:Nat))∧H' = []) (fun q=>16 - q.1) (0,v,[]) ?_ ?_
 ·simp [hr,hv]
 rintro ⟨k,u,w⟩ e H' ⟨hk,hu,jR,hR,k0,k3,k4,rfl⟩;simp only at hk hu jR hR k0 k3 k4;by_cases qg:k < 16
 ·have qo:(k:Int) < 16:=by omega
  have hw:=qx ((k:Int)+1) ((k+1:Nat):Int);obtain ⟨m,hm⟩:∃ m,16 - k = m+1:=⟨15 - k,by omega⟩;rw [hm,VP] at hR;have d1:=qjV (u % 16) (by omega);generalize vU (u % 16) = c1 at *;obtain ⟨m1,kb⟩:∃ m1,m1 = u % 16:=⟨_,rfl⟩;rw [← kb] at d1;have q2:(u:Int).tmod 16 = (m1:Int):=by rw [kb];exact (Int.ofNat_tmod u 16).symm
  obtain ⟨u',hu'⟩:∃ u',u' = u / 16:=⟨_,rfl⟩;rw [← hu'] at hR;have q1:=qN ((u:Int) / 16) (u':Int);have w1:=qN ((m1:Int)+1) ((m1:Int)+1);have t1:m1≤15:=by omega
  have n1:((m1:Int)+1).toNat = m1+1:=by omega
  have u1:(m1:Int)+1≤16:=by omega
  have v1:(0:Int)≤(m1:Int)+1:=by omega
  have y1:(m1:Int)≤(m1:Int)+1:=by omega
  have x1:1+w.length≤4611686018427387904:=by omega
  have x2:w.length+1≤4611686018427387904:=by omega
  simp only [digL] at d1;simp [k0,k3,k4,qo,hw,q1,q2,w1,d1,n1,u1,v1,y1,x1];exact ⟨k+1,by omega,by omega,u',by omega,c1 :: w,by simp [jR],by rw [show 16 - (k+1) = m by omega,← hR];simp,rfl,rfl,by omega⟩
 ·have qo:¬ (k:Int) < 16:=by omega
  have JP:k = 16:=by omega
  subst JP;simp only [Nat.sub_self,VP,Qu] at hR;subst hR;simp [k0,k3,k4]
set_option maxHeartbeats 4000000 in
theorem qbh [MaxL] [TxtC] (i:Inf) (h:InfOk i) (hk:i.kind = 1∨i.kind = 2∨i.kind = 3∨i.kind = 4):call cx 13 [.agg (Enc.cells i)] [] = some (.str (vw i),[]):=by
 obtain ⟨kd,sq,hd,rl⟩:=i;obtain ⟨w1,w2⟩:=h;simp only at hk w1 w2;unfold j5 at w1 w2;unfold vw;simp only;have e1:((hd.toNat:Nat):Int) = hd:=by omega
 have e2:((rl.toNat:Nat):Int) = rl:=by omega
 have h1:=qv5 sq.l sq.h;have h3:=qlT hd.toNat (by omega);have h4:=qlT rl.toNat (by omega);rw [← qhf (by omega),e1] at h3;rw [← qhf (by omega),e2] at h4;have l1:=qcL sq.l;have l2:=qbN hd.toNat;have l3:=qbN rl.toNat;rw [sq.h] at l1;simp only [kD,X9];generalize ju sq.l = a1 at *;generalize kc hd.toNat = a2 at *;generalize kc rl.toNat = a3 at *;clear e1 e2 w1 w2;have h18:List.drop 17 (qd sq.l ++ [D.int .u64 hd,D.int .u64 rl]) = [D.int .u64 rl]:=by simp [vX,qdd]
 obtain ⟨s1,es1⟩:∃ s,s = aheadL ++ a1:=⟨_,rfl⟩;have ls1:s1.length = aheadL.length+a1.length:=by rw [es1,zz]
 obtain ⟨s2,es2⟩:∃ s,s = s1 ++ dsh:=⟨_,rfl⟩;have ls2:s2.length = s1.length+dsh.length:=by rw [es2,zz]
 obtain ⟨s3,es3⟩:∃ s,s = s2 ++ a2:=⟨_,rfl⟩;have ls3:s3.length = s2.length+a2.length:=by rw [es3,zz]
 obtain ⟨s4,es4⟩:∃ s,s = s3 ++ dsh:=⟨_,rfl⟩;have ls4:s4.length = s3.length+dsh.length:=by rw [es4,zz]
 obtain ⟨s5,es5⟩:∃ s,s = s4 ++ a3:=⟨_,rfl⟩;have ls5:s5.length = s4.length+a3.length:=by rw [es5,zz]
 obtain ⟨s6,es6⟩:∃ s,s = s5 ++ behindL:=⟨_,rfl⟩;have ls6:s6.length = s5.length+behindL.length:=by rw [es6,zz]
 simp only [aheadL,dsh,behindL,vn,kp] at ls1 ls2 ls3 ls4 ls5 ls6;have cs1:=Xt es1 (by (try simp only [aheadL,vn,kp]);omega);have cs2:=Xt es2 (by (try simp only [dsh,vn,kp]);omega);have cs3:=Xt es3 (by (try simp only [aheadL,dsh,behindL,vn,kp]);omega);have cs4:=Xt es4 (by (try simp only [dsh,vn,kp]);omega);have cs5:=Xt es5 (by (try simp only [aheadL,dsh,behindL,vn,kp]);omega);have cs6:=Xt es6 (by (try simp only [behindL,vn,kp]);omega);simp only [aheadL,dsh,behindL] at cs1 cs2 cs3 cs4 cs5 cs6
 have hfin:aheadL ++ (a1 ++ 45 :: (a2 ++ 45 :: a3) ++ behindL) = s6:=by
  simp [es6,es5,es4,es3,es2,es1,dsh]
 rw [hfin];have cs7:Go.Ev.strD BinOp.add s6 [126] = some (.str (s6 ++ [126])):=Xt rfl (by simp only [vn,kp];omega);clear hfin es1 es2 es3 es4 es5 es6 ls1 ls2 ls3 ls4 ls5 ls6 l1 l2 l3;rcases hk with rfl | rfl | rfl | rfl
 ·refine qy Tryz.func13 rfl ⟨rfl,rfl⟩ ?_;simp [Tryz.f13,Inf.cells,qbc]
 ·refine qy Tryz.func13 rfl ⟨rfl,rfl⟩ ?_;simp [Tryz.f13,Inf.cells,h18,h1,h3,h4,-Go.Ev.strD,cs1,cs2,cs3,cs4,cs5,cs6]
 ·refine qy Tryz.func13 rfl ⟨rfl,rfl⟩ ?_;simp [Tryz.f13,Inf.cells,h18,h1,h3,h4,-Go.Ev.strD,cs1,cs2,cs3,cs4,cs5,cs6,cs7]
 ·refine qy Tryz.func13 rfl ⟨rfl,rfl⟩ ?_;simp [Tryz.f13,Inf.cells,qbr]
theorem qmM {s:List UInt8} {v:Nat} (h:vA s = some v):kc v = s∧v < 18446744073709551616:=by
 unfold vA at h;cases hp:pu 16 s with
 | none=>rw [hp] at h;cases h
 | some w =>
  rw [hp] at h;simp only at h;split at h
  ·rename_i hf;cases h;exact ⟨hf,qiN hp⟩
  ·cases h
theorem qmN (s:List UInt8):vA s = if s.length = 16 then Zk s 0 else none:=by
 by_cases hl:s.length = 16
 ·rw [if_pos hl];cases hq:Zk s 0 with
  | some v =>
   obtain ⟨hv,e⟩:=qrl 16 s v (qE _) hl hq;have hv':v < 18446744073709551616:=(by simpa using hv);rw [← e,← qhf hv'];exact qjc hv'
  | none =>
   cases hn:vA s with
   | none=>rfl
   | some w =>
    obtain ⟨e,hw⟩:=qmM hn;rw [← e,qhf hw,qlq 16 w (qE _) (by simpa using hw)] at hq;cases hq
 ·rw [if_neg hl];cases hn:vA s with
  | none=>rfl
  | some w =>
   obtain ⟨e,hw⟩:=qmM hn;rw [← e] at hl;exact absurd (qbN w) hl
theorem qwW {s:List UInt8} (hl:s.length = 16):qeg s = ((vA s).getD 0,(vA s).isSome):=by
 rw [qmN,if_pos hl];unfold qeg;cases Zk s 0 with
 | none=>rfl
 | some v=>simp [hl]
theorem qxb:∀ a,a < 16→∀ b,b < 16→(((0:UInt8) <<< 4 ||| UInt8.ofNat a) <<< 4) ||| UInt8.ofNat b = UInt8.ofNat (16 * a+b):=by decide +kernel
theorem qz3 {c1 c2:UInt8} {a b:Nat} (ha:a < 16) (hb:b < 16) (h1:ve c1 digL 0 = (a:Int)) (h2:ve c2 digL 0 = (b:Int)) (l done:List UInt8) (m:Nat) :
  QI (c1 :: c2 :: l) (2 * done.length) (done ++ List.replicate (m+1) 0) = QI l (2 * (done.length+1)) ((done ++ [UInt8.ofNat (16 * a+b)]) ++ List.replicate m 0):=by
 simp only [QI,h1,h2];rw [if_neg (by omega),if_neg (by omega)];have e1:2 * done.length / 2 = done.length:=by omega
 have e2:(2 * done.length+1) / 2 = done.length:=by omega
 have e3:2 * done.length+1+1 = 2 * (done.length+1):=by omega
 have g1:(done ++ List.replicate (m+1) 0).getD done.length 0 = (0:UInt8):=by
  simp [List.getD,KM]
 rw [e1,e2,e3,g1]
 have s1:∀ x:UInt8,(done ++ List.replicate (m+1) (0:UInt8)).set done.length x = done ++ x :: List.replicate m 0:=by
  intro x;simp [KM]
 rw [s1]
 have g2:∀ x:UInt8,(done ++ x :: List.replicate m (0:UInt8)).getD done.length 0 = x:=by
  intro x;simp [List.getD]
 rw [g2]
 have s2:∀ x y:UInt8,(done ++ x :: List.replicate m (0:UInt8)).set done.length y = (done ++ [y]) ++ List.replicate m 0:=by
  intro x y;simp
 have e4:((((a:Nat):Int)).toNat) = a:=by omega
 have e5:((((b:Nat):Int)).toNat) = b:=by omega
 rw [s2,e4,e5,qxb a ha b hb]
theorem qz5 {c1:UInt8} (h1:ve c1 digL 0 = -1) (l:List UInt8) (i:Nat) (st:List UInt8):QI (c1 :: l) i st = none:=by
 simp only [QI,h1];rw [if_pos (by omega)]
theorem qz4 {c1 c2:UInt8} (h2:ve c2 digL 0 = -1) (l:List UInt8) (i:Nat) (st:List UInt8):QI (c1 :: c2 :: l) i st = none:=by
 simp only [QI,h2];split
 ·rfl
 ·rw [if_pos (by omega)]
theorem qiG [MaxL] [TxtC] (c:UInt8):call cx 68 [.int .u8 c.toNat] [] = some (.int .i64 (ve c digL 0),[]):=by
 refine qy Tryz.func68 rfl ⟨rfl,rfl⟩ ?_;have hl:digL.length = 16:=rfl;obtain ⟨r,hr⟩:=ql (ve c digL 0);rw [hr];simp [Tryz.f68];refine Run.loopThen (fun (k:Nat) e H'=>k≤16∧ve c (digL.drop k) k = r∧qi e 0 = some (.int .u8 c.toNat)∧qi e 3 = some (.int .i64 k)∧H' = []) (fun k=>16 - k) 0 (by simp [hr]) ?_;rintro k e H' ⟨hk,hi,k0,k3,rfl⟩;by_cases qg:k < 16
 ·have qo:(k:Int) < 16:=by omega
  have hkl:k < digL.length:=qg;have hw:=qx ((k:Int)+1) ((k+1:Nat):Int);have qI:digL[k]? = some digL[k]:=zn hkl;rw [zU hkl,ve] at hi;generalize digL[k] = x at *;simp only [digL] at qI;by_cases hx:x = c
  ·subst hx;rw [if_pos rfl] at hi;subst hi;simp [k0,k3,qo,qI]
  ·rw [if_neg hx] at hi
   have hx2:¬ (x.toNat:Int) = (c.toNat:Int):=by
    intro h;exact hx (UInt8.toNat.inj (by omega))
   simp [k0,k3,qo,qI,hx2,hw];exact ⟨k+1,by omega,by omega,hi,by simp⟩
 ·have qo:¬ (k:Int) < 16:=by omega
  have JP:k = 16:=by omega
  subst JP;have:r = -1:=hi.symm;subst this;simp [k0,k3]
set_option maxHeartbeats 2000000 in
theorem qv4 [MaxL] [TxtC] (s:List UInt8) (_:s.length < 1000000):call cx 30 [.str s] [] = some (.tup [.agg (qd ((QH s).getD zero16)),.bool (QH s).isSome],[]):=by
 refine qy Tryz.func30 rfl ⟨rfl,rfl⟩ ?_;have z16:=qk4;have z16l:zero16.length = 16:=rfl;have z16d:List.drop 16 (qd zero16) = []:=rfl;by_cases h32:s.length = 32
 ·have h32':(s.length:Int) = 32:=by omega
  have hP:QH s = QI s 0 zero16:=by unfold QH;rw [if_pos h32]
  rw [hP];simp [Tryz.f30,h32'];rw [← z16]
  refine Run.loopThen (fun (q:Nat × List UInt8) e H'=>q.1≤16∧q.2.length = q.1∧QI (s.drop (2 * q.1)) (2 * q.1) (q.2 ++ List.replicate (16 - q.1) 0) = QI s 0 zero16∧H' = [some (qd zero16),some (qd (q.2 ++ List.replicate (16 - q.1) 0))]∧qi e 0 = some (.str s)∧qi e 2 = some (.optr 0 16 0)∧qi e 4 = some (.optr 1 16 0) ∧
    qi e 5 = some (.int .i64 (q.1:Nat))) (fun q=>16 - q.1) (0,[]) ?_ ?_
  ·simp [zero16]
  rintro ⟨k,st⟩ e H' ⟨hk,hst,hgo,rfl,k0,k2,k4,k5⟩;simp only at hk hst hgo k5;by_cases qg:k < 16
  ·have qo:(k:Int) < 16:=(by omega);have h1:2 * k < s.length:=(by omega);have h2:2 * k+1 < s.length:=(by omega);have Vl:=qiG s[2 * k];have QB:=qiG s[2 * k+1];rw [zU h1,zU h2] at hgo;have e1:s[2 * k]? = some s[2 * k]:=zn h1;have e2:s[2 * k+1]? = some s[2 * k+1]:=zn h2;have QN:=qhq s[2 * k];have jY:=qhq s[2 * k+1];generalize s[2 * k] = c1 at *;generalize s[2 * k+1] = c2 at *;have hw:=qx ((k:Int)+1) ((k+1:Nat):Int);have qZ:=qx (2 * (k:Int)) (2 * (k:Int));have Zf:=qx (2 * (k:Int)+1) (2 * (k:Int)+1);have g1:(0:Int)≤2 * (k:Int):=(by omega);have g2:(0:Int)≤2 * (k:Int)+1:=(by omega);have g3:2 * (k:Int) < 32:=(by omega);have g4:2 * (k:Int)+1 < 32:=(by omega);have g5:(2 * (k:Int)).toNat = 2 * k:=(by omega);have g6:(2 * (k:Int)+1).toNat = 2 * k+1:=(by omega);rcases QN with ja | ⟨a,ha,ja,-⟩
   ·rw [qz5 ja] at hgo;rw [ja] at Vl;rw [← hgo];generalize ve c2 digL 0 = y at *;simp [k0,k2,k4,k5,qo,e1,e2,Vl,QB,qZ,Zf,g1,g2,g5,g6,← z16,z16l,z16d]
   ·rcases jY with zX | ⟨b,hb,zX,-⟩
    ·rw [qz4 zX] at hgo;rw [ja] at Vl;rw [zX] at QB;have JB:¬ (a:Int) < 0:=(by omega);rw [← hgo];simp [k0,k2,k4,k5,qo,e1,e2,Vl,QB,qZ,Zf,g1,g2,g5,g6,← z16,z16l,z16d,JB]
    ·subst hst;obtain ⟨m,hm⟩:∃ m,16 - st.length = m+1:=⟨15 - st.length,by omega⟩;rw [hm,qz3 ha hb ja zX] at hgo;rw [hm];rw [ja] at Vl;rw [zX] at QB;have JB:¬ (a:Int) < 0:=(by omega);have XT:¬ (b:Int) < 0:=(by omega);obtain ⟨x,hx⟩:∃ x,x = UInt8.ofNat (16 * a+b):=⟨_,rfl⟩
     have hxn:(x.toNat:Int) = 16 * (a:Int)+(b:Int):=by
      rw [hx,UInt8.toNat_ofNat'];omega
     rw [← hx] at hgo;have v1:=qx (16 * (a:Int)) (16 * (a:Int));have v2:=qx (16 * (a:Int)+(b:Int)) (16 * (a:Int)+(b:Int));have v3:IntKind.u8.wrap (16 * (a:Int)+(b:Int)) = (x.toNat:Int):=(by rw [hxn,qdx];omega);have qn:=qlt (st ++ List.replicate (m+1) 0) st.length x (by simp);have kN:(st ++ List.replicate (m+1) (0:UInt8)).set st.length x = (st ++ [x]) ++ List.replicate m 0:=(by simp [KM]);rw [kN] at qn;have hl16:(st ++ List.replicate (m+1) (0:UInt8)).length = 16:=(by simp;omega);have hj16:(st.length:Int) < 16:=(by omega);have hj15:st.length≤15:=(by omega);have QV:st.length+1≤16:=(by omega);have zJ:16 - (st.length+1) = m:=(by omega);generalize hT:st ++ List.replicate (m+1) (0:UInt8) = T at *;simp [-qcj,k0,k2,k4,k5,qo,e1,e2,Vl,QB,hw,qZ,Zf,g1,g2,g5,g6,JB,XT,v1,v2,v3,qn,hl16,QV];rw [show 2 * (st.length+1) = 2 * st.length+1+1 by omega] at hgo;exact ⟨st.length+1,by omega,by omega,st ++ [x],by simp,by rw [zJ,show 2 * (st.length+1) = 2 * st.length+1+1 by omega];exact hgo,by rw [zJ];simp,by omega⟩
  ·have qo:¬ (k:Int) < 16:=(by omega);have JP:k = 16:=(by omega);subst JP;rw [Js (by omega),QI] at hgo;rw [← hgo];have hre:st ++ List.replicate (16 - 16) (0:UInt8) = st:=(by simp);rw [hre];have hl16:16≤st.length:=(by omega);have ht:List.take 16 (qd st) = qd st:=qP (by simp;omega);simp [k0,k2,k4,k5,ht,hst,z16l,z16d]
 ·have h32':¬ (s.length:Int) = 32:=by omega
  have hP:QH s = none:=by unfold QH;rw [if_neg h32]
  rw [hP];simp [Tryz.f30,h32',← z16,z16l,z16d]
set_option maxHeartbeats 2000000 in
theorem qvp [MaxL] [TxtC] (s:List UInt8) (hs:s.length < 1000000):call cx 69 [.str s] [] = some (.tup [.int .u64 ((qeg s).1:Nat),.bool (qeg s).2],[]):=by
 refine qy Tryz.func69 rfl ⟨rfl,rfl⟩ ?_
 have hR:qeg s = match Zk s 0 with
  | none=>(0,false)
  | some v=>(v,decide (1≤s.length∧s.length≤16)):=rfl
 generalize qeg s = res at *;obtain ⟨g,hg⟩:=ql (Zk s 0);rw [hg] at hR;simp [Tryz.f69];refine Run.loopThen (fun (q:Nat × Nat) e H'=>q.1≤s.length∧q.2 < 18446744073709551616∧Zk (s.drop q.1) q.2 = g∧qi e 0 = some (.str s)∧qi e 4 = some (.int .u64 (q.2:Nat))∧qi e 5 = some (.int .i64 (q.1:Nat))∧H' = []) (fun q=>s.length - q.1) (0,0) ?_ ?_
 ·simp [hg]
 rintro ⟨k,v⟩ e H' ⟨hk,hv,hgo,k0,k4,k5,rfl⟩;simp only at hk hv hgo k4 k5;by_cases qg:k < s.length
 ·have qo:=zI qg;have hw:=qx ((k:Int)+1) ((k+1:Nat):Int);rw [zU qg,Zk] at hgo;have qI:s[k]? = some s[k]:=zn qg;have hc:=qiG s[k];have hd:=qhq s[k];generalize s[k] = c at *;rcases hd with hn | ⟨a,ha,hn,-⟩
  ·rw [hn,if_pos (by omega)] at hgo;subst hgo;simp only at hR;subst hR;rw [hn] at hc;simp [k0,k4,k5,qo,qI,hc]
  ·rw [hn,if_neg (by omega)] at hgo;have e1:(((a:Nat):Int)).toNat = a:=(by omega);rw [e1] at hgo;rw [hn] at hc;have JB:¬ (a:Int) < 0:=(by omega);have hwa:=qN (a:Int) (a:Int);obtain ⟨u,hu⟩:=ql ((v * 16+a) % 18446744073709551616);rw [hu] at hgo
   have hww:IntKind.u64.wrap (IntKind.u64.wrap ((v:Int) * 16)+(a:Int)) = (u:Int):=by
    rw [← hu];simp only [IntKind.wrap,IntKind.signed,IntKind.bits];simp
   simp [k0,k4,k5,qo,qI,hc,JB,hwa,hww,hw];exact ⟨k+1,by omega,by omega,u,by omega,hgo,rfl,by omega⟩
 ·have qo:=zL qg;rw [Js (by omega),Zk] at hgo;subst hgo;simp only at hR;subst hR;by_cases h1:1≤s.length
  ·have zg:(1:Int)≤(s.length:Int):=(by omega);by_cases Ji:s.length≤16
   ·have VN:(s.length:Int)≤16:=(by omega);simp [k0,k4,k5,qo,h1,zg,Ji,VN]
   ·have VN:¬ (s.length:Int)≤16:=(by omega);simp [k0,k4,k5,qo,h1,zg,Ji,VN]
  ·have zg:¬ (1:Int)≤(s.length:Int):=(by omega);simp [k0,k4,k5,qo,h1,zg]
theorem qlK [MaxL] [TxtC] (s:List UInt8) (hs:s.length < 1000000):call cx 31 [.str s] [] = some (.tup [.int .u64 ((vA s).getD 0:Nat),.bool (vA s).isSome],[]):=by
 have h:=qvp s hs;refine qy Tryz.func31 rfl ⟨rfl,rfl⟩ ?_;by_cases hl:s.length = 16
 ·have hl':(s.length:Int) = 16:=by omega
  rw [qwW hl] at h;simp only at h;simp [Tryz.f31,hl,h]
 ·have hl':¬ (s.length:Int) = 16:=by omega
  have hn:vA s = none:=by rw [qmN,if_neg hl]
  simp [Tryz.f31,hl',hn]
def ZR (s:List UInt8):Inf:=⟨2+((s.length:Int) - 81),qcz ((s.drop 7).take 32),((vA ((s.drop 40).take 16)).getD 0:Nat),((vA ((s.drop 57).take 16)).getD 0:Nat)⟩
def qd3 (s:List UInt8):Bool:=(QH ((s.drop 7).take 32)).isSome && ((vA ((s.drop 40).take 16)).isSome && (vA ((s.drop 57).take 16)).isSome)
theorem qme (s:List UInt8):InfOk (ZR s):=by
 refine ⟨?_,?_⟩
 ·have:=qg5 ((s.drop 40).take 16);show j5 ((vA ((s.drop 40).take 16)).getD 0:Nat);unfold j5;omega
 ·have:=qg5 ((s.drop 57).take 16);show j5 ((vA ((s.drop 57).take 16)).getD 0:Nat);unfold j5;omega
theorem q2R {q:List UInt8} (hq:q.length = 16) (h r:Nat) (t:List UInt8):((kD q h r ++ t).drop 7).take 32 = ju q∧((kD q h r ++ t).drop 40).take 16 = kc h∧((kD q h r ++ t).drop 57).take 16 = kc r:=by
 have hl:(ju q).length = 32:=by rw [qcL,hq]
 have f1:(kc h).length = 16:=qbN h;have f2:(kc r).length = 16:=qbN r;have e:kD q h r ++ t = aheadL ++ (ju q ++ 45 :: (kc h ++ 45 :: (kc r ++ (behindL ++ t)))):=by simp [kD,X9]
 have a7:aheadL.length = 7:=rfl;rw [e];refine ⟨?_,?_,?_⟩
 ·rw [kE a7,List.take_left' hl]
 ·rw [show 40 = 7+33 by omega,← jV,kE a7,show 33 = 32+1 by omega,← jV,kE hl,List.drop_succ_cons,List.drop_zero,List.take_left' f1]
 ·rw [show 57 = 7+50 by omega,← jV,kE a7,show 50 = 32+18 by omega,← jV,kE hl,List.drop_succ_cons,show 17 = 16+1 by omega,← jV,kE f1,List.drop_succ_cons,List.drop_zero,List.take_left' f2]
theorem qvL (s:List UInt8) (h1:s≠qbc) (h2:s≠qbr):jm s = if (s.length = 81∨s.length = 82)∧qd3 s = true∧vw (ZR s) = s then (ZR s,true) else (qbv,false):=by
 by_cases hc:(s.length = 81∨s.length = 82)∧qd3 s = true∧vw (ZR s) = s
 ·rw [if_pos hc]
  have hk:(ZR s).kind = 2∨(ZR s).kind = 3:=by
   unfold ZR;simp only;omega
  have:=qwj (ZR s) (.inr ⟨hk,qme s⟩);rw [hc.2.2] at this;exact this
 ·rw [if_neg hc];cases hp:(jm s).2 with
  | false =>
   unfold jm at hp ⊢;rw [if_neg h1,if_neg h2] at hp ⊢;split
   ·rename_i h3;rw [if_pos h3] at hp;cases hp
   ·rfl
  | true =>
   exfalso;apply hc;have hn:=qwm hp;have J5:=qwl s;obtain ⟨i,hi⟩:=ql ((jm s).1);rw [hi] at hn J5
   have hk:i.kind = 2∨i.kind = 3:=by
    unfold jm at hp hi;rw [if_neg h1,if_neg h2] at hp hi;split at hp
    ·rename_i h3;rw [if_pos h3] at hi;rw [← hi];show V7 s = 2∨V7 s = 3;unfold V7;split
     ·exact .inr rfl
     ·exact .inl rfl
    ·cases hp
   have e2:∃ t,vw i = kD i.seq.l i.head.toNat i.real.toNat ++ t∧(t.length:Int) = i.kind - 2:=by
    rcases hk with h | h
    ·refine ⟨[],?_,by rw [h];rfl⟩;unfold vw;rw [h,if_neg (by decide),if_neg (by decide),if_pos rfl,KO]
    ·refine ⟨[126],?_,by rw [h];rfl⟩;unfold vw;rw [h,if_neg (by decide),if_neg (by decide),if_neg (by decide),if_pos rfl]
   obtain ⟨t,e2,e3⟩:=e2;obtain ⟨a1,a2,a3⟩:=q2R i.seq.h i.head.toNat i.real.toNat t;rw [← e2,hn] at a1 a2 a3;have hl:s.length = 81+t.length:=(by rw [← hn,e2,zz,qfO i.seq.h]);obtain ⟨u1,u2⟩:=J5;unfold j5 at u1 u2
   have e:∀ x:Int,0≤x∧x < 18446744073709551616→vA (kc x.toNat) = some x.toNat:=by
    intro x hx;exact qjc (by omega)
   have hidp:QH (ju i.seq.l) = some i.seq.l:=qqB i.seq.h
   have hI:ZR s = i:=by
    unfold ZR;rw [a1,a2,a3,e _ u1,e _ u2,qqD];simp only [Va];have k1:2+((s.length:Int) - 81) = i.kind:=(by omega);have k2:((i.head.toNat:Nat):Int) = i.head:=(by omega);have k3:((i.real.toNat:Nat):Int) = i.real:=(by omega);rw [k1,k2,k3]
   refine ⟨by omega,?_,by rw [hI];exact hn⟩;unfold qd3;rw [a1,a2,a3,e _ u1,e _ u2,hidp];rfl
theorem qvt [MaxL] [TxtC]:call cx 7 [.str qbc] [] = some (.tup [.agg (Enc.cells (⟨1,ID.zero,0,0⟩:Inf)),.bool true],[]):=call_some.2 ⟨900,by kernel_rfl⟩
theorem qvu [MaxL] [TxtC]:call cx 7 [.str qbr] [] = some (.tup [.agg (Enc.cells (⟨4,ID.zero,0,0⟩:Inf)),.bool true],[]):=call_some.2 ⟨900,by kernel_rfl⟩
set_option maxHeartbeats 4000000 in
set_option maxRecDepth 4000 in
theorem qlC [MaxL] [TxtC] (s:List UInt8) (hs:s.length < 100000):call cx 7 [.str s] [] = some (.tup [.agg (Enc.cells (jm s).1),.bool (jm s).2],[]):=by
 by_cases h1:s = qbc
 ·rw [h1];exact qvt
 by_cases h2:s = qbr
 ·rw [h2];exact qvu
 have b1:(s == [115,121,115,116,101,109,46,106,111,117,114,110,97,108]) = false:=beq_eq_false_iff_ne.2 h1;have b2:(s == [115,121,115,116,101,109,46,110,101,119]) = false:=beq_eq_false_iff_ne.2 h2;have n1:=qbh ⟨1,ID.zero,0,0⟩ (qev 1) (.inl rfl);have n4:=qbh ⟨4,ID.zero,0,0⟩ (qev 4) (.inr (.inr (.inr rfl)));have n2:=qbh ⟨2,ID.zero,0,0⟩ (qev 2) (.inr (.inl rfl));have z1:=z19 1;have z4:=z19 4;have z2:=z19 2;rw [← z1] at n1;rw [← z4] at n4;rw [← z2] at n2;rw [qvL s h1 h2];have hz:=z19 0;have Ve:Enc.cells (⟨0,ID.zero,0,0⟩:Inf) = Enc.cells qbv:=rfl;rw [Ve] at hz;refine qy Tryz.func7 rfl ⟨rfl,rfl⟩ ?_;have m1:vw ⟨1,ID.zero,0,0⟩ = [115,121,115,116,101,109,46,106,111,117,114,110,97,108]:=rfl;have m4:vw ⟨4,ID.zero,0,0⟩ = [115,121,115,116,101,109,46,110,101,119]:=rfl;have m2:(vw ⟨2,ID.zero,0,0⟩).length = 81:=rfl;rw [m1] at n1;rw [m4] at n4;generalize vw ⟨2,ID.zero,0,0⟩ = N2 at *;have Y4:(D.int .i64 0::qO [.int .u64 0,.int .u64 0]) = Enc.cells qbv:=hz;by_cases hl:s.length = 81∨s.length = 82
 rotate_left
 ·rw [if_neg (fun h=>hl h.1)];have l1:¬ (s.length:Int) = 81:=by omega
  have l2:¬ (s.length:Int) = 82:=by omega
  rw [← Y4];simp [Tryz.f7,n1,n4,n2,m2,b1,b2,l1,l2]
 have d1:=qv4 ((s.drop 7).take 32) (by simp;omega);have d2:=qlK ((s.drop 40).take 16) (by simp;omega);have d3:=qlK ((s.drop 57).take 16) (by simp;omega);have hn:=qbh (ZR s) (qme s) (by unfold ZR;simp only;omega)
 have JU:(Enc.cells (ZR s):List D) = .int .i64 (2+((s.length:Int) - 81)) :: (qd (qcz ((s.drop 7).take 32)).l ++ [.int .u64 (((vA ((s.drop 40).take 16)).getD 0:Nat):Int),.int .u64 (((vA ((s.drop 57).take 16)).getD 0:Nat):Int)]):=by
  rfl
 have w1:=qx (2+(s.length:Int)) (2+(s.length:Int));have w2:=qx (2+(s.length:Int) - 81) (2+((s.length:Int) - 81))
 have hcs:(if (s.length = 81∨s.length = 82)∧qd3 s = true∧vw (ZR s) = s then (ZR s,true) else (qbv,false)) = (if qd3 s = true∧vw (ZR s) = s then (ZR s,true) else (qbv,false)):=by
  by_cases h:qd3 s = true∧vw (ZR s) = s
  ·rw [if_pos h,if_pos ⟨hl,h⟩]
  ·rw [if_neg h,if_neg (fun h2=>h h2.2)]
 rw [hcs];unfold qd3;rw [JU] at hn;have q1:(7:Int)≤(s.length:Int)∧(39:Int)≤(s.length:Int)∧(40:Int)≤(s.length:Int)∧(56:Int)≤(s.length:Int)∧(57:Int)≤(s.length:Int)∧(73:Int)≤(s.length:Int):=by omega
 obtain ⟨K,hK⟩:=ql (2+((s.length:Int) - 81));rw [hK] at w2 hn JU;have hcond:((s.length:Int) = 81∧¬ (s.length:Int) = 82)∨(¬ (s.length:Int) = 81∧(s.length:Int) = 82):=by omega
 have hdI:qd ((QH ((s.drop 7).take 32)).getD zero16) = qd (qcz ((s.drop 7).take 32)).l:=rfl;rw [hdI] at d1;obtain ⟨I0,hI0⟩:=ql (qcz ((s.drop 7).take 32));rw [hI0] at d1 hn JU;have VG:=I0.h;obtain ⟨x2,hx2⟩:∃ x:Nat,(vA ((s.drop 40).take 16)).getD 0 = x:=⟨_,rfl⟩;obtain ⟨x3,XD⟩:∃ x:Nat,(vA ((s.drop 57).take 16)).getD 0 = x:=⟨_,rfl⟩;rw [hx2] at d2 hn JU;rw [XD] at d3 hn JU;obtain ⟨f1,hf1⟩:=ql ((QH ((s.drop 7).take 32)).isSome);obtain ⟨f2,hf2⟩:=ql ((vA ((s.drop 40).take 16)).isSome);obtain ⟨f3,hf3⟩:=ql ((vA ((s.drop 57).take 16)).isSome);rw [hf1] at d1 ⊢;rw [hf2] at d2 ⊢;rw [hf3] at d3 ⊢;generalize vw (ZR s) = N at *;have e17a:List.drop 17 (qd I0.l ++ [D.int .u64 0,.int .u64 0]) = [.int .u64 0]:=by simp [vX,List.drop_of_length_le,VG]
 have e17:List.take 17 (qd I0.l ++ [D.int .u64 (x2:Nat),.int .u64 0]) = qd I0.l ++ [D.int .u64 (x2:Nat)]:=by simp [ZK,qP,VG]
 have e18:List.drop 18 (qd I0.l ++ [D.int .u64 (x2:Nat),.int .u64 0]) = []:=by simp [VG]
 have t18:List.take 18 (qd I0.l ++ [D.int .u64 (x2:Nat),.int .u64 (x3:Nat)]) = qd I0.l ++ [D.int .u64 (x2:Nat),.int .u64 (x3:Nat)]:=qP (by simp [VG]);have d18:List.drop 18 (qd I0.l ++ [D.int .u64 (x2:Nat),.int .u64 (x3:Nat)]) = []:=List.drop_of_length_le (by simp [VG]);rcases hcond with ⟨l1,l2⟩ | ⟨l1,l2⟩
 ·skip
  have kl:K = 2:=by omega
  subst kl;cases f1
  ·rw [if_neg (by simp),← Y4];cases f2 <;> cases f3 <;> simp [Tryz.f7,n1,n4,n2,m2,b1,b2,l1,d1,d2,d3,VG,e17a,e17,e18]
  cases f2
  ·rw [if_neg (by simp),← Y4];cases f3 <;> simp [Tryz.f7,n1,n4,n2,m2,b1,b2,l1,d1,d2,d3,VG,e17a,e17,e18]
  cases f3
  ·rw [if_neg (by simp),← Y4];simp [Tryz.f7,n1,n4,n2,m2,b1,b2,l1,d1,d2,d3,VG,e17a,e17,e18]
  by_cases hN:N = s
  ·rw [if_pos ⟨rfl,hN⟩,JU];have Xl:(N == s) = true:=(by simp [hN]);simp [Tryz.f7,n1,n4,n2,m2,b1,b2,l1,d1,d2,d3,VG,e17a,e17,e18,t18,hn,Xl]
  ·rw [if_neg (fun h=>hN h.2),← Y4];have Xl:(N == s) = false:=(by simp [hN]);simp [Tryz.f7,n1,n4,n2,m2,b1,b2,l1,d1,d2,d3,VG,e17a,e17,e18,t18,hn,Xl]
 ·skip
  have kl:K = 3:=by omega
  subst kl;cases f1
  ·rw [if_neg (by simp),← Y4];cases f2 <;> cases f3 <;> simp [Tryz.f7,n1,n4,n2,m2,b1,b2,l2,d1,d2,d3,VG,e17a,e17,e18]
  cases f2
  ·rw [if_neg (by simp),← Y4];cases f3 <;> simp [Tryz.f7,n1,n4,n2,m2,b1,b2,l2,d1,d2,d3,VG,e17a,e17,e18]
  cases f3
  ·rw [if_neg (by simp),← Y4];simp [Tryz.f7,n1,n4,n2,m2,b1,b2,l2,d1,d2,d3,VG,e17a,e17,e18]
  by_cases hN:N = s
  ·rw [if_pos ⟨rfl,hN⟩,JU];have Xl:(N == s) = true:=(by simp [hN]);simp [Tryz.f7,n1,n4,n2,m2,b1,b2,l2,d1,d2,d3,VG,e17a,e17,e18,t18,hn,Xl]
  ·rw [if_neg (fun h=>hN h.2),← Y4];have Xl:(N == s) = false:=(by simp [hN]);simp [Tryz.f7,n1,n4,n2,m2,b1,b2,l2,d1,d2,d3,VG,e17a,e17,e18,t18,hn,Xl]
end Go.Ev.S
namespace Go.Ev
open Go Go.Proofs
structure Nd where
 name:List UInt8
 there:Bool
 b:Sl UInt8
 safe:Sl UInt8
structure Fs where
 room:Int
 fuse:Int
 off:Bool
 nodes:List Nd
structure FSv where
 nd:List (Nat × Nat)
 nv:D
 pv:D
 pc:List D
 Ln:List Nat
 Lp:List Nat
def FSv.names (v:FSv) (q:Nat):List Nat:=q :: (v.Ln ++ (v.Lp ++ (v.nd.map (·.1) ++ v.nd.map (·.2))))
def FSv.ptrs (v:FSv):List D:=v.nd.map fun x=>D.optr x.1 3 0
def Nd.cells (n:Nd) (j:Nat):List D:=[.str n.name,.bool n.there,.optr j 2 0]
def Nd.data (n:Nd):List D:=[(.vsl n.b.nil (qd n.b.l) n.b.l.length),(.vsl n.safe.nil (qd n.safe.l) n.safe.l.length)]
def Fs.cells (s:Fs) (v:FSv):List D:=[.int .i64 s.room,.int .i64 s.fuse,.bool s.off,v.nv,v.pv]
structure FSty (f:Nat→Nat) (q:Nat) (v:FSv):Prop where
 root:f q = 0
 row:∀ i,i∈v.Ln→f i = 1
 pend:∀ i,i∈v.Lp→f i = 2
 node:∀ (j:Nat) (x:Nat × Nat),v.nd[j]? = some x→f x.1 = 3+2 * j∧f x.2 = 4+2 * j
structure FSw (H:qe) (q:Nat) (s:Fs) (v:FSv):Prop where
 root:qf H q = some (s.cells v)
 row:RowA H 1 v.nv v.ptrs v.Ln
 pend:RowA H 4 v.pv v.pc v.Lp
 len:v.nd.length = s.nodes.length
 node:∀ (i:Nat) (n:Nd) (x:Nat × Nat),s.nodes[i]? = some n→v.nd[i]? = some x→qf H x.1 = some (n.cells x.2)∧qf H x.2 = some n.data
 ty:∃ f,FSty f q v
theorem FSw.lt {H:qe} {q:Nat} {s:Fs} {v:FSv} (h:FSw H q s v) {i:Nat} (hi:i∈v.names q):i < H.length:=by
 simp only [FSv.names,jT,vW,ZM] at hi
 have key:∀ x,x∈v.nd→x.1 < H.length∧x.2 < H.length:=by
  intro x hx;obtain ⟨j,hj⟩:=List.mem_iff_getElem?.1 hx;have zO:j < s.nodes.length:=by rw [← h.len];exact (List.getElem?_eq_some_iff.1 hj).1
  obtain ⟨h1,h2⟩:=h.node j _ x (zn zO) hj;exact ⟨qA h1,qA h2⟩
 rcases hi with rfl | hi | hi | ⟨x,hx,rfl⟩ | ⟨x,hx,rfl⟩
 ·exact qA h.root
 ·exact h.row.lt hi
 ·exact h.pend.lt hi
 ·exact (key x hx).1
 ·exact (key x hx).2
theorem FSw.ext {H T:qe} {q:Nat} {s:Fs} {v:FSv} {M:List Nat} (h:FSw H q s v) (he:Ext M H T) (hd:∀ i,i∈v.names q→i ∉ M):FSw T q s v:=by
 have hm:∀ (l:List (Nat × Nat)) (i:Nat) (x:Nat × Nat),l[i]? = some x→x∈l:=fun l i x h=>Vy h;refine ⟨he.get h.root (hd _ (by simp [FSv.names])),h.row.ext he fun i hi=>hd i (by simp [FSv.names,hi]),h.pend.ext he fun i hi=>hd i (by simp [FSv.names,hi]),h.len,fun i n x h1 h2=>?_,h.ty⟩;obtain ⟨a1,a2⟩:=h.node i n x h1 h2;have hx:=hm _ _ _ h2;refine ⟨he.get a1 (hd _ ?_),he.get a2 (hd _ ?_)⟩
 ·simp only [FSv.names,jT,vW,ZM];exact .inr (.inr (.inr (.inl ⟨x,hx,rfl⟩)))
 ·simp only [FSv.names,jT,vW,ZM];exact .inr (.inr (.inr (.inr ⟨x,hx,rfl⟩)))
def ZF (l:List Nd) (name:List UInt8):Option Nat:=l.findIdx? fun n=>n.there && n.name == name
def Xp (l:List Nd):Nat:=(l.filter (·.there)).length
def Jj:List Nd→Nat
 | []=>0
 | n :: l=>(if n.there then n.b.l.length else 0)+Jj l
def qbJ (s:List UInt8):Bool:=decide (1≤s.length) && decide (s.length≤96) && s.all fun c=>decide (33≤c.toNat) && decide (c.toNat≤126)
def qdc (s:Fs) (name:List UInt8):Nat:=if s.off then 18 else if qbJ name then 0 else 1
def kB (s:Fs):Nat × Fs:=if s.fuse = 0 then (18,{ s with off:=true }) else if 0 < s.fuse then (0,{ s with fuse:=s.fuse - 1 }) else (0,s)
end Go.Ev
namespace Go.Ev.S
open Go Go.Proofs Go.Ev
theorem q0x [MaxL] [TxtC] (s:List UInt8) (hs:s.length < 1000000):call cx 138 [.str s] [] = some (.bool (qbJ s),[]):=by
 refine qy Tryz.func138 rfl ⟨rfl,rfl⟩ ?_;by_cases h1:s.length < 1
 ·have zg:(s.length:Int) < 1:=by omega
  have hN:qbJ s = false:=by simp [qbJ];omega
  rw [hN];simp [Tryz.f138,zg]
 by_cases h2:96 < s.length
 ·have zg:¬ (s.length:Int) < 1:=by omega
  have zH:(96:Int) < (s.length:Int):=by omega
  have hN:qbJ s = false:=by simp [qbJ];omega
  rw [hN];simp [Tryz.f138,zg,zH]
 have zg:¬ (s.length:Int) < 1:=by omega
 have zH:¬ (96:Int) < (s.length:Int):=by omega
 obtain ⟨r,hr⟩:=ql ((s.all fun c=>decide (33≤c.toNat) && decide (c.toNat≤126)));have hN:qbJ s = r:=by simp only [qbJ,hr];rw [decide_eq_true (by omega),decide_eq_true (by omega)];simp
 rw [hN];simp [Tryz.f138,zg,zH];refine Run.loopThen (fun (k:Nat) e H'=>k≤s.length∧((s.drop k).all fun c=>decide (33≤c.toNat) && decide (c.toNat≤126)) = r∧qi e 0 = some (.str s)∧qi e 13 = some (.int .i64 s.length)∧qi e 14 = some (.int .i64 k)∧H' = []) (fun k=>s.length - k) 0 ?_ ?_
 ·simpa using hr
 rintro k e H' ⟨hk,hR,k0,k5,k6,rfl⟩;by_cases qg:k < s.length
 ·have qo:=zI qg;have hw:=qx ((k:Int)+1) ((k+1:Nat):Int);have qI:s[k]? = some s[k]:=zn qg;rw [zU qg,VY] at hR;generalize s[k] = c at *;by_cases h3:c.toNat < 33
  ·have vl:(c.toNat:Int) < 33:=(by omega);rw [decide_eq_false (by omega),qdZ,qdZ] at hR;subst hR;simp [k0,k5,k6,qo,qI,vl]
  ·have vl:¬ (c.toNat:Int) < 33:=(by omega);by_cases h4:126 < c.toNat
   ·have Xo:(126:Int) < (c.toNat:Int):=(by omega);rw [decide_eq_false (show ¬ c.toNat≤126 by omega),Bool.and_false,qdZ] at hR;subst hR;simp [k0,k5,k6,qo,qI,vl,Xo]
   ·have Xo:¬ (126:Int) < (c.toNat:Int):=(by omega);rw [decide_eq_true (show 33≤c.toNat by omega),decide_eq_true (show c.toNat≤126 by omega),qab,qab] at hR;simp [k0,k5,k6,qo,qI,hw,vl,Xo];exact ⟨k+1,by omega,by omega,by simpa using hR,by omega⟩
 ·have qo:=zL qg;rw [Js (by omega)] at hR;have:r = true:=hR.symm;subst this;simp [k0,k5,k6,qo]
def QS (v:FSv) (i:Nat):Nat:=(v.nd.getD i (0,0)).1
def qhn (v:FSv) (i:Nat):Nat:=(v.nd.getD i (0,0)).2
theorem X8 {v:FSv} {i:Nat} (h:i < v.nd.length):v.nd[i]? = some (QS v i,qhn v i):=by
 simp [QS,qhn,h]
theorem qiO {v:FSv} {k:Nat} (h:k < v.nd.length):v.ptrs.drop k = .optr (QS v k) 3 0 :: v.ptrs.drop (k+1):=by
 have e:v.nd.drop k = (QS v k,qhn v k) :: v.nd.drop (k+1):=by
  rw [zU h];congr 1;simp [QS,qhn,h]
 unfold FSv.ptrs;rw [← List.map_drop,e,List.map_cons,List.map_drop]
theorem q02 [MaxL] [TxtC] {H:qe} {q:Nat} {s:Fs} {v:FSv} (h:FSw H q s v) (hn:s.nodes.length < 1000000) (name:List UInt8) :
  call cx 93 [.optr q 5 0,.str name] H = some (match ZF s.nodes name with | some i=>.optr (QS v i) 3 0 | none=>.nilp,H):=by
 obtain ⟨r,hr⟩:=ql (ZF s.nodes name);rw [hr];have vM:=h.root;simp only [Fs.cells] at vM;refine vt Tryz.func93 rfl ⟨rfl,rfl⟩ ?_;rcases h.row with ⟨YA,hp,hL⟩ | ⟨b,n,YA,hlen,hb,hL⟩
 ·have hl:=h.len;have:v.nd = []:=by simpa [FSv.ptrs] using hp
  rw [this] at hl;have hs:s.nodes = []:=List.length_eq_zero_iff.1 hl.symm;rw [YA] at vM;rw [hs] at hr;have hr':r = none:=by rw [← hr];rfl
  subst hr';simp [-qf,Tryz.f93,vM];refine qgl ?_;simp
 ·rw [YA] at vM;have hpl:v.ptrs.length = v.nd.length:=by simp [FSv.ptrs]
  have zF:n = s.nodes.length:=by have:=h.len;omega
  subst zF;simp [-qf,Tryz.f93,vM];refine Run.loopThen (fun (k:Nat) e H'=>k≤s.nodes.length∧(ZF (s.nodes.drop k) name).map (·+k) = r∧qi e 1 = some (.str name)∧qi e 10 = some (.osl b v.ptrs.length 0 s.nodes.length 1)∧qi e 11 = some (.int .i64 s.nodes.length)∧qi e 12 = some (.int .i64 k)∧H' = H) (fun k=>s.nodes.length - k) 0 ?_ ?_
  ·simpa using hr
  rintro k e H' ⟨hk,hR,k1,k10,k11,k12,rfl⟩;by_cases qg:k < s.nodes.length
  ·have qo:=zI qg;have hw:=qx ((k:Int)+1) ((k+1:Nat):Int);have hkv:k < v.nd.length:=(by rw [h.len];exact qg);obtain ⟨ja,zX⟩:=h.node k _ _ (zn qg) (X8 hkv);simp only [Nd.cells] at ja;have XL:=qiO hkv;rw [zU qg] at hR;generalize s.nodes[k] = x at *;unfold ZF at hR;rw [List.findIdx?_cons] at hR;cases ht:x.there with
   | false =>
    rw [ht] at ja hR;simp at hR;simp [-qf,k1,k10,k11,k12,qo,hw,hb,XL,ja];refine ⟨k+1,by omega,by omega,?_,by omega⟩;rw [← hR];unfold ZF;cases List.findIdx? (fun n=>n.there && n.name == name) (s.nodes.drop (k+1)) <;> simp;omega
   | true =>
    rw [ht] at ja hR;by_cases hx:x.name = name
    ·have ZX:r = some k:=(by simpa [hx] using hR.symm);subst ZX;simp [-qf,k1,k10,k11,k12,qo,hb,XL,ja,hx]
    ·simp [hx] at hR;simp [-qf,k1,k10,k11,k12,qo,hw,hb,XL,ja,hx];refine ⟨k+1,by omega,by omega,?_,by omega⟩;rw [← hR];unfold ZF;cases List.findIdx? (fun n=>n.there && n.name == name) (s.nodes.drop (k+1)) <;> simp;omega
  ·have qo:=zL qg;rw [Js (by omega)] at hR;have ZX:r = none:=(by rw [← hR];rfl);subst ZX;simp [k1,k10,k11,k12,qo]
theorem q01 [MaxL] [TxtC] {H:qe} {q:Nat} {s:Fs} {v:FSv} (h:FSw H q s v) (name:List UInt8) (hn:name.length < 1000000) {b:Nat} (hb:qf H b = some [.str name]) :
  call cx 92 [.optr q 5 0,.osl b 1 0 1 1] H = some (.int .i64 (qdc s name),H):=by
 have vM:=h.root;simp only [Fs.cells] at vM;have hr:=q0x name hn;refine vt Tryz.func92 rfl ⟨rfl,rfl⟩ ?_;unfold qdc;cases ho:s.off with
 | true =>
  rw [ho] at vM;simp [-qf,Tryz.f92,vM]
 | false =>
  rw [ho] at vM;simp [-qf,Tryz.f92,vM];refine qiy ?_;cases hf:qbJ name with
  | false =>
   rw [hf] at hr;simp [-qf,hb,hr]
  | true =>
   rw [hf] at hr;simp [-qf,hb,hr];refine qgl ?_;simp
def ZE (s:Fs) (name:List UInt8):Nat:=if qdc s name≠0 then qdc s name else if (ZF s.nodes name).isSome then 0 else 16
def qez (s:Fs) (v:FSv) (name:List UInt8):D:=if qdc s name≠0 then .nilp else match ZF s.nodes name with | some i=>.optr (QS v i) 3 0 | none=>.nilp
theorem qjC [MaxL] [TxtC] {H:qe} {q:Nat} {s:Fs} {v:FSv} (h:FSw H q s v) (hn:s.nodes.length < 1000000) (name:List UInt8) (hl:name.length < 1000000) :
  call cx 53 [.optr q 5 0,.str name] H = some (.tup [qez s v name,.int .i64 (ZE s name)],qs H [.str name]):=by
 have hw:FSw (qs H [.str name]) q s v:=h.ext (Ext.new H [.str name]) fun _ _=>by simp
 have hm:=q01 hw name hl (b:=H.length) zA;have hf:=q02 hw hn name;refine vt Tryz.func53 rfl ⟨rfl,rfl⟩ ?_;unfold ZE qez;by_cases hz:qdc s name = 0
 ·rw [hz] at hm;rw [if_neg (by simpa using hz),if_neg (by simpa using hz)];cases hfd:ZF s.nodes name with
  | none =>
   rw [hfd] at hf;simp [-qf,-qs,Tryz.f53,hm,hf]
  | some i =>
   rw [hfd] at hf;simp [-qf,-qs,Tryz.f53,hm,hf]
 ·have hz':¬ ((qdc s name:Nat):Int) = 0:=by omega
  rw [if_pos (by simpa using hz),if_pos (by simpa using hz)];simp [-qf,-qs,Tryz.f53,hm,hz]
theorem qrt [MaxL] [TxtC] {H:qe} {q:Nat} {s:Fs} {v:FSv} (h:FSw H q s v) (hf:-9000000000000000000≤s.fuse∧s.fuse≤9000000000000000000) :
  call cx 55 [.optr q 5 0] H = some (.int .i64 (kB s).1,qn H q ((kB s).2.cells v)):=by
 have vM:=h.root;simp only [Fs.cells] at vM;refine vt Tryz.func55 rfl ⟨rfl,rfl⟩ ?_;unfold kB;have hself:=qdK vM;by_cases h0:s.fuse = 0
 ·rw [if_pos h0];simp [-qf,-qn,Tryz.f55,vM,h0,Fs.cells]
 ·rw [if_neg h0];by_cases h1:0 < s.fuse
  ·rw [if_pos h1];have hw:=qx (s.fuse - 1) (s.fuse - 1);simp [-qf,-qn,Tryz.f55,vM,h0,h1,hw,Fs.cells]
  ·rw [if_neg h1];simp [-qf,-qn,Tryz.f55,vM,h0,h1,Fs.cells,hself]
theorem qit [MaxL] [TxtC] {H:qe} {b:Nat} {x y:Sl UInt8} (h:qf H b = some [(.vsl x.nil (qd x.l) x.l.length),(.vsl y.nil (qd y.l) y.l.length)]):call cx 59 [.optr b 2 0] H = some (.int .i64 x.l.length,H):=by
 refine vt Tryz.func59 rfl ⟨rfl,rfl⟩ ?_;simp [-qf,Tryz.f59,h]
theorem qrp [MaxL] [TxtC] {H:qe} {q:Nat} {s:Fs} {v:FSv} (h:FSw H q s v) (hn:s.nodes.length < 1000000) (hb:∀ n,n∈s.nodes→n.b.l.length≤1000000) :
  call cx 54 [.optr q 5 0] H = some (.tup [.int .i64 (Xp s.nodes),.int .i64 (Jj s.nodes)],H):=by
 have vM:=h.root;simp only [Fs.cells] at vM;refine vt Tryz.func54 rfl ⟨rfl,rfl⟩ ?_;rcases h.row with ⟨YA,hp,hL⟩ | ⟨b,n,YA,hlen,zC,hL⟩
 ·have hl:=h.len;have:v.nd = []:=by simpa [FSv.ptrs] using hp
  rw [this] at hl;have hs:s.nodes = []:=List.length_eq_zero_iff.1 hl.symm;rw [YA] at vM;rw [hs];simp [-qf,Tryz.f54,vM];refine qgl ?_;simp [Xp,Jj]
 ·rw [YA] at vM;have hpl:v.ptrs.length = v.nd.length:=by simp [FSv.ptrs]
  have zF:n = s.nodes.length:=by have:=h.len;omega
  subst zF;simp [-qf,Tryz.f54,vM];obtain ⟨F,hF⟩:=ql (Xp s.nodes);obtain ⟨S,hS⟩:=ql (Jj s.nodes);rw [hF,hS];refine Run.loopThen (fun (k:Nat) e H'=>k≤s.nodes.length∧∃ f z:Nat,f≤k∧z≤k * 1000000∧f+Xp (s.nodes.drop k) = F∧z+Jj (s.nodes.drop k) = S∧qi e 4 = some (.int .i64 f)∧qi e 5 = some (.int .i64 z)∧qi e 11 = some (.osl b v.ptrs.length 0 s.nodes.length 1)∧qi e 12 = some (.int .i64 s.nodes.length)∧qi e 13 = some (.int .i64 k)∧H' = H) (fun k=>s.nodes.length - k) 0 ?_ ?_
  ·exact ⟨by omega,0,0,by omega,by omega,by simpa using hF,by simpa using hS,rfl,rfl,rfl,rfl,rfl,rfl⟩
  rintro k e H' ⟨hk,f,z,hfk,hzk,hR,hR2,k4,k5,k11,k12,k13,rfl⟩;by_cases qg:k < s.nodes.length
  ·have qo:=zI qg;have hw:=qx ((k:Int)+1) ((k+1:Nat):Int);have hkv:k < v.nd.length:=(by rw [h.len];exact qg);obtain ⟨ja,zX⟩:=h.node k _ _ (zn qg) (X8 hkv);have hbx:=hb _ (v6 qg);simp only [Nd.cells] at ja;simp only [Nd.data] at zX;have XL:=qiO hkv;have hlen2:=qit zX;rw [zU qg] at hR hR2;generalize s.nodes[k] = x at *;cases ht:x.there with
   | false =>
    rw [ht] at ja;simp [Xp,Jj,ht] at hR hR2;simp [-qf,k4,k5,k11,k12,k13,qo,hw,zC,XL,ja];exact ⟨k+1,by omega,by omega,f,by omega,z,zT hzk (qaX _ (Nat.le_succ k)),by unfold Xp;exact hR,hR2,rfl,rfl,by omega⟩
   | true =>
    rw [ht] at ja;simp [Xp,Jj,ht] at hR hR2;have hwf:=qx ((f:Int)+1) ((f+1:Nat):Int);have hwz:=qx ((z:Int)+(x.b.l.length:Int)) ((z+x.b.l.length:Nat):Int);simp [-qf,k4,k5,k11,k12,k13,qo,hw,zC,XL,ja,hlen2,hwf,hwz];refine ⟨k+1,by omega,by omega,f+1,by omega,z+x.b.l.length,by rw [Jp,Nat.one_mul];exact Nat.add_le_add hzk hbx,?_,by omega,by omega,by omega,by omega⟩;unfold Xp;omega
  ·have qo:=zL qg;rw [Js (by omega)] at hR hR2;simp [Xp,Jj] at hR hR2;subst hR;subst hR2;simp [k4,k5,k11,k12,k13,qo]
theorem qu1 [MaxL] [TxtC]:call cx 56 [] [] = some (.optr 0 2 0,[some [.vsl true [] 0,.vsl true [] 0]]):=by
 refine qy Tryz.func56 rfl ⟨rfl,rfl⟩ ?_;simp [Tryz.f56]
theorem q00 [MaxL] [TxtC]:call cx 16 [.int .i64 1048576] [] = some (.tup [.optr 0 5 0,.int .i64 0],[some [.int .i64 1048576,.int .i64 (-1),.bool false,.vsl true [] 0,.vsl true [] 0]]):=call_some.2 ⟨60,by kernel_rfl⟩
theorem qjd {H:qe} {i:Nat} {ds:List D} (h:qf H i = some ds):(H = []) = False:=eq_false fun e=>by
 have:=qA h;rw [e] at this;simp at this
theorem q2V (H:qe) (ds:List D):H ++ [some ds] = qs H ds:=rfl
def qbK (s:Fs) (name:List UInt8):Nat × Fs :=
 if ZE s name = 0 then (17,s)
 else if ZE s name≠16 then (ZE s name,s)
 else if 24≤Xp s.nodes then (15,s)
 else if (kB s).1≠0 then kB s
 else (0,{ (kB s).2 with nodes:=s.nodes ++ [⟨name,true,Sl.none,Sl.none⟩] })
theorem qry (s:Fs):(kB s).1 = 0∨(kB s).1 = 18:=by
 unfold kB;split
 ·exact .inr rfl
 ·split
  ·exact .inl rfl
  ·exact .inl rfl
theorem qhb (s:Fs):(kB s).2.nodes = s.nodes:=by
 unfold kB;split
 ·rfl
 ·split <;> rfl
theorem qro {H:qe} {q:Nat} {s s':Fs} {v:FSv} (h:FSw H q s v) (hn:s'.nodes = s.nodes):FSw (qn H q (s'.cells v)) q s' v:=by
 obtain ⟨f,hf⟩:=h.ty;have hq:=qA h.root;have qQ:∀ i,i≠q→qf (qn H q (s'.cells v)) i = qf H i:=fun i hi=>zN hi;refine ⟨zG hq,h.row.ext (Ext.set H q _) fun i hi=>?_,h.pend.ext (Ext.set H q _) fun i hi=>?_,by rw [hn];exact h.len,fun i n x h1 h2=>?_,f,hf⟩
 ·intro hc;have h1:=hf.row i hi;rw [List.mem_singleton.1 hc,hf.root] at h1;omega
 ·intro hc;have h1:=hf.pend i hi;rw [List.mem_singleton.1 hc,hf.root] at h1;omega
 ·rw [hn] at h1;obtain ⟨a1,a2⟩:=h.node i n x h1 h2;obtain ⟨b1,b2⟩:=hf.node i x h2;rw [qQ,qQ]
  ·exact ⟨a1,a2⟩
  ·intro e;rw [e,hf.root] at b2;omega
  ·intro e;rw [e,hf.root] at b1;omega
set_option maxRecDepth 4000 in
theorem qrr [MaxL] [TxtC] {H:qe} {q:Nat} {s:Fs} {v:FSv} (h:FSw H q s v) (hn:s.nodes.length < 100000) (hp:v.pc.length < 400000) (hb:∀ n,n∈s.nodes→n.b.l.length≤1000000) (hf:-9000000000000000000≤s.fuse∧s.fuse≤9000000000000000000) (name:List UInt8) (hl:name.length < 1000000) :
  ∃ T v',call cx 20 [.optr q 5 0,.str name] H = some (.int .i64 (qbK s name).1,T)∧FSw T q (qbK s name).2 v'∧Ext (v.names q) H T∧NewL (v.names q) (v'.names q) H.length∧v'.pc.length≤v.pc.length+4:=by
 obtain ⟨H1,e1⟩:=ql (qs H [.str name]);have x1:=jD e1;have w1:FSw H1 q s v:=h.ext x1 fun _ _=>by simp
 have hget_:=qjC h (by omega) name hl;rw [e1] at hget_;have Y9:=qrp w1 (by omega) hb;have hx0:Ext (v.names q) H H1:=x1.mono fun _ hi=>by simp at hi
 unfold qbK;by_cases c0:ZE s name = 0
 ·rw [if_pos c0];rw [c0] at hget_;refine ⟨H1,v,vt Tryz.func20 rfl ⟨rfl,rfl⟩ ?_,w1,hx0,NewL.refl _ _,by omega⟩;simp [-qf,-qn,-qs,Tryz.f20,hget_,Y9]
 rw [if_neg c0];by_cases c1:ZE s name = 16
 rotate_left
 ·rw [if_pos c1];have c0':¬ ((ZE s name:Nat):Int) = 0:=by omega
  have c1':¬ ((ZE s name:Nat):Int) = 16:=by omega
  refine ⟨H1,v,vt Tryz.func20 rfl ⟨rfl,rfl⟩ ?_,w1,hx0,NewL.refl _ _,by omega⟩;simp [-qf,-qn,-qs,Tryz.f20,hget_,Y9,c0,c1']
 rw [if_neg (by simpa using c1)];rw [c1] at hget_;by_cases c2:24≤Xp s.nodes
 ·rw [if_pos c2];have c2':(24:Int)≤((Xp s.nodes:Nat):Int):=by omega
  refine ⟨H1,v,vt Tryz.func20 rfl ⟨rfl,rfl⟩ ?_,w1,hx0,NewL.refl _ _,by omega⟩;simp [-qf,-qn,-qs,Tryz.f20,hget_,Y9,c2']
 rw [if_neg c2];have c2':¬ (24:Int)≤((Xp s.nodes:Nat):Int):=by omega
 have Xj:=qrt w1 hf;obtain ⟨H2,e2⟩:=ql (qn H1 q ((kB s).2.cells v));have w2:FSw H2 q (kB s).2 v:=e2 ▸ qro w1 (qhb s);have x2:=Qk e2;rw [e2] at Xj;have hx2:Ext (v.names q) H H2:=hx0.trans (x2.mono fun i hi=>by rw [List.mem_singleton.1 hi];simp [FSv.names]) (NewL.refl _ _);by_cases c3:(kB s).1 = 0
 rotate_left
 ·rw [if_pos c3];have c3':(kB s).1 = 18:=(qry s).resolve_left c3;rw [c3'] at Xj;refine ⟨H2,v,vt Tryz.func20 rfl ⟨rfl,rfl⟩ ?_,w2,hx2,NewL.refl _ _,by omega⟩;simp [-qf,-qn,-qs,Tryz.f20,hget_,Y9,c2',Xj,c3']
 rw [if_neg (by simpa using c3)];rw [c3] at Xj;obtain ⟨s2,kN⟩:=ql ((kB s).2);have qb4:s2.nodes = s.nodes:=by rw [← kN];exact qhb s
 rw [kN] at w2 ⊢;obtain ⟨f,hf2⟩:=w2.ty;have jL:=qA w2.root;have Zs:=qu1;obtain ⟨a2,l2⟩:=ql (H2.length);obtain ⟨H3,e3⟩:=ql (qs H2 [.vsl true [] 0,.vsl true [] 0]);have l3:H3.length = a2+1:=by rw [← e3,zW,l2]
 obtain ⟨a3,f3⟩:=ql (a2+1);rw [f3] at l3;have lt23:a2 < a3:=by omega
 obtain ⟨H4,e4⟩:=ql (qs H3 [.str name,.bool true,.optr a2 2 0]);have l4':H4.length = a3+1:=by rw [← e4,zW,l3]
 obtain ⟨a4,f4⟩:=ql (a3+1);have l4:H4.length = a4:=by omega
 have lt34:a3 < a4:=by omega
 have x34:Ext [] H2 H4:=(e3 ▸ Ext.new H2 _:Ext [] H2 H3).trans (e4 ▸ Ext.new H3 _) (NewL.refl _ _);have w4:FSw H4 q s2 v:=w2.ext x34 fun _ _=>by simp
 have r4:=w4.root;simp only [Fs.cells] at r4
 have ga2:qf H4 a2 = some [.vsl true [] 0,.vsl true [] 0]:=by
  rw [← e4,vk (by omega),← e3,← l2,zA]
 have ga3:qf H4 a3 = some [.str name,.bool true,.optr a2 2 0]:=by rw [← e4,← l3,zA]
 obtain ⟨H5,e5⟩:=ql (qs H4 [.optr a3 3 0]);have x5:=jD e5;have w5:FSw H5 q s2 v:=w4.ext x5 fun _ _=>by simp
 have g5:qf H5 a4 = some [.optr a3 3 0]:=by rw [← e5,← l4,zA]
 have hpl:v.ptrs.length = s.nodes.length:=by rw [← qb4,← w2.len];simp [FSv.ptrs]
 obtain ⟨nv',H6,L6,hA,hR6,x6,n6⟩:=w5.row.append (P:=Tryz.prog) (st:=101) (xt:=101) (e:=117) (x:=.osl a4 1 0 1 1) (xs:=[.optr a3 3 0]) (m:=1) (by simp) (by simp) (by simp [-qf,g5]) (by simp) (by omega) (by simp) (by omega) (by simp [qD];omega) (by simp [qD];omega);obtain ⟨r,n,hv6,hlen6,hr6,hL6⟩:=hR6.own (by simp);have hq6:q ∉ v.Ln:=fun hc=>by have:=hf2.row q hc;rw [hf2.root] at this;omega
 have r6:=x6.get w5.root hq6;simp only [Fs.cells] at r6;have hlt6:r < H6.length:=qA hr6;subst hv6;have hpl1:(v.ptrs ++ ([.optr a3 3 0]:List D)).length = v.ptrs.length+1:=by simp
 rw [hpl1] at hA;obtain ⟨H7,e7⟩:=ql (qn H6 q [.int .i64 s2.room,.int .i64 s2.fuse,.bool s2.off,.osl r (v.ptrs.length+1) 0 n 1,v.pv]);have r7:=Qx e7 r6;obtain ⟨a7,l7⟩:=ql (H7.length);obtain ⟨H8,e8⟩:=ql (qs H7 [.int .i64 0,.optr a3 3 0,.str [],.nilp]);have g8:qf H8 a7 = some [.int .i64 0,.optr a3 3 0,.str [],.nilp]:=by rw [← e8,← l7,zA]
 have r8:qf H8 q = some [.int .i64 s2.room,.int .i64 s2.fuse,.bool s2.off,.osl r (v.ptrs.length+1) 0 n 1,v.pv]:=by rw [← e8,vk (qA r7)];exact r7
 have lt37:a3 < a7:=by
  have h1:=x5.len;have h2:=x6.len;rw [← l7,← e7,Qo];omega
 have hp8:RowA H8 4 v.pv v.pc v.Lp:=by
  have p6:RowA H6 4 v.pv v.pc v.Lp:=w5.pend.ext x6 fun i hi hc=>by have h1:=hf2.row i hc;have h2:=hf2.pend i hi;omega
  have p7:RowA H7 4 v.pv v.pc v.Lp:=p6.ext (e7 ▸ Ext.set H6 q _) fun i hi hc=>by have h2:=hf2.pend i hi;rw [List.mem_singleton.1 hc,hf2.root] at h2;omega
  exact p7.ext (e8 ▸ Ext.new H7 _) fun _ _=>by simp
 obtain ⟨pv',H9,L9,JX,hR9,x9,n9⟩:=hp8.append (P:=Tryz.prog) (st:=102) (xt:=102) (e:=127) (x:=.osl a7 4 0 1 4) (xs:=[.int .i64 0,.optr a3 3 0,.str [],.nilp]) (m:=1) (by simp) (by simp) (by simp [-qf,g8]) (by simp) (by omega) (by simp) (by omega) (by simp [qD];omega) (by simp [qD];omega);obtain ⟨rp,np,hv9,hlen9,hr9,hL9⟩:=hR9.own (by simp);have hq9:q ∉ v.Lp:=fun hc=>by have:=hf2.pend q hc;rw [hf2.root] at this;omega
 have r9:=x9.get r8 hq9;have hlt9:rp < H9.length:=qA hr9;subst hv9;have Kw:(v.pc ++ ([.int .i64 0,.optr a3 3 0,.str [],.nilp]:List D)).length = v.pc.length+4:=by simp
 rw [Kw] at JX;obtain ⟨HT,eT⟩:=ql (qn H9 q [.int .i64 s2.room,.int .i64 s2.fuse,.bool s2.off,.osl r (v.ptrs.length+1) 0 n 1,.osl rp (v.pc.length+4) 0 np 4]);have l67:H7.length = H6.length:=by rw [← e7,Qo]
 have l78:H8.length = H7.length+1:=by rw [← e8,zW]
 have l9T:HT.length = H9.length:=by rw [← eT,Qo]
 have l45:H5.length = a4+1:=by rw [← e5,zW,l4]
 have l56:=x6.len;have l89:=x9.len;have XJ:=n6 r (by rw [hL6];simp);have hrp:=n9 rp (by rw [hL9];simp);have hx5:Ext (v.names q) H H5:=(hx2.trans x34 (fun _ hi=>by simp at hi)).trans x5 (fun _ hi=>by simp at hi);have old5:∀ i,i∈v.names q→i < H2.length:=fun i hi=>w2.lt hi
 have hrq:r≠q:=by
  intro e;rcases XJ with hr | hr
  ·have:=hf2.row r hr;rw [e,hf2.root] at this;omega
  ·omega
 have hrpq:rp≠q:=by
  intro e;rcases hrp with hr | hr
  ·have:=hf2.pend rp hr;rw [e,hf2.root] at this;omega
  ·omega
 have hrLp:r ∉ v.Lp:=by
  intro hc;rcases XJ with hr | hr
  ·have h1:=hf2.row r hr;have h2:=hf2.pend r hc;omega
  ·have:=old5 r (by simp [FSv.names,hc]);omega
 have hra:r≠a3∧r≠a2:=by
  rcases XJ with hr | hr
  ·have:=old5 r (by simp [FSv.names,hr]);omega
  ·omega
 have hrpa:rp≠a3∧rp≠a2:=by
  rcases hrp with hr | hr
  ·have:=old5 rp (by simp [FSv.names,hr]);omega
  ·omega
 have hrpr:rp≠r:=by
  intro e;rcases hrp with hr | hr
  ·exact hrLp (e ▸ hr)
  ·omega
 have k6:∀ i,i < H6.length→i≠q→i ∉ v.Lp→qf HT i = qf H6 i:=by
  intro i hi hiq hip;rw [← eT,zN hiq,x9.out i (by omega) hip,← e8,vk (by omega),← e7,zN hiq]
 have key:∀ i,i < H5.length→i≠q→i ∉ v.Ln→i ∉ v.Lp→qf HT i = qf H5 i:=by
  intro i hi hiq zP hip;rw [k6 i (by omega) hiq hip,x6.out i hi zP]
 refine ⟨HT,⟨v.nd ++ [(a3,a2)],.osl r (v.ptrs.length+1) 0 n 1,.osl rp (v.pc.length+4) 0 np 4,v.pc ++ [.int .i64 0,.optr a3 3 0,.str [],.nilp],[r],[rp]⟩,vt Tryz.func20 rfl ⟨rfl,rfl⟩ ?_,?_,?_,?_,?_⟩
 ·simp [-qf,-qn,-qs,-qT,Tryz.f20,hget_,Y9,c2',Xj,Zs,q2V,e3,e4,e5,l2,l3,l4,lt23,r4,hA,r6,hlt6,e7,l7,r7,e8,JX,r9,hlt9,eT,zM,qjd r4,qjd r7]
 ·refine ⟨by rw [← eT];exact zG (qA r9),?_,?_,?_,?_,?_⟩
  ·have XM:FSv.ptrs ⟨v.nd ++ [(a3,a2)],.osl r (v.ptrs.length+1) 0 n 1,.osl rp (v.pc.length+4) 0 np 4,v.pc ++ [.int .i64 0,.optr a3 3 0,.str [],.nilp],[r],[rp]⟩ = v.ptrs ++ [.optr a3 3 0]:=(by simp [FSv.ptrs]);rw [XM];refine .inr ⟨r,n,by rw [hpl1],hlen6,by rw [k6 r hlt6 hrq hrLp];exact hr6,rfl⟩
  ·exact .inr ⟨rp,np,by rw [Kw],hlen9,by rw [← eT,zN hrpq];exact hr9,rfl⟩
  ·simp only [zz,vn,kp];rw [w2.len,qb4]
  ·intro i nd x h1 h2;have hl5:v.nd.length = s.nodes.length:=(by rw [w2.len,qb4]);by_cases qg:i < s.nodes.length
   ·have zg:s2.nodes[i]? = some nd:=(by rw [qb4];rw [← h1];exact (kg qg).symm);have zH:v.nd[i]? = some x:=(by rw [← h2];exact (kg (by omega)).symm);obtain ⟨b1,b2⟩:=w5.node i nd x zg zH;obtain ⟨t1,t2⟩:=hf2.node i x zH
    have hnot:∀ j k,f j = k→3≤k→j≠q∧j ∉ v.Ln∧j ∉ v.Lp:=by
     intro j k hj hk;refine ⟨fun e=>?_,fun hc=>?_,fun hc=>?_⟩
     ·rw [e,hf2.root] at hj;omega
     ·have:=hf2.row j hc;omega
     ·have:=hf2.pend j hc;omega
    obtain ⟨u1,u2,u3⟩:=hnot _ _ t1 (by omega);obtain ⟨y1,y2,y3⟩:=hnot _ _ t2 (by omega);rw [key _ (qA b1) u1 u2 u3,key _ (qA b2) y1 y2 y3];exact ⟨b1,b2⟩
   ·have hi:i = s.nodes.length:=by
     have:=(List.getElem?_eq_some_iff.1 h1).1;simp only [zz,vn,kp] at this;omega
    subst hi;have e1:nd = ⟨name,true,Sl.none,Sl.none⟩:=by simpa using h1.symm
    have e2:x = (a3,a2):=by
     rw [kU (by omega),hl5,Nat.sub_self] at h2;simpa using h2.symm
    subst e1 e2;have old:∀ j,H2.length≤j→j≠q∧j ∉ v.Ln∧j ∉ v.Lp:=fun j hj=>⟨by omega,fun hc=>by have:=old5 j (by simp [FSv.names,hc]);omega,fun hc=>by have:=old5 j (by simp [FSv.names,hc]);omega⟩;obtain ⟨u1,u2,u3⟩:=old a3 (by omega);obtain ⟨y1,y2,y3⟩:=old a2 (by omega);rw [key _ (by omega) u1 u2 u3,key _ (by omega) y1 y2 y3,← e5,vk (by omega),vk (by omega)];exact ⟨ga3,ga2⟩
  ·refine ⟨fun i=>if i = a3 then 3+2 * s.nodes.length else if i = a2 then 4+2 * s.nodes.length else if i = r then 1 else if i = rp then 2 else f i,?_,?_,?_,?_⟩
   ·show (if q = a3 then _ else _) = 0;rw [if_neg (by omega),if_neg (by omega),if_neg hrq.symm,if_neg hrpq.symm];exact hf2.root
   ·intro i hi;rw [List.mem_singleton.1 hi];show (if r = a3 then _ else _) = 1;rw [if_neg hra.1,if_neg hra.2,if_pos rfl]
   ·intro i hi;rw [List.mem_singleton.1 hi];show (if rp = a3 then _ else _) = 2;rw [if_neg hrpa.1,if_neg hrpa.2,if_neg hrpr,if_pos rfl]
   ·intro j x hj;have hl5:v.nd.length = s.nodes.length:=(by rw [w2.len,qb4]);by_cases qg:j < s.nodes.length
    ·have QM:v.nd[j]? = some x:=(by rw [← hj];exact (kg (by omega)).symm);obtain ⟨t1,t2⟩:=hf2.node j x QM;have hm:=Vy QM
     have g:∀ y k,f y = k→3≤k→y < H2.length→(if y = a3 then 3+2 * s.nodes.length else if y = a2 then 4+2 * s.nodes.length else if y = r then 1 else if y = rp then 2 else f y) = k:=by
      intro y k hy hk hl;rw [if_neg (by omega),if_neg (by omega),if_neg ?_,if_neg ?_]
      ·exact hy
      ·intro e;rcases hrp with hr | hr
       ·have:=hf2.pend rp hr;rw [← e] at this;omega
       ·omega
      ·intro e;rcases XJ with hr | hr
       ·have:=hf2.row r hr;rw [← e] at this;omega
       ·omega
     exact ⟨g _ _ t1 (by omega) (old5 _ (by simp only [FSv.names,jT,vW,ZM];exact .inr (.inr (.inr (.inl ⟨x,hm,rfl⟩))))),g _ _ t2 (by omega) (old5 _ (by simp only [FSv.names,jT,vW,ZM];exact .inr (.inr (.inr (.inr ⟨x,hm,rfl⟩)))))⟩
    ·have hje:j = s.nodes.length:=by
      have:=(List.getElem?_eq_some_iff.1 hj).1;simp only [zz,vn,kp] at this;omega
     subst hje
     have e2:x = (a3,a2):=by
      rw [kU (by omega),hl5,Nat.sub_self] at hj;simpa using hj.symm
     subst e2;refine ⟨?_,?_⟩
     ·show (if a3 = a3 then _ else _) = _;rw [if_pos rfl]
     ·show (if a2 = a3 then _ else _) = _;rw [if_neg (by omega),if_pos rfl]
 ·refine ⟨by have:=hx5.len;omega,fun i hi hn=>?_⟩;rw [key i (by have:=hx5.len;omega) (fun e=>hn (by simp [FSv.names,e])) (fun hc=>hn (by simp [FSv.names,hc])) (fun hc=>hn (by simp [FSv.names,hc])),hx5.out i hi hn]
 ·intro i hi;have lH:H.length≤H2.length:=hx2.len;simp only [FSv.names,List.map_append,List.map_cons,List.map_nil,jT,vW,List.not_mem_nil,or_false] at hi ⊢;rcases hi with hi | hi | hi | (hi | hi) | (hi | hi)
  ·exact .inl (.inl hi)
  ·subst hi;rcases XJ with hr | hr
   ·exact .inl (.inr (.inl hr))
   ·exact .inr (by omega)
  ·subst hi;rcases hrp with hr | hr
   ·exact .inl (.inr (.inr (.inl hr)))
   ·exact .inr (by omega)
  ·exact .inl (.inr (.inr (.inr (.inl hi))))
  ·exact .inr (by omega)
  ·exact .inl (.inr (.inr (.inr (.inr hi))))
  ·exact .inr (by omega)
 ·simp
theorem qlG {H:qe} {k:Nat} {v:D} {cs:List D} {L:List Nat} (h:RowA H k v cs L):cellsOf v = some [v]:=by
 rcases h with ⟨rfl,_⟩ | ⟨r,n,rfl,_⟩ <;> rfl
theorem qlF {H:qe} {k n:Nat} {v:D} {cs:List D} {L:List Nat} (h:RowA H k v cs L) (hn:H.length≤n):closed n v = true:=by
 rcases h with ⟨rfl,_⟩ | ⟨r,m,rfl,_,h3,_⟩
 ·rfl
 ·have:=qA h3;simp only [closed,decide_eq_true_eq];omega
theorem qkl [MaxL] [TxtC] (s:Sl UInt8) (hn:s.l.length≤1000000):∃ d L0,call cx 94 [(.vsl s.nil (qd s.l) s.l.length)] [] = some (d,L0)∧∀ H:qe,∃ Lz,RowA (H ++ L0) 1 (shift H.length d) (qd s.l) Lz∧Ext [] H (H ++ L0)∧∀ i,i∈Lz→i = H.length∧H.length < (H ++ L0).length:=by
 have h:=qkv s (by omega);by_cases hz:s.nil = true
 ·have hl:=s.h hz;rw [if_pos hz] at h;refine ⟨_,_,h,fun H=>⟨[],.inl ⟨rfl,by rw [hl];rfl,rfl⟩,Ext.app H [],by simp⟩⟩
 ·rw [if_neg hz] at h;refine ⟨_,_,h,fun H=>⟨[H.length],.inr ⟨H.length,s.l.length,?_,by simp,?_,rfl⟩,Ext.app H _,fun i hi=>⟨List.mem_singleton.1 hi,by simp⟩⟩⟩
  ·simp [shift]
  ·exact zA
theorem q2f (cs:List D):cellsOf (.agg cs) = some cs:=rfl
theorem qu2 [MaxL] [TxtC] {H:qe} {b:Nat} {x y:Sl UInt8} (h:qf H b = some [(.vsl x.nil (qd x.l) x.l.length),(.vsl y.nil (qd y.l) y.l.length)]) (hx:x.l.length≤1000000) (hy:y.l.length≤1000000) :
  ∃ c bx cy T Lx Ly,call cx 57 [.optr b 2 0] H = some (.optr c 2 0,T)∧qf T c = some [bx,cy]∧RowA T 1 bx (qd x.l) Lx∧RowA T 1 cy (qd y.l) Ly∧(∀ i,i∈Lx→H.length≤i∧i < c)∧(∀ i,i∈Ly→H.length≤i∧i < c∧i ∉ Lx)∧H.length≤c∧Ext [] H T:=by
 obtain ⟨dx,X0,c1,k1⟩:=qkl x hx;obtain ⟨dy,Y0,c2,k2⟩:=qkl y hy;obtain ⟨Lx,r1,x1,m1⟩:=k1 H;obtain ⟨bx,e1⟩:=ql (shift H.length dx);obtain ⟨H1,e2⟩:=ql (H ++ X0);rw [e1,e2] at r1;rw [e2] at x1 m1;obtain ⟨Ly,r2,x2,m2⟩:=k2 H1;obtain ⟨cy,e3⟩:=ql (shift H1.length dy);obtain ⟨H2,e4⟩:=ql (H1 ++ Y0);rw [e3,e4] at r2;rw [e4] at x2 m2;have g1:qf H1 b = some [(.vsl x.nil (qd x.l) x.l.length),(.vsl y.nil (qd y.l) y.l.length)]:=x1.get h (by simp);have r1':=r1.ext x2 fun _ _=>by simp
 have t1:=qlG r1;have t2:=qlG r2;have t3:=qlF (n:=H2.length) r1' (qE _);have t4:=qlF (n:=H2.length) r2 (qE _);have l1:=x1.len;have l2:=x2.len;have x3:=Ext.new H2 [bx,cy];refine ⟨H2.length,bx,cy,qs H2 [bx,cy],Lx,Ly,vt Tryz.func57 rfl ⟨rfl,rfl⟩ ?_,zA,r1'.ext x3 fun _ _=>by simp,r2.ext x3 fun _ _=>by simp,fun i hi=>?_,fun i hi=>?_,by omega,(x1.trans x2 (NewL.refl _ _)).trans x3 (NewL.refl _ _)⟩
 ·simp [-qf,-qn,-qs,-cellsOf,Tryz.f57,h,c1,e1,e2,g1,c2,e3,e4,t1,t2,t3,t4,q2f]
 ·obtain ⟨a1,a2⟩:=m1 i hi;omega
 ·obtain ⟨a1,a2⟩:=m2 i hi;refine ⟨by omega,by omega,fun hc=>?_⟩;obtain ⟨a3,a4⟩:=m1 i hc;omega
def X1 (l:List UInt8) (a:Nat) (b:List UInt8):List UInt8:=(l ++ List.replicate (a+b.length - l.length) 0).take a ++ b ++ (l ++ List.replicate (a+b.length - l.length) 0).drop (a+b.length)
def KS (a:Nat) (b:List UInt8):Nat:=if 32768 < a∨32768 < a+b.length then 15 else 0
def JJ (l:List UInt8) (a:Nat) (b:List UInt8):List UInt8:=if KS a b = 0∧b≠[] then X1 l a b else l
theorem qu0 [MaxL] [TxtC] {H:qe} {c:Nat} {bx cy:D} {l:List UInt8} {Lx:List Nat} (h:qf H c = some [bx,cy]) (hr:RowA H 1 bx (qd l) Lx) (hc:c ∉ Lx) (hl:l.length≤1000000) (a:Nat) (ha:a≤1000000000) (b:Sl UInt8) (hb:b.l.length≤1000000000) :
  ∃ bx' T Lx',call cx 58 [.optr c 2 0,.int .i64 a,(.vsl b.nil (qd b.l) b.l.length)] H = some (.int .i64 (KS a b.l),T)∧qf T c = some [bx',cy]∧RowA T 1 bx' (qd (JJ l a b.l)) Lx'∧Ext (c :: Lx) H T∧NewL Lx Lx' H.length∧c ∉ Lx':=by
 have JB:¬ (a:Int) < 0:=by omega
 have zq:=qA h;by_cases h1:32768 < a
 ·have zg:(32768:Int) < (a:Int):=by omega
  have hC:KS a b.l = 15:=by simp [KS,h1]
  have hR:JJ l a b.l = l:=by simp [JJ,hC]
  rw [hC,hR];refine ⟨bx,H,Lx,vt Tryz.func58 rfl ⟨rfl,rfl⟩ ?_,h,hr,Ext.refl _ _,NewL.refl _ _,hc⟩;simp [-qf,-qn,-qs,Tryz.f58,JB,zg]
 have zg:¬ (32768:Int) < (a:Int):=by omega
 have jb:=qx (32768 - (a:Int)) (32768 - (a:Int));by_cases h2:32768 < a+b.l.length
 ·have zH:(32768:Int) - (a:Int) < (b.l.length:Int):=by omega
  have hC:KS a b.l = 15:=by simp [KS,h2]
  have hR:JJ l a b.l = l:=by simp [JJ,hC]
  rw [hC,hR];refine ⟨bx,H,Lx,vt Tryz.func58 rfl ⟨rfl,rfl⟩ ?_,h,hr,Ext.refl _ _,NewL.refl _ _,hc⟩;simp [-qf,-qn,-qs,Tryz.f58,JB,zg,jb,zH]
 have zH:¬ (32768:Int) - (a:Int) < (b.l.length:Int):=by omega
 have hC:KS a b.l = 0:=by simp [KS];omega
 rw [hC];by_cases h3:b.l = []
 ·have hR:JJ l a b.l = l:=by simp [JJ,h3]
  have hz:(b.l.length:Int) = 0:=by simp [h3]
  rw [hR];refine ⟨bx,H,Lx,vt Tryz.func58 rfl ⟨rfl,rfl⟩ ?_,h,hr,Ext.refl _ _,NewL.refl _ _,hc⟩;simp [-qf,-qn,-qs,-Int.natCast_eq_zero,-List.length_eq_zero_iff,Tryz.f58,JB,zg,jb,hz,show ¬ ((32768:Int) - (a:Int) < 0) by omega]
 have jM:0 < b.l.length:=List.length_pos_iff.2 h3;have hR:JJ l a b.l = X1 l a b.l:=by simp [JJ,hC,h3]
 rw [hR];have hz:¬ (b.l.length:Int) = 0:=by omega
 have kZ:(((b.l.length:Nat):Int) == 0) = false:=by simpa using h3
 have qZ:=qx ((a:Int)+(b.l.length:Int)) ((a:Int)+(b.l.length:Int));have Zf:=qx ((a:Int)+(b.l.length:Int) - (l.length:Int)) ((a:Int)+(b.l.length:Int) - (l.length:Int));have hlb:(qd l).length = l.length:=by simp
 obtain ⟨m,hm⟩:=ql (a+b.l.length - l.length);obtain ⟨p,hp⟩:=ql (l ++ List.replicate m 0);have hpl:p.length = l.length+m:=by rw [← hp];simp
 have hpo:qd p = qd l ++ qd (List.replicate m 0):=by rw [← hp];simp [qd]
 have Ku:X1 l a b.l = p.take a ++ b.l ++ p.drop (a+b.l.length):=by unfold X1;rw [hm,hp]
 have hs:∀ r:Nat,qag Tryz.prog 29 (.osl r p.length 0 p.length 1) (some (.int .i64 a)) none = some (.osl r p.length a (p.length - a) 1):=by
  intro r;have e1:(a:Int)≤(p.length:Int):=by omega
  have e2:a = 0∨a < p.length:=by omega
  simp [e1,e2]
 have hcp:∀ (r:Nat) (T:qe),qf T r = some (qd p)→qbP Tryz.prog T 29 29 (.osl r p.length a (p.length - a) 1) (.vsl b.nil (qd b.l) b.l.length) = some (.int .i64 b.l.length,qn T r (qd (X1 l a b.l))):=by
  intro r T hT;have e1:min b.l.length (p.length - a) = b.l.length:=by omega
  have e2:a+(p.length - a)≤p.length:=by omega
  have e3:(qd b.l).take b.l.length = qd b.l:=qP (by simp);simp [-qf,-qn,hT,e1,e2,e3];rw [Ku];simp [qd,List.map_take,List.map_drop]
 have KJ:(X1 l a b.l).length = p.length:=by rw [Ku];simp;omega
 by_cases hgr:l.length < a+b.l.length
 ·have hg:(0:Int) < (a:Int)+(b.l.length:Int) - (l.length:Int):=by omega
  have zx:((a:Int)+(b.l.length:Int) - (l.length:Int)).toNat = m:=by omega
  have Xd:qch Tryz.prog H 5 3 (.int .i64 ((a:Int)+(b.l.length:Int) - (l.length:Int))) = some (qd (List.replicate m 0),m):=by
   have e1:(0:Int)≤(a:Int)+(b.l.length:Int) - (l.length:Int)∧(a:Int)+(b.l.length:Int) - (l.length:Int)≤(qD:Int)∧((a:Int)+(b.l.length:Int) - (l.length:Int)).toNat * bytesOf Tryz.prog 5≤qD:=by
    refine ⟨by omega,by simp only [qD];omega,?_⟩;rw [zx];simp [qD];omega
   have e2:V0 Tryz.prog 5 m = some (qd (List.replicate m 0)):=by
    simp [V0,qd]
   unfold qch;simp only [show Tryz.prog.underlying 3 = some (.int .i64) from by simp];rw [if_pos e1,zx,e2];rfl
  obtain ⟨nv,H6,L6,hA,hR6,x6,n6⟩:=hr.append (P:=Tryz.prog) (st:=29) (xt:=3) (e:=5) (x:=.int .i64 ((a:Int)+(b.l.length:Int) - (l.length:Int))) (xs:=qd (List.replicate m 0)) (m:=m) (by simp) (by simp) Xd (by simp) (by omega) (by simp) (by omega) (by simp [qD];omega) (by simp [qD];omega);rw [← hpo] at hR6
  obtain ⟨r,n,hv6,hlen6,hr6,hL6⟩:=hR6.own (by
   intro e;have h0:(qd p).length = 0:=(by rw [e];rfl);rw [show (qd p).length = p.length by simp] at h0;omega)
  have hn:n = p.length:=by simpa using hlen6.symm
  subst hn;subst hv6;have hpb:(qd p).length = p.length:=by simp
  rw [hpb] at hA;have XJ:=n6 r (by rw [hL6];simp)
  have Qp:r≠c:=by
   intro e;rcases XJ with h1 | h1
   ·exact hc (e ▸ h1)
   ·omega
  have r6:=x6.get h hc;have hlt6:r < H6.length:=qA hr6;obtain ⟨H7,e7⟩:=ql (qn H6 c [.osl r p.length 0 p.length 1,cy]);have r7:=Qx e7 r6;have g7:qf H7 r = some (qd p):=by rw [← e7,zN Qp];exact hr6
  have x7:=Qk e7;have hlen:=x6.len
  have xT:Ext (c :: Lx) H (qn H7 r (qd (X1 l a b.l))):=by
   refine ⟨by rw [Qo];have:=x7.len;omega,fun i hi hn=>?_⟩;simp only [jT,not_or] at hn;rw [zN ?_,x7.out i (by omega) (by simpa using hn.1),x6.out i hi hn.2];intro e;rcases XJ with h1 | h1
   ·exact hn.2 (e ▸ h1)
   ·omega
  refine ⟨.osl r p.length 0 p.length 1,qn H7 r (qd (X1 l a b.l)),[r],vt Tryz.func58 rfl ⟨rfl,rfl⟩ ?_,by rw [zN (Ne.symm Qp)];exact r7,.inr ⟨r,p.length,by simp [KJ],by simp [KJ],zG (qA g7),rfl⟩,xT,fun i hi=>by rw [List.mem_singleton.1 hi];exact XJ,by simpa using Ne.symm Qp⟩
  have Ky:zf Tryz.prog 29 bx = some (.int .i64 l.length):=by
   rcases hr with ⟨rfl,hl0,_⟩ | ⟨r0,n0,rfl,hl0,_⟩
   ·have:l.length = 0:=(by rw [← hlb,hl0];rfl);simp [this]
   ·have:n0 = l.length:=(by simpa using hl0.symm);simp [this]
  have hlb2:zf Tryz.prog 29 (.vsl b.nil (qd b.l) b.l.length) = some (.int .i64 b.l.length):=by simp
  simp [-qf,-qn,-qs,-qT,-qag,-qbP,-zf,hlb2,Tryz.f58,JB,zg,jb,zH,kZ,h,Ky,qZ,Zf,show (l.length:Int) < (a:Int)+(b.l.length:Int) by omega,hA,r6,hlt6,e7,r7,hs,hcp,g7]
 ·have hg:¬ (0:Int) < (a:Int)+(b.l.length:Int) - (l.length:Int):=by omega
  have VD:m = 0:=by omega
  have hpl0:p = l:=by rw [← hp,VD];simp
  obtain ⟨r,n,hv,hlen6,hr6,hL6⟩:=hr.own (by
   intro e;have h0:(qd l).length = 0:=(by rw [e];rfl);rw [hlb] at h0;omega)
  have hn:n = l.length:=by simpa using hlen6.symm
  subst hn;subst hv;rw [hlb] at h;rw [← hpl0] at h hr6
  have Qp:r≠c:=by
   intro e;exact hc (by rw [hL6,e];simp)
  have x7:Ext [r] H (qn H r (qd (X1 l a b.l))):=Ext.set H r _;refine ⟨.osl r p.length 0 p.length 1,qn H r (qd (X1 l a b.l)),[r],vt Tryz.func58 rfl ⟨rfl,rfl⟩ ?_,by rw [zN (Ne.symm Qp)];exact h,.inr ⟨r,p.length,by simp [KJ],by simp [KJ],zG (qA hr6),rfl⟩,x7.mono fun i hi=>by rw [List.mem_singleton.1 hi,hL6];simp,fun i hi=>.inl (by rw [hL6];exact hi),by simpa using Ne.symm Qp⟩;have hlb2:zf Tryz.prog 29 (.vsl b.nil (qd b.l) b.l.length) = some (.int .i64 b.l.length):=by simp
  have Ky:zf Tryz.prog 29 (.osl r p.length 0 p.length 1) = some (.int .i64 l.length):=by simp [hpl0]
  simp [-qf,-qn,-qs,-qT,-qag,-qbP,-zf,hlb2,Tryz.f58,JB,zg,jb,zH,kZ,h,Ky,qZ,Zf,show ¬ (l.length:Int) < (a:Int)+(b.l.length:Int) by omega,hs,hcp,hr6]
theorem qih {H:qe} {v:D} {l:List UInt8} {L:List Nat} (h:RowA H 1 v (qd l) L):∃ nl,jf H 9 v = some (.vsl nl (qd l) l.length,L)∧(nl = true→l = []):=by
 rcases h with ⟨rfl,h1,rfl⟩ | ⟨r,n,rfl,h1,h2,rfl⟩
 ·have hl:l = []:=by
   cases l with
   | nil=>rfl
   | cons a l=>simp [qd] at h1
  subst hl;exact ⟨true,rfl,fun _=>rfl⟩
 ·have hn:n = l.length:=by simpa using h1.symm
  subst hn;refine ⟨false,?_,fun h=>by cases h⟩;have e1:0+l.length * 1≤(qd l).length:=by simp
  unfold jf;simp only [idFree,QE,if_false,h2];rw [if_pos (by simp)];simp
theorem Yd {l:List Nat}:∀ {H:qe} {i:Nat},i ∉ l→qf (jO H l) i = qf H i:=by
 induction l with
 | nil=>intro H i _;rfl
 | cons j l ih =>
  intro H i hi;simp only [jT,not_or] at hi;rw [jO,ih hi.2];unfold qf;rw [List.getElem?_set_ne (Ne.symm hi.1)]
theorem quc {H:qe} {c:Nat} {x y:D} {l m:List UInt8} {Lx Ly:List Nat} (h:qf H c = some [x,y]) (hx:RowA H 1 x (qd l) Lx) (hy:RowA H 1 y (qd m) Ly) (hcx:c ∉ Lx) (hcy:c ∉ Ly) :
  ∃ (a b:Sl UInt8) (T:qe),QZ H c = some T∧a.l = l∧b.l = m∧qf T c = some [(.vsl a.nil (qd a.l) a.l.length),(.vsl b.nil (qd b.l) b.l.length)]∧Ext (c :: (Lx ++ Ly)) H T:=by
 obtain ⟨nx,s1,t1⟩:=qih hx;obtain ⟨ny,s2,t2⟩:=qih hy;have zq:=qA h;by_cases hf:[x,y].all idFree = true
 ·have hx':x = .vsl nx (qd l) l.length∧Lx = []:=by
   rcases hx with ⟨rfl,_,rfl⟩ | ⟨r,n,rfl,_⟩
   ·simp [jf,idFree] at s1;obtain ⟨rfl,h1,h2⟩:=s1;exact ⟨by rw [← h1,h2],rfl⟩
   ·simp [idFree] at hf
  have hy':y = .vsl ny (qd m) m.length∧Ly = []:=by
   rcases hy with ⟨rfl,_,rfl⟩ | ⟨r,n,rfl,_⟩
   ·simp [jf,idFree] at s2;obtain ⟨rfl,h1,h2⟩:=s2;exact ⟨by rw [← h1,h2],rfl⟩
   ·simp [idFree] at hf
  refine ⟨⟨nx,l,t1⟩,⟨ny,m,t2⟩,H,?_,rfl,rfl,by rw [h,hx'.1,hy'.1],Ext.refl _ _⟩;unfold QZ;simp only [h,hf,if_true]
 ·refine ⟨⟨nx,l,t1⟩,⟨ny,m,t2⟩,qn (jO H (Lx ++ Ly)) c [.vsl nx (qd l) l.length,.vsl ny (qd m) m.length],?_,rfl,rfl,zG (by rw [Zp];exact zq),?_⟩
  ·have hn:c ∉ Lx ++ Ly:=(by simp [hcx,hcy]);unfold QZ;simp only [h];rw [if_neg hf];simp only [vY,s1,s2,KO];rw [if_neg hn]
  ·refine ⟨by rw [Qo,Zp];exact qE _,fun i hi hn=>?_⟩;simp only [jT,not_or] at hn;rw [zN hn.1,Yd hn.2]
def qaJ (s:Fs) (name:List UInt8) (a:Nat) (b:List UInt8):Nat :=
 if ZE s name≠0 then ZE s name
 else match (ZF s.nodes name).bind (s.nodes[·]?) with
  | none=>16
  | some n=>if KS a b≠0 then 15
   else if n.b.l.length < (JJ n.b.l a b).length∧s.room < (Jj s.nodes+((JJ n.b.l a b).length - n.b.l.length):Nat) then 15
   else (kB s).1
def qdb (s:Fs) (name:List UInt8) (a:Nat) (b:List UInt8) (s':Fs):Prop :=
 if qaJ s name a b = 0 then ∃ i n n',ZF s.nodes name = some i∧s.nodes[i]? = some n∧s' = { (kB s).2 with nodes:=s.nodes.set i n' }∧n'.name = n.name∧n'.there = n.there∧n'.b.l = JJ n.b.l a b∧n'.safe.l = n.safe.l
 else s' = s∨s' = (kB s).2
theorem qrx {l:List Nd} {name:List UInt8} {i:Nat} (h:ZF l name = some i):∃ hi:i < l.length,l[i].there = true∧l[i].name = name:=by
 unfold ZF at h;obtain ⟨hi,h1,_⟩:=List.findIdx?_eq_some_iff_getElem.1 h;refine ⟨hi,?_⟩;simpa using h1
theorem qrw {s:Fs} {name:List UInt8} (h:ZE s name = 0):qdc s name = 0∧∃ i,ZF s.nodes name = some i:=by
 unfold ZE at h;split at h
 ·rename_i h1;exact absurd h h1
 ·rename_i h1;split at h
  ·rename_i h2;exact ⟨by simpa using h1,Option.isSome_iff_exists.1 h2⟩
  ·omega
theorem qk8 (l:List UInt8) (a:Nat) (b:List UInt8):(X1 l a b).length = max l.length (a+b.length):=by
 unfold X1;simp;omega
theorem qk7 (l:List UInt8) (a:Nat) (b:List UInt8) (hl:l.length≤32768):(JJ l a b).length≤32768:=by
 unfold JJ;split
 ·rename_i h;rw [qk8];have:=h.1;unfold KS at this;split at this
  ·omega
  ·omega
 ·exact hl
theorem qtp (l:List UInt8) (a:Nat) (b:List UInt8):l.length≤(JJ l a b).length:=by
 unfold JJ;split
 ·rw [qk8];omega
 ·exact qE _
theorem qg6 {v:FSv} {q i:Nat} {x:Nat × Nat} (h:v.nd[i]? = some x):x.1∈v.names q∧x.2∈v.names q:=by
 have hm:=Vy h;simp only [FSv.names,jT,vW,ZM];exact ⟨.inr (.inr (.inr (.inl ⟨x,hm,rfl⟩))),.inr (.inr (.inr (.inr ⟨x,hm,rfl⟩)))⟩
theorem q0v {H:qe} {q i c:Nat} {s:Fs} {v:FSv} {n n':Nd} (h:FSw H q s v) (hi:s.nodes[i]? = some n) (hc:qf H c = some n'.data) (Zs:c ∉ v.names q) :
  FSw (qn H (QS v i) (n'.cells c)) q { s with nodes:=s.nodes.set i n' } { v with nd:=v.nd.set i (QS v i,c) }:=by
 obtain ⟨f,hf⟩:=h.ty;have J8:i < s.nodes.length:=(List.getElem?_eq_some_iff.1 hi).1;have hiv:i < v.nd.length:=by rw [h.len];exact J8
 obtain ⟨t1,t2⟩:=hf.node i _ (X8 hiv);obtain ⟨a1,a2⟩:=h.node i n _ hi (X8 hiv)
 have qQ:∀ j k,f j = k→k≠3+2 * i→j≠QS v i:=by
  intro j k hj hk e;rw [e] at hj;simp only at t1;omega
 have hcn:c≠QS v i:=fun e=>Zs (e ▸ (qg6 (X8 hiv)).1);have x1:Ext [QS v i] H (qn H (QS v i) (n'.cells c)):=Ext.set H _ _
 have hptr:FSv.ptrs { v with nd:=v.nd.set i (QS v i,c) } = v.ptrs:=by
  unfold FSv.ptrs;simp only [List.map_set];apply List.ext_getElem?;intro j;rw [List.getElem?_set];by_cases hj:i = j
  ·subst hj;simp [hiv,QS]
  ·rw [if_neg hj]
 refine ⟨?_,?_,?_,?_,?_,?_⟩
 ·rw [zN (qQ q 0 hf.root (by omega))];exact h.root
 ·rw [hptr];exact h.row.ext x1 fun j hj VJ=>qQ j 1 (hf.row j hj) (by omega) (List.mem_singleton.1 VJ)
 ·exact h.pend.ext x1 fun j hj VJ=>qQ j 2 (hf.pend j hj) (by omega) (List.mem_singleton.1 VJ)
 ·simp only [ky];exact h.len
 ·intro j m x h1 h2;by_cases hj:i = j
  ·subst hj;simp only [List.getElem?_set_self J8,qw] at h1;simp only [List.getElem?_set_self hiv,qw] at h2;subst h1 h2;exact ⟨zG (qA a1),by rw [zN hcn];exact hc⟩
  ·rw [List.getElem?_set_ne hj] at h1 h2;obtain ⟨b1,b2⟩:=h.node j m x h1 h2;obtain ⟨y1,y2⟩:=hf.node j x h2;rw [zN (qQ _ _ y1 (by omega)),zN (qQ _ _ y2 (by omega))];exact ⟨b1,b2⟩
 ·refine ⟨fun j=>if j = c then 4+2 * i else f j,?_,?_,?_,?_⟩
  ·show (if q = c then _ else _) = 0;rw [if_neg fun e=>Zs (by simp [FSv.names,e])];exact hf.root
  ·intro j hj;show (if j = c then _ else _) = 1;rw [if_neg fun e=>Zs (by simp only [FSv.names,jT,vW];exact .inr (.inl (e ▸ hj)))];exact hf.row j hj
  ·intro j hj;show (if j = c then _ else _) = 2;rw [if_neg fun e=>Zs (by simp only [FSv.names,jT,vW];exact .inr (.inr (.inl (e ▸ hj))))];exact hf.pend j hj
  ·intro j x hj;by_cases zu:i = j
   ·subst zu;simp only [List.getElem?_set_self hiv,qw] at hj;subst hj;refine ⟨?_,?_⟩
    ·show (if QS v i = c then _ else _) = _;rw [if_neg (Ne.symm hcn)];exact t1
    ·show (if c = c then _ else _) = _;rw [if_pos rfl]
   ·rw [List.getElem?_set_ne zu] at hj;obtain ⟨y1,y2⟩:=hf.node j x hj;obtain ⟨z1,z2⟩:=qg6 (q:=q) hj;refine ⟨?_,?_⟩
    ·show (if x.1 = c then _ else _) = _;rw [if_neg (fun e:x.1 = c=>Zs (e ▸ z1))];exact y1
    ·show (if x.2 = c then _ else _) = _;rw [if_neg (fun e:x.2 = c=>Zs (e ▸ z2))];exact y2
set_option maxRecDepth 4000 in
theorem qrn [MaxL] [TxtC] {H:qe} {q:Nat} {s:Fs} {v:FSv} (h:FSw H q s v) (hn:s.nodes.length < 100000) (hb:∀ n,n∈s.nodes→n.b.l.length≤32768∧n.safe.l.length≤32768) (hf:-9000000000000000000≤s.fuse∧s.fuse≤9000000000000000000) (_:0≤s.room∧s.room≤1000000000) (name:List UInt8) (hl:name.length < 1000000)
  (a:Nat) (ha:a≤1000000000) (b:Sl UInt8) (jM:b.l.length≤1000000000) :
  ∃ s' T v',call cx 21 [.optr q 5 0,.str name,.int .i64 a,(.vsl b.nil (qd b.l) b.l.length)] H = some (.int .i64 (qaJ s name a b.l),T)∧FSw T q s' v'∧qdb s name a b.l s'∧Ext (v.names q) H T∧NewL (v.names q) (v'.names q) H.length∧v'.pc = v.pc:=by
 obtain ⟨H1,e1⟩:=ql (qs H [.str name]);have x1:=jD e1;have w1:FSw H1 q s v:=h.ext x1 fun _ _=>by simp
 have hget_:=qjC h (by omega) name hl;rw [e1] at hget_;have hx0:Ext (v.names q) H H1:=x1.mono fun _ hi=>by simp at hi
 by_cases c0:ZE s name = 0
 rotate_left
 ·have hC:qaJ s name a b.l = ZE s name:=by simp [qaJ,c0]
  have c0':¬ ((ZE s name:Nat):Int) = 0:=by omega
  refine ⟨s,H1,v,?_,w1,by unfold qdb;rw [hC,if_neg c0];exact .inl rfl,hx0,NewL.refl _ _,rfl⟩;rw [hC];refine vt Tryz.func21 rfl ⟨rfl,rfl⟩ ?_;simp [-qf,-qn,-qs,Tryz.f21,hget_,c0]
 obtain ⟨hmay,i,hfi⟩:=qrw c0;obtain ⟨hi,hth,Q7⟩:=qrx hfi;have hiv:i < v.nd.length:=by rw [h.len];exact hi
 obtain ⟨ja,zX⟩:=w1.node i _ _ (zn hi) (X8 hiv);have hbn:=hb _ (v6 hi);have Qb:s.nodes[i]? = some s.nodes[i]:=zn hi;obtain ⟨n,hnd⟩:=ql (s.nodes[i]);rw [hnd] at ja zX hbn Qb hth Q7;simp only [Nd.cells,hth] at ja;simp only [Nd.data] at zX;have hgp:qez s v name = .optr (QS v i) 3 0:=by simp [qez,hmay,hfi]
 rw [c0,hgp] at hget_;obtain ⟨c,bx,cy,H2,Lx,Ly,qcP,g2,rx2,ry2,mx,my,Vl,x2⟩:=qu2 zX (by omega) (by omega);have w2:FSw H2 q s v:=w1.ext x2 fun _ _=>by simp
 have hcx:c ∉ Lx:=fun hc=>by have:=mx c hc;omega
 have hcy:c ∉ Ly:=fun hc=>by have:=my c hc;omega
 obtain ⟨bx',H3,Lx',Ku,g3,rx3,x3,n3,hcx'⟩:=qu0 g2 rx2 hcx (by omega) a ha b jM;have XW:(ZF s.nodes name).bind (s.nodes[·]?) = some n:=by rw [hfi];exact Qb
 have old1:∀ j,j∈v.names q→j < H1.length:=fun j hj=>w1.lt hj
 have dis:∀ j,j∈v.names q→j ∉ c :: Lx:=by
  intro j hj hc;have:=old1 j hj;rcases List.mem_cons.1 hc with hc | hc
  ·omega
  ·have:=(mx j hc).1;omega
 have w3:FSw H3 q s v:=w2.ext x3 dis;have hl12:=x2.len;have hl23:=x3.len
 have xx3:Ext (v.names q) H H3:=by
  refine ⟨by have:=x1.len;omega,fun j hj jo=>?_⟩;have QV:j < H1.length:=jZ hj x1.len;rw [x3.out j (by omega) ?_,x2.out j QV (by simp),x1.out j hj (by simp)];intro hc;rcases List.mem_cons.1 hc with hc | hc
  ·omega
  ·have:=(mx j hc).1;omega
 by_cases c1:KS a b.l = 0
 rotate_left
 ·have hc15:KS a b.l = 15:=by
   unfold KS at c1 ⊢;split
   ·rfl
   ·rename_i h0;rw [if_neg h0] at c1;exact absurd rfl c1
  have hC:qaJ s name a b.l = 15:=by simp [qaJ,c0,XW,c1]
  rw [hc15] at Ku;refine ⟨s,H3,v,?_,w3,by unfold qdb;rw [hC];exact .inl rfl,xx3,NewL.refl _ _,rfl⟩;rw [hC];refine vt Tryz.func21 rfl ⟨rfl,rfl⟩ ?_;simp [-qf,-qn,-qs,Tryz.f21,hget_,ja,qcP,Ku]
 rw [c1] at Ku
 have dLy:∀ j,j∈Ly→j ∉ c :: Lx:=fun j hj hc=>by
  rcases List.mem_cons.1 hc with hc | hc
  ·exact hcy (hc ▸ hj)
  ·exact (my j hj).2.2 hc
 have ry3:RowA H3 1 cy (qd n.safe.l) Ly:=ry2.ext x3 dLy;obtain ⟨nb,nsf,H4,hst,ZY,hnsf,g4,x4⟩:=quc g3 rx3 ry3 hcx' hcy;have hl34:=x4.len
 have newx:∀ j,j∈c :: (Lx' ++ Ly)→H1.length≤j:=by
  intro j hj;rcases List.mem_cons.1 hj with hj | hj
  ·omega
  ·rcases List.mem_append.1 hj with hj | hj
   ·rcases n3 j hj with hj | hj
    ·exact (mx j hj).1
    ·omega
   ·exact (my j hj).1
 have w4:FSw H4 q s v:=w3.ext x4 fun j hj hc=>by have:=old1 j hj;have:=newx j hc;omega
 have xx4:Ext (v.names q) H H4:=by
  refine ⟨by have:=xx3.len;omega,fun j hj jo=>?_⟩;have QV:j < H1.length:=jZ hj x1.len;rw [x4.out j (by omega) fun hc=>by have:=newx j hc;omega,xx3.out j hj jo]
 have Y9:=qrp w4 (by omega) fun m hm=>by have:=hb m hm;omega
 obtain ⟨kb,zJ⟩:=w4.node i _ _ Qb (X8 hiv);simp only [Nd.cells,hth] at kb;simp only [Nd.data] at zJ;have len1:=qit g4;have len2:=qit zJ;rw [ZY] at len1;obtain ⟨W,hW⟩:=ql (JJ n.b.l a b.l);have hWge:=qtp n.b.l a b.l;have hWle:=qk7 n.b.l a b.l hbn.1;rw [hW] at len1 hWge hWle;obtain ⟨dl,jp⟩:=ql (W.length - n.b.l.length);have jb:IntKind.i64.wrap ((W.length:Int) - (n.b.l.length:Int)) = (dl:Int):=by rw [wrap_i64];all_goals omega
 have jn:Jj s.nodes≤s.nodes.length * 32768:=by
  have:∀ l:List Nd,(∀ m,m∈l→m.b.l.length≤32768)→Jj l≤l.length * 32768:=by
   intro l
   induction l with
   | nil=>intro _;simp [Jj]
   | cons m l ih =>
    intro hm;have h1:=ih fun k hk=>hm k (Jr _ hk);have h2:=hm m (VW ..);simp only [Jj,vn,Jp,Nat.one_mul];split <;> omega
  exact this _ fun m hm=>(hb m hm).1
 have qZ:=qx ((Jj s.nodes:Nat)+(dl:Int)) ((Jj s.nodes+dl:Nat):Int);have r4:=w4.root;simp only [Fs.cells] at r4
 have hCm:qaJ s name a b.l = if n.b.l.length < W.length∧s.room < (Jj s.nodes+dl:Nat) then 15 else (kB s).1:=by
  unfold qaJ;rw [if_neg (by simpa using c0),XW];simp only [c1,hW,jp];simp
 by_cases c2:n.b.l.length < W.length∧s.room < (Jj s.nodes+dl:Nat)
 ·rw [if_pos c2] at hCm;have q1:(0:Int) < (dl:Int):=by omega
  have q2:s.room < ((Jj s.nodes:Nat):Int)+(dl:Int):=by omega
  refine ⟨s,H4,v,?_,w4,by unfold qdb;rw [hCm];exact .inl rfl,xx4,NewL.refl _ _,rfl⟩;rw [hCm];refine vt Tryz.func21 rfl ⟨rfl,rfl⟩ ?_;simp [-qf,-qn,-qs,-QZ,Tryz.f21,hget_,ja,qcP,Ku,hst,len1,len2,kb,jb,Y9,show 0 < dl by omega,qZ,r4,q2]
 rw [if_neg c2] at hCm;have Xj:=qrt w4 hf;obtain ⟨H5,e5⟩:=ql (qn H4 q ((kB s).2.cells v));have w5:FSw H5 q (kB s).2 v:=e5 ▸ qro w4 (qhb s);have x5:=Qk e5;rw [e5] at Xj;have xx5:Ext (v.names q) H H5:=xx4.trans (x5.mono fun j hj=>by rw [List.mem_singleton.1 hj];simp [FSv.names]) (NewL.refl _ _);have q2:0 < dl→¬ s.room < ((Jj s.nodes:Nat):Int)+(dl:Int):=by omega
 by_cases c3:(kB s).1 = 0
 rotate_left
 ·have c3':(kB s).1 = 18:=(qry s).resolve_left c3;rw [c3'] at Xj hCm;refine ⟨(kB s).2,H5,v,?_,w5,by unfold qdb;rw [hCm];exact .inr rfl,xx5,NewL.refl _ _,rfl⟩;rw [hCm];refine vt Tryz.func21 rfl ⟨rfl,rfl⟩ ?_;by_cases hd:0 < dl
  ·simp [-qf,-qn,-qs,-QZ,Tryz.f21,hget_,ja,qcP,Ku,hst,len1,len2,kb,jb,Y9,hd,qZ,r4,q2 hd,Xj]
  ·simp [-qf,-qn,-qs,-QZ,Tryz.f21,hget_,ja,qcP,Ku,hst,len1,len2,kb,jb,Y9,hd,Xj]
 rw [c3] at Xj hCm;obtain ⟨s2,kN⟩:=ql ((kB s).2);have qb4:s2.nodes = s.nodes:=by rw [← kN];exact qhb s
 rw [kN] at w5;obtain ⟨ku,ZB⟩:=w5.node i n _ (by rw [qb4];exact Qb) (X8 hiv);simp only [Nd.cells,hth] at ku;have hc5:c < H5.length:=by have:=qA g4;have:=x5.len;omega
 obtain ⟨T,eT⟩:=ql (qn H5 (QS v i) [.str n.name,.bool true,.optr c 2 0]);refine ⟨{ s2 with nodes:=s.nodes.set i { n with b:=nb,safe:=nsf } },T,{ v with nd:=v.nd.set i (QS v i,c) },?_,?_,?_,?_,?_,rfl⟩
 ·rw [hCm];refine vt Tryz.func21 rfl ⟨rfl,rfl⟩ ?_;by_cases hd:0 < dl
  ·simp [-qf,-qn,-qs,-QZ,Tryz.f21,hget_,ja,qcP,Ku,hst,len1,len2,kb,jb,Y9,hd,qZ,r4,q2 hd,Xj,ku,hc5,eT,zM]
  ·simp [-qf,-qn,-qs,-QZ,Tryz.f21,hget_,ja,qcP,Ku,hst,len1,len2,kb,jb,Y9,hd,Xj,ku,hc5,eT,zM]
 ·have hcn:c ∉ v.names q:=fun hc=>by have:=old1 c hc;omega
  have g5:qf H5 c = some (Nd.data { n with b:=nb,safe:=nsf }):=x5.get g4 fun hc=>hcn (by rw [List.mem_singleton.1 hc];simp [FSv.names]);have:=q0v w5 (by rw [qb4];exact Qb) g5 hcn;simp only [Nd.cells,hth,eT,qb4] at this;rw [hth];exact this
 ·unfold qdb;rw [hCm,if_pos rfl,kN];exact ⟨i,n,{ n with b:=nb,safe:=nsf },hfi,Qb,rfl,rfl,rfl,by rw [ZY],hnsf⟩
 ·have hm:=(qg6 (q:=q) (X8 hiv)).1;exact xx5.trans ((eT ▸ Ext.set H5 _ _:Ext [QS v i] H5 T).mono fun j hj=>by rw [List.mem_singleton.1 hj];exact hm) (NewL.refl _ _)
 ·intro j hj;have hlen:H.length≤H1.length:=x1.len;have qn:∀ x,x∈v.nd.set i (QS v i,c)→x∈v.nd∨x = (QS v i,c):=fun x hx=>qfR hx;have hm:=qg6 (q:=q) (X8 hiv);simp only [FSv.names,jT,vW,ZM] at hj hm ⊢;rcases hj with hj | hj | hj | ⟨x,hx,rfl⟩ | ⟨x,hx,rfl⟩
  ·exact .inl (.inl hj)
  ·exact .inl (.inr (.inl hj))
  ·exact .inl (.inr (.inr (.inl hj)))
  ·rcases qn x hx with hx | rfl
   ·exact .inl (.inr (.inr (.inr (.inl ⟨x,hx,rfl⟩))))
   ·exact .inl hm.1
  ·rcases qn x hx with hx | rfl
   ·exact .inl (.inr (.inr (.inr (.inr ⟨x,hx,rfl⟩))))
   ·exact .inr (by show H.length≤c;omega)
theorem qgf {H:qe} {v:D} {cs:List D} {L:List Nat} (h:RowA H 1 v cs L) (hf:cs.all idFree = true):∃ nl,jf H 9 v = some (.vsl nl cs cs.length,L)∧(nl = true→cs = []):=by
 rcases h with ⟨rfl,rfl,rfl⟩ | ⟨r,n,rfl,h1,h2,rfl⟩
 ·exact ⟨true,rfl,fun _=>rfl⟩
 ·have hn:n = cs.length:=by omega
  subst hn;refine ⟨false,?_,fun h=>by cases h⟩;unfold jf;simp only [idFree,QE,if_false,h2];rw [if_pos ⟨trivial,by omega⟩,if_pos (by rw [kY];exact hf)];simp
theorem qfV {H:qe} (L:List Nat):Ext L H (jO H L):=⟨by rw [Zp];exact qE _,fun _ _ h=>Yd h⟩
@[simp] theorem qhY (l:List (List UInt8)):(qR l).length = l.length:=by simp [qR]
theorem qtF (l:List (List UInt8)):(qR l).all idFree = true:=by
 rw [qeH];intro d hd;simp only [qR,ZM] at hd;obtain ⟨s,_,rfl⟩:=hd;rfl
theorem quk [MaxL] [TxtC] {H:qe} {ov:D} {l:List (List UInt8)} {L:List Nat} (h:RowA H 1 ov (qR l) L) (hl:l.length < 1000000) :
  ∃ T,call cx 70 [ov] H = some (.tup [],T)∧RowA T 1 ov (qR (vF l)) L∧Ext L H T:=by
 rcases h with ⟨rfl,h1,rfl⟩ | ⟨r,n,rfl,h1,h2,rfl⟩
 ·have hl0:l = []:=by
   cases l with
   | nil=>rfl
   | cons a l=>simp [qR] at h1
  subst hl0;refine ⟨H,qdU ?_,.inl ⟨rfl,by simp [vF,qR],rfl⟩,Ext.refl _ _⟩;rfl
 ·have hn:n = l.length:=by simpa using h1.symm
  subst hn;refine ⟨qn H r (qR (vF l)),qdU ?_,.inr ⟨r,l.length,by simp,by simp,zG (qA h2),rfl⟩,Ext.set H r _⟩;rw [qsu,qhY];simp only [qfD,h2,qkW];rw [if_pos ⟨trivial,trivial,by omega⟩]
def Qh (s:Fs):List (List UInt8):=if s.off then [] else (s.nodes.filter (·.there)).map (·.name)
theorem qrq [MaxL] [TxtC] {H:qe} {q:Nat} {s:Fs} {v:FSv} (h:FSw H q s v) (hn:s.nodes.length < 100000) :
  ∃ T nl,call cx 32 [.optr q 5 0] H = some (.vsl nl (qR (vF (Qh s))) (Qh s).length,T)∧Ext [] H T∧(nl = true→Qh s = []):=by
 obtain ⟨N,hN⟩:=ql (Qh s)
 have Vn:N.length≤s.nodes.length:=by
  rw [← hN];unfold Qh;split
  ·simp
  ·rw [List.length_map];exact List.length_filter_le _ _
 rw [hN];have vM:=h.root;simp only [Fs.cells] at vM
 suffices hs:∃ r,call cx 32 [.optr q 5 0] H = some r∧∃ nl T,r = (.vsl nl (qR (vF N)) N.length,T)∧Ext [] H T∧(nl = true→N = []) by
  obtain ⟨_,h1,nl,T,rfl,h2,h3⟩:=hs;exact ⟨T,nl,h1,h2,h3⟩
 have fin:∀ (ov:D) (H':qe) (L:List Nat),RowA H' 1 ov (qR N) L→Ext [] H H'→(∀ j,j∈L→H.length≤j) →
   ∃ T1 nl,call cx 70 [ov] H' = some (.tup [],T1)∧jf T1 9 ov = some (.vsl nl (qR (vF N)) N.length,L)∧Ext [] H (jO T1 L)∧(nl = true→N = []):=by
  intro ov H' L hr hx hL;obtain ⟨T1,a1,a2,a3⟩:=quk hr (by omega);obtain ⟨nl,b1,b2⟩:=qgf a2 (qtF _);have Zs:NewL [] L H.length:=fun i hi=>.inr (hL i hi);refine ⟨T1,nl,a1,by simpa using b1,(hx.trans a3 Zs).trans (qfV L) Zs,fun zF=>?_⟩;have:=congrArg List.length (b2 zF);simp at this;exact this
 rcases h.row with ⟨YA,hp,hL⟩ | ⟨b,n,YA,hlen,zC,hL⟩
 ·have hl:=h.len;have:v.nd = []:=by simpa [FSv.ptrs] using hp
  rw [this] at hl;have hs:s.nodes = []:=List.length_eq_zero_iff.1 hl.symm;rw [YA] at vM;have hN0:N = []:=by rw [← hN];simp [Qh,hs]
  obtain ⟨T1,nl,f1,f2,f3,f4⟩:=fin (.vsl true [] 0) H [] (.inl ⟨rfl,by rw [hN0];rfl,rfl⟩) (Ext.refl _ _) (by simp);refine Zh _ Tryz.func32 rfl ⟨rfl,rfl⟩ ?_;simp [-qf,Tryz.f32,vM];refine qgl ?_;simp [f1];exact ⟨T1,⟨⟨by rw [hN0];simp [vF,qR],by rw [hN0];rfl⟩,rfl⟩,f3,hN0⟩
 ·rw [YA] at vM;have hpl:v.ptrs.length = v.nd.length:=by simp [FSv.ptrs]
  have zF:n = s.nodes.length:=by have:=h.len;omega
  subst zF;refine Zh _ Tryz.func32 rfl ⟨rfl,rfl⟩ ?_;simp [-qf,Tryz.f32,vM];refine Run.loopThen (fun (k:Nat) e H'=>k≤s.nodes.length∧∃ ov L,RowA H' 1 ov (qR (if s.off then [] else ((s.nodes.take k).filter (·.there)).map (·.name))) L∧Ext [] H H'∧(∀ j,j∈L→H.length≤j)∧qi e 0 = some (.optr q 5 0)∧qi e 3 = some ov∧qi e 9 = some (.osl b v.ptrs.length 0 s.nodes.length 1)∧qi e 10 = some (.int .i64 s.nodes.length)∧qi e 11 = some (.int .i64 k)) (fun k=>s.nodes.length - k) 0 ?_ ?_
  ·exact ⟨by omega,.vsl true [] 0,[],.inl ⟨rfl,by simp [qR],rfl⟩,Ext.refl _ _,by simp,rfl,rfl,rfl,rfl,rfl⟩
  rintro k e H' ⟨hk,ov,L,hr,hx,hL2,k0,k3,k9,k10,k11⟩;by_cases qg:k < s.nodes.length
  ·have qo:=zI qg;have hw:=qx ((k:Int)+1) ((k+1:Nat):Int);have hkv:k < v.nd.length:=(by rw [h.len];exact qg);obtain ⟨ja,zX⟩:=h.node k _ _ (zn qg) (X8 hkv);have qcC:=hx.get ja (by simp);have hroot':=hx.get vM (by simp);have kQ:=hx.get zC (by simp);simp only [Nd.cells] at qcC;have XL:=qiO hkv;have jc:s.nodes.take (k+1) = s.nodes.take k ++ [s.nodes[k]]:=(by rw [List.take_add_one,zn qg];rfl);cases ht:s.nodes[k].there with
   | false =>
    rw [ht] at qcC;simp [-qf,k0,k3,k9,k10,k11,qo,hw,kQ,XL,qcC];refine ⟨k+1,by omega,by omega,ov,L,?_,hx,hL2,rfl,by omega⟩;rw [jc,List.filter_append];simpa [ht] using hr
   | true =>
    rw [ht] at qcC;cases ho:s.off with
    | true =>
     rw [ho] at hroot' hr;simp [-qf,k0,k3,k9,k10,k11,qo,hw,kQ,XL,qcC,hroot'];exact ⟨k+1,by omega,by omega,ov,L,by simpa using hr,hx,hL2,rfl,by omega⟩
    | false =>
     rw [ho] at hroot' hr;simp only [QE,if_false] at hr;obtain ⟨H2,e2⟩:=ql (qs H' [.str s.nodes[k].name]);obtain ⟨a2,l2⟩:=ql (H'.length);have x2:Ext [] H' H2:=e2 ▸ Ext.new H' _;have g2:qf H2 a2 = some [.str s.nodes[k].name]:=by rw [← e2,← l2,zA]
     have hlen:(((s.nodes.take k).filter (·.there)).map (·.name)).length≤k:=by
      rw [List.length_map];refine zT (List.length_filter_le _ _) ?_;rw [jU];omega
     have hB:bytesOf Tryz.prog 9 = 16:=(by simp);obtain ⟨ov2,H3,L3,hA,hR3,x3,n3⟩:=(hr.ext x2 fun _ _=>by simp).append (P:=Tryz.prog) (st:=28) (xt:=28) (e:=9) (x:=.osl a2 1 0 1 1) (xs:=[.str s.nodes[k].name]) (m:=1) (by simp) (by simp) (by simp [-qf,g2]) (by simp) (by omega) (by simp) (by omega) (by rw [hB,qhY];simp only [qD];omega) (by rw [qhY];simp only [qD];omega);have XD:Ext [] H H3:=(hx.trans x2 (NewL.refl _ _)).trans x3 fun i hi=>.inr (hL2 i hi);simp [-qf,-qs,-qT,k0,k3,k9,k10,k11,qo,hw,kQ,XL,qcC,hroot',e2,l2,hA,qjd hroot'];refine ⟨k+1,by omega,by omega,ov2,L3,?_,XD,fun j hj=>?_,rfl,by omega⟩
     ·rw [jc,List.filter_append];simpa [ht,qR] using hR3
     ·have:=x2.len;have:=hx.len;rcases n3 j hj with h1 | h1
      ·exact hL2 j h1
      ·omega
  ·have qo:=zL qg;have KA:k = s.nodes.length:=(by omega);have hNN:(if s.off then [] else ((s.nodes.take k).filter (·.there)).map (·.name)) = N:=(by rw [KA,List.take_length,← hN];rfl);rw [hNN] at hr;obtain ⟨T1,nl,f1,f2,f3,f4⟩:=fin ov H' L hr hx hL2;simp [-qf,-jf,k0,k3,k9,k10,k11,qo,f1,f2];cases nl with
   | false=>exact .inl ⟨_,⟨rfl,rfl⟩,f3⟩
   | true=>exact .inr ⟨_,⟨rfl,rfl⟩,f3,f4 rfl⟩
theorem qu3 [MaxL] [TxtC] {H:qe} {b:Nat} {x y:Sl UInt8} (h:qf H b = some [(.vsl x.nil (qd x.l) x.l.length),(.vsl y.nil (qd y.l) y.l.length)]) (hx:x.l.length≤1000000) :
  ∃ T nl,call cx 71 [.optr b 2 0] H = some (.vsl nl (qd x.l) x.l.length,T)∧Ext [] H T∧(nl = true→x.l = []):=by
 obtain ⟨dx,X0,c1,k1⟩:=qkl x hx;obtain ⟨Lx,r1,x1,m1⟩:=k1 H;obtain ⟨bx,e1⟩:=ql (shift H.length dx);obtain ⟨H1,e2⟩:=ql (H ++ X0);rw [e1,e2] at r1;rw [e2] at x1 m1;obtain ⟨nl,s1,s2⟩:=qih r1;refine ⟨jO H1 Lx,nl,vt Tryz.func71 rfl ⟨rfl,rfl⟩ ?_,x1.trans (qfV Lx) fun i hi=>.inr (by have:=m1 i hi;omega),s2⟩;simp [-qf,-qn,-qs,-jf,Tryz.f71,h,c1,e1,e2,s1]
def ji (s:Fs) (name:List UInt8):List UInt8:=if ZE s name≠0 then [] else match (ZF s.nodes name).bind (s.nodes[·]?) with | some n=>n.b.l | none=>[]
theorem qru [MaxL] [TxtC] {H:qe} {q:Nat} {s:Fs} {v:FSv} (h:FSw H q s v) (hn:s.nodes.length < 100000) (hb:∀ n,n∈s.nodes→n.b.l.length≤1000000) (name:List UInt8) (hl:name.length < 1000000) :
  ∃ T nl,call cx 33 [.optr q 5 0,.str name] H = some (.tup [.vsl nl (qd (ji s name)) (ji s name).length,.int .i64 (ZE s name)],T)∧Ext [] H T∧(nl = true→ji s name = []):=by
 obtain ⟨H1,e1⟩:=ql (qs H [.str name]);have x1:=jD e1;have w1:FSw H1 q s v:=h.ext x1 fun _ _=>by simp
 have hget_:=qjC h (by omega) name hl;rw [e1] at hget_;by_cases c0:ZE s name = 0
 rotate_left
 ·have c0':¬ ((ZE s name:Nat):Int) = 0:=by omega
  have hA:ji s name = []:=by simp [ji,c0]
  rw [hA];refine ⟨H1,true,vt Tryz.func33 rfl ⟨rfl,rfl⟩ ?_,x1,fun _=>rfl⟩;simp [-qf,-qn,-qs,Tryz.f33,hget_,c0]
 obtain ⟨hmay,i,hfi⟩:=qrw c0;obtain ⟨hi,hth,Q7⟩:=qrx hfi;have hiv:i < v.nd.length:=by rw [h.len];exact hi
 obtain ⟨ja,zX⟩:=w1.node i _ _ (zn hi) (X8 hiv);have hbn:=hb _ (v6 hi);have Qb:s.nodes[i]? = some s.nodes[i]:=zn hi;simp only [Nd.cells] at ja;simp only [Nd.data] at zX;have hgp:qez s v name = .optr (QS v i) 3 0:=by simp [qez,hmay,hfi]
 rw [c0,hgp] at hget_;have hA:ji s name = s.nodes[i].b.l:=by simp [ji,c0,hfi,Qb]
 obtain ⟨T,nl,a1,a2,a3⟩:=qu3 zX hbn;rw [hA,c0];refine ⟨T,nl,vt Tryz.func33 rfl ⟨rfl,rfl⟩ ?_,x1.trans a2 (NewL.refl _ _),a3⟩;simp [-qf,-qn,-qs,Tryz.f33,hget_,ja,a1]
theorem q0z [MaxL] [TxtC] {H:qe} {q:Nat} {s:Fs} {v:FSv} (h:FSw H q s v):call cx 34 [.optr q 5 0] H = some (.bool s.off,H):=by
 have vM:=h.root;simp only [Fs.cells] at vM;refine vt Tryz.func34 rfl ⟨rfl,rfl⟩ ?_;simp [-qf,Tryz.f34,vM]
def jH (all:List UInt8→List UInt8) (ok:List UInt8→Bool) (n:List UInt8):Bool:=(jm n).2 && (!decide ((jm n).1.kind = 4) && ok (all n))
def jF (all:List UInt8→List UInt8) (ok:List UInt8→Bool) (n:List UInt8):Bool:=(jm n).2 && (!decide ((jm n).1.kind = 4) && !ok (all n))
def zj (b:List UInt8):Bool:=decide (zy b = 0)
def VQ:List (List UInt8)→List Nat→List D
 | n :: fl,p :: ps=>.str n :: (Enc.cells (jm n).1 ++ .optr p 5 0 :: VQ fl ps)
 | _,_=>[]
theorem qr1:∀ (fl:List (List UInt8)) (ps:List Nat) (n:List UInt8) (p:Nat),fl.length = ps.length→VQ (fl ++ [n]) (ps ++ [p]) = VQ fl ps ++ (.str n :: (Enc.cells (jm n).1 ++ [.optr p 5 0]))
 | [],[],n,p,_=>rfl
 | a :: fl,b :: ps,n,p,h=>by
  simp only [Qw,VQ,qr1 fl ps n p (by simpa using h),Qj]
 | [],_ :: _,_,_,h=>by simp at h
 | _ :: _,[],_,_,h=>by simp at h
theorem qf5:∀ (fl:List (List UInt8)) (ps:List Nat),fl.length = ps.length→(VQ fl ps).length = fl.length * 21
 | [],[],_=>rfl
 | a :: fl,b :: ps,h=>by
  have ih:=qf5 fl ps (by simpa using h);have hc:(Enc.cells (jm a).1:List D).length = 19:=by simp
  simp only [VQ,vn,zz,ih,hc];omega
 | [],_ :: _,h=>by simp at h
 | _ :: _,[],h=>by simp at h
theorem qr2:∀ (fl:List (List UInt8)) (ps:List Nat) (i:Nat) (n:List UInt8) (p:Nat),fl.length = ps.length→fl[i]? = some n→ps[i]? = some p→∃ r,List.drop (i * 21) (VQ fl ps) = .str n :: (Enc.cells (jm n).1 ++ .optr p 5 0 :: r)
 | [],_,i,n,p,_,h,_=>by simp at h
 | a :: fl,b :: ps,0,n,p,_,h1,h2=>by
  simp only [Z1,qw] at h1 h2;subst h1;subst h2;exact ⟨_,rfl⟩
 | a :: fl,b :: ps,i+1,n,p,h,h1,h2=>by
  obtain ⟨r,hr⟩:=qr2 fl ps i n p (by simpa using h) (by simpa using h1) (by simpa using h2);refine ⟨r,?_⟩;have hc:(Enc.cells (jm a).1:List D).length = 19:=by simp
  have e:(i+1) * 21 = i * 21+21:=by omega
  have e2:VQ (a :: fl) (b :: ps) = (.str a :: (Enc.cells (jm a).1 ++ [.optr b 5 0])) ++ VQ fl ps:=by simp [VQ]
  rw [e2,e,Nat.add_comm,← jV,kE (by simp),hr]
 | _ :: _,[],_,_,_,h,_,_=>by simp at h
theorem qc5 (H:qe) (a b:List D):qn (qs H a) H.length b = qs H b:=by simp [qn,qs]
structure DirI (H:qe) (s:Fs) (N:List (List UInt8)) (i:Nat) (K:qe) (ps:List Nat) (oD hD:D) (Lo Lh:List Nat):Prop where
 ext:Ext [] H K
 pl:((N.take i).filter (jH (ji s) zj)).length = ps.length
 oR:RowA K 21 oD (VQ ((N.take i).filter (jH (ji s) zj)) ps) Lo
 hR:RowA K 1 hD (qR ((N.take i).filter (jF (ji s) zj))) Lh
 file:∀ (j:Nat) (n:List UInt8) (p:Nat),((N.take i).filter (jH (ji s) zj))[j]? = some n→ps[j]? = some p→qf K p = some (XY (ji s n))
 oN:∀ j,j∈Lo→H.length≤j∧j ∉ Lh∧j ∉ ps
 hN:∀ j,j∈Lh→H.length≤j∧j ∉ ps
 pN:∀ j,j∈ps→j < K.length
 pD:ps.Nodup
 pH:∀ j,j∈ps→H.length≤j
section
variable {H K:qe} {s:Fs} {N:List (List UInt8)} {i:Nat} {ps:List Nat} {oD hD:D} {Lo Lh:List Nat} {n:List UInt8}
theorem DirI.skip (I:DirI H s N i K ps oD hD Lo Lh) (ht:N.take (i+1) = N.take i ++ [n]) (h1:jH (ji s) zj n = false) (h2:jF (ji s) zj n = false) {T:qe} (x:Ext [] K T):DirI H s N (i+1) T ps oD hD Lo Lh:=by
 have e1:(N.take (i+1)).filter (jH (ji s) zj) = (N.take i).filter (jH (ji s) zj):=by rw [ht,List.filter_append];simp [h1]
 have e2:(N.take (i+1)).filter (jF (ji s) zj) = (N.take i).filter (jF (ji s) zj):=by rw [ht,List.filter_append];simp [h2]
 exact ⟨I.ext.trans x (NewL.refl _ _),by rw [e1];exact I.pl,by rw [e1];exact I.oR.ext x (fun _ _=>by simp),by rw [e2];exact I.hR.ext x (fun _ _=>by simp),fun j n p hj hp=>x.get (I.file j n p (by rw [e1] at hj;exact hj) hp) (by simp),I.oN,I.hN,fun j hj=>x.lt (I.pN j hj),I.pD,I.pH⟩
theorem DirI.other (I:DirI H s N i K ps oD hD Lo Lh) (ht:N.take (i+1) = N.take i ++ [n]) (h1:jH (ji s) zj n = false) (h2:jF (ji s) zj n = true) {K2 T:qe} {hD':D} {Lh':List Nat} (x2:Ext [] K K2)
  (hR:RowA T 1 hD' (qR ((N.take i).filter (jF (ji s) zj)) ++ [.str n]) Lh') (x:Ext Lh K2 T) (nl:NewL Lh Lh' K2.length):DirI H s N (i+1) T ps oD hD' Lo Lh':=by
 have e1:(N.take (i+1)).filter (jH (ji s) zj) = (N.take i).filter (jH (ji s) zj):=by rw [ht,List.filter_append];simp [h1]
 have e2:(N.take (i+1)).filter (jF (ji s) zj) = (N.take i).filter (jF (ji s) zj) ++ [n]:=by rw [ht,List.filter_append];simp [h2]
 have l2:=x2.len;have lH:=I.ext.len;have loK:∀ j,j∈Lo→j < K.length:=fun j hj=>I.oR.lt hj;refine ⟨(I.ext.trans x2 (NewL.refl _ _)).trans x (fun j hj=>.inr (I.hN j hj).1),by rw [e1];exact I.pl,?_,?_,fun j n p hj hp=>?_,fun j hj=>?_,fun j hj=>?_,fun j hj=>x.lt (x2.lt (I.pN j hj)),I.pD,I.pH⟩
 ·rw [e1];exact (I.oR.ext x2 (fun _ _=>by simp)).ext x (fun j hj hc=>(I.oN j hj).2.1 hc)
 ·rw [e2];have:qR ((N.take i).filter (jF (ji s) zj) ++ [n]) = qR ((N.take i).filter (jF (ji s) zj)) ++ [.str n]:=by simp [qR]
  rw [this];exact hR
 ·have Zg:=Vy hp;exact x.get (x2.get (I.file j n p (by rw [e1] at hj;exact hj) hp) (by simp)) (fun hc=>(I.hN p hc).2 Zg)
 ·refine ⟨(I.oN j hj).1,fun hc=>?_,(I.oN j hj).2.2⟩;rcases nl j hc with h | h
  ·exact (I.oN j hj).2.1 h
  ·have:=loK j hj;omega
 ·rcases nl j hj with h | h
  ·exact I.hN j h
  ·exact ⟨by omega,fun hc=>by have:=I.pN j hc;omega⟩
theorem DirI.found (I:DirI H s N i K ps oD hD Lo Lh) (ht:N.take (i+1) = N.take i ++ [n]) (h1:jH (ji s) zj n = true) (h2:jF (ji s) zj n = false) {K2 T:qe} {p:Nat} {oD':D} {Lo':List Nat} (x2:Ext [] K K2)
  (hp:qf K2 p = some (XY (ji s n))) (hpn:K.length≤p) (hR:RowA T 21 oD' (VQ ((N.take i).filter (jH (ji s) zj)) ps ++ (.str n :: (Enc.cells (jm n).1 ++ [.optr p 5 0]))) Lo') (x:Ext Lo K2 T) (nl:NewL Lo Lo' K2.length):DirI H s N (i+1) T (ps ++ [p]) oD' hD Lo' Lh:=by
 have e1:(N.take (i+1)).filter (jH (ji s) zj) = (N.take i).filter (jH (ji s) zj) ++ [n]:=by rw [ht,List.filter_append];simp [h1]
 have e2:(N.take (i+1)).filter (jF (ji s) zj) = (N.take i).filter (jF (ji s) zj):=by rw [ht,List.filter_append];simp [h2]
 have l2:=x2.len;have lH:=I.ext.len;have loK:∀ j,j∈Lo→j < K.length:=fun j hj=>I.oR.lt hj;have lhK:∀ j,j∈Lh→j < K.length:=fun j hj=>I.hR.lt hj;have hpl:=qA hp;refine ⟨(I.ext.trans x2 (NewL.refl _ _)).trans x (fun j hj=>.inr (I.oN j hj).1),by rw [e1,zz,zz,I.pl];rfl,?_,?_,fun j m r hj hr=>?_,fun j hj=>?_,fun j hj=>?_,fun j hj=>?_,?_,fun j hj=>?_⟩
 ·rw [e1,qr1 _ _ _ _ I.pl];exact hR
 ·rw [e2];exact (I.hR.ext x2 (fun _ _=>by simp)).ext x (fun j hj hc=>(I.oN j hc).2.1 hj)
 ·rw [e1] at hj;by_cases zO:j < ps.length
  ·rw [kg (by rw [I.pl];exact zO)] at hj;rw [kg zO] at hr;have Zg:=Vy hr;exact x.get (x2.get (I.file j m r hj hr) (by simp)) (fun hc=>(I.oN r hc).2.2 Zg)
  ·rw [kU (by rw [I.pl];omega),I.pl] at hj;rw [kU (by omega)] at hr
   have h0:j - ps.length = 0:=by
    have:=(List.getElem?_eq_some_iff.1 hr).1;simp at this;omega
   rw [h0] at hj hr;simp only [Z1,qw] at hj hr;subst hj;subst hr;exact x.get hp (fun hc=>by have:=loK _ hc;omega)
 ·rcases nl j hj with h | h
  ·have h3:=I.oN j h;have:=loK j h;refine ⟨h3.1,h3.2.1,fun hc=>?_⟩;rcases List.mem_append.1 hc with h4 | h4
   ·exact h3.2.2 h4
   ·have:=List.mem_singleton.1 h4;omega
  ·refine ⟨by omega,fun hc=>by have:=lhK j hc;omega,fun hc=>?_⟩;rcases List.mem_append.1 hc with h4 | h4
   ·have:=I.pN j h4;omega
   ·have:=List.mem_singleton.1 h4;omega
 ·refine ⟨(I.hN j hj).1,fun hc=>?_⟩;rcases List.mem_append.1 hc with h4 | h4
  ·exact (I.hN j hj).2 h4
  ·have:=List.mem_singleton.1 h4;have:=lhK j hj;omega
 ·rcases List.mem_append.1 hj with h4 | h4
  ·exact x.lt (x2.lt (I.pN j h4))
  ·have:=List.mem_singleton.1 h4;have:=x.len;omega
 ·rw [List.nodup_append];refine ⟨I.pD,by simp,fun a ha c hc hac=>?_⟩;have:=I.pN a ha;have:=List.mem_singleton.1 hc;omega
 ·rcases List.mem_append.1 hj with h4 | h4
  ·exact I.pH j h4
  ·have:=List.mem_singleton.1 h4;omega
end
def qsf (H:qe) (q:Nat) (s:Fs) (N:List (List UInt8)) (nl:Bool) (i:Nat) (e:qr) (K:qe):Prop :=
 i≤N.length∧qi e 0 = some (.optr q 5 0)∧qi e 18 = some (.vsl nl (qR N) N.length)∧qi e 19 = some (.int .i64 N.length)∧qi e 20 = some (.int .i64 i)∧∃ ps oD hD Lo Lh,qi e 5 = some oD∧qi e 6 = some hD∧DirI H s N i K ps oD hD Lo Lh
set_option maxHeartbeats 8000000 in
set_option maxRecDepth 10000 in
theorem q1x [MaxL] {H:qe} {q:Nat} {s:Fs} {v:FSv} (W:FSw H q s v) (hoff:s.off = false) (hn:s.nodes.length < 1000) (hb:∀ n,n∈s.nodes→n.b.l.length≤1000000) (Q7:∀ n,n∈Qh s→n.length≤1000) :
  ∃ T ps oD hD Lo Lh,call cx 9 [.optr q 5 0] H = some (.tup [oD,hD,.int .i64 0],T)∧DirI H s (vF (Qh s)) (vF (Qh s)).length T ps oD hD Lo Lh:=by
 suffices hs:∃ r,call cx 9 [.optr q 5 0] H = some r∧∃ (T:qe) (ps:List Nat) (oD hD:D) (Lo Lh:List Nat),r = (.tup [oD,hD,.int .i64 0],T)∧DirI H s (vF (Qh s)) (vF (Qh s)).length T ps oD hD Lo Lh by
  obtain ⟨r,hc,T,ps,oD,hD,Lo,Lh,rfl,h1⟩:=hs;exact ⟨T,ps,oD,hD,Lo,Lh,hc,h1⟩
 refine Zh (X:=cx) (f:=9) _ Tryz.func9 rfl ⟨rfl,rfl⟩ ?_;have Kx:=q0z W;rw [hoff] at Kx;obtain ⟨K1,nl,qcB,x1,zF⟩:=qrq W (by omega);obtain ⟨N,hN⟩:∃ N,N = vF (Qh s):=⟨_,rfl⟩;have Vn:(Qh s).length = N.length:=by rw [hN];simp
 have hNb:N.length≤1000:=by
  rw [← Vn];unfold Qh;rw [hoff];simp only [QE,if_false,List.length_map];exact zT (List.length_filter_le _ _) (by omega)
 have hNn:∀ n,n∈N→n.length≤1000:=fun n h=>Q7 n (sortL_mem.1 (hN ▸ h));rw [← hN,Vn] at qcB;rw [← hN];simp [-qf,-qn,-qs,-qT,Tryz.f9,Kx,qcB];refine KZ (qsf H q s N nl) (fun i=>N.length - i) 0 (fun ex e K=>ex = .exit 0∧qsf H q s N nl N.length e K) ?_ ?_ ?_
 ·exact ⟨vV _,by simp,by simp,by simp,by simp,[],.vsl true [] 0,.vsl true [] 0,[],[],by simp,by simp,x1,rfl,RowA.nil _ _,RowA.nil _ _,fun j n p h=>by simp at h,fun j hj=>by simp at hj,fun j hj=>by simp at hj,fun j hj=>by simp at hj,List.nodup_nil,fun j hj=>by simp at hj⟩
 ·rintro i e K ⟨hi,p0,p18,p19,p20,ps,oD,hD,Lo,Lh,p5,p6,I⟩;by_cases qg:i < N.length
  ·have qo:=zI qg;have hw:=qx ((i:Int)+1) ((i+1:Nat):Int)
   have vj:nl = false:=by
    cases zX:nl with
    | false=>rfl
    | true =>
     have h0:=zF zX;rw [h0] at Vn;simp at Vn;omega
   subst vj;obtain ⟨n,hnd⟩:=ql (N[i])
   have qI:List.drop i (qR N) = .str n :: qR (N.drop (i+1)):=by
    unfold qR;rw [← List.map_drop,zU qg,hnd];rfl
   have hnl1:n.length≤1000:=hNn n (hnd ▸ v6 qg);have XG:N.take (i+1) = N.take i ++ [n]:=(by rw [← hnd];exact VV qg);have JN:=qmv n (by omega);obtain ⟨inf,Q8⟩:∃ x,x = (jm n).1:=⟨_,rfl⟩;rw [← Q8] at JN;obtain ⟨cr,hcr⟩:∃ cr:List D,(Enc.cells inf:List D) = .int .i64 inf.kind :: cr:=⟨_,rfl⟩;rw [hcr] at JN
   have lcr:cr.length = 18:=by
    have:(Enc.cells inf:List D).length = 19:=(by simp);rw [hcr] at this;simpa using this
   have fcr:cr.all idFree = true:=by
    have:=Enc.free inf;rw [hcr] at this;simpa [idFree] using this
   have ccr:=KR fcr;have fcrL:=Z3 fcr;have tcr:List.take 18 cr = cr:=qP (by omega);obtain ⟨Ka,kw⟩:=ql (qs K (.int .i64 inf.kind :: cr));have xa:=jD kw;have ga:=kh kw;have Wa:=(W.ext I.ext (fun _ _=>by simp)).ext xa (fun _ _=>by simp);obtain ⟨Kb,nb,jB,xb,ZY⟩:=qru Wa (by omega) hb n (by omega);obtain ⟨A,hA⟩:∃ A,A = ji s n:=⟨_,rfl⟩;rw [← hA] at jB ZY
   have Qc:A.length≤1000000:=by
    rw [hA];unfold ji;split
    ·simp
    ·cases VH:(ZF s.nodes n).bind (s.nodes[·]?) with
     | none=>simp
     | some x =>
      simp only;cases hf:ZF s.nodes n with
      | none=>rw [hf] at VH;simp at VH
      | some j =>
       rw [hf] at VH;exact hb x (Vy VH)
   have qb2:=qyr ⟨nb,A,ZY⟩ Qc;replace qb2:call cx 35 [.vsl nb (qd A) A.length] [] = if zy A = 0 then some (.tup [.optr 0 5 0,.int .i64 0],[some (XY A)]) else some (.tup [.nilp,.int .i64 (zy A:Nat)],[]):=qb2;have gb:qf Kb K.length = some (.int .i64 inf.kind :: cr):=xb.get ga (by simp);cases hp:(jm n).2 with
   | false =>
    rw [hp] at JN;simp [-qf,-qn,-qs,-qT,p0,p5,p6,p18,p19,p20,qo,qI,JN,zA,qc5,fcrL,ccr,lcr,kw,hw];exact ⟨i+1,by omega,by omega,by simp,by simp,by simp,by simp,ps,oD,hD,Lo,Lh,by simp,by simp,I.skip XG (by simp [jH,hp]) (by simp [jF,hp]) xa⟩
   | true =>
    rw [hp] at JN;by_cases h4:inf.kind = 4
    ·have Xo:(inf.kind == 4) = true:=(by rw [h4];rfl);have h4p:=eq_true h4;simp [-qf,-qn,-qs,-qT,p0,p5,p6,p18,p19,p20,qo,qI,JN,zA,qc5,fcrL,ccr,lcr,kw,ga,hw,Xo];rw [Q8] at h4;exact ⟨i+1,by omega,by omega,by simp,by simp,by simp,by simp,ps,oD,hD,Lo,Lh,by simp,by simp,I.skip XG (by simp [jH,h4]) (by simp [jF,h4]) xa⟩
    ·have Xo:(inf.kind == 4) = false:=(by simp [h4]);have h4p:=eq_false h4;by_cases hc:zy A = 0
     ·rw [if_pos hc] at qb2;obtain ⟨Kc,JD⟩:∃ T:qe,Kb ++ [some (XY A)] = T:=⟨_,rfl⟩;have hKc':qs Kb (XY A) = Kc:=JD;have xc:=jD hKc';have gc:qf Kc K.length = some (.int .i64 inf.kind :: cr):=xc.get gb (by simp);have gf:qf Kc Kb.length = some (XY A):=(by rw [← hKc',zA]);have lKb:=xa.len;have lKc:=xb.len;have lKd:Kc.length = Kb.length+1:=(by rw [← hKc',zW]);obtain ⟨fc,hfc⟩:∃ c:List D,c = .str n :: .int .i64 inf.kind :: (cr ++ [.optr Kb.length 5 0]):=⟨_,rfl⟩;have lfc:fc.length = 21:=(by rw [hfc];simp [lcr]);have tfc:List.take 21 fc = fc:=qP (by omega)
      have cfc:(∀ x,x∈fc→closed Kc.length x = true) = True:=eq_true fun x hx=>by
       rw [hfc] at hx;simp only [jT,vW,List.not_mem_nil,or_false] at hx;rcases hx with rfl | rfl | hx | rfl
       ·rfl
       ·rfl
       ·exact qew x (List.all_eq_true.1 fcr x hx)
       ·simp [closed];omega
      obtain ⟨Kd,YN⟩:=ql (qs Kc fc);have xd:=jD YN;have gd:=kh YN;have e19:List.drop 19 (cr ++ [D.nilp]) = []:=(by simp [lcr]);have hKcne:Kc≠[]:=fun e0=>by rw [e0] at lKd;simp at lKd
      have x4:=((xa.trans xb (NewL.refl _ _)).trans xc (NewL.refl _ _)).trans xd (NewL.refl _ _);have Jd:=qf5 _ _ I.pl;have hfil:((N.take i).filter (jH (ji s) zj)).length≤1000:=zT (List.length_filter_le _ _) (by rw [jU];omega);obtain ⟨oD',Ke,Lo',VM,hRe,xe,ne⟩:=(I.oR.ext x4 (fun _ _=>by simp)).append (P:=Tryz.prog) (st:=43) (xt:=43) (e:=85) (x:=.osl Kc.length 21 0 1 21) (xs:=fc) (m:=1) (by simp) (by simp) (by simp [-qf,gd,lfc,tfc]) (by simp) (by omega) (by rw [lfc]) (by omega) (by rw [Jd];simp [qD];omega) (by rw [Jd];simp [qD];omega);simp [-qf,-qn,-qs,-qT,p0,p5,p6,p18,p19,p20,qo,qI,JN,zA,qc5,fcrL,ccr,lcr,kw,ga,hw,Xo,jB,qb2,tcr,JD,gc,← hfc,lfc,YN,hKcne,VM,e19];have hfc2:fc = .str n :: (Enc.cells (jm n).1 ++ [.optr Kb.length 5 0]):=(by rw [← Q8,hcr,hfc];rfl);rw [hfc2] at hRe;exact ⟨i+1,by omega,by omega,by simp,by simp,by simp,by simp,ps ++ [Kb.length],oD',hD,Lo',Lh,by simp,by simp,I.found XG (by simp [jH,hp,← Q8,h4,zj,← hA,hc]) (by simp [jF,hp,← Q8,h4,zj,← hA,hc]) x4 (by rw [← hA];exact xd.get gf (by simp)) (by omega) hRe xe ne⟩
     ·rw [if_neg hc] at qb2;have VJ:((zy A:Int) != 0) = true:=(by simp;omega);obtain ⟨Kc,JD⟩:=ql (qs Kb [.str n]);have xc:=jD JD;have gc:=kh JD;have x4:=(xa.trans xb (NewL.refl _ _)).trans xc (NewL.refl _ _);have hfil:((N.take i).filter (jF (ji s) zj)).length≤1000:=zT (List.length_filter_le _ _) (by rw [jU];omega);obtain ⟨hD',Ke,Lh',VM,hRe,xe,ne⟩:=(I.hR.ext x4 (fun _ _=>by simp)).append (P:=Tryz.prog) (st:=28) (xt:=28) (e:=9) (x:=.osl Kb.length 1 0 1 1) (xs:=[.str n]) (m:=1) (by simp) (by simp) (by simp [-qf,gc]) (by simp) (by omega) (by simp) (by omega) (by simp [qD];omega) (by simp [qD];omega);simp [-qf,-qn,-qs,-qT,p0,p5,p6,p18,p19,p20,qo,qI,JN,zA,qc5,fcrL,ccr,lcr,kw,ga,hw,Xo,jB,qb2,VJ,JD,VM];exact ⟨i+1,by omega,by omega,by simp,by simp,by simp,by simp,ps,oD,hD',Lo,Lh',by simp,by simp,I.other XG (by simp [jH,hp,← Q8,h4,zj,← hA,hc]) (by simp [jF,hp,← Q8,h4,zj,← hA,hc]) x4 hRe xe ne⟩
  ·have qo:=zL qg;have Q9:i = N.length:=(by omega);subst Q9;simp [-qf,-qn,-qs,-qT,p0,p5,p6,p18,p19,p20,qo];exact ⟨qE _,by simp,by simp,by simp,by simp,ps,oD,hD,Lo,Lh,by simp,by simp,I⟩
 ·rintro ex e K ⟨rfl,-,p0,p18,p19,p20,ps,oD,hD,Lo,Lh,p5,p6,I⟩;simp [-qf,-qn,-qs,-qT,p5,p6];exact ⟨_,ps,_,_,⟨⟨rfl,rfl⟩,rfl⟩,Lo,Lh,I⟩
end Go.Ev.S
namespace Go.Ev.S
open Go Go.Proofs Go.Ev
theorem qqt {b:List UInt8} {most:Nat}:∀ {l out:List Nat},out.length≤out.getLastD 0∧out.getLastD 0≤b.length→(Vd b most l out).1.length≤(Vd b most l out).1.getLastD 0∧(Vd b most l out).1.getLastD 0≤b.length
 | [],out,h=>h
 | y :: l,out,h=>by
  rw [Vd];split
  ·exact h
  ·split
   ·exact h
   ·split
    ·exact h
    ·rename_i h1 h2 h3;refine qqt ?_
     have hy:1≤y∧y < b.length:=by
      unfold Z6 at h2;simp at h2;omega
     rw [List.getLastD_concat,zz,List.length_singleton];refine ⟨?_,by omega⟩;by_cases h0:0 < out.length
     ·have:¬ y≤out.getLastD 0:=fun hc=>h3 ⟨h0,hc⟩;omega
     ·omega
theorem qrS {b:List UInt8} {sz most:Nat}:∀ {n:Nat} {out:List Nat} {a c:Nat},out.length≤out.getLastD 0∧out.getLastD 0≤b.length→(XZ b sz most n out a c).1.length≤b.length
 | 0,out,a,c,h=>zT h.1 h.2
 | n+1,out,a,c,h=>by
  have h0:=zT h.1 h.2;rw [XZ];split
  ·exact h0
  ·split
   ·exact h0
   ·split
    ·exact h0
    ·split
     ·exact h0
     ·have hi:=qqt (b:=b) (most:=most) (l:=(jP b a).tail) h;split
      ·rename_i out' c' he;rw [he] at hi;exact zT hi.1 hi.2
      ·rename_i out' he;rw [he] at hi;exact qrS hi
theorem qh4 (b:List UInt8):(qS b).length≤b.length:=by
 have h1:=qrS (b:=(zi b).l) (sz:=(qG b).siz) (most:=(qG b).ents) (n:=(zi b).l.length+1) (out:=[]) (a:=(qG b).arr) (c:=0) ⟨by simp,by simp⟩;refine zT h1 ?_;simp [zi];omega
def X2 (f:List UInt8→List UInt8) (n:List UInt8):List D:=.str n :: (Enc.cells (jm n).1 ++ [.vptr (Zb (f n)),qak (f n)])
theorem qi6 (f:List UInt8→List UInt8) (n:List UInt8):(X2 f n).length = 22:=by simp [X2]
theorem qlQ (f:List UInt8→List UInt8) (n:List UInt8):(X2 f n).all idFree = true:=by
 have:=qfe (f n);simp [X2,qak,idFree]
def Qz (f:List UInt8→List UInt8) (l:List (List UInt8)):List D:=(l.map (X2 f)).flatten
theorem qlR (f:List UInt8→List UInt8) (l:List (List UInt8)) (n:List UInt8):Qz f (l ++ [n]) = Qz f l ++ X2 f n:=by simp [Qz]
theorem qi7 (f:List UInt8→List UInt8) (l:List (List UInt8)):(Qz f l).length = l.length * 22:=by
 induction l with
 | nil=>rfl
 | cons n l ih=>simp only [Qz,List.map_cons,qeG,zz,vn,qi6] at ih ⊢;omega
theorem qv9 (f:List UInt8→List UInt8) (l:List (List UInt8)):(Qz f l).all idFree = true:=by
 induction l with
 | nil=>rfl
 | cons n l ih =>
  simp only [Qz,List.map_cons,qeG,List.all_append,qlQ,qab] at ih ⊢;exact ih
theorem qhZ (l:List (List UInt8)):(qR l).all idFree = true:=by
 rw [qeH];intro x hx;obtain ⟨c,_,rfl⟩:=List.mem_map.1 hx;rfl
def Vv (l:List (Sl UInt8)):List D:=l.map fun s=>(.vsl s.nil (qd s.l) s.l.length)
theorem qvv {H:qe} {k k2:Nat} {d d2:D} {cs cs2:List D} {L L2:List Nat} (h:RowA H k d cs L) (h2:RowA H k2 d2 cs2 L2) (hf:cs.all idFree = true) (hf2:cs2.all idFree = true) (hn:cs = []→d = .vsl true [] 0) (zX:cs2 = []→d2 = .vsl true [] 0) {n n2:Nat} (hl:cs.length = n * k) (XP:cs2.length = n2 * k2) (hk:0 < k) (Ja:0 < k2) :
  jE true 0 H (.tup [d,d2]) = some (.tup [.vsl (decide (n = 0)) cs n,.vsl (decide (n2 = 0)) cs2 n2],[]):=by
 have hfL:=Z3 hf;have hfL2:=Z3 hf2
 have own:∀ {k r m n:Nat} {cs:List D},cs.length = m * k→cs.length = n * k→0 < k→(cs = []→D.osl r cs.length 0 m k = .vsl true [] 0)→m = n∧¬ n = 0∧List.take (n * k) cs = cs:=by
  intro k r m n cs h1 h2 h3 h4;have:m = n:=Nat.eq_of_mul_eq_mul_right h3 (by omega);refine ⟨this,fun h0=>?_,qP (by omega)⟩;have hc:cs = []:=List.length_eq_zero_iff.1 (by rw [h2,h0,Nat.zero_mul]);have:=h4 hc;cases this
 have nil:∀ {k n:Nat},([]:List D).length = n * k→0 < k→n = 0:=by
  intro k n h1 h2;rcases Nat.mul_eq_zero.1 (show n * k = 0 from h1.symm) with h | h
  ·exact h
  ·omega
 rcases h with ⟨rfl,rfl,rfl⟩ | ⟨r,m,rfl,e1,e2,rfl⟩
 ·have hz:=nil hl hk;subst hz;rcases h2 with ⟨rfl,rfl,rfl⟩ | ⟨r2,m2,rfl,f1,f2,rfl⟩
  ·have kZ:=nil XP Ja;subst kZ;simp [jE,KX]
  ·obtain ⟨g1,g2,g3⟩:=own f1 XP Ja zX;subst g1;simp [-qf,jE,KX,f2,f1,g2,g3,hfL2]
 ·obtain ⟨j1,j2,j3⟩:=own e1 hl hk hn;subst j1;rcases h2 with ⟨rfl,rfl,rfl⟩ | ⟨r2,m2,rfl,f1,f2,rfl⟩
  ·have kZ:=nil XP Ja;subst kZ;simp [-qf,jE,KX,e2,e1,j2,j3,hfL]
  ·obtain ⟨g1,g2,g3⟩:=own f1 XP Ja zX;subst g1;simp [-qf,jE,KX,f2,f1,g2,g3,hfL2,e2,e1,j2,j3,hfL]
structure RdI (f:List UInt8→List UInt8) (N:List (List UInt8)) (i:Nat) (K:qe) (oD hD:D) (Lo Lh:List Nat):Prop where
 oR:RowA K 22 oD (Qz f ((N.take i).filter (jH f zj))) Lo
 hR:RowA K 1 hD (qR ((N.take i).filter (jF f zj))) Lh
 on:(Qz f ((N.take i).filter (jH f zj)) = []→oD = .vsl true [] 0)
 hn:(qR ((N.take i).filter (jF f zj)) = []→hD = .vsl true [] 0)
 dj:∀ j,j∈Lo→j ∉ Lh
section
variable {f:List UInt8→List UInt8} {N:List (List UInt8)} {i:Nat} {K:qe} {oD hD:D} {Lo Lh:List Nat} {n:List UInt8}
theorem RdI.skip (I:RdI f N i K oD hD Lo Lh) (ht:N.take (i+1) = N.take i ++ [n]) (h1:jH f zj n = false) (h2:jF f zj n = false) {T:qe} (x:Ext [] K T):RdI f N (i+1) T oD hD Lo Lh:=by
 have e1:(N.take (i+1)).filter (jH f zj) = (N.take i).filter (jH f zj):=by rw [ht,List.filter_append];simp [h1]
 have e2:(N.take (i+1)).filter (jF f zj) = (N.take i).filter (jF f zj):=by rw [ht,List.filter_append];simp [h2]
 exact ⟨by rw [e1];exact I.oR.ext x (fun _ _=>by simp),by rw [e2];exact I.hR.ext x (fun _ _=>by simp),by rw [e1];exact I.on,by rw [e2];exact I.hn,I.dj⟩
theorem RdI.other (I:RdI f N i K oD hD Lo Lh) (ht:N.take (i+1) = N.take i ++ [n]) (h1:jH f zj n = false) (h2:jF f zj n = true) {K2 T:qe} (x2:Ext [] K K2) {hD':D} {Lh':List Nat}
  (hR:RowA T 1 hD' (qR ((N.take i).filter (jF f zj)) ++ [.str n]) Lh') (x:Ext Lh K2 T) (nl:NewL Lh Lh' K2.length):RdI f N (i+1) T oD hD' Lo Lh':=by
 have e1:(N.take (i+1)).filter (jH f zj) = (N.take i).filter (jH f zj):=by rw [ht,List.filter_append];simp [h1]
 have e2:(N.take (i+1)).filter (jF f zj) = (N.take i).filter (jF f zj) ++ [n]:=by rw [ht,List.filter_append];simp [h2]
 have e3:qR ((N.take i).filter (jF f zj) ++ [n]) = qR ((N.take i).filter (jF f zj)) ++ [.str n]:=by simp [qR]
 refine ⟨by rw [e1];exact (I.oR.ext x2 (fun _ _=>by simp)).ext x I.dj,by rw [e2,e3];exact hR,by rw [e1];exact I.on,by rw [e2,e3];simp,fun j hj hc=>?_⟩;rcases nl j hc with h | h
 ·exact I.dj j hj h
 ·have:=I.oR.lt hj;have:=x2.len;omega
theorem RdI.found (I:RdI f N i K oD hD Lo Lh) (ht:N.take (i+1) = N.take i ++ [n]) (h1:jH f zj n = true) (h2:jF f zj n = false) {K2 T:qe} (x2:Ext [] K K2) {oD':D} {Lo':List Nat}
  (hR:RowA T 22 oD' (Qz f ((N.take i).filter (jH f zj)) ++ X2 f n) Lo') (x:Ext Lo K2 T) (nl:NewL Lo Lo' K2.length):RdI f N (i+1) T oD' hD Lo' Lh:=by
 have e1:(N.take (i+1)).filter (jH f zj) = (N.take i).filter (jH f zj) ++ [n]:=by rw [ht,List.filter_append];simp [h1]
 have e2:(N.take (i+1)).filter (jF f zj) = (N.take i).filter (jF f zj):=by rw [ht,List.filter_append];simp [h2]
 refine ⟨by rw [e1,qlR];exact hR,by rw [e2];exact (I.hR.ext x2 (fun _ _=>by simp)).ext x (fun j hj hc=>I.dj j hc hj),by rw [e1,qlR];simp [X2],by rw [e2];exact I.hn,fun j hj hc=>?_⟩;rcases nl j hj with h | h
 ·exact I.dj j h hc
 ·have:=I.hR.lt hc;have:=x2.len;omega
end
theorem qv8 (f:List UInt8→List UInt8) (n:List UInt8):X2 f n = .str n :: (Enc.cells (jm n).1 ++ [.vptr (Zb (f n)),qak (f n)]):=rfl
set_option maxHeartbeats 8000000 in
set_option maxRecDepth 10000 in
theorem qvN [MaxL] (f:List UInt8→List UInt8) (N:List (List UInt8)) (nN nB:Bool) (hnN:nN = true→N = []) (Bs:List (Sl UInt8)) (hB:Bs.map (·.l) = N.map f) (hnB:nB = true→N = []) (hN:N.length≤1000) (hn:∀ n,n∈N→n.length≤1000∧(f n).length≤1000000) :
  call cx 10 [.vsl nN (qR N) N.length,.vsl nB (Vv Bs) N.length] [] = some (.tup [.vsl (decide ((N.filter (jH f zj)).length = 0)) (Qz f (N.filter (jH f zj))) (N.filter (jH f zj)).length,.vsl (decide ((N.filter (jF f zj)).length = 0)) (qR (N.filter (jF f zj))) (N.filter (jF f zj)).length],[]):=by
 obtain ⟨RES,hRES⟩:=ql (D.tup [.vsl (decide ((N.filter (jH f zj)).length = 0)) (Qz f (N.filter (jH f zj))) (N.filter (jH f zj)).length,.vsl (decide ((N.filter (jF f zj)).length = 0)) (qR (N.filter (jF f zj))) (N.filter (jF f zj)).length]);rw [hRES];refine qy Tryz.func10 rfl ⟨rfl,rfl⟩ ?_;simp [Tryz.f10,-qf,-qn,-qs,-qT];refine Run.loopThen (fun (i:Nat) e K=>i≤N.length∧qi e 0 = some (.vsl nN (qR N) N.length)∧qi e 1 = some (.vsl nB (Vv Bs) N.length)∧qi e 8 = some (.int .i64 i)∧∃ oD hD Lo Lh,qi e 6 = some oD∧qi e 7 = some hD∧RdI f N i K oD hD Lo Lh) (fun i=>N.length - i) 0 ?_ ?_
 ·exact ⟨by omega,by simp,by simp,by simp,.vsl true [] 0,.vsl true [] 0,[],[],by simp,by simp,RowA.nil _ _,RowA.nil _ _,fun _=>rfl,fun _=>rfl,fun j hj=>by simp at hj⟩
 rintro i e K ⟨hi,p0,p1,p8,oD,hD,Lo,Lh,p6,p7,I⟩;by_cases qg:i < N.length
 ·have qo:=zI qg;have hw:=qx ((i:Int)+1) ((i+1:Nat):Int)
  have vj:nN = false:=by
   cases hq:nN with
   | false=>rfl
   | true=>rw [hnN hq] at qg;simp at qg
  have hnf2:nB = false:=by
   cases hq:nB with
   | false=>rfl
   | true=>rw [hnB hq] at qg;simp at qg
  subst vj;subst hnf2;have KJ:Bs.length = N.length:=by have:=congrArg List.length hB;simpa using this
  obtain ⟨n,hnd⟩:=ql (N[i]);obtain ⟨s,hsd⟩:=ql (Bs[i]'(by omega))
  have kA:s.l = f n:=by
   have h1:=congrArg (fun l=>l[i]?) hB;simp only [VX,zn qg,zn (show i < Bs.length by omega),jj,qw] at h1;rw [← hsd,← hnd];exact h1
  have qI:List.drop i (qR N) = .str n :: qR (N.drop (i+1)):=by
   unfold qR;rw [← List.map_drop,zU qg,hnd];rfl
  have hatB:List.drop i (Vv Bs) = (.vsl s.nil (qd s.l) s.l.length) :: Vv (Bs.drop (i+1)):=by
   unfold Vv;rw [← List.map_drop,zU (show i < Bs.length by omega),hsd];rfl
  obtain ⟨hnl1,Jd⟩:=hn n (hnd ▸ v6 qg);have XG:N.take (i+1) = N.take i ++ [n]:=by rw [← hnd];exact VV qg
  have JN:=qlC n (by omega);obtain ⟨inf,Q8⟩:∃ x,x = (jm n).1:=⟨_,rfl⟩;rw [← Q8] at JN;obtain ⟨cr,hcr⟩:∃ cr:List D,(Enc.cells inf:List D) = .int .i64 inf.kind :: cr:=⟨_,rfl⟩;rw [hcr] at JN
  have lcr:cr.length = 18:=by
   have:(Enc.cells inf:List D).length = 19:=(by simp);rw [hcr] at this;simpa using this
  have fcr:cr.all idFree = true:=by
   have:=Enc.free inf;rw [hcr] at this;simpa [idFree] using this
  have ccr:=KR fcr;have fcrL:=Z3 fcr;have tcr:List.take 18 cr = cr:=qP (by omega);have dcr:List.drop 18 cr = []:=List.drop_of_length_le (by omega);obtain ⟨Ka,kw⟩:=ql (qs K (.int .i64 inf.kind :: cr));have xa:=jD kw;have ga:=kh kw;have qb2:=qvz s (by rw [kA];omega);rw [kA] at qb2;cases hp:(jm n).2 with
  | false =>
   rw [hp] at JN;simp [-qf,-qn,-qs,-qT,p0,p1,p6,p7,p8,qo,qI,JN,zA,qc5,fcrL,ccr,lcr,kw,hw];exact ⟨i+1,by omega,by omega,by omega,Lo,Lh,I.skip XG (by simp [jH,hp]) (by simp [jF,hp]) xa⟩
  | true =>
   rw [hp] at JN;by_cases h4:inf.kind = 4
   ·have Xo:(inf.kind == 4) = true:=(by rw [h4];rfl);have h4p:=eq_true h4;simp [-qf,-qn,-qs,-qT,p0,p1,p6,p7,p8,qo,qI,JN,zA,qc5,fcrL,ccr,lcr,kw,ga,hw,Xo];rw [Q8] at h4;exact ⟨i+1,by omega,by omega,by omega,Lo,Lh,I.skip XG (by simp [jH,h4]) (by simp [jF,h4]) xa⟩
   ·have Xo:(inf.kind == 4) = false:=(by simp [h4]);have h4p:=eq_false h4
    have hopen2:call cx 36 [(.vsl s.nil (qd s.l) s.l.length)] [] = some (.tup [if zy (f n) = 0 then .vptr (Zb (f n)) else .nilp,.int .i64 (zy (f n):Nat)],[]):=by
     have e:(qd s.l:List D) = qd (f n):=(by rw [kA]);have e2:s.l.length = (f n).length:=(by rw [kA]);rw [e,e2];exact qb2
    by_cases hc:zy (f n) = 0
    ·rw [if_pos hc,hc] at hopen2;have hopen3:call cx 36 [(.vsl s.nil (qd s.l) s.l.length)] [] = some (.tup [.vptr (Zb (f n)),.int .i64 0],[]):=hopen2;have hrecs:=qvq (f n) (by omega) (by have:=qh4 (f n);omega);have XU:=qfe (f n);have hfl2:=qi6 f n;have hff2:=qlQ f n;have hfc:=qv8 f n;rw [← Q8,hcr] at hfc;simp only [qak] at hrecs hfc;generalize Zb (f n) = F at *;generalize qu (X5 (f n)) = E at *;generalize decide (X5 (f n) = []) = nE at *;generalize (X5 (f n)).length = lE at *;have e19:List.drop 19 (cr ++ [D.nilp,.vsl true [] 0]) = [.vsl true [] 0]:=(by rw [show 19 = 18+1 by omega,← jV,kE lcr];rfl);have t19:List.take 19 (cr ++ [D.vptr F,.vsl true [] 0]) = cr ++ [D.vptr F]:=(by rw [show 19 = cr.length+1 by omega,List.take_length_add_append];rfl);have e20:List.drop 20 (cr ++ [D.vptr F,.vsl true [] 0]) = []:=(by rw [show 20 = 18+2 by omega,← jV,kE lcr];rfl);obtain ⟨fc,hfcd⟩:∃ c:List D,c = .str n :: .int .i64 inf.kind :: (cr ++ [.vptr F,.vsl nE E lE]):=⟨_,rfl⟩;have hfc2:X2 f n = fc:=(by rw [hfcd];exact hfc);rw [hfc2] at hfl2 hff2;have tfc:List.take 22 fc = fc:=qP (by omega);have cfc:=KR hff2;have ifc:=Xy hff2;obtain ⟨Kb,QX⟩:=ql (qs Ka fc);have xb:=jD QX;have gb:qf Kb Ka.length = some fc:=(by rw [← QX,zA]);have x2:=xa.trans xb (NewL.refl _ _);have hfil:(N.filter (jH f zj)).length≤1000:=zT (List.length_filter_le _ _) hN;have hfil2:((N.take i).filter (jH f zj)).length≤1000:=zT (List.length_filter_le _ _) (by rw [jU];omega);have Xg:=qi7 f ((N.take i).filter (jH f zj));obtain ⟨oD',Kc,Lo',VM,hRe,xe,ne⟩:=(I.oR.ext x2 (fun _ _=>by simp)).append (P:=Tryz.prog) (st:=46) (xt:=46) (e:=91) (x:=.osl Ka.length 22 0 1 22) (xs:=fc) (m:=1) (by simp) (by simp) (by simp [-qf,gb,hfl2,tfc]) (by simp) (by omega) (by rw [hfl2]) (by omega) (by rw [Xg];simp [qD];omega) (by rw [Xg];simp [qD];omega);rw [← hfc2] at hRe;simp [-qf,-qn,-qs,-qT,p0,p1,p6,p7,p8,qo,qI,hatB,JN,zA,qc5,fcrL,ccr,lcr,kw,ga,hw,Xo,hopen3,hrecs,tcr,e19,t19,e20,← hfcd,hfl2,ifc,QX,VM];exact ⟨i+1,by omega,by omega,by omega,Lo',Lh,I.found XG (by simp [jH,hp,← Q8,h4,zj,hc]) (by simp [jF,hp,← Q8,h4,zj,hc]) x2 hRe xe ne⟩
    ·rw [if_neg hc] at hopen2;have VJ:((zy (f n):Int) != 0) = true:=(by simp;omega);obtain ⟨Kb,QX⟩:=ql (qs Ka [.str n]);have xb:=jD QX;have gb:qf Kb Ka.length = some [.str n]:=(by rw [← QX,zA]);have x2:=xa.trans xb (NewL.refl _ _);have hfil2:((N.take i).filter (jF f zj)).length≤1000:=zT (List.length_filter_le _ _) (by rw [jU];omega);obtain ⟨hD',Kc,Lh',VM,hRe,xe,ne⟩:=(I.hR.ext x2 (fun _ _=>by simp)).append (P:=Tryz.prog) (st:=28) (xt:=28) (e:=9) (x:=.osl Ka.length 1 0 1 1) (xs:=[.str n]) (m:=1) (by simp) (by simp) (by simp [-qf,gb]) (by simp) (by omega) (by simp) (by omega) (by simp [qD];omega) (by simp [qD];omega);simp [-qf,-qn,-qs,-qT,p0,p1,p6,p7,p8,qo,qI,hatB,JN,zA,qc5,fcrL,ccr,lcr,kw,ga,hw,Xo,hopen2,VJ,QX,VM];exact ⟨i+1,by omega,by omega,by omega,Lo,Lh',I.other XG (by simp [jH,hp,← Q8,h4,zj,hc]) (by simp [jF,hp,← Q8,h4,zj,hc]) x2 hRe xe ne⟩
 ·have qo:=zL qg;have Q9:i = N.length:=by omega
  subst Q9;have o1:=I.oR;have o2:=I.hR;have o3:=I.on;have o4:=I.hn;rw [List.take_length] at o1 o2 o3 o4;have J4:=qvv (n:=(N.filter (jH f zj)).length) (n2:=(N.filter (jF f zj)).length) o1 o2 (qv9 _ _) (qhZ _) o3 o4 (qi7 _ _) (by simp [qR]) (by omega) (by omega);simp [-qf,-qn,-qs,-qT,p0,p1,p6,p7,p8,qo,-jE];rw [← hRES];exact J4
end Go.Ev.S
