import Derived.Test.YtgehibgkabhcaaaGreatDoorC6
namespace Go.Ev.S
open Go Go.Proofs Go.Ev
structure SdI (H:qe) (q d:Nat) (s:Fs) (v:FSv) (N:List (List UInt8)) (i:Nat) (K:qe) (dN dA:D) (LN LA:List Nat) (Bs:List (Sl UInt8)):Prop where
 ext:Ext [] H K
 dd:qf K d = some [dN,dA]
 nd:qf K H.length = some [.vsl true [] 0,.vsl true [] 0]
 nR:RowA K 1 dN (qR (N.take i)) LN
 aR:RowA K 1 dA (Vv Bs) LA
 bs:Bs.map (·.l) = (N.take i).map (ji s)
 nN:∀ j,j∈LN→H.length < j∧j≠d∧j ∉ LA
 aN:∀ j,j∈LA→H.length < j∧j≠d
 dn:H.length < d
def sdI (H:qe) (q d:Nat) (s:Fs) (v:FSv) (N:List (List UInt8)) (nl:Bool) (i:Nat) (e:qr) (K:qe):Prop :=
 i≤N.length∧qi e 0 = some (.optr q 5 0)∧qi e 2 = some (.optr H.length 2 0)∧qi e 3 = some (.optr d 2 0)∧qi e 4 = some (.vsl nl (qR N) N.length)∧qi e 5 = some (.int .i64 i)∧∃ dN dA LN LA Bs,SdI H q d s v N i K dN dA LN LA Bs
set_option maxHeartbeats 8000000 in
set_option maxRecDepth 10000 in
theorem qu4 [MaxL] {H:qe} {q:Nat} {s:Fs} {v:FSv} (W:FSw H q s v) (hoff:s.off = false) (hn:s.nodes.length < 1000) (hb:∀ n,n∈s.nodes→n.b.l.length≤1000000) (Q7:∀ n,n∈Qh s→n.length≤1000) :
  ∃ T dN dA LN LA Bs,call cx 8 [.optr q 5 0] H = some (.agg [dN,dA],T)∧Ext [] H T∧RowA T 1 dN (qR (vF (Qh s))) LN∧RowA T 1 dA (Vv Bs) LA∧Bs.map (·.l) = (vF (Qh s)).map (ji s)∧(∀ j,j∈LN→H.length < j∧j ∉ LA)∧(∀ j,j∈LA→H.length < j):=by
 suffices hs:∃ r,call cx 8 [.optr q 5 0] H = some r∧∃ (T:qe) (dN dA:D) (LN LA:List Nat) (Bs:List (Sl UInt8)),r = (.agg [dN,dA],T)∧Ext [] H T∧RowA T 1 dN (qR (vF (Qh s))) LN∧RowA T 1 dA (Vv Bs) LA∧Bs.map (·.l) = (vF (Qh s)).map (ji s)∧(∀ j,j∈LN→H.length < j∧j ∉ LA)∧(∀ j,j∈LA→H.length < j) by
  obtain ⟨r,hc,T,dN,dA,LN,LA,Bs,rfl,h1⟩:=hs;exact ⟨T,dN,dA,LN,LA,Bs,hc,h1⟩
 refine Zh (X:=cx) (f:=8) _ Tryz.func8 rfl ⟨rfl,rfl⟩ ?_;obtain ⟨K1,e1⟩:=ql (qs H [.vsl true [] 0,.vsl true [] 0]);obtain ⟨K2,e2⟩:=ql (qs K1 [.vsl true [] 0,.vsl true [] 0]);have x1:=jD e1;have x2:=jD e2;have g1:=kh e1;have l1:K1.length = H.length+1:=by rw [← e1,zW]
 obtain ⟨d,hd⟩:=ql (K1.length);have g2:qf K2 d = some [.vsl true [] 0,.vsl true [] 0]:=by rw [← e2,← hd,zA]
 have W2:=(W.ext x1 (fun _ _=>by simp)).ext x2 (fun _ _=>by simp);obtain ⟨K3,nl,qcB,x3,zF⟩:=qrq W2 (by omega);obtain ⟨N,hN⟩:∃ N,N = vF (Qh s):=⟨_,rfl⟩;have Vn:(Qh s).length = N.length:=by rw [hN];simp
 have hNb:N.length≤1000:=by
  rw [← Vn];unfold Qh;rw [hoff];simp only [QE,if_false,List.length_map];exact zT (List.length_filter_le _ _) (by omega)
 have hNn:∀ n,n∈N→n.length≤1000:=fun n h=>Q7 n (sortL_mem.1 (hN ▸ h));rw [← hN,Vn] at qcB;rw [← hN];simp [-qf,-qn,-qs,-qT,Tryz.f8,e1,e2,hd,qcB];refine KZ (sdI H q d s v N nl) (fun i=>N.length - i) 0 (fun ex e K=>ex = .exit 0∧sdI H q d s v N nl N.length e K) ?_ ?_ ?_
 ·exact ⟨vV _,by simp,by simp,by simp,by simp,by simp,.vsl true [] 0,.vsl true [] 0,[],[],[],(x1.trans x2 (NewL.refl _ _)).trans x3 (NewL.refl _ _),x3.get g2 (by simp),x3.get (x2.get g1 (by simp)) (by simp),RowA.nil _ _,RowA.nil _ _,rfl,fun j hj=>by simp at hj,fun j hj=>by simp at hj,by omega⟩
 ·rintro i e K ⟨hi,p0,p2,p3,p4,p5,dN,dA,LN,LA,Bs,I⟩;by_cases qg:i < N.length
  ·have qo:=zI qg;have hw:=qx ((i:Int)+1) ((i+1:Nat):Int)
   have vj:nl = false:=by
    cases zX:nl with
    | false=>rfl
    | true =>
     have h0:=zF zX;rw [h0] at Vn;simp at Vn;omega
   subst vj;obtain ⟨n,hnd⟩:=ql (N[i])
   have qI:List.drop i (qR N) = .str n :: qR (N.drop (i+1)):=by
    unfold qR;rw [← List.map_drop,zU qg,hnd];rfl
   have hnl1:n.length≤1000:=hNn n (hnd ▸ v6 qg);have XG:N.take (i+1) = N.take i ++ [n]:=(by rw [← hnd];exact VV qg);have WK:=W.ext I.ext (fun _ _=>by simp);obtain ⟨Ka,nb,jB,xa,ZY⟩:=qru WK (by omega) hb n (by omega);obtain ⟨A,hA⟩:∃ A,A = ji s n:=⟨_,rfl⟩;rw [← hA] at jB ZY
   have KJ:Bs.length = i:=by
    have:=congrArg List.length I.bs;simp at this;omega
   have da:=xa.get I.dd (by simp);have na:=xa.get I.nd (by simp);have b1:qs [] [D.str n] = [some [.str n]]:=rfl;have b2:qs [] [D.vsl nb (qd A) A.length] = [some [.vsl nb (qd A) A.length]]:=rfl;obtain ⟨dN',Kc,LN',VM,hRe,xe,ne⟩:=(I.nR.ext xa (fun _ _=>by simp)).append (P:=Tryz.prog) (st:=28) (xt:=28) (e:=9) (x:=.vsl false [.str n] 1) (xs:=[.str n]) (m:=1) (by simp) (by simp) (by simp) (by simp) (by omega) (by simp) (by omega) (by simp [qD,qR];omega) (by simp [qD,qR];omega);obtain ⟨rN,mN,edN,-,gRN,eLN⟩:=hRe.own (by simp);subst edN;obtain ⟨lN,hlN⟩:=ql ((qR (N.take i) ++ [D.str n]).length);rw [hlN] at VM hRe;have hdLN:d ∉ LN:=fun hc=>(I.nN d hc).2.1 rfl;have dc:=xe.get da hdLN;have lK:=xa.len;have hKl:∀ j,j∈LA→j < K.length:=fun j hj=>I.aR.lt hj;have aRc:=(I.aR.ext xa (fun _ _=>by simp)).ext xe (fun j hj hc=>(I.nN j hc).2.2 hj);obtain ⟨dA',Kf,LA',hAe2,hRe2,xf,nf⟩:=aRc.append (P:=Tryz.prog) (st:=39) (xt:=39) (e:=29) (x:=.vsl false [.vsl nb (qd A) A.length] 1) (xs:=[.vsl nb (qd A) A.length]) (m:=1) (by simp) (by simp) (by simp) (by simp) (by omega) (by simp) (by omega) (by simp [qD,Vv];omega) (by simp [qD,Vv];omega);obtain ⟨rA,mA,edA,-,gRA,eLA⟩:=hRe2.own (by simp);subst edA;obtain ⟨lA,hlA⟩:=ql ((Vv Bs ++ [D.vsl nb (qd A) A.length]).length);rw [hlA] at hAe2 hRe2;have hdLA:d ∉ LA:=fun hc=>(I.aN d hc).2 rfl;have df:=xf.get dc hdLA;obtain ⟨Kg,hKg⟩:=ql (qn Kf d [.osl rN lN 0 mN 1,dA]);have xg:=Qk hKg;have gg:=Qx hKg df;obtain ⟨Kh,hKh⟩:=ql (qn Kg d [.osl rN lN 0 mN 1,.osl rA lA 0 mA 1]);have xh:=Qk hKh;have gh:=Qx hKh gg;have hdK:d < K.length:=qA I.dd;have lc:=xe.len
   have nnd:∀ j,j∈LN'→H.length < j∧j≠d∧(j∈LN∨Ka.length≤j):=fun j hj=>by
    rcases ne j hj with h | h
    ·exact ⟨(I.nN j h).1,(I.nN j h).2.1,.inl h⟩
    ·have:=I.dn;exact ⟨by omega,by omega,.inr h⟩
   have nad:∀ j,j∈LA'→H.length < j∧j≠d∧(j∈LA∨Kc.length≤j):=fun j hj=>by
    rcases nf j hj with h | h
    ·exact ⟨(I.aN j h).1,(I.aN j h).2,.inl h⟩
    ·have:=I.dn;exact ⟨by omega,by omega,.inr h⟩
   have hNA:∀ j,j∈LN'→j ∉ LA':=fun j hj hc=>by
    have YD:=hRe.lt hj;rcases (nad j hc).2.2 with h | h
    ·rcases (nnd j hj).2.2 with h3 | h3
     ·exact (I.nN j h3).2.2 h
     ·have:=hKl j h;omega
    ·omega
   have hNA2:∀ j,j∈LN'→j ∉ LA:=fun j hj h=>by
    rcases (nnd j hj).2.2 with h3 | h3
    ·exact (I.nN j h3).2.2 h
    ·have:=hKl j h;omega
   have lf:=xf.len;have lrN:rN < Kf.length:=(by have:=qA gRN;omega);have lrA:rA < Kf.length:=qA gRA;have lg:Kg.length = Kf.length:=(by rw [← hKg,Qo]);have lh:Kh.length = Kg.length:=(by rw [← hKh,Qo]);have hrNA:rN≠rA:=fun h=>hNA rN (by rw [eLN];simp) (by rw [eLA,h];simp);have hrNd:rN≠d:=(nnd rN (by rw [eLN];simp)).2.1;have hrAd:rA≠d:=(nad rA (by rw [eLA];simp)).2.1;simp [-qf,-qn,-qs,-qT,p0,p2,p3,p4,p5,qo,qI,jB,da,b1,b2,VM,dc,hAe2,df,hKg,gg,hKh,hw,lrN,lrA,lg,lh,lc,lf];refine ⟨i+1,by omega,by omega,by simp,by simp,by simp,by simp,by simp,.osl rN lN 0 mN 1,.osl rA lA 0 mA 1,LN',LA',Bs ++ [⟨nb,A,ZY⟩],?_,gh,?_,?_,?_,?_,fun j hj=>⟨(nnd j hj).1,(nnd j hj).2.1,hNA j hj⟩,fun j hj=>⟨(nad j hj).1,(nad j hj).2.1⟩,I.dn⟩
   ·refine (((I.ext.trans xa (NewL.refl _ _)).trans xe fun j hj=>.inr (Nat.le_of_lt (I.nN j hj).1)).trans xf fun j hj=>.inr (Nat.le_of_lt (I.aN j hj).1)).trans (xg.trans xh (NewL.refl _ _)) fun j hj=>.inr ?_;rw [List.mem_singleton.1 hj];exact Nat.le_of_lt I.dn
   ·have h0:H.length ∉ LN:=fun hc=>by have:=(I.nN _ hc).1;omega
    have h1:H.length ∉ LA:=fun hc=>by have:=(I.aN _ hc).1;omega
    have h2:H.length ∉ [d]:=fun hc=>by have:=List.mem_singleton.1 hc;have:=I.dn;omega
    exact xh.get (xg.get (xf.get (xe.get na h0) h1) h2) h2
   ·have e3:qR (N.take (i+1)) = qR (N.take i) ++ [.str n]:=(by rw [XG];simp [qR]);rw [e3];exact ((hRe.ext xf hNA2).ext xg fun j hj hc=>(nnd j hj).2.1 (List.mem_singleton.1 hc)).ext xh fun j hj hc=>(nnd j hj).2.1 (List.mem_singleton.1 hc)
   ·have e3:Vv (Bs ++ [⟨nb,A,ZY⟩]) = Vv Bs ++ [.vsl nb (qd A) A.length]:=(by simp [Vv]);rw [e3];exact (hRe2.ext xg fun j hj hc=>(nad j hj).2.1 (List.mem_singleton.1 hc)).ext xh fun j hj hc=>(nad j hj).2.1 (List.mem_singleton.1 hc)
   ·rw [XG,List.map_append,List.map_append,I.bs];simp [hA]
  ·have qo:=zL qg;have Q9:i = N.length:=(by omega);subst Q9;simp [-qf,-qn,-qs,-qT,p0,p2,p3,p4,p5,qo];exact ⟨qE _,by simp,by simp,by simp,by simp,by simp,dN,dA,LN,LA,Bs,I⟩
 ·rintro ex e K ⟨rfl,-,p0,p2,p3,p4,p5,dN,dA,LN,LA,Bs,I⟩;have h1:=I.dd;have h2:=I.nd
  have cl:∀ {d:D} {cs:List D} {L:List Nat},RowA K 1 d cs L→closed K.length d = true:=fun {d cs L} h=>by
   rcases h with ⟨rfl,_,_⟩ | ⟨r,n,rfl,_,h3,_⟩
   ·simp [closed]
   ·simp [closed,qA h3]
  have hcN:=cl I.nR;have hcA:=cl I.aR;obtain ⟨T,hKT⟩:=ql (qn K H.length [dN,dA]);have xT:=Qk hKT;have gT:=Qx hKT h2;simp [-qf,-qn,-qs,-qT,p2,p3,h1,h2,hcN,hcA,hKT,gT];refine ⟨T,dN,dA,⟨⟨rfl,rfl⟩,rfl⟩,?_,LN,?_,LA,Bs,?_,?_,fun j hj=>⟨(I.nN j hj).1,(I.nN j hj).2.2⟩,fun j hj=>(I.aN j hj).1⟩
  ·exact I.ext.trans xT fun j hj=>.inr (by rw [List.mem_singleton.1 hj];exact qE _)
  ·have:=I.nR.ext xT fun j hj hc=>by have:=(I.nN j hj).1;have:=List.mem_singleton.1 hc;omega
   rw [List.take_length] at this;exact this
  ·exact I.aR.ext xT fun j hj hc=>by have:=(I.aN j hj).1;have:=List.mem_singleton.1 hc;omega
  ·have:=I.bs;rw [List.take_length] at this;exact this
structure PgI (H:qe) (q:Nat) (b:List UInt8) (k:Nat) (K:qe) (dG:D) (LG g:List Nat) (last:Nat):Prop where
 ext:Ext [q] H K
 qq:qf K q = some (KK b dG (.bool false))
 gR:RowA K 1 dG (jQ g) LG
 gn:g = []→dG = .vsl true [] 0
 gN:∀ j,j∈LG→H.length≤j
 gl:g.length≤k
 ge:g ++ JE (zi b).l (qG b) ((qS b).drop k) k last = Qs b
def pgI (H:qe) (q:Nat) (b:List UInt8) (k:Nat) (e:qr) (K:qe):Prop :=
 k≤(qS b).length∧qi e 0 = some (.optr q 5 0)∧qi e 16 = some (.int .i64 (qS b).length)∧qi e 17 = some (.int .i64 k)∧∃ dG LG g last,qi e 3 = some (.int .u64 (last:Nat))∧PgI H q b k K dG LG g last
set_option maxHeartbeats 8000000 in
set_option maxRecDepth 10000 in
theorem qyA [MaxL] {H:qe} {q:Nat} {b:List UInt8} (hq:qf H q = some (XY b)) (hb:b.length≤1000000):∃ T,call cx 44 [.optr q 5 0] H = some (XA (Qs b),T)∧Ext [q] H T:=by
 suffices hs:∃ r,call cx 44 [.optr q 5 0] H = some r∧∃ T:qe,r = (XA (Qs b),T)∧Ext [q] H T by
  obtain ⟨r,hc,T,rfl,h1⟩:=hs;exact ⟨T,hc,h1⟩
 rw [q0H] at hq;have hl:(qS b).length≤1000000:=zT (qh4 b) hb;refine Zh (X:=cx) (f:=44) _ Tryz.func44 rfl ⟨rfl,rfl⟩ ?_;have kO:=hq;simp only [KK,Z7] at kO;have jp:zf Tryz.prog 96 (.vsl (decide (qS b = [])) (qK (qS b)) (qS b).length) = some (.int .i64 (qS b).length):=by simp
 simp [-qf,-qn,-qs,-qT,-zf,Tryz.f44,kO,jp];refine KZ (pgI H q b) (fun k=>(qS b).length - k) 0 (fun ex e K=>ex = .exit 0∧pgI H q b (qS b).length e K) ?_ ?_ ?_
 ·exact ⟨vV _,by simp,by simp,by simp,.vsl true [] 0,[],[],0,by simp,Ext.refl _ _,hq,RowA.nil _ _,fun _=>rfl,fun j hj=>by simp at hj,by simp,by simp [Qs]⟩
 ·rintro k e K ⟨hk,p0,p16,p17,dG,LG,g,last,p3,I⟩;by_cases qg:k < (qS b).length
  ·have qo:(k:Int) < ((qS b).length:Int):=(by omega);have hw:=qx ((k:Int)+1) ((k+1:Nat):Int);obtain ⟨Ka,VB,xa⟩:=qyp I.qq qg hl hb (x:=(k:Int)) rfl;have KH:=qfh (zi b).l (qG b) (qS b)[k];have JC:=qfi (zi b).l (qG b) (qS b)[k];have hE:=I.ge;rw [zU qg,JE] at hE;have qa:=xa.get I.qq (by simp);have hqH:q < H.length:=qA hq;have hqL:q ∉ LG:=fun hc=>by have:=I.gN q hc;omega
   have lK:=I.ext.len;generalize (qS b)[k] = y at *;have qk:=I.qq;simp only [KK,Z7] at qk;obtain ⟨Kz,hKz⟩:=ql (qs Ka ki);have xz:=jD hKz;have gz:=kh hKz;simp only [ki] at hKz gz;by_cases hc:ka (zi b).l (qG b) y = 0
   ·obtain ⟨r,Vf⟩:=qmf hc;rw [hc] at VB;rw [Vf] at VB KH JC;have QK:r.length = 19:=(by simpa using KH);have Zr:idFree.idFreeL r = true:=(by simpa [idFree.idFreeL,idFree] using JC);have hrs:=zsh Zr;have Qp:=Xz Zr;obtain ⟨sq,hsq⟩:=ql (qC (qB (zi b).l y) 0);rw [hsq] at hE VB;obtain ⟨Kb,QX⟩:=ql (qn Kz Ka.length (.int .u64 (sq:Nat) :: r));have xb:=Qk QX;have gb:qf Kb Ka.length = some (.int .u64 (sq:Nat) :: r):=(by rw [← QX];exact zG (qA gz));have hqn:q ∉ [Ka.length]:=fun hc=>by have:=List.mem_singleton.1 hc;have:=qA qa;omega
    have qb:=xb.get (xz.get qa (by simp)) hqn;have YM:∀ j,j∈LG→j ∉ [Ka.length]:=fun j hj hc=>by have:=List.mem_singleton.1 hc;have:=I.gR.lt hj;have:=xa.len;omega
    have gRb:=((I.gR.ext xa (fun _ _=>by simp)).ext xz (fun _ _=>by simp)).ext xb YM;have exb:Ext [q] H Kb:=((I.ext.trans xa (fun _ h=>by simp at h)).trans xz (fun _ h=>by simp at h)).trans xb fun j hj=>.inr (by have:=List.mem_singleton.1 hj;have:=xa.len;omega);simp only [KK,Z7] at qb;have hrec2:call cx 79 [.optr q 5 0,.int .i64 k] K = some (.tup [.agg (.int .u64 (sq:Nat) :: r),.int .i64 0],Ka):=VB;by_cases h2:last < sq
    ·rw [if_pos ⟨hc,h2⟩] at hE;have zH:=zI h2;have hE2:(g ++ [k]) ++ JE (zi b).l (qG b) ((qS b).drop (k+1)) (k+1) sq = Qs b:=(by rw [← hE];simp);have YF:=qfx g;have hsn:=qqx g k;have Jc:=I.gl;have b1:qs [] [D.int .i64 (k:Nat)] = [some [.int .i64 (k:Nat)]]:=rfl;obtain ⟨dG',Kc,LG',VM,hRe,xe,ne⟩:=gRb.append (P:=Tryz.prog) (st:=31) (xt:=31) (e:=3) (x:=.vsl false [.int .i64 (k:Nat)] 1) (xs:=[.int .i64 (k:Nat)]) (m:=1) (by simp) (by simp) (by simp) (by simp) (by omega) (by simp) (by omega) (by simp [qD,YF];omega) (by simp [qD,YF];omega);obtain ⟨rG,mG,edG,-,gRG,eLG⟩:=hRe.own (by simp);subst edG;obtain ⟨lG,hlG⟩:=ql ((jQ g ++ [D.int .i64 (k:Nat)]).length);rw [hlG] at VM hRe;have qc:=xe.get qb hqL;have gc:=xe.get gb (fun hc=>YM _ hc (by simp));obtain ⟨Kd,YN⟩:=ql (qn Kc q [.vptr (qY (zi b) (qG b)),.vsl (decide (qS b = [])) (qK (qS b)) (qS b).length,.int .i64 ((Vr (zi b).l (qG b)).2:Nat),.osl rG lG 0 mG 1,.bool false]);have xd:=Qk YN;have gd:qf Kd q = some (KK b (.osl rG lG 0 mG 1) (.bool false)):=(by rw [← YN];exact zG (qA qc));have lrG:rG < Kc.length:=qA gRG;have lbc:=xe.len
     have nG:∀ j,j∈LG'→H.length≤j:=fun j hj=>by
      rcases ne j hj with h | h
      ·exact I.gN j h
      ·have:=exb.len;omega
     have lab:Ka.length < Kb.length:=qA gb;simp [-qf,-qn,-qs,-qT,-zf,p0,p3,p16,p17,qo,hrec2,QK,Qp,hKz,gz,QX,gb,zH,qb,b1,VM,qc,gc,lrG,YN,hw,lbc];refine ⟨⟨xd.len,xd.get gc fun hc=>hqn (by rw [List.mem_singleton.1 hc];simp)⟩,k+1,by omega,by omega,by simp,by simp,by simp,.osl rG lG 0 mG 1,LG',g ++ [k],sq,by simp,?_,gd,?_,by simp,nG,by simp;omega,hE2⟩
     ·exact (exb.trans xe fun j hj=>.inr (I.gN j hj)).trans xd fun j hj=>.inl hj
     ·rw [hsn];exact hRe.ext xd fun j hj hc=>by have:=nG j hj;have:=List.mem_singleton.1 hc;omega
    ·rw [if_neg (fun h=>h2 h.2)] at hE;have zH:=zL h2;simp [-qf,-qn,-qs,-qT,-zf,p0,p3,p16,p17,qo,hrec2,QK,Qp,hKz,gz,QX,gb,zH,hw];exact ⟨k+1,by omega,by omega,by simp,by simp,by simp,dG,LG,g,last,by simp,exb,qb,gRb,I.gn,I.gN,by have:=I.gl;omega,hE⟩
   ·obtain ⟨r,Vf⟩:=qmg hc;rw [if_neg (fun h=>hc h.1)] at hE;rw [Vf] at VB KH JC;have QK:r.length = 19:=(by simpa using KH);have Zr:idFree.idFreeL r = true:=(by simpa [idFree.idFreeL,idFree] using JC);have hrs:=zsh Zr;have Qp:=Xz Zr;obtain ⟨Kb,QX⟩:=ql (qn Kz Ka.length (.int .u64 0 :: r));have xb:=Qk QX;have gb:qf Kb Ka.length = some (.int .u64 0 :: r):=(by rw [← QX];exact zG (qA gz));have hqn:q ∉ [Ka.length]:=fun hc=>by have:=List.mem_singleton.1 hc;have:=qA qa;omega
    have qb:=xb.get (xz.get qa (by simp)) hqn;have YM:∀ j,j∈LG→j ∉ [Ka.length]:=fun j hj hc=>by have:=List.mem_singleton.1 hc;have:=I.gR.lt hj;have:=xa.len;omega
    have gRb:=((I.gR.ext xa (fun _ _=>by simp)).ext xz (fun _ _=>by simp)).ext xb YM;have exb:Ext [q] H Kb:=((I.ext.trans xa (fun _ h=>by simp at h)).trans xz (fun _ h=>by simp at h)).trans xb fun j hj=>.inr (by have:=List.mem_singleton.1 hj;have:=xa.len;omega);simp only [KK,Z7] at qb;have VJ:¬ ((ka (zi b).l (qG b) y:Nat):Int) = 0:=(by omega);generalize ka (zi b).l (qG b) y = cc at *;simp [-qf,-qn,-qs,-qT,-zf,p0,p3,p16,p17,qo,VB,QK,Qp,hKz,gz,QX,hc,hw];exact ⟨k+1,by omega,by omega,by simp,by simp,by simp,dG,LG,g,last,by simp,exb,qb,gRb,I.gn,I.gN,by have:=I.gl;omega,hE⟩
  ·have qo:¬ (k:Int) < ((qS b).length:Int):=(by omega);have JP:k = (qS b).length:=(by omega);subst JP;simp [-qf,-qn,-qs,-qT,-zf,p0,p3,p16,p17,qo];exact ⟨qE _,by simp,by simp,by simp,dG,LG,g,last,by simp,I⟩
 ·rintro ex e K ⟨rfl,-,p0,p16,p17,dG,LG,g,last,p3,I⟩;have h1:=I.qq;simp only [KK,Z7] at h1;obtain ⟨T,hT⟩:=ql (qn K q [.vptr (qY (zi b) (qG b)),.vsl (decide (qS b = [])) (qK (qS b)) (qS b).length,.int .i64 ((Vr (zi b).l (qG b)).2:Nat),dG,.bool true]);have xT:=Qk hT;have gT:=Qx hT h1;have hE:=I.ge;rw [List.drop_length,JE,KO] at hE;have zq:=qz7 (Qs b) (zT qf3 hl);by_cases h0:Qs b = []
  ·rw [h0] at zq hE;have hd:=I.gn hE;subst hd;have kH:call cx 80 [.vsl true [] 0] [] = some (.vsl true [] 0,[]):=(by simpa using zq);rw [h0];simp [-qf,-qn,-qs,-qT,-zf,p0,h1,hT,gT,kH,XA,jQ];exact I.ext.trans xT (NewL.refl _ _)
  ·rw [if_neg h0,if_neg h0] at zq;subst hE;have qQ:jQ (Qs b)≠[]:=fun h=>h0 (by simpa [jQ] using h);obtain ⟨rG,mG,edG,lmG,gRG,eLG⟩:=I.gR.own qQ;have YF:=qfx (Qs b);have hm:mG = (Qs b).length:=(by omega);subst hm;rw [YF] at edG;subst edG;have hrq:rG ∉ [q]:=fun hc=>by have:=I.gN rG (by rw [eLG];simp);have:=List.mem_singleton.1 hc;have:=qA hq;omega
   have gTG:=xT.get gRG hrq;have hgf:=qgQ (Qs b);have hgfL:=Z3 hgf;have jc:List.take (Qs b).length (jQ (Qs b)) = jQ (Qs b):=qP (by omega);have hgA:=Xy hgf
   have hgv:∀ x,x∈jQ (Qs b)→vFree x = true:=fun x hx=>by
    obtain ⟨c,_,rfl⟩:=List.mem_map.1 hx;rfl
   obtain ⟨K9,YO⟩:∃ T2:qe,T ++ [some (jQ (Qs b))] = T2:=⟨_,rfl⟩;have hK9':qs T (jQ (Qs b)) = K9:=YO;have x9:=jD hK9';have g9:qf K9 T.length = some (jQ (Qs b)):=(by rw [← hK9',zA]);simp [-qf,-qn,-qs,-qT,-zf,p0,h1,hT,gT,gTG,hgA,eq_true hgv,YO,g9,YF,hgfL,jc,zq,XA,h0,freeze];have lK9:=x9.len
   have e9:Ext [] T (List.set K9 T.length none):=by
    refine ⟨by rw [ky];omega,fun j hj _=>?_⟩;rw [show List.set K9 T.length none = jO K9 [T.length] from rfl,Yd (by simp;omega),← hK9',vk hj]
   exact (I.ext.trans xT (NewL.refl _ _)).trans e9 (fun _ h=>by simp at h)
theorem qkV [MaxL] (l:List (List UInt8)) (n1 n2:Bool) (h1:n1 = true→l = []) (h2:n2 = true→l = []) (hl:l.length≤1000000):call cx 15 [.vsl n1 (qR l) l.length,.vsl n2 (qR l) l.length] [] = some (.bool true,[]):=by
 refine qy Tryz.func15 rfl ⟨rfl,rfl⟩ ?_;simp [Tryz.f15];refine Run.loopThen (fun (k:Nat) e H=>k≤l.length∧H = []∧qi e 0 = some (.vsl n1 (qR l) l.length)∧qi e 1 = some (.vsl n2 (qR l) l.length)∧qi e 5 = some (.int .i64 k)) (fun k=>l.length - k) 0 ?_ ?_
 ·exact ⟨by omega,rfl,by simp,by simp,by simp⟩
 rintro k e H ⟨hk,rfl,p0,p1,p5⟩;by_cases qg:k < l.length
 ·have qo:=zI qg;have hw:=qx ((k:Int)+1) ((k+1:Nat):Int);have qQ:l≠[]:=fun h=>by rw [h] at qg;simp at qg
  have ja:n1 = false:=by cases n1 with | false=>rfl | true=>exact absurd (h1 rfl) qQ
  have zX:n2 = false:=by cases n2 with | false=>rfl | true=>exact absurd (h2 rfl) qQ
  subst ja;subst zX
  have qI:List.drop k (qR l) = .str l[k] :: qR (l.drop (k+1)):=by
   unfold qR;rw [← List.map_drop,zU qg];rfl
  generalize l[k] = x at *;simp [p0,p1,p5,qo,qI,hw];exact ⟨k+1,by omega,by omega,by omega⟩
 ·have qo:=zL qg;simp [p0,p1,p5,qo]
theorem qut [MaxL] (l:List Nat) (hl:l.length≤1000000):call cx 43 [XA l,XA l] [] = some (.bool true,[]):=by
 unfold XA;obtain ⟨n1,ja⟩:=ql (decide (l = []));have h1:n1 = true→l = []:=fun h=>by rw [← ja] at h;simpa using h
 rw [ja];refine qy Tryz.func43 rfl ⟨rfl,rfl⟩ ?_;simp [Tryz.f43];refine Run.loopThen (fun (k:Nat) e H=>k≤l.length∧H = []∧qi e 0 = some (.vsl n1 (jQ l) l.length)∧qi e 1 = some (.vsl n1 (jQ l) l.length)∧qi e 5 = some (.int .i64 k)) (fun k=>l.length - k) 0 ?_ ?_
 ·exact ⟨by omega,rfl,by simp,by simp,by simp⟩
 rintro k e H ⟨hk,rfl,p0,p1,p5⟩;by_cases qg:k < l.length
 ·have qo:=zI qg;have hw:=qx ((k:Int)+1) ((k+1:Nat):Int);have qQ:l≠[]:=fun h=>by rw [h] at qg;simp at qg
  have vj:n1 = false:=by cases n1 with | false=>rfl | true=>exact absurd (h1 rfl) qQ
  subst vj
  have qI:List.drop k (jQ l) = .int .i64 (l[k]:Nat) :: jQ (l.drop (k+1)):=by
   unfold jQ;rw [← List.map_drop,zU qg];rfl
  generalize l[k] = x at *;simp [p0,p1,p5,qo,qI,hw];exact ⟨k+1,by omega,by omega,by omega⟩
 ·have qo:=zL qg;simp [p0,p1,p5,qo]
theorem qix [MaxL] (i:Inf):call cx 11 [.agg (Enc.cells i)] [] = some (.agg (Enc.cells i),[]):=by
 refine qy Tryz.func11 rfl ⟨rfl,rfl⟩ ?_;have lid:=i.seq.h;have e:(Enc.cells i:List D) = .int .i64 i.kind :: (qd i.seq.l ++ [.int .u64 i.head,.int .u64 i.real]):=rfl;rw [e];have e17a:List.drop 17 (qd i.seq.l ++ [D.int .u64 0,.int .u64 0]) = [.int .u64 0]:=by simp [vX,List.drop_of_length_le,lid]
 have e17:List.take 17 (qd i.seq.l ++ [D.int .u64 i.head,.int .u64 0]) = qd i.seq.l ++ [D.int .u64 i.head]:=by simp [ZK,qP,lid]
 have e18:List.drop 18 (qd i.seq.l ++ [D.int .u64 i.head,.int .u64 0]) = []:=by simp [lid]
 have e16b:List.drop 16 (qd i.seq.l ++ [D.int .u64 i.head,.int .u64 i.real]) = [.int .u64 i.head,.int .u64 i.real]:=by simp [lid]
 have e17b:List.drop 17 (qd i.seq.l ++ [D.int .u64 i.head,.int .u64 i.real]) = [.int .u64 i.real]:=by simp [vX,List.drop_of_length_le,lid]
 have e16c:List.take 16 (qd i.seq.l ++ [D.int .u64 i.head,.int .u64 i.real]) = qd i.seq.l:=by simp [lid]
 have t18:List.take 18 (qd i.seq.l ++ [D.int .u64 i.head,.int .u64 i.real]) = qd i.seq.l ++ [D.int .u64 i.head,.int .u64 i.real]:=qP (by simp [lid]);have d18:List.drop 18 (qd i.seq.l ++ [D.int .u64 i.head,.int .u64 i.real]) = []:=List.drop_of_length_le (by simp [lid]);simp [Tryz.f11,lid,e17a,e17,e18,e16b,e17b,e16c,t18]
theorem qv1 [MaxL] (i:Inf) (h1:i.kind≠1) (h2:i.kind≠2) (h3:i.kind≠3) (h4:i.kind≠4):call cx 13 [.agg (Enc.cells i)] [] = some (.str (vw i),[]):=by
 have hn:vw i = []:=by unfold vw;rw [if_neg h1,if_neg h4,if_neg h2,if_neg h3]
 rw [hn];have lid:=i.seq.h;have e:(Enc.cells i:List D) = .int .i64 i.kind :: (qd i.seq.l ++ [.int .u64 i.head,.int .u64 i.real]):=rfl;rw [e];refine qy Tryz.func13 rfl ⟨rfl,rfl⟩ ?_;simp [Tryz.f13,lid,h1,h2,h3,h4]
theorem qv3 [MaxL] (i:Inf) (h:InfOk i):call cx 13 [.agg (Enc.cells i)] [] = some (.str (vw i),[]):=by
 by_cases h1:i.kind = 1
 ·exact qbh i h (.inl h1)
 by_cases h2:i.kind = 2
 ·exact qbh i h (.inr (.inl h2))
 by_cases h3:i.kind = 3
 ·exact qbh i h (.inr (.inr (.inl h3)))
 by_cases h4:i.kind = 4
 ·exact qbh i h (.inr (.inr (.inr h4)))
 exact qv1 i h1 h2 h3 h4
theorem qlS (f:List UInt8→List UInt8):∀ (l:List (List UInt8)) (i:Nat) (n:List UInt8),l[i]? = some n→∃ r,List.drop (i * 22) (Qz f l) = .str n :: (Enc.cells (jm n).1 ++ (.vptr (Zb (f n)) :: qak (f n) :: r))
 | [],i,n,h=>by simp at h
 | a :: l,0,n,h=>by
  simp only [Z1,qw] at h;subst h;refine ⟨Qz f l,?_⟩;simp [Qz,X2]
 | a :: l,i+1,n,h=>by
  obtain ⟨r,hr⟩:=qlS f l i n (by simpa using h);refine ⟨r,?_⟩;have e:Qz f (a :: l) = X2 f a ++ Qz f l:=by simp [Qz]
  rw [e,show (i+1) * 22 = 22+i * 22 by omega,← jV,kE (qi6 f a)];exact hr
theorem qvw {H:qe} {k n:Nat} {v:D} {cs:List D} {L:List Nat} {t e:TypeId} (h:RowA H k v cs L) (hu:Tryz.prog.underlying t = some (.slice e)) (hl:cs.length = n * k) (hk:0 < k):zf Tryz.prog t v = some (.int .i64 n):=by
 unfold zf;rcases h with ⟨rfl,hc,_⟩ | ⟨r,m,rfl,h2,_,_⟩
 ·rw [hc] at hl;have:n = 0:=(Nat.mul_eq_zero.1 (by simpa using hl.symm)).resolve_right (by omega);subst this;simp [hu]
 ·have:m = n:=Nat.eq_of_mul_eq_mul_right hk (by omega);subst this;simp [hu]
def qlx (K0:qe) (oD wD:D) (ps:List Nat) (k i:Nat) (e:qr) (K:qe):Prop :=
 i≤k∧qi e 0 = some oD∧qi e 1 = some wD∧qi e 5 = some (.int .i64 i)∧Ext (ps.take i) K0 K
set_option maxHeartbeats 8000000 in
set_option maxRecDepth 10000 in
theorem qu7 [MaxL] {K0:qe} {f:List UInt8→List UInt8} {fl:List (List UInt8)} {ps:List Nat} {oD:D} {Lo:List Nat} {nz:Bool} (hnz:nz = true→fl = []) (hpl:fl.length = ps.length) (oR:RowA K0 21 oD (VQ fl ps) Lo) (hNp:ps.Nodup) (hLo:∀ j,j∈Lo→j ∉ ps)
  (Jd:fl.length≤1000) (hfb:∀ n,n∈fl→(f n).length≤1000000) (file:∀ (j:Nat) (n:List UInt8) (p:Nat),fl[j]? = some n→ps[j]? = some p→qf K0 p = some (XY (f n))) :
  ∃ T,call cx 14 [oD,.vsl nz (Qz f fl) fl.length] K0 = some (.bool true,T)∧Ext ps K0 T:=by
 suffices hs:∃ r,call cx 14 [oD,.vsl nz (Qz f fl) fl.length] K0 = some r∧∃ T:qe,r = (.bool true,T)∧Ext ps K0 T by
  obtain ⟨r,hc,T,rfl,h1⟩:=hs;exact ⟨T,hc,h1⟩
 refine Zh (X:=cx) (f:=14) _ Tryz.func14 rfl ⟨rfl,rfl⟩ ?_;have Zu:zf Tryz.prog 43 oD = some (.int .i64 fl.length):=qvw (e:=85) oR (by simp) (qf5 _ _ hpl) (by omega);have hlw:zf Tryz.prog 46 (.vsl nz (Qz f fl) fl.length) = some (.int .i64 fl.length):=by simp
 simp [-qf,-qn,-qs,-qT,-zf,Tryz.f14,Zu,hlw];refine KZ (qlx K0 oD (.vsl nz (Qz f fl) fl.length) ps fl.length) (fun i=>fl.length - i) 0 (fun ex e K=>ex = .exit 0∧qlx K0 oD (.vsl nz (Qz f fl) fl.length) ps fl.length fl.length e K) ?_ ?_ ?_
 ·exact ⟨vV _,by simp,by simp,by simp,by simpa using Ext.refl _ _⟩
 ·rintro i e K ⟨hi,p0,p1,p5,x⟩;by_cases qg:i < fl.length
  ·have qo:=zI qg;have hw:=qx ((i:Int)+1) ((i+1:Nat):Int);have hfd:fl[i]? = some fl[i]:=zn qg;obtain ⟨n,hnd⟩:=ql (fl[i]);rw [hnd] at hfd;have Kw:i < ps.length:=(by omega);have hpd:ps[i]? = some ps[i]:=zn Kw;obtain ⟨p,hp⟩:=ql (ps[i]);rw [hp] at hpd
   have hnz':nz = false:=by
    cases hq:nz with
    | false=>rfl
    | true=>rw [hnz hq] at qg;simp at qg
   subst hnz';have gf:=file i n p hfd hpd
   have XL:p ∉ ps.take i:=fun hc=>by
    obtain ⟨j,hj⟩:=List.getElem?_of_mem hc;have YD:=(List.getElem?_eq_some_iff.1 hj).1;rw [jU] at YD;rw [List.getElem?_take_of_lt (by omega)] at hj;have h1:=(List.getElem?_eq_some_iff.1 hj).2;have h2:=(List.getElem_inj hNp).1 (h1.trans hp.symm);omega
   have gfK:=x.get gf XL;have hfbn:=hfb n (hnd ▸ v6 qg)
   have qQ:VQ fl ps≠[]:=fun h=>by
    have:=qf5 fl ps hpl;rw [h] at this;simp at this;omega
   obtain ⟨b1,m1,ho1,J7,hg1,eLo⟩:=(oR.ext x (fun j hj hc=>hLo j hj (Vx hc))).own qQ;have ln1:=qf5 fl ps hpl;have kb:m1 = fl.length:=(by omega);subst kb;rw [J7] at ho1;subst ho1;obtain ⟨r1,Vm⟩:=qr2 fl ps i n p hpl hfd hpd;obtain ⟨r2,YJ⟩:=qlS f fl i n hfd;have lw:=qi7 f fl;have hlen:=qy8 (b:=f n) (g:=.vsl true [] 0) (kn:=.bool false) gfK;obtain ⟨T,hgood,xT⟩:=qyA gfK hfbn;have hrg:=qlO (f n) hfbn (zT (qh4 _) hfbn);have hsin:=qut (Qs (f n)) (zT qf3 (zT (qh4 _) hfbn));have hsee:=qix (jm n).1;have lci:(Enc.cells (jm n).1:List D).length = 19:=(by simp);have kv:=Enc.free (jm n).1;have Zw:=Inf.eq19 (jm n).1 (jm n).1;have hieq:qgR (jm n).1 (jm n).1 = true:=(qq0 _ _).2 rfl;rw [hieq] at Zw;have qI:Z7 (qS (f n)) = .vsl (decide (qS (f n) = [])) (qK (qS (f n))) (qS (f n)).length:=rfl;have XU:=qfe (f n);have hF:∃ V c,Zb (f n) = [.vptr V,.vsl (decide (qS (f n) = [])) (qK (qS (f n))) (qS (f n)).length,.int .i64 c]:=⟨_,_,rfl⟩;obtain ⟨V,c,hF⟩:=hF;have XF:(Zb (f n)).tail = [.vsl (decide (qS (f n) = [])) (qK (qS (f n))) (qS (f n)).length,.int .i64 c]:=(by rw [hF];rfl);have J6:zf Tryz.prog 96 (.vsl (decide (qS (f n) = [])) (qK (qS (f n))) (qS (f n)).length) = some (.int .i64 (qS (f n)).length):=(by simp);obtain ⟨C1,Vo⟩:=ql (VQ fl ps);obtain ⟨C2,zS⟩:=ql (Qz f fl);rw [Vo] at hg1 ln1 Vm;rw [zS] at p1 YJ lw ⊢;obtain ⟨CI,hCI⟩:=ql ((Enc.cells (jm n).1:List D));rw [hCI] at Vm YJ hsee lci kv Zw;have hcfL:=Z3 kv;have hcfA:=Xy kv;have d1:List.drop (i * 21+1) C1 = CI ++ .optr p 5 0 :: r1:=by rw [← jV,Vm];rfl
   have d20:List.drop (i * 21+20) C1 = .optr p 5 0 :: r1:=by
    rw [show i * 21+20 = i * 21+1+19 by omega,← jV,d1,kE lci]
   have w1:List.drop (i * 22+1) C2 = CI ++ (.vptr (Zb (f n)) :: qak (f n) :: r2):=by rw [← jV,YJ];rfl
   have w20:List.drop (i * 22+20) C2 = .vptr (Zb (f n)) :: qak (f n) :: r2:=by
    rw [show i * 22+20 = i * 22+1+19 by omega,← jV,w1,kE lci]
   have tI1:List.take 19 (CI ++ .optr p 5 0 :: r1) = CI:=List.take_left' lci;have tI2:List.take 19 (CI ++ (.vptr (Zb (f n)) :: qak (f n) :: r2)) = CI:=List.take_left' lci;have lxT:=xT.len;have hb1p:b1 ∉ [p]:=fun hc=>hLo b1 (by rw [eLo];simp) (by rw [← List.mem_singleton.1 hc] at hp;exact hp ▸ v6 Kw);have hg1T:=xT.get hg1 hb1p;simp only [XA] at hgood hrg hsin;simp [-qf,-qn,-qs,-qT,-zf,p0,p1,p5,Zu,qo,hg1,lxT,ln1,Vm,YJ,d1,d20,tI1,tI2,hsee,Zw,hlen,hgood,hrg,hsin,hw,hcfL,lci,XF,J6];have hpt2:ps.take (i+1) = ps.take i ++ [p]:=(by rw [← hp];exact VV Kw);refine ⟨i+1,by omega,by omega,by simp,by simp,by simp,?_⟩;rw [hpt2];exact (x.mono fun j hj=>qbZ _ hj).trans (xT.mono fun j hj=>List.mem_append_right _ hj) (NewL.refl _ _)
  ·have qo:=zL qg;have Q9:i = fl.length:=(by omega);subst Q9;simp [-qf,-qn,-qs,-qT,-zf,p0,p1,p5,Zu,qo];exact ⟨qE _,by simp,by simp,by simp,x⟩
 ·rintro ex e K ⟨rfl,-,p0,p1,p5,x⟩;rw [hpl,List.take_length] at x;simp [-qf,-qn,-qs,-qT,-zf];exact x
theorem jv {l:List D} {i:Nat} {x:D} (h:l[i]? = some x):l.drop i = x :: l.drop (i+1):=by
 obtain ⟨hi,hx⟩:=List.getElem?_eq_some_iff.1 h;rw [zU hi,hx]
theorem Q3 (H:qe) (i:Nat) (x y:List D):qn (qn H i x) i y = qn H i y:=by
 unfold qn;rw [List.set_set]
theorem qdK {H:qe} {i:Nat} {x:List D} (h:qf H i = some x):qn H i x = H:=by
 unfold qn;have hi:=qA h;unfold qf at h;rw [zn hi] at h;apply List.ext_getElem
 ·simp
 ·intro j h1 h2;rw [List.getElem_set];split
  ·rename_i zu;subst zu;exact h.symm
  ·rfl
theorem qy3 {H:qe} {q:Nat} {m:Jm} (h:JmW H q m) {b:List UInt8} (hb:b.length = m.b.length):JmW (qn H m.bi (qd b)) q { m with b:=b }:=by
 have hn:=h.nodup;have hd:∀ i,i∈m.names q→i≠m.bi→qf (qn H m.bi (qd b)) i = qf H i:=fun i _ hi=>zN hi
 have hq:q≠m.bi:=by
  intro e;unfold Jm.names at hn;rw [e] at hn;simp at hn
 have hD:∀ i,i∈m.Ld→i ∉ [m.bi]:=by
  intro i hi e;rw [List.mem_singleton.1 e] at hi;unfold Jm.names at hn;simp only [List.nodup_cons,jT,vW] at hn;exact hn.2.1 (.inl hi)
 have hF:∀ i,i∈m.Lf→i ∉ [m.bi]:=by
  intro i hi e;rw [List.mem_singleton.1 e] at hi;unfold Jm.names at hn;simp only [List.nodup_cons,jT,vW] at hn;exact hn.2.1 (.inr hi)
 exact { h with
  root:=by rw [zN hq];exact h.root
  c143:=by rw [h.c143];simp only;rw [hb]
  bytes:=zG (qA h.bytes)
  rowD:=h.rowD.ext (Ext.set H m.bi _) hD
  rowF:=h.rowF.ext (Ext.set H m.bi _) hF }
set_option maxHeartbeats 2000000 in
theorem qyq [MaxL] [TxtC] {H:qe} {q:Nat} {m:Jm} (h:JmW H q m) (a v:Nat) (ha:a+8≤m.b.length) (hl:m.b.length≤1000000) :
  ∃ b,call cx 91 [.optr q 147 0,.int .u64 a,.int .u64 v] H = some (.tup [],qn H m.bi (qd b))∧b.length = m.b.length:=by
 have hc:=jv h.c143
 have hq:q≠m.bi:=by
  intro e;have hn:=h.nodup;unfold Jm.names at hn;rw [e] at hn;simp at hn
 have vM:∀ x,qf (qn H m.bi x) q = some m.cs:=fun x=>by rw [zN hq];exact h.root
 have jM:∀ x,qf (qn H m.bi x) m.bi = some x:=fun x=>zG (qA h.bytes);have zq:=h.len
 obtain ⟨r,hr,b,rfl,hb⟩:∃ r,call cx 91 [.optr q 147 0,.int .u64 a,.int .u64 v] H = some r∧∃ b:List UInt8,r = (.tup [],qn H m.bi (qd b))∧b.length = m.b.length:=by
  refine Zh (X:=cx) (f:=91) _ Tryz.func91 rfl ⟨rfl,rfl⟩ ?_;simp [-qf,-qn,-qs,Tryz.f91];refine Run.loopThen (fun (i:Nat) e K=>i≤8∧qi e 0 = some (.optr q 147 0)∧qi e 1 = some (.int .u64 a)∧qi e 2 = some (.int .u64 v)∧qi e 6 = some (.int .i64 i)∧∃ b:List UInt8,b.length = m.b.length∧K = qn H m.bi (qd b)) (fun i=>8 - i) 0 ?_ ?_
  ·exact ⟨by omega,by simp,by simp,by simp,by simp,m.b,rfl,(qdK h.bytes).symm⟩
  rintro i e K ⟨hi,p0,p1,p2,p6,b,hb,rfl⟩;by_cases qg:i < 8
  ·have qo:(i:Int) < 8:=(by omega);have hw:=qx ((i:Int)+1) ((i+1:Nat):Int);have jb:=qN (i:Int) (i:Int);obtain ⟨z,hz⟩:∃ z:Nat,z = 8 * i:=⟨_,rfl⟩;obtain ⟨y,hy⟩:∃ y:Nat,y = a+i:=⟨_,rfl⟩;have qZ:=qN ((a:Int)+(i:Int)) (y:Int);have Zf:=qx (8 * (i:Int)) (z:Int);have ZW:=qN (z:Int) (z:Int);have Ve:¬ (z:Int) < 0:=(by omega);have zQ:y < m.b.length:=(by omega);have hai':(y:Int) < (m.b.length:Int):=(by omega);have hy0:¬ (y:Int) < 0:=(by omega);have hai2:y+1≤m.b.length:=(by omega);obtain ⟨c,hc8⟩:=qhW ((v:Int).fdiv (2 ^ min z IntKind.u64.bits));simp [-qf,-qn,-qs,p0,p1,p2,p6,qo,hw,jb,qZ,Zf,ZW,Ve,vM,jM,zq,hc,hb,hai',Q3,hc8,hai2];exact ⟨i+1,by omega,by omega,by omega,b.take y ++ c :: b.drop (y+1),by simp;omega,by simp [qd]⟩
  ·have qo:¬ (i:Int) < 8:=(by omega);simp [-qf,-qn,-qs,p0,p1,p2,p6,qo];exact ⟨b,rfl,hb⟩
 exact ⟨b,hr,hb⟩
theorem qaq [MaxL] [TxtC] {H:qe} {q:Nat} {m:Jm} (h:JmW H q m) (hk:m.Ok) (a v:Nat) (ha:a+8≤m.b.length) :
  ∃ T b,call cx 91 [.optr q 147 0,.int .u64 a,.int .u64 v] H = some (.tup [],T)∧b.length = m.b.length∧JmW T q { m with b:=b }∧Jm.Ok { m with b:=b }∧Ext [m.bi] H T∧T.length = H.length:=by
 obtain ⟨b,hc,hb⟩:=qyq h a v ha hk.bmax;refine ⟨_,b,hc,hb,qy3 h hb,?_,Ext.set H m.bi _,by simp [qn]⟩
 exact { hk with
  bl:=by simp only;rw [hb];exact hk.bl
  bmod:=by simp only;rw [hb];exact hk.bmod
  bmax:=by simp only;rw [hb];exact hk.bmax
  da:=by simp only;rw [hb];exact hk.da
  fi:=by simp only;rw [hb];exact hk.fi
  main:=by simp only;rw [hb];exact hk.main }
theorem vp {l:List D} {i:Nat} {d:D} (h:i < l.length):List.take i l ++ d :: List.drop (i+1) l = l.set i d:=by
 rw [qte,if_pos h]
theorem qbf {l:List D} {i j:Nat} {d x:D} (hj:i≠j) (h:l[j]? = some x):(l.set i d)[j]? = some x:=by rw [List.getElem?_set_ne hj,h]
def qjE (i:Nat):Bool:=(decide (119≤i) && decide (i < 139) && !([119,121,122,123,124,127,128].contains i)) || decide (i = 141) || decide (i = 142)
theorem q05 {i:Nat} (h:qjE i = true):119 < i∧i < 143∧i≠121∧i≠122∧i≠123∧i≠124∧i≠127∧i≠128∧i≠139∧i≠140:=by
 unfold qjE at h;simp at h;omega
theorem Kr {H:qe} {q:Nat} {m:Jm} (h:JmW H q m):m.bi≠q∧q ∉ m.Ld∧q ∉ m.Lf:=by
 have hn:=h.nodup;unfold Jm.names at hn;simp only [List.nodup_cons,jT,vW,not_or] at hn;exact ⟨fun e=>hn.1.1 e.symm,hn.1.2.1,hn.1.2.2⟩
theorem Xb {H:qe} {q:Nat} {m:Jm} (h:JmW H q m) {i:Nat} (hi:qjE i = true) {d:D} (hd:isU d):JmW (qn H q (m.cs.set i d)) q { m with cs:=m.cs.set i d }:=by
 obtain ⟨f0,f1,f2,f3,f4,f5,f6,f7,f8,f9⟩:=q05 hi;obtain ⟨q1,q2,q3⟩:=Kr h;have qg:i < m.cs.length:=by rw [h.len];omega
 have hs:∀ {j:Nat} {x:D},i≠j→m.cs[j]? = some x→(m.cs.set i d)[j]? = some x:=fun hj hx=>qbf hj hx
 exact { h with
  root:=zG (qA h.root)
  len:=by simp only;rw [ky];exact h.len
  file:=by simp only;rw [List.take_set_of_le (by omega)];exact h.file
  c48:=hs (by omega) h.c48
  c49:=hs (by omega) h.c49
  c50:=hs (by omega) h.c50
  c51:=hs (by omega) h.c51
  c52:=hs (by omega) h.c52
  c53:=hs (by omega) h.c53
  c54:=hs (by omega) h.c54
  ids:=by
   obtain ⟨a,b,c,e,he⟩:=h.ids;refine ⟨a,b,c,e,?_⟩;simp only;rw [List.drop_set,if_neg (by omega),List.take_set_of_le (by omega)];exact he
  c119:=hs (by omega) h.c119
  c121:=hs (by omega) h.c121
  c122:=hs (by omega) h.c122
  c123:=hs (by omega) h.c123
  c124:=hs (by omega) h.c124
  c127:=hs (by omega) h.c127
  c128:=hs (by omega) h.c128
  nums:=fun j h1 h2=>by
   by_cases zu:i = j
   ·subst zu;exact ⟨d,by simp only;rw [List.getElem?_set_self qg],hd⟩
   ·obtain ⟨x,hx,hu⟩:=h.nums j h1 h2;exact ⟨x,hs zu hx,hu⟩
  c139:=by obtain ⟨v,hv,jI⟩:=h.c139;exact ⟨v,hs (by omega) hv,jI⟩
  c140:=by obtain ⟨v,hv,jI⟩:=h.c140;exact ⟨v,hs (by omega) hv,jI⟩
  c141:=by
   by_cases zu:i = 141
   ·subst zu;exact ⟨d,by simp only;rw [List.getElem?_set_self qg],hd⟩
   ·obtain ⟨x,hx,hu⟩:=h.c141;exact ⟨x,hs zu hx,hu⟩
  c142:=by
   by_cases zu:i = 142
   ·subst zu;exact ⟨d,by simp only;rw [List.getElem?_set_self qg],hd⟩
   ·obtain ⟨x,hx,hu⟩:=h.c142;exact ⟨x,hs zu hx,hu⟩
  c143:=hs (by omega) h.c143
  c144:=hs (by omega) h.c144
  c145:=hs (by omega) h.c145
  c146:=hs (by omega) h.c146
  free:=qbM h.free (fun _=>qjw hd)
  bytes:=by rw [zN q1];exact h.bytes
  rowD:=h.rowD.ext (Ext.set H q _) (fun j hj e=>q2 (by rw [← List.mem_singleton.1 e];exact hj))
  rowF:=h.rowF.ext (Ext.set H q _) (fun j hj e=>q3 (by rw [← List.mem_singleton.1 e];exact hj)) }
theorem qy2 {H:qe} {q:Nat} {m:Jm} (h:JmW H q m) (x:List UInt8) {n:Nat} (hn:n = m.b.length+x.length):JmW (qn (qn H m.bi (qd (m.b ++ x))) q (m.cs.set 143 (.osl m.bi n 0 n 1))) q { m with b:=m.b ++ x,cs:=m.cs.set 143 (.osl m.bi n 0 n 1) }:=by
 obtain ⟨q1,q2,q3⟩:=Kr h;have hnd:=h.nodup;unfold Jm.names at hnd;simp only [List.nodup_cons,jT,vW,not_or] at hnd;have qg:143 < m.cs.length:=by rw [h.len];omega
 have hs:∀ {j:Nat} {y d:D},143≠j→m.cs[j]? = some y→(m.cs.set 143 d)[j]? = some y:=fun hj hy=>qbf hj hy;have hb:m.bi < H.length:=qA h.bytes;have hr:q < H.length:=qA h.root;have e1:Ext [m.bi] H (qn H m.bi (qd (m.b ++ x))):=Ext.set H _ _;have e2:Ext [q] (qn H m.bi (qd (m.b ++ x))) (qn (qn H m.bi (qd (m.b ++ x))) q (m.cs.set 143 (.osl m.bi n 0 n 1))):=Ext.set _ _ _
 have ap:∀ {k:Nat} {v:D} {cs:List D} {L:List Nat},m.bi ∉ L→q ∉ L→RowA H k v cs L→RowA (qn (qn H m.bi (qd (m.b ++ x))) q (m.cs.set 143 (.osl m.bi n 0 n 1))) k v cs L:=fun h1 h2 hr =>
  (hr.ext e1 (fun j hj e=>h1 (by rw [← List.mem_singleton.1 e];exact hj))).ext e2 (fun j hj e=>h2 (by rw [← List.mem_singleton.1 e];exact hj))
 exact { h with
  root:=zG (by simp [qn];exact hr)
  len:=by simp only;rw [ky];exact h.len
  file:=by simp only;rw [List.take_set_of_le (by omega)];exact h.file
  c48:=hs (by omega) h.c48
  c49:=hs (by omega) h.c49
  c50:=hs (by omega) h.c50
  c51:=hs (by omega) h.c51
  c52:=hs (by omega) h.c52
  c53:=hs (by omega) h.c53
  c54:=hs (by omega) h.c54
  ids:=by
   obtain ⟨a,b,c,e,he⟩:=h.ids;refine ⟨a,b,c,e,?_⟩;simp only;rw [List.drop_set,if_neg (by omega),List.take_set_of_le (by omega)];exact he
  c119:=hs (by omega) h.c119
  c121:=hs (by omega) h.c121
  c122:=hs (by omega) h.c122
  c123:=hs (by omega) h.c123
  c124:=hs (by omega) h.c124
  c127:=hs (by omega) h.c127
  c128:=hs (by omega) h.c128
  nums:=fun j h1 h2=>by
   obtain ⟨y,hy,hu⟩:=h.nums j h1 h2;exact ⟨y,hs (by omega) hy,hu⟩
  c139:=by obtain ⟨v,hv,jI⟩:=h.c139;exact ⟨v,hs (by omega) hv,jI⟩
  c140:=by obtain ⟨v,hv,jI⟩:=h.c140;exact ⟨v,hs (by omega) hv,jI⟩
  c141:=by obtain ⟨y,hy,hu⟩:=h.c141;exact ⟨y,hs (by omega) hy,hu⟩
  c142:=by obtain ⟨y,hy,hu⟩:=h.c142;exact ⟨y,hs (by omega) hy,hu⟩
  c143:=by simp only;rw [List.getElem?_set_self qg,hn,zz]
  c144:=hs (by omega) h.c144
  c145:=hs (by omega) h.c145
  c146:=hs (by omega) h.c146
  free:=qbM h.free (fun hi=>by omega)
  bytes:=by rw [zN q1];exact zG hb
  rowD:=ap hnd.2.1.1 q2 h.rowD
  rowF:=ap hnd.2.1.2 q3 h.rowF }
theorem qy7 {m:Jm} (h:m.Ok) {x:List UInt8} {cs:List D} (h8:x.length % 8 = 0) (hm:m.b.length+x.length≤1000000):Jm.Ok { m with b:=m.b ++ x,cs:=cs }:=by
 have hl:(m.b ++ x).length = m.b.length+x.length:=zz;have jx:m.b.length≤(m.b ++ x).length:=by omega
 have:=h.bl;have:=h.bmod
 exact { h with
  bl:=by simp only;omega
  bmod:=by simp only;omega
  bmax:=by simp only;omega
  da:=fun k hk=>(h.da k hk).mono jx
  fi:=fun k hk=>(h.fi k hk).mono jx
  main:=h.main.mono jx }
set_option maxHeartbeats 2000000 in
theorem qgN [MaxL] [TxtC] {H:qe} {q:Nat} {m:Jm} (h:JmW H q m) (hk:m.Ok) (x:List UInt8) (h8:x.length % 8 = 0) (hm:m.b.length+x.length≤1000000) :
  ∃ T cs,call cx 87 [.optr q 147 0,.vsl false (qd x) x.length] H = some (.int .u64 (m.b.length:Nat),T)∧JmW T q { m with b:=m.b ++ x,cs:=cs }∧Jm.Ok { m with b:=m.b ++ x,cs:=cs }∧Ext [q,m.bi] H T∧T.length = H.length:=by
 obtain ⟨n,hn⟩:∃ n,n = m.b.length+x.length:=⟨_,rfl⟩;have w1:=qy2 h x hn;have u6:isU (.int .u64 ((m.b.length:Nat):Int)):=⟨_,rfl,by omega⟩;have w2:=Xb w1 (i:=125) rfl u6;obtain ⟨d7,VI,v7,rfl,hv7⟩:=w2.nums 126 (by omega) (by omega)
 have u7:isU (.int .u64 (IntKind.u64.wrap ((v7:Int)+1))):=by
  have hu:=qdy ((v7:Int)+1);unfold j5 at hu;exact ⟨(IntKind.u64.wrap ((v7:Int)+1)).toNat,by rw [Int.toNat_of_nonneg hu.1],by omega⟩
 have w3:=Xb w2 (i:=126) rfl u7;simp only [Q3] at w2 w3 VI;obtain ⟨q1,q2,q3⟩:=Kr h;have zq:=h.len;have hc:=jv h.c143;have hbq:=qA h.root;have hbb:=qA h.bytes;have r0:=h.root;have rb:=h.bytes;have hap:qd m.b ++ qd x = qd (m.b ++ x):=by simp [qd]
 obtain ⟨C1,Vo⟩:∃ C,C = m.cs.set 143 (.osl m.bi n 0 n 1):=⟨_,rfl⟩;have s1:List.take 143 m.cs ++ D.osl m.bi n 0 n 1 :: List.drop 144 m.cs = C1:=by rw [Vo];exact vp (by omega)
 have l1:C1.length = 147:=by rw [Vo,ky];exact zq
 obtain ⟨C2,zS⟩:∃ C,C = C1.set 125 (.int .u64 ((m.b.length:Nat):Int)):=⟨_,rfl⟩;have s2:List.take 125 C1 ++ D.int .u64 ((m.b.length:Nat):Int) :: List.drop 126 C1 = C2:=by rw [zS];exact vp (by omega)
 have l2:C2.length = 147:=by rw [zS,ky];exact l1
 obtain ⟨C3,KI⟩:∃ C,C = C2.set 126 (.int .u64 (IntKind.u64.wrap ((v7:Int)+1))):=⟨_,rfl⟩;have s3:List.take 126 C2 ++ D.int .u64 (IntKind.u64.wrap ((v7:Int)+1)) :: List.drop 127 C2 = C3:=by rw [KI];exact vp (by omega)
 rw [← Vo] at w3 VI;rw [← zS] at w3 VI;rw [← KI] at w3;have d7:=jv VI;obtain ⟨B,hB⟩:∃ B,B = qd (m.b ++ x):=⟨_,rfl⟩;rw [← hB] at hap w3;obtain ⟨K,hK⟩:∃ K,K = qn H m.bi B:=⟨_,rfl⟩;have k0:qf K q = some m.cs:=by rw [hK,zN q1.symm];exact r0
 have kq:∀ C,qf (qn K q C) q = some C:=fun C=>zG (by rw [hK];simpa [qn] using hbq);rw [← hK] at w3;have jR:=qN ((m.b.length:Nat):Int) ((m.b.length:Nat):Int);have hbK:m.bi < K.length:=by rw [hK];simpa [qn] using hbb
 have c1:n≤140737488355328:=by omega
 have c2:m.b.length+x.length≤140737488355328:=by omega
 refine ⟨qn K q C3,C3,vt Tryz.func87 rfl ⟨rfl,rfl⟩ ?_,w3,qy7 hk h8 hm,?_,by rw [hK];simp [qn]⟩
 ·simp [-qf,-qn,-qs,Tryz.f87,r0,rb,zq,hc,hap,hn.symm,hK.symm,k0,kq,s1,s2,s3,l1,l2,d7,jR,c1,qD,Q3,hbK]
 ·refine ⟨by rw [hK];simp [qn],fun i hi hn=>?_⟩;simp only [jT,List.not_mem_nil,or_false,not_or] at hn;rw [zN hn.1,hK,zN hn.2]
theorem qcx {l:List Kn} {i:Nat} (hi:i < l.length):∃ (k:Kn) (r:List D),k∈l∧(qu l).drop (i * 5) = .str k.text :: .int .u64 (k.at_:Nat) :: .int .i64 (k.slot:Nat) :: .int .i64 (k.cnt:Nat) :: .vsl k.nil (qJ .u64 k.arrs) k.arrs.length :: r∧l[i]? = some k∧(qu l).drop (i * 5+1) = .int .u64 (k.at_:Nat) :: .int .i64 (k.slot:Nat) :: .int .i64 (k.cnt:Nat) :: .vsl k.nil (qJ .u64 k.arrs) k.arrs.length :: r∧(qu l).drop (i * 5+2) = .int .i64 (k.slot:Nat) :: .int .i64 (k.cnt:Nat) :: .vsl k.nil (qJ .u64 k.arrs) k.arrs.length :: r:=by
 have h:=YS (n:=5) (α:=Kn) rfl hi;rw [Kn.cells] at h;refine ⟨l[i],_,v6 hi,h,zn hi,?_,?_⟩
 ·rw [← jV,h];rfl
 ·rw [← jV,h];rfl
set_option maxHeartbeats 4000000 in
theorem qqq [MaxL] [TxtC] {H:qe} {q:Nat} {m:Jm} (h:JmW H q m) (hk:m.Ok) {v:D} {ks:List Kn} {L:List Nat} (hrow:RowA H 5 v (qu ks) L) (hks:∀ k,k∈ks→k.at_+40≤m.b.length) (hkl:ks.length≤1000)
  (tb at_ sl:Nat) (ht:tb+16 * sl+16≤m.b.length) (_:at_ < 18446744073709551616) :
  ∃ T b r,call cx 131 [.optr q 147 0,v,.int .u64 tb,.int .u64 at_,.int .i64 sl] H = some (.int .u64 (r:Nat),T)∧r < 18446744073709551616∧b.length = m.b.length∧JmW T q { m with b:=b }∧Jm.Ok { m with b:=b }∧Ext [m.bi] H T∧T.length = H.length:=by
 have Zt:=hk.bmax
 suffices hs:∃ r,call cx 131 [.optr q 147 0,v,.int .u64 tb,.int .u64 at_,.int .i64 sl] H = some r∧∃ (n:Nat) (T:qe) (b:List UInt8),r = (.int .u64 (n:Nat),T)∧n < 18446744073709551616∧b.length = m.b.length∧JmW T q { m with b:=b }∧Jm.Ok { m with b:=b }∧Ext [m.bi] H T∧T.length = H.length by
  obtain ⟨r,hc,n,T,b,rfl,h1,h2,h3,h4,h5,h6⟩:=hs;exact ⟨T,b,n,hc,h1,h2,h3,h4,h5,h6⟩
 refine Zh (X:=cx) (f:=131) _ Tryz.func131 rfl ⟨rfl,rfl⟩ ?_;simp [-qf,-qn,-qs,Tryz.f131];refine Run.loopThen (fun (i:Nat) e K=>i≤ks.length∧qi e 0 = some (.optr q 147 0)∧qi e 1 = some v∧qi e 2 = some (.int .u64 tb)∧qi e 3 = some (.int .u64 at_)∧qi e 4 = some (.int .i64 sl)∧qi e 13 = some (.int .i64 i)∧K = H∧∃ n last:Nat,n≤i∧(0 < n→last+40≤m.b.length)∧qi e 11 = some (.int .u64 n)∧qi e 12 = some (.int .u64 last)) (fun i=>ks.length - i) 0 ?_ ?_
 ·exact ⟨vV _,by simp,by simp,by simp,by simp,by simp,by simp,rfl,0,0,qE _,fun h=>absurd h (by omega),by simp,by simp⟩
 rintro i e K ⟨hi,p0,p1,p2,p3,p4,p13,rfl,n,last,hn,qa5,p11,p12⟩;by_cases qg:i < ks.length
 ·have qo:=zI qg;have hw:=qx ((i:Int)+1) ((i+1:Nat):Int);obtain ⟨k,r,VF,vf,vT,QN,jY⟩:=qcx qg;have hka:=hks k VF;have qQ:qu ks≠[]:=fun e0=>by rw [e0] at vf;simp at vf
  obtain ⟨ro,nn,rfl,zq,ZC,rfl⟩:=hrow.own qQ
  have zx:nn = ks.length:=by
   have:=ZH ks;rw [this] at zq;simp at zq;omega
  subst zx;have jd:(qu ks).length = ks.length * 5:=by simp
  have hwn:=qN ((n:Int)+1) ((n+1:Nat):Int);by_cases kA:k.slot = sl
  ·simp [-qf,-qn,-qs,p0,p1,p2,p3,p4,p11,p12,p13,qo,hw,hwn,ZC,jd,QN,jY,kA];exact ⟨i+1,by omega,by omega,by omega,n+1,by omega,k.at_,fun _=>hka,by omega,rfl⟩
  ·have hsl':¬ (k.slot:Int) = (sl:Int):=(by omega);simp [-qf,-qn,-qs,p0,p1,p2,p3,p4,p11,p12,p13,qo,hw,ZC,jd,jY,hsl'];exact ⟨i+1,by omega,by omega,by omega,n,by omega,last,qa5,rfl,rfl⟩
 ·have qo:=zL qg;obtain ⟨y,hy⟩:∃ y:Nat,y = tb+16 * sl:=⟨_,rfl⟩;obtain ⟨x,hx⟩:∃ x:Nat,x = 16 * sl:=⟨_,rfl⟩;have w1:=qx (16 * (sl:Int)) (x:Int);have w2:=qN (x:Int) (x:Int);have w3:=qN ((tb:Int)+(x:Int)) (y:Int);obtain ⟨y8,hy8⟩:∃ z:Nat,z = y+8:=⟨_,rfl⟩;have w4:=qN ((y:Int)+8) (y8:Int);obtain ⟨l24,hl24⟩:∃ z:Nat,z = last+24:=⟨_,rfl⟩
  have w5:0 < n→IntKind.u64.wrap ((last:Int)+24) = (l24:Int):=fun Qr=>by
   have:=qa5 Qr;rw [qca] <;> omega
  have hfirst:∃ T1 b1 a1,a1 = (if n = 0 then y else l24)∧call cx 91 [.optr q 147 0,.int .u64 (a1:Nat),.int .u64 at_] K = some (.tup [],T1)∧b1.length = m.b.length∧JmW T1 q { m with b:=b1 }∧Jm.Ok { m with b:=b1 }∧Ext [m.bi] K T1∧T1.length = K.length:=by
   by_cases Qr:n = 0
   ·obtain ⟨T1,b1,hh⟩:=qaq h hk y at_ (by omega)
    exact ⟨T1,b1,y,by rw [if_pos Qr],hh⟩
   ·have:=qa5 (by omega);obtain ⟨T1,b1,hh⟩:=qaq h hk l24 at_ (by omega)
    exact ⟨T1,b1,l24,by rw [if_neg Qr],hh⟩
  obtain ⟨T1,b1,a1,Vm,c1,vO,W1,O1,E1,L1⟩:=hfirst;obtain ⟨T2,b2,c2,kQ,W2,O2,E2,L2⟩:=qaq W1 O1 y8 at_ (by simp only;omega)
  simp only at W2 O2 E2 kQ;rcases hrow with ⟨rfl,XR,rfl⟩ | ⟨ro,nn,rfl,zq,ZC,rfl⟩
  ·have hneg:¬ (i:Int) < 0:=by omega
   have h0:ks.length = 0:=by
    have:=ZH ks;rw [XR] at this;simp at this;omega
   by_cases Qr:n = 0
   ·rw [if_pos Qr] at Vm;subst Qr Vm;simp [-qf,-qn,-qs,p0,p1,p2,p3,p4,p11,p12,p13,w1,w2,w3,w4,c1,c2,hneg];exact ⟨0,T2,⟨rfl,rfl⟩,by omega,b2,by omega,W2,O2,E1.trans E2 (NewL.refl _ _),by omega⟩
   ·omega
  ·have zx:nn = ks.length:=by
    have:=ZH ks;rw [this] at zq;simp at zq;omega
   subst zx;by_cases Qr:n = 0
   ·rw [if_pos Qr] at Vm;subst Qr Vm;simp [-qf,-qn,-qs,p0,p1,p2,p3,p4,p11,p12,p13,qo,w1,w2,w3,w4,c1,c2];exact ⟨0,T2,⟨rfl,rfl⟩,by omega,b2,by omega,W2,O2,E1.trans E2 (NewL.refl _ _),by omega⟩
   ·rw [if_neg Qr] at Vm;subst Vm;have ja:¬ (n:Int) = 0:=(by omega);have w5':=w5 (by omega);simp [-qf,-qn,-qs,p0,p1,p2,p3,p4,p11,p12,p13,qo,w1,w2,w3,w4,w5',c1,c2,Qr];exact ⟨n,T2,⟨rfl,rfl⟩,by omega,b2,by omega,W2,O2,E1.trans E2 (NewL.refl _ _),by omega⟩
theorem qy5 {H T:qe} {q:Nat} {m:Jm} (h:JmW H q m) (k:Kn) {v:D} {L:List Nat} (hr:RowA T 5 v (qu (m.fi ++ [k])) L) (he:Ext m.Lf H T) (hn:NewL m.Lf L H.length):JmW (qn T q (m.cs.set 145 v)) q { m with fi:=m.fi ++ [k],fv:=v,Lf:=L,cs:=m.cs.set 145 v }:=by
 obtain ⟨q1,q2,q3⟩:=Kr h;have hnd:=h.nodup;unfold Jm.names at hnd;simp only [List.nodup_cons,jT,vW,not_or,List.nodup_append] at hnd;obtain ⟨n1,n2,n3,n4,n5⟩:=hnd;have qg:145 < m.cs.length:=by rw [h.len];omega
 have hs:∀ {j:Nat} {y d:D},145≠j→m.cs[j]? = some y→(m.cs.set 145 d)[j]? = some y:=fun hj hy=>qbf hj hy;have hq:=qA h.root;have hbi:=qA h.bytes;have hqT:q < T.length:=he.lt hq;have qL:q ∉ L:=fun hc=>(hn q hc).elim q3 (by omega);have bL:m.bi ∉ L:=fun hc=>(hn _ hc).elim n2.2 (by omega);have e2:Ext [q] T (qn T q (m.cs.set 145 v)):=Ext.set _ _ _;have ot:∀ i,i∈m.Ld→i ∉ L:=fun i hi hc=>(hn i hc).elim (fun hd=>n5 i hi i hd rfl) (fun vN=>absurd (h.rowD.lt hi) (by omega));have oL:∀ i,i∈m.Ld→i ∉ m.Lf:=fun i hi hc=>n5 i hi i hc rfl
 have lnd:L.Nodup:=by
  rcases hr with ⟨_,_,rfl⟩ | ⟨r,n,_,_,_,rfl⟩
  ·simp
  ·simp
 exact { h with
  root:=zG hqT
  len:=by simp only;rw [ky];exact h.len
  file:=by simp only;rw [List.take_set_of_le (by omega)];exact h.file
  ids:=by
   obtain ⟨a,b,c,e,he⟩:=h.ids;refine ⟨a,b,c,e,?_⟩;simp only;rw [List.drop_set,if_neg (by omega),List.take_set_of_le (by omega)];exact he
  nums:=fun j h1 h2=>by
   obtain ⟨y,hy,hu⟩:=h.nums j h1 h2;exact ⟨y,hs (by omega) hy,hu⟩
  c139:=by obtain ⟨v,hv,jI⟩:=h.c139;exact ⟨v,hs (by omega) hv,jI⟩
  c140:=by obtain ⟨v,hv,jI⟩:=h.c140;exact ⟨v,hs (by omega) hv,jI⟩
  c141:=by obtain ⟨y,hy,hu⟩:=h.c141;exact ⟨y,hs (by omega) hy,hu⟩
  c142:=by obtain ⟨y,hy,hu⟩:=h.c142;exact ⟨y,hs (by omega) hy,hu⟩
  c48:=hs (by omega) h.c48
  c49:=hs (by omega) h.c49
  c50:=hs (by omega) h.c50
  c51:=hs (by omega) h.c51
  c52:=hs (by omega) h.c52
  c53:=hs (by omega) h.c53
  c54:=hs (by omega) h.c54
  c119:=hs (by omega) h.c119
  c121:=hs (by omega) h.c121
  c122:=hs (by omega) h.c122
  c123:=hs (by omega) h.c123
  c124:=hs (by omega) h.c124
  c127:=hs (by omega) h.c127
  c128:=hs (by omega) h.c128
  c143:=hs (by omega) h.c143
  c144:=hs (by omega) h.c144
  c145:=by simp only;rw [List.getElem?_set_self qg]
  c146:=hs (by omega) h.c146
  free:=qbM h.free (fun hi=>by omega)
  bytes:=by rw [zN q1];exact he.get h.bytes n2.2
  rowF:=hr.ext e2 (fun j hj e=>qL (by rw [← List.mem_singleton.1 e];exact hj))
  rowD:=(h.rowD.ext he (fun j hj=>oL j hj)).ext e2 (fun j hj e=>q2 (by rw [← List.mem_singleton.1 e];exact hj))
  nodup:=by
   unfold Jm.names;simp only [List.nodup_cons,jT,vW,not_or,List.nodup_append];exact ⟨⟨fun e=>q1 e.symm,q2,qL⟩,⟨n2.1,bL⟩,n3,lnd,fun a ha b hb e=>ot a ha (by rw [e];exact hb)⟩ }
theorem qy6 {H T:qe} {q:Nat} {m:Jm} (h:JmW H q m) (k:Kn) {v:D} {L:List Nat} (hr:RowA T 5 v (qu (m.da ++ [k])) L) (he:Ext m.Ld H T) (hn:NewL m.Ld L H.length):JmW (qn T q (m.cs.set 144 v)) q { m with da:=m.da ++ [k],dv:=v,Ld:=L,cs:=m.cs.set 144 v }:=by
 obtain ⟨q1,q2,q3⟩:=Kr h;have hnd:=h.nodup;unfold Jm.names at hnd;simp only [List.nodup_cons,jT,vW,not_or,List.nodup_append] at hnd;obtain ⟨n1,n2,n3,n4,n5⟩:=hnd;have qg:144 < m.cs.length:=by rw [h.len];omega
 have hs:∀ {j:Nat} {y d:D},144≠j→m.cs[j]? = some y→(m.cs.set 144 d)[j]? = some y:=fun hj hy=>qbf hj hy;have hq:=qA h.root;have hbi:=qA h.bytes;have hqT:q < T.length:=he.lt hq;have qL:q ∉ L:=fun hc=>(hn q hc).elim q2 (by omega);have bL:m.bi ∉ L:=fun hc=>(hn _ hc).elim n2.1 (by omega);have e2:Ext [q] T (qn T q (m.cs.set 144 v)):=Ext.set _ _ _;have ot:∀ i,i∈m.Lf→i ∉ L:=fun i hi hc=>(hn i hc).elim (fun hd=>n5 i hd i hi rfl) (fun vN=>absurd (h.rowF.lt hi) (by omega));have oL:∀ i,i∈m.Lf→i ∉ m.Ld:=fun i hi hc=>n5 i hc i hi rfl
 have lnd:L.Nodup:=by
  rcases hr with ⟨_,_,rfl⟩ | ⟨r,n,_,_,_,rfl⟩
  ·simp
  ·simp
 exact { h with
  root:=zG hqT
  len:=by simp only;rw [ky];exact h.len
  file:=by simp only;rw [List.take_set_of_le (by omega)];exact h.file
  ids:=by
   obtain ⟨a,b,c,e,he⟩:=h.ids;refine ⟨a,b,c,e,?_⟩;simp only;rw [List.drop_set,if_neg (by omega),List.take_set_of_le (by omega)];exact he
  nums:=fun j h1 h2=>by
   obtain ⟨y,hy,hu⟩:=h.nums j h1 h2;exact ⟨y,hs (by omega) hy,hu⟩
  c139:=by obtain ⟨v,hv,jI⟩:=h.c139;exact ⟨v,hs (by omega) hv,jI⟩
  c140:=by obtain ⟨v,hv,jI⟩:=h.c140;exact ⟨v,hs (by omega) hv,jI⟩
  c141:=by obtain ⟨y,hy,hu⟩:=h.c141;exact ⟨y,hs (by omega) hy,hu⟩
  c142:=by obtain ⟨y,hy,hu⟩:=h.c142;exact ⟨y,hs (by omega) hy,hu⟩
  c48:=hs (by omega) h.c48
  c49:=hs (by omega) h.c49
  c50:=hs (by omega) h.c50
  c51:=hs (by omega) h.c51
  c52:=hs (by omega) h.c52
  c53:=hs (by omega) h.c53
  c54:=hs (by omega) h.c54
  c119:=hs (by omega) h.c119
  c121:=hs (by omega) h.c121
  c122:=hs (by omega) h.c122
  c123:=hs (by omega) h.c123
  c124:=hs (by omega) h.c124
  c127:=hs (by omega) h.c127
  c128:=hs (by omega) h.c128
  c143:=hs (by omega) h.c143
  c144:=by simp only;rw [List.getElem?_set_self qg]
  c145:=hs (by omega) h.c145
  c146:=hs (by omega) h.c146
  free:=qbM h.free (fun hi=>by omega)
  bytes:=by rw [zN q1];exact he.get h.bytes n2.1
  rowD:=hr.ext e2 (fun j hj e=>qL (by rw [← List.mem_singleton.1 e];exact hj))
  rowF:=(h.rowF.ext he (fun j hj=>oL j hj)).ext e2 (fun j hj e=>q3 (by rw [← List.mem_singleton.1 e];exact hj))
  nodup:=by
   unfold Jm.names;simp only [List.nodup_cons,jT,vW,not_or,List.nodup_append];exact ⟨⟨fun e=>q1 e.symm,qL,q3⟩,⟨bL,n2.2⟩,lnd,n4,fun a ha b hb e=>ot b hb (by rw [← e];exact ha)⟩ }
structure JGrow (H T:qe) (q:Nat) (m m':Jm):Prop where
 w:JmW T q m'
 ok:m'.Ok
 ext:Ext (m.names q) H T
 new:NewL (m.names q) (m'.names q) H.length
 ds:m'.ds = m.ds
 fs:m'.fs = m.fs
 key:m'.key = m.key
 file:m'.file = m.file
 ft:m'.ft = m.ft
 ne:m'.ne = m.ne
 tl:m'.tl = m.tl
 mn:m'.mn = m.mn
 main:m'.main = m.main
 bl:m.b.length≤m'.b.length
theorem JGrow.refl {H:qe} {q:Nat} {m:Jm} (h:JmW H q m) (hk:m.Ok):JGrow H H q m m:=⟨h,hk,Ext.refl _ _,NewL.refl _ _,rfl,rfl,rfl,rfl,rfl,rfl,rfl,rfl,rfl,qE _⟩
theorem Xa {H T:qe} {q:Nat} {m:Jm} (h:JmW H q m) (he:Ext [] H T):JmW T q m :=
 { h with
  root:=he.get h.root (by simp)
  bytes:=he.get h.bytes (by simp)
  rowD:=h.rowD.ext he (fun _ _=>by simp)
  rowF:=h.rowF.ext he (fun _ _=>by simp) }
theorem V5 {m:Jm} {q:Nat}:q∈m.names q:=by simp [Jm.names]
theorem Ko {m:Jm} {q:Nat}:m.bi∈m.names q:=by simp [Jm.names]
theorem qmR {m:Jm} {q i:Nat} (h:i∈m.Lf):i∈m.names q:=by simp [Jm.names,h]
theorem qg8 {m:Jm} {q i:Nat} (h:i∈m.Ld):i∈m.names q:=by simp [Jm.names,h]
set_option maxHeartbeats 8000000 in
set_option maxRecDepth 10000 in
theorem qyB [MaxL] [TxtC] {H:qe} {q:Nat} {m:Jm} (h:JmW H q m) (hk:m.Ok) (name:List UInt8) (hn:name.length≤1000) (Zt:m.b.length+2000≤1000000) (vj:m.fi.length < 1000) :
  ∃ T m' a,call cx 132 [.optr q 147 0,.str name] H = some (.int .u64 (a:Nat),T)∧JGrow H T q m m'∧a+40≤m'.b.length∧m'.b.length≤m.b.length+(47+name.length)∧m'.da = m.da∧m'.fi.length≤m.fi.length+1:=by
 suffices hs:∃ r,call cx 132 [.optr q 147 0,.str name] H = some r∧∃ (a:Nat) (T:qe) (m':Jm),r = (.int .u64 (a:Nat),T)∧JGrow H T q m m'∧a+40≤m'.b.length∧m'.b.length≤m.b.length+(47+name.length)∧m'.da = m.da∧m'.fi.length≤m.fi.length+1 by
  obtain ⟨r,hc,a,T,m',rfl,h1⟩:=hs;exact ⟨T,m',a,hc,h1⟩
 refine Zh (X:=cx) (f:=132) _ Tryz.func132 rfl ⟨rfl,rfl⟩ ?_;have r0:=h.root;have zq:=h.len;have c5:=jv h.c145
 have hlen:zf Tryz.prog 134 m.fv = some (.int .i64 m.fi.length):=by
  have jd:=ZH m.fi;rcases h.rowF with ⟨hv,XR,_⟩ | ⟨ro,nn,hv,QB,_,_⟩
  ·rw [XR] at jd;have:m.fi.length = 0:=(by simp at jd;omega);rw [hv,this];simp
  ·have:nn = m.fi.length:=by
    rw [jd] at QB;simp at QB;omega
   rw [hv,this];simp
 simp [-qf,-qn,-qs,-zf,-qT,Tryz.f132];refine Run.loopThen (fun (i:Nat) e K=>i≤m.fi.length∧qi e 0 = some (.optr q 147 0)∧qi e 1 = some (.str name)∧qi e 5 = some (.int .i64 i)∧K = H) (fun i=>m.fi.length - i) 0 ?_ ?_
 ·exact ⟨vV _,by simp,by simp,by simp,rfl⟩
 rintro i e K ⟨hi,p0,p1,p5,rfl⟩;by_cases qg:i < m.fi.length
 ·have qo:=zI qg;have hw:=qx ((i:Int)+1) ((i+1:Nat):Int);obtain ⟨k,r,VF,vf,vT,QN,jY⟩:=qcx qg;have hka:=hk.fi k VF;have qQ:qu m.fi≠[]:=fun e0=>by rw [e0] at vf;simp at vf
  obtain ⟨ro,nn,hfv,kH,ZC,hLf⟩:=h.rowF.own qQ
  have zx:nn = m.fi.length:=by
   have:=ZH m.fi;rw [this] at kH;simp at kH;omega
  have jd:(qu m.fi).length = m.fi.length * 5:=by rw [kH,zx]
  rw [zx] at hfv;rw [hfv] at c5;by_cases ht:k.text = name
  ·simp [-qf,-qn,-qs,-Kn.ea,p0,p1,p5,r0,zq,c5,qo,ZC,jd,vf,QN,ht];exact ⟨k.at_,K,⟨rfl,rfl⟩,m,JGrow.refl h hk,hka.at_,by omega,rfl,by omega⟩
  ·simp [-qf,-qn,-qs,-Kn.ea,p0,p1,p5,r0,zq,c5,qo,hw,ZC,jd,vf,ht];exact ⟨i+1,by omega,by omega,by omega⟩
 ·have qo:=zL qg;have hfs:=hk.fs;have hft:=hk.ft;have jM:=hk.bl;obtain ⟨qh,Kx,xh,J2,rfl⟩:=qiX m.key m.file (Sl.mk false name (by simp)) (by simp only;omega);unfold j5 at J2;obtain ⟨xn,rfl⟩:∃ xn:Nat,xh = (xn:Int):=⟨xh.toNat,by omega⟩;have hxn:xn < 18446744073709551616:=by omega
  replace Kx:call cx 86 [.bool m.key,.agg (qd m.file.l),.vsl false (qd name) name.length] [] = some (.int .u64 (xn:Int),[]):=Kx;obtain ⟨qp,hpf,tb,htb,rfl⟩:=qwe xn 0 0 hxn (by omega) (by omega) false name (by omega);replace hpf:call cx 188 [.agg [.int .u64 (xn:Int),.int .u64 0,.int .u64 0,.vsl false (qd name) name.length]] [] = some (.vsl false (qd tb) tb.length,[]):=hpf;have ha8:=qh7 (40+name.length);obtain ⟨K0,kI⟩:=ql (qs K (qd name));have g0:=kh kI;obtain ⟨K1,jS⟩:=ql (jO K0 [K.length])
  have x1:Ext [] K K1:=by
   refine ⟨?_,fun j hj _=>?_⟩
   ·rw [← jS,Zp,← kI,zW];omega
   ·rw [← jS,Yd (by simp;omega),← kI,vk hj]
  have w1:=Xa h x1;obtain ⟨K2,cs2,hob,w2,o2,x2,l2⟩:=qgN w1 hk tb (by omega) (by omega);obtain ⟨m2,zJ⟩:∃ x,x = ({ m with b:=m.b ++ tb,cs:=cs2 }:Jm):=⟨_,rfl⟩;rw [← zJ] at w2 o2;have m2b:m2.b.length = m.b.length+tb.length:=by rw [zJ];simp
  have m2f:m2.fi = m.fi:=by rw [zJ]
  have m2v:m2.fv = m.fv:=by rw [zJ]
  have m2c:m2.cs = cs2:=by rw [zJ]
  have m2s:m2.fs = m.fs:=by rw [zJ]
  have m2t:m2.ft = m.ft:=by rw [zJ]
  obtain ⟨sl,kA⟩:∃ s,s = xn % m.fs:=⟨_,rfl⟩;have hslt:sl < m.fs:=by rw [kA];exact Yh _ (by omega)
  obtain ⟨K3,b3,r,hha,hr,hb3,w3,o3,x3,l3⟩:=qqq w2 o2 (v:=m2.fv) (ks:=m2.fi) w2.rowF (fun k Ja=>by
   rw [m2f] at Ja;have:=(hk.fi k Ja).at_;omega) (by rw [m2f];omega) m.ft m.b.length sl (by omega) (by omega)
  rw [m2v] at hha;have rt2:qf K2 q = some cs2:=by rw [← m2c];exact w2.root
  have cl2:cs2.length = 147:=by rw [← m2c];exact w2.len
  have d49:=jv w2.c49;have d142a:=w3.c142;have d123:=jv w2.c123;have d145:=jv w2.c145;rw [m2c,m2s] at d49;rw [m2c,m2t] at d123;rw [m2c,m2v] at d145;simp only [m2c] at d142a;obtain ⟨_,hd142,dv,rfl,Vk⟩:=d142a;have d142:=jv hd142;have rt3:qf K3 q = some cs2:=by rw [← m2c];exact w3.root
  have k3q:∀ C,qf (qn K3 q C) q = some C:=fun C=>zG (qA rt3);obtain ⟨mx,YC⟩:∃ z:Nat,z = max dv r:=⟨_,rfl⟩
  have hmxI:(if (dv:Int) < (r:Int) then (r:Int) else (dv:Int)) = (mx:Int):=by
   rw [YC];split <;> omega
  have hmxN:(if dv < r then (r:Int) else (dv:Int)) = (mx:Int):=by
   rw [YC];split <;> omega
  have w4:=Xb w3 (i:=142) rfl (d:=.int .u64 (mx:Int)) ⟨mx,rfl,by omega⟩;simp only [m2c] at w4;obtain ⟨C4,hC4⟩:∃ C,C = cs2.set 142 (.int .u64 (mx:Int)):=⟨_,rfl⟩;have s142:List.take 142 cs2 ++ D.int .u64 (mx:Int) :: List.drop 143 cs2 = C4:=by rw [hC4];exact vp (by omega)
  rw [← hC4] at w4;have l4:C4.length = 147:=w4.len;obtain ⟨_,hd16,v16,rfl,hv16⟩:=w4.nums 135 (by omega) (by omega);have d135:=jv hd16;simp only at d135;have hz16:=qdy ((v16:Int)+1);unfold j5 at hz16;obtain ⟨z16,hz⟩:∃ z:Nat,IntKind.u64.wrap ((v16:Int)+1) = (z:Int):=⟨(IntKind.u64.wrap ((v16:Int)+1)).toNat,by rw [Int.toNat_of_nonneg hz16.1]⟩;have w5:=Xb w4 (i:=135) rfl (d:=.int .u64 (z16:Int)) ⟨z16,rfl,by omega⟩;simp only [Q3] at w5;obtain ⟨C5,JW⟩:∃ C,C = C4.set 135 (.int .u64 (z16:Int)):=⟨_,rfl⟩;have s135:List.take 135 C4 ++ D.int .u64 (z16:Int) :: List.drop 136 C4 = C5:=by rw [JW];exact vp (by omega)
  rw [← JW] at w5;have l5:C5.length = 147:=w5.len;have d145b:=jv w5.c145;simp only [m2v] at d145b;obtain ⟨K5,kS⟩:=ql (qn K3 q C5);rw [kS] at w5;have rt5:qf K5 q = some C5:=w5.root;obtain ⟨K6,kR⟩:=ql (qs K5 [.str name,.int .u64 (m.b.length:Nat),.int .i64 (sl:Nat),.int .i64 0,.vsl true [] 0]);have x6:=jD kR;have w6:=Xa w5 x6;have g6:=kh kR;have rt6:qf K6 q = some C5:=w6.root;obtain ⟨p6,hp6⟩:=ql (K5.length);rw [hp6] at g6;have row6:=w6.rowF;simp only [m2f,m2v] at row6;have hel6:=ZH m.fi;simp only [Kn.size] at hel6;obtain ⟨v',K7,L7,hA,hR7,x7,n7⟩:=row6.append (P:=Tryz.prog) (st:=134) (xt:=134) (e:=174) (x:=.osl p6 5 0 1 5) (xs:=[.str name,.int .u64 (m.b.length:Nat),.int .i64 (sl:Nat),.int .i64 0,.vsl true [] 0]) (m:=1) (by simp) (by simp) (by simp [-qf,g6]) (by simp) (by omega) (by simp) (by omega) (by rw [hel6];simp [qD];omega) (by rw [hel6];simp [qD];omega);obtain ⟨kn,hkn⟩:∃ k:Kn,k = ⟨name,m.b.length,sl,0,true,[]⟩:=⟨_,rfl⟩
  have JU:qu (m.fi ++ [kn]) = qu m.fi ++ [.str name,.int .u64 (m.b.length:Nat),.int .i64 (sl:Nat),.int .i64 0,.vsl true [] 0]:=by
   rw [qhm,hkn];rfl
  rw [← JU] at hR7;have x7':Ext m2.Lf K6 K7:=x7;have w8:=qy5 w6 kn (v:=v') (L:=L7) (by simp only [m2f];exact hR7) x7' n7;simp only [m2f] at w8
  have rt7:qf K7 q = some C5:=x7'.get rt6 (by
   have:=(Kr w6).2.2;exact this)
  obtain ⟨r7,k7,hv7,-,hg7,hL7⟩:=hR7.own (by rw [JU];simp);obtain ⟨z7,hz7⟩:∃ z,z = (qu (m.fi ++ [kn])).length:=⟨_,rfl⟩;rw [← hz7] at hv7;have hlt7:r7 < K7.length:=qA hg7;subst hv7;obtain ⟨C8,hC8⟩:∃ C,C = C5.set 145 (D.osl r7 z7 0 k7 5):=⟨_,rfl⟩;have s145:List.take 145 C5 ++ D.osl r7 z7 0 k7 5 :: List.drop 146 C5 = C8:=by rw [hC8];exact vp (by omega)
  rw [← hC8] at w8;have e1:=jv h.c51;have e2:=h.file;have cfs:=qN (m.fs:Int) (m.fs:Int);have cfs0:¬ (m.fs:Int) = 0:=by omega
  have cfsN:¬ m.fs = 0:=by omega
  have hle23:K2.length≤K3.length:=by omega
  have ctm:(xn:Int).tmod (m.fs:Int) = (sl:Int):=by
   rw [kA,Int.tmod_eq_emod_of_nonneg (Int.natCast_nonneg _)];rfl
  have csl:=qx (sl:Int) (sl:Int);have csu:=qN (sl:Int) (sl:Int);have qcV:List.set K0 K.length none = K1:=jS;simp [-qf,-qn,-qs,-zf,-qT,-Kn.ea,p0,p1,p5,r0,zq,c5,hlen,qo,e1,e2,Kx,kI,g0,qcV,hpf,hob,rt2,cl2,d49,cfs,cfsN,ctm,csl,d145,d123,d142,hha,rt3,k3q,hmxN,s142,l4,d135,hz,s135,l5,d145b,Q3,kS,rt5,kR,hp6,hA,rt7,hlt7,s145,hle23];have exq:∀ {A B:qe} {L:List Nat},Ext L A B→(∀ i,i∈L→i∈m.names q)→Ext (m.names q) A B:=fun hh hm=>hh.mono hm;have y1:=exq x1 (fun _ hi=>by simp at hi)
  have y2:=exq x2 (fun i hi=>by
   simp only [jT,List.not_mem_nil,or_false] at hi;rcases hi with rfl | rfl
   ·exact V5
   ·exact Ko)
  have y3:=exq x3 (fun i hi=>by
   have:m2.bi = m.bi:=(by rw [zJ]);rw [List.mem_singleton.1 hi,this];exact Ko)
  have y5:Ext (m.names q) K3 K5:=kS ▸ exq (Ext.set K3 q C5) (fun i hi=>by rw [List.mem_singleton.1 hi];exact V5);have y6:=exq x6 (fun _ hi=>by simp at hi)
  have y7:=exq x7' (fun i hi=>by
   have:m2.Lf = m.Lf:=(by rw [zJ]);rw [this] at hi;exact qmR hi)
  have y8:=exq (Ext.set K7 q C8) (fun i hi=>by rw [List.mem_singleton.1 hi];exact V5);have y:=(((((y1.trans y2 (NewL.refl _ _)).trans y3 (NewL.refl _ _)).trans y5 (NewL.refl _ _)).trans y6 (NewL.refl _ _)).trans y7 (NewL.refl _ _)).trans y8 (NewL.refl _ _);refine ⟨m.b.length,_,⟨rfl,rfl⟩,_,⟨w8,?_,y,?_,?_,?_,?_,?_,?_,?_,?_,?_,?_,?_⟩,?_,?_,?_,?_⟩
  ·exact { o3 with
    fi:=fun k Ja=>by
     rcases List.mem_append.1 Ja with h1 | h1
     ·have z:=(hk.fi k h1).mono (show m.b.length≤b3.length by omega);exact ⟨z.at_,by simp only [m2s];exact z.slot⟩
     ·rw [List.mem_singleton.1 h1,hkn];exact ⟨by simp only;omega,by simp only [m2s];exact hslt⟩
    nfi:=by simp only;rw [zz,List.length_singleton];omega }
  ·intro i hi;have b1:m2.bi = m.bi:=(by rw [zJ]);have b2:m2.Ld = m.Ld:=(by rw [zJ]);have b4:m2.Lf = m.Lf:=(by rw [zJ]);have hlen1:=x1.len;simp only [Jm.names,b1,b2,jT,vW] at hi ⊢;rcases hi with hi | hi | hi | hi
   ·exact .inl (.inl hi)
   ·exact .inl (.inr (.inl hi))
   ·exact .inl (.inr (.inr (.inl hi)))
   ·rcases n7 i hi with h1 | h1
    ·exact .inl (.inr (.inr (.inr (by rw [← b4];exact h1))))
    ·have:=x6.len;have l5':K5.length = K3.length:=(by rw [← kS];simp [qn]);exact .inr (by omega)
  all_goals first
   | (subst zJ;rfl)
   | (simp only;omega)
   | (simp only;rw [zJ])
   | (simp only;rw [zz,List.length_singleton];omega)
set_option maxHeartbeats 1000000 in
theorem q0q [MaxL] [TxtC] (b:List UInt8) (a:Nat) (ha:a+8≤b.length) (hl:b.length≤1000000):∃ v:Nat,v < 18446744073709551616∧call cx 133 [.vsl false (qd b) b.length,.int .i64 a,.int .i64 8] [] = some (.tup [.int .u64 (v:Int),.bool true],[]):=by
 suffices hs:∃ r,call cx 133 [.vsl false (qd b) b.length,.int .i64 a,.int .i64 8] [] = some r∧∃ v:Int,j5 v∧r = (.tup [.int .u64 v,.bool true],[]) by
  obtain ⟨r,hc,v,hv,rfl⟩:=hs;unfold j5 at hv;exact ⟨v.toNat,by omega,by rw [hc,Int.toNat_of_nonneg hv.1]⟩
 refine VR (X:=cx) (f:=133) _ Tryz.func133 rfl ⟨rfl,rfl⟩ ?_;have a0:¬ (a:Int) < 0:=by omega
 have a1:¬ (b.length:Int) < (a:Int):=by omega
 have a2:=qx ((b.length:Int) - (a:Int)) ((b.length - a:Nat):Int);obtain ⟨z,hz⟩:∃ z,z = b.length - a:=⟨_,rfl⟩;rw [← hz] at a2;have a3:¬ (z:Int) < 8:=by omega
 simp [Tryz.f133,a0,a1,a2,a3];refine Run.loopThen (fun (k:Nat) e H=>k≤8∧qi e 0 = some (.vsl false (qd b) b.length)∧qi e 1 = some (.int .i64 a)∧qi e 9 = some (.int .i64 ((k:Int) - 1))∧H = []∧∃ v,j5 v∧qi e 8 = some (.int .u64 v)) (fun k=>k) 8 ?_ ?_
 ·exact ⟨by omega,by simp,by simp,by simp,rfl,0,by unfold j5;omega,by simp⟩
 rintro k e H ⟨hk,p0,p1,p9,rfl,v,hv,p8⟩;by_cases h0:k = 0
 ·subst h0;simp [p0,p1,p8,p9];exact hv
 ·obtain ⟨j,rfl⟩:∃ j,k = j+1:=⟨k - 1,by omega⟩;replace p9:qi e 9 = some (.int .i64 (j:Int)):=by rw [p9];congr 3;omega
  have j0:¬ (j:Int) < 0:=by omega
  have j1:(0:Int)≤(j:Int):=by omega
  obtain ⟨y,hy⟩:∃ y,y = a+j:=⟨_,rfl⟩;have w1:=qx ((a:Int)+(j:Int)) (y:Int);have w2:=qx ((j:Int) - 1) (((j:Nat):Int) - 1);have y1:y < b.length:=by omega
  have y2:(y:Int) < (b.length:Int):=by omega
  have hd:(qd b).drop y = .int .u8 (b[y].toNat:Int) :: (qd b).drop (y+1):=by
   rw [zU (by simpa using y1)];simp [qd]
  generalize b[y] = c at *;simp [p0,p1,p8,p9,j1,w1,w2,y2,hd];exact ⟨j,by omega,by omega,rfl,qdy _⟩
theorem JGrow.trans {H T U:qe} {q:Nat} {m m' m'':Jm} (h:JGrow H T q m m') (h2:JGrow T U q m' m''):JGrow H U q m m'' :=
 ⟨h2.w,h2.ok,h.ext.trans h2.ext h.new,h.new.trans h2.new h.ext.len,h2.ds.trans h.ds,h2.fs.trans h.fs,h2.key.trans h.key,h2.file.trans h.file,h2.ft.trans h.ft,h2.ne.trans h.ne,h2.tl.trans h.tl,h2.mn.trans h.mn,h2.main.trans h.main,zT h.bl h2.bl⟩
theorem qcv {H:qe} {q:Nat} {m:Jm} (h:JmW H q m) {i:Nat} (hi:i∈m.names q):i < H.length:=by
 simp only [Jm.names,jT,vW] at hi;rcases hi with rfl | rfl | hi | hi
 ·exact qA h.root
 ·exact qA h.bytes
 ·exact h.rowD.lt hi
 ·exact h.rowF.lt hi
theorem qmu {p:Pr}:(Km p).length = p.name.length+1+p.value.length:=by unfold Km;simp;omega
set_option maxHeartbeats 8000000 in
set_option maxRecDepth 10000 in
theorem qzi [MaxL] [TxtC] {H:qe} {q:Nat} {m:Jm} (h0:JmW H q m) (hk:m.Ok) (p:Pr) (ku:p.name.length≤300) (ZB:p.value.length≤300) (Zt:m.b.length+5000≤1000000) (vj:m.fi.length < 1000) (hnda:m.da.length < 1000) :
  ∃ T m' i,call cx 85 [.optr q 147 0,.agg (Enc.cells p)] H = some (.int .i64 (i:Nat),T)∧JGrow H T q m m'∧i < m'.da.length∧m'.b.length≤m.b.length+(119+2 * p.name.length+p.value.length)∧m'.da.length≤m.da.length+1∧m'.fi.length≤m.fi.length+1∧m.da.length≤m'.da.length∧∀ k,k∈m'.da→k∈m.da∨k.cnt = 0:=by
 suffices hs:∃ r,call cx 85 [.optr q 147 0,.agg (Enc.cells p)] H = some r∧∃ (i:Nat) (T:qe) (m':Jm),r = (.int .i64 (i:Nat),T)∧JGrow H T q m m'∧i < m'.da.length∧m'.b.length≤m.b.length+(119+2 * p.name.length+p.value.length)∧m'.da.length≤m.da.length+1∧m'.fi.length≤m.fi.length+1∧m.da.length≤m'.da.length∧∀ k,k∈m'.da→k∈m.da∨k.cnt = 0 by
  obtain ⟨r,hc,a,T,m',rfl,h1⟩:=hs;exact ⟨T,m',a,hc,h1⟩
 refine Zh (X:=cx) (f:=85) _ Tryz.func85 rfl ⟨rfl,rfl⟩ ?_;obtain ⟨name,hname⟩:=ql (Km p)
 have hn:name.length≤1000:=by
  have:=qmu (p:=p);rw [hname] at this;omega
 have hnx:name.length = p.name.length+1+p.value.length:=by rw [← hname];exact qmu
 have qb1:=qgw p (by omega) (by omega);rw [hname] at qb1;have hEp:(Enc.cells p:List D) = [.str p.name,.str p.value]:=rfl;rw [hEp] at qb1;obtain ⟨H1,hH1⟩:=ql (qs H [.str p.name,.str p.value]);have xb:=jD hH1;have gb:=kh hH1;have h:=Xa h0 xb;have ygr:JGrow H H1 q m m:=⟨h,hk,xb.mono (fun _ hi=>by simp at hi),NewL.refl _ _,rfl,rfl,rfl,rfl,rfl,rfl,rfl,rfl,rfl,qE _⟩;have r0:=h.root;have zq:=h.len;have c5:=jv h.c144
 have hlen:zf Tryz.prog 134 m.dv = some (.int .i64 m.da.length):=by
  have jd:=ZH m.da;rcases h.rowD with ⟨hv,XR,_⟩ | ⟨ro,nn,hv,QB,_,_⟩
  ·rw [XR] at jd;have:m.da.length = 0:=(by simp at jd;omega);rw [hv,this];simp
  ·have:nn = m.da.length:=by
    rw [jd] at QB;simp at QB;omega
   rw [hv,this];simp
 simp [-qf,-qn,-qs,-zf,-qT,Tryz.f85,hEp,hH1,qb1,gb];obtain ⟨pb,hpb⟩:∃ x,x = H.length:=⟨_,rfl⟩;rw [← hpb] at gb ⊢;refine Run.loopThen (fun (i:Nat) e K=>i≤m.da.length∧qi e 0 = some (.optr q 147 0)∧qi e 3 = some (.optr pb 2 0)∧qi e 5 = some (.str name)∧qi e 6 = some (.int .i64 i)∧K = H1) (fun i=>m.da.length - i) 0 ?_ ?_
 ·exact ⟨vV _,by simp,by simp,by simp,by simp,rfl⟩
 rintro i e K ⟨hi,p0,p3,p5,pv6,rfl⟩;by_cases qg:i < m.da.length
 ·have qo:=zI qg;have hw:=qx ((i:Int)+1) ((i+1:Nat):Int);obtain ⟨k,r,VF,vf,vT,QN,jY⟩:=qcx qg;have qQ:qu m.da≠[]:=fun e0=>by rw [e0] at vf;simp at vf
  obtain ⟨ro,nn,hfv,kH,ZC,hLf⟩:=h.rowD.own qQ
  have zx:nn = m.da.length:=by
   have:=ZH m.da;rw [this] at kH;simp at kH;omega
  have jd:(qu m.da).length = m.da.length * 5:=by rw [kH,zx]
  rw [zx] at hfv;rw [hfv] at c5;by_cases ht:k.text = name
  ·simp [-qf,-qn,-qs,-Kn.ea,p0,p3,p5,pv6,r0,zq,c5,qo,ZC,jd,vf,ht];exact ⟨i,K,⟨rfl,rfl⟩,m,ygr,qg,by omega,by omega,by omega,qE _,fun k h=>.inl h⟩
  ·simp [-qf,-qn,-qs,-Kn.ea,p0,p3,p5,pv6,r0,zq,c5,qo,hw,ZC,jd,vf,ht];exact ⟨i+1,by omega,by omega,by omega⟩
 ·have qo:=zL qg;have KD:=hk.ds;have hft:=hk.ft;have jM:=hk.bl;obtain ⟨qh,Kx,xh,J2,rfl⟩:=qiX m.key m.file (Sl.mk false name (by simp)) (by simp only;omega);unfold j5 at J2;obtain ⟨xn,rfl⟩:∃ xn:Nat,xh = (xn:Int):=⟨xh.toNat,by omega⟩;have hxn:xn < 18446744073709551616:=by omega
  replace Kx:call cx 86 [.bool m.key,.agg (qd m.file.l),.vsl false (qd name) name.length] [] = some (.int .u64 (xn:Int),[]):=Kx;obtain ⟨qp,hpf,tb,htb,rfl⟩:=qwh xn 0 0 0 0 0 hxn (by omega) (by omega) (by omega) (by omega) (by omega) false name (by omega);replace hpf:call cx 130 [.agg (.int .u64 (xn:Int)::Xx [.int .u64 0,.vsl false (qd name) name.length])] [] = some (.vsl false (qd tb) tb.length,[]):=hpf;have ha8:=qh7 (64+name.length);obtain ⟨K0,kI⟩:=ql (qs K (qd name));have g0:=kh kI;obtain ⟨K1,jS⟩:=ql (jO K0 [K.length])
  have x1:Ext [] K K1:=by
   refine ⟨?_,fun j hj _=>?_⟩
   ·rw [← jS,Zp,← kI,zW];omega
   ·rw [← jS,Yd (by simp;omega),← kI,vk hj]
  have w1:=Xa h x1;obtain ⟨K2,cs2,hob,w2,o2,x2,l2⟩:=qgN w1 hk tb (by omega) (by omega);obtain ⟨m2,zJ⟩:∃ x,x = ({ m with b:=m.b ++ tb,cs:=cs2 }:Jm):=⟨_,rfl⟩;rw [← zJ] at w2 o2;have m2b:m2.b.length = m.b.length+tb.length:=by rw [zJ];simp
  have m2dD:m2.da = m.da:=by rw [zJ]
  have m2vD:m2.dv = m.dv:=by rw [zJ]
  have m2c:m2.cs = cs2:=by rw [zJ]
  have m2s:m2.ds = m.ds:=by rw [zJ]
  obtain ⟨sl,kA⟩:∃ s,s = xn % m.ds:=⟨_,rfl⟩;have hslt:sl < m.ds:=by rw [kA];exact Yh _ (by omega)
  obtain ⟨K3,b3,r,hha,hr,hb3,w3,o3,x3,l3⟩:=qqq w2 o2 (v:=m2.dv) (ks:=m2.da) w2.rowD (fun k Ja=>by
   rw [m2dD] at Ja;have:=(hk.da k Ja).at_;omega) (by rw [m2dD];omega) 288 m.b.length sl (by omega) (by omega)
  rw [m2vD,show ((288:Nat):Int) = 288 from rfl] at hha;have rt2:qf K2 q = some cs2:=by rw [← m2c];exact w2.root
  have cl2:cs2.length = 147:=by rw [← m2c];exact w2.len
  have d48:=jv w2.c48;have d121:=jv w2.c121;have d144:=jv w2.c144;rw [m2c,m2s] at d48;rw [m2c] at d121;rw [m2c,m2vD] at d144;obtain ⟨_,hd138,dv,rfl,Vk⟩:=w3.nums 138 (by omega) (by omega);simp only [m2c] at hd138;have d138:=jv hd138;have rt3:qf K3 q = some cs2:=by rw [← m2c];exact w3.root
  have k3q:∀ C,qf (qn K3 q C) q = some C:=fun C=>zG (qA rt3);obtain ⟨mx,YC⟩:∃ z:Nat,z = max dv r:=⟨_,rfl⟩
  have hmxI:(if (dv:Int) < (r:Int) then (r:Int) else (dv:Int)) = (mx:Int):=by
   rw [YC];split <;> omega
  have hmxN:(if dv < r then (r:Int) else (dv:Int)) = (mx:Int):=by
   rw [YC];split <;> omega
  have w4:=Xb w3 (i:=138) rfl (d:=.int .u64 (mx:Int)) ⟨mx,rfl,by omega⟩;simp only [m2c] at w4;obtain ⟨C4,hC4⟩:∃ C,C = cs2.set 138 (.int .u64 (mx:Int)):=⟨_,rfl⟩;have s138:List.take 138 cs2 ++ D.int .u64 (mx:Int) :: List.drop 139 cs2 = C4:=by rw [hC4];exact vp (by omega)
  rw [← hC4] at w4;have l4:C4.length = 147:=w4.len;obtain ⟨_,hd16,v16,rfl,hv16⟩:=w4.nums 134 (by omega) (by omega);have d134:=jv hd16;simp only at d134;have hz16:=qdy ((v16:Int)+1);unfold j5 at hz16;obtain ⟨z16,hz⟩:∃ z:Nat,IntKind.u64.wrap ((v16:Int)+1) = (z:Int):=⟨(IntKind.u64.wrap ((v16:Int)+1)).toNat,by rw [Int.toNat_of_nonneg hz16.1]⟩;have w5:=Xb w4 (i:=134) rfl (d:=.int .u64 (z16:Int)) ⟨z16,rfl,by omega⟩;simp only [Q3] at w5;obtain ⟨C5,JW⟩:∃ C,C = C4.set 134 (.int .u64 (z16:Int)):=⟨_,rfl⟩;have s134:List.take 134 C4 ++ D.int .u64 (z16:Int) :: List.drop 135 C4 = C5:=by rw [JW];exact vp (by omega)
  rw [← JW] at w5;have l5:C5.length = 147:=w5.len;have d144b:=jv w5.c144;simp only [m2vD] at d144b;obtain ⟨K5,kS⟩:=ql (qn K3 q C5);rw [kS] at w5;have rt5:qf K5 q = some C5:=w5.root;obtain ⟨K6,kR⟩:=ql (qs K5 [.str name,.int .u64 (m.b.length:Nat),.int .i64 (sl:Nat),.int .i64 0,.vsl true [] 0]);have x6:=jD kR;have w6:=Xa w5 x6;have g6:=kh kR;have rt6:qf K6 q = some C5:=w6.root;obtain ⟨p6,hp6⟩:=ql (K5.length);rw [hp6] at g6;have row6:=w6.rowD;simp only [m2dD,m2vD] at row6;have hel6:=ZH m.da;simp only [Kn.size] at hel6;obtain ⟨v',K7,L7,hA,hR7,x7,n7⟩:=row6.append (P:=Tryz.prog) (st:=134) (xt:=134) (e:=174) (x:=.osl p6 5 0 1 5) (xs:=[.str name,.int .u64 (m.b.length:Nat),.int .i64 (sl:Nat),.int .i64 0,.vsl true [] 0]) (m:=1) (by simp) (by simp) (by simp [-qf,g6]) (by simp) (by omega) (by simp) (by omega) (by rw [hel6];simp [qD];omega) (by rw [hel6];simp [qD];omega);obtain ⟨kn,hkn⟩:∃ k:Kn,k = ⟨name,m.b.length,sl,0,true,[]⟩:=⟨_,rfl⟩
  have JU:qu (m.da ++ [kn]) = qu m.da ++ [.str name,.int .u64 (m.b.length:Nat),.int .i64 (sl:Nat),.int .i64 0,.vsl true [] 0]:=by
   rw [qhm,hkn];rfl
  rw [← JU] at hR7;have x7':Ext m2.Ld K6 K7:=x7;have w8:=qy6 w6 kn (v:=v') (L:=L7) (by simp only [m2dD];exact hR7) x7' n7;simp only [m2dD] at w8
  have rt7:qf K7 q = some C5:=x7'.get rt6 (by
   have:=(Kr w6).2.1;exact this)
  obtain ⟨r7,k7,hv7,-,hg7,hL7⟩:=hR7.own (by rw [JU];simp);obtain ⟨z7,hz7⟩:∃ z,z = (qu (m.da ++ [kn])).length:=⟨_,rfl⟩;rw [← hz7] at hv7;have hlt7:r7 < K7.length:=qA hg7;subst hv7;obtain ⟨C8,hC8⟩:∃ C,C = C5.set 144 (D.osl r7 z7 0 k7 5):=⟨_,rfl⟩;have s144:List.take 144 C5 ++ D.osl r7 z7 0 k7 5 :: List.drop 145 C5 = C8:=by rw [hC8];exact vp (by omega)
  rw [← hC8] at w8;have e1:=jv h.c51;have e2:=h.file;have cfs:=qN (m.ds:Int) (m.ds:Int);have cfs0:¬ (m.ds:Int) = 0:=by omega
  have cfsN:¬ m.ds = 0:=by omega
  have hle23:K2.length≤K3.length:=by omega
  have ctm:(xn:Int).tmod (m.ds:Int) = (sl:Int):=by
   rw [kA,Int.tmod_eq_emod_of_nonneg (Int.natCast_nonneg _)];rfl
  have csl:=qx (sl:Int) (sl:Int);have csu:=qN (sl:Int) (sl:Int);have qcV:List.set K0 K.length none = K1:=jS;have exq:∀ {A B:qe} {L:List Nat},Ext L A B→(∀ i,i∈L→i∈m.names q)→Ext (m.names q) A B:=fun hh hm=>hh.mono hm;have y1:=exq x1 (fun _ hi=>by simp at hi)
  have y2:=exq x2 (fun i hi=>by
   simp only [jT,List.not_mem_nil,or_false] at hi;rcases hi with rfl | rfl
   ·exact V5
   ·exact Ko)
  have y3:=exq x3 (fun i hi=>by
   have:m2.bi = m.bi:=(by rw [zJ]);rw [List.mem_singleton.1 hi,this];exact Ko)
  have y5:Ext (m.names q) K3 K5:=kS ▸ exq (Ext.set K3 q C5) (fun i hi=>by rw [List.mem_singleton.1 hi];exact V5);have y6:=exq x6 (fun _ hi=>by simp at hi)
  have y7:=exq x7' (fun i hi=>by
   have:m2.Ld = m.Ld:=(by rw [zJ]);rw [this] at hi;exact qg8 hi)
  have y8:=exq (Ext.set K7 q C8) (fun i hi=>by rw [List.mem_singleton.1 hi];exact V5);have y:=(((((y1.trans y2 (NewL.refl _ _)).trans y3 (NewL.refl _ _)).trans y5 (NewL.refl _ _)).trans y6 (NewL.refl _ _)).trans y7 (NewL.refl _ _)).trans y8 (NewL.refl _ _)
  obtain ⟨K8,m8,VL,gr8,XS,hd8,hf8⟩:∃ (K8:qe) (m8:Jm),qn K7 q C8 = K8∧JGrow K K8 q m m8∧m8.b.length = m.b.length+tb.length∧m8.da = m.da ++ [kn]∧m8.fi = m.fi:=by
   refine ⟨_,_,rfl,⟨w8,?_,y,?_,?_,?_,?_,?_,?_,?_,?_,?_,?_,?_⟩,?_,?_,?_⟩
   ·exact { o3 with
     da:=fun k Ja=>by
      rcases List.mem_append.1 Ja with h1 | h1
      ·have z:=(hk.da k h1).mono (show m.b.length≤b3.length by omega);exact ⟨z.at_,by simp only [m2s];exact z.slot,z.arr,z.nil,z.txt⟩
      ·rw [List.mem_singleton.1 h1,hkn];exact ⟨by simp only;omega,by simp only [m2s];exact hslt,ArrOk.zero _,fun _=>rfl,by simp only;exact hn⟩
     cn:=fun k Ja=>by
      rcases List.mem_append.1 Ja with h1 | h1
      ·have:=hk.cn k h1;simp only [zJ];exact this
      ·rw [List.mem_singleton.1 h1,hkn];exact vV _
     nda:=by simp only;rw [zz,List.length_singleton];omega }
   ·intro i hi;have b1:m2.bi = m.bi:=(by rw [zJ]);have b2:m2.Ld = m.Ld:=(by rw [zJ]);have b4:m2.Lf = m.Lf:=(by rw [zJ]);have hlen1:=x1.len;simp only [Jm.names,b1,jT,vW] at hi ⊢;rcases hi with hi | hi | hi | hi
    ·exact .inl (.inl hi)
    ·exact .inl (.inr (.inl hi))
    rotate_left
    ·exact .inl (.inr (.inr (.inr (by rw [← b4];exact hi))))
    ·rcases n7 i hi with h1 | h1
     ·exact .inl (.inr (.inr (.inl (by rw [← b2];exact h1))))
     ·have:=x6.len;have l5':K5.length = K3.length:=(by rw [← kS];simp [qn]);exact .inr (by omega)
   all_goals first
    | (subst zJ;rfl)
    | (simp only;omega)
    | (simp only;rw [zJ])
    | (simp only;rw [zz,List.length_singleton];omega)
  have gx:=ygr.trans gr8;obtain ⟨K9,m9,a,hfld,gr9,ha9,hb9,hd9,hf9⟩:=qyB gr8.w gr8.ok p.name (by omega) (by omega) (by rw [hf8];exact vj);obtain ⟨a32,ha32⟩:∃ z,z = a+32:=⟨_,rfl⟩;obtain ⟨b32,hb32⟩:∃ z,z = m.b.length+32:=⟨_,rfl⟩;have bl9:=gr9.bl;have bm9:=gr9.ok.bmax;obtain ⟨v,hv,hget8⟩:=q0q m9.b a32 (by omega) bm9;obtain ⟨K10,b10,hput1,hb10,w10,o10,x10,l10⟩:=qaq gr9.w gr9.ok b32 v (by omega);obtain ⟨K11,b11,hput2,hb11,w11,o11,x11,l11⟩:=qaq w10 o10 a32 m.b.length (by simp only;omega)
  have g8b:qf K8 pb = some [.str p.name,.str p.value]:=gr8.ext.get gb (fun hi=>by
   have:=qcv h0 hi;omega)
  have e9:=gr9.w.root;have l9:=gr9.w.len;have c9:=jv gr9.w.c143;have y9:=gr9.w.bytes;have wA:=qN ((a:Int)+32) (a32:Int);have wA2:=qx (a32:Int) (a32:Int);have wB:=qN ((m.b.length:Int)+32) (b32:Int);have e11:=w11.root;have c11:=jv w11.c144;simp only at e11 c11
  have hne11:qu m9.da≠[]:=fun e0=>by
   have:=ZH m9.da;rw [e0,hd9,hd8] at this;simp at this
  obtain ⟨ro,nn,hfv,kH,ZC,hLd⟩:=w11.rowD.own hne11;simp only at hfv kH
  have zx:nn = m.da.length+1:=by
   have h1:=ZH m9.da;rw [h1,hd9,hd8] at kH;simp at kH;omega
  rw [hfv,zx] at c11;have hlN:∀ x,zf Tryz.prog 134 (.osl ro x 0 (m.da.length+1) 5) = some (.int .i64 ((m.da.length:Int)+1)):=fun x=>by simp
  have wN:=qx (m.da.length:Int) (m.da.length:Int);simp [-qf,-qn,-qs,-zf,-qT,-Kn.ea,p0,p3,p5,pv6,r0,zq,c5,hlen,qo,e1,e2,Kx,kI,g0,qcV,hpf,hob,rt2,cl2,d48,cfs,cfsN,ctm,csl,d144,d121,d138,hha,rt3,k3q,hmxN,s138,l4,d134,hz,s134,l5,d144b,Q3,kS,rt5,kR,hp6,hA,rt7,hlt7,s144,VL,g8b,hfld,e9,l9,c9,y9,hget8,wA,wA2,wB,hput1,hput2,e11,c11,hlN,wN];dsimp only at hb10 hb11;refine ⟨m.da.length,K11,⟨rfl,rfl⟩,_,(gx.trans gr9).trans ⟨w11,o11,?_,?_,rfl,rfl,rfl,rfl,rfl,rfl,rfl,rfl,rfl,?_⟩,?_,?_,?_,?_,?_,?_⟩
  ·have z1:Ext (m9.names q) K9 K10:=x10.mono fun i hi=>by rw [List.mem_singleton.1 hi];exact Ko
   have z2:Ext (m9.names q) K10 K11:=x11.mono fun i hi=>by rw [List.mem_singleton.1 hi];exact Ko
   exact z1.trans z2 (NewL.refl _ _)
  ·exact NewL.refl _ _
  ·simp only;omega
  ·simp only;rw [hd9,hd8];simp
  ·simp only;omega
  ·simp only;rw [hd9,hd8];simp
  ·simp only;rw [hf8] at hf9;omega
  ·simp only;rw [hd9,hd8];simp
  ·intro k hk9;simp only at hk9;rw [hd9,hd8] at hk9;rcases List.mem_append.1 hk9 with h1 | h1
   ·exact .inl h1
   ·rw [List.mem_singleton.1 h1,hkn];exact .inr rfl
theorem qlJ [MaxL] [TxtC] (i:Nat) (hi:i≤1000):call cx 136 [.int .i64 i] [] = some (.int .i64 (ZP i:Nat),[]):=by
 by_cases h:i≤6
 ·have:i = 0∨i = 1∨i = 2∨i = 3∨i = 4∨i = 5∨i = 6:=by omega
  rcases this with rfl | rfl | rfl | rfl | rfl | rfl | rfl <;>
  ·refine qy Tryz.func136 rfl ⟨rfl,rfl⟩ ?_;simp [Tryz.f136,ZP]
   try decide
 ·have h0:(6:Int) < (i:Int):=by omega
  have h1:¬ (i:Int) < 0:=by omega
  have h2:¬ i < 6:=by omega
  have h3:6 < i:=by omega
  refine qy Tryz.func136 rfl ⟨rfl,rfl⟩ ?_;simp [Tryz.f136,ZP,h0,h1,h2]
theorem qh5 {bl:Nat} {arrs:List Nat} {n:Nat} (h:ArrOk bl arrs n):arrs.length≤n:=by
 cases hl:arrs.length with
 | zero=>omega
 | succ j =>
  have h1:=h.lo j hl
  have:∀ k,k≤vo k:=fun k=>by
   induction k with
   | zero=>exact qE _
   | succ k ih =>
    have:=qif (j:=k);omega
  have:=this j;omega
theorem qtS (k:Nat):vo k≤256 * k:=by
 induction k with
 | zero=>exact qE _
 | succ k ih =>
  have:=qgm k;simp only [vo];omega
theorem qet {H T:qe} {q:Nat} {m:Jm} {L:List Nat} (h:JmW H q m) (he:Ext L H T) (hd:∀ i,i∈m.names q→i ∉ L):JmW T q m :=
 { h with
  root:=he.get h.root (hd _ V5)
  bytes:=he.get h.bytes (hd _ Ko)
  rowD:=h.rowD.ext he (fun i hi=>hd i (qg8 hi))
  rowF:=h.rowF.ext he (fun i hi=>hd i (qmR hi)) }
theorem qr8 (H:qe) (i:Nat):Ext [i] H (jO H [i]):=⟨by rw [Zp];exact qE _,fun j _ hn=>Yd hn⟩
theorem q0k (K:qe) (nl:Bool) (arrs:List Nat) (a:Nat) (zF:nl = true→arrs = []) (hl:arrs.length≤1000) :
  ∃ d1 T1 d2 T2 r,qT Tryz.prog (qs K []) 96 96 (.osl K.length 0 0 0 1) (.vsl nl (qJ .u64 arrs) arrs.length) = some (d1,T1)∧qT Tryz.prog (qs T1 [.int .u64 (a:Nat)]) 96 96 d1 (.osl T1.length 1 0 1 1) = some (.osl r (arrs.length+1) 0 (arrs.length+1) 1,T2)∧qf T2 r = some (qJ .u64 (arrs ++ [a]))∧Ext [] K T2∧K.length≤r∧d2 = r:=by
 have x0:=Ext.new K [];have g0:qf (qs K []) K.length = some []:=by rw [zA]
 have r0:RowA (qs K []) 1 (.osl K.length 0 0 0 1) [] [K.length]:=RowA.of (by simp) g0
 obtain ⟨d1,T1,L1,hA,hR,hX,hN⟩:∃ d1 T1 L1,qT Tryz.prog (qs K []) 96 96 (.osl K.length 0 0 0 1) (.vsl nl (qJ .u64 arrs) arrs.length) = some (d1,T1)∧RowA T1 1 d1 (qJ .u64 arrs) L1∧Ext [K.length] (qs K []) T1∧NewL [K.length] L1 (qs K []).length:=by
  by_cases h0:arrs = []
  ·subst h0;exact ⟨.osl K.length 0 0 0 1,qs K [],[K.length],by simp [-qs,-qf,qJ,g0];exact qdK g0,r0,Ext.refl _ _,NewL.refl _ _⟩
  ·have hp:arrs.length≠0:=fun h=>h0 (List.length_eq_zero_iff.1 h)
   have hf:nl = false:=by
    cases nl with
    | false=>rfl
    | true=>exact absurd (zF rfl) h0
   subst hf;exact r0.append (P:=Tryz.prog) (st:=96) (xt:=96) (e:=24) (x:=.vsl false (qJ .u64 arrs) arrs.length) (xs:=qJ .u64 arrs) (m:=arrs.length) (by simp) (by simp) (by simp [-qf]) (by simp) hp (by simp) (by omega) (by simp [qD];omega) (by simp [qD];omega)
 have g1:qf (qs T1 [.int .u64 (a:Nat)]) T1.length = some [.int .u64 (a:Nat)]:=by rw [zA]
 have r1:=hR.ext (Ext.new T1 [.int .u64 (a:Nat)]) (fun _ _=>by simp);obtain ⟨d2,T2,L2,JX,hR2,hX2,hN2⟩:=r1.append (P:=Tryz.prog) (st:=96) (xt:=96) (e:=24) (x:=.osl T1.length 1 0 1 1) (xs:=[.int .u64 (a:Nat)]) (m:=1) (by simp) (by simp) (by simp [-qf,-qs,g1]) (by simp) (by omega) (by simp) (by omega) (by simp [qD];omega) (by simp [qD];omega);have e2:qJ .u64 arrs ++ [.int .u64 (a:Nat)] = qJ .u64 (arrs ++ [a]):=by rw [qg7];rfl
 rw [e2] at hR2;obtain ⟨r,n,rfl,hn,hg,hL⟩:=hR2.own (by rw [← e2];simp);rw [qje] at hn JX;have YB:n = arrs.length+1:=by simp at hn;omega
 subst YB;rw [zz,List.length_singleton] at JX
 have k1:∀ i,i∈L1→K.length≤i:=fun i hi=>by
  rcases hN i hi with h | h
  ·rw [List.mem_singleton.1 h];exact qE _
  ·rw [zW] at h;omega
 have y1:Ext [] K T1:=by
  refine ⟨by have:=hX.len;rw [zW] at this;omega,fun i hi _=>?_⟩;rw [hX.out i (by rw [zW];omega) (by simp;omega),vk hi]
 have y2:Ext [] K T2:=by
  have z:=hX2.len;rw [zW] at z;refine ⟨by have:=y1.len;omega,fun i hi _=>?_⟩;have hi1:i < T1.length:=jZ hi y1.len;rw [hX2.out i (by rw [zW];omega) (fun hc=>by have:=k1 i hc;omega),vk hi1,y1.out i hi (by simp)]
 refine ⟨d1,T1,r,T2,r,hA,JX,hg,y2,?_,rfl⟩;have hrL:r∈L2:=by rw [hL];simp
 rcases hN2 r hrL with h | h
 ·exact k1 r h
 ·rw [zW] at h;have:=y1.len;omega
set_option maxHeartbeats 8000000 in
set_option maxRecDepth 10000 in
theorem qqp [MaxL] [TxtC] {H:qe} {q:Nat} {m:Jm} (h:JmW H q m) (hk:m.Ok) (nl:Bool) (arrs:List Nat) (n a0 v:Nat) (zF:nl = true→arrs = []) (ha:ArrOk m.b.length arrs n) (hn:n≤1000) (JB:a0+8≤m.b.length) (_:v < 18446744073709551616) (Zt:m.b.length+5000≤1000000) :
  ∃ T m' arrs' z,call cx 90 [.optr q 147 0,.vsl nl (qJ .u64 arrs) arrs.length,.int .i64 n,.int .u64 a0,.int .u64 v] H = some (.tup [.vsl false (qJ .u64 arrs') arrs'.length,.int .i64 (z:Nat)],T)∧z≤256∧JGrow H T q m m'∧ArrOk m'.b.length arrs' (n+1)∧m'.b.length≤m.b.length+(24+8 * ZP arrs.length)∧m'.da = m.da∧m'.fi = m.fi:=by
 suffices hs:∃ r,call cx 90 [.optr q 147 0,.vsl nl (qJ .u64 arrs) arrs.length,.int .i64 n,.int .u64 a0,.int .u64 v] H = some r∧∃ (T:qe) (m':Jm) (arrs':List Nat) (z:Nat),r = (.tup [.vsl false (qJ .u64 arrs') arrs'.length,.int .i64 (z:Nat)],T)∧z≤256∧JGrow H T q m m'∧ArrOk m'.b.length arrs' (n+1)∧m'.b.length≤m.b.length+(24+8 * ZP arrs.length)∧m'.da = m.da∧m'.fi = m.fi by
  obtain ⟨r,hc,T,m',arrs',z,rfl,h1⟩:=hs;exact ⟨T,m',arrs',z,hc,h1⟩
 refine Zh (X:=cx) (f:=90) _ Tryz.func90 rfl ⟨rfl,rfl⟩ ?_;have QC:=qh5 ha;simp [-qf,-qn,-qs,-zf,-qT,Tryz.f90];refine Run.loopThen (fun (i:Nat) e K=>i≤arrs.length∧qi e 0 = some (.optr q 147 0)∧qi e 1 = some (.vsl nl (qJ .u64 arrs) arrs.length)∧qi e 2 = some (.int .i64 n)∧qi e 3 = some (.int .u64 a0)∧qi e 4 = some (.int .u64 v)∧qi e 12 = some (.int .i64 (vo (i - 1):Nat))∧qi e 13 = some (.int .i64 (vo i:Nat))∧qi e 14 = some (.int .i64 i)∧K = H) (fun i=>arrs.length - i) 0 ?_ ?_
 ·exact ⟨vV _,by simp,by simp,by simp,by simp,by simp,by simp [vo],by simp [vo],by simp,rfl⟩
 rintro i e K ⟨hi,p0,p1,p2,p3,p4,p12,p13,p14,rfl⟩;by_cases qg:i < arrs.length
 ·have qo:=zI qg;have hw:=qx ((i:Int)+1) ((i+1:Nat):Int);have hr:=qlJ i (by omega);have h1:=qtS i;have h2:=qgm i
  have qZ:IntKind.i64.wrap ((vo i:Int)+(ZP i:Int)) = ((vo (i+1):Nat):Int):=by
   simp only [vo];rw [wrap_i64] <;> omega
  simp [-qf,-qn,-qs,p0,p1,p2,p3,p4,p12,p13,p14,qo,hw,hr,qZ];exact ⟨i+1,by omega,by omega,by simp,by simp,by simp⟩
 ·have qo:=zL qg;have Q9:i = arrs.length:=by omega
  subst Q9;by_cases Zw:n = vo arrs.length
  ·obtain ⟨r,hr⟩:∃ r,r = ZP arrs.length:=⟨_,rfl⟩;have ZX:=qi3 arrs.length;have hr2:=qgm arrs.length;have hrm:=qlJ arrs.length (by omega);rw [← hr] at hrm;have e0:(n:Int) = (vo arrs.length:Int):=(by omega);obtain ⟨zs,hzs⟩:∃ z:List D,z = List.replicate r (.int .u64 0):=⟨_,rfl⟩;have Q2:zs.length = r:=(by rw [hzs];simp);obtain ⟨qp,vy,tb,htb,rfl⟩:=qwp 0 (by omega) false zs (fun d hd=>by rw [hzs] at hd;rw [List.eq_of_mem_replicate hd];exact ⟨0,rfl,by omega⟩) (by simp) (by omega) (by omega);rw [Q2] at vy htb;replace vy:call cx 137 [.agg [.int .u64 0,.vsl false zs r]] [] = some (.vsl false (qd tb) tb.length,[]):=vy
   have hmb:8 * (r:Int)≤(qD:Int)∧r≤qD:=by
    simp only [qD];omega
   have kj:∀ x,x∈zs→idFree x = true:=fun d hd=>by
    rw [hzs] at hd;rw [List.eq_of_mem_replicate hd];rfl
   have Jd:idFree.idFreeL zs = true:=(by rw [kY];exact List.all_eq_true.2 kj);have hzt:List.take r zs = zs:=(by rw [← Q2];exact List.take_length);obtain ⟨K0,kI⟩:=ql (qs K zs);have g0:=kh kI;obtain ⟨K1,jS⟩:=ql (jO K0 [K.length]);have qcV:List.set K0 K.length none = K1:=jS
   have x1:Ext [] K K1:=by
    refine ⟨?_,fun j hj _=>?_⟩
    ·rw [← jS,Zp,← kI,zW];omega
    ·rw [← jS,Yd (by simp;omega),← kI,vk hj]
   have hbm:=hk.bmax;have w1:=Xa h x1;obtain ⟨K2,cs2,hob,w2,o2,x2,l2⟩:=qgN w1 hk tb (by omega) (by omega);have r2:=w2.root;have l2':=w2.len;obtain ⟨_,hd137,v137,rfl,hv137⟩:=w2.nums 137 (by omega) (by omega);simp only at r2 l2' hd137;have d137:=jv hd137;have hz16:=qdy ((v137:Int)+1);unfold j5 at hz16;obtain ⟨z16,hz⟩:∃ z:Nat,IntKind.u64.wrap ((v137:Int)+1) = (z:Int):=⟨(IntKind.u64.wrap ((v137:Int)+1)).toNat,by rw [Int.toNat_of_nonneg hz16.1]⟩;have w5:=Xb w2 (i:=137) rfl (d:=.int .u64 (z16:Int)) ⟨z16,rfl,by omega⟩;simp only at w5;obtain ⟨C5,JW⟩:∃ C,C = cs2.set 137 (.int .u64 (z16:Int)):=⟨_,rfl⟩;have s137:List.take 137 cs2 ++ D.int .u64 (z16:Int) :: List.drop 138 cs2 = C5:=(by rw [JW];exact vp (by omega));rw [← JW] at w5;obtain ⟨K5,kS⟩:=ql (qn K2 q C5);rw [kS] at w5
   obtain ⟨pa,hpa8,hcase⟩:∃ pa,pa+8≤m.b.length∧((arrs.length = 0∧pa = a0)∨(∃ j a,arrs.length = j+1∧arrs[j]? = some a∧pa = a+16)):=by
    cases hl:arrs.length with
    | zero=>exact ⟨a0,JB,.inl ⟨rfl,rfl⟩⟩
    | succ j =>
     have zO:j < arrs.length:=(by omega);have h9:=ha.at_ j arrs[j] (zn zO);exact ⟨arrs[j]+16,by omega,.inr ⟨j,arrs[j],rfl,zn zO,rfl⟩⟩
   obtain ⟨m5,hm5⟩:∃ x,x = ({ m with b:=m.b ++ tb,cs:=C5 }:Jm):=⟨_,rfl⟩;rw [← hm5] at w5;have o5:m5.Ok:=(by rw [hm5];exact { o2 with });have m5b:m5.b.length = m.b.length+tb.length:=(by rw [hm5];simp);obtain ⟨K6,b6,hput6,hb6,w6,o6,x6,l6⟩:=qaq w5 o5 pa m.b.length (by omega);obtain ⟨d1,T1,d2,T2,r2i,YQ,JX,hgr,xg,hri,-⟩:=q0k K6 nl arrs m.b.length zF (by omega);obtain ⟨T1',hT1'⟩:=ql (qs T1 [.int .u64 (m.b.length:Nat)]);rw [hT1'] at JX;have w7:=Xa w6 xg;obtain ⟨p24,hp24⟩:∃ p,p = m.b.length+24:=⟨_,rfl⟩;obtain ⟨T8,b8,hput8,XS,w8,o8,x8,l8⟩:=qaq w7 o6 p24 v (by simp only;omega);have hbi6:m5.bi < K6.length:=qA w6.bytes;have g8:qf T8 r2i = some (qJ .u64 (arrs ++ [m.b.length])):=x8.get hgr (by simp only [qhE];omega);have wl:=qx (arrs.length:Int) (arrs.length:Int)
   have hda:(qJ .u64 (arrs ++ [m.b.length])).drop arrs.length = [.int .u64 (m.b.length:Nat)]:=by
    rw [qg7];simp [qJ]
   have wlt:(arrs.length:Int) < (arrs.length:Int)+1:=(by omega);have wb:=qN ((m.b.length:Int)+24) (p24:Int);have wb2:=qN (p24:Int) (p24:Int);have wz:IntKind.i64.wrap 0 = 0:=rfl;have wz2:IntKind.u64.wrap 0 = 0:=rfl;obtain ⟨T9,hT9⟩:=ql (jO T8 [r2i]);have hT9':List.set T8 r2i none = T9:=hT9;dsimp only at XS;have hb88:b8.length = m.b.length+tb.length:=(by omega);have z1:Ext (m.names q) K K1:=x1.mono fun i hi=>by simp at hi
   have z2:Ext (m.names q) K1 K2:=x2.mono fun i hi=>by
    simp only [jT,List.not_mem_nil,or_false] at hi;rcases hi with rfl | rfl
    ·exact V5
    ·exact Ko
   have z5:Ext (m.names q) K2 K5:=kS ▸ (Ext.set K2 q C5).mono fun i hi=>by rw [List.mem_singleton.1 hi];exact V5
   have b5:m5.bi = m.bi:=(by rw [hm5]);have z6:Ext (m.names q) K5 K6:=x6.mono fun i hi=>by rw [List.mem_singleton.1 hi,b5];exact Ko
   have z7:Ext (m.names q) K6 T2:=xg.mono fun i hi=>by simp at hi
   have z8:Ext (m.names q) T2 T8:=x8.mono fun i hi=>by
    simp only [qhE] at hi;rw [hi,b5];exact Ko
   have z9:Ext [r2i] T8 T9:=hT9 ▸ qr8 T8 r2i;have y8:=((((z1.trans z2 (NewL.refl _ _)).trans z5 (NewL.refl _ _)).trans z6 (NewL.refl _ _)).trans z7 (NewL.refl _ _)).trans z8 (NewL.refl _ _)
   have hKr:K.length≤r2i:=by
    have:=(((z1.trans z2 (NewL.refl _ _)).trans z5 (NewL.refl _ _)).trans z6 (NewL.refl _ _)).len;omega
   have y9:Ext (m.names q) K T9:=y8.trans z9 fun i hi=>.inr (by rw [List.mem_singleton.1 hi];exact hKr)
   have w9:=qet w8 z9 (fun i hi hc=>by
    have:=qcv w6 hi;rw [List.mem_singleton.1 hc] at this;omega)
   have Zs:=ArrOk.new (Zw ▸ ha) (bl':=b8.length) (a:=m.b.length) (by omega) (by omega);have jc:List.take (arrs.length+1) (qJ .u64 (arrs ++ [m.b.length])) = qJ .u64 (arrs ++ [m.b.length]):=qP (by simp)
   have hfin:∃ (T:qe) (m':Jm) (arrs':List Nat) (z:Nat),(((List.take (arrs.length+1) (qJ .u64 (arrs ++ [m.b.length])) = qJ .u64 arrs'∧arrs.length+1 = arrs'.length)∧(1:Int) = z)∧T9 = T)∧z≤256∧JGrow K T q m m'∧ArrOk m'.b.length arrs' (vo arrs.length+1)∧m'.b.length≤m.b.length+(24+8 * ZP arrs.length)∧m'.da = m.da∧m'.fi = m.fi:=by
    refine ⟨T9,_,arrs ++ [m.b.length],1,⟨⟨⟨jc,by simp⟩,rfl⟩,rfl⟩,by omega,⟨w9,o8,y9,?_,?_,?_,?_,?_,?_,?_,?_,?_,?_,?_⟩,Zs,?_,?_,?_⟩
    ·subst hm5;exact NewL.refl _ _
    all_goals first
     | (subst hm5;rfl)
     | (simp only;omega)
   rcases hcase with ⟨hae,rfl⟩ | ⟨j,a,hj,JQ,Xf⟩
   ·have ea:arrs = []:=List.length_eq_zero_iff.1 hae;have ez:((arrs.length:Int) == 0) = true:=(by rw [hae];rfl);simp [-qf,-qn,-qs,-qT,p0,p1,p2,p3,p4,p12,p13,p14,qo,Zw,hrm,hmb,← hzs,eq_true kj,Q2,kI,g0,vy,Jd,hzt,qcV,hob,r2,l2',d137,hz,s137,kS,hput6,YQ,hT1',JX,hgr,wl,wlt,hda,wb,wz,wz2,wb2,hput8,g8,hT9',ez];exact hfin
   ·have vj:nl = false:=by
     cases nl with
     | false=>rfl
     | true=>rw [zF rfl] at hj;simp at hj
    subst vj;have zO:j < arrs.length:=by omega
    have hdj:(qJ .u64 arrs).drop j = .int .u64 (a:Nat) :: qJ .u64 (arrs.drop (j+1)):=by
     rw [qbs zO];rw [zn zO] at JQ;injection JQ with JQ;rw [JQ]
    have ea:arrs≠[]:=fun h0=>by rw [h0] at hj;simp at hj
    have ez:((arrs.length:Int) == 0) = false:=(by simp [ea]);have e1:=qx ((arrs.length:Int) - 1) (j:Int);have h9:=ha.at_ j a JQ;have e2:=qN ((a:Int)+16) (pa:Int);simp [-qf,-qn,-qs,-qT,p0,p1,p2,p3,p4,p12,p13,p14,qo,Zw,hrm,hmb,← hzs,eq_true kj,Q2,kI,g0,vy,Jd,hzt,qcV,hob,r2,l2',d137,hz,s137,kS,hput6,YQ,hT1',JX,hgr,wl,wlt,hda,wb,wz,wz2,wb2,hput8,g8,hT9',ez,zO,hdj,e1,e2];exact hfin
  ·obtain ⟨j,a,hj,JQ,Zu,hro,hab,hmo⟩:=ha.more Zw;have hbm:=hk.bmax
   have vj:nl = false:=by
    cases nl with
    | false=>rfl
    | true=>rw [zF rfl] at hj;simp at hj
   subst vj;have zO:j < arrs.length:=by omega
   have hdj:(qJ .u64 arrs).drop j = .int .u64 (a:Nat) :: qJ .u64 (arrs.drop (j+1)):=by
    rw [qbs zO];rw [zn zO] at JQ;injection JQ with JQ;rw [JQ]
   obtain ⟨d,hd⟩:∃ d,d = n - vo j:=⟨_,rfl⟩;obtain ⟨T,b,hput,jM,w1,o1,x1,l1⟩:=qaq h hk (a+24+8 * d) v (by omega);have e0:¬ (n:Int) = (vo arrs.length:Int):=(by omega);have e1:=qx ((arrs.length:Int) - 1) (j:Int);have e2:=qN ((a:Int)+24) ((a+24:Nat):Int);have KB:vo (arrs.length - 1) = vo j:=(by rw [hj];rfl);have e3:=qx ((n:Int) - (vo j:Int)) (d:Int);have e4:=qx (8 * (d:Int)) ((8 * d:Nat):Int);have e5:=qN ((8 * d:Nat):Int) ((8 * d:Nat):Int);have e6:=qN (((a+24:Nat):Int)+((8 * d:Nat):Int)) ((a+24+8 * d:Nat):Int);have e7:=qx ((d:Int)+1) ((d+1:Nat):Int);rw [KB] at p12;simp [-qf,-qn,-qs,-Int.natCast_add,-Int.natCast_mul,p0,p1,p2,p3,p4,p12,p13,p14,qo,e0,e1,e2,e3,e4,e5,e6,e7,hput,zO,hdj];have hr5:=qgm j;refine ⟨T,_,arrs,d+1,⟨⟨⟨rfl,rfl⟩,rfl⟩,rfl⟩,by omega,⟨w1,o1,x1.mono fun i hi=>by rw [List.mem_singleton.1 hi];exact Ko,NewL.refl _ _,rfl,rfl,rfl,rfl,rfl,rfl,rfl,rfl,rfl,?_⟩,?_,?_,rfl,rfl⟩
   ·simp only;omega
   ·simp only;rw [jM];exact hmo
   ·simp only;omega
theorem qqo {H:qe} {q:Nat} {m:Jm} (h:JmW H q m) {n:Nat} (hn:H.length≤n):∀ x,x∈m.cs→closed n x = true:=by
 intro x hx;obtain ⟨i,he⟩:=List.getElem?_of_mem hx
 have J8:i < 147:=by
  have:=(List.getElem?_eq_some_iff.1 he).1;rw [h.len] at this;exact this
 have row:∀ {v:D} {cs:List D} {L:List Nat},RowA H 5 v cs L→closed n v = true:=fun hr=>by
  rcases hr with ⟨hv,_⟩ | ⟨r,k,hv,_,hg,_⟩
  ·rw [hv];simp [closed]
  ·rw [hv];have:=qA hg;simp [closed];omega
 by_cases h1:i < 143
 ·exact qew x (h.free i x h1 he)
 ·have:i = 143∨i = 144∨i = 145∨i = 146:=by omega
  rcases this with rfl | rfl | rfl | rfl
  ·rw [h.c143] at he;injection he with he;subst he;have:=qA h.bytes;simp [closed];omega
  ·rw [h.c144] at he;injection he with he;subst he;exact row h.rowD
  ·rw [h.c145] at he;injection he with he;subst he;exact row h.rowF
  ·rw [h.c146] at he;injection he with he;subst he;exact qew _ (by simp [idFree])
theorem q2L {bl:Nat} {arrs:List Nat} {ne:Nat} (h:ArrW bl arrs ne):arrs.length≤ne+1:=by
 obtain ⟨n,h1,h2⟩:=h;exact zT (qh5 h2) h1
theorem qsa (K:qe) (nl:Bool) (arrs:List Nat) (zF:nl = true→arrs = []) (hl:arrs.length≤1000) :
  ∃ r n T,qT Tryz.prog (qs K []) 96 96 (.osl K.length 0 0 0 1) (.vsl nl (qJ .u64 arrs) arrs.length) = some (.osl r n 0 n 1,T)∧Ext [] K T∧r < T.length:=by
 have g0:qf (qs K []) K.length = some []:=by rw [zA]
 have r0:RowA (qs K []) 1 (.osl K.length 0 0 0 1) [] [K.length]:=RowA.of (by simp) g0;by_cases h0:arrs = []
 ·subst h0;exact ⟨K.length,0,qs K [],by simp [-qs,-qf,qJ,g0];exact qdK g0,Ext.new K [],by rw [zW];omega⟩
 ·have hp:arrs.length≠0:=fun h=>h0 (List.length_eq_zero_iff.1 h)
  have hf:nl = false:=by
   cases nl with
   | false=>rfl
   | true=>exact absurd (zF rfl) h0
  subst hf;obtain ⟨d1,T1,L1,hA,hR,hX,hN⟩:=r0.append (P:=Tryz.prog) (st:=96) (xt:=96) (e:=24) (x:=.vsl false (qJ .u64 arrs) arrs.length) (xs:=qJ .u64 arrs) (m:=arrs.length) (by simp) (by simp) (by simp [-qf]) (by simp) hp (by simp) (by omega) (by simp [qD];omega) (by simp [qD];omega);obtain ⟨r,j,hv,hj,hg,_⟩:=hR.own (by intro h;have:=congrArg List.length h;simp at this;exact h0 this);rw [hj,Nat.mul_one] at hv;refine ⟨r,j,T1,by rw [hA,hv],⟨by have:=hX.len;rw [zW] at this;omega,fun i hi _=>?_⟩,qA hg⟩;rw [hX.out i (by rw [zW];omega) (by simp;omega),vk hi]
theorem q1t (K:qe) {b:List UInt8} {bi:Nat} (hb:qf K bi = some (qd b)) (h0:b≠[]) (hl:b.length≤1000000) :
  ∃ r n T,qT Tryz.prog (qs K []) 29 29 (.osl K.length 0 0 0 1) (.osl bi b.length 0 b.length 1) = some (.osl r n 0 n 1,T)∧Ext [] K T∧r < T.length:=by
 have g0:qf (qs K []) K.length = some []:=by rw [zA]
 have r0:RowA (qs K []) 1 (.osl K.length 0 0 0 1) [] [K.length]:=RowA.of (by simp) g0;have zC:qf (qs K []) bi = some (qd b):=by rw [vk (qA hb)];exact hb
 have hp:b.length≠0:=fun h=>h0 (List.length_eq_zero_iff.1 h);obtain ⟨d1,T1,L1,hA,hR,hX,hN⟩:=r0.append (P:=Tryz.prog) (st:=29) (xt:=29) (e:=5) (x:=.osl bi b.length 0 b.length 1) (xs:=qd b) (m:=b.length) (by simp) (by simp) (by simp [-qf,-qs,zC]) (by simp) hp (by simp) (by omega) (by simp [qD];omega) (by simp [qD];omega);obtain ⟨r,j,hv,hj,hg,_⟩:=hR.own (by intro h;have:=congrArg List.length h;simp at this;exact h0 this);rw [hj,Nat.mul_one] at hv;refine ⟨r,j,T1,by rw [hA,hv],⟨by have:=hX.len;rw [zW] at this;omega,fun i hi _=>?_⟩,qA hg⟩;rw [hX.out i (by rw [zW];omega) (by simp;omega),vk hi]
theorem q2U {H:qe} {x:D} {cs:List D} {L:List Nat} (h:RowA H 5 x cs L) (hl:cs.length≤5000) :
  ∃ d T,qT Tryz.prog H 134 134 (.vsl true [] 0) x = some (d,T)∧Ext [] H T∧(d = .vsl true [] 0∨∃ r z k,d = .osl r z 0 k 5∧r < T.length):=by
 rcases h with ⟨rfl,rfl,rfl⟩ | ⟨r,n,rfl,h2,h3,rfl⟩
 ·exact ⟨.vsl true [] 0,H,by simp,Ext.refl _ _,.inl rfl⟩
 ·by_cases hn:n = 0
  ·subst hn;have XR:cs = []:=List.length_eq_zero_iff.1 (by omega);subst XR;exact ⟨.vsl true [] 0,H,by simp [-qf,h3],Ext.refl _ _,.inl rfl⟩
  ·obtain ⟨d,T,L',hA,hR,hX,hN⟩:=(RowA.nil H 5).append (P:=Tryz.prog) (st:=134) (xt:=134) (e:=174) (x:=.osl r cs.length 0 n 5) (xs:=cs) (m:=n) (by simp) (by simp) (by simp [-qf,h3,h2];exact qP (by omega)) (by simp) hn h2 (by omega) (by simp [qD];omega) (by simp [qD];omega);obtain ⟨r',j,hv,hj,hg,_⟩:=hR.own (by intro h0;have:=congrArg List.length h0;simp at this;rw [this] at h2;simp at h2;omega);exact ⟨d,T,hA,hX,.inr ⟨r',_,j,hv,qA hg⟩⟩
theorem qc6 (H:qe) (a b:List D):qn (qs H a) H.length b = qs H b:=by simp [qn,qs]
set_option maxHeartbeats 8000000 in
set_option maxRecDepth 10000 in
theorem qzj [MaxL] [TxtC] {H:qe} {q:Nat} {m:Jm} (h:JmW H q m) (hk:m.Ok) :
  ∃ T p,call cx 84 [.optr q 147 0] H = some (.optr p 147 0,T)∧Ext [] H T:=by
 suffices hs:∃ r,call cx 84 [.optr q 147 0] H = some r∧∃ (T:qe) (p:Nat),r = (.optr p 147 0,T)∧Ext [] H T by
  obtain ⟨r,hc,T,p,rfl,h1⟩:=hs;exact ⟨T,p,hc,h1⟩
 refine Zh (X:=cx) (f:=84) _ Tryz.func84 rfl ⟨rfl,rfl⟩ ?_;have r0:=h.root;have zq:=h.len;have c143:=jv h.c143;have c144:=jv h.c144;have jc:List.take 147 m.cs = m.cs:=qP (by omega);have hcl1:∀ n,H.length≤n→(∀ x,x∈m.cs→closed n x = true) = True:=fun n hn=>eq_true (qqo h hn);have jx:∀ a,H.length≤(qs H a).length:=fun a=>by rw [zW];omega
 have jM:=hk.bl;have hbm:=hk.bmax;have hbn:m.b≠[]:=fun h0=>by rw [h0] at jM;simp at jM;have:=hk.ft;omega
 obtain ⟨K0,kI⟩:=ql (qs H m.cs);have x0:=jD kI;have hp0:=kh kI;have w0:=Xa h x0;have q1:qf (qs K0 []) q = some m.cs:=by rw [vk (qA w0.root)];exact w0.root
 obtain ⟨a1,n1,K1,YQ,x1,lt1⟩:=q1t K0 w0.bytes hbn hbm;have p1:qf K1 H.length = some m.cs:=x1.get hp0 (by simp);obtain ⟨C1,Vo⟩:∃ C,C = m.cs.set 143 (.osl a1 n1 0 n1 1):=⟨_,rfl⟩;have s1:List.take 143 m.cs ++ D.osl a1 n1 0 n1 1 :: List.drop 144 m.cs = C1:=by rw [Vo];exact vp (by omega)
 have l1:C1.length = 147:=by rw [Vo,ky];exact zq
 obtain ⟨K2,kl⟩:=ql (qn K1 H.length C1);have hq:q < H.length:=qA h.root;have y2:=Qk kl
 have z2:Ext [] H K2:=⟨by have:=x0.len;have:=x1.len;have:=y2.len;omega,fun i hi _=>by
  rw [y2.out i (by have:=x0.len;have:=x1.len;omega) (by simp;omega),x1.out i (by have:=x0.len;omega) (by simp),x0.out i hi (by simp)]⟩
 have w2:=Xa h z2;have q3:qf (qs K2 []) q = some m.cs:=by rw [vk (qA w2.root)];exact w2.root
 have c146:=jv h.c146;obtain ⟨a3,n3,K3,hA3,x3,lt3⟩:=qsa K2 m.mn m.main hk.mn (by have:=q2L hk.main;have:=hk.ne;omega);have p2:=Qx kl p1;have p3:qf K3 H.length = some C1:=x3.get p2 (by simp);obtain ⟨C3,KI⟩:∃ C,C = C1.set 146 (.osl a3 n3 0 n3 1):=⟨_,rfl⟩;have s3:List.take 146 C1 ++ D.osl a3 n3 0 n3 1 :: List.drop 147 C1 = C3:=by rw [KI];exact vp (by omega)
 have l3:C3.length = 147:=by rw [KI,ky];exact l1
 obtain ⟨K4,hK4⟩:=ql (qn K3 H.length C3);have p4:=Qx hK4 p3;obtain ⟨C5,JW⟩:∃ C,C = C3.set 144 (.vsl true [] 0):=⟨_,rfl⟩;have s5:List.take 144 C3 ++ D.vsl true [] 0 :: List.drop 145 C3 = C5:=by rw [JW];exact vp (by omega)
 have l5:C5.length = 147:=by rw [JW,ky];exact l3
 obtain ⟨K5,kS⟩:=ql (qn K4 H.length C5);have p5:=Qx kS p4;obtain ⟨C6,hC6⟩:∃ C,C = C5.set 145 (.vsl true [] 0):=⟨_,rfl⟩;have s6:List.take 145 C5 ++ D.vsl true [] 0 :: List.drop 146 C5 = C6:=by rw [hC6];exact vp (by omega)
 have l6:C6.length = 147:=by rw [hC6,ky];exact l5
 obtain ⟨K6,kR⟩:=ql (qn K5 H.length C6);have p6:=Qx kR p5
 have own:∀ {A B:qe} {C:List D},Ext [] H A→qn A H.length C = B→Ext [] H B:=fun {A B C} ha hb=>by
  have y:=Qk hb;exact ⟨by have:=ha.len;have:=y.len;omega,fun i hi _=>by rw [y.out i (by have:=ha.len;omega) (by simp;omega),ha.out i hi (by simp)]⟩
 have z6:Ext [] H K6:=own (own (own (z2.trans x3 (NewL.refl _ _)) hK4) kS) kR;have hnda:=hk.nda;simp [-qf,-qn,-qs,-zf,-qT,Tryz.f84,r0,zq,jc,hcl1,jx,zA,qc6,c143,kI,q1,YQ,p1,lt1,s1,l1,kl,q3,c146,hA3,p3,lt3,s3,l3,hK4,p4,s5,kS,p5,l5,s6,kR];refine Run.loopThen (fun (i:Nat) e K=>i≤m.da.length∧qi e 0 = some (.optr q 147 0)∧qi e 3 = some (.optr H.length 147 0)∧qi e 4 = some (.int .i64 i)∧Ext [] H K∧∃ C v cs L,qf K H.length = some C∧C.length = 147∧C[144]? = some v∧C[145]? = some (.vsl true [] 0)∧RowA K 5 v cs L∧cs.length = i * 5∧(∀ j,j∈L→H.length < j)) (fun i=>m.da.length - i) 0 ?_ ?_
 ·exact ⟨vV _,by simp,by simp,by simp,z6,C6,.vsl true [] 0,[],[],p6,l6,by rw [hC6,List.getElem?_set_ne (by omega),JW,List.getElem?_set_self (by omega)],by rw [hC6,List.getElem?_set_self (by omega)],RowA.nil _ _,rfl,by simp⟩
 rintro i e K ⟨hi,k0,k3,k4,zK,C,v,cs,L,gC,lC,v144,v145,hR,hcs,hpL⟩;have wK:=Xa h zK;have rK:=wK.root;by_cases qg:i < m.da.length
 ·have qo:=zI qg;have hw:=qx ((i:Int)+1) ((i+1:Nat):Int);obtain ⟨k,r,VF,vf,vT,QN,jY⟩:=qcx qg;have qQ:qu m.da≠[]:=fun e0=>by rw [e0] at vf;simp at vf
  obtain ⟨ro,nn,hfv,kH,ZC,hLf⟩:=wK.rowD.own qQ
  have zx:nn = m.da.length:=by
   have:=ZH m.da;rw [this] at kH;simp at kH;omega
  have jd:(qu m.da).length = m.da.length * 5:=by rw [kH,zx]
  rw [zx] at hfv;rw [hfv] at c144;have hka:=hk.da k VF;have hkc:=hk.cn k VF;have hkn:=hk.ne;have hkl:=qh5 hka.arr;obtain ⟨Ka,kw⟩:=ql (qs K [.str k.text,.int .u64 (k.at_:Nat),.int .i64 (k.slot:Nat),.int .i64 (k.cnt:Nat),.vsl k.nil (qJ .u64 k.arrs) k.arrs.length]);have xa:=jD kw;have ta:=kh kw;have ta2:qf (qs Ka []) K.length = some [.str k.text,.int .u64 (k.at_:Nat),.int .i64 (k.slot:Nat),.int .i64 (k.cnt:Nat),.vsl k.nil (qJ .u64 k.arrs) k.arrs.length]:=by rw [vk (qA ta)];exact ta
  obtain ⟨ab,nb,Kb,hAb,xb,ltb⟩:=qsa Ka k.nil k.arrs hka.nil (by omega);have tb:qf Kb K.length = some [.str k.text,.int .u64 (k.at_:Nat),.int .i64 (k.slot:Nat),.int .i64 (k.cnt:Nat),.vsl k.nil (qJ .u64 k.arrs) k.arrs.length]:=xb.get ta (by simp);obtain ⟨c5,hc5⟩:∃ c:List D,c = [.str k.text,.int .u64 (k.at_:Nat),.int .i64 (k.slot:Nat),.int .i64 (k.cnt:Nat),.osl ab nb 0 nb 1]:=⟨_,rfl⟩;obtain ⟨Kc,JD⟩:=ql (qn Kb K.length c5);have tc:=Qx JD tb;have yc:=Qk JD;have hpK:H.length < K.length:=qA gC;have pC:qf Kc H.length = some C:=yc.get (xb.get (xa.get gC (by simp)) (by simp)) (by simp;omega);have Jf:=jv v144;have l5c:c5.length = 5:=by rw [hc5];rfl
  have t5c:List.take 5 c5 = c5:=qP (by omega);obtain ⟨Kd,YN⟩:=ql (qs Kc c5);have xd:=jD YN;have td:=kh YN;obtain ⟨pc,hpc⟩:∃ p,p = Kc.length:=⟨_,rfl⟩
  have cl5:(∀ x,x∈c5→closed pc x = true) = True:=eq_true (fun x hx=>by
   have hab:ab < pc:=(by have:=yc.len;omega);rw [hc5] at hx;simp only [jT,List.not_mem_nil,or_false] at hx;rcases hx with rfl | rfl | rfl | rfl | rfl
   ·rfl
   ·rfl
   ·rfl
   ·rfl
   ·simp [closed];exact hab)
  rw [← hpc] at td
  have hKne:Kc≠[]:=fun h0=>by
   have:=qA tc;rw [h0] at this;simp at this
  have rd:=(((hR.ext xa (fun _ _=>by simp)).ext xb (fun _ _=>by simp)).ext yc (fun j hj hc=>by
   have:=hR.lt hj;rw [List.mem_singleton.1 hc] at this;omega)).ext xd (fun _ _=>by simp)
  obtain ⟨v',Ke,L',VM,hRe,xe,ne⟩:=rd.append (P:=Tryz.prog) (st:=134) (xt:=134) (e:=174) (x:=.osl pc 5 0 1 5) (xs:=c5) (m:=1) (by simp) (by simp) (by simp [-qf,td,l5c,t5c]) (by simp) (by omega) (by rw [l5c]) (by omega) (by rw [hcs];simp [qD];omega) (by rw [hcs];simp [qD];omega)
  have hnec:cs ++ c5≠[]:=fun h0=>by
   have:=congrArg List.length h0;simp at this;rw [this.2] at l5c;simp at l5c
  obtain ⟨re,je,hve,hje,vN,hLe⟩:=hRe.own hnec;obtain ⟨ze,hze⟩:∃ z,z = (cs ++ c5).length:=⟨_,rfl⟩;rw [← hze] at hve;have hlte:re < Ke.length:=qA vN;subst hve;have pD:qf Kd H.length = some C:=xd.get pC (by simp);have pE:qf Ke H.length = some C:=xe.get pD (fun hc=>Nat.lt_irrefl _ (hpL _ hc));obtain ⟨C',hC'⟩:∃ C',C' = C.set 144 (D.osl re ze 0 je 5):=⟨_,rfl⟩;have s144:List.take 144 C ++ D.osl re ze 0 je 5 :: List.drop 145 C = C':=by rw [hC'];exact vp (by omega)
  obtain ⟨Kf,hKf⟩:=ql (qn Ke H.length C');simp [-qf,-qn,-qs,-qT,-Kn.ea,k0,k3,k4,rK,zq,c144,qo,hw,ZC,jd,vf,zA,qc6,kw,ta2,hAb,tb,ltb,← hc5,JD,tc,pC,lC,Jf,l5c,t5c,← hpc,YN,hKne,VM,pE,hlte,s144,hKf];have hlenE:H.length < Ke.length:=qA pE
  have zE:Ext [] H Ke:=by
   refine ⟨by omega,fun j hj _=>?_⟩;have e1:=zK.len;have e2:=xa.len;have e3:=xb.len;have e4:=yc.len;have e5:=xd.len;rw [xe.out j (by omega) (fun hc=>by have:=hpL j hc;omega),xd.out j (by omega) (by simp),yc.out j (by omega) (by simp;omega),xb.out j (by omega) (by simp),xa.out j (by omega) (by simp),zK.out j hj (by simp)]
  have hL':∀ j,j∈L'→H.length < j:=fun j hj=>by
   rcases ne j hj with h1 | h1
   ·exact hpL j h1
   ·have:=qA pD;omega
  have rf:=hRe.ext (hKf ▸ Ext.set Ke H.length C':Ext [H.length] Ke Kf) (fun j hj hc=>by
   have:=hL' j hj;rw [List.mem_singleton.1 hc] at this;omega)
  exact ⟨i+1,by omega,by omega,rfl,own zE hKf,C',by rw [← hKf];exact zG hlenE,by rw [hC',ky];exact lC,_,by rw [hC'];exact List.getElem?_set_self (by omega),by rw [hC',List.getElem?_set_ne (by omega)];exact v145,cs ++ c5,L',rf,by rw [zz,hcs,l5c];omega,hL'⟩
 ·have qo:=zL qg
  have hlenD:zf Tryz.prog 134 m.dv = some (.int .i64 m.da.length):=by
   have jd:=ZH m.da;rcases h.rowD with ⟨hv,XR,_⟩ | ⟨ro,nn,hv,QB,_,_⟩
   ·rw [XR] at jd;have:m.da.length = 0:=(by simp at jd;omega);rw [hv,this];simp
   ·have:nn = m.da.length:=by
     rw [jd] at QB;simp at QB;omega
    rw [hv,this];simp
  have c145:=jv h.c145;have d145:=jv v145;have hnfi:=hk.nfi;obtain ⟨dv,Kg,hAg,xg,Vk⟩:=q2U wK.rowF (by rw [ZH];simp;omega);have pg:qf Kg H.length = some C:=xg.get gC (by simp);obtain ⟨Cg,hCg⟩:∃ X,X = C.set 145 dv:=⟨_,rfl⟩;have sg:List.take 145 C ++ dv :: List.drop 146 C = Cg:=by rw [hCg];exact vp (by omega)
  obtain ⟨Kh,hKh⟩:=ql (qn Kg H.length Cg);have zh:Ext [] H Kh:=own (zK.trans xg (NewL.refl _ _)) hKh;rcases Vk with rfl | ⟨r,z,k,rfl,hr⟩
  ·simp [-qf,-qn,-qs,-zf,-qT,k0,k3,k4,rK,zq,c144,c145,d145,qo,hlenD,gC,lC,hAg,pg,sg,hKh];exact zh
  ·simp [-qf,-qn,-qs,-zf,-qT,k0,k3,k4,rK,zq,c144,c145,d145,qo,hlenD,gC,lC,hAg,pg,sg,hKh,hr];exact zh
theorem qjs [MaxL] [TxtC] {H:qe} {q:Nat} {m:Jm} (h:JmW H q m):call cx 51 [.optr q 147 0] H = some (.int .u64 (m.tl:Nat),H):=by
 refine Zh (X:=cx) (f:=51) (fun r=>r = (.int .u64 (m.tl:Nat),H)) Tryz.func51 rfl ⟨rfl,rfl⟩ ?_ |>.elim fun r hr=>by rw [hr.1,hr.2]
 have r0:=h.root;have zq:=h.len;have c:=jv h.c128;simp [-qf,-qn,-qs,Tryz.f51,r0,zq,c]
theorem qzV (v0 v1:Nat) (st:Int) (ids:List UInt8) (ns:List D) (v2 v3 v4:Nat) (XN:JM ns):idFree.idFreeL (VI v0 v1 st ids ns v2 v3 v4) = true:=by
 rw [kY];unfold VI;have:=qdH XN;simp only [VY,List.all_append,this];simp [idFree]
theorem qy1 {H:qe} {q:Nat} {m:Jm} (h:JmW H q m):∃ (ids:List UInt8) (ns:List D) (v2 v3 v4:Nat),ids.length = 64∧JM ns∧ns.length = 20∧v2 < 4294967296∧v3 < 4294967296∧v4 < 18446744073709551616∧List.take 90 (List.drop 52 m.cs) = VI 2 (if m.key then 4 else 0) 1 ids ns v2 v3 v4:=by
 have zq:=h.len;have d52:=jv h.c52;have d53:=jv h.c53;have d54:=jv h.c54;obtain ⟨a,b,c,d,hids⟩:=h.ids;obtain ⟨v2,h139,jI⟩:=h.c139;obtain ⟨v3,h140,hv3⟩:=h.c140;obtain ⟨_,h141,v4,rfl,hv4⟩:=h.c141;have d139:=jv h139;have d140:=jv h140;have d141:=jv h141;obtain ⟨ns,XN⟩:∃ ns,ns = List.take 20 (List.drop 119 m.cs):=⟨_,rfl⟩
 have e55:List.drop 55 m.cs = List.take 64 (List.drop 55 m.cs) ++ List.drop 119 m.cs:=by
  have:=(qhD 64 (List.drop 55 m.cs)).symm
  rwa [jV] at this
 have e119:List.drop 119 m.cs = ns ++ List.drop 139 m.cs:=by
  have:=(qhD 20 (List.drop 119 m.cs)).symm;rw [jV] at this;rw [XN];exact this
 have zF:ns.length = 20:=by rw [XN,jU,vQ,zq];rfl
 have la:=a.h;have lb:=b.h;have lc:=c.h;have ld:=d.h;refine ⟨a.l ++ (b.l ++ (c.l ++ d.l)),ns,v2,v3,v4,by simp [la,lb,lc,ld],fun x hx=>?_,zF,jI,hv3,hv4,?_⟩
 ·obtain ⟨i,he⟩:=List.getElem?_of_mem hx
  have hi:i < 20:=by
   have:=(List.getElem?_eq_some_iff.1 he).1;omega
  rw [XN] at he;rw [List.getElem?_take_of_lt hi,Qv] at he;obtain ⟨y,hy,hu⟩:=h.nums (119+i) (by omega) (by omega);rw [hy] at he;injection he with he;exact he ▸ hu
 ·have jB:List.drop 52 m.cs = VI 2 (if m.key then 4 else 0) 1 (a.l ++ (b.l ++ (c.l ++ d.l))) ns v2 v3 v4 ++ List.drop 142 m.cs:=by
   rw [d52,d53,d54,e55,hids,e119,d139,d140,d141];unfold VI;cases m.key <;> simp [qd]
  rw [jB];exact List.take_left' (by unfold VI;simp [zF,la,lb,lc,ld])
set_option maxHeartbeats 8000000 in
set_option maxRecDepth 10000 in
theorem qy9 [MaxL] [TxtC] {H:qe} {q:Nat} {m:Jm} (h:JmW H q m) (hk:m.Ok) :
  ∃ T s,call cx 23 [.optr q 147 0,.int .i64 1] H = some (.vsl false (qd s) s.length,T)∧Ext [] H T∧s.length = m.b.length:=by
 suffices hs:∃ r,call cx 23 [.optr q 147 0,.int .i64 1] H = some r∧∃ (T:qe) (s:List UInt8),r = (.vsl false (qd s) s.length,T)∧Ext [] H T∧s.length = m.b.length by
  obtain ⟨r,hc,T,s,rfl,h1⟩:=hs;exact ⟨T,s,hc,h1⟩
 refine Zh (X:=cx) (f:=23) _ Tryz.func23 rfl ⟨rfl,rfl⟩ ?_;have r0:=h.root;have zq:=h.len;obtain ⟨HC,hHC⟩:∃ c,c = List.take 90 (List.drop 52 m.cs):=⟨_,rfl⟩;have lHC:HC.length = 90:=by rw [hHC,jU,vQ,zq];rfl
 have tHC:List.take 90 HC = HC:=qP (by omega);have hcl1:∀ n,H.length≤n→(∀ x,x∈HC→closed n x = true) = True:=fun n hn=>eq_true (fun x hx=>qqo h hn x (by rw [hHC] at hx;exact Jq (Vx hx)));have jx:∀ a,H.length≤(qs H a).length:=fun a=>by rw [zW];omega
 have hq:q < H.length:=qA h.root;have c143:=jv h.c143;obtain ⟨_,hd142,dp,rfl,hdp⟩:=h.c142;have d142:=jv hd142;have jM:=hk.bl;have hbm:=hk.bmax;have hft:=hk.ft;obtain ⟨C2,zS⟩:∃ C,C = HC.set 2 (.int .i64 1):=⟨_,rfl⟩;have s2:List.take 2 HC ++ D.int .i64 1 :: List.drop 3 HC = C2:=by rw [zS];exact vp (by omega)
 have l2:C2.length = 90:=by rw [zS,ky];exact lHC
 obtain ⟨z,hz⟩:∃ z,z = m.b.length - 272:=⟨_,rfl⟩;have w1:=qx ((m.b.length:Int) - 272) (z:Int);have w2:=qN (z:Int) (z:Int);obtain ⟨C3,KI⟩:∃ C,C = C2.set 68 (.int .u64 (z:Nat)):=⟨_,rfl⟩;have s3:List.take 68 C2 ++ D.int .u64 (z:Nat) :: List.drop 69 C2 = C3:=by rw [KI];exact vp (by omega)
 have l3:C3.length = 90:=by rw [KI,ky];exact l2
 have t3:List.take 90 C3 = C3:=qP (by omega);have gq:∀ a,qf (qs H a) q = some m.cs:=fun a=>by rw [vk hq];exact r0
 have e272:(272:Int)≤(m.b.length:Int):=by omega
 have e272n:272 < m.b.length:=by omega
 obtain ⟨ids,ns,v2,v3,v4,hid,XN,zF,jI,hv3,hv4,hH⟩:=qy1 h
 have hns':JM (ns.set 1 (.int .u64 (z:Nat))):=fun d hd=>by
  rcases qfR hd with h1 | h1
  ·exact XN d h1
  ·exact ⟨z,h1,by omega⟩
 have hC3h:C3 = VI 2 (if m.key then 4 else 0) 1 ids (ns.set 1 (.int .u64 (z:Nat))) v2 v3 v4:=by
  rw [KI,zS,hHC,hH];unfold VI;simp [hid,zF]
 obtain ⟨_,hhb,sh,lsh,rfl⟩:=qzK 2 (if m.key then 4 else 0) 1 ids (ns.set 1 (.int .u64 (z:Nat))) v2 v3 v4 dp (by omega) (by split <;> omega) hid hns' (by rw [ky];exact zF) jI hv3 hv4 hdp;rw [← hC3h] at hhb;have hfr:idFree.idFreeL C3 = true:=by rw [hC3h];exact qzV _ _ _ _ _ _ _ _ hns'
 replace hhb:call cx 61 [.agg C3,.int .u64 dp] [] = some (.osl 0 272 0 272 1,[some (qd sh)]):=hhb;obtain ⟨K1,jS⟩:=ql (qs H C3);obtain ⟨K2,kl⟩:∃ T:qe,K1 ++ [some (qd sh)] = T:=⟨_,rfl⟩;have hK2':qs K1 (qd sh) = K2:=kl;have t1:=kh jS;have q1:qf K1 q = some m.cs:=by rw [← jS];exact gq _
 have x1:=jD jS;have x2:=jD hK2';have x12:=x1.trans x2 (NewL.refl _ _);have q2:qf K2 q = some m.cs:=x12.get r0 (by simp);have b2:qf K2 m.bi = some (qd m.b):=x12.get h.bytes (by simp);obtain ⟨p1,ku⟩:∃ p,p = K1.length:=⟨_,rfl⟩;have g1:qf K2 p1 = some (qd sh):=by rw [← hK2',ku,zA]
 have hrow:RowA K2 1 (.osl p1 272 0 272 1) (qd sh) [p1]:=by
  have:=RowA.of (H:=K2) (k:=1) (n:=272) (cs:=qd sh) (by simp [lsh]) g1;rw [qam,lsh] at this;exact this
 have xdl:((qd m.b).drop 272).length = z:=by simp;omega
 obtain ⟨d,T,L,hA,hR,hX,hN⟩:=hrow.append (P:=Tryz.prog) (st:=29) (xt:=29) (e:=5) (x:=.osl m.bi m.b.length 272 z 1) (xs:=(qd m.b).drop 272) (m:=z) (by simp) (by simp) (by have ht:List.take z (List.drop 272 (qd m.b)) = List.drop 272 (qd m.b):=qP (by omega);have hb:272+z≤m.b.length:=(by omega);simp [-qf,b2,ht,hb]) (by simp) (by omega) (by rw [xdl];omega) (by omega) (by simp [qD];omega) (by simp [qD];omega);have hcat:qd sh ++ (qd m.b).drop 272 = qd (sh ++ m.b.drop 272):=by simp [qd]
 rw [hcat] at hR;have kA:(sh ++ m.b.drop 272).length = m.b.length:=by simp [lsh];omega
 obtain ⟨S,hS⟩:∃ S,S = sh ++ m.b.drop 272:=⟨_,rfl⟩;rw [← hS] at hR kA;obtain ⟨r,j,rfl,hj,hgT,hL⟩:=hR.own (by intro h0;have:=congrArg List.length h0;simp at this;rw [this] at kA;simp at kA;omega);rw [qam,Nat.mul_one] at hj;subst hj;rw [qam] at hA;simp [-qf,-qn,-qs,-qT,Tryz.f23,r0,zq,zA,qc6,← hHC,lHC,hcl1,jx,c143,d142,s2,l2,w1,w2,s3,l3,t3,gq,hfr,hhb,e272,e272n,← hz,jS,kl,t1,q1,q2,← ku,hA,hgT]
 have hrH:H.length≤r:=by
  rcases hN r (by rw [hL];simp) with h1 | h1
  ·rw [List.mem_singleton.1 h1,ku];exact x1.len
  ·have:=x12.len;omega
 have hp1H:H.length≤p1:=by rw [ku];exact x1.len
 have zc:=qr8 T r;refine ⟨_,S,⟨⟨rfl,rfl⟩,rfl⟩,⟨?_,fun i hi _=>?_⟩,kA⟩
 ·have e1:=x12.len;have e2:=hX.len;have e3:=zc.len;exact zT e1 (zT e2 e3)
 ·have e1:=x12.len;have e2:=hX.len;have e4:=zc.out i (by omega) (by simp;omega);have e5:=hX.out i (by omega) (by simp;omega);have e6:=x12.out i hi (by simp);exact e4.trans (e5.trans e6)
theorem qyy {H:qe} {q:Nat} {m:Jm} (h:JmW H q m) (v:Nat) (hv:v < 18446744073709551616):JmW (qn H q (m.cs.set 127 (.int .u64 (v:Nat)))) q { m with cs:=(m.cs.set 127 (.int .u64 (v:Nat))),ne:=v }:=by
 obtain ⟨q1,q2,q3⟩:=Kr h;have qg:127 < m.cs.length:=by rw [h.len];omega
 have hs:∀ {j:Nat} {x:D},127≠j→m.cs[j]? = some x→(m.cs.set 127 (.int .u64 (v:Nat)))[j]? = some x:=fun hj hx=>qbf hj hx
 exact { h with
  root:=zG (qA h.root)
  len:=by simp only;rw [ky];exact h.len
  file:=by simp only;rw [List.take_set_of_le (by omega)];exact h.file
  ids:=by
   obtain ⟨a,b,c,e,he⟩:=h.ids;refine ⟨a,b,c,e,?_⟩;simp only;rw [List.drop_set,if_neg (by omega),List.take_set_of_le (by omega)];exact he
  c48:=hs (by omega) h.c48
  c49:=hs (by omega) h.c49
  c50:=hs (by omega) h.c50
  c51:=hs (by omega) h.c51
  c52:=hs (by omega) h.c52
  c53:=hs (by omega) h.c53
  c54:=hs (by omega) h.c54
  c119:=hs (by omega) h.c119
  c121:=hs (by omega) h.c121
  c122:=hs (by omega) h.c122
  c123:=hs (by omega) h.c123
  c124:=hs (by omega) h.c124
  c127:=by simp only;rw [List.getElem?_set_self qg]
  c128:=hs (by omega) h.c128
  c143:=hs (by omega) h.c143
  c144:=hs (by omega) h.c144
  c145:=hs (by omega) h.c145
  c146:=hs (by omega) h.c146
  nums:=fun j h1 h2=>by
   by_cases zu:127 = j
   ·subst zu;exact ⟨_,by simp only;rw [List.getElem?_set_self qg],v,rfl,hv⟩
   ·obtain ⟨x,hx,hu⟩:=h.nums j h1 h2;exact ⟨x,hs zu hx,hu⟩
  c139:=by obtain ⟨v,hv,jI⟩:=h.c139;exact ⟨v,hs (by omega) hv,jI⟩
  c140:=by obtain ⟨v,hv,jI⟩:=h.c140;exact ⟨v,hs (by omega) hv,jI⟩
  c141:=by obtain ⟨x,hx,hu⟩:=h.c141;exact ⟨x,hs (by omega) hx,hu⟩
  c142:=by obtain ⟨x,hx,hu⟩:=h.c142;exact ⟨x,hs (by omega) hx,hu⟩
  free:=qbM h.free (fun _=>rfl)
  bytes:=by rw [zN q1];exact h.bytes
  rowD:=h.rowD.ext (Ext.set H q _) (fun j hj e=>q2 (by rw [← List.mem_singleton.1 e];exact hj))
  rowF:=h.rowF.ext (Ext.set H q _) (fun j hj e=>q3 (by rw [← List.mem_singleton.1 e];exact hj)) }
theorem qyw {H:qe} {q:Nat} {m:Jm} (h:JmW H q m) (v:Nat) (hv:v < 18446744073709551616):JmW (qn H q (m.cs.set 128 (.int .u64 (v:Nat)))) q { m with cs:=(m.cs.set 128 (.int .u64 (v:Nat))),tl:=v }:=by
 obtain ⟨q1,q2,q3⟩:=Kr h;have qg:128 < m.cs.length:=by rw [h.len];omega
 have hs:∀ {j:Nat} {x:D},128≠j→m.cs[j]? = some x→(m.cs.set 128 (.int .u64 (v:Nat)))[j]? = some x:=fun hj hx=>qbf hj hx
 exact { h with
  root:=zG (qA h.root)
  len:=by simp only;rw [ky];exact h.len
  file:=by simp only;rw [List.take_set_of_le (by omega)];exact h.file
  ids:=by
   obtain ⟨a,b,c,e,he⟩:=h.ids;refine ⟨a,b,c,e,?_⟩;simp only;rw [List.drop_set,if_neg (by omega),List.take_set_of_le (by omega)];exact he
  c48:=hs (by omega) h.c48
  c49:=hs (by omega) h.c49
  c50:=hs (by omega) h.c50
  c51:=hs (by omega) h.c51
  c52:=hs (by omega) h.c52
  c53:=hs (by omega) h.c53
  c54:=hs (by omega) h.c54
  c119:=hs (by omega) h.c119
  c121:=hs (by omega) h.c121
  c122:=hs (by omega) h.c122
  c123:=hs (by omega) h.c123
  c124:=hs (by omega) h.c124
  c127:=hs (by omega) h.c127
  c128:=by simp only;rw [List.getElem?_set_self qg]
  c143:=hs (by omega) h.c143
  c144:=hs (by omega) h.c144
  c145:=hs (by omega) h.c145
  c146:=hs (by omega) h.c146
  nums:=fun j h1 h2=>by
   by_cases zu:128 = j
   ·subst zu;exact ⟨_,by simp only;rw [List.getElem?_set_self qg],v,rfl,hv⟩
   ·obtain ⟨x,hx,hu⟩:=h.nums j h1 h2;exact ⟨x,hs zu hx,hu⟩
  c139:=by obtain ⟨v,hv,jI⟩:=h.c139;exact ⟨v,hs (by omega) hv,jI⟩
  c140:=by obtain ⟨v,hv,jI⟩:=h.c140;exact ⟨v,hs (by omega) hv,jI⟩
  c141:=by obtain ⟨x,hx,hu⟩:=h.c141;exact ⟨x,hs (by omega) hx,hu⟩
  c142:=by obtain ⟨x,hx,hu⟩:=h.c142;exact ⟨x,hs (by omega) hx,hu⟩
  free:=qbM h.free (fun _=>rfl)
  bytes:=by rw [zN q1];exact h.bytes
  rowD:=h.rowD.ext (Ext.set H q _) (fun j hj e=>q2 (by rw [← List.mem_singleton.1 e];exact hj))
  rowF:=h.rowF.ext (Ext.set H q _) (fun j hj e=>q3 (by rw [← List.mem_singleton.1 e];exact hj)) }
theorem qyv {H:qe} {q:Nat} {m:Jm} (h:JmW H q m) (v:Nat) (hv:v < 4294967296):JmW (qn H q (m.cs.set 139 (.int .u32 (v:Nat)))) q { m with cs:=(m.cs.set 139 (.int .u32 (v:Nat))) }:=by
 obtain ⟨q1,q2,q3⟩:=Kr h;have qg:139 < m.cs.length:=by rw [h.len];omega
 have hs:∀ {j:Nat} {x:D},139≠j→m.cs[j]? = some x→(m.cs.set 139 (.int .u32 (v:Nat)))[j]? = some x:=fun hj hx=>qbf hj hx
 exact { h with
  root:=zG (qA h.root)
  len:=by simp only;rw [ky];exact h.len
  file:=by simp only;rw [List.take_set_of_le (by omega)];exact h.file
  ids:=by
   obtain ⟨a,b,c,e,he⟩:=h.ids;refine ⟨a,b,c,e,?_⟩;simp only;rw [List.drop_set,if_neg (by omega),List.take_set_of_le (by omega)];exact he
  c48:=hs (by omega) h.c48
  c49:=hs (by omega) h.c49
  c50:=hs (by omega) h.c50
  c51:=hs (by omega) h.c51
  c52:=hs (by omega) h.c52
  c53:=hs (by omega) h.c53
  c54:=hs (by omega) h.c54
  c119:=hs (by omega) h.c119
  c121:=hs (by omega) h.c121
  c122:=hs (by omega) h.c122
  c123:=hs (by omega) h.c123
  c124:=hs (by omega) h.c124
  c127:=hs (by omega) h.c127
  c128:=hs (by omega) h.c128
  c143:=hs (by omega) h.c143
  c144:=hs (by omega) h.c144
  c145:=hs (by omega) h.c145
  c146:=hs (by omega) h.c146
  nums:=fun j h1 h2=>by
   obtain ⟨x,hx,hu⟩:=h.nums j h1 h2;exact ⟨x,hs (by omega) hx,hu⟩
  c139:=⟨v,by simp only;rw [List.getElem?_set_self qg],hv⟩
  c140:=by obtain ⟨v,hv,jI⟩:=h.c140;exact ⟨v,hs (by omega) hv,jI⟩
  c141:=by obtain ⟨x,hx,hu⟩:=h.c141;exact ⟨x,hs (by omega) hx,hu⟩
  c142:=by obtain ⟨x,hx,hu⟩:=h.c142;exact ⟨x,hs (by omega) hx,hu⟩
  free:=qbM h.free (fun _=>rfl)
  bytes:=by rw [zN q1];exact h.bytes
  rowD:=h.rowD.ext (Ext.set H q _) (fun j hj e=>q2 (by rw [← List.mem_singleton.1 e];exact hj))
  rowF:=h.rowF.ext (Ext.set H q _) (fun j hj e=>q3 (by rw [← List.mem_singleton.1 e];exact hj)) }
theorem qyu {H:qe} {q:Nat} {m:Jm} (h:JmW H q m) (v:Nat) (hv:v < 4294967296):JmW (qn H q (m.cs.set 140 (.int .u32 (v:Nat)))) q { m with cs:=(m.cs.set 140 (.int .u32 (v:Nat))) }:=by
 obtain ⟨q1,q2,q3⟩:=Kr h;have qg:140 < m.cs.length:=by rw [h.len];omega
 have hs:∀ {j:Nat} {x:D},140≠j→m.cs[j]? = some x→(m.cs.set 140 (.int .u32 (v:Nat)))[j]? = some x:=fun hj hx=>qbf hj hx
 exact { h with
  root:=zG (qA h.root)
  len:=by simp only;rw [ky];exact h.len
  file:=by simp only;rw [List.take_set_of_le (by omega)];exact h.file
  ids:=by
   obtain ⟨a,b,c,e,he⟩:=h.ids;refine ⟨a,b,c,e,?_⟩;simp only;rw [List.drop_set,if_neg (by omega),List.take_set_of_le (by omega)];exact he
  c48:=hs (by omega) h.c48
  c49:=hs (by omega) h.c49
  c50:=hs (by omega) h.c50
  c51:=hs (by omega) h.c51
  c52:=hs (by omega) h.c52
  c53:=hs (by omega) h.c53
  c54:=hs (by omega) h.c54
  c119:=hs (by omega) h.c119
  c121:=hs (by omega) h.c121
  c122:=hs (by omega) h.c122
  c123:=hs (by omega) h.c123
  c124:=hs (by omega) h.c124
  c127:=hs (by omega) h.c127
  c128:=hs (by omega) h.c128
  c143:=hs (by omega) h.c143
  c144:=hs (by omega) h.c144
  c145:=hs (by omega) h.c145
  c146:=hs (by omega) h.c146
  nums:=fun j h1 h2=>by
   obtain ⟨x,hx,hu⟩:=h.nums j h1 h2;exact ⟨x,hs (by omega) hx,hu⟩
  c139:=by obtain ⟨v,hv,jI⟩:=h.c139;exact ⟨v,hs (by omega) hv,jI⟩
  c140:=⟨v,by simp only;rw [List.getElem?_set_self qg],hv⟩
  c141:=by obtain ⟨x,hx,hu⟩:=h.c141;exact ⟨x,hs (by omega) hx,hu⟩
  c142:=by obtain ⟨x,hx,hu⟩:=h.c142;exact ⟨x,hs (by omega) hx,hu⟩
  free:=qbM h.free (fun _=>rfl)
  bytes:=by rw [zN q1];exact h.bytes
  rowD:=h.rowD.ext (Ext.set H q _) (fun j hj e=>q2 (by rw [← List.mem_singleton.1 e];exact hj))
  rowF:=h.rowF.ext (Ext.set H q _) (fun j hj e=>q3 (by rw [← List.mem_singleton.1 e];exact hj)) }
theorem qyz {H:qe} {q:Nat} {m:Jm} (h:JmW H q m) (arrs:List Nat):JmW (qn H q (m.cs.set 146 (.vsl false (qJ .u64 arrs) arrs.length))) q { m with cs:=(m.cs.set 146 (.vsl false (qJ .u64 arrs) arrs.length)),mn:=false,main:=arrs }:=by
 obtain ⟨q1,q2,q3⟩:=Kr h;have qg:146 < m.cs.length:=by rw [h.len];omega
 have hs:∀ {j:Nat} {x:D},146≠j→m.cs[j]? = some x→(m.cs.set 146 (.vsl false (qJ .u64 arrs) arrs.length))[j]? = some x:=fun hj hx=>qbf hj hx
 exact { h with
  root:=zG (qA h.root)
  len:=by simp only;rw [ky];exact h.len
  file:=by simp only;rw [List.take_set_of_le (by omega)];exact h.file
  ids:=by
   obtain ⟨a,b,c,e,he⟩:=h.ids;refine ⟨a,b,c,e,?_⟩;simp only;rw [List.drop_set,if_neg (by omega),List.take_set_of_le (by omega)];exact he
  c48:=hs (by omega) h.c48
  c49:=hs (by omega) h.c49
  c50:=hs (by omega) h.c50
  c51:=hs (by omega) h.c51
  c52:=hs (by omega) h.c52
  c53:=hs (by omega) h.c53
  c54:=hs (by omega) h.c54
  c119:=hs (by omega) h.c119
  c121:=hs (by omega) h.c121
  c122:=hs (by omega) h.c122
  c123:=hs (by omega) h.c123
  c124:=hs (by omega) h.c124
  c127:=hs (by omega) h.c127
  c128:=hs (by omega) h.c128
  c143:=hs (by omega) h.c143
  c144:=hs (by omega) h.c144
  c145:=hs (by omega) h.c145
  c146:=by simp only;rw [List.getElem?_set_self qg]
  nums:=fun j h1 h2=>by
   obtain ⟨x,hx,hu⟩:=h.nums j h1 h2;exact ⟨x,hs (by omega) hx,hu⟩
  c139:=by obtain ⟨v,hv,jI⟩:=h.c139;exact ⟨v,hs (by omega) hv,jI⟩
  c140:=by obtain ⟨v,hv,jI⟩:=h.c140;exact ⟨v,hs (by omega) hv,jI⟩
  c141:=by obtain ⟨x,hx,hu⟩:=h.c141;exact ⟨x,hs (by omega) hx,hu⟩
  c142:=by obtain ⟨x,hx,hu⟩:=h.c142;exact ⟨x,hs (by omega) hx,hu⟩
  free:=qbM h.free (fun hi=>by omega)
  bytes:=by rw [zN q1];exact h.bytes
  rowD:=h.rowD.ext (Ext.set H q _) (fun j hj e=>q2 (by rw [← List.mem_singleton.1 e];exact hj))
  rowF:=h.rowF.ext (Ext.set H q _) (fun j hj e=>q3 (by rw [← List.mem_singleton.1 e];exact hj)) }
theorem qy4 {H:qe} {q:Nat} {m:Jm} (h:JmW H q m) (o:ID):JmW (qn H q (List.take 87 m.cs ++ (qd o.l ++ List.drop 103 m.cs))) q { m with cs:=(List.take 87 m.cs ++ (qd o.l ++ List.drop 103 m.cs)) }:=by
 obtain ⟨q1,q2,q3⟩:=Kr h;have l1:(List.take 87 m.cs).length = 87:=by rw [jU,h.len];rfl
 have hs:∀ {j:Nat} {x:D},j < 87∨103≤j→m.cs[j]? = some x→(List.take 87 m.cs ++ (qd o.l ++ List.drop 103 m.cs))[j]? = some x:=fun {j x} hj hx=>by
  rcases hj with hj | hj
  ·rw [kg (by rw [l1];exact hj),List.getElem?_take_of_lt hj,hx]
  ·rw [kU (by rw [l1];omega),l1,kU (by rw [qam,o.h];omega),qam,o.h,Qv,show 103+(j - 87 - 16) = j by omega,hx]
 exact { h with
  root:=zG (qA h.root)
  len:=by simp only [zz,jU,vQ,qam,o.h,h.len];rfl
  file:=by simp only;rw [List.take_append_of_le_length (by rw [jU,h.len];omega),List.take_take];exact h.file
  ids:=by
   obtain ⟨a,b,c,e,he⟩:=h.ids;have la:=a.h;have lb:=b.h;have lc:=c.h;have le:=e.h;refine ⟨a,b,o,e,?_⟩
   have e1:List.drop 55 (List.take 87 m.cs) = qd a.l ++ qd b.l:=by
    have:=congrArg (List.take 32) he;rw [List.take_take] at this;rw [List.drop_take,show 87 - 55 = min 32 64 from rfl,this];simp [ZK,la,lb,qP]
   have e2:List.take 16 (List.drop 103 m.cs) = qd e.l:=by
    have:=congrArg (List.drop 48) he;rw [List.drop_take,jV] at this;rw [show 16 = 64 - 48 from rfl,show 103 = 55+48 from rfl,this];simp [vX,la,lb,lc,List.drop_of_length_le]
   simp only;have l1:(List.take 87 m.cs).length = 87:=(by rw [jU,h.len];rfl);rw [List.drop_append_of_le_length (by omega),e1]
   have e3:List.take 64 ((qd a.l ++ qd b.l) ++ (qd o.l ++ List.drop 103 m.cs)) = (qd a.l ++ qd b.l) ++ (qd o.l ++ List.take 16 (List.drop 103 m.cs)):=by
    simp [ZK,la,lb,o.h,qP]
   rw [e3,e2,Qj]
  c48:=hs (by omega) h.c48
  c49:=hs (by omega) h.c49
  c50:=hs (by omega) h.c50
  c51:=hs (by omega) h.c51
  c52:=hs (by omega) h.c52
  c53:=hs (by omega) h.c53
  c54:=hs (by omega) h.c54
  c119:=hs (by omega) h.c119
  c121:=hs (by omega) h.c121
  c122:=hs (by omega) h.c122
  c123:=hs (by omega) h.c123
  c124:=hs (by omega) h.c124
  c127:=hs (by omega) h.c127
  c128:=hs (by omega) h.c128
  c143:=hs (by omega) h.c143
  c144:=hs (by omega) h.c144
  c145:=hs (by omega) h.c145
  c146:=hs (by omega) h.c146
  nums:=fun j h1 h2=>by
   obtain ⟨x,hx,hu⟩:=h.nums j h1 h2;exact ⟨x,hs (by omega) hx,hu⟩
  c139:=by obtain ⟨v,hv,jI⟩:=h.c139;exact ⟨v,hs (by omega) hv,jI⟩
  c140:=by obtain ⟨v,hv,jI⟩:=h.c140;exact ⟨v,hs (by omega) hv,jI⟩
  c141:=by obtain ⟨x,hx,hu⟩:=h.c141;exact ⟨x,hs (by omega) hx,hu⟩
  c142:=by obtain ⟨x,hx,hu⟩:=h.c142;exact ⟨x,hs (by omega) hx,hu⟩
  free:=fun i d hi he=>by
   simp only at he;by_cases h1:i < 87
   ·rw [kg (by rw [l1];exact h1),List.getElem?_take_of_lt h1] at he;exact h.free i d hi he
   ·rw [kU (by rw [l1];omega),l1] at he;by_cases h2:i < 103
    ·rw [kg (by rw [qam,o.h];omega)] at he;obtain ⟨c,_,rfl⟩:=List.mem_map.1 (Vy he);rfl
    ·rw [kU (by rw [qam,o.h];omega),qam,o.h,Qv] at he;exact h.free i d hi (by rw [show i = 103+(i - 87 - 16) by omega];exact he)
  bytes:=by rw [zN q1];exact h.bytes
  rowD:=h.rowD.ext (Ext.set H q _) (fun j hj e=>q2 (by rw [← List.mem_singleton.1 e];exact hj))
  rowF:=h.rowF.ext (Ext.set H q _) (fun j hj e=>q3 (by rw [← List.mem_singleton.1 e];exact hj)) }
theorem Ya:∀ (l:List Kn) (j:Nat) (k:Kn),j < l.length→qu (l.set j k) = List.take (j * 5) (qu l) ++ (Enc.cells k ++ List.drop (j * 5+5) (qu l))
 | [],j,k,h=>by simp at h
 | a :: l,0,k,_=>by
  have hl:(Enc.cells a).length = 5:=rfl;simp only [List.set_cons_zero,Nat.zero_mul,List.take_zero,Qu,Jo];show Enc.cells k ++ qu l = Enc.cells k ++ List.drop 5 (Enc.cells a ++ qu l);rw [kE hl]
 | a :: l,j+1,k,h=>by
  have hl:(Enc.cells a).length = 5:=rfl;have ih:=Ya l j k (by simpa using h);simp only [List.set_cons_succ];show Enc.cells a ++ qu (l.set j k) = List.take ((j+1) * 5) (Enc.cells a ++ qu l) ++ (Enc.cells k ++ List.drop ((j+1) * 5+5) (Enc.cells a ++ qu l));rw [ih,ZK,vX,hl,qP (l:=Enc.cells a) (by omega),List.drop_of_length_le (l:=Enc.cells a) (by omega),show (j+1) * 5 - 5 = j * 5 by omega,show (j+1) * 5+5 - 5 = j * 5+5 by omega];simp
theorem qyx {H:qe} {q:Nat} {m:Jm} (h:JmW H q m) {j:Nat} (k:Kn) {r:Nat} (hr:m.Ld = [r]) (hv:m.dv = .osl r (m.da.length * 5) 0 m.da.length 5) (hg:(qf H r).isSome = true):JmW (qn H r (qu (m.da.set j k))) q { m with da:=m.da.set j k }:=by
 obtain ⟨q1,q2,q3⟩:=Kr h;have hnd:=h.nodup;unfold Jm.names at hnd;simp only [List.nodup_cons,jT,vW,not_or,List.nodup_append] at hnd;obtain ⟨n1,n2,n3,n4,n5⟩:=hnd;rw [hr] at q2 n2 n5;obtain ⟨ds,KD⟩:=Option.isSome_iff_exists.1 hg;have hl:(qu (m.da.set j k)).length = m.da.length * 5:=by rw [ZH,ky];rfl
 exact { h with
  root:=by rw [zN (fun e=>q2 (by rw [e];simp))];exact h.root
  bytes:=by rw [zN (fun e=>n2.1 (by rw [e];simp))];exact h.bytes
  rowD:=.inr ⟨r,m.da.length,by simp only;rw [hl];exact hv,by rw [hl],zG (qA KD),hr⟩
  rowF:=h.rowF.ext (Ext.set H r _) (fun i hi e=>n5 r (by simp) i hi (List.mem_singleton.1 e).symm) }
theorem qfa {H:qe} {r n:Nat} {cs xs:List D} {t e:TypeId} {x:D} (hg:qf H r = some cs) (hu:Tryz.prog.underlying t = some (.slice e)) (hk:qv Tryz.prog e = 1) (XS:bytesOf Tryz.prog e≤100) (hz:(V0 Tryz.prog e 0).isSome = true) (Xd:qch Tryz.prog H e t x = some (xs,n)) (XC:xs.length = n) {c:Nat} (hc:cs.length = c) (hl:c+n≤1000000) :
  qT Tryz.prog H t t (.osl r c 0 c 1) x = some (.osl r (c+n) 0 (c+n) 1,qn H r (cs ++ xs)):=by
 obtain ⟨z,hz⟩:=Option.isSome_iff_exists.1 hz;have h1:(c+n) * bytesOf Tryz.prog e≤1000000 * 100:=Nat.mul_le_mul hl XS;unfold qT;simp only [hu,Xd,hz,hg,hk];rw [if_pos ⟨hc,trivial,Nat.mul_one _,by simp only [qD];omega,by simp only [qD];omega⟩,XC]
theorem qzq (K:qe) (nl:Bool) (w:List Nat) (a k:Nat) (ha:a≤w.length) (hl:w.length≤1000) :
  ∃ T1 T2 T3,qT Tryz.prog (qs K []) 31 31 (.osl K.length 0 0 0 1) (.vsl nl (List.take a (qJ .i64 w)) a) = some (.osl K.length a 0 a 1,T1)∧qT Tryz.prog T1 31 31 (.osl K.length a 0 a 1) (.vsl false [.int .i64 (k:Nat)] 1) = some (.osl K.length (a+1) 0 (a+1) 1,T2)∧qT Tryz.prog T2 31 31 (.osl K.length (a+1) 0 (a+1) 1) (.vsl nl (List.drop a (qJ .i64 w)) (w.length - a)) = some (.osl K.length (w.length+1) 0 (w.length+1) 1,T3)∧qf T3 K.length = some (qJ .i64 (w.take a ++ k :: w.drop a))∧Ext [] K T3∧T1.length = K.length+1:=by
 have g0:qf (qs K []) K.length = some []:=by rw [zA]
 have l1:(List.take a (qJ .i64 w)).length = a:=by simp;omega
 have l2:(List.drop a (qJ .i64 w)).length = w.length - a:=by simp
 have a1:=qfa (t:=31) (e:=3) (n:=a) (x:=.vsl nl (List.take a (qJ .i64 w)) a) (xs:=List.take a (qJ .i64 w)) g0 (by simp) (by simp) (by simp) (by simp) (by simp;omega) l1 rfl (c:=0) (by omega);simp only [Jo,Qu] at a1;obtain ⟨T1,hT1⟩:=ql (qn (qs K []) K.length (List.take a (qJ .i64 w)));rw [hT1] at a1;have t1:qf T1 K.length = some (List.take a (qJ .i64 w)):=by rw [← hT1];exact zG (qA g0)
 have n1:T1.length = K.length+1:=by rw [← hT1,Qo,zW]
 have a2:=qfa (t:=31) (e:=3) (n:=1) (x:=.vsl false [.int .i64 (k:Nat)] 1) (xs:=[.int .i64 (k:Nat)]) t1 (by simp) (by simp) (by simp) (by simp) (by simp) rfl l1 (by omega);obtain ⟨T2,JV⟩:=ql (qn T1 K.length (List.take a (qJ .i64 w) ++ [.int .i64 (k:Nat)]));rw [JV] at a2;have t3:=Qx JV t1;have a3:=qfa (t:=31) (e:=3) (n:=w.length - a) (x:=.vsl nl (List.drop a (qJ .i64 w)) (w.length - a)) (xs:=List.drop a (qJ .i64 w)) t3 (by simp) (by simp) (by simp) (by simp) (by simp) l2 (c:=a+1) (by simp <;> omega) (by omega);rw [show a+1+(w.length - a) = w.length+1 by omega] at a3;refine ⟨T1,T2,_,a1,a2,a3,?_,⟨?_,fun i hi _=>?_⟩,n1⟩
 ·rw [zG (qA t3)];simp [qJ]
 ·rw [Qo,← JV,Qo];omega
 ·rw [zN (by omega),← JV,zN (by omega),← hT1,zN (by omega),vk hi]
theorem qlc {H:qe} {x y:D} {l:List Nat} (hx:jf H 9 x = some (y,l)):∀ {pc:List D},pc.all idFree = true→vY (jf H 9) (pc ++ [x]) = some (pc ++ [y],l)
 | [],_=>by simp only [Qu,vY,hx,KO]
 | d :: pc,hf=>by
  simp only [VY,jk] at hf
  have h1:jf H 9 d = some (d,[]):=by
   unfold jf;rw [if_pos hf.1]
  simp only [Qw,vY,h1,qlc hx hf.2,Qu]
theorem qwi (K:qe) {pD:D} {pc:List D} {Lp:List Nat} (hR:RowA K 1 pD pc Lp) (hf:pc.all idFree = true) (s:List UInt8) (hl:pc.length≤100) :
  ∃ r K4 K5,qT Tryz.prog (qs (qs K (qd s)) [.osl K.length s.length 0 s.length 1]) 39 39 pD (.osl (qs K (qd s)).length 1 0 1 1) = some (.osl r (pc.length+1) 0 (pc.length+1) 1,K4)∧QZ K4 r = some K5∧qf K5 r = some (pc ++ [.vsl false (qd s) s.length])∧Ext Lp K K5∧(r∈Lp∨K.length≤r):=by
 obtain ⟨K2,kl⟩:=ql (qs K (qd s));have n2:K2.length = K.length+1:=by rw [← kl,zW]
 have x2:=jD kl;have g2:=kh kl;rw [kl];obtain ⟨K3,Xm⟩:=ql (qs K2 [.osl K.length s.length 0 s.length 1]);have x3:=jD Xm;have g3:=kh Xm;rw [Xm];have r3:=(hR.ext x2 (fun _ _=>by simp)).ext x3 (fun _ _=>by simp);obtain ⟨v',K4,L',hA,hR4,x4,n4⟩:=r3.append (P:=Tryz.prog) (st:=39) (xt:=39) (e:=29) (x:=.osl K2.length 1 0 1 1) (xs:=[.osl K.length s.length 0 s.length 1]) (m:=1) (by simp) (by simp) (by simp [-qf,g3]) (by simp) (by omega) (by simp) (by omega) (by simp [qD];omega) (by simp [qD];omega);obtain ⟨r,n,rfl,hn,hg4,hL'⟩:=hR4.own (by simp);have YB:n = pc.length+1:=by simp at hn;omega
 subst YB;have hlp:∀ i,i∈Lp→i < K.length:=fun i hi=>hR.lt hi;have hrL:r∈L':=by rw [hL'];simp
 have hr:r∈Lp∨K3.length≤r:=n4 r hrL;have n3:K3.length = K2.length+1:=by rw [← Xm,zW]
 have g4:qf K4 K.length = some (qd s):=x4.get (x3.get g2 (by simp)) (fun hc=>by have:=hlp _ hc;omega)
 have qQ:K.length≠r:=fun e=>by
  rcases hr with h | h
  ·have:=hlp _ h;omega
  ·omega
 have hst:jf K4 9 (.osl K.length s.length 0 s.length 1) = some (.vsl false (qd s) s.length,[K.length]):=by
  unfold jf;rw [if_neg (by simp [idFree])];simp only [g4];rw [if_pos ⟨by simp,by omega⟩,if_pos (by rw [kY];simp [qd,idFree])];simp
 have vj:¬ (pc ++ [D.osl K.length s.length 0 s.length 1]).all idFree = true:=by simp [idFree]
 have hblk:QZ K4 r = some (qn (jO K4 [K.length]) r (pc ++ [.vsl false (qd s) s.length])):=by
  unfold QZ;simp only [hg4];rw [if_neg vj,qlc hst hf];simp only;rw [if_neg (by simp only [qhE];exact fun e=>qQ e.symm)]
 refine ⟨r,K4,_,?_,hblk,?_,⟨?_,fun i hi hn=>?_⟩,?_⟩
 ·rw [hA];simp
 ·exact zG (by rw [Zp];exact qA hg4)
 ·rw [Qo,Zp];have e1:=x2.len;have e2:=x3.len;have e3:=x4.len;omega
 ·have hir:i≠r:=fun e=>by
   rcases hr with h | h
   ·exact hn (e ▸ h)
   ·omega
  rw [zN hir,Yd (by simp only [qhE];omega),x4.out i (by omega) hn,x3.out i (by omega) (by simp),x2.out i hi (by simp)]
 ·rcases hr with h | h
  ·exact .inl h
  ·exact .inr (by omega)
def jz (cf ids:List D) (v0 v1:Nat) (st:Int) (n0 n2 n3 n4 n5 n6 n7 n9:Nat) (bd:D):List D :=
 cf ++ (.int .u32 v0 :: .int .u32 v1 :: .int .i64 st :: (ids ++ (.int .u64 n0::.int .u64 0::.int .u64 n2::.int .u64 n3::.int .u64 n4::.int .u64 n5::.int .u64 n6::.int .u64 n7::.int .u64 0::.int .u64 n9::vE [.int .u32 0,.int .u32 0,.int .u64 0,.int .u64 0,bd,.vsl true [] 0,.vsl true [] 0,.vsl true [] 0])))
section
variable {cf ids:List D} (hc:cf.length = 52) (hi:ids.length = 64) (v0 v1:Nat) (st:Int) (n0 n2 n3 n4 n5 n6 n7 n9:Nat) (bd:D)
include hc hi
theorem QG:(jz cf ids v0 v1 st n0 n2 n3 n4 n5 n6 n7 n9 bd).length = 147:=by simp [jz,hc,hi]
theorem qjr (x:D):List.take 143 (jz cf ids v0 v1 st n0 n2 n3 n4 n5 n6 n7 n9 bd) ++ x :: List.drop 144 (jz cf ids v0 v1 st n0 n2 n3 n4 n5 n6 n7 n9 bd) = jz cf ids v0 v1 st n0 n2 n3 n4 n5 n6 n7 n9 x:=by
 rw [vp (by rw [QG hc hi];omega)];simp [jz,hc,hi]
theorem qyo (x:Nat):List.take 119 (jz cf ids v0 v1 st n0 n2 n3 n4 n5 n6 n7 n9 bd) ++ D.int .u64 x :: List.drop 120 (jz cf ids v0 v1 st n0 n2 n3 n4 n5 n6 n7 n9 bd) = jz cf ids v0 v1 st x n2 n3 n4 n5 n6 n7 n9 bd:=by
 rw [vp (by rw [QG hc hi];omega)];simp [jz,hc,hi]
theorem qyn (x:Nat):List.take 121 (jz cf ids v0 v1 st n0 n2 n3 n4 n5 n6 n7 n9 bd) ++ D.int .u64 x :: List.drop 122 (jz cf ids v0 v1 st n0 n2 n3 n4 n5 n6 n7 n9 bd) = jz cf ids v0 v1 st n0 x n3 n4 n5 n6 n7 n9 bd:=by
 rw [vp (by rw [QG hc hi];omega)];simp [jz,hc,hi]
theorem qym (x:Nat):List.take 122 (jz cf ids v0 v1 st n0 n2 n3 n4 n5 n6 n7 n9 bd) ++ D.int .u64 x :: List.drop 123 (jz cf ids v0 v1 st n0 n2 n3 n4 n5 n6 n7 n9 bd) = jz cf ids v0 v1 st n0 n2 x n4 n5 n6 n7 n9 bd:=by
 rw [vp (by rw [QG hc hi];omega)];simp [jz,hc,hi]
theorem qyl (x:Nat):List.take 123 (jz cf ids v0 v1 st n0 n2 n3 n4 n5 n6 n7 n9 bd) ++ D.int .u64 x :: List.drop 124 (jz cf ids v0 v1 st n0 n2 n3 n4 n5 n6 n7 n9 bd) = jz cf ids v0 v1 st n0 n2 n3 x n5 n6 n7 n9 bd:=by
 rw [vp (by rw [QG hc hi];omega)];simp [jz,hc,hi]
theorem qyk (x:Nat):List.take 124 (jz cf ids v0 v1 st n0 n2 n3 n4 n5 n6 n7 n9 bd) ++ D.int .u64 x :: List.drop 125 (jz cf ids v0 v1 st n0 n2 n3 n4 n5 n6 n7 n9 bd) = jz cf ids v0 v1 st n0 n2 n3 n4 x n6 n7 n9 bd:=by
 rw [vp (by rw [QG hc hi];omega)];simp [jz,hc,hi]
theorem qyj (x:Nat):List.take 125 (jz cf ids v0 v1 st n0 n2 n3 n4 n5 n6 n7 n9 bd) ++ D.int .u64 x :: List.drop 126 (jz cf ids v0 v1 st n0 n2 n3 n4 n5 n6 n7 n9 bd) = jz cf ids v0 v1 st n0 n2 n3 n4 n5 x n7 n9 bd:=by
 rw [vp (by rw [QG hc hi];omega)];simp [jz,hc,hi]
theorem qyi (x:Nat):List.take 126 (jz cf ids v0 v1 st n0 n2 n3 n4 n5 n6 n7 n9 bd) ++ D.int .u64 x :: List.drop 127 (jz cf ids v0 v1 st n0 n2 n3 n4 n5 n6 n7 n9 bd) = jz cf ids v0 v1 st n0 n2 n3 n4 n5 n6 x n9 bd:=by
 rw [vp (by rw [QG hc hi];omega)];simp [jz,hc,hi]
theorem qyh (x:Nat):List.take 128 (jz cf ids v0 v1 st n0 n2 n3 n4 n5 n6 n7 n9 bd) ++ D.int .u64 x :: List.drop 129 (jz cf ids v0 v1 st n0 n2 n3 n4 n5 n6 n7 n9 bd) = jz cf ids v0 v1 st n0 n2 n3 n4 n5 n6 n7 x bd:=by
 rw [vp (by rw [QG hc hi];omega)];simp [jz,hc,hi]
theorem qyg (x:Nat):List.take 53 (jz cf ids v0 v1 st n0 n2 n3 n4 n5 n6 n7 n9 bd) ++ D.int .u32 x :: List.drop 54 (jz cf ids v0 v1 st n0 n2 n3 n4 n5 n6 n7 n9 bd) = jz cf ids v0 x st n0 n2 n3 n4 n5 n6 n7 n9 bd:=by
 rw [vp (by rw [QG hc hi];omega)];simp [jz,hc]
end
set_option maxHeartbeats 4000000 in
theorem qy0 {T:qe} {q bi:Nat} {A B S:ID} {ds fs n1 aft:Nat} {key:Bool} {b:List UInt8} {cf I:List D} (kv:cf = qd A.l ++ (qd B.l ++ (qd S.l ++ [.int .i64 (ds:Nat),.int .i64 (fs:Nat),.int .i64 32768,.bool key]))) (hI:I = qd A.l ++ (qd B.l ++ (qd (List.replicate 16 0) ++ qd S.l)))
  (hq:qf T q = some (jz cf I 2 (if key then 4 else 0) 1 272 288 (16 * ds) (n1+16) (16 * fs) n1 2 aft (.osl bi b.length 0 b.length 1))) (hb:qf T bi = some (qd b)) (qQ:q≠bi) (qcQ:aft < 18446744073709551616) (ja:n1 < 1000000) (KD:ds≤64) (hfs:fs≤64) :
  JmW T q ⟨jz cf I 2 (if key then 4 else 0) 1 272 288 (16 * ds) (n1+16) (16 * fs) n1 2 aft (.osl bi b.length 0 b.length 1),b,[],[],ds,fs,key,A,n1+16,0,aft,true,[],.vsl true [] 0,.vsl true [] 0,bi,[],[]⟩:=by
 have la:=A.h;have lb:=B.h;have ls:=S.h;have lcf:cf.length = 52:=by rw [kv];simp [la,lb,ls]
 have lI:I.length = 64:=by rw [hI];simp [la,lb,ls]
 have hz:(ID.mk (List.replicate 16 0) (by simp)).l = List.replicate 16 0:=rfl
 exact {
  root:=hq
  len:=QG lcf lI ..
  file:=by simp only [jz];rw [List.take_append_of_le_length (by omega),kv];simp [la]
  c48:=by simp only [jz];rw [kg (by omega),kv];simp [la,lb,ls]
  c49:=by simp only [jz];rw [kg (by omega),kv];simp [la,lb,ls]
  c50:=by simp only [jz];rw [kg (by omega),kv];simp [la,lb,ls]
  c51:=by simp only [jz];rw [kg (by omega),kv];simp [la,lb,ls]
  c52:=by simp [jz,lcf,lI]
  c53:=by cases key <;> simp [jz,lcf,lI]
  c54:=by simp [jz,lcf,lI]
  ids:=by
   refine ⟨A,B,⟨List.replicate 16 0,by simp⟩,S,?_⟩;rw [hz,← hI];simp [jz,vX,List.drop_of_length_le,lcf,lI]
  c119:=by simp [jz,lcf,lI]
  c121:=by simp [jz,lcf,lI]
  c122:=by simp [jz,lcf,lI]
  c123:=by simp [jz,lcf,lI]
  c124:=by simp [jz,lcf,lI]
  c127:=by simp [jz,lcf,lI]
  c128:=by simp [jz,lcf,lI]
  nums:=fun i h1 h2=>by
   obtain ⟨j,rfl⟩:∃ j,i = 119+j:=⟨i - 119,by omega⟩;have hj:j < 20:=by omega
   have e:∀ (l:List D),(cf ++ (.int .u32 ((2:Nat):Int) :: .int .u32 ((if key then 4 else 0:Nat):Int) :: .int .i64 1 :: (I ++ l)))[119+j]? = l[j]?:=fun l=>by
    rw [kU (by omega),lcf,show 119+j - 52 = 64+j+1+1+1 by omega,qdv,qdv,qdv,kU (by omega),lI,show 64+j - 64 = j by omega]
   simp only [jz];rw [e];have hjc:j = 0∨j = 1∨j = 2∨j = 3∨j = 4∨j = 5∨j = 6∨j = 7∨j = 8∨j = 9∨j = 10∨j = 11∨j = 12∨j = 13∨j = 14∨j = 15∨j = 16∨j = 17∨j = 18∨j = 19:=(by omega);rcases hjc with rfl | rfl | rfl | rfl | rfl | rfl | rfl | rfl | rfl | rfl | rfl | rfl | rfl | rfl | rfl | rfl | rfl | rfl | rfl | rfl <;> first | exact ⟨_,rfl,0,rfl,by decide⟩ | exact ⟨_,rfl,272,rfl,by decide⟩ | exact ⟨_,rfl,288,rfl,by decide⟩ | exact ⟨_,rfl,2,rfl,by decide⟩ | exact ⟨_,rfl,_,rfl,by omega⟩
  c139:=⟨0,by simp [jz,lcf,lI],by omega⟩
  c140:=⟨0,by simp [jz,lcf,lI],by omega⟩
  c141:=⟨_,by simp [jz,lcf,lI],0,rfl,by omega⟩
  c142:=⟨_,by simp [jz,lcf,lI],0,rfl,by omega⟩
  c143:=by simp [jz,lcf,lI]
  c144:=by simp [jz,lcf,lI]
  c145:=by simp [jz,lcf,lI]
  c146:=by simp [jz,lcf,lI,qJ]
  bytes:=hb
  rowD:=RowA.nil _ _
  rowF:=RowA.nil _ _
  nodup:=by simp [Jm.names,qQ]
  free:=fun i d hi he=>by
   simp only [jz] at he;by_cases h1:i < 52
   ·rw [kg (by omega)] at he;have:=Vy he;rw [kv] at this;simp only [vW,jT,List.not_mem_nil,or_false,qd,ZM] at this;rcases this with ⟨_,_,rfl⟩ | ⟨_,_,rfl⟩ | ⟨_,_,rfl⟩ | rfl | rfl | rfl | rfl <;> rfl
   ·rw [kU (by omega),lcf] at he;by_cases h2:i < 143
    ·have hm:∃ X,(.int .u32 ((2:Nat):Int) :: .int .u32 ((if key then 4 else 0:Nat):Int) :: .int .i64 1 :: (I ++ (D.int .u64 ((272:Nat):Int)::.int .u64 0::.int .u64 ((288:Nat):Int)::.int .u64 ((16 * ds:Nat):Int)::.int .u64 ((n1+16:Nat):Int)::.int .u64 ((16 * fs:Nat):Int)::.int .u64 (n1:Int)::.int .u64 ((2:Nat):Int)::.int .u64 0::.int .u64 (aft:Int)::vE [.int .u32 0,.int .u32 0,.int .u64 0,.int .u64 0]))) = X∧X.length = 91:=⟨_,rfl,by simp [lI]⟩;obtain ⟨X,hX,lX⟩:=hm
     have he2:X[i - 52]? = some d:=by
      rw [← he,← hX];have:=lX;rw [← hX] at this;simp only [vE] at this;have e3:∀ (l r:List D),(.int .u32 ((2:Nat):Int) :: .int .u32 ((if key then 4 else 0:Nat):Int) :: .int .i64 1 :: (I ++ (l ++ r)):List D) = (.int .u32 ((2:Nat):Int) :: .int .u32 ((if key then 4 else 0:Nat):Int) :: .int .i64 1 :: (I ++ l)) ++ r:=fun l r=>by simp
      rw [show ∀ a b c d1 d2 d3 d4 d5 d6 d7 d8 d9:D,∀ e1 e2 e3 e4 e5 e6 e7 e8 e9 e10 e11 e12 f1 f2 f3 f4:D,[a,b,c,d1,d2,d3,d4,d5,d6,d7,d8,d9,e1,e2,e3,e4,e5,e6,e7,e8,e9,e10,e11,e12,f1,f2,f3,f4] = [a,b,c,d1,d2,d3,d4,d5,d6,d7,d8,d9,e1,e2,e3,e4,e5,e6,e7,e8,e9,e10,e11,e12] ++ [f1,f2,f3,f4] from by intros;rfl,e3,kg (by omega)]
     have:=Vy he2;rw [← hX] at this;simp only [vW,jT,List.not_mem_nil,or_false] at this;rw [hI] at this;simp only [vW,qd,ZM] at this;rcases this with rfl | rfl | rfl | (⟨_,_,rfl⟩ | ⟨_,_,rfl⟩ | ⟨_,_,rfl⟩ | ⟨_,_,rfl⟩) | h
     all_goals first
      | rfl
      | (repeat' (first | (rcases h with rfl | h;· rfl) | (subst h;rfl)))
    ·omega }
set_option maxHeartbeats 8000000 in
set_option maxRecDepth 10000 in
theorem qyt [MaxL] [TxtC] (H:qe) (A B S:ID) (ds fs:Nat) (KD:1≤ds∧ds≤64) (hfs:1≤fs∧fs≤64) (key:Bool) (aft:Nat) (qcQ:aft < 18446744073709551616) :
  ∃ T q m,call cx 48 [.agg (qd A.l ++ (qd B.l ++ (qd S.l ++ [.int .i64 (ds:Nat),.int .i64 (fs:Nat),.int .i64 32768,.bool key]))),.int .u64 aft] H = some (.optr q 147 0,T)∧JmW T q m∧m.Ok∧Ext [] H T∧(∀ i,i∈m.names q→H.length≤i)∧m.ne = 0∧m.tl = aft∧m.b.length = 304+16 * ds+16 * fs∧m.da = []∧m.fi = []∧m.main = []:=by
 suffices hs:∃ r,call cx 48 [.agg (qd A.l ++ (qd B.l ++ (qd S.l ++ [.int .i64 (ds:Nat),.int .i64 (fs:Nat),.int .i64 32768,.bool key]))),.int .u64 aft] H = some r∧∃ (T:qe) (q:Nat) (m:Jm),r = (.optr q 147 0,T)∧JmW T q m∧m.Ok∧Ext [] H T∧(∀ i,i∈m.names q→H.length≤i)∧m.ne = 0∧m.tl = aft∧m.b.length = 304+16 * ds+16 * fs∧m.da = []∧m.fi = []∧m.main = [] by
  obtain ⟨r,hc,T,q,m,rfl,h1⟩:=hs;exact ⟨T,q,m,hc,h1⟩
 refine Zh (X:=cx) (f:=48) _ Tryz.func48 rfl ⟨rfl,rfl⟩ ?_;obtain ⟨cf,kv⟩:∃ c,c = qd A.l ++ (qd B.l ++ (qd S.l ++ [.int .i64 (ds:Nat),.int .i64 (fs:Nat),.int .i64 32768,.bool key])):=⟨_,rfl⟩;have la:=A.h;have lb:=B.h;have ls:=S.h;have lcf:cf.length = 52:=by rw [kv];simp [la,lb,ls]
 rw [← kv];obtain ⟨K1,jS⟩:=ql (qs H cf);have g1:=kh jS;have fcf:cf.all idFree = true:=by rw [kv];simp [qd,idFree]
 have ccf:=KR fcf;have gq1:∀ X,qf (qs K1 X) H.length = some cf:=fun X=>by rw [vk (qA g1)];exact g1
 obtain ⟨K2,kl⟩:=ql (qs K1 (qO (qO (qO (qO (qO (qO (qO (qO (qO (qO (qO (qO (qO (qO (qO (qO (qO []))))))))))))))))))
 have g2:qf K2 K1.length = some (qd (List.replicate 272 0)):=by
  rw [← kl,zA];rfl
 have x1:=jD jS;have x2:=jD kl;have gq2:qf K2 H.length = some cf:=x2.get g1 (by simp);have h272:(272:Int)≤(qD:Int):=by decide
 have tcf:List.take 52 cf = cf:=qP (by omega);obtain ⟨Zm,hZm⟩:∃ Z,Z = (D.int .u32 0::.int .u32 0::.int .i64 0::qO (qO (qO (qO (vE (vE [.int .u32 0,.int .u32 0,.int .u64 0,.int .u64 0,.vsl true [] 0,.vsl true [] 0,.vsl true [] 0,.vsl true [] 0])))))):=⟨_,rfl⟩;have fZm:Zm.all idFree = true:=by rw [hZm];simp [idFree]
 have lZm:Zm.length = 95:=by rw [hZm];rfl
 have fA:∀ x,x∈cf ++ Zm→∀ n,closed n x = true:=fun x hx n=>qew x (by
  rcases List.mem_append.1 hx with h | h
  ·exact List.all_eq_true.1 fcf x h
  ·exact List.all_eq_true.1 fZm x h)
 have ct:∀ n k,(∀ x,x∈List.take k (cf ++ Zm)→closed n x = true) = True:=fun n k=>eq_true fun x hx=>fA x (Vx hx) n;have cd:∀ n k,(∀ x,x∈List.drop k (cf ++ Zm)→closed n x = true) = True:=fun n k=>eq_true fun x hx=>fA x (Jq hx) n;obtain ⟨I0,hI0⟩:∃ I,I = qd (List.replicate 64 0):=⟨_,rfl⟩;have lI0:I0.length = 64:=by rw [hI0];rfl
 have ez:cf ++ Zm = jz cf I0 0 0 0 0 0 0 0 0 0 0 0 (.vsl true [] 0):=by rw [hZm,hI0];rfl
 have s1:=qjr lcf lI0 0 0 0 0 0 0 0 0 0 0 0 (.vsl true [] 0) (.osl K1.length 272 0 272 1);rw [← ez] at s1;obtain ⟨C1,Vo⟩:=ql (jz cf I0 0 0 0 0 0 0 0 0 0 0 0 (.osl K1.length 272 0 272 1));rw [Vo] at s1;obtain ⟨K3,Xm⟩:=ql (qs K2 C1);have k12:K1.length < K2.length:=qA g2;have lC1:C1.length = 147:=by rw [← Vo];exact QG lcf lI0 ..
 have cC1:(∀ x,x∈C1→closed K2.length x = true) = True:=eq_true fun x hx=>by
  rw [← s1] at hx;rcases List.mem_append.1 hx with h | h
  ·exact fA x (Vx h) _
  ·rcases List.mem_cons.1 h with rfl | h
   ·simp [closed];exact k12
   ·exact fA x (Jq h) _
 have g3:=kh Xm;have x3:=jD Xm;have gq3:qf K3 H.length = some cf:=x3.get gq2 (by simp);have d143:∀ {v1:Nat} {st:Int} {v0:Nat} {n0 n2 n3 n4 n5 n6 n7 n9:Nat} {bd:D} {ids:List D},ids.length = 64→List.drop 143 (jz cf ids v0 v1 st n0 n2 n3 n4 n5 n6 n7 n9 bd) = bd :: List.drop 144 (jz cf ids v0 v1 st n0 n2 n3 n4 n5 n6 n7 n9 bd):=fun h=>by simp [jz,vX,List.drop_of_length_le,lcf,h]
 have c143:=d143 (v1:=0) (st:=0) (v0:=0) (n0:=0) (n2:=0) (n3:=0) (n4:=0) (n5:=0) (n6:=0) (n7:=0) (n9:=0) (bd:=.osl K1.length 272 0 272 1) lI0;rw [Vo] at c143;have f48:List.drop 48 cf = .int .i64 (ds:Nat) :: List.drop 49 cf:=by rw [kv];simp [vX,List.drop_of_length_le,la,lb,ls]
 have f49:List.drop 49 cf = .int .i64 (fs:Nat) :: List.drop 50 cf:=by rw [kv];simp [vX,List.drop_of_length_le,la,lb,ls]
 obtain ⟨B0,hB0⟩:∃ b:List UInt8,b = List.replicate 272 0:=⟨_,rfl⟩;have lB0:B0.length = 272:=by rw [hB0];simp
 rw [← hB0] at g2;have bK3:qf K3 K1.length = some (qd B0):=x3.get g2 (by simp);have gK3:=g3;have gqK3:=gq3;have hk1:H.length < K1.length:=qA g1;obtain ⟨za,hza⟩:=ql ((List.replicate ds [D.int .u64 0,D.int .u64 0]).flatten);have lza:za.length = ds * 2:=by rw [← hza];simp
 have uza:JM za:=fun d hd=>by
  rw [← hza] at hd;obtain ⟨l,hl,hd⟩:=List.mem_flatten.1 hd;rw [(List.mem_replicate.1 hl).2] at hd;simp only [jT,List.not_mem_nil,or_false,or_self] at hd;exact ⟨0,hd,by omega⟩
 have fza:idFree.idFreeL za = true:=by rw [kY];exact qdH uza
 have aza:(∀ x,x∈za→idFree x = true) = True:=eq_true fun x hx=>qjw (uza x hx);have tza:List.take (ds * 2) za = za:=qP (by omega);have mbza:16 * (ds:Int)≤(qD:Int)∧ds≤qD:=by simp only [qD];omega
 obtain ⟨K4,hK4⟩:=ql (qs K3 za);have gK4:=kh hK4;obtain ⟨K5,kS⟩:=ql (jO K4 [K3.length]);have hK5':List.set K4 K3.length none = K5:=kS
 have xK5:Ext [] K3 K5:=by
  refine ⟨?_,fun j hj _=>?_⟩
  ·rw [← kS,Zp,← hK4,zW];omega
  ·rw [← kS,Yd (by simp;omega),← hK4,vk hj]
 obtain ⟨_,ptb,tb,htb,rfl⟩:=qmp 4 (.inl rfl) false za ds uza lza (by simp) (by omega) (by omega);replace ptb:call cx 81 [.int .i64 4,.vsl false za ds] [] = some (.vsl false (qd tb) tb.length,[]):=ptb;have bK5:qf K5 K1.length = some (qd B0):=xK5.get bK3 (by simp);have aK6:=qfa (t:=29) (e:=5) (n:=tb.length) (x:=.vsl false (qd tb) tb.length) (xs:=qd tb) bK5 (by simp) (by simp) (by simp) (by simp) (by simp) (by simp) (c:=272) (by simp [lB0]) (by omega);obtain ⟨n1,ja⟩:=ql (272+tb.length);obtain ⟨B1,hB1⟩:∃ b,b = B0 ++ tb:=⟨_,rfl⟩;have lB1:B1.length = n1:=by rw [hB1,zz,lB0,ja]
 rw [← qiY,← hB1,ja] at aK6;obtain ⟨K6,kR⟩:=ql (qn K5 K1.length (qd B1));rw [kR] at aK6;have xK6:=Qk kR;have gK6:qf K6 K2.length = some C1:=xK6.get (xK5.get gK3 (by simp)) (by simp;omega);have kK6:K1.length < K6.length:=xK6.lt (xK5.lt (qA bK3));have gqK6:qf K6 H.length = some cf:=xK6.get (xK5.get gqK3 (by simp)) (by simp;omega);have sC2:=qjr lcf lI0 0 0 0 0 0 0 0 0 0 0 0 (.osl K1.length 272 0 272 1) (.osl K1.length n1 0 n1 1);rw [Vo] at sC2;obtain ⟨C2,zS⟩:=ql (jz cf I0 0 0 0 0 0 0 0 0 0 0 0 (.osl K1.length n1 0 n1 1));rw [zS] at sC2;have lC2:C2.length = 147:=by rw [← zS];exact QG lcf lI0 ..
 have cC2:=d143 (v1:=0) (st:=0) (v0:=0) (n0:=0) (n2:=0) (n3:=0) (n4:=0) (n5:=0) (n6:=0) (n7:=0) (n9:=0) (bd:=.osl K1.length n1 0 n1 1) lI0;rw [zS] at cC2;obtain ⟨K7,hK7⟩:=ql (qn K6 K2.length C2);have xK7:=Qk hK7;have gK7:=Qx hK7 gK6;have bK7:qf K7 K1.length = some (qd B1):=xK7.get (by rw [← kR];exact zG (qA bK5)) (by simp;omega);have gqK7:qf K7 H.length = some cf:=xK7.get gqK6 (by simp;omega);obtain ⟨zb,hzb⟩:=ql ((List.replicate fs [D.int .u64 0,D.int .u64 0]).flatten);have lzb:zb.length = fs * 2:=by rw [← hzb];simp
 have uzb:JM zb:=fun d hd=>by
  rw [← hzb] at hd;obtain ⟨l,hl,hd⟩:=List.mem_flatten.1 hd;rw [(List.mem_replicate.1 hl).2] at hd;simp only [jT,List.not_mem_nil,or_false,or_self] at hd;exact ⟨0,hd,by omega⟩
 have fzb:idFree.idFreeL zb = true:=by rw [kY];exact qdH uzb
 have azb:(∀ x,x∈zb→idFree x = true) = True:=eq_true fun x hx=>qjw (uzb x hx);have tzb:List.take (fs * 2) zb = zb:=qP (by omega);have mbzb:16 * (fs:Int)≤(qD:Int)∧fs≤qD:=by simp only [qD];omega
 obtain ⟨K8,VL⟩:=ql (qs K7 zb);have gK8:=kh VL;obtain ⟨K9,YO⟩:=ql (jO K8 [K7.length]);have hK9':List.set K8 K7.length none = K9:=YO
 have xK9:Ext [] K7 K9:=by
  refine ⟨?_,fun j hj _=>?_⟩
  ·rw [← YO,Zp,← VL,zW];omega
  ·rw [← YO,Yd (by simp;omega),← VL,vk hj]
 obtain ⟨_,ptc,tc,htc,rfl⟩:=qmp 5 (.inr rfl) false zb fs uzb lzb (by simp) (by omega) (by omega);replace ptc:call cx 81 [.int .i64 5,.vsl false zb fs] [] = some (.vsl false (qd tc) tc.length,[]):=ptc;have bK9:qf K9 K1.length = some (qd B1):=xK9.get bK7 (by simp);have aK10:=qfa (t:=29) (e:=5) (n:=tc.length) (x:=.vsl false (qd tc) tc.length) (xs:=qd tc) bK9 (by simp) (by simp) (by simp) (by simp) (by simp) (by simp) (c:=n1) (by simp [lB1]) (by omega);obtain ⟨n2,zX⟩:=ql (n1+tc.length);obtain ⟨B2,hB2⟩:∃ b,b = B1 ++ tc:=⟨_,rfl⟩;have lB2:B2.length = n2:=by rw [hB2,zz,lB1,zX]
 rw [← qiY,← hB2,zX] at aK10;obtain ⟨K10,hK10⟩:=ql (qn K9 K1.length (qd B2));rw [hK10] at aK10;have xK10:=Qk hK10;have gK10:qf K10 K2.length = some C2:=xK10.get (xK9.get gK7 (by simp)) (by simp;omega);have kK10:K1.length < K10.length:=xK10.lt (xK9.lt (qA bK7));have gqK10:qf K10 H.length = some cf:=xK10.get (xK9.get gqK7 (by simp)) (by simp;omega);have sC3:=qjr lcf lI0 0 0 0 0 0 0 0 0 0 0 0 (.osl K1.length n1 0 n1 1) (.osl K1.length n2 0 n2 1);rw [zS] at sC3;obtain ⟨C3,KI⟩:=ql (jz cf I0 0 0 0 0 0 0 0 0 0 0 0 (.osl K1.length n2 0 n2 1));rw [KI] at sC3;have lC3:C3.length = 147:=by rw [← KI];exact QG lcf lI0 ..
 have cC3:=d143 (v1:=0) (st:=0) (v0:=0) (n0:=0) (n2:=0) (n3:=0) (n4:=0) (n5:=0) (n6:=0) (n7:=0) (n9:=0) (bd:=.osl K1.length n2 0 n2 1) lI0;rw [KI] at cC3;obtain ⟨K11,hK11⟩:=ql (qn K10 K2.length C3);have xK11:=Qk hK11;have gK11:=Qx hK11 gK10;have bK11:qf K11 K1.length = some (qd B2):=xK11.get (by rw [← hK10];exact zG (qA bK9)) (by simp;omega);have gqK11:qf K11 H.length = some cf:=xK11.get gqK10 (by simp;omega);have leK5:K4.length≤K5.length:=by rw [← kS,Zp];exact qE _
 have qK4:qf K4 K2.length = some C1:=by rw [← hK4,vk (qA gK3)];exact gK3
 have qK5:qf K5 K2.length = some C1:=xK5.get gK3 (by simp);have leK9:K8.length≤K9.length:=by rw [← YO,Zp];exact qE _
 have qK8:qf K8 K2.length = some C2:=by rw [← VL,vk (qA gK7)];exact gK7
 have qK9:qf K9 K2.length = some C2:=xK9.get gK7 (by simp);have tA:List.take 16 cf = qd A.l:=by rw [kv];simp [la]
 have tB:List.take 16 (List.drop 16 cf) = qd B.l:=by rw [kv];simp [la,lb]
 have tS:List.take 16 (List.drop 32 cf) = qd S.l:=by rw [kv];simp [vX,List.drop_of_length_le,la,lb,ls]
 have eD:List.drop 32 (qd A.l ++ (qO (qO (qO (vE (vE [.int .u32 0,.int .u32 0,.int .u64 0])))))) = (qO (qO (vE (vE [.int .u32 0,.int .u32 0,.int .u64 0])))):=by simp [vX,List.drop_of_length_le,la]
 have e48:List.take 48 (qd A.l ++ (qd B.l ++ (qO (qO (vE (vE [.int .u32 0,.int .u32 0,.int .u64 0])))))) = qd A.l ++ (qd B.l ++ (qO [])):=by simp [ZK,qP,la,lb]
 have e64:List.drop 64 (qd A.l ++ (qd B.l ++ (qO (qO (vE (vE [.int .u32 0,.int .u32 0,.int .u64 0])))))) = (vE (vE [.int .u32 0,.int .u32 0,.int .u64 0])):=by simp [vX,List.drop_of_length_le,la,lb]
 obtain ⟨I1,hI1⟩:∃ I,I = qd A.l ++ (qd B.l ++ (qd (List.replicate 16 0) ++ qd S.l)):=⟨_,rfl⟩;have lI1:I1.length = 64:=by rw [hI1];simp [la,lb,ls]
 obtain ⟨C4,hC4⟩:=ql (jz cf I1 2 0 1 0 0 0 0 0 0 0 0 (.osl K1.length n2 0 n2 1))
 have s4:List.take 52 C3 ++ D.int .u32 2 :: D.int .u32 0 :: D.int .i64 1 :: (qd A.l ++ (qd B.l ++ D.int .u8 0 :: D.int .u8 0 :: D.int .u8 0 :: D.int .u8 0 :: D.int .u8 0 :: D.int .u8 0 :: D.int .u8 0 :: D.int .u8 0 :: D.int .u8 0 :: D.int .u8 0 :: D.int .u8 0 :: D.int .u8 0 :: D.int .u8 0 :: D.int .u8 0 :: D.int .u8 0 :: D.int .u8 0 :: (qd S.l ++ D.int .u64 0 :: D.int .u64 0 :: D.int .u64 0 :: D.int .u64 0 :: D.int .u64 0 :: D.int .u64 0 :: D.int .u64 0 :: D.int .u64 0 :: D.int .u64 0 :: D.int .u64 0 :: D.int .u64 0 :: D.int .u64 0 :: D.int .u64 0 :: D.int .u64 0 :: D.int .u64 0 :: D.int .u64 0 :: D.int .u64 0 :: D.int .u64 0 :: D.int .u64 0 :: D.int .u64 0 :: D.int .u32 0 :: D.int .u32 0 :: D.int .u64 0 :: List.drop 142 C3))) = C4:=by
  rw [← KI,← hC4,hI1];simp [jz,vX,List.drop_of_length_le,lcf,lI0,qd]
 have lC4:C4.length = 147:=by rw [← hC4];exact QG lcf lI1 ..
 have gS:∀ C,qf (qn K11 K2.length C) K2.length = some C:=fun C=>zG (qA gK11);have gqS:∀ C,qf (qn K11 K2.length C) H.length = some cf:=fun C=>by rw [zN (by omega)];exact gqK11
 have bS:∀ C,qf (qn K11 K2.length C) K1.length = some (qd B2):=fun C=>by rw [zN (by omega)];exact bK11
 have f51:List.drop 51 cf = [.bool key]:=by rw [kv];simp [vX,List.drop_of_length_le,la,lb,ls]
 obtain ⟨v1,hv1⟩:∃ v1:Nat,v1 = if key then 4 else 0:=⟨_,rfl⟩;obtain ⟨x16,hx16⟩:∃ x,x = 16 * ds:=⟨_,rfl⟩;obtain ⟨y16,hy16⟩:∃ x,x = 16 * fs:=⟨_,rfl⟩;obtain ⟨n17,hn17⟩:∃ x,x = n1+16:=⟨_,rfl⟩;have wn1:=qN (n1:Int) (n1:Int);have wx:=qx (16 * (ds:Int)) (x16:Int);have wx2:=qN (x16:Int) (x16:Int);have wy:=qx (16 * (fs:Int)) (y16:Int);have wy2:=qN (y16:Int) (y16:Int);have wn:=qN ((n1:Int)+16) (n17:Int);obtain ⟨C5,JW⟩:=ql (jz cf I1 2 v1 1 0 0 0 0 0 0 0 0 (.osl K1.length n2 0 n2 1))
 have s5:key = true→List.take 53 C4 ++ D.int .u32 4 :: List.drop 54 C4 = C5:=fun hk=>by
  have:=qyg lcf lI1 2 0 1 0 0 0 0 0 0 0 0 (.osl K1.length n2 0 n2 1) 4;rw [hC4] at this;rw [show D.int .u32 4 = D.int .u32 ((4:Nat):Int) from rfl,this,← JW,hv1,hk];rfl
 have e5:key = false→C4 = C5:=fun hk=>by rw [← hC4,← JW,hv1,hk];rfl
 have lC5:C5.length = 147:=by rw [← JW];exact QG lcf lI1 ..
 obtain ⟨C6,hC6⟩:=ql (jz cf I1 2 v1 1 272 0 0 0 0 0 0 0 (.osl K1.length n2 0 n2 1))
 have sC6:List.take 119 C5 ++ D.int .u64 272 :: List.drop 120 C5 = C6:=by
  have:=qyo lcf lI1 2 v1 1 0 0 0 0 0 0 0 0 (.osl K1.length n2 0 n2 1) 272;rw [JW,hC6] at this;exact this
 have lC6:C6.length = 147:=by rw [← hC6];exact QG lcf lI1 ..
 obtain ⟨C7,hC7⟩:=ql (jz cf I1 2 v1 1 272 288 0 0 0 0 0 0 (.osl K1.length n2 0 n2 1))
 have sC7:List.take 121 C6 ++ D.int .u64 288 :: List.drop 122 C6 = C7:=by
  have:=qyn lcf lI1 2 v1 1 272 0 0 0 0 0 0 0 (.osl K1.length n2 0 n2 1) 288;rw [hC6,hC7] at this;exact this
 have lC7:C7.length = 147:=by rw [← hC7];exact QG lcf lI1 ..
 obtain ⟨C8,hC8⟩:=ql (jz cf I1 2 v1 1 272 288 x16 0 0 0 0 0 (.osl K1.length n2 0 n2 1))
 have sC8:List.take 122 C7 ++ D.int .u64 (x16:Nat) :: List.drop 123 C7 = C8:=by
  have:=qym lcf lI1 2 v1 1 272 288 0 0 0 0 0 0 (.osl K1.length n2 0 n2 1) x16;rw [hC7,hC8] at this;exact this
 have lC8:C8.length = 147:=by rw [← hC8];exact QG lcf lI1 ..
 obtain ⟨C9,hC9⟩:=ql (jz cf I1 2 v1 1 272 288 x16 n17 0 0 0 0 (.osl K1.length n2 0 n2 1))
 have sC9:List.take 123 C8 ++ D.int .u64 (n17:Nat) :: List.drop 124 C8 = C9:=by
  have:=qyl lcf lI1 2 v1 1 272 288 x16 0 0 0 0 0 (.osl K1.length n2 0 n2 1) n17;rw [hC8,hC9] at this;exact this
 have lC9:C9.length = 147:=by rw [← hC9];exact QG lcf lI1 ..
 obtain ⟨C10,hC10⟩:=ql (jz cf I1 2 v1 1 272 288 x16 n17 y16 0 0 0 (.osl K1.length n2 0 n2 1))
 have sC10:List.take 124 C9 ++ D.int .u64 (y16:Nat) :: List.drop 125 C9 = C10:=by
  have:=qyk lcf lI1 2 v1 1 272 288 x16 n17 0 0 0 0 (.osl K1.length n2 0 n2 1) y16;rw [hC9,hC10] at this;exact this
 have lC10:C10.length = 147:=by rw [← hC10];exact QG lcf lI1 ..
 obtain ⟨C11,hC11⟩:=ql (jz cf I1 2 v1 1 272 288 x16 n17 y16 n1 0 0 (.osl K1.length n2 0 n2 1))
 have sC11:List.take 125 C10 ++ D.int .u64 (n1:Nat) :: List.drop 126 C10 = C11:=by
  have:=qyj lcf lI1 2 v1 1 272 288 x16 n17 y16 0 0 0 (.osl K1.length n2 0 n2 1) n1;rw [hC10,hC11] at this;exact this
 have lC11:C11.length = 147:=by rw [← hC11];exact QG lcf lI1 ..
 obtain ⟨C12,hC12⟩:=ql (jz cf I1 2 v1 1 272 288 x16 n17 y16 n1 2 0 (.osl K1.length n2 0 n2 1))
 have sC12:List.take 126 C11 ++ D.int .u64 2 :: List.drop 127 C11 = C12:=by
  have:=qyi lcf lI1 2 v1 1 272 288 x16 n17 y16 n1 0 0 (.osl K1.length n2 0 n2 1) 2;rw [hC11,hC12] at this;exact this
 have lC12:C12.length = 147:=by rw [← hC12];exact QG lcf lI1 ..
 obtain ⟨C13,hC13⟩:=ql (jz cf I1 2 v1 1 272 288 x16 n17 y16 n1 2 aft (.osl K1.length n2 0 n2 1))
 have sC13:List.take 128 C12 ++ D.int .u64 (aft:Nat) :: List.drop 129 C12 = C13:=by
  have:=qyh lcf lI1 2 v1 1 272 288 x16 n17 y16 n1 2 0 (.osl K1.length n2 0 n2 1) aft;rw [hC12,hC13] at this;exact this
 have lC13:C13.length = 147:=by rw [← hC13];exact QG lcf lI1 ..
 have hfin:∃ (T:qe) (q:Nat),(K2.length = q∧qn K11 K2.length C13 = T)∧∃ (m:Jm),JmW T q m∧m.Ok∧Ext [] H T∧(∀ i,i∈m.names q→H.length≤i)∧m.ne = 0∧m.tl = aft∧m.b.length = 304+16 * ds+16 * fs∧m.da = []∧m.fi = []∧m.main = []:=by
  have w:=qy0 (T:=qn K11 K2.length C13) (q:=K2.length) (bi:=K1.length) (b:=B2) (n1:=n1) (aft:=aft) kv hI1 (by rw [gS,lB2,← hx16,← hn17,← hy16,← hv1,hC13]) (bS C13) (by omega) qcQ (by omega) (by omega) (by omega);refine ⟨_,_,⟨rfl,rfl⟩,_,w,?_,?_,fun i hi=>?_,rfl,rfl,by simp only;omega,rfl,rfl,rfl⟩
  ·exact ⟨KD,hfs,by simp only;omega,by simp only;omega,by simp only;omega,by simp only;omega,fun k hk=>by simp at hk,fun k hk=>by simp at hk,⟨0,by simp only;omega,ArrOk.zero _⟩,fun _=>rfl,qcQ,by simp only;omega,by simp,by simp,fun k hk=>by simp at hk⟩
  ·have n1':NewL [] [K1.length] H.length:=fun i hi=>.inr (by rw [List.mem_singleton.1 hi];omega);have n2':NewL [] [K2.length] H.length:=fun i hi=>.inr (by rw [List.mem_singleton.1 hi];omega);exact (((((((((x1.trans x2 (NewL.refl _ _)).trans x3 (NewL.refl _ _)).trans xK5 (NewL.refl _ _)).trans xK6 n1').trans xK7 n2').trans xK9 (NewL.refl _ _)).trans xK10 n1').trans xK11 n2').trans (Ext.set K11 K2.length C13) n2')
  ·simp only [Jm.names,jT,List.not_mem_nil,or_false,KO] at hi;rcases hi with rfl | rfl <;> omega
 cases hkey:key with
 | true =>
  have s5':=s5 hkey;rw [hkey] at f51;simp [-qf,-qn,-qs,-qT,Tryz.f48,jS,g1,lcf,ccf,kl,h272,tcf,← hZm,lZm,s1,Xm,lC1,cC1,g3,gq3,c143,f48,f49,hza,lza,fza,aza,tza,mbza,hK4,gK4,hK5',ptb,bK5,aK6,kK6,gK6,sC2,lC2,cC2,hK7,gK7,gqK7,hzb,lzb,fzb,azb,tzb,mbzb,VL,gK8,hK9',ptc,bK9,aK10,kK10,gK10,sC3,lC3,hK11,gK11,gqK11,leK5,qK4,qK5,leK9,qK8,qK9,tA,tB,tS,eD,e48,e64,s4,lC4,gS,gqS,f51,Q3,wn1,wx,wx2,wy,wy2,wn,lC5,sC6,lC6,sC7,lC7,sC8,lC8,sC9,lC9,sC10,lC10,sC11,lC11,sC12,lC12,sC13,s5'];exact hfin
 | false =>
  have s5':=e5 hkey;rw [hkey] at f51;simp [-qf,-qn,-qs,-qT,Tryz.f48,jS,g1,lcf,ccf,kl,h272,tcf,← hZm,lZm,s1,Xm,lC1,cC1,g3,gq3,c143,f48,f49,hza,lza,fza,aza,tza,mbza,hK4,gK4,hK5',ptb,bK5,aK6,kK6,gK6,sC2,lC2,cC2,hK7,gK7,gqK7,hzb,lzb,fzb,azb,tzb,mbzb,VL,gK8,hK9',ptc,bK9,aK10,kK10,gK10,sC3,lC3,hK11,gK11,gqK11,leK5,qK4,qK5,leK9,qK8,qK9,tA,tB,tS,eD,e48,e64,s4,gS,gqS,f51,Q3,wn1,wx,wx2,wy,wy2,wn,lC5,sC6,lC6,sC7,lC7,sC8,lC8,sC9,lC9,sC10,lC10,sC11,lC11,sC12,lC12,sC13,s5'];exact hfin
end Go.Ev.S
namespace Go.Ev.S
open Go Go.Proofs Go.Ev
theorem JGrow.side {H K T:qe} {q:Nat} {m m':Jm} {L:List Nat} (g:JGrow H K q m m') (x:Ext L K T) (h1:∀ i,i∈L→H.length≤i) (h2:∀ i,i∈m'.names q→i ∉ L):JGrow H T q m m' :=
 { g with w:=qet g.w x h2,ext:=g.ext.trans x (fun i hi=>.inr (h1 i hi)) }
structure ApA (H:qe) (q:Nat) (m:Jm) (o:ID) (i:Nat) (K:qe) (m':Jm) (w:List Nat) (wD pD:D) (pc:List D) (Lw Lp:List Nat):Prop where
 g:JGrow H K q m m'
 da:m'.da.length≤m.da.length+i
 fi:m'.fi.length≤m.fi.length+i
 bl:m'.b.length≤m.b.length+171 * i
 cn:∀ k,k∈m'.da→k.cnt≤4 * m.ne
 id:qf K H.length = some (qd o.l)
 idN:H.length ∉ m'.names q
 wR:RowA K 1 wD (qJ .i64 w) Lw
 pR:RowA K 1 pD pc Lp
 wl:w.length = i
 pl:pc.length = i
 wb:∀ j,j∈w→j < m'.da.length
 ps:qjz pc
 wN:∀ j,j∈Lw→j ∉ m'.names q∧H.length < j
 pN:∀ j,j∈Lp→j ∉ m'.names q∧H.length < j∧j ∉ Lw
theorem qqu {cs:List D} (h:qjz cs):cs.all idFree = true:=List.all_eq_true.2 fun d hd=>by
 obtain ⟨s,rfl,_⟩:=h d hd;rfl
theorem ApA.next {H K K1 K5 K6 T3:qe} {q:Nat} {m m' m1:Jm} {o:ID} {i:Nat} {w:List Nat} {wD pD:D} {pc:List D} {Lw Lp:List Nat} (h:ApA H q m o i K m' w wD pD pc Lw Lp) (gr:JGrow K K1 q m' m1)
  {kk:Nat} (KA:kk < m1.da.length) (hb:m1.b.length≤m'.b.length+171) (hd:m1.da.length≤m'.da.length+1) (hmono:m'.da.length≤m1.da.length) (hf:m1.fi.length≤m'.fi.length+1) (hcn:∀ k,k∈m1.da→k∈m'.da∨k.cnt = 0)
  {s:List UInt8} (hs:s.length≤1000) {r:Nat} (hg5:qf K5 r = some (pc ++ [.vsl false (qd s) s.length])) (x5:Ext Lp K1 K5) (hr:r∈Lp∨K1.length≤r) (x6:Ext Lw K5 K6) (x7:Ext [] K6 T3) {a:Nat} (ha:a≤w.length)
  (g7:qf T3 K6.length = some (qJ .i64 (w.take a ++ kk :: w.drop a))) :
  ApA H q m o (i+1) T3 m1 (w.take a ++ kk :: w.drop a) (.osl K6.length (w.length+1) 0 (w.length+1) 1) (.osl r (pc.length+1) 0 (pc.length+1) 1) (pc ++ [.vsl false (qd s) s.length]) [K6.length] [r]:=by
 have n1:∀ j,j < K.length→j ∉ m'.names q→j ∉ m1.names q:=fun j hj hn hc=>(gr.new j hc).elim hn (fun vN=>by omega);have hHK:H.length < K.length:=qA h.id;have hpl:∀ j,j∈Lp→j < K.length:=fun j hj=>h.pR.lt hj;have jR:∀ j,j∈Lw→j < K.length:=fun j hj=>h.wR.lt hj;have l1:=gr.ext.len;have l5:=x5.len;have l6:=x6.len;have l7:=x7.len;have m1l:∀ j,j∈m1.names q→j < K1.length:=fun j hj=>qcv gr.w hj;have pN1:∀ j,j∈m1.names q→j ∉ Lp:=fun j hj hc=>n1 j (hpl j hc) (h.pN j hc).1 hj;have wN1:∀ j,j∈m1.names q→j ∉ Lw:=fun j hj hc=>n1 j (jR j hc) (h.wN j hc).1 hj
 have rLw:r ∉ Lw:=fun hc=>by
  rcases hr with h1 | h1
  ·exact (h.pN r h1).2.2 hc
  ·have:=jR r hc;omega
 have rlt:r < K5.length:=qA hg5;have g5:=(((h.g.trans gr).side x5 (fun j hj=>by have:=(h.pN j hj).2.1;omega) pN1).side x6 (fun j hj=>by have:=(h.wN j hj).2;omega) wN1).side x7 (fun j hj=>by simp at hj) (fun j _=>by simp);have idK:H.length ∉ Lp∧H.length ∉ Lw:=⟨fun hc=>by have:=(h.pN _ hc).2.1;omega,fun hc=>by have:=(h.wN _ hc).2;omega⟩;refine ⟨g5,by have:=h.da;omega,by have:=h.fi;omega,by have:=h.bl;omega,fun k hk=>?_,?_,n1 _ hHK h.idN,?_,?_,?_,?_,?_,?_,?_,?_⟩
 ·rcases hcn k hk with h1 | h1
  ·exact h.cn k h1
  ·omega
 ·exact x7.get (x6.get (x5.get (gr.ext.get h.id h.idN) idK.1) idK.2) (by simp)
 ·have:=RowA.of (H:=T3) (k:=1) (n:=w.length+1) (cs:=qJ .i64 (w.take a ++ kk :: w.drop a)) (by simp;omega) g7;have hl:(qJ .i64 (w.take a ++ kk :: w.drop a)).length = w.length+1:=by simp;omega
  rw [hl] at this;exact this
 ·have hg:=x7.get (x6.get hg5 rLw) (by simp);have:=RowA.of (H:=T3) (k:=1) (n:=pc.length+1) (by simp) hg;rw [zz,List.length_singleton] at this;exact this
 ·have:=h.wl;simp;omega
 ·rw [zz,h.pl];rfl
 ·intro j hj;simp only [vW,jT] at hj;rcases hj with hj | rfl | hj
  ·exact jZ (h.wb j (Vx hj)) hmono
  ·exact KA
  ·exact jZ (h.wb j (Jq hj)) hmono
 ·intro d hd;rcases List.mem_append.1 hd with h1 | h1
  ·exact h.ps d h1
  ·exact ⟨Sl.mk false s (by simp),List.mem_singleton.1 h1,by simp only;omega⟩
 ·intro j hj;rw [List.mem_singleton.1 hj];exact ⟨fun hc=>by have:=m1l _ hc;omega,by omega⟩
 ·intro j hj;rw [List.mem_singleton.1 hj];refine ⟨fun hc=>?_,?_,by simp;omega⟩
  ·rcases hr with h1 | h1
   ·exact pN1 r hc h1
   ·have:=m1l _ hc;omega
  ·rcases hr with h1 | h1
   ·exact (h.pN r h1).2.1
   ·omega
theorem qig {H:qe} {v:D} {cs:List D} {L:List Nat} {k n:Nat} (h:RowA H k v cs L) (hf:cs.all idFree = true) (hn:cs.length = n * k) (hk:0 < k):∃ nl,jf H 9 v = some (.vsl nl cs n,L)∧(nl = true→n = 0):=by
 rcases h with ⟨rfl,rfl,rfl⟩ | ⟨r,n',rfl,h2,h3,rfl⟩
 ·have h0:n * k = 0:=by simpa using hn.symm
  have Qr:n = 0:=(Nat.mul_eq_zero.1 h0).resolve_right (by omega);subst Qr;exact ⟨true,by simp [jf,idFree],fun _=>rfl⟩
 ·have zx:n' = n:=Nat.eq_of_mul_eq_mul_right hk (by omega);subst zx;refine ⟨false,?_,fun h=>by simp at h⟩;unfold jf;rw [if_neg (by simp [idFree])];simp only [h3];rw [if_pos ⟨trivial,by omega⟩,if_pos (by rw [kY];exact hf),List.drop_zero,qP (by omega)]
structure ApE (H T:qe) (q:Nat) (m m':Jm):Prop where
 w:JmW T q m'
 ok:m'.Ok
 main:ArrOk m'.b.length m'.main m'.ne
 cn:∀ k,k∈m'.da→k.cnt≤4 * m'.ne
 ext:Ext (m.names q) H T
 new:NewL (m.names q) (m'.names q) H.length
 ne:m'.ne = m.ne+1
 tl:m'.tl = m.tl+1
 bl:m'.b.length≤m.b.length+2200
 da:m'.da.length≤m.da.length+4
 fi:m'.fi.length≤m.fi.length+4
structure ApC (H:qe) (q:Nat) (m:Jm) (o:ID) (i:Nat) (K:qe) (m':Jm) (itD:D) (ic:List D) (Li:List Nat):Prop where
 g:JGrow H K q m m'
 id:qf K H.length = some (qd o.l)
 iR:RowA K 2 itD ic Li
 il:ic.length = i * 2
 iu:JM ic
 iN:∀ j,j∈Li→j ∉ m'.names q∧H.length < j
def apJ (q:Nat) (H:qe) (m m':Jm) (o:ID) (w:List Nat) (pc:List D) (nl nl2:Bool) (rt mo p:Nat) (i:Nat) (e:qr) (K:qe):Prop :=
 i≤w.length∧qi e 0 = some (.optr q 147 0)∧qi e 2 = some (.int .u64 rt)∧qi e 3 = some (.int .u64 mo)∧qi e 9 = some (.optr H.length 16 0)∧qi e 14 = some (.optr p 147 0)∧qi e 16 = some (.vsl nl (qJ .i64 w) w.length)∧qi e 17 = some (.vsl nl2 pc pc.length)∧qi e 21 = some (.int .i64 i)∧∃ itD ic Li,qi e 15 = some itD∧ApC H q m o i K m' itD ic Li
structure ApD (H:qe) (q:Nat) (m:Jm) (o:ID) (dl:Nat) (i:Nat) (K:qe) (m5:Jm):Prop where
 w:JmW K q m5
 ok:m5.Ok
 ext:Ext (m.names q) H K
 new:NewL (m.names q) (m5.names q) H.length
 ne:m5.ne = m.ne
 tl:m5.tl = m.tl
 main:ArrOk m5.b.length m5.main (m.ne+1)
 bl:m5.b.length≤m.b.length+(1000+280 * i)
 dl:m5.da.length = dl
 da:m5.da.length≤m.da.length+4
 fi:m5.fi.length≤m.fi.length+4
 cn:∀ k,k∈m5.da→k.cnt≤4 * m.ne+i
 id:qf K H.length = some (qd o.l)
 idN:H.length ∉ m5.names q
def apK (q:Nat) (H:qe) (m:Jm) (o:ID) (w:List Nat) (nl:Bool) (rt mo p seq a dl:Nat) (i:Nat) (e:qr) (K:qe):Prop :=
 i≤w.length∧qi e 0 = some (.optr q 147 0)∧qi e 2 = some (.int .u64 rt)∧qi e 3 = some (.int .u64 mo)∧qi e 9 = some (.optr H.length 16 0)∧qi e 14 = some (.optr p 147 0)∧qi e 16 = some (.vsl nl (qJ .i64 w) w.length)∧qi e 23 = some (.int .u64 seq)∧qi e 24 = some (.int .u64 a)∧qi e 26 = some (.int .i64 m.ne)∧qi e 27 = some (.int .i64 i)∧∃ m5,ApD H q m o dl i K m5
theorem qtR {j k:Nat} (h:j≤k):vo j≤vo k:=by
 induction h with
 | refl=>exact qE _
 | step _ ih=>have:=@qif;exact zT ih (Nat.le_of_lt qif)
theorem qsL {bl:Nat} {arrs:List Nat} {n:Nat} (h:ArrOk bl arrs n) {k:Nat} (hk:n≤vo k):arrs.length≤k:=by
 cases hl:arrs.length with
 | zero=>omega
 | succ j =>
  have h1:=h.lo j hl;by_cases hjk:j < k
  ·omega
  ·have:=qtR (show k≤j by omega);omega
theorem qlI {a k:Nat} (h:a≤k) (hk:k≤5):ZP a≤4 * 2 ^ k:=by
 unfold ZP;rw [if_pos (by omega)];exact Nat.mul_le_mul_left _ (YZ (by omega) h)
def apI (q:Nat) (H:qe) (m:Jm) (o:ID) (out:List Pr) (rt mo p:Nat) (i:Nat) (e:qr) (K:qe):Prop :=
 i≤out.length∧qi e 0 = some (.optr q 147 0)∧qi e 2 = some (.int .u64 rt)∧qi e 3 = some (.int .u64 mo)∧qi e 9 = some (.optr H.length 16 0)∧qi e 12 = some (.vsl false (qu out) out.length)∧qi e 14 = some (.optr p 147 0)∧qi e 15 = some (.vsl true [] 0)∧qi e 18 = some (.int .i64 i)∧∃ m' w wD pD pc Lw Lp,qi e 16 = some wD∧qi e 17 = some pD∧ApA H q m o i K m' w wD pD pc Lw Lp
set_option maxHeartbeats 8000000 in
set_option maxRecDepth 10000 in
theorem qzl [MaxL] [TxtC] {H:qe} {q:Nat} {m:Jm} (h:JmW H q m) (hk:m.Ok) (hmain:ArrOk m.b.length m.main m.ne) (hcn:∀ k,k∈m.da→k.cnt≤4 * m.ne) (ps:List Pr) (ku:1≤ps.length) (hp4:ps.length≤4) (hpo:∀ p∈ps,V6 p = true) (rt mo:Nat) (hrt:rt < 18446744073709551616) (hmo:mo < 18446744073709551616) (o:ID) (qQ:m.ne≤4) (jM:m.b.length≤25000) (XF:m.tl < 1000000) (hda:m.da.length≤500) (hfi:m.fi.length≤500) :
  ∃ T m',call cx 52 [.optr q 147 0,.vsl false (qu ps) ps.length,.int .u64 rt,.int .u64 mo,.agg (qd o.l)] H = some (.tup [.int .u64 (m.tl+1:Nat),.int .i64 0],T)∧ApE H T q m m':=by
 suffices hs:∃ r,call cx 52 [.optr q 147 0,.vsl false (qu ps) ps.length,.int .u64 rt,.int .u64 mo,.agg (qd o.l)] H = some r∧∃ (T:qe) (m':Jm),r = (.tup [.int .u64 (m.tl+1:Nat),.int .i64 0],T)∧ApE H T q m m' by
  obtain ⟨r,hc,T,m',rfl,h1⟩:=hs;exact ⟨T,m',hc,h1⟩
 refine Zh (X:=cx) (f:=52) _ Tryz.func52 rfl ⟨rfl,rfl⟩ ?_;obtain ⟨K1,jS⟩:=ql (qs H (qd o.l));have x1:=jD jS;have gid1:=kh jS;obtain ⟨_,hlist,out,ho1,ho4,hoo,rfl⟩:=qnp ps ku hp4 hpo;have g1:=(JGrow.refl h hk).side x1 (fun i hi=>by simp at hi) (fun i _=>by simp);have htail:=qjs g1.w;obtain ⟨K2,p,qcP,x2⟩:=qzj g1.w hk;have g2:=g1.side x2 (fun i hi=>by simp at hi) (fun i _=>by simp);have gid2:qf K2 H.length = some (qd o.l):=x2.get gid1 (by simp);have htm:¬ (m.tl:Int) = 18446744073709551615:=by omega
 have htmn:¬ m.tl = 18446744073709551615:=by omega
 have lo:=o.h
 have co:(∀ x,x∈qd o.l→closed H.length x = true) = True:=eq_true fun x hx=>by
  simp only [qd,ZM] at hx;obtain ⟨_,_,rfl⟩:=hx;rfl
 simp [-qf,-qn,-qs,-qT,-jf,-QZ,Tryz.f52,lo,jS,hlist,htail,htm,qcP];refine KZ (apI q H m o out rt mo p) (fun i=>out.length - i) 0 (fun ex e K=>ex = .exit 0∧apI q H m o out rt mo p out.length e K) ?_ ?_ ?_
 ·refine ⟨vV _,by simp,by simp,by simp,by simp,by simp,by simp,by simp,by simp,m,[],.vsl true [] 0,.vsl true [] 0,[],[],[],by simp,by simp,g2,by omega,by omega,by omega,hcn,gid2,?_,RowA.nil _ _,RowA.nil _ _,rfl,rfl,fun j hj=>by simp at hj,fun d hd=>by simp at hd,fun j hj=>by simp at hj,fun j hj=>by simp at hj⟩;intro hc;have:=qcv h hc;omega
 ·rintro i e K ⟨hi,p0,p2,p3,p9,p12,p14,p15,p18,m',w,wD,pD,pc,Lw,Lp,p16,p17,A⟩;by_cases qg:i < out.length
  ·have qo:=zI qg;have hw:=qx ((i:Int)+1) ((i+1:Nat):Int);have hp:=qxo (hoo _ (v6 qg));have YQ:=A.da;have JX:=A.fi;have hA3:=A.bl;have hA4:=A.wl;have hA5:=A.pl;obtain ⟨K1',m1,kk,hdat,gr,KA,vO,QN,hf1,hmono1,hcn1⟩:=qzi A.g.w A.g.ok out[i] (by omega) (by omega) (by omega) (by omega) (by omega);have hEp:(Enc.cells out[i]:List D) = [.str out[i].name,.str out[i].value]:=rfl
   have qaz:qu m1.da≠[]:=fun e0=>by
    have:=ZH m1.da;rw [e0] at this;simp at this;omega
   obtain ⟨ro,nn,hfv,kH,ZC,hLd⟩:=gr.w.rowD.own qaz
   have zx:nn = m1.da.length:=by
    have:=ZH m1.da;rw [this] at kH;simp at kH;omega
   subst zx;have jd:(qu m1.da).length = m1.da.length * 5:=kH;have rt1:=gr.w.root;have cl1:=gr.w.len;have c144:=jv gr.w.c144;rw [hfv,jd] at c144;obtain ⟨k,r0,VF,vf,vT,hd01,hd02⟩:=qcx KA;have XQ:=(gr.ok.da k VF).txt;have hkk':(kk:Int) < (m1.da.length:Int):=(by omega);obtain ⟨r,K4,K5,hA4',hst,g5,x5,hr⟩:=qwi K1' (A.pR.ext gr.ext (fun j hj=>(A.pN j hj).1)) (qqu A.ps) k.text (by omega);obtain ⟨Ka,kw⟩:=ql (qs K1' (qd k.text));rw [kw] at hA4';have lka:K1'.length < Ka.length:=(by rw [← kw,zW];omega);have hKa0:Ka≠[]:=fun e0=>by rw [e0] at lka;simp at lka
   obtain ⟨Kb,QX⟩:=ql (qs Ka [.osl K1'.length k.text.length 0 k.text.length 1]);rw [QX] at hA4';have wR5:=(A.wR.ext gr.ext (fun j hj=>(A.wN j hj).1)).ext x5 (fun j hj hc=>(A.pN j hc).2.2 hj);obtain ⟨nl,VA,zF⟩:=qgf wR5 (by simp [qJ,idFree]);rw [qje] at VA;obtain ⟨K6,kR⟩:=ql (jO K5 Lw);have x6:Ext Lw K5 K6:=kR ▸ qfV Lw
   have pN1:∀ j,j∈m1.names q→j ∉ Lp:=fun j hj hc=>by
    have:=A.pR.lt hc;rcases gr.new j hj with h1 | h1
    ·exact (A.pN j hc).1 h1
    ·omega
   have wN1:∀ j,j∈m1.names q→j ∉ Lw:=fun j hj hc=>by
    have:=A.wR.lt hc;rcases gr.new j hj with h1 | h1
    ·exact (A.wN j hc).1 h1
    ·omega
   have rt6:qf K6 q = some m1.cs:=x6.get (x5.get rt1 (pN1 _ V5)) (wN1 _ V5);have hro:ro∈m1.names q:=qg8 (by rw [hLd];simp);have ge6:qf K6 ro = some (qu m1.da):=x6.get (x5.get ZC (pN1 _ hro)) (wN1 _ hro);simp [-qf,-qn,-qs,-qT,-jf,-QZ,-jO,-Kn.ea,p0,p2,p3,p9,p12,p14,p15,p16,p17,p18,qg,qo,hdat,rt1,cl1,c144,hkk',ZC,jd,vf,kw,QX,hKa0,hA4',hst,VA,kR];clear p0 p2 p3 p9 p12 p14 p15 p16 p17 p18;obtain ⟨IB,hIB⟩:∃ I:Nat→qr→qe→Prop,I = fun (a:Nat) (e:qr) (K':qe)=>a≤w.length∧qi e 0 = some (.optr q 147 0)∧qi e 2 = some (.int .u64 rt)∧qi e 3 = some (.int .u64 mo)∧qi e 9 = some (.optr H.length 16 0)∧qi e 12 = some (.vsl false (qu out) out.length)∧qi e 14 = some (.optr p 147 0)∧qi e 15 = some (.vsl true [] 0)∧qi e 18 = some (.int .i64 i)∧qi e 16 = some (.vsl nl (qJ .i64 w) w.length)∧qi e 17 = some (.osl r (pc.length+1) 0 (pc.length+1) 1)∧qi e 19 = some (.int .i64 kk)∧qi e 20 = some (.int .i64 a)∧K' = K6:=⟨_,rfl⟩;refine KZ IB (fun a=>a) w.length (fun ex e K'=>ex = .exit 2∧∃ a,IB a e K') ?_ ?_ ?_
   ·rw [hIB];exact ⟨qE _,by simp,by simp,by simp,by simp,by simp,by simp,by simp,by simp,by simp,by simp,by simp,by simp,rfl⟩
   ·rw [hIB];rintro a e K' ⟨ha,p0,p2,p3,p9,p12,p14,p15,p18,p16,p17,p19,p20,rfl⟩;by_cases JB:a = 0
    ·subst JB;simp [-qf,-qn,-qs,p0,p2,p3,p9,p12,p14,p15,p16,p17,p18,p19,p20];exact ⟨0,by omega,rfl⟩
    ·obtain ⟨b,rfl⟩:∃ b,a = b+1:=⟨a - 1,by omega⟩;have jM:b < w.length:=(by omega);have hbl':(b:Int) < (w.length:Int):=(by omega);have hwa:=qx ((b:Int)+1 - 1) (b:Int);have hwb:=qx (b:Int) (b:Int);have hgt:(0:Int) < (b:Int)+1:=(by omega);have qI:=qbs (k:=.i64) jM;obtain ⟨j1,QV⟩:=ql (w[b]);rw [QV] at qI;have Vi:j1 < m1.da.length:=jZ (A.wb j1 (QV ▸ v6 jM)) hmono1;have hjd':(j1:Int) < (m1.da.length:Int):=(by omega);obtain ⟨k2,r2,hkm2,he0,hki2,he01,he02⟩:=qcx Vi
     have vj:nl = false:=by
      cases hnl2:nl with
      | false=>rfl
      | true =>
       have h0:w = []:=(by simpa [qJ] using zF hnl2);rw [h0] at jM;simp at jM
     subst vj;by_cases hgr:k.at_ < k2.at_
     ·have hgr':=zI hgr;simp [-qf,-qn,-qs,-Kn.ea,p0,p2,p3,p9,p12,p14,p15,p16,p17,p18,p19,p20,hbl',hwb,hgt,qI,hjd',rt6,cl1,c144,ge6,jd,he01,hd01,hkk',hgr'];exact ⟨b,by omega,by omega,rfl⟩
     ·have hgr':=zL hgr;simp [-qf,-qn,-qs,-Kn.ea,p0,p2,p3,p9,p12,p14,p15,p16,p17,p18,p19,p20,hbl',hwb,hgt,qI,hjd',rt6,cl1,c144,ge6,jd,he01,hd01,hkk',hgr'];exact ⟨b+1,ha,by omega⟩
   ·rw [hIB];rintro ex e K' ⟨rfl,a,ha,p0,p2,p3,p9,p12,p14,p15,p18,p16,p17,p19,p20,rfl⟩;obtain ⟨T1,T2,T3,i1,i2,i3,g7,x7,lt1⟩:=qzq K' nl w a kk ha (by omega);obtain ⟨K7,hK7⟩:=ql (qs K' []);rw [hK7] at i1;have YK:(a:Int)≤(w.length:Int):=(by omega);have htd:List.take (w.length - a) (List.drop a (qJ .i64 w)) = List.drop a (qJ .i64 w):=qP (by simp);have ZY:qs [] [D.int .i64 (kk:Nat)] = [some [.int .i64 (kk:Nat)]]:=rfl;simp [-qf,-qn,-qs,-qT,p0,p2,p3,p9,p12,p14,p15,p16,p17,p18,p19,p20,YK,hK7,i1,i2,i3,hw,ZY,htd];exact ⟨i+1,by omega,by omega,by simp,by simp,by simp,by simp,by simp,by simp,by simp,by simp,m1,w.take a ++ kk :: w.drop a,.osl K'.length (w.length+1) 0 (w.length+1) 1,.osl r (pc.length+1) 0 (pc.length+1) 1,_,_,_,by simp,by simp,A.next gr KA (by omega) QN hmono1 hf1 hcn1 XQ g5 x5 hr x6 x7 ha g7⟩
  ·have qo:=zL qg;have Q9:i = out.length:=(by omega);subst Q9;simp [-qf,-qn,-qs,p0,p2,p3,p9,p12,p14,p15,p16,p17,p18];exact ⟨qE _,by simp,by simp,by simp,by simp,by simp,by simp,by simp,by simp,m',w,wD,pD,pc,Lw,Lp,by simp,by simp,A⟩
 ·rintro ex e K ⟨rfl,-,p0,p2,p3,p9,p12,p14,p15,p18,m',w,wD,pD,pc,Lw,Lp,p16,p17,A⟩;have jR:=A.wl;have hpl:=A.pl;have hbl2:=A.bl;have hnat:(qJ .i64 w).all idFree = true:=by simp
  obtain ⟨nl,VA,zF⟩:=qgf A.wR hnat;obtain ⟨nl2,hs17,hnl2⟩:=qgf A.pR (qqu A.ps);rw [qje] at VA;obtain ⟨K8,VL⟩:=ql (jO K (Lw ++ Lp));have x8:Ext (Lw ++ Lp) K K8:=VL ▸ qfV _
  have g8:=A.g.side x8 (fun j hj=>by
   rcases List.mem_append.1 hj with h1 | h1
   ·have:=(A.wN j h1).2;omega
   ·have:=(A.pN j h1).2.1;omega) (fun j hj hc=>by
   rcases List.mem_append.1 hc with h1 | h1
   ·exact (A.wN j h1).1 hj
   ·exact (A.pN j h1).1 hj)
  have gid8:qf K8 H.length = some (qd o.l):=x8.get A.id (fun hc=>by
   rcases List.mem_append.1 hc with h1 | h1
   ·have:=(A.wN _ h1).2;omega
   ·have:=(A.pN _ h1).2.1;omega)
  simp [-qf,-qn,-qs,-qT,-jf,-QZ,-jO,p0,p2,p3,p9,p14,p15,p16,p17,VA,hs17,VL];refine KZ (apJ q H m m' o w pc nl nl2 rt mo p) (fun i=>w.length - i) 0 (fun ex e K=>ex = .exit 4∧apJ q H m m' o w pc nl nl2 rt mo p w.length e K) ?_ ?_ ?_
  ·exact ⟨vV _,by simp,by simp,by simp,by simp,by simp,by simp,by simp,by simp,.vsl true [] 0,[],[],by simp,g8,gid8,RowA.nil _ _,rfl,qzn,fun j hj=>by simp at hj⟩
  ·clear p0 p2 p3 p9 p12 p14 p15 p16 p17 p18;rintro i e K' ⟨hi,p0,p2,p3,p9,p14,p16,p17,p21,itD,ic,Li,p15,C⟩;by_cases qg:i < w.length
   ·have qo:=zI qg;have hw:=qx ((i:Int)+1) ((i+1:Nat):Int)
    have vj:nl = false:=by
     cases hnl3:nl with
     | false=>rfl
     | true =>
      have h0:w = []:=(by simpa [qJ] using zF hnl3);rw [h0] at qg;simp at qg
    subst vj;have qI:=qbs (k:=.i64) qg;obtain ⟨j1,QV⟩:=ql (w[i]);rw [QV] at qI;have Vi:j1 < m'.da.length:=A.wb j1 (QV ▸ v6 qg);have hjd':(j1:Int) < (m'.da.length:Int):=(by omega);obtain ⟨k,r0,VF,vf,vT,hd01,hd02⟩:=qcx Vi;have qaz:qu m'.da≠[]:=fun e0=>by rw [e0] at vf;simp at vf
    obtain ⟨ro,nn,hfv,kH,ZC,hLd⟩:=C.g.w.rowD.own qaz
    have zx:nn = m'.da.length:=by
     have:=ZH m'.da;rw [this] at kH;simp at kH;omega
    subst zx;have jd:(qu m'.da).length = m'.da.length * 5:=kH;have rt1:=C.g.w.root;have cl1:=C.g.w.len;have c144:=jv C.g.w.c144;rw [hfv,jd] at c144;have c51:=jv C.g.w.c51;have cfile:=C.g.w.file;have XQ:=(C.g.ok.da k VF).txt;have hka:=(C.g.ok.da k VF).at_;have hbm:=C.g.ok.bmax;obtain ⟨Ka,kw⟩:=ql (qs K' [.str k.text,.int .u64 (k.at_:Nat),.int .i64 (k.slot:Nat),.int .i64 (k.cnt:Nat),.vsl k.nil (qJ .u64 k.arrs) k.arrs.length]);have xa:Ext [] K' Ka:=kw ▸ Ext.new K' _;have ga:qf Ka K'.length = some [.str k.text,.int .u64 (k.at_:Nat),.int .i64 (k.slot:Nat),.int .i64 (k.cnt:Nat),.vsl k.nil (qJ .u64 k.arrs) k.arrs.length]:=(by rw [← kw,zA]);have rta:qf Ka q = some m'.cs:=xa.get rt1 (by simp);obtain ⟨qh,Kx,xh,J2,rfl⟩:=qiX m'.key m'.file (Sl.mk false k.text (by simp)) (by simp only;omega);unfold j5 at J2;obtain ⟨xn,rfl⟩:∃ xn:Nat,xh = (xn:Int):=⟨xh.toNat,by omega⟩;have hxn:xn < 18446744073709551616:=(by omega);replace Kx:call cx 86 [.bool m'.key,.agg (qd m'.file.l),.vsl false (qd k.text) k.text.length] [] = some (.int .u64 (xn:Int),[]):=Kx;obtain ⟨Kb,QX⟩:=ql (qs Ka (qd k.text));have xb:=jD QX;have gb:qf Kb Ka.length = some (qd k.text):=(by rw [← QX,zA]);obtain ⟨Kc,JD⟩:=ql (qs Kb [.int .u64 (k.at_:Nat),.int .u64 (xn:Nat)]);have xc:=jD JD;have gc:qf Kc Kb.length = some [.int .u64 (k.at_:Nat),.int .u64 (xn:Nat)]:=(by rw [← JD,zA]);have lka:K'.length < Ka.length:=qA ga;have lkb:Ka.length < Kb.length:=qA gb;have txk:List.take k.text.length (qd k.text) = qd k.text:=qP (by simp);have J8:=C.il;obtain ⟨itD',Kd,Li',hA,hRd,xd,nd⟩:=(((C.iR.ext xa (fun _ _=>by simp)).ext xb (fun _ _=>by simp)).ext xc (fun _ _=>by simp)).append (P:=Tryz.prog) (st:=169) (xt:=169) (e:=177) (x:=.osl Kb.length 2 0 1 2) (xs:=[.int .u64 (k.at_:Nat),.int .u64 (xn:Nat)]) (m:=1) (by simp) (by simp) (by simp [-qf,gc]) (by simp) (by omega) (by simp) (by omega) (by simp [qD];omega) (by simp [qD];omega);simp [-qf,-qn,-qs,-qT,-Kn.ea,p0,p2,p3,p9,p14,p15,p16,p17,p21,qo,qI,hw,hjd',rt1,cl1,c144,ZC,jd,vf,zA,qc6,kw,ga,rta,c51,cfile,Kx,QX,gb,JD,hA,txk];have idLi:H.length ∉ Li:=fun hc=>by have:=(C.iN _ hc).2;omega
    refine ⟨i+1,by omega,by omega,by simp,by simp,by simp,by simp,by simp,by simp,by simp,by simp,itD',ic ++ [.int .u64 (k.at_:Nat),.int .u64 (xn:Nat)],Li',by simp,?_,?_,hRd,?_,?_,fun j hj=>?_⟩
    ·exact (((C.g.side xa (fun j hj=>by simp at hj) (fun j _=>by simp)).side xb (fun j hj=>by simp at hj) (fun j _=>by simp)).side xc (fun j hj=>by simp at hj) (fun j _=>by simp)).side xd (fun j hj=>by have:=(C.iN j hj).2;omega) (fun j hj hc=>(C.iN j hc).1 hj)
    ·exact xd.get (xc.get (xb.get (xa.get C.id (by simp)) (by simp)) (by simp)) idLi
    ·rw [zz,J8];simp;omega
    ·intro d hd;rcases List.mem_append.1 hd with h1 | h1
     ·exact C.iu d h1
     ·simp only [jT,List.not_mem_nil,or_false] at h1;rcases h1 with rfl | rfl
      ·exact ⟨_,rfl,by omega⟩
      ·exact ⟨_,rfl,hxn⟩
    ·rcases nd j hj with h1 | h1
     ·exact C.iN j h1
     ·have e1:=xa.len;have e2:=xb.len;have e3:=xc.len;have e4:=qA C.id;exact ⟨fun hc=>by have:=qcv C.g.w hc;omega,by omega⟩
   ·have qo:=zL qg;have Q9:i = w.length:=(by omega);subst Q9;simp [-qf,-qn,-qs,p0,p2,p3,p9,p14,p15,p16,p17,p21];exact ⟨qE _,by simp,by simp,by simp,by simp,by simp,by simp,by simp,by simp,itD,ic,Li,by simp,C⟩
  ·clear p0 p2 p3 p9 p12 p14 p15 p16 p17 p18;rintro ex e K' ⟨rfl,-,p0,p2,p3,p9,p14,p16,p17,p21,itD,ic,Li,p15,C⟩;obtain ⟨nl3,hs15,hnl3⟩:=qig C.iR (qdH C.iu) C.il (by omega);obtain ⟨K9,YO⟩:=ql (jO K' Li);have x9:Ext Li K' K9:=YO ▸ qfV _;have g9:=C.g.side x9 (fun j hj=>by have:=(C.iN j hj).2;omega) (fun j hj hc=>(C.iN j hc).1 hj);have gid9:qf K9 H.length = some (qd o.l):=x9.get C.id (fun hc=>by have:=(C.iN _ hc).2;omega);have htail9:=qjs g9.w;rw [g9.tl] at htail9;obtain ⟨seq,hseq⟩:∃ s,s = m.tl+1:=⟨_,rfl⟩;have wtl:=qN ((m.tl:Int)+1) (seq:Int);obtain ⟨_,hxor,xx,hxx,rfl⟩:=qtl nl2 pc A.ps hnl2 (by omega);unfold j5 at hxx;obtain ⟨xm,rfl⟩:∃ xm:Nat,xx = (xm:Int):=⟨xx.toNat,by omega⟩;have hxm:xm < 18446744073709551616:=(by omega);obtain ⟨_,Xf,te,hte,rfl⟩:=qwg seq rt mo o xm (by omega) hrt hmo hxm nl3 ic w.length C.iu C.il hnl3 (by omega);replace Xf:call cx 88 [.agg (.int .u64 (seq:Nat) :: .int .u64 (rt:Nat) :: .int .u64 (mo:Nat) :: (qd o.l ++ [.int .u64 (xm:Nat),.vsl nl3 ic w.length]))] [] = some (.vsl false (qd te) te.length,[]):=Xf;have hok9:=g9.ok.bmod;obtain ⟨K10,cs10,hobj,w10,o10,x10,l10⟩:=qgN g9.w g9.ok te (by omega) (by omega);obtain ⟨m10,qa2⟩:∃ x,x = ({ m' with b:=m'.b ++ te,cs:=cs10 }:Jm):=⟨_,rfl⟩;rw [← qa2] at w10 o10;have m10b:m10.b.length = m'.b.length+te.length:=(by rw [qa2];simp);have m10c:m10.cs = cs10:=(by rw [qa2]);have m10mn:m10.mn = m'.mn:=(by rw [qa2]);have m10mm:m10.main = m'.main:=(by rw [qa2]);have m10ne:m10.ne = m.ne:=(by rw [qa2];exact g9.ne);have rt10:=w10.root;have cl10:=w10.len;have c127:=jv w10.c127;have c146:=jv w10.c146;rw [m10mn,m10mm] at c146;rw [m10ne] at c127;have wne:=qx (m.ne:Int) (m.ne:Int)
   have hma:ArrOk m10.b.length m'.main m.ne:=by
    rw [g9.main];exact hmain.mono (by have:=g9.bl;omega)
   have hft:=g9.ok.ft;have hblo:=g9.ok.bl;obtain ⟨K11,m11,arrs,z,hlink,hz,gr11,ha11,hb11,hd11,hf11⟩:=qqp w10 o10 m'.mn m'.main m.ne 176 m'.b.length g9.ok.mn hma (by omega) (by omega) (by omega) (by omega)
   have qa5:∃ al rest,arrs = al :: rest:=by
    cases hars:arrs with
    | nil=>exact absurd (ha11.nil hars) (by omega)
    | cons al rest=>exact ⟨al,rest,rfl⟩
   have clr0:jO K9 [] = K9:=rfl;obtain ⟨al,rest,rfl⟩:=qa5;obtain ⟨arrs,harrs⟩:∃ a,a = al :: rest:=⟨_,rfl⟩;rw [← harrs] at hlink ha11;rw [show ((176:Nat):Int) = 176 from rfl] at hlink;have larb:=qh5 ha11;have lar:arrs.length = rest.length+1:=(by rw [harrs];rfl);have hnc:qJ .u64 arrs = .int .u64 (al:Nat) :: qJ .u64 rest:=(by rw [harrs];rfl);have QK:rest.length < arrs.length:=(by omega);have J6:=qbs (k:=.u64) QK;obtain ⟨lv,hlv⟩:=ql (arrs[rest.length]);rw [hlv] at J6;have hrll:(rest.length:Int) < (arrs.length:Int):=(by omega);have ar0:(0:Int) < (arrs.length:Int):=(by omega);have ar0n:0 < arrs.length:=(by omega);have warl:=qx ((arrs.length:Int) - 1) (rest.length:Int);have rt11:=gr11.w.root;have cl11:=gr11.w.len;have w12:=qyz gr11.w arrs;obtain ⟨C12,hC12⟩:∃ C,C = m11.cs.set 146 (.vsl false (qJ .u64 arrs) arrs.length):=⟨_,rfl⟩;have s12:List.take 146 m11.cs ++ D.vsl false (qJ .u64 arrs) arrs.length :: List.drop 147 m11.cs = C12:=(by rw [hC12];exact vp (by omega));rw [← hC12] at w12;have gS:∀ C,qf (qn K11 q C) q = some C:=fun C=>zG (qA rt11);have l12:C12.length = 147:=w12.len;have d146:=jv w12.c146;simp only at d146
   have alu:∀ a,a∈arrs→a < 18446744073709551616:=fun a ha=>by
    obtain ⟨j,hj⟩:=List.getElem?_of_mem ha;have:=ha11.at_ j a hj;have:=gr11.ok.bmax;omega
   have QC:al < 18446744073709551616:=alu al (by rw [harrs];simp);have w13:=Xb w12 (i:=130) rfl (d:=.int .u64 (al:Nat)) ⟨al,rfl,QC⟩;simp only [Q3] at w13;obtain ⟨C13,hC13⟩:∃ C,C = C12.set 130 (.int .u64 (al:Nat)):=⟨_,rfl⟩;have s13:List.take 130 C12 ++ D.int .u64 (al:Nat) :: List.drop 131 C12 = C13:=(by rw [hC13];exact vp (by omega));rw [← hC13] at w13;have l13:C13.length = 147:=w13.len;have d146b:=jv w13.c146;simp only at d146b;have hlvb:=ha11.at_ rest.length lv (by rw [zn QK,hlv]);have hbm11:=gr11.ok.bmax;obtain ⟨v32,hv32e⟩:∃ v,v = lv:=⟨_,rfl⟩;have hv32l:v32 < 4294967296:=(by omega);have hv32:IntKind.u32.wrap (lv:Int) = (v32:Int):=(by rw [hv32e,qhR];omega);have hz32:=Yj (z:Int) (z:Int);have w14:=qyv w13 v32 hv32l;simp only [Q3] at w14;obtain ⟨C14,hC14⟩:∃ C,C = C13.set 139 (.int .u32 (v32:Nat)):=⟨_,rfl⟩;have s14:List.take 139 C13 ++ D.int .u32 (v32:Nat) :: List.drop 140 C13 = C14:=(by rw [hC14];exact vp (by omega));rw [← hC14] at w14;have l14:C14.length = 147:=w14.len;have w15:=qyu w14 z (by omega);simp only [Q3] at w15;obtain ⟨C15,hC15⟩:∃ C,C = C14.set 140 (.int .u32 (z:Nat)):=⟨_,rfl⟩;have s15:List.take 140 C14 ++ D.int .u32 (z:Nat) :: List.drop 141 C14 = C15:=(by rw [hC15];exact vp (by omega));rw [← hC15] at w15;have l15:C15.length = 147:=w15.len;rw [hnc] at s12 d146 d146b J6;have e17a:List.drop 17 (qd o.l ++ [D.int .u64 0,.vsl true [] 0]) = [.vsl true [] 0]:=(by simp [vX,List.drop_of_length_le,lo]);have e17:List.take 17 (qd o.l ++ [D.int .u64 (xm:Nat),.vsl true [] 0]) = qd o.l ++ [D.int .u64 (xm:Nat)]:=(by simp [ZK,qP,lo]);have e18:List.drop 18 (qd o.l ++ [D.int .u64 (xm:Nat),.vsl true [] 0]) = []:=(by simp [lo]);have hic:ic.all idFree = true:=qdH C.iu
   have hsa:jf K9 9 (.agg (.int .u64 (seq:Nat) :: .int .u64 (rt:Nat) :: .int .u64 (mo:Nat) :: (qd o.l ++ [.int .u64 (xm:Nat),.vsl nl3 ic w.length]))) = some (.agg (.int .u64 (seq:Nat) :: .int .u64 (rt:Nat) :: .int .u64 (mo:Nat) :: (qd o.l ++ [.int .u64 (xm:Nat),.vsl nl3 ic w.length])),[]):=by
    unfold jf;rw [if_pos (by simp [idFree,kY,qd])]
   simp [-qf,-qn,-qs,-qT,-jf,-jO,p0,p2,p3,p9,p14,p15,p16,p17,hs15,YO,gid9,htail9,wtl,hxor,Xf,hobj,rt10,cl10,c127,c146,wne,hlink,lo,e17a,e17,e18,hsa,clr0,rt11,cl11,s12,gS,l12,d146,hnc,ar0n,s13,Q3,l13,d146b,warl,hrll,J6,hv32,hz32,s14,l14,s15,Qo];have hm1l:=qsL hma (k:=1) (by rw [show vo 1 = 4 from rfl];omega);have hrm:=qlI hm1l (by omega);obtain ⟨K12,hK12⟩:=ql (qn K11 q C15);rw [hK12] at w15 ⊢;obtain ⟨m12,qa1⟩:∃ x,x = ({ m11 with mn:=false,main:=arrs,cs:=C15 }:Jm):=⟨_,rfl⟩;have w15':JmW K12 q m12:=(by rw [qa1];exact w15);have nm10:m10.names q = m'.names q:=(by rw [qa2];rfl);have nm12:m12.names q = m11.names q:=(by rw [qa1];rfl);have hHK:H.length < K9.length:=qA gid9;have idN':H.length ∉ m'.names q:=A.idN
   have idN11:H.length ∉ m11.names q:=fun hc=>by
    rcases gr11.new _ hc with h1 | h1
    ·rw [nm10] at h1;exact idN' h1
    ·omega
   have x10':Ext (m'.names q) K9 K10:=x10.mono fun i hi=>by
    simp only [jT,List.not_mem_nil,or_false] at hi;rcases hi with rfl | rfl
    ·exact V5
    ·exact Ko
   have x11':Ext (m'.names q) K10 K11:=(by rw [← nm10];exact gr11.ext);have x12':Ext (m'.names q) K11 K12:=(hK12 ▸ Ext.set K11 q C15:Ext [q] K11 K12).mono fun i hi=>by rw [List.mem_singleton.1 hi];exact V5
   have x912:=(x10'.trans x11' (NewL.refl _ _)).trans x12' (NewL.refl _ _);have hd12:m12.da = m'.da:=(by rw [qa1];simp only;rw [hd11,qa2]);have hf12:m12.fi = m'.fi:=(by rw [qa1];simp only;rw [hf11,qa2]);have hb12:m12.b.length = m11.b.length:=by rw [qa1]
   have D0:ApD H q m o m'.da.length 0 K12 m12:=by
    refine ⟨w15',?_,g9.ext.trans x912 g9.new,?_,?_,?_,?_,?_,by rw [hd12],by rw [hd12];have:=A.da;omega,by rw [hf12];have:=A.fi;omega,by rw [hd12];exact A.cn,x912.get gid9 idN',by rw [nm12];exact idN11⟩
    ·rw [qa1]
     exact { gr11.ok with
      main:=⟨m11.ne+1,by simp only;omega,by simp only;rw [gr11.ne,m10ne];exact ha11⟩
      mn:=fun h=>by simp at h }
    ·rw [nm12];intro i hi;rcases gr11.new i hi with h1 | h1
     ·rw [nm10] at h1;exact g9.new i h1
     ·exact .inr (by omega)
    ·rw [qa1];simp only;rw [gr11.ne,m10ne]
    ·rw [qa1];simp only;rw [gr11.tl,qa2];exact g9.tl
    ·rw [qa1];exact ha11
    ·omega
   have hwb:∀ j,j∈w→j < m'.da.length:=A.wb;obtain ⟨dl,jp⟩:∃ d,d = m'.da.length:=⟨_,rfl⟩;obtain ⟨atp,hatp⟩:∃ a,a = m'.b.length:=⟨_,rfl⟩;rw [← jp] at D0 hwb;rw [← hatp];have hatb:atp < 18446744073709551616:=(by have:=g9.ok.bmax;omega);have ZW:w.length≤4:=(by omega);have hnlw:nl = true→w = []:=fun h=>by simpa [qJ] using zF h
   clear qa1 hK12 YO hobj hlink Xf hxor hd12 hf12 hsa p0 p2 p3 p9 p14 p15 p16 p17 p21 x912 x10' x11' x12' gr11 w15 w14 w13 w12 A C;refine KZ (apK q H m o w nl rt mo p seq atp dl) (fun i=>w.length - i) 0 (fun ex e K=>ex = .exit 6∧apK q H m o w nl rt mo p seq atp dl w.length e K) ?_ ?_ ?_
   ·exact ⟨vV _,by simp,by simp,by simp,by simp,by simp,by simp,by simp,by simp,by simp,by simp,m12,D0⟩
   ·rintro i e K' ⟨hi,p0,p2,p3,p9,p14,p16,p23,p24,p26,p27,m5,A5⟩;by_cases qg:i < w.length
    ·have qo:=zI qg;have hw:=qx ((i:Int)+1) ((i+1:Nat):Int)
     have vj:nl = false:=by
      cases hnl3:nl with
      | false=>rfl
      | true =>
       rw [hnlw hnl3] at qg;simp at qg
     subst vj;have qI:=qbs (k:=.i64) qg;obtain ⟨j1,QV⟩:=ql (w[i]);rw [QV] at qI;have Vi:j1 < m5.da.length:=(by rw [A5.dl];exact hwb j1 (QV ▸ v6 qg));have hjd':(j1:Int) < (m5.da.length:Int):=(by omega);obtain ⟨k,r0,VF,vf,vT,hd01,hd02⟩:=qcx Vi;have qaz:qu m5.da≠[]:=fun e0=>by rw [e0] at vf;simp at vf
     obtain ⟨ro,nn,hfv,kH,ZC,hLd⟩:=A5.w.rowD.own qaz
     have zx:nn = m5.da.length:=by
      have:=ZH m5.da;rw [this] at kH;simp at kH;omega
     subst zx;have jd:(qu m5.da).length = m5.da.length * 5:=kH;have rt1:=A5.w.root;have cl1:=A5.w.len;have c144:=jv A5.w.c144;rw [hfv,jd] at c144;have hkok:=A5.ok.da k VF;have hka:=hkok.at_;have hkc:=A5.cn k VF;have hbm:=A5.ok.bmax;have hb5:=A5.bl;have hne5:=A5.ne;obtain ⟨Ka,kw⟩:=ql (qs K' [.str k.text,.int .u64 (k.at_:Nat),.int .i64 (k.slot:Nat),.int .i64 (k.cnt:Nat),.vsl k.nil (qJ .u64 k.arrs) k.arrs.length]);have xa:Ext [] K' Ka:=kw ▸ Ext.new K' _;have ga:qf Ka K'.length = some [.str k.text,.int .u64 (k.at_:Nat),.int .i64 (k.slot:Nat),.int .i64 (k.cnt:Nat),.vsl k.nil (qJ .u64 k.arrs) k.arrs.length]:=(by rw [← kw,zA]);have wa:=Xa A5.w xa;have hnK:∀ j,j∈m5.names q→j < K'.length:=fun j hj=>qcv A5.w hj;obtain ⟨p40,hp40⟩:∃ x,x = k.at_+40:=⟨_,rfl⟩;obtain ⟨p48,hp48⟩:∃ x,x = k.at_+48:=⟨_,rfl⟩;obtain ⟨p56,hp56⟩:∃ x,x = k.at_+56:=⟨_,rfl⟩;obtain ⟨c1,Vl⟩:∃ x,x = k.cnt - 1:=⟨_,rfl⟩;obtain ⟨c2,QB⟩:∃ x,x = k.cnt+1:=⟨_,rfl⟩;have w40:=qN ((k.at_:Int)+40) (p40:Int);have w48:=qN ((k.at_:Int)+48) (p48:Int);have w56:=qN ((k.at_:Int)+56) (p56:Int);have wc2:=qx ((k.cnt:Int)+1) (c2:Int);have wc2u:=qN (c2:Int) (c2:Int);have hj5:j1 * 5+5≤m5.da.length * 5:=by omega
     have key:∀ (Kb:qe) (m6:Jm) (nk:Bool) (ar:List Nat),JGrow Ka Kb q m5 m6→m6.da = m5.da→m6.fi = m5.fi→m6.b.length≤m5.b.length+280→ArrOk m6.b.length ar (c2 - 1)→(nk = true→ar = []) →
       ∃ Kd T m7 ro2,call cx 91 [.optr q 147 0,.int .u64 p56,.int .u64 c2] (qn Kb K'.length [.str k.text,.int .u64 (k.at_:Nat),.int .i64 (k.slot:Nat),.int .i64 (c2:Nat),.vsl nk (qJ .u64 ar) ar.length]) = some (.tup [],Kd)
        ∧ qf Kb K'.length = some [.str k.text,.int .u64 (k.at_:Nat),.int .i64 (k.slot:Nat),.int .i64 (k.cnt:Nat),.vsl k.nil (qJ .u64 k.arrs) k.arrs.length]
        ∧ qf Kd q = some m6.cs∧m6.cs.length = 147∧List.drop 144 m6.cs = .osl ro2 (m5.da.length * 5) 0 m5.da.length 5 :: List.drop 145 m6.cs
        ∧ qf Kd K'.length = some [.str k.text,.int .u64 (k.at_:Nat),.int .i64 (k.slot:Nat),.int .i64 (c2:Nat),.vsl nk (qJ .u64 ar) ar.length]
        ∧ qf Kd ro2 = some (qu m5.da)
        ∧ qn Kd ro2 (qu (List.take j1 m5.da) ++ (.str k.text :: .int .u64 (k.at_:Nat) :: .int .i64 (k.slot:Nat) :: .int .i64 (c2:Nat) :: .vsl nk (qJ .u64 ar) ar.length :: List.drop (j1 * 5+5) (qu m5.da))) = T
        ∧ ApD H q m o dl (i+1) T m7:=by
      intro Kb m6 nk ar g6 qcN hfi6 hb6 KE hnk;have lKa:Ka.length = K'.length+1:=(by rw [← kw,zW]);have gb:qf Kb K'.length = some [.str k.text,.int .u64 (k.at_:Nat),.int .i64 (k.slot:Nat),.int .i64 (k.cnt:Nat),.vsl k.nil (qJ .u64 k.arrs) k.arrs.length]:=g6.ext.get ga (fun hc=>by have:=hnK _ hc;omega)
      have nb:∀ j,j∈m6.names q→j≠K'.length:=fun j hj e=>by
       rcases g6.new j hj with h1 | h1
       ·have:=hnK j h1;omega
       ·omega
      obtain ⟨kc2,hkc2⟩:∃ c:List D,c = [.str k.text,.int .u64 (k.at_:Nat),.int .i64 (k.slot:Nat),.int .i64 (c2:Nat),.vsl nk (qJ .u64 ar) ar.length]:=⟨_,rfl⟩;rw [← hkc2];obtain ⟨Kc,JD⟩:=ql (qn Kb K'.length kc2);have xc:=Qk JD;have gc:qf Kc K'.length = some kc2:=(by rw [← JD];exact zG (qA gb));have wc:=qet g6.w xc (fun j hj hc=>nb j hj (List.mem_singleton.1 hc));have hb56:=g6.bl;obtain ⟨Kd,b7,hput,hb7,wd,okd,xd,ld⟩:=qaq wc g6.ok p56 c2 (by omega);rw [JD];have hne6:qu m6.da≠[]:=(by rw [qcN];exact qaz);obtain ⟨ro2,n2,hfv2,hcl22,hget2,hLd2⟩:=wd.rowD.own hne6;simp only at hfv2 hcl22 hget2 hLd2;rw [qcN] at hfv2 hcl22 hget2;have zX:n2 = m5.da.length:=(by rw [jd] at hcl22;omega);subst zX;rw [jd] at hfv2;have c144d:=jv wd.c144;simp only at c144d;rw [hfv2] at c144d;have hbi6:m6.bi∈m6.names q:=Ko;have hro6:ro2∈m6.names q:=qg8 (by rw [hLd2];simp);have gd:qf Kd K'.length = some kc2:=xd.get gc (fun hc=>nb _ hbi6 (List.mem_singleton.1 hc).symm);obtain ⟨k',hk'⟩:∃ x:Kn,x = ⟨k.text,k.at_,k.slot,c2,nk,ar⟩:=⟨_,rfl⟩;have JU:(Enc.cells k':List D) = kc2:=(by rw [hk',hkc2];rfl);have we:=qyx (j:=j1) wd k' (by simp only;exact hLd2) (by simp only;rw [qcN];exact hfv2) (by rw [hget2];rfl);simp only at we;have hset5:=Ya m5.da j1 k' Vi;rw [qaO (n:=5) rfl,JU] at hset5;obtain ⟨T,hT⟩:=ql (qn Kd ro2 (qu (m5.da.set j1 k')));rw [qcN,hT] at we;refine ⟨Kd,T,_,ro2,hput,gb,wd.root,wd.len,c144d,gd,hget2,by rw [← hT,hset5,hkc2];rfl,we,?_,?_,?_,?_,?_,?_,?_,?_,?_,?_,?_,?_,?_⟩
      ·exact { okd with
        da:=fun x hx=>by
         simp only at hx ⊢;rcases qfR hx with h1 | h1
         ·exact okd.da x (by simp only;rw [qcN];exact h1)
         ·rw [h1,hk'];have e7:b7.length = m6.b.length:=hb7;exact ⟨by simp only;omega,by simp only;rw [g6.ds];exact hkok.slot,by simp only;rw [e7];exact KE,by simp only;exact hnk,by simp only;exact hkok.txt⟩
        nda:=by
         have:=A5.ok.nda;simp only;rw [ky];exact this
        cn:=fun x hx=>by
         simp only at hx ⊢;rcases qfR hx with h1 | h1
         ·exact okd.cn x (by simp only;rw [qcN];exact h1)
         ·have:=g6.ne;rw [h1,hk'];simp only;omega }
      ·have hHK':=A5.ext.len;have n6:NewL (m.names q) (m6.names q) H.length:=A5.new.trans g6.new (by have:=xa.len;omega);have z1:=A5.ext.trans xa (fun j hj=>by simp at hj);have z2:=z1.trans g6.ext A5.new;have z3:=z2.trans xc (fun j hj=>.inr (by rw [List.mem_singleton.1 hj];exact hHK'));have z4:=z3.trans xd (fun j hj=>by rw [List.mem_singleton.1 hj];exact n6 _ hbi6);exact z4.trans (hT ▸ Ext.set Kd ro2 _:Ext [ro2] Kd T) (fun j hj=>by rw [List.mem_singleton.1 hj];exact n6 _ hro6)
      ·exact A5.new.trans g6.new (by have:=xa.len;have:=A5.ext.len;omega)
      ·exact g6.ne.trans A5.ne
      ·exact g6.tl.trans A5.tl
      ·simp only;rw [g6.main];exact A5.main.mono (by rw [hb7];exact g6.bl)
      ·simp only;rw [hb7];omega
      ·simp only;rw [ky];exact A5.dl
      ·simp only;rw [ky];exact A5.da
      ·simp only;rw [hfi6];exact A5.fi
      ·intro x hx;simp only at hx;rcases qfR hx with h1 | h1
       ·have:=A5.cn x h1;omega
       ·rw [h1,hk'];simp only;omega
      ·have hid:=A5.id;have e1:=qA hid;have g1:=g6.ext.get (xa.get hid (by simp)) A5.idN
       have idN6:H.length ∉ m6.names q:=fun hc=>by
        rcases g6.new _ hc with h1 | h1
        ·exact A5.idN h1
        ·omega
       have g2:=xd.get (xc.get g1 (by simp;omega)) (fun hc=>idN6 (by rw [List.mem_singleton.1 hc];exact hbi6));exact (hT ▸ Ext.set Kd ro2 _:Ext [ro2] Kd T).get g2 (fun hc=>idN6 (by rw [List.mem_singleton.1 hc];exact hro6))
      ·intro hc;have e1:=qA A5.id;rcases g6.new _ hc with h1 | h1
       ·exact A5.idN h1
       ·omega
     by_cases hcz:k.cnt = 0
     ·have hcz':((k.cnt:Int) == 0) = true:=(by rw [hcz];rfl);have hcz2:=eq_true hcz;obtain ⟨Kb,b1,hput1,vO,wb,okb,xb,lb⟩:=qaq wa A5.ok p40 atp (by omega);have g6:JGrow Ka Kb q m5 { m5 with b:=b1 }:=⟨wb,okb,xb.mono (fun i hi=>by rw [List.mem_singleton.1 hi];exact Ko),NewL.refl _ _,rfl,rfl,rfl,rfl,rfl,rfl,rfl,rfl,rfl,by simp only;omega⟩;obtain ⟨Kd,T,m7,ro2,hput2,gb,rtd,cld,c144d,gd,gro,hT,A6⟩:=key Kb _ k.nil k.arrs g6 rfl rfl (by simp only;omega) (by simp only;rw [vO,show c2 - 1 = k.cnt - 1 by omega];exact hkok.arr) hkok.nil;simp only at c144d rtd cld
      have hro2:ro2 = ro:=by
       rw [c144] at c144d;injection c144d with h1 _;injection h1 with h2 _ _ _ _;exact h2.symm
      subst hro2;have gSb:∀ X,qf (qn Kb K'.length X) K'.length = some X:=fun X=>zG (qA gb);simp [-qf,-qn,-qs,-qT,-Kn.ea,p0,p2,p3,p9,p14,p16,p23,p24,p26,p27,qo,qI,hw,hjd',rt1,cl1,c144,ZC,jd,vf,zA,qc6,kw,ga,hcz',w40,hput1,gSb,gb,wc2,w56,wc2u,hput2,rtd,gd,gro,hT,hj5];exact ⟨i+1,by omega,by omega,by simp,by simp,by simp,by simp,by simp,by simp,by simp,by simp,by simp,by simp,m7,A6⟩
     ·have hcz':¬ (k.cnt:Int) = 0:=(by omega);have wc1:=qx ((k.cnt:Int) - 1) (c1:Int);have hal5:=qsL (Vl ▸ hkok.arr) (k:=3) (by rw [show vo 3 = 28 from rfl];omega);have hrm5:=qlI hal5 (by omega);obtain ⟨Kb,m6,ar,z2,hlink2,kZ,g6,KE,hb6,qcN,hfi6⟩:=qqp wa A5.ok k.nil k.arrs c1 p48 atp hkok.nil (Vl ▸ hkok.arr) (by omega) (by omega) hatb (by omega);obtain ⟨Kd,T,m7,ro2,hput2,gb,rtd,cld,c144d,gd,gro,hT,A6⟩:=key Kb m6 false ar g6 qcN hfi6 (by omega) (by rw [show c2 - 1 = c1+1 by omega];exact KE) (fun h=>by simp at h);have gSb:∀ X,qf (qn Kb K'.length X) K'.length = some X:=fun X=>zG (qA gb);simp [-qf,-qn,-qs,-qT,-Kn.ea,p0,p2,p3,p9,p14,p16,p23,p24,p26,p27,qo,qI,hw,hjd',rt1,cl1,c144,ZC,jd,vf,zA,qc6,kw,ga,gSb,hcz,w48,wc1,hlink2,gb,wc2,w56,wc2u,hput2,rtd,cld,c144d,gd,gro,hT,Q3,hj5];exact ⟨i+1,by omega,by omega,by simp,by simp,by simp,by simp,by simp,by simp,by simp,by simp,by simp,by simp,m7,A6⟩
    ·have qo:=zL qg;have Q9:i = w.length:=(by omega);subst Q9;simp [-qf,-qn,-qs,p0,p2,p3,p9,p14,p16,p23,p24,p26,p27];exact ⟨qE _,by simp,by simp,by simp,by simp,by simp,by simp,by simp,by simp,by simp,by simp,m5,A5⟩
   ·rintro ex e K' ⟨rfl,-,p0,p2,p3,p9,p14,p16,p23,p24,p26,p27,m5,A5⟩;have rt5:=A5.w.root;have cl5:=A5.w.len;have c143:=jv A5.w.c143;have c50:=jv A5.w.c50;have hb5:=A5.bl;have hmost:¬ (32768:Int) < (m5.b.length:Int):=(by omega);have hmostn:¬ 32768 < m5.b.length:=by omega
    have cob:∀ n,(∀ x,x∈qd o.l→closed n x = true) = True:=fun n=>eq_true fun x hx=>by
     simp only [qd,ZM] at hx;obtain ⟨_,_,rfl⟩:=hx;rfl
    obtain ⟨ne1,qaz⟩:∃ n,n = m.ne+1:=⟨_,rfl⟩;have wne1:=qN ((m.ne:Int)+1) (ne1:Int);have gS5:∀ C,qf (qn K' q C) q = some C:=fun C=>zG (qA rt5)
    have hidq:∀ C,qf (qn K' q C) H.length = some (qd o.l):=fun C=>by
     rw [zN (fun e=>A5.idN (by rw [e];exact V5))];exact A5.id
    have hseqb:seq < 18446744073709551616:=by omega
    have fin:∀ C2,JmW (qn K' q C2) q { m5 with cs:=C2 }→∃ C3 C4 C5 C6 C7 C8,List.drop 127 C2 = .int .u64 (m.ne:Nat) :: List.drop 128 C2∧C2.length = 147
      ∧ List.take 127 C2 ++ D.int .u64 (ne1:Nat) :: List.drop 128 C2 = C3∧C3.length = 147
      ∧ List.take 128 C3 ++ D.int .u64 (seq:Nat) :: List.drop 129 C3 = C4∧C4.length = 147
      ∧ List.take 132 C4 ++ D.int .u64 (rt:Nat) :: List.drop 133 C4 = C5∧C5.length = 147
      ∧ List.take 133 C5 ++ D.int .u64 (mo:Nat) :: List.drop 134 C5 = C6∧C6.length = 147
      ∧ List.take 87 C6 ++ (qd o.l ++ List.drop 103 C6) = C7∧C7.length = 147
      ∧ List.take 141 C7 ++ D.int .u64 (atp:Nat) :: List.drop 142 C7 = C8
      ∧ ∃ m',ApE H (qn K' q C8) q m m':=by
     intro C2 w2;have l2:C2.length = 147:=w2.len;have d127:=jv w2.c127;simp only [A5.ne] at d127;have w3:=qyy w2 ne1 (by omega);simp only [Q3] at w3;have w4:=qyw w3 seq hseqb;simp only [Q3] at w4;have w5:=Xb w4 (i:=132) rfl (d:=.int .u64 (rt:Nat)) ⟨rt,rfl,hrt⟩;simp only [Q3] at w5;have w6:=Xb w5 (i:=133) rfl (d:=.int .u64 (mo:Nat)) ⟨mo,rfl,hmo⟩;simp only [Q3] at w6;have w7:=qy4 w6 o;simp only [Q3] at w7;have w8:=Xb w7 (i:=141) rfl (d:=.int .u64 (atp:Nat)) ⟨atp,rfl,hatb⟩;simp only [Q3] at w8;have l3:=w3.len;have l4:=w4.len;have l5:=w5.len;have l6:=w6.len;have l7:=w7.len;simp only at l3 l4 l5 l6 l7;refine ⟨_,_,_,_,_,_,d127,l2,vp (by omega),l3,vp (by omega),l4,vp (by omega),l5,vp (by omega),l6,rfl,l7,vp (by omega),_,w8,?_,?_,?_,?_,?_,?_,?_,?_,?_,?_⟩
     ·exact { A5.ok with
       tl:=by simp only;omega
       ne:=by simp only;omega
       main:=⟨ne1,by simp only;omega,by simp only;rw [qaz];exact A5.main⟩
       cn:=fun x hx=>by have:=A5.cn x hx;simp only;omega }
     ·simp only;rw [qaz];exact A5.main
     ·intro x hx;have:=A5.cn x hx;simp only;omega
     ·exact A5.ext.trans (Ext.set K' q _) (fun j hj=>.inl (by rw [List.mem_singleton.1 hj];exact V5))
     ·exact A5.new
     ·exact qaz
     ·exact hseq
     ·simp only;omega
     ·exact A5.da
     ·exact A5.fi
    by_cases Ve:m.ne = 0
    ·have hz0':((m.ne:Int) == 0) = true:=(by rw [Ve];rfl);have hz02:=eq_true Ve;have w1:=Xb A5.w (i:=129) rfl (d:=.int .u64 (seq:Nat)) ⟨seq,rfl,hseqb⟩;have w2:=Xb w1 (i:=131) rfl (d:=.int .u64 (rt:Nat)) ⟨rt,rfl,hrt⟩;simp only [Q3] at w2;have l1:(m5.cs.set 129 (.int .u64 (seq:Nat))).length = 147:=(by rw [ky];exact cl5);obtain ⟨C1,Vo⟩:∃ C,C = m5.cs.set 129 (.int .u64 (seq:Nat)):=⟨_,rfl⟩;have s1:List.take 129 m5.cs ++ D.int .u64 (seq:Nat) :: List.drop 130 m5.cs = C1:=(by rw [Vo];exact vp (by omega));rw [← Vo] at w2 l1;obtain ⟨C2,zS⟩:∃ C,C = C1.set 131 (.int .u64 (rt:Nat)):=⟨_,rfl⟩;have s2:List.take 131 C1 ++ D.int .u64 (rt:Nat) :: List.drop 132 C1 = C2:=(by rw [zS];exact vp (by omega));rw [← zS] at w2;obtain ⟨C3,C4,C5,C6,C7,C8,d127,l2,s3,l3,s4,l4,s5,l5,s6,l6,s7,l7,s8,mE,hE⟩:=fin C2 w2;simp [-qf,-qn,-qs,-qT,p0,p2,p3,p9,p14,p23,p24,p26,rt5,cl5,c143,c50,hmost,hz0',s1,gS5,l1,s2,Q3,d127,l2,s3,l3,s4,l4,s5,l5,s6,l6,lo,s7,l7,s8,hidq,wne1];exact ⟨_,⟨by omega,rfl⟩,mE,hE⟩
    ·have hz0':((m.ne:Int) == 0) = false:=(by simp [Ve]);have hz02:=eq_false Ve;obtain ⟨C3,C4,C5,C6,C7,C8,d127,l2,s3,l3,s4,l4,s5,l5,s6,l6,s7,l7,s8,mE,hE⟩:=fin m5.cs (by rw [qdK rt5];exact A5.w);simp [-qf,-qn,-qs,-qT,p0,p2,p3,p9,p14,p23,p24,p26,rt5,cl5,c143,c50,hmost,hz0',gS5,Q3,d127,s3,l3,s4,l4,s5,l5,s6,l6,lo,s7,l7,s8,hidq,wne1];exact ⟨_,⟨by omega,rfl⟩,mE,hE⟩
def q3t (n:Nat) (r:Rec):Prop:=r.seq = n∧r.Ok∧1≤r.fields.l.length∧r.fields.l.length≤4∧∀ p∈r.fields.l,V6 p = true
theorem qhX {n:Nat} (h:n < 18446744073709551616):j5 (n:Int):=by
 unfold j5;omega
set_option maxHeartbeats 1000000 in
theorem qxi [MaxL] [TxtC] (nil:Bool) (zs:List Int) (qU:nil = true→zs = []) (hz:zs.length≤1000000) (k:Nat) (n:Nat) (hn:n < 18446744073709551616) :
  ∃ (r:Rec) (k':Nat),q3t n r∧call cx 50 [.optr 0 2 0,.int .u64 n] [some (vZ nil zs k)] = some (.agg (Enc.cells r),[some (vZ nil zs k')]):=by
 obtain ⟨q,h1,l,k1,J7,hl4,hp,rfl⟩:=qxj nil zs qU hz k;obtain ⟨q,h2,out,ho1,ho4,QL,rfl⟩:=qnp l J7 hl4 hp;obtain ⟨x,k2,hx,-,h3⟩:=Jy nil zs qU hz k1 40 (by decide) (by decide);obtain ⟨y,k3,hy,-,h4⟩:=Jy nil zs qU hz k2 9 (by decide) (by decide);obtain ⟨z,k4,hz3,-,h5⟩:=Jy nil zs qU hz k3 3 (by decide) (by decide);have h6:=qxq (j:=z) (by omega);refine ⟨⟨n,x,y,idN z,.of out⟩,k4,⟨rfl,⟨qhX hn,qhX (by omega),qhX (by omega)⟩,ho1,ho4,QL⟩,?_⟩;have sf:=qeY nil zs;have sl:=qeX nil zs;have sc:=qeZ nil zs;have hx64:=qN (x:Int) (x:Int);have hy64:=qN (y:Int) (y:Int);have hi:=(idN z).h;generalize idN z = iz at *;have ht:List.take 16 (qd iz.l) = qd iz.l:=qP (by simp);have hd:List.drop 17 (qd iz.l ++ [D.vsl true [] 0]) = []:=Js (by simp);refine qy Tryz.func50 rfl ⟨rfl,rfl⟩ ?_;simp [Tryz.f50,h1,h2,h3,h4,h5,h6,sf,sc,hx64,hy64,Rec.cells,hi,hd,ZK]
set_option maxHeartbeats 4000000 in
theorem qxu [MaxL] [TxtC] {H:qe} {s:Nat} (nil:Bool) (zs:List Int) (qU:nil = true→zs = []) (hz:zs.length≤1000000) (k:Nat) (hg:qf H s = some (vZ nil zs k)) :
  ∃ r,call cx 47 [.optr s 2 0] H = some r∧∃ (j1 j2 j3 x4 x5:Nat) (x6:Nat) (k':Nat) (T:qe),r = (.agg (qd (idN j1).l ++ (qd (idN j2).l ++ (qd (idN j3).l ++ [.int .i64 (x4+1:Nat),.int .i64 (x5+1:Nat),.int .i64 32768,.bool ((x6:Int) == 1)]))),T)∧x4 < 7∧x5 < 4∧qf T s = some (vZ nil zs k')∧Ext [s] H T:=by
 have hs:=qA hg;obtain ⟨Z,hZ⟩:∃ Z:List D,Z = List.replicate 104 (.int .u8 0):=⟨_,rfl⟩;obtain ⟨x1,k1,Ze,-,h1⟩:=Jy nil zs qU hz k 5 (by decide) (by decide);obtain ⟨j1,QV,i1⟩:=qgB x1;obtain ⟨x2,k2,hx2,-,h2⟩:=Jy nil zs qU hz k1 5 (by decide) (by decide);obtain ⟨j2,YD,i2⟩:=qgB x2;obtain ⟨x3,k3,XD,-,h3⟩:=Jy nil zs qU hz k2 5 (by decide) (by decide);obtain ⟨j3,hj3,i3⟩:=qgB x3;obtain ⟨x4,k4,hx4,-,h4⟩:=Jy nil zs qU hz k3 7 (by decide) (by decide);obtain ⟨x5,k5,hx5,-,h5⟩:=Jy nil zs qU hz k4 4 (by decide) (by decide);obtain ⟨x6,k6,hx6,-,h6⟩:=Jy nil zs qU hz k5 2 (by decide) (by decide);have w4:=qx ((x4:Int)+1) ((x4+1:Nat):Int);have w5:=qx ((x5:Int)+1) ((x5+1:Nat):Int);have gs:∀ a,qf (qs H a) s = some (vZ nil zs k):=fun a=>by rw [vk hs];exact hg
 have gs2:∀ a X,qf (qn (qs H a) s X) s = some X:=fun a X=>zG (by rw [zW];omega);have gs3:∀ a X,qf (qn (qs H a) s X) H.length = some a:=fun a X=>by rw [zN (by omega),zA]
 have gs4:∀ a X C,qf (qn (qn (qs H a) s X) H.length C) H.length = some C:=fun a X C=>zG (by rw [Qo,zW];omega);have sl:=qeX nil zs;have sf:=qeY nil zs;have sc:=qeZ nil zs;refine Zh (X:=cx) (f:=47) _ Tryz.func47 rfl ⟨rfl,rfl⟩ ?_;simp [-qf,-qn,-qs,Tryz.f47,w4,w5,gs,gs2,gs3,gs4,Q3,sf,h1,h2,h3,h4,h5,h6,i1,i2,i3,(idN j1).h,(idN j2).h,(idN j3).h,ZK,vX,qP,List.drop_of_length_le];refine ⟨j1,j2,j3,x4,x5,x6,k6,_,⟨rfl,rfl⟩,by omega,by omega,?_,?_⟩
 ·rw [zN (by omega)];exact gs2 _ _
 ·refine ⟨by rw [Qo,Qo,zW];omega,fun i hi hn=>?_⟩;have:i≠s:=fun h0=>hn (by rw [h0];simp);rw [zN (by omega),zN this,vk hi]
end Go.Ev.S
namespace Go.Ev
open Go Go.Proofs
mutual
theorem qmO:∀ (d:D),idFree d = true→noZ d = true
 | .agg cs,h=>by simp only [idFree] at h;simp only [noZ];exact qcu cs h
 | .tup cs,h=>by simp only [idFree] at h;simp only [noZ];exact qcu cs h
 | .fn _ cs,h=>by simp only [idFree] at h;simp only [noZ];exact qcu cs h
 | .iface _ d,h=>by simp only [idFree] at h;simp only [noZ];exact qmO d h
 | .optr ..,h=>by simp [idFree] at h
 | .osl ..,h=>by simp [idFree] at h
 | .bool _,_=>rfl
 | .int _ _,_=>rfl
 | .str _,_=>rfl
 | .nilp,_=>rfl
 | .nilf,_=>rfl
 | .nili,_=>rfl
 | .vptr _,_=>rfl
 | .vsl ..,_=>rfl
 | .raw _,_=>rfl
theorem qcu:∀ (l:List D),idFree.idFreeL l = true→noZ.noZL l = true
 | [],_=>rfl
 | d :: l,h=>by
  simp only [idFree.idFreeL,jk] at h;simp only [noZ.noZL,qmO d h.1,qcu l h.2,Bool.and_self]
end
@[simp] theorem q4I (a b:List D):noZ.noZL (a ++ b) = (noZ.noZL a && noZ.noZL b):=by
 induction a with
 | nil=>simp [noZ.noZL]
 | cons d l ih=>simp [noZ.noZL,ih,Bool.and_assoc]
@[simp] theorem q4F (l:List UInt8):noZ.noZL (qd l) = true:=qcu _ (by simp)
@[simp] theorem q4H {α:Type} [Enc α] (a:α):noZ.noZL (Enc.cells a) = true:=qcu _ (qkm a)
@[simp] theorem q4G {α:Type} [Enc α] (l:List α):noZ.noZL (qu l) = true:=qcu _ (qjT l)
end Go.Ev
namespace Go.Ev.S
open Go Go.Proofs Go.Ev
structure MkI (H:qe) (s:Nat) (nil:Bool) (zs:List Int) (q:Nat) (i:Nat) (K:qe) (m:Jm) (kk:Nat) (oD:D) (oc:List D) (Lo:List Nat):Prop where
 w:JmW K q m
 ok:m.Ok
 main:ArrOk m.b.length m.main m.ne
 cn:∀ k,k∈m.da→k.cnt≤4 * m.ne
 ne:m.ne = i
 tl:m.tl≤6+i
 bl:m.b.length≤700+2200 * i
 da:m.da.length≤4 * i
 fi:m.fi.length≤4 * i
 new:∀ j,j∈m.names q→H.length≤j
 seq:qf K s = some (vZ nil zs kk)
 ext:Ext [s] H K
 oR:RowA K 20 oD oc Lo
 ol:oc.length = i * 20
 oN:∀ j,j∈Lo→j ∉ m.names q∧H.length≤j
def mkI (H:qe) (s:Nat) (nil:Bool) (zs:List Int) (q:Nat) (i:Nat) (e:qr) (K:qe):Prop :=
 i≤5∧qi e 0 = some (.optr s 2 0)∧qi e 1 = some (.int .i64 5)∧qi e 7 = some (.optr q 147 0)∧∃ m kk oD oc Lo,qi e 8 = some oD∧MkI H s nil zs q i K m kk oD oc Lo
set_option maxHeartbeats 8000000 in
set_option maxRecDepth 10000 in
theorem qxn [MaxL] [TxtC] {H:qe} {s:Nat} (nil:Bool) (zs:List Int) (qU:nil = true→zs = []) (hz:zs.length≤1000000) (k:Nat) (hg:qf H s = some (vZ nil zs k)) :
  ∃ T q m d,call cx 19 [.optr s 2 0,.int .i64 5] H = some (.tup [.optr q 147 0,d],T)∧JmW T q m∧m.Ok∧m.b.length≤20000∧Ext [s] H T∧(∀ j,j∈m.names q→H.length≤j):=by
 suffices hs:∃ r,call cx 19 [.optr s 2 0,.int .i64 5] H = some r∧∃ (T:qe) (q:Nat) (m:Jm) (d:D),r = (.tup [.optr q 147 0,d],T)∧JmW T q m∧m.Ok∧m.b.length≤20000∧Ext [s] H T∧(∀ j,j∈m.names q→H.length≤j) by
  obtain ⟨r,hc,T,q,m,d,rfl,h1⟩:=hs;exact ⟨T,q,m,d,hc,h1⟩
 refine Zh (X:=cx) (f:=19) _ Tryz.func19 rfl ⟨rfl,rfl⟩ ?_;have hsH:=qA hg;obtain ⟨_,kv,j1,j2,j3,x4,x5,x6,k1,K1,rfl,hx4,hx5,g1,e1⟩:=qxu nil zs qU hz k hg;obtain ⟨A,hA⟩:∃ A,A = idN j1:=⟨_,rfl⟩;obtain ⟨B,hB⟩:∃ A,A = idN j2:=⟨_,rfl⟩;obtain ⟨S,hS⟩:∃ A,A = idN j3:=⟨_,rfl⟩;obtain ⟨key,hkey⟩:∃ k,k = ((x6:Int) == 1):=⟨_,rfl⟩;rw [← hA,← hB,← hS,← hkey] at kv;obtain ⟨cf,hcfd⟩:∃ c,c = qd A.l ++ (qd B.l ++ (qd S.l ++ [.int .i64 (x4+1:Nat),.int .i64 (x5+1:Nat),.int .i64 32768,.bool key])):=⟨_,rfl⟩;rw [← hcfd] at kv;have la:=A.h;have lb:=B.h;have ls:=S.h;have lcf:cf.length = 52:=by rw [hcfd];simp [la,lb,ls]
 have fcf:cf.all idFree = true:=by rw [hcfd];simp [qd,idFree]
 have ccf:=KR fcf;obtain ⟨K2,kl⟩:=ql (qs K1 cf);have e2:=jD kl;have g2:=kh kl;have gs2:qf K2 s = some (vZ nil zs k1):=e2.get g1 (by simp);obtain ⟨x,k2,hx,-,hn⟩:=Jy nil zs qU hz k1 6 (by decide) (by decide);have wx:=qN (x:Int) (x:Int);obtain ⟨K3,Xm⟩:=ql (qn K2 s (vZ nil zs k2));have e3:=Qk Xm;have g3:=Qx Xm gs2;have l12:=e1.len;have g23:qf K3 K1.length = some cf:=e3.get g2 (by simp;omega);obtain ⟨K4,q,m0,Zs,w4,o4,e4,n4,ne4,tl4,b4,da4,fi4,mn4⟩:=qyt K3 A B S (x4+1) (x5+1) (by omega) (by omega) key x (by omega);rw [← hcfd] at Zs;have sl:=qeX nil zs;have sf:=qeY nil zs;have sc:=qeZ nil zs;have tcf:List.take 52 cf = cf:=qP (by omega);have l2:=e2.len;have l3:=e3.len;have l4:=e4.len;have gs4:qf K4 s = some (vZ nil zs k2):=e4.get g3 (by simp);have ex4:Ext [s] H K4:=((e1.trans e2 (fun j hj=>by simp at hj)).trans e3 (fun j hj=>.inl hj)).trans e4 (fun j hj=>by simp at hj);simp [-qf,-qn,-qs,-qT,Tryz.f19,kv,zA,qc6,ccf,lcf,kl,g2,gs2,sf,hn,wx,Xm,g23,tcf,Zs,l3];refine KZ (mkI H s nil zs q) (fun i=>5 - i) 0 (fun ex e K=>ex = .exit 0∧∃ i,mkI H s nil zs q i e K) ?_ ?_ ?_
 ·refine ⟨by omega,by simp,by simp,by simp,m0,k2,.vsl true [] 0,[],[],by simp,w4,o4,?_,fun k hk=>?_,ne4,by omega,by omega,?_,?_,fun j hj=>?_,gs4,ex4,RowA.nil _ _,rfl,fun j hj=>by simp at hj⟩
  ·rw [mn4,ne4];exact ArrOk.zero _
  ·rw [da4] at hk;simp at hk
  ·rw [da4];simp
  ·rw [fi4];simp
  ·have:=n4 j hj;omega
 ·rintro i e K ⟨hi,p0,p1,p7,m,kk,oD,oc,Lo,p8,I⟩
  have hlen:zf Tryz.prog 63 oD = some (.int .i64 i):=by
   have Xg:=I.ol;rcases I.oR with ⟨hv,XR,_⟩ | ⟨ro,nn,hv,QB,_,_⟩
   ·rw [XR] at Xg;have:i = 0:=(by simp at Xg;omega);rw [hv,this];simp
   ·have:nn = i:=(by omega);rw [hv,this];simp
  by_cases qg:i < 5
  ·have qo:(i:Int) < 5:=(by omega);have hmore:=qxl nil zs kk;have hgs:=I.seq;have hset0:qn K s (vZ nil zs kk) = K:=qdK hgs;by_cases hm:kk < zs.length
   ·have htail:=qjs I.w;have XF:=I.tl;obtain ⟨n1,ja⟩:∃ n,n = m.tl+1:=⟨_,rfl⟩;have wn1:=qN ((m.tl:Int)+1) (n1:Int);obtain ⟨r,k3,hR,VB⟩:=qxi nil zs qU hz kk n1 (by omega);obtain ⟨hR1,hR2,hR3,hR4,hR5⟩:=hR;have hfn:r.fields.nil = false:=Sl.nn (i:=0) (by omega);obtain ⟨K5,kS⟩:=ql (qn K s (vZ nil zs k3));have e5:=Qk kS
    have sN:∀ j,j∈m.names q→j ∉ [s]:=fun j hj hc=>by
     have:=I.new j hj;rw [List.mem_singleton.1 hc] at this;omega
    have w5:=qet I.w e5 sN;have g5:=Qx kS hgs;have lb2:=r.boot.h;obtain ⟨rc,Qp⟩:∃ c:List D,c = .int .u64 r.seq :: .int .u64 r.real :: .int .u64 r.mono :: (qd r.boot.l ++ [.vsl false (qu r.fields.l) r.fields.l.length]):=⟨_,rfl⟩;have hrc2:(Enc.cells r:List D) = rc:=(by rw [Rec.cells,Qp,hfn];rfl);rw [hrc2] at VB;have lrc:rc.length = 20:=(by rw [Qp];simp [lb2]);have frc:rc.all idFree = true:=(by rw [← hrc2];exact Enc.free r);have crc:=KR frc;have zrc:noZ.noZL rc = true:=qcu _ (by rw [kY];exact frc);have src:∀ n,shift.shiftL n rc = rc:=fun n=>qci n _ (by rw [kY];exact frc);have trc:List.take 20 rc = rc:=qP (by omega);obtain ⟨K6,kR⟩:=ql (qs K5 rc);have e6:=jD kR;have g6:=kh kR;have w6:=Xa w5 e6;have r1:=hR2.real;have r2:=hR2.mono;unfold j5 at r1 r2;obtain ⟨rn,hrn⟩:∃ n:Nat,r.real = (n:Int):=⟨r.real.toNat,by omega⟩;obtain ⟨mn,hmn⟩:∃ n:Nat,r.mono = (n:Int):=⟨r.mono.toNat,by omega⟩;have jM:=I.bl;have hda:=I.da;have hfi:=I.fi;have qQ:=I.ne;obtain ⟨K7,m',YI,E⟩:=qzl w6 I.ok I.main I.cn r.fields.l hR3 hR4 hR5 rn mn (by omega) (by omega) r.boot (by omega) (by omega) (by omega) (by omega) (by omega);rw [← hrn,← hmn] at YI;have d1:List.drop 1 rc = .int .u64 r.real :: List.drop 2 rc:=(by rw [Qp];rfl);have d2:List.drop 2 rc = .int .u64 r.mono :: List.drop 3 rc:=(by rw [Qp];rfl);have d3:List.take 16 (List.drop 3 rc) = qd r.boot.l:=(by rw [Qp];simp [lb2]);have d19:List.drop 19 rc = [.vsl false (qu r.fields.l) r.fields.l.length]:=(by rw [Qp];simp [lb2]);have hKl:K.length = K5.length:=(by rw [← kS,Qo]);have hN5:∀ j,j∈m.names q→j < K5.length:=fun j hj=>qcv w5 hj;have g7:qf K7 K5.length = some rc:=E.ext.get g6 (fun hc=>by have:=hN5 _ hc;omega);obtain ⟨K8,VL⟩:=ql (qs K7 rc);have e8:=jD VL;have g8:=kh VL;have Xg:=I.ol
    have oLn:∀ j,j∈Lo→j ∉ [s]:=fun j hj hc=>by
     have:=(I.oN j hj).2;rw [List.mem_singleton.1 hc] at this;omega
    have oR8:=(((I.oR.ext e5 oLn).ext e6 (fun _ _=>by simp)).ext E.ext (fun j hj=>(I.oN j hj).1)).ext e8 (fun _ _=>by simp);obtain ⟨oD',K9,Lo',hA9,hR9,e9,n9⟩:=oR8.append (P:=Tryz.prog) (st:=63) (xt:=63) (e:=112) (x:=.osl K7.length 20 0 1 20) (xs:=rc) (m:=1) (by simp) (by simp) (by simp [-qf,g8,lrc,trc]) (by simp) (by omega) (by rw [lrc]) (by omega) (by simp [qD];omega) (by simp [qD];omega);have hK7ne:K7≠[]:=fun e0=>by have:=qA g7;rw [e0] at this;simp at this
    simp [-qf,-qn,-qs,-qT,-zf,p0,p1,p7,p8,hlen,qo,hgs,sf,hmore,hm,hset0,htail,wn1,VB,kS,zA,qc6,crc,lrc,kR,g6,d1,d2,d3,d19,YI,g7,trc,VL,hA9,hK7ne,zrc,src];have hHK:=I.ext.len;have hK56:=e6.len;have hK67:=E.ext.len;have hK78:=e8.len;have loK:∀ j,j∈Lo→j < K.length:=fun j hj=>I.oR.lt hj
    have nLo:∀ j,j∈m'.names q→j ∉ Lo:=fun j hj hc=>by
     rcases E.new j hj with h1 | h1
     ·exact (I.oN j hc).1 h1
     ·have:=loK j hc;omega
    have sm:s ∉ m.names q:=fun hc=>by have:=I.new s hc;omega
    refine ⟨i+1,by omega,by omega,by simp,by simp,by simp,m',k3,oD',oc ++ rc,Lo',by simp,?_,E.ok,E.main,E.cn,?_,?_,?_,?_,?_,fun j hj=>?_,?_,?_,hR9,?_,fun j hj=>?_⟩
    ·exact qet (Xa E.w e8) e9 nLo
    ·have:=E.ne;omega
    ·have:=E.tl;omega
    ·have:=E.bl;omega
    ·have:=E.da;omega
    ·have:=E.fi;omega
    ·rcases E.new j hj with h1 | h1
     ·exact I.new j h1
     ·omega
    ·exact e9.get (e8.get (E.ext.get (e6.get g5 (by simp)) sm) (by simp)) (fun hc=>oLn s hc (by simp))
    ·have z1:=(I.ext.trans e5 (fun j hj=>.inl hj)).trans e6 (fun j hj=>by simp at hj);have z2:=z1.trans E.ext (fun j hj=>.inr (I.new j hj));have z3:=z2.trans e8 (fun j hj=>by simp at hj);exact z3.trans e9 (fun j hj=>.inr (I.oN j hj).2)
    ·rw [zz,Xg,lrc];omega
    ·rcases n9 j hj with h1 | h1
     ·exact ⟨fun hc=>nLo j hc h1,(I.oN j h1).2⟩
     ·exact ⟨fun hc=>by have:=qcv E.w hc;omega,by omega⟩
   ·simp [-qf,-qn,-qs,-qT,-zf,p0,p1,p7,p8,hlen,qo,hgs,sf,hmore,hm,hset0];exact ⟨i,hi,by simp,by simp,by simp,m,kk,oD,oc,Lo,by simp,I⟩
  ·have qo:¬ (i:Int) < 5:=(by omega);simp [-qf,-qn,-qs,-qT,-zf,p0,p1,p7,p8,hlen,qo];exact ⟨i,hi,by simp,by simp,by simp,m,kk,oD,oc,Lo,by simp,I⟩
 ·rintro ex e K ⟨rfl,i,hi,p0,p1,p7,m,kk,oD,oc,Lo,p8,I⟩;simp [-qf,-qn,-qs,-qT,-zf,p7,p8];exact ⟨_,_,⟨rfl,rfl⟩,m,I.w,I.ok,by have:=I.bl;omega,I.ext,I.new⟩
end Go.Ev.S
namespace Go.Ev
open Go Go.Proofs
theorem qtk {a b:Nat} (ha:a < 256) (hb:b < 256):qH .u8 (a:Int) (b:Int) = ((a ^^^ b:Nat):Int):=by
 have h:a ^^^ b < 2 ^ 8:=Nat.xor_lt_two_pow (n:=8) ha hb;unfold qH;show IntKind.u8.wrap ((BitVec.ofInt 8 (a:Int) ^^^ BitVec.ofInt 8 (b:Int)).toNat:Int) = _;rw [qhK,qhK,BitVec.toNat_xor,qhJ,qhJ,qeF ha,qeF hb,qdx];omega
end Go.Ev
namespace Go.Ev.S
open Go Go.Proofs Go.Ev
theorem qxv [MaxL] [TxtC] (s:Sl UInt8) (h2:s.l.length≤1000000):call cx 60 [(.vsl s.nil (qd s.l) s.l.length)] [] = some (.osl 0 s.l.length 0 s.l.length 1,[some (qd s.l)]):=by
 have hm:s.l.length≤140737488355328:=by omega
 refine qy Tryz.func60 rfl ⟨rfl,rfl⟩ ?_;simp [Tryz.f60,qD,hm]
theorem qwQ {o:List UInt8} {j:Nat} (h:j < o.length) {x:Nat} (hx:x < 256):List.take j (qd o) ++ D.int .u8 (x:Int) :: List.drop (j+1) (qd o) = qd (o.set j (UInt8.ofNat x)):=by
 rw [qte,if_pos h,qct,qmF,Yv,Yw,qeE hx]
def qsY (b:List UInt8) (q:D × qe):Prop:= ∃ o:List UInt8,o.length = b.length∧q = (.vsl false (qd o) o.length,[])
set_option maxHeartbeats 2000000 in
theorem quh [MaxL] [TxtC] (b:Sl UInt8) (hb:b.l.length≤100000) (nil:Bool) (zs:List Int) (qU:nil = true→zs = []) (hz:zs.length≤1000000) (y:UInt8):∃ q,call cx 22 [(.vsl b.nil (qd b.l) b.l.length),.vsl nil (Xc .i64 zs) zs.length,.int .u8 y.toNat] [] = some q∧qsY b.l q:=by
 refine VR (X:=cx) (f:=22) (args:=[(.vsl b.nil (qd b.l) b.l.length),.vsl nil (Xc .i64 zs) zs.length,.int .u8 y.toNat]) (H:=[]) (qsY b.l) Tryz.func22 rfl ⟨rfl,rfl⟩ ?_;have c1:=qxv b (by omega);simp [Tryz.f22,c1];refine Run.loopThen (fun (q:Nat × List UInt8) e H'=>q.1≤zs.length∧q.2.length = b.l.length∧H' = [some (qd q.2)]∧qi e 1 = some (.vsl nil (Xc .i64 zs) zs.length)∧qi e 2 = some (.int .u8 (y.toNat:Nat))∧qi e 7 = some (.osl 0 b.l.length 0 b.l.length 1)∧qi e 8 = some (.int .i64 (q.1:Nat))) (fun q=>zs.length - q.1) (0,b.l) ⟨vV _,rfl,by simp,by simp,by simp,by simp,by simp⟩ ?_;rintro ⟨k,o⟩ e H' ⟨hk,ho,rfl,k1,k2,k7,k8⟩;simp only at hk ho k8;by_cases qg:k < zs.length
 ·have qo:=zI qg
  have vj:nil = false:=by
   cases nil with
   | false=>rfl
   | true=>rw [qU rfl] at qg;exact absurd qg (Nat.not_lt_zero _)
  have hw:=qx ((k:Int)+1) ((k+1:Nat):Int);have qI:=qqw (k:=.i64) qg;by_cases h0:0 < b.l.length
  ·obtain ⟨j,hj,c2⟩:=qjb zs[k] b.l.length (by omega) (by omega);have hjo:j < o.length:=(by omega);have hx:=qtk (a:=o[j].toNat) (b:=y.toNat) (UInt8.toNat_lt _) (UInt8.toNat_lt _);have hat2:=vq hjo;have hjb:j < b.l.length:=(by omega);have QV:j+1≤b.l.length:=(by omega);have hput:=qwQ hjo (x:=o[j].toNat ^^^ y.toNat) (Nat.xor_lt_two_pow (n:=8) (UInt8.toNat_lt _) (UInt8.toNat_lt _));simp [k1,k2,k7,k8,qo,hw,qI,vj,h0,c2,hx,hat2,hjb,ho,QV,hput];exact ⟨k+1,by omega,by omega,_,by simp [ho],rfl,by omega⟩
  ·have hl0:b.l.length = 0:=(by omega);have ho0:o = []:=qdw (by omega);subst ho0;simp [k1,k2,k7,k8,qo,hl0];exact ⟨[],by rw [hl0];rfl,rfl⟩
 ·have qo:=zL qg;have jc:List.take b.l.length (qd o) = qd o:=qP (by simp [ho]);simp [k1,k2,k7,k8,qo,jc,ho];exact ⟨o,ho,by rw [ho]⟩
theorem Yy (n:Nat):∀ l:List D,mv.mvL [] n l = l.map (mv [] n)
 | []=>rfl
 | d :: l=>by rw [mv.mvL,Yy n l];rfl
theorem qjh (n j:Nat):Z9 [] n j = n+j:=by simp [Z9]
theorem qgX (H:qe) {T:qe} {i:Nat} {ds:List D} (h:qf T i = some ds):qf (H ++ T.map (Kp [] H.length)) (H.length+i) = some (ds.map (mv [] H.length)):=by
 have hl:=qA h
 have h1:T[i]? = some (some ds):=by
  unfold qf at h;rw [zn hl] at h ⊢;simp only [Va] at h;rw [h]
 unfold qf;rw [kU (by omega),show H.length+i - H.length = i by omega,VX,h1];simp only [jj,Va,Kp,Yy]
theorem qlE (H:qe) {T:qe} {k:Nat} {v:D} {cs:List D} {L:List Nat} (h:RowA T k v cs L):RowA (H ++ T.map (Kp [] H.length)) k (mv [] H.length v) (cs.map (mv [] H.length)) (L.map (H.length+·)):=by
 rcases h with ⟨rfl,rfl,rfl⟩ | ⟨r,n,rfl,h2,h3,rfl⟩
 ·exact .inl ⟨rfl,rfl,rfl⟩
 ·refine .inr ⟨H.length+r,n,?_,by rw [List.length_map];exact h2,qgX H h3,rfl⟩;simp [mv,qjh]
def FSv.mvd (v:FSv) (n:Nat):FSv:=⟨v.nd.map fun x=>(n+x.1,n+x.2),mv [] n v.nv,mv [] n v.pv,v.pc.map (mv [] n),v.Ln.map (n+·),v.Lp.map (n+·)⟩
theorem qxh (v:FSv) (n:Nat):(v.ptrs).map (mv [] n) = (FSv.mvd v n).ptrs:=by
 unfold FSv.ptrs FSv.mvd;simp only [List.map_map];apply List.map_congr_left;intro x _;simp [mv,qjh]
theorem q0w (H:qe) {T:qe} {q:Nat} {s:Fs} {v:FSv} (h:FSw T q s v):FSw (H ++ T.map (Kp [] H.length)) (H.length+q) s (FSv.mvd v H.length):=by
 obtain ⟨f,hf⟩:=h.ty;refine ⟨?_,?_,qlE H h.pend,by rw [← h.len];exact List.length_map _,fun i n x h1 h2=>?_,fun i=>f (i - H.length),?_⟩
 ·rw [qgX H h.root];rfl
 ·have:=qlE H h.row;rw [qxh] at this;exact this
 ·simp only [FSv.mvd,VX] at h2;cases hy:v.nd[i]? with
  | none=>rw [hy] at h2;simp at h2
  | some y =>
   rw [hy] at h2;simp only [jj,qw] at h2;obtain ⟨a1,a2⟩:=h.node i n y h1 hy;subst h2;refine ⟨?_,?_⟩
   ·rw [qgX H a1];simp [Nd.cells,mv,qjh]
   ·rw [qgX H a2];rfl
 ·refine ⟨by rw [show H.length+q - H.length = q by omega];exact hf.root,fun i hi=>?_,fun i hi=>?_,fun j x hx=>?_⟩
  ·simp only [FSv.mvd,ZM] at hi;obtain ⟨a,ha,rfl⟩:=hi;rw [show H.length+a - H.length = a by omega];exact hf.row a ha
  ·simp only [FSv.mvd,ZM] at hi;obtain ⟨a,ha,rfl⟩:=hi;rw [show H.length+a - H.length = a by omega];exact hf.pend a ha
  ·simp only [FSv.mvd,VX] at hx;cases hy:v.nd[j]? with
   | none=>rw [hy] at hx;simp at hx
   | some y =>
    rw [hy] at hx;simp only [jj,qw] at hx;have:=hf.node j y hy;subst hx;simp only;rw [show H.length+y.1 - H.length = y.1 by omega,show H.length+y.2 - H.length = y.2 by omega];exact this
theorem q0M (H T:qe):Ext [] H (H ++ T.map (Kp [] H.length)):=Ext.app _ _
end Go.Ev.S
namespace Go.Ev
open Go Go.Proofs
structure I6 where
 v:Int
instance:Enc I6:=⟨1,fun x=>[.int .i64 x.v],fun _=>rfl,fun _=>rfl⟩
theorem I6.cells (x:I6):Enc.cells x = [.int .i64 x.v]:=rfl
@[simp] theorem I6.size:Enc.size I6 = 1:=rfl
@[simp] theorem I6.cl (a:I6):(Enc.cells a).length = 1:=Enc.len a
@[simp] theorem I6.ct (a:I6) (r:List D):(Enc.cells a ++ r).take 1 = Enc.cells a:=qdg rfl a r
@[simp] theorem I6.ct' (a:I6):(Enc.cells a).take 1 = Enc.cells a:=qdf rfl a
@[simp] theorem I6.cd (a:I6) (r:List D):(Enc.cells a ++ r).drop 1 = r:=qdh rfl a r
@[simp] theorem I6.el (l:List I6):(qu l).length = l.length * 1:=qaP rfl l
@[simp] theorem I6.ed (l:List I6) (i:Nat):(qu l).drop (i * 1) = qu (l.drop i):=qaQ rfl l i
@[simp] theorem I6.et (l:List I6) (i:Nat):(qu l).take (i * 1) = qu (l.take i):=qaO rfl l i
@[simp high] theorem I6.ea {l:List I6} {i:Nat} (h:i < l.length):(qu l).drop (i * 1) = Enc.cells l[i] ++ qu (l.drop (i+1)):=YS rfl h
@[simp high] theorem I6.es (m:I6) {l:List I6} {j:Nat} (h:j < l.length):zM (qu l) (j * 1) (Enc.cells m) = qu (l.set j m):=Ya rfl m l h
theorem q1s (l:List I6):qu l = Xc .i64 (l.map (·.v)):=by
 unfold Xc
 induction l with
 | nil=>rfl
 | cons a l ih=>rw [Yb,ih];rfl
structure ZL where
 ln:Sl I6
instance:Enc ZL:=⟨1,fun m=>((.vsl m.ln.nil (qu m.ln.l) m.ln.l.length) :: ([]:List D)),fun m=>by simp,fun m=>by simp [idFree]⟩
theorem ZL.cells (m:ZL):Enc.cells m = ((.vsl m.ln.nil (qu m.ln.l) m.ln.l.length) :: ([]:List D)):=rfl
@[simp] theorem ZL.size:Enc.size ZL = 1:=rfl
@[simp] theorem ZL.cl (a:ZL):(Enc.cells a).length = 1:=Enc.len a
@[simp] theorem ZL.ct (a:ZL) (r:List D):(Enc.cells a ++ r).take 1 = Enc.cells a:=qdg rfl a r
@[simp] theorem ZL.ct' (a:ZL):(Enc.cells a).take 1 = Enc.cells a:=qdf rfl a
@[simp] theorem ZL.cd (a:ZL) (r:List D):(Enc.cells a ++ r).drop 1 = r:=qdh rfl a r
@[simp] theorem ZL.el (l:List ZL):(qu l).length = l.length * 1:=qaP rfl l
@[simp] theorem ZL.ed (l:List ZL) (i:Nat):(qu l).drop (i * 1) = qu (l.drop i):=qaQ rfl l i
@[simp] theorem ZL.et (l:List ZL) (i:Nat):(qu l).take (i * 1) = qu (l.take i):=qaO rfl l i
@[simp high] theorem ZL.ea {l:List ZL} {i:Nat} (h:i < l.length):(qu l).drop (i * 1) = Enc.cells l[i] ++ qu (l.drop (i+1)):=YS rfl h
@[simp high] theorem ZL.es (m:ZL) {l:List ZL} {j:Nat} (h:j < l.length):zM (qu l) (j * 1) (Enc.cells m) = qu (l.set j m):=Ya rfl m l h
@[simp] theorem ZL.g0 (m:ZL) (h):(Enc.cells m)[0]'h = (.vsl m.ln.nil (qu m.ln.l) m.ln.l.length):=by simp [ZL.cells]
@[simp] theorem ZL.q0 (m:ZL):(Enc.cells m)[0]? = some ((.vsl m.ln.nil (qu m.ln.l) m.ln.l.length)):=by simp [ZL.cells]
@[simp] theorem ZL.s0 (m:ZL) (x:Sl I6):zM (Enc.cells m) 0 [(.vsl x.nil (qu x.l) x.l.length)] = Enc.cells { m with ln:=x }:=by simp [ZL.cells]
def ZL.zs (z:ZL):List Int:=z.ln.l.map (·.v)
theorem ZL.zs_len (z:ZL):z.zs.length = z.ln.l.length:=by simp [ZL.zs]
theorem ZL.zs_nil (z:ZL) (h:z.ln.nil = true):z.zs = []:=by simp [ZL.zs,z.ln.h h]
theorem ZL.enc (z:ZL):(Enc.cells z:List D) = [.vsl z.ln.nil (Xc .i64 z.zs) z.zs.length]:=by
 rw [ZL.cells,ZL.zs_len,q1s];rfl
end Go.Ev
