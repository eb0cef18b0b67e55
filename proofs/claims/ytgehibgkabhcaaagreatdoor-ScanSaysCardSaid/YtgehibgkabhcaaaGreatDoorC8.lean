import Derived.Test.YtgehibgkabhcaaaGreatDoorC7
import Derived.Shelf.LaysM
import Derived.Shelf.Strings.Shaped
import Derived.Test.YtgehibgkabhcaaaGreatDoorProg
import Derived.Test.YtgehibgkabhcaaaGreatDoorTie
import Derived.Test.YtgehibgkabhcaaaGreatDoorCards
import Derived.LaidMore
import Derived.SevenTiedAt
import Derived.Handed
namespace Go.Ev.S
open Go Go.Proofs Go.Ev
structure LaidT (s:Fs) (k:Nat):Prop where
 room:s.room = 1048576
 fuse:s.fuse = -1
 off:s.off = false
 len:s.nodes.length≤k
 nd:∀ n,n∈s.nodes→n.there = true∧n.b.l.length≤32768∧n.safe.l.length≤32768∧n.name.length≤1000
theorem qnu {s:Fs} {k:Nat} (h:LaidT s k) {name:List UInt8} (h1:name.length≤1000):LaidT (qbK s name).2 (k+1):=by
 have h0:LaidT s (k+1):={ h with len:=Nat.le_succ_of_le h.len }
 have hb:kB s = (0,s):=by
  unfold kB;rw [h.fuse,if_neg (by decide),if_neg (by decide)]
 unfold qbK;split
 ·exact h0
 ·split
  ·exact h0
  ·split
   ·exact h0
   ·rw [hb];simp only;rw [if_neg (by decide)]
    exact { h with
     len:=by simp only;rw [zz,List.length_singleton];have:=h.len;omega
     nd:=fun n hn=>by
      simp only [vW,qhE] at hn;rcases hn with hn | rfl
      ·exact h.nd n hn
      ·exact ⟨rfl,by simp [Sl.none],by simp [Sl.none],h1⟩ }
theorem qnt {s s':Fs} {k:Nat} (h:LaidT s k) {name b:List UInt8} (hw:qdb s name 0 b s'):LaidT s' k:=by
 have hb:kB s = (0,s):=by
  unfold kB;rw [h.fuse,if_neg (by decide),if_neg (by decide)]
 unfold qdb at hw;rw [hb] at hw;split at hw
 ·obtain ⟨i,n,n',hf,hi,rfl,e1,e2,e3,e4⟩:=hw;have hn:=Vy hi;obtain ⟨a1,a2,a3,a4⟩:=h.nd n hn
  exact { h with
   len:=by simp only;rw [ky];exact h.len
   nd:=fun x hx=>by
    simp only at hx;rcases qfR hx with hx | rfl
    ·exact h.nd x hx
    ·exact ⟨by rw [e2];exact a1,by rw [e3];exact qk7 _ _ _ a2,by rw [e4];exact a3,by rw [e1];exact a4⟩ }
 ·rcases hw with rfl | rfl
  ·exact h
  ·exact h
def qnw (arg ot bd:D) (i:Nat) (e:qr) (K:qe):Prop :=
 i≤8∧qi e 0 = some arg∧qi e 1 = some ot∧qi e 2 = some bd∧qi e 7 = some (.optr 0 5 0)∧qi e 9 = some (.int .i64 i)∧∃ s v,FSw K 0 s v∧LaidT s i∧v.pc.length≤4 * i
def laO (ot bd:D) (i:Nat) (e:qr) (K:qe):Prop :=
 i≤8∧qi e 1 = some ot∧qi e 2 = some bd∧qi e 7 = some (.optr 0 5 0)∧qi e 15 = some (.int .i64 i)∧∃ s v,FSw K 0 s v∧LaidT s (8+i)∧v.pc.length≤4 * (8+i)
set_option maxHeartbeats 8000000 in
set_option maxRecDepth 10000 in
theorem qxE [MaxL] [TxtC] (nl:Bool) (ls:List ZL) (zF:nl = true→ls = []) (hl:ls.length≤8) (hz:∀ z,z∈ls→z.zs.length≤1000000) (no:Bool) (ot:List (List UInt8)) (jo:no = true→ot = []) (ho:ot.length≤8) (hn8:∀ n,n∈ot→n.length≤100) (body:Sl UInt8) (hb:body.l.length≤900) :
  ∃ G s v,call cx 5 [.vsl nl (qu ls) ls.length,.vsl no (qR ot) ot.length,.vsl body.nil (qd body.l) body.l.length] [] = some (.optr 0 5 0,G)∧FSw G 0 s v∧LaidT s 16∧v.pc.length≤64:=by
 suffices hs:∃ r,call cx 5 [.vsl nl (qu ls) ls.length,.vsl no (qR ot) ot.length,.vsl body.nil (qd body.l) body.l.length] [] = some r∧∃ (G:qe) (s:Fs) (v:FSv),r = (.optr 0 5 0,G)∧FSw G 0 s v∧LaidT s 16∧v.pc.length≤64 by
  obtain ⟨r,hc,G,s,v,rfl,h1⟩:=hs;exact ⟨G,s,v,hc,h1⟩
 refine Zh (X:=cx) (f:=5) _ Tryz.func5 rfl ⟨rfl,rfl⟩ ?_;have Zs:=q00;obtain ⟨K0,kI⟩:∃ T:qe,[some [D.int .i64 1048576,.int .i64 (-1),.bool false,.vsl true [] 0,.vsl true [] 0]] = T:=⟨_,rfl⟩
 have w0:FSw K0 0 ⟨1048576,-1,false,[]⟩ ⟨[],.vsl true [] 0,.vsl true [] 0,[],[],[]⟩:=by
  rw [← kI];exact ⟨rfl,RowA.nil _ _,RowA.nil _ _,rfl,fun i n x h=>by simp at h,fun _=>0,rfl,fun i hi=>by simp at hi,fun i hi=>by simp at hi,fun j x hx=>by simp at hx⟩
 rw [kI] at Zs;simp [-qf,-qn,-qs,-qT,Tryz.f5,Zs];refine KZ (qnw (.vsl nl (qu ls) ls.length) (.vsl no (qR ot) ot.length) (.vsl body.nil (qd body.l) body.l.length)) (fun i=>ls.length - i) 0 (fun ex e K=>ex = .exit 0∧∃ i,qnw (.vsl nl (qu ls) ls.length) (.vsl no (qR ot) ot.length) (.vsl body.nil (qd body.l) body.l.length) i e K) ?_ ?_ ?_
 ·exact ⟨by omega,by simp,by simp,by simp,by simp,by simp,_,_,w0,⟨rfl,rfl,rfl,by simp,fun n hn=>by simp at hn⟩,by simp⟩
 ·rintro i e K ⟨hi,p0,p1,p2,p7,p9,s,v,W,L,hpc⟩;by_cases qg:i < ls.length
  ·have qo:=zI qg;have hw:=qx ((i:Int)+1) ((i+1:Nat):Int)
   have vj:nl = false:=by
    cases hn:nl with
    | false=>rfl
    | true =>
     rw [zF hn] at qg;simp at qg
   subst vj;obtain ⟨z,hzd⟩:∃ z,z = ls[i]:=⟨_,rfl⟩;have hzm:z∈ls:=(by rw [hzd];exact v6 qg);have qI:List.drop (i * 1) (qu ls) = Enc.cells z ++ qu (ls.drop (i+1)):=(by rw [hzd];exact YS (n:=1) (α:=ZL) rfl qg);rw [Nat.mul_one,ZL.enc] at qI;have Y6:=z.zs_nil;have Q2:=hz z hzm;obtain ⟨nz,hnz⟩:∃ b,b = z.ln.nil:=⟨_,rfl⟩;obtain ⟨zs,hzs⟩:∃ l,l = z.zs:=⟨_,rfl⟩;rw [← hnz,← hzs] at qI;rw [← hnz,← hzs] at Y6;rw [← hzs] at Q2;have sl:=qeX nz zs;have sf:=qeY nz zs;have sc:=qeZ nz zs;obtain ⟨K1,jS⟩:=ql (qs K (vZ nz zs 0));have qcV:qs K [.vsl nz (Xc .i64 zs) zs.length,.int .i64 0] = K1:=jS;have e1:=jD jS;have g1:=kh jS;have gS:∀ X,qf (qn K1 K.length X) K.length = some X:=fun X=>zG (qA g1);obtain ⟨x1,k1,Ze,-,h1⟩:=Jy nz zs Y6 Q2 0 4 (by decide) (by decide);obtain ⟨x2,k2,hx2,-,h2⟩:=Jy nz zs Y6 Q2 k1 3 (by decide) (by decide);obtain ⟨j2,YD,hid⟩:=qgB x2;obtain ⟨x3,k3,XD,-,h3⟩:=Jy nz zs Y6 Q2 k2 4 (by decide) (by decide);obtain ⟨x4,k4,hx4,-,h4⟩:=Jy nz zs Y6 Q2 k3 3 (by decide) (by decide);obtain ⟨x5,k5,hx5,-,h5⟩:=Jy nz zs Y6 Q2 k4 5 (by decide) (by decide);have wx1:=qx ((x1:Int)+1) ((x1+1:Nat):Int);have wx3:=qN (x3:Int) (x3:Int);have wx4:=qN (x4:Int) (x4:Int);obtain ⟨y,hy⟩:=qhW (IntKind.i64.wrap ((x5:Int) / 4));obtain ⟨inf,Q8⟩:∃ i:Inf,i = ⟨(x1+1:Nat),idN j2,x3,x4⟩:=⟨_,rfl⟩;have hio:InfOk inf:=(by rw [Q8];exact ⟨by unfold j5;simp only;omega,by unfold j5;simp only;omega⟩);have hik:inf.kind = 1∨inf.kind = 2∨inf.kind = 3∨inf.kind = 4:=(by rw [Q8];simp only;omega);have hir:inf.real≠77:=(by rw [Q8];simp only;omega);have hname:=qbh inf hio hik
   have hnl2:(vw inf).length≤1000:=by
    have h1:=qfO inf.seq.h inf.head.toNat inf.real.toNat;unfold vw;split
    ·decide
    ·split
     ·decide
     ·split
      ·omega
      ·split
       ·rw [zz];simp only [vn,kp];omega
       ·simp
   obtain ⟨name,Q7⟩:∃ n,n = vw inf:=⟨_,rfl⟩;rw [← Q7] at hname hnl2;have lid:=(idN j2).h
   have hname2:call cx 13 [.agg (.int .i64 ((x1:Int)+1) :: (qd (idN j2).l ++ [.int .u64 (x3:Nat),.int .u64 (x4:Nat)]))] [] = some (.str name,[]):=by
    rw [← hname,Q8];rfl
   obtain ⟨K2,kl⟩:=ql (qn K1 K.length (vZ nz zs k5));have e2:=Qk kl;have g2:qf K2 K.length = some (vZ nz zs k5):=(by rw [← kl];exact gS _);obtain ⟨K3,qm,m,dm,hmk,wm,om,obl,e3,nm⟩:=qxn nz zs Y6 Q2 k5 g2;have nK:∀ j,j∈v.names 0→j < K.length:=fun j hj=>W.lt hj;have l1:=e1.len;have l2:=e2.len;have l3:=e3.len;have W3:=((W.ext e1 (fun _ _=>by simp)).ext e2 (fun j hj=>by have:=nK j hj;simp;omega)).ext e3 (fun j hj=>by have:=nK j hj;simp;omega);obtain ⟨K4,v4,hmake,W4,e4,n4,pc4⟩:=qrr W3 (by have:=L.len;omega) (by omega) (fun n hn=>by have:=(L.nd n hn).2.1;omega) (by rw [L.fuse];omega) name (by omega);have L4:LaidT (qbK s name).2 (i+1):=qnu L hnl2
   have mN:∀ j,j∈m.names qm→j ∉ v.names 0:=fun j hj hc=>by
    have:=nm j hj;have:=nK j hc;have:=qA g2;omega
   have wm4:=qet wm e4 mN;obtain ⟨K5,img,himg,e5,limg⟩:=qy9 wm4 om;have W5:=W4.ext e5 (fun _ _=>by simp);have e17a:List.drop 17 (qd (idN j2).l ++ [D.int .u64 0,.int .u64 0]) = [.int .u64 0]:=(by simp [vX,List.drop_of_length_le,lid]);have e17:List.take 17 (qd (idN j2).l ++ [D.int .u64 (x3:Nat),.int .u64 0]) = qd (idN j2).l ++ [D.int .u64 (x3:Nat)]:=(by simp [ZK,qP,lid]);have e18:List.drop 18 (qd (idN j2).l ++ [D.int .u64 (x3:Nat),.int .u64 0]) = []:=(by simp [lid]);obtain ⟨i37,hi37⟩:∃ a:Nat,a = i * 37:=⟨_,rfl⟩;have wi37:=qx ((i:Int) * 37) (i37:Int);obtain ⟨_,vx,sp,lsp,rfl⟩:=quh (Sl.mk false img (by simp)) (by simp only;omega) false [(i37:Int),3] (by simp) (by simp) y;replace vx:call cx 22 [.vsl false (qd img) img.length,.vsl false [.int .i64 (i37:Nat),.int .i64 3] 2,.int .u8 y.toNat] [] = some (.vsl false (qd sp) sp.length,[]):=vx;simp only at lsp;obtain ⟨K6,kR⟩:=ql (qs K5 [.int .i64 (i37:Nat),.int .i64 3]);have e6:=jD kR;have g6:=kh kR;obtain ⟨K6',hK6'⟩:=ql (jO K6 [K5.length]);have hK6s:List.set K6 K5.length none = K6':=hK6';have lK6:K6.length = K5.length+1:=by rw [← kR,zW]
   have e6':Ext [] K5 K6':=by
    refine ⟨?_,fun j hj _=>?_⟩
    ·rw [← hK6',Zp];omega
    ·rw [← hK6',Yd (by simp;omega),← kR,vk hj]
   have W6:=W5.ext e6' (fun _ _=>by simp);obtain ⟨s7,K7,v7,hwrite,W7,hw7,e7,n7,pc7⟩:=qrn W6 (by have:=L4.len;omega) (fun n hn=>⟨(L4.nd n hn).2.1,(L4.nd n hn).2.2.1⟩) (by rw [L4.fuse];omega) (by rw [L4.room];omega) name (by omega) 0 (by omega) (Sl.mk false sp (by simp)) (by simp only;omega);replace hwrite:call cx 21 [.optr 0 5 0,.str name,.int .i64 0,.vsl false (qd sp) sp.length] K6' = some (.int .i64 (qaJ (qbK s name).2 name 0 sp),K7):=hwrite;have L7:=qnt L4 hw7;simp [-qf,-qn,-qs,-qT,p0,p1,p2,p7,p9,qo,qI,qcV,g1,gS,sf,h1,h2,h3,h4,h5,hid,wx1,wx3,wx4,lid,Q3,hname2,hy,kl,hmk,hmake,himg,e17a,e17,e18,wi37,kR,g6,hK6s,vx,hwrite,hw];exact ⟨i+1,by omega,by omega,by simp,by simp,by simp,by simp,by simp,s7,v7,W7,L7,by rw [pc7];omega⟩
  ·have qo:=zL qg;simp [-qf,-qn,-qs,-qT,p0,p1,p2,p7,p9,qo];exact ⟨i,hi,by simp,by simp,by simp,by simp,by simp,s,v,W,L,hpc⟩
 ·rintro ex e K ⟨rfl,i,hi,p0,p1,p2,p7,p9,s,v,W,L,hpc⟩;simp [-qf,-qn,-qs,-qT,p1,p2,p7];refine KZ (laO (.vsl no (qR ot) ot.length) (.vsl body.nil (qd body.l) body.l.length)) (fun i=>ot.length - i) 0 (fun ex e K=>ex = .exit 2∧∃ i,laO (.vsl no (qR ot) ot.length) (.vsl body.nil (qd body.l) body.l.length) i e K) ?_ ?_ ?_
  ·exact ⟨by omega,by simp,by simp,by simp,by simp,s,v,W,{ L with len:=zT L.len (by omega) },by omega⟩
  ·clear p0 p1 p2 p7 p9 W L hpc hi;rintro i e K ⟨hi,p1,p2,p7,p15,s,v,W,L,hpc⟩;by_cases qg:i < ot.length
   ·have qo:=zI qg;have hw:=qx ((i:Int)+1) ((i+1:Nat):Int)
    have vj:no = false:=by
     cases hn:no with
     | false=>rfl
     | true =>
      rw [jo hn] at qg;simp at qg
    subst vj;obtain ⟨name,hnd⟩:=ql (ot[i]);have hnl2:name.length≤100:=hn8 name (hnd ▸ v6 qg)
    have qI:List.drop i (qR ot) = .str name :: qR (ot.drop (i+1)):=by
     unfold qR;rw [← List.map_drop,zU qg,hnd];rfl
    obtain ⟨K4,v4,hmake,W4,e4,n4,pc4⟩:=qrr W (by have:=L.len;omega) (by omega) (fun n hn=>by have:=(L.nd n hn).2.1;omega) (by rw [L.fuse];omega) name (by omega);have L4:LaidT (qbK s name).2 (8+i+1):=qnu L (by omega);obtain ⟨s7,K7,v7,hwrite,W7,hw7,e7,n7,pc7⟩:=qrn W4 (by have:=L4.len;omega) (fun n hn=>⟨(L4.nd n hn).2.1,(L4.nd n hn).2.2.1⟩) (by rw [L4.fuse];omega) (by rw [L4.room];omega) name (by omega) 0 (by omega) body (by omega);replace hwrite:call cx 21 [.optr 0 5 0,.str name,.int .i64 0,.vsl body.nil (qd body.l) body.l.length] K4 = some (.int .i64 (qaJ (qbK s name).2 name 0 body.l),K7):=hwrite;have L7:=qnt L4 hw7;simp [-qf,-qn,-qs,-qT,p1,p2,p7,p15,qo,qI,hmake,hwrite,hw];exact ⟨i+1,by omega,by omega,by simp,by simp,by simp,by simp,s7,v7,W7,by rw [show 8+(i+1) = 8+i+1 by omega];exact L7,by rw [pc7];omega⟩
   ·have qo:=zL qg;simp [-qf,-qn,-qs,-qT,p1,p2,p7,p15,qo];exact ⟨i,hi,by simp,by simp,by simp,by simp,s,v,W,L,hpc⟩
  ·clear p0 p1 p2 p7 p9 W L hpc hi;rintro ex e K ⟨rfl,i,hi,p1,p2,p7,p15,s,v,W,L,hpc⟩;simp [-qf,-qn,-qs,-qT,p7];exact ⟨s,v,W,{ L with len:=zT L.len (by omega) },by omega⟩
end Go.Ev.S
namespace Go.Ev
open Go Go.Proofs
structure Sx where
 s:List UInt8
 deriving DecidableEq
instance:Enc Sx:=⟨1,fun m=>(.str m.s :: ([]:List D)),fun m=>by simp,fun m=>by simp [idFree]⟩
theorem Sx.cells (m:Sx):Enc.cells m = (.str m.s :: ([]:List D)):=rfl
@[simp] theorem Sx.size:Enc.size Sx = 1:=rfl
@[simp] theorem Sx.cl (a:Sx):(Enc.cells a).length = 1:=Enc.len a
@[simp] theorem Sx.ct (a:Sx) (r:List D):(Enc.cells a ++ r).take 1 = Enc.cells a:=qdg rfl a r
@[simp] theorem Sx.ct' (a:Sx):(Enc.cells a).take 1 = Enc.cells a:=qdf rfl a
@[simp] theorem Sx.cd (a:Sx) (r:List D):(Enc.cells a ++ r).drop 1 = r:=qdh rfl a r
@[simp] theorem Sx.el (l:List Sx):(qu l).length = l.length * 1:=qaP rfl l
@[simp] theorem Sx.ed (l:List Sx) (i:Nat):(qu l).drop (i * 1) = qu (l.drop i):=qaQ rfl l i
@[simp] theorem Sx.et (l:List Sx) (i:Nat):(qu l).take (i * 1) = qu (l.take i):=qaO rfl l i
@[simp high] theorem Sx.ea {l:List Sx} {i:Nat} (h:i < l.length):(qu l).drop (i * 1) = Enc.cells l[i] ++ qu (l.drop (i+1)):=YS rfl h
@[simp high] theorem Sx.es (m:Sx) {l:List Sx} {j:Nat} (h:j < l.length):zM (qu l) (j * 1) (Enc.cells m) = qu (l.set j m):=Ya rfl m l h
@[simp] theorem Sx.g0 (m:Sx) (h):(Enc.cells m)[0]'h = .str m.s:=by simp [Sx.cells]
@[simp] theorem Sx.q0 (m:Sx):(Enc.cells m)[0]? = some (.str m.s):=by simp [Sx.cells]
@[simp] theorem Sx.s0 (m:Sx) (x:List UInt8):zM (Enc.cells m) 0 [.str x] = Enc.cells { m with s:=x }:=by simp [Sx.cells]
theorem qrZ:∀ l:List Sx,(qu l:List D) = qR (l.map (·.s))
 | []=>rfl
 | a :: l=>by
  rw [Yb,qrZ l,Sx.cells];rfl
end Go.Ev
namespace Go.Ev.S
open Go Go.Proofs Go.Ev
theorem q0B [MaxL]:call cx 4 [] [] = some (.bool true,[]):=call_some.2 ⟨900,by kernel_rfl⟩
theorem q2w {F:zt} {f:Nat} {H:qe} {args:List D} {r:D} {T:qe} (h0:XB args = []) (hf:args.all idFree = true) (hF:F f args [] = some (r,T)):qaU F f args H = some (mv [] H.length r,H ++ T.map (Kp [] H.length)):=by
 have hren:∀ l:List D,l.all idFree = true→Yp [] l = some l:=by
  intro l
  induction l with
  | nil=>intro _;rfl
  | cons d l ih =>
   intro hl;simp only [VY,jk] at hl;rw [Yp,ih hl.2];unfold qaj;rw [if_pos hl.1]
 unfold qaU qdj;rw [h0,show qkk H 6 (Yg [] []) = [] from rfl,hren args hf,show X3 [] H [] = some [] from rfl];simp only;rw [if_pos List.nodup_nil,hF];simp [Jv]
set_option maxHeartbeats 8000000 in
set_option maxRecDepth 10000 in
theorem qu5 [MaxL] (s:List UInt8) (inf:Inf) (Q8:InfOk inf) (ls:Sl ZL) (no:Bool) (ot:List (List UInt8)) (jo:no = true→ot = []) (body:Sl UInt8):call cx 3 [.str s,.agg (Enc.cells inf),(.vsl ls.nil (qu ls.l) ls.l.length),.vsl no (qR ot) ot.length,(.vsl body.nil (qd body.l) body.l.length)] [] = some (.bool true,[]):=by
 refine qy Tryz.func3 rfl ⟨rfl,rfl⟩ ?_;have hfirst:=q0B;have lci:(Enc.cells inf:List D).length = 19:=by simp
 have kv:=Enc.free inf;obtain ⟨CI,hCI⟩:=ql ((Enc.cells inf:List D));rw [hCI] at lci kv ⊢;have hcfL:=Z3 kv;have hcfA:=Xy kv;have hcfC:=KR kv;obtain ⟨K0,kI⟩:∃ T:qe,qs [] CI = T:=⟨_,rfl⟩;have g0:qf K0 0 = some CI:=by rw [← kI];rfl
 have lK0:K0.length = 1:=by rw [← kI];rfl
 by_cases a1:200 < s.length
 ·have a1':(200:Int) < (s.length:Int):=by omega
  simp [Tryz.f3,hfirst,lci,hcfC,a1']
 have a1':¬ (200:Int) < (s.length:Int):=by omega
 by_cases a2:8 < ls.l.length
 ·have a2':(8:Int) < (ls.l.length:Int):=by omega
  simp [Tryz.f3,hfirst,lci,hcfC,a1',a2']
 have a2':¬ (8:Int) < (ls.l.length:Int):=by omega
 by_cases a3:8 < ot.length
 ·have a3':(8:Int) < (ot.length:Int):=by omega
  simp [Tryz.f3,hfirst,lci,hcfC,a1',a2',a3']
 have a3':¬ (8:Int) < (ot.length:Int):=by omega
 by_cases a4:900 < body.l.length
 ·have a4':(900:Int) < (body.l.length:Int):=by omega
  simp [Tryz.f3,hfirst,lci,hcfC,a1',a2',a3',a4']
 have a4':¬ (900:Int) < (body.l.length:Int):=by omega
 simp [-qf,-qn,-qs,Tryz.f3,hfirst,lci,hcfC,a1',a2',a3',a4',kI];refine Run.loopThen (fun (i:Nat) e K=>i≤ls.l.length∧qi e 0 = some (.str s)∧qi e 2 = some (.vsl ls.nil (qu ls.l) ls.l.length)∧qi e 3 = some (.vsl no (qR ot) ot.length)∧qi e 4 = some (.vsl body.nil (qd body.l) body.l.length)∧qi e 6 = some (.optr 0 19 0)∧qi e 11 = some (.bool true)∧qi e 12 = some (.int .i64 i)∧K = K0∧∀ (j:Nat) (z:ZL),j < i→ls.l[j]? = some z→z.ln.l.length≤80) (fun i=>ls.l.length - i) 0 ?_ ?_
 ·exact ⟨vV _,by simp,by simp,by simp,by simp,by simp,by simp,by simp,rfl,fun j z h=>by omega⟩
 rintro i e K ⟨hi,p0,p2,p3,p4,p6,p11,p12,rfl,hz80⟩;by_cases qg:i < ls.l.length
 ·have qo:=zI qg;have hw:=qx ((i:Int)+1) ((i+1:Nat):Int);have vj:=Sl.nn qg;obtain ⟨z,hzd⟩:∃ z,z = ls.l[i]:=⟨_,rfl⟩;have qI:List.drop (i * 1) (qu ls.l) = Enc.cells z ++ qu (ls.l.drop (i+1)):=by rw [hzd];exact YS (n:=1) (α:=ZL) rfl qg
  rw [Nat.mul_one,ZL.enc] at qI;rw [vj] at p2;have Q2:=z.zs_len;by_cases h80:80 < z.zs.length
  ·have h80':(80:Int) < (z.zs.length:Int):=(by omega);simp [-qf,-qn,-qs,p0,p2,p3,p4,p6,p11,p12,qo,qI,h80']
  ·have h80':¬ (80:Int) < (z.zs.length:Int):=(by omega);simp [-qf,-qn,-qs,p0,p2,p3,p4,p6,p11,p12,qo,qI,h80',hw];refine ⟨i+1,by omega,by omega,by rw [vj],by omega,fun j y hj hy=>?_⟩;by_cases hji:j < i
   ·exact hz80 j y hji hy
   ·have:j = i:=(by omega);subst this;rw [zn qg] at hy;injection hy with hy;rw [← hy,← hzd,← Q2];omega
 have qo:=zL qg;have Q9:i = ls.l.length:=by omega
 subst Q9;have hl22:zf Tryz.prog 27 (.vsl ls.nil (qu ls.l) ls.l.length) = some (.int .i64 ls.l.length):=by simp
 simp [-qf,-qn,-qs,-zf,p0,p2,p3,p4,p6,p11,p12,qo,hl22];refine Run.loopThen (fun (i:Nat) e K2=>i≤ot.length∧qi e 0 = some (.str s)∧qi e 2 = some (.vsl ls.nil (qu ls.l) ls.l.length)∧qi e 3 = some (.vsl no (qR ot) ot.length)∧qi e 4 = some (.vsl body.nil (qd body.l) body.l.length)∧qi e 6 = some (.optr 0 19 0)∧qi e 11 = some (.bool true)∧qi e 13 = some (.int .i64 i)∧K2 = K∧∀ (j:Nat) (z:List UInt8),j < i→ot[j]? = some z→z.length≤100) (fun i=>ot.length - i) 0 ?_ ?_
 ·exact ⟨vV _,by simp,by simp,by simp,by simp,by simp,by simp,by simp,rfl,fun j z h=>by omega⟩
 clear p0 p2 p3 p4 p6 p11 p12 qg qo hi;rintro i e K2 ⟨hi,p0,p2,p3,p4,p6,p11,p13,rfl,ho100⟩;by_cases qg:i < ot.length
 ·have qo:=zI qg;have hw:=qx ((i:Int)+1) ((i+1:Nat):Int)
  have vj:no = false:=by
   cases hq:no with
   | false=>rfl
   | true=>rw [jo hq] at qg;simp at qg
  subst vj;obtain ⟨n,hnd⟩:=ql (ot[i])
  have qI:List.drop i (qR ot) = .str n :: qR (ot.drop (i+1)):=by
   unfold qR;rw [← List.map_drop,zU qg,hnd];rfl
  by_cases h80:100 < n.length
  ·have h80':(100:Int) < (n.length:Int):=(by omega);simp [-qf,-qn,-qs,p0,p2,p3,p4,p6,p11,p13,qo,qI,h80']
  ·have h80':¬ (100:Int) < (n.length:Int):=(by omega);simp [-qf,-qn,-qs,p0,p2,p3,p4,p6,p11,p13,qo,qI,h80',hw];refine ⟨i+1,by omega,by omega,by omega,fun j y hj hy=>?_⟩;by_cases hji:j < i
   ·exact ho100 j y hji hy
   ·have:j = i:=(by omega);subst this;rw [zn qg] at hy;injection hy with hy;rw [← hy,hnd];omega
 have qo:=zL qg;have Q9:i = ot.length:=by omega
 subst Q9
 obtain ⟨G,s0,v0,hlaid,W0,L0,pc0⟩:=qxE ls.nil ls.l ls.h (by omega) (fun z hzm=>by
  obtain ⟨j,hj⟩:=List.getElem?_of_mem hzm;have:=hz80 j z (List.getElem?_eq_some_iff.1 hj).1 hj;have:=z.zs_len;omega) no ot jo (by omega) (fun n hn=>by
  obtain ⟨j,hj⟩:=List.getElem?_of_mem hn;exact ho100 j n (List.getElem?_eq_some_iff.1 hj).1 hj) body (by omega)
 obtain ⟨q1,kO⟩:∃ q,q = K2.length+0:=⟨_,rfl⟩;obtain ⟨K1,jS⟩:∃ T:qe,K2 ++ G.map (Kp [] K2.length) = T:=⟨_,rfl⟩
 have G1:qaU (call cx) 5 [.vsl ls.nil (qu ls.l) ls.l.length,.vsl no (qR ot) ot.length,.vsl body.nil (qd body.l) body.l.length] K2 = some (.optr q1 5 0,K1):=by
  rw [q2w (by simp [XB]) (by simp [idFree]) hlaid,jS,kO];simp [mv,Z9]
 have W1:=q0w K2 W0;have x1:=q0M K2 G;rw [jS,← kO] at W1;rw [jS] at x1;obtain ⟨v1,hv1⟩:∃ v,v = FSv.mvd v0 K2.length:=⟨_,rfl⟩;rw [← hv1] at W1;have g1:qf K1 0 = some CI:=x1.get g0 (by simp);have hot:zf Tryz.prog 28 (.vsl no (qR ot) ot.length) = some (.int .i64 ot.length):=by simp
 have ku:=qmv s (by omega);have ZB:=qlC s (by omega);obtain ⟨PI,hPI⟩:=ql ((Enc.cells (jm s).1:List D));rw [hPI] at ku ZB;have lPI:PI.length = 19:=by rw [← hPI];simp
 have fPI:PI.all idFree = true:=by rw [← hPI];exact Enc.free _
 have fPIL:=Z3 fPI;have iPI:=Xy fPI;have cPI:=KR fPI;have tPI:List.take 19 PI = PI:=qP (by omega);have dPI:List.drop 19 PI = []:=List.drop_of_length_le (by omega);have tCI:List.take 19 CI = CI:=qP (by omega);obtain ⟨A1,YQ⟩:=ql (qs K1 (.int .i64 0::qO [.int .u64 0,.int .u64 0]));have gA1:=kh YQ;have xA1:=jD YQ;obtain ⟨A2,JX⟩:=ql (qn A1 K1.length PI);have gA2:=Qx JX gA1;have xA2:=Qk JX;obtain ⟨A3,hA3⟩:=ql (qs A2 (.int .i64 0::qO [.int .u64 0,.int .u64 0]));have gA3:=kh hA3;have xA3:=jD hA3;obtain ⟨A4,hA4⟩:=ql (qn A3 A2.length PI);have gA4:=Qx hA4 gA3;have xA4:=Qk hA4;have l2:A2.length = K1.length+1:=by rw [← JX,Qo,← YQ,zW]
 have l4:A4.length = A2.length+1:=by rw [← hA4,Qo,← hA3,zW]
 have nv:∀ j,j∈v1.names q1→j < K1.length:=fun j hj=>W1.lt hj;have W4:=(((W1.ext xA1 (fun _ _=>by simp)).ext xA2 (fun j hj hc=>by have:=nv j hj;have:=List.mem_singleton.1 hc;omega)).ext xA3 (fun _ _=>by simp)).ext xA4 (fun j hj hc=>by have:=nv j hj;have:=List.mem_singleton.1 hc;omega);have e1A2:qf A4 K1.length = some PI:=xA4.get (xA3.get gA2 (by simp)) (by simp;omega);have zx:s0.nodes.length < 1000:=by have:=L0.len;omega
 have ZY:∀ n,n∈s0.nodes→n.b.l.length≤1000000:=fun n hn=>by have:=(L0.nd n hn).2.1;omega
 have Q7:∀ n,n∈Qh s0→n.length≤1000:=fun m hm=>by
  unfold Qh at hm;rw [L0.off] at hm;simp only [QE,if_false,ZM,List.mem_filter] at hm;obtain ⟨x,⟨hx,-⟩,rfl⟩:=hm;exact (L0.nd x hx).2.2.2
 obtain ⟨A5,dN,dA,LN,LA,Bs,hsee,xA5,rN,rA,hBs,nN,nA⟩:=qu4 W4 L0.off zx ZY Q7;obtain ⟨A6,hA6⟩:=ql (qs A5 [.vsl true [] 0,.vsl true [] 0]);have gA6:=kh hA6;have xA6:=jD hA6;obtain ⟨A7,hA7⟩:=ql (qn A6 A5.length [dN,dA]);have gA7:=Qx hA7 gA6;have xA7:=Qk hA7;have l6:A6.length = A5.length+1:=by rw [← hA6,zW]
 have l7:A7.length = A5.length+1:=by rw [← hA7,Qo,l6]
 have lN5:∀ j,j∈LN→j < A5.length:=fun j hj=>rN.lt hj;have lA5:∀ j,j∈LA→j < A5.length:=fun j hj=>rA.lt hj
 have cl:∀ {d:D} {cs:List D} {L:List Nat},RowA A5 1 d cs L→closed A6.length d = true:=fun {d cs L} h=>by
  rcases h with ⟨rfl,_,_⟩ | ⟨r,n,rfl,_,h3,_⟩
  ·simp [closed]
  ·have:=qA h3;simp [closed];omega
 have cN:=cl rN;have cA:=cl rA;have W7:=((W4.ext xA5 (fun _ _=>by simp)).ext xA6 (fun _ _=>by simp)).ext xA7 (fun j hj hc=>by have:=nv j hj;have:=List.mem_singleton.1 hc;have:=xA5.len;omega);obtain ⟨A8,ps,oD,hD,Lo,Lh,hdir,DI⟩:=q1x W7 L0.off zx ZY Q7;have gA8:=DI.ext.get gA7 (by simp);have xA58:Ext [A5.length] A5 A8:=((xA6.mono fun _ h=>by simp at h).trans xA7 (NewL.refl _ _)).trans DI.ext (fun _ h=>by simp at h);obtain ⟨N,hN⟩:=ql (vF (Qh s0));rw [hN] at rN hBs DI;have rN8:=rN.ext xA58 (fun j hj hc=>by have:=lN5 j hj;have:=List.mem_singleton.1 hc;omega);have rA8:=rA.ext xA58 (fun j hj hc=>by have:=lA5 j hj;have:=List.mem_singleton.1 hc;omega);have lBs:Bs.length = N.length:=by have:=congrArg List.length hBs;simpa using this
 obtain ⟨nN1,hst1,hnN1⟩:=qig (n:=N.length) rN8 (qhZ N) (by simp [qR]) (by omega)
 have hbf:(Vv Bs).all idFree = true:=by
  rw [qeH];intro x hx;obtain ⟨c,_,rfl⟩:=List.mem_map.1 hx;simp [idFree]
 obtain ⟨nA1,hst2,hnA1⟩:=qig (n:=N.length) rA8 hbf (by simp [Vv,lBs]) (by omega);have Vn:(Qh s0).length = N.length:=by rw [← hN];simp
 have hNb:N.length≤1000:=by
  rw [← Vn];unfold Qh;rw [L0.off];simp only [QE,if_false,List.length_map];exact zT (List.length_filter_le _ _) (by omega)
 have hNn:∀ n,n∈N→n.length≤1000∧(ji s0 n).length≤1000000:=fun n h=>by
  refine ⟨Q7 n (sortL_mem.1 (hN ▸ h)),?_⟩;unfold ji;split
  ·simp
  ·cases VH:(ZF s0.nodes n).bind (s0.nodes[·]?) with
   | none=>simp
   | some x =>
    simp only;cases hf:ZF s0.nodes n with
    | none=>rw [hf] at VH;simp at VH
    | some j =>
     rw [hf] at VH;exact ZY x (Vy VH)
 have hrd:=qvN (ji s0) N nN1 nA1 (fun h=>List.length_eq_zero_iff.1 (hnN1 h)) Bs hBs (fun h=>List.length_eq_zero_iff.1 (hnA1 h)) hNb hNn;obtain ⟨fl,Jd⟩:=ql (N.filter (jH (ji s0) zj));obtain ⟨bl,jM⟩:=ql (N.filter (jF (ji s0) zj));rw [Jd,jM] at hrd;have D1p:=DI.pl;have D1o:=DI.oR;have D1h:=DI.hR;have D1f:=DI.file;rw [List.take_length,Jd] at D1p D1o D1f;rw [List.take_length,jM] at D1h;obtain ⟨n1,ja⟩:=ql (decide (fl.length = 0));obtain ⟨n2,zX⟩:=ql (decide (bl.length = 0));rw [ja,zX] at hrd;have qcC:n1 = true→fl = []:=fun h=>List.length_eq_zero_iff.1 (by rw [← ja] at h;simpa using h);have hn2':n2 = true→bl = []:=fun h=>List.length_eq_zero_iff.1 (by rw [← zX] at h;simpa using h);have hfll:fl.length≤1000:=by rw [← Jd];exact zT (List.length_filter_le _ _) hNb
 have hbll:bl.length≤1000:=by rw [← jM];exact zT (List.length_filter_le _ _) hNb
 obtain ⟨A9,hA9⟩:=ql (jO A8 (LN ++ LA));have l9:A9.length = A8.length:=by rw [← hA9,Zp]
 have xA9:Ext (LN ++ LA) A8 A9:=⟨by omega,fun j hj hn=>by rw [← hA9,Yd hn]⟩;have l78:=DI.ext.len
 have lo5:∀ j,j∈LN ++ LA→j < A5.length:=fun j hj=>by
  rcases List.mem_append.1 hj with h | h
  ·exact lN5 j h
  ·exact lA5 j h
 have lo4:∀ j,j∈LN ++ LA→A4.length < j:=fun j hj=>by
  rcases List.mem_append.1 hj with h | h
  ·exact (nN j h).1
  ·exact nA j h
 have oR9:=D1o.ext xA9 (fun j hj hc=>by have:=(DI.oN j hj).1;have:=lo5 j hc;omega);have hR9:=D1h.ext xA9 (fun j hj hc=>by have:=(DI.hN j hj).1;have:=lo5 j hc;omega)
 have f9:∀ (j:Nat) (n:List UInt8) (p:Nat),fl[j]? = some n→ps[j]? = some p→qf A9 p = some (XY (ji s0 n)):=fun j n p hj hp=>by
  have Zg:=Vy hp;exact xA9.get (D1f j n p hj hp) (fun hc=>by have:=DI.pH p Zg;have:=lo5 p hc;omega)
 have hfm:∀ n,n∈fl→(ji s0 n).length≤1000000:=fun n hn=>by
  rw [← Jd] at hn;exact (hNn n (List.mem_filter.1 hn).1).2
 obtain ⟨B1,hsame,xB1⟩:=qu7 (f:=ji s0) qcC D1p oR9 DI.pD (fun j hj=>(DI.oN j hj).2.2) hfll hfm f9;have hR10:=hR9.ext xB1 (fun j hj=>(DI.hN j hj).2);have x48:Ext [A5.length] A4 A8:=(xA5.mono fun _ h=>by simp at h).trans xA58 (NewL.refl _ _);have k1:qf A9 K1.length = some PI:=xA9.get (x48.get e1A2 (by have:=xA5.len;simp;omega)) (fun hc=>by have:=lo4 _ hc;omega);have k2:qf A9 A2.length = some PI:=xA9.get (x48.get gA4 (by have:=xA5.len;simp;omega)) (fun hc=>by have:=lo4 _ hc;omega);have g4:qf A4 0 = some CI:=xA4.get (xA3.get (xA2.get (xA1.get g1 (by simp)) (by have:=x1.len;simp;omega)) (by simp)) (by have:=x1.len;simp;omega);have k0:qf A9 0 = some CI:=xA9.get (x48.get g4 (by have:=xA5.len;have:=x1.len;simp;omega)) (fun hc=>by have:=lo4 _ hc;omega);have QJ:=qix (jm s).1;have kN:=qix inf;have hnn1:=qmS inf Q8;have hnn2:=qv3 inf Q8;have Zw:=Inf.eq19 (jm s).1 (jm s).1;rw [(qq0 _ _).2 rfl] at Zw;rw [hPI] at QJ Zw;rw [hCI] at kN hnn1 hnn2;obtain ⟨RF,hRF⟩:=ql (Qz (ji s0) fl);rw [hRF] at hrd hsame;have lB1:=xB1.len;have hsb:jf B1 9 (.bool true) = some (.bool true,[]):=by simp [jf,idFree]
 have hcb:jO B1 [] = B1:=rfl;rcases hR10 with ⟨rfl,XT,-⟩ | ⟨r,m,rfl,kb,zJ,-⟩
 ·have hbl0:bl = []:=by simpa [qR] using XT
  subst hbl0;have hstx:=qkV [] true n2 (fun _=>rfl) (fun _=>rfl) (by simp);have hstx2:call cx 15 [.vsl true [] 0,.vsl n2 [] 0] [] = some (.bool true,[]):=hstx;have e0:qR [] = []:=rfl;rw [e0] at hrd;simp [-qf,-qn,-qs,-qT,-zf,-jf,-QZ,-jO,p0,p2,p3,p4,p6,p11,p13,qo,hot,G1,ku,ZB,fPIL,lPI,cPI,tPI,YQ,gA1,JX,hA3,gA3,hA4,hsee,hA6,gA6,cN,cA,hA7,hdir,gA8,hst1,hst2,hrd,hA9,k0,k1,k2,QJ,kN,hnn1,hnn2,Zw,lci,tCI,hcfL,hsame,hsb,hcb,hstx2]
 ·have hmb:m = bl.length:=by simp [qR] at kb;omega
  subst hmb;have ltb:(qR bl).length = bl.length:=by simp [qR]
  rw [ltb] at hdir;have ftb:=qhZ bl;have ftbL:=Z3 ftb;have ftbA:=Xy ftb;have ttb:List.take bl.length (qR bl) = qR bl:=qP (by omega);have hstx:=qkV bl false n2 (fun h=>by cases h) hn2' (by omega);simp [-qf,-qn,-qs,-qT,-zf,-jf,-QZ,-jO,p0,p2,p3,p4,p6,p11,p13,qo,hot,G1,ku,ZB,fPIL,lPI,cPI,tPI,YQ,gA1,JX,hA3,gA3,hA4,hsee,hA6,gA6,cN,cA,hA7,hdir,gA8,hst1,hst2,hrd,hA9,k0,k1,k2,QJ,kN,hnn1,hnn2,Zw,lci,tCI,hcfL,hsame,hsb,hcb,hstx,zJ,freeze,ftbA,ttb,ltb]
theorem qu6 [MaxL] (s:List UInt8) (inf:Inf) (Q8:InfOk inf) (ls:Sl ZL) (ot:Sl Sx) (body:Sl UInt8):call cx 3 [.str s,.agg (Enc.cells inf),(.vsl ls.nil (qu ls.l) ls.l.length),(.vsl ot.nil (qu ot.l) ot.l.length),(.vsl body.nil (qd body.l) body.l.length)] [] = some (.bool true,[]):=by
 have h:=qu5 s inf Q8 ls ot.nil (ot.l.map (·.s)) (fun hn=>by rw [ot.h hn];rfl) body;rw [← qrZ,List.length_map] at h;exact h
theorem q0g {n:Nat} {cs:List D} (h:vR Tryz.prog (n+1) 9 cs):∃ a:Sx,cs = Enc.cells a∧a.s.length≤maxLen:=by
 obtain ⟨x,rfl,w⟩:=qrd un9 h;exact ⟨⟨x⟩,rfl,w⟩
theorem q0h {n:Nat} {cs:List D} (h:vR Tryz.prog (n+2+1) 26 cs):∃ i:Inf,cs = Enc.cells i∧InfOk i:=by
 have h:=q0c (P:=Tryz.prog) (n:=n+2) (t:=26) Tryz.underlying26 h;simp only [qfT] at h;obtain ⟨a,b,rfl,-,ha,c,d,rfl,-,hc,e,f,rfl,-,he,g,k,rfl,-,hg,rfl⟩:=h;obtain ⟨x1,rfl,w1⟩:=qrf un3 ha;obtain ⟨id,rfl⟩:=q0d qtD un5 hc;obtain ⟨x2,rfl,w2⟩:=qrc qkJ he;obtain ⟨x3,rfl,w3⟩:=qrc qkJ hg;exact ⟨⟨x1,id,x2,x3⟩,by simp [Inf.cells],⟨w2,w3⟩⟩
theorem q0i {n:Nat} {cs:List D} (h:vR Tryz.prog (n+1) 3 cs):∃ a:I6,cs = Enc.cells a∧qjx a.v:=by
 obtain ⟨x,rfl,w⟩:=qrf un3 h;exact ⟨⟨x⟩,rfl,w⟩
theorem q0f {n:Nat} {cs:List D} (h:vR Tryz.prog (n+1+1) 31 cs):∃ z:ZL,cs = Enc.cells z∧True:=by
 obtain ⟨s,rfl,u1,u2⟩:=qre (α:=I6) qt9 (fun l=>q0i) h;exact ⟨⟨s⟩,rfl,trivial⟩
end Go.Ev.S
namespace Go.Ev
open Go Go.Proofs
end Go.Ev
namespace Go.Proofs
open Go.Shelf
def Tryz.laysM219_ren:Go.Shelf.Ren:=⟨fun | 219=>142 | 217=>101 | 225=>194 | 224=>195 | 267=>196 | 266=>143 | 314=>233 | n=>n,fun | 9=>9 | 3=>3 | 4=>4 | 5=>5 | 46=>140 | 146=>282 | 51=>130 | n=>n,fun | 1=>0 | n=>n⟩
theorem Tryz.laysM219:Go.Proofs.LaysM.n219 Tryz.prog Tryz.laysM219_ren:={
 mixed:=by kernel_rfl
 f217:=Tryz.func101.trans (congrArg some (by kernel_rfl))
 f219:=Tryz.func142.trans (congrArg some (by kernel_rfl))
 f224:=Tryz.func195.trans (congrArg some (by kernel_rfl))
 f225:=Tryz.func194.trans (congrArg some (by kernel_rfl))
 f266:=Tryz.func143.trans (congrArg some (by kernel_rfl))
 f267:=Tryz.func196.trans (congrArg some (by kernel_rfl))
 f314:=Tryz.func233.trans (congrArg some (by kernel_rfl))
 t3:=Tryz.underlying3
 a3:=Tryz.isAgg3
 z3:=Tryz.sizeOf3
 v3:=Tryz.zeroValue3
 t4:=Tryz.underlying4
 a4:=Tryz.isAgg4
 z4:=Tryz.sizeOf4
 v4:=Tryz.zeroValue4
 t5:=Tryz.underlying5
 a5:=Tryz.isAgg5
 z5:=Tryz.sizeOf5
 v5:=Tryz.zeroValue5
 t9:=Tryz.underlying9
 a9:=Tryz.isAgg9
 z9:=Tryz.sizeOf9
 v9:=Tryz.zeroValue9
 t46:=Tryz.underlying140
 a46:=Tryz.isAgg140
 z46:=Tryz.sizeOf140
 v46:=Tryz.zeroValue140
 t51:=Tryz.underlying130
 a51:=Tryz.isAgg130
 z51:=Tryz.sizeOf130
 v51:=Tryz.zeroValue130
 t146:=Tryz.underlying282
 a146:=Tryz.isAgg282
 z146:=Tryz.sizeOf282
 v146:=Tryz.zeroValue282
 g1:=by kernel_rfl
 i3:=by kernel_rfl
 i4:=by kernel_rfl
 i5:=by kernel_rfl
 i9:=by kernel_rfl
 i46:=by kernel_rfl
 i51:=by kernel_rfl
 i146:=by kernel_rfl
 m1:=by kernel_rfl
 s1_3:=fun w h=>Go.Proofs.cell_of_shapedOpen_int (zero:= #[.int .i64 0]) (t:=3) h (of_decide_eq_true (by kernel_rfl)) (by kernel_rfl) rfl (by kernel_rfl) (by kernel_rfl) Tryz.underlying3 }
end Go.Proofs
namespace Go.Proofs.YtgehibgkabhcaaaGreatDoor.scanSays
open Go.ChangeShapes Go.WideShapes Go.ChangeAt Go.RowKit
theorem jf0:(Rows.scanSaysRow.wf (OpenSpec.ofChange Rows.scanSaysSpec)) = true:=by kernel_rfl
theorem jf1:(laidOutB Tryz.prog) = true:=by kernel_rfl
theorem jf2:(mapsRowed Tryz.prog) = true:=by kernel_rfl
theorem jf3:(Tryz.f3.params.all (Tryz.prog.readableRec ·)) = true:=by kernel_rfl
theorem jf4:(namedTie Tryz.prog Rows.scanSaysRow.named Rows.scanSaysSpec.vars) = true:=by kernel_rfl
theorem jf5:((Rows.scanSaysRow.stops == [])) = true:=by kernel_rfl
theorem jf6:((Tryz.prog.stops == [])) = true:=by kernel_rfl
theorem jf7:((Rows.scanSaysRow.knobs == [])) = true:=by kernel_rfl
theorem jf8:((Tryz.prog.stopKnobs == [])) = true:=by kernel_rfl
theorem jf9:((Rows.scanSaysRow.inPlace == Tryz.prog.inPlace 3)) = true:=by kernel_rfl
theorem qzf:((Rows.scanSaysRow.unfollowed == Tryz.prog.unfollowed 3)) = true:=by kernel_rfl
theorem qze:((Rows.scanSaysRow.recurses == Tryz.prog.recurses 3)) = true:=by kernel_rfl
theorem qzd:((Rows.scanSaysRow.named == Tryz.prog.varsNamed 3)) = true:=by kernel_rfl
theorem qzc:((Rows.scanSaysRow.maps == (Tryz.f3.params.toList ++ Rows.scanSaysSpec.plain.varTypes Tryz.prog).any (Tryz.prog.mapsRec ·))) = true:=by kernel_rfl
theorem qzb:((Rows.scanSaysRow.ifaces == (Tryz.f3.params.toList ++ Rows.scanSaysSpec.plain.varTypes Tryz.prog).any (Tryz.prog.ifacesRec ·))) = true:=by kernel_rfl
theorem qza:((Rows.scanSaysRow.mapsOut == Tryz.prog.mapsAmong Tryz.f3.resultTypes.toList)) = true:=by kernel_rfl
theorem qyZ:((Rows.scanSaysRow.loops == (Tryz.f3.params.toList ++ Rows.scanSaysSpec.plain.varTypes Tryz.prog).any (Tryz.prog.loopsFrom ·))) = true:=by kernel_rfl
theorem qyY:((Rows.scanSaysRow.wideKeys == (Tryz.f3.params.toList ++ Rows.scanSaysSpec.plain.varTypes Tryz.prog ++ Tryz.f3.resultTypes.toList).any (Tryz.prog.wideKeysFrom ·))) = true:=by kernel_rfl
theorem qyX:(Rows.scanSaysSpec.vars.all (Tryz.prog.varReadable ·)) = true:=by kernel_rfl
theorem qyW:(Tryz.f3.resultTypes.all (fun t=>Tryz.prog.readableRec t && decide (t < Tryz.prog.types.size))) = true:=by kernel_rfl
theorem qyU:((Rows.scanSaysRow.ifacesOut == Tryz.f3.resultTypes.toList.any (Tryz.prog.ifacesRec ·))) = true:=by kernel_rfl
theorem qyT:((Rows.scanSaysRow.loopsOut == Tryz.f3.resultTypes.toList.any (Tryz.prog.loopsFrom ·))) = true:=by kernel_rfl
theorem qyS:((Rows.scanSaysRow.plainKeys == Tryz.prog.plainKeys)) = true:=by kernel_rfl
theorem qyR:(Rows.scanSaysRow.shortTexts.isNone) = true:=by kernel_rfl
theorem qyQ:(Tryz.prog.stopsHeard) = true:=by kernel_rfl
theorem qyP:(Tryz.prog.mayEnter) = true:=by kernel_rfl
theorem qyO:((Rows.scanSaysRow.lifted == Tryz.prog.liftsFinal)) = true:=by kernel_rfl
theorem qyN:((Tryz.prog.make == some Rows.scanSaysRow.make)) = true:=by kernel_rfl
theorem qyM:((Rows.scanSaysRow.kinds == (if Rows.scanSaysRow.domain.isEmpty then [] else Tryz.f3.params.toList.map fun t=>match Tryz.prog.underlying t with | some (.int k)=>some k | _=>none))) = true:=by kernel_rfl
theorem qyL:((Rows.scanSaysRow.pinned == Rows.scanSaysRow.pinnedBy)) = true:=by kernel_rfl
theorem qyJ:((Rows.scanSaysRow.veiled == (Tryz.f3.params.toList ++ Rows.scanSaysSpec.plain.varTypes Tryz.prog ++ Tryz.f3.resultTypes.toList).any (Tryz.prog.veiledRec ·))) = true:=by kernel_rfl
theorem qyI:(Rows.scanSaysRow.veiledFits Tryz.prog Tryz.f3.params.toList (Tryz.f3.params.toList ++ Rows.scanSaysSpec.plain.varTypes Tryz.prog ++ Tryz.f3.resultTypes.toList)) = true:=by kernel_rfl
theorem kx {a b:Bool} (h1:a = true) (h2:b = true):(a && b) = true:=by rw [h1,h2];rfl
set_option maxRecDepth 100000 in
theorem q0L:joinedFacts Tryz.prog 3 Tryz.f3 Rows.scanSaysSpec Rows.scanSaysRow = true:=by
 unfold joinedFacts;exact (kx (kx (kx (kx (kx (kx (kx (kx (kx (kx (kx (kx (kx (kx (kx (kx (kx (kx (kx (kx (kx (kx (kx (kx (kx (kx (kx (kx (kx (kx (kx jf0 jf1) jf2) jf3) jf4) jf5) jf6) jf7) jf8) jf9) qzf) qze) qzd) qzc) qzb) qza) qyZ) qyY) qyX) qyW) qyU) qyT) qyS) qyR) qyQ) qyP) qyO) qyN) qyM) qyL) qyJ) qyI)
theorem pw:Rows.scanSaysRow.wfByText (OpenSpec.ofChange Rows.scanSaysSpec) = true:=by kernel_rfl
theorem pm:Tryz.pinned.checked.prog.mainIs = some ((true,Rows.scanSaysCard.stood.harness.2).1,(true,Rows.scanSaysCard.stood.harness.2).2.toList):=by kernel_rfl
theorem pf:Tryz.prog.funcNamed Tryz.f3.name = some 3:=by kernel_rfl
theorem pl:true = Tryz.prog.looks []:=by kernel_rfl
theorem pa:([9,26,27,28,29].all fun u=>!Tryz.prog.wantsStandIn u) = true:=by kernel_rfl
theorem pg:false = Rows.scanSaysRow.goesBy Tryz.pinned.checked.prog:=by kernel_rfl
end Go.Proofs.YtgehibgkabhcaaaGreatDoor.scanSays
namespace Go.Ev
open Go Go.Proofs Go.ChangeShapes Go.WideShapes Go.ChangeAt Go.RowKit
theorem qeN {H:Type} {P:Program} {t:TypeId} {ts:List TypeId} {d:DataW H} {r:List (DataW H)} (h:(DataW.weightsEach P (t :: ts) (d :: r)).all (fun k=>decide (k≤reachBytes)) = true) :
  Wok P t d∧(DataW.weightsEach P ts r).all (fun k=>decide (k≤reachBytes)) = true:=by
 unfold DataW.weightsEach at h;rw [List.all_append,jk] at h;exact ⟨fun k hk=>by simpa using List.all_eq_true.1 h.1 k hk,h.2⟩
theorem q0j {H:Type} {enc:TypeId × Value→H} {a:Assume} {C:Checked} {os:Os} {f:FuncId} {fn:Func} {s:ChangeSpec} {conds:List PathCond} {apart fresh handsOn again:Bool} {X:World→Array Value→Prop}
  (hX:∀ (w w':World) (args:Array Value),w.heap = w'.heap→X w args→X w' args)
  (own:ownKnob C.prog.godebug = none) (started:os.Started) (noInit:C.prog.inits.idxOf? f = none) (hfn:C.prog.funcs[f]? = some fn)
  (witness:∃ (w:World) (tape:Tape) (i:Input),w.os = os∧(w.forCall tape i).Shaped C.prog∧i.vars = []∧Input.okWide C.prog (w.forCall tape i) .any w.heap.size f i ∧
   ((s.pre enc C.prog fn conds apart (w.forCall tape i).memory i.args∧X (w.forCall tape i).memory i.args)∧sizedMet enc C.prog fn (OpenSpec.ofChange s) apart (w.forCall tape i).memory i.args)∧a.holds C.prog (lone (Frame.enter C.prog f i.args .normal) [] (w.forCall tape i)))
  (contract:∀ (W:World) (base:Nat) (args:Array Value) (ds gs:List (DataW H)) (before:List MemPlace),
   (∀ (j:Nat) t v,fn.params[j]? = some t→args[j]? = some v→Value.okWide C.prog W .any base t v) →
   DataW.Whole enc C.prog fn.params.toList s.vars apart W args.toList ds gs before→(DataW.weightsEach C.prog (fn.params.toList ++ (OpenSpec.ofChange s).bare.plain.varTypes C.prog) (ds ++ gs)).all (fun k=>decide (k≤reachBytes)) = true→X W args→W.ShapedOpen C.prog →
   Calls C.prog f args W fun e W'=>∃ v,e = .returned v∧s.post enc C.prog fn apart fresh handsOn again W args v W') :
  ReturnsInHanded a C os f .any (fun w args=>(s.pre enc C.prog fn conds apart w args∧X w args)∧sizedMet enc C.prog fn (OpenSpec.ofChange s) apart w args) (s.post enc C.prog fn apart fresh handsOn again):=by
 refine returnsInHanded_of_calls own started noInit witness ?_;intro w tape i _ hsh _ J5 hpre _;obtain ⟨_,_,_,fn',hfn',_,_,_,_,qau⟩:=J5;have e:fn' = fn:=Option.some.inj (hfn'.symm.trans hfn);subst e;obtain ⟨⟨_,hx⟩,hz⟩:=hpre;obtain ⟨_,ds,gs,before,hw,hs⟩:=hz;have hw':=DataW.Whole.of_heap (w':=w.forCall tape i) (by rfl) hw;refine (contract (w.forCall tape i) w.heap.size i.args ds gs before qau hw' hs (hX _ _ _ (by rfl) hx) hsh).mono fun e W' ⟨v,he,hp⟩=>?_;subst he;exact ChangeSpec.post_blind hp
end Go.Ev
