import Derived.Test.YtjjofhpbbndccaaGreatDoorC6
import Derived.Shelf.LaysM
import Derived.Shelf.Strings.Shaped
import Derived.Test.YtjjofhpbbndccaaGreatDoorProg
import Derived.Test.YtjjofhpbbndccaaGreatDoorTie
import Derived.Test.YtjjofhpbbndccaaGreatDoorCards
import Derived.LaidMore
import Derived.SevenTiedAt
import Derived.Handed
namespace Go.Ev
open Go Go.Proofs
mutual
theorem qip:∀ (d:D),idFree d = true→noZ d = true
 | .agg cs,h=>by simp only [idFree] at h;simp only [noZ];exact Yv cs h
 | .tup cs,h=>by simp only [idFree] at h;simp only [noZ];exact Yv cs h
 | .fn _ cs,h=>by simp only [idFree] at h;simp only [noZ];exact Yv cs h
 | .iface _ d,h=>by simp only [idFree] at h;simp only [noZ];exact qip d h
 | .optr ..,h=>by simp [idFree] at h
 | .osl ..,h=>by simp [idFree] at h
 | .bool _,_=>rfl
 | .int _ _,_=>rfl
 | .str _,_=>rfl
 | .nilp,_=>rfl
 | .nilf,_=>rfl
 | .nili,_=>rfl
 | .vptr _,_=>rfl
 | .vsl ..,_=>rfl
 | .raw _,_=>rfl
theorem Yv:∀ (l:List D),idFree.idFreeL l = true→noZ.noZL l = true
 | [],_=>rfl
 | d :: l,h=>by
  simp only [idFree.idFreeL,zL] at h;simp only [noZ.noZL,qip d h.1,Yv l h.2,Bool.and_self]
end
@[simp] theorem q0t (a b:List D):noZ.noZL (a ++ b) = (noZ.noZL a && noZ.noZL b):=by
 induction a with
 | nil=>simp [noZ.noZL]
 | cons d l ih=>simp [noZ.noZL,ih,Bool.and_assoc]
@[simp] theorem q0q (l:List UInt8):noZ.noZL (qf l) = true:=Yv _ (by simp)
@[simp] theorem q0s {α:Type} [Enc α] (a:α):noZ.noZL (Enc.cells a) = true:=Yv _ (qgl a)
@[simp] theorem q0r {α:Type} [Enc α] (l:List α):noZ.noZL (qk l) = true:=Yv _ (qfW l)
end Go.Ev
namespace Go.Ev.S
open Go Go.Proofs Go.Ev
structure MkI (H:qd) (s:Nat) (nil:Bool) (zs:List Int) (q:Nat) (i:Nat) (K:qd) (m:Jm) (kk:Nat) (oD:D) (oc:List D) (Lo:List Nat):Prop where
 w:JmW K q m
 ok:m.Ok
 main:ArrOk m.b.length m.main m.ne
 cn:∀ k,k∈m.da→k.cnt≤4 * m.ne
 ne:m.ne = i
 tl:m.tl≤6+i
 bl:m.b.length≤700+2200 * i
 da:m.da.length≤4 * i
 fi:m.fi.length≤4 * i
 new:∀ j,j∈m.names q→H.length≤j
 seq:qe K s = some (jy nil zs kk)
 ext:Ext [s] H K
 oR:RowA K 20 oD oc Lo
 ol:oc.length = i * 20
 oN:∀ j,j∈Lo→j ∉ m.names q∧H.length≤j
def mkI (H:qd) (s:Nat) (nil:Bool) (zs:List Int) (q:Nat) (i:Nat) (e:qn) (K:qd):Prop :=
 i≤5∧qg e 0 = some (.optr s 2 0)∧qg e 1 = some (.int .i64 5)∧qg e 7 = some (.optr q 147 0)∧∃ m kk oD oc Lo,qg e 8 = some oD∧MkI H s nil zs q i K m kk oD oc Lo
set_option maxHeartbeats 8000000 in
set_option maxRecDepth 10000 in
theorem qo5 [MaxL] [TxtC] {H:qd} {s:Nat} (nil:Bool) (zs:List Int) (qQ:nil = true→zs = []) (hz:zs.length≤1000000) (k:Nat) (hg:qe H s = some (jy nil zs k)) :
  ∃ T q m d,call cx 19 [.optr s 2 0,.int .i64 5] H = some (.tup [.optr q 147 0,d],T)∧JmW T q m∧m.Ok∧m.b.length≤20000∧Ext [s] H T∧(∀ j,j∈m.names q→H.length≤j):=by
 suffices hs:∃ r,call cx 19 [.optr s 2 0,.int .i64 5] H = some r∧∃ (T:qd) (q:Nat) (m:Jm) (d:D),r = (.tup [.optr q 147 0,d],T)∧JmW T q m∧m.Ok∧m.b.length≤20000∧Ext [s] H T∧(∀ j,j∈m.names q→H.length≤j) by
  obtain ⟨r,hc,T,q,m,d,rfl,h1⟩:=hs;exact ⟨T,q,m,d,hc,h1⟩
 refine Zt (X:=cx) (f:=19) _ Tryz.func19 rfl ⟨rfl,rfl⟩ ?_;have hsH:=qt hg;obtain ⟨_,kP,j1,j2,j3,x4,x5,x6,k1,K1,rfl,hx4,hx5,g1,e1⟩:=qoC nil zs qQ hz k hg;obtain ⟨A,hA⟩:∃ A,A = idN j1:=⟨_,rfl⟩;obtain ⟨B,hB⟩:∃ A,A = idN j2:=⟨_,rfl⟩;obtain ⟨S,hS⟩:∃ A,A = idN j3:=⟨_,rfl⟩;obtain ⟨key,hkey⟩:∃ k,k = ((x6:Int) == 1):=⟨_,rfl⟩;rw [← hA,← hB,← hS,← hkey] at kP;obtain ⟨cf,hcfd⟩:∃ c,c = qf A.l ++ (qf B.l ++ (qf S.l ++ [.int .i64 (x4+1:Nat),.int .i64 (x5+1:Nat),.int .i64 32768,.bool key])):=⟨_,rfl⟩;rw [← hcfd] at kP;have la:=A.h;have lb:=B.h;have ls:=S.h;have lcf:cf.length = 52:=by rw [hcfd];simp [la,lb,ls]
 have fcf:cf.all idFree = true:=by rw [hcfd];simp [qf,idFree]
 have ccf:∀ n,(∀ x,x∈cf→closed n x = true) = True:=fun n=>eq_true fun x hx=>KH x (List.all_eq_true.1 fcf x hx);obtain ⟨K2,jQ⟩:∃ T,qo K1 cf = T:=⟨_,rfl⟩;have e2:Ext [] K1 K2:=jQ ▸ Ext.new K1 _;have g2:qe K2 K1.length = some cf:=by rw [← jQ,qN]
 have XP:qe K2 s = some (jy nil zs k1):=e2.get g1 (by simp);obtain ⟨x,k2,hx,-,hn⟩:=QL nil zs qQ hz k1 6 (by decide) (by decide);have wx:IntKind.u64.wrap (x:Int) = (x:Int):=by rw [qF];omega
 obtain ⟨K3,Vp⟩:∃ T,ql K2 s (jy nil zs k2) = T:=⟨_,rfl⟩;have e3:Ext [s] K2 K3:=Vp ▸ Ext.set K2 _ _;have g3:qe K3 s = some (jy nil zs k2):=by rw [← Vp];exact qV (qt XP)
 have l12:=e1.len;have g23:qe K3 K1.length = some cf:=e3.get g2 (by simp;omega);obtain ⟨K4,q,m0,ka,w4,o4,e4,n4,ne4,tl4,b4,da4,fi4,mn4⟩:=qr0 K3 A B S (x4+1) (x5+1) (by omega) (by omega) key x (by omega);rw [← hcfd] at ka;have sl:=qbK nil zs;have sf:=qbL nil zs;have sc:=qbM nil zs;have tcf:List.take 52 cf = cf:=qP (by omega);have l2:=e2.len;have l3:=e3.len;have l4:=e4.len;have gs4:qe K4 s = some (jy nil zs k2):=e4.get g3 (by simp);have ex4:Ext [s] H K4:=((e1.trans e2 (fun j hj=>by simp at hj)).trans e3 (fun j hj=>.inl hj)).trans e4 (fun j hj=>by simp at hj);simp [-qe,-ql,-qo,-qM,Tryz.f19,kP,qN,Y6,ccf,lcf,jQ,g2,XP,sf,hn,wx,Vp,g23,tcf,ka,l3];refine KB (mkI H s nil zs q) (fun i=>5 - i) 0 (fun ex e K=>ex = .exit 0∧∃ i,mkI H s nil zs q i e K) ?_ ?_ ?_
 ·refine ⟨by omega,by simp,by simp,by simp,m0,k2,.vsl true [] 0,[],[],by simp,w4,o4,?_,fun k hk=>?_,ne4,by omega,by omega,?_,?_,fun j hj=>?_,gs4,ex4,RowA.nil _ _,rfl,fun j hj=>by simp at hj⟩
  ·rw [mn4,ne4];exact ArrOk.zero _
  ·rw [da4] at hk;simp at hk
  ·rw [da4];simp
  ·rw [fi4];simp
  ·have:=n4 j hj;omega
 ·rintro i e K ⟨hi,p0,p1,p7,m,kk,oD,oc,Lo,p8,I⟩
  have hlen:zj Tryz.prog 62 oD = some (.int .i64 i):=by
   have hol:=I.ol;rcases I.oR with ⟨hv,VD,_⟩ | ⟨ro,nn,hv,Q9,_,_⟩
   ·rw [VD] at hol;have:i = 0:=(by simp at hol;omega);rw [hv,this];simp
   ·have:nn = i:=(by omega);rw [hv,this];simp
  by_cases qi:i < 5
  ·have qq:(i:Int) < 5:=(by omega);have hmore:=qo3 nil zs kk;have hgs:=I.seq;have hset0:ql K s (jy nil zs kk) = K:=qa8 hgs;by_cases hm:kk < zs.length
   ·have htail:=qfz I.w;have htl:=I.tl;obtain ⟨n1,jf⟩:∃ n,n = m.tl+1:=⟨_,rfl⟩;have wn1:IntKind.u64.wrap ((m.tl:Int)+1) = (n1:Int):=(by rw [qF] <;> omega);obtain ⟨r,k3,hR,hrec⟩:=qo0 nil zs qQ hz kk n1 (by omega);obtain ⟨hR1,hR2,hR3,hR4,hR5⟩:=hR;have hfn:r.fields.nil = false:=Sl.nn (i:=0) (by omega);obtain ⟨K5,jP⟩:∃ T,ql K s (jy nil zs k3) = T:=⟨_,rfl⟩;have e5:Ext [s] K K5:=jP ▸ Ext.set K _ _
    have sN:∀ j,j∈m.names q→j ∉ [s]:=fun j hj hc=>by
     have:=I.new j hj;rw [List.mem_singleton.1 hc] at this;omega
    have w5:=qbe I.w e5 sN;have g5:qe K5 s = some (jy nil zs k3):=(by rw [← jP];exact qV (qt hgs));have lb2:=r.boot.h;obtain ⟨rc,Ql⟩:∃ c:List D,c = .int .u64 r.seq :: .int .u64 r.real :: .int .u64 r.mono :: (qf r.boot.l ++ [.vsl false (qk r.fields.l) r.fields.l.length]):=⟨_,rfl⟩;have hrc2:(Enc.cells r:List D) = rc:=(by rw [Rec.cells,Ql,hfn];rfl);rw [hrc2] at hrec;have lrc:rc.length = 20:=(by rw [Ql];simp [lb2]);have frc:rc.all idFree = true:=(by rw [← hrc2];exact Enc.free r);have crc:∀ n,(∀ x,x∈rc→closed n x = true) = True:=fun n=>eq_true fun x hx=>KH x (List.all_eq_true.1 frc x hx);have zrc:noZ.noZL rc = true:=Yv _ (by rw [kO];exact frc);have src:∀ n,shift.shiftL n rc = rc:=fun n=>qas n _ (by rw [kO];exact frc);have trc:List.take 20 rc = rc:=qP (by omega);obtain ⟨K6,vz⟩:∃ T,qo K5 rc = T:=⟨_,rfl⟩;have e6:Ext [] K5 K6:=vz ▸ Ext.new K5 _;have g6:qe K6 K5.length = some rc:=(by rw [← vz,qN]);have w6:=Va w5 e6;have r1:=hR2.real;have r2:=hR2.mono;unfold zH at r1 r2;obtain ⟨rn,hrn⟩:∃ n:Nat,r.real = (n:Int):=⟨r.real.toNat,by omega⟩;obtain ⟨mn,hmn⟩:∃ n:Nat,r.mono = (n:Int):=⟨r.mono.toNat,by omega⟩;have jG:=I.bl;have hda:=I.da;have Jj:=I.fi;have qH:=I.ne;obtain ⟨K7,m',happ,E⟩:=qsp w6 I.ok I.main I.cn r.fields.l hR3 hR4 hR5 rn mn (by omega) (by omega) r.boot (by omega) (by omega) (by omega) (by omega) (by omega);rw [← hrn,← hmn] at happ;have d1:List.drop 1 rc = .int .u64 r.real :: List.drop 2 rc:=(by rw [Ql];rfl);have d2:List.drop 2 rc = .int .u64 r.mono :: List.drop 3 rc:=(by rw [Ql];rfl);have d3:List.take 16 (List.drop 3 rc) = qf r.boot.l:=(by rw [Ql];simp [lb2]);have d19:List.drop 19 rc = [.vsl false (qk r.fields.l) r.fields.l.length]:=(by rw [Ql];simp [lb2]);have hKl:K.length = K5.length:=(by rw [← jP,kN]);have hN5:∀ j,j∈m.names q→j < K5.length:=fun j hj=>Yx w5 hj;have g7:qe K7 K5.length = some rc:=E.ext.get g6 (fun hc=>by have:=hN5 _ hc;omega);obtain ⟨K8,Jo⟩:∃ T,qo K7 rc = T:=⟨_,rfl⟩;have e8:Ext [] K7 K8:=Jo ▸ Ext.new K7 _;have g8:qe K8 K7.length = some rc:=(by rw [← Jo,qN]);have hol:=I.ol
    have oLn:∀ j,j∈Lo→j ∉ [s]:=fun j hj hc=>by
     have:=(I.oN j hj).2;rw [List.mem_singleton.1 hc] at this;omega
    have oR8:=(((I.oR.ext e5 oLn).ext e6 (fun _ _=>by simp)).ext E.ext (fun j hj=>(I.oN j hj).1)).ext e8 (fun _ _=>by simp);obtain ⟨oD',K9,Lo',hA9,hR9,e9,n9⟩:=oR8.append (P:=Tryz.prog) (st:=62) (xt:=62) (e:=109) (x:=.osl K7.length 20 0 1 20) (xs:=rc) (m:=1) (by simp) (by simp) (by simp [-qe,g8,lrc,trc]) (by simp) (by omega) (by rw [lrc]) (by omega) (by simp [qw];omega) (by simp [qw];omega);have hK7ne:K7≠[]:=fun e0=>by have:=qt g7;rw [e0] at this;simp at this
    simp [-qe,-ql,-qo,-qM,-zj,p0,p1,p7,p8,hlen,qq,hgs,sf,hmore,hm,hset0,htail,wn1,hrec,jP,qN,Y6,crc,lrc,vz,g6,d1,d2,d3,d19,happ,g7,trc,Jo,hA9,hK7ne,zrc,src];have hHK:=I.ext.len;have hK56:=e6.len;have hK67:=E.ext.len;have hK78:=e8.len;have loK:∀ j,j∈Lo→j < K.length:=fun j hj=>I.oR.lt hj
    have nLo:∀ j,j∈m'.names q→j ∉ Lo:=fun j hj hc=>by
     rcases E.new j hj with h1 | h1
     ·exact (I.oN j hc).1 h1
     ·have:=loK j hc;omega
    have sm:s ∉ m.names q:=fun hc=>by have:=I.new s hc;omega
    refine ⟨i+1,by omega,by omega,by simp,by simp,by simp,m',k3,oD',oc ++ rc,Lo',by simp,?_,E.ok,E.main,E.cn,?_,?_,?_,?_,?_,fun j hj=>?_,?_,?_,hR9,?_,fun j hj=>?_⟩
    ·exact qbe (Va E.w e8) e9 nLo
    ·have:=E.ne;omega
    ·have:=E.tl;omega
    ·have:=E.bl;omega
    ·have:=E.da;omega
    ·have:=E.fi;omega
    ·rcases E.new j hj with h1 | h1
     ·exact I.new j h1
     ·omega
    ·exact e9.get (e8.get (E.ext.get (e6.get g5 (by simp)) sm) (by simp)) (fun hc=>oLn s hc (by simp))
    ·have z1:=(I.ext.trans e5 (fun j hj=>.inl hj)).trans e6 (fun j hj=>by simp at hj);have z2:=z1.trans E.ext (fun j hj=>.inr (I.new j hj));have z3:=z2.trans e8 (fun j hj=>by simp at hj);exact z3.trans e9 (fun j hj=>.inr (I.oN j hj).2)
    ·rw [qX,hol,lrc];omega
    ·rcases n9 j hj with h1 | h1
     ·exact ⟨fun hc=>nLo j hc h1,(I.oN j h1).2⟩
     ·exact ⟨fun hc=>by have:=Yx E.w hc;omega,by omega⟩
   ·simp [-qe,-ql,-qo,-qM,-zj,p0,p1,p7,p8,hlen,qq,hgs,sf,hmore,hm,hset0];exact ⟨i,hi,by simp,by simp,by simp,m,kk,oD,oc,Lo,by simp,I⟩
  ·have qq:¬ (i:Int) < 5:=(by omega);simp [-qe,-ql,-qo,-qM,-zj,p0,p1,p7,p8,hlen,qq];exact ⟨i,hi,by simp,by simp,by simp,m,kk,oD,oc,Lo,by simp,I⟩
 ·rintro ex e K ⟨rfl,i,hi,p0,p1,p7,m,kk,oD,oc,Lo,p8,I⟩;simp [-qe,-ql,-qo,-qM,-zj,p7,p8];exact ⟨_,_,⟨rfl,rfl⟩,m,I.w,I.ok,by have:=I.bl;omega,I.ext,I.new⟩
theorem qfY (k:Nat) (h:k < 16):List.take 1 (List.drop k JL) = [jC k]:=by
 have:∀ k,k < 16→List.take 1 (List.drop k JL) = [jC k]:=by decide
 exact this k h
set_option maxHeartbeats 2000000 in
theorem qne [MaxL] [TxtC] (l:List UInt8) (hl:l.length = 16):call cx 45 [.agg (qf l)] [] = some (.str (zI l),[]):=by
 refine qA Tryz.func45 rfl ⟨rfl,rfl⟩ ?_;simp [Tryz.f45,hl];refine Run.loopThen (fun (k:Nat) e H'=>k≤16∧qg e 1 = some (.optr 0 16 0)∧qg e 3 = some (.str (zI (l.take k)))∧qg e 4 = some (.int .i64 k)∧H' = [some (qf l)]) (fun k=>16 - k) 0 ?_ ?_
 ·simp [zI]
 rintro k e H' ⟨hk,k1,k3,k4,rfl⟩;by_cases qi:k < 16
 ·have qq:(k:Int) < 16:=by omega
  have XE:k < l.length:=by omega
  have hw:IntKind.i64.wrap ((k:Int)+1) = ((k+1:Nat):Int):=by rw [wrap_i64] <;> omega
  have zC:=jK XE;have VT:=qjg XE;have hb:=l[k].toNat_lt;have hlen:(zI (l.take k)).length = 2 * k:=by rw [qa9,kt];omega
  generalize l[k] = b at *;have d1:=qfY (b.toNat / 16) (by omega);have d2:=qfY (b.toNat % 16) (by omega);generalize jC (b.toNat / 16) = c1 at *;generalize jC (b.toNat % 16) = c2 at *;obtain ⟨m1,jl⟩:∃ m,m = b.toNat / 16:=⟨_,rfl⟩;obtain ⟨m2,qW⟩:∃ m,m = b.toNat % 16:=⟨_,rfl⟩;rw [← jl] at d1;rw [← qW] at d2;have q1:IntKind.u8.wrap ((b.toNat:Int) / 16) = (m1:Int):=by rw [ZV] <;> omega
  have q2:(b.toNat:Int).tmod 16 = (m2:Int):=by rw [qW];exact (Int.ofNat_tmod b.toNat 16).symm
  have w1:IntKind.u8.wrap ((m1:Int)+1) = ((m1+1:Nat):Int):=by rw [ZV] <;> omega
  have w2:IntKind.u8.wrap ((m2:Int)+1) = ((m2+1:Nat):Int):=by rw [ZV] <;> omega
  have t1:m1≤15:=by omega
  have t2:m2≤15:=by omega
  have n1:((m1:Int)+1).toNat = m1+1:=by omega
  have n2:((m2:Int)+1).toNat = m2+1:=by omega
  have u1:(m1:Int)+1≤16:=by omega
  have u2:(m2:Int)+1≤16:=by omega
  have v1:(0:Int)≤(m1:Int)+1:=by omega
  have v2:(0:Int)≤(m2:Int)+1:=by omega
  have y1:(m1:Int)≤(m1:Int)+1:=by omega
  have y2:(m2:Int)≤(m2:Int)+1:=by omega
  simp only [JL] at d1 d2;generalize zI (l.take k) = X at *;have x1:X.length+1≤4611686018427387904:=by omega
  have x2:X.length+1+1≤4611686018427387904:=by omega
  simp [k1,k3,k4,qq,hw,zC,hl,q1,q2,w1,w2,d1,d2,n1,n2,u1,u2,v1,v2,x1,x2,y1,y2];exact ⟨k+1,by omega,by omega,by rw [VT],by omega⟩
 ·have qq:¬ (k:Int) < 16:=by omega
  have hke:k = 16:=by omega
  subst hke;have vD:l.take 16 = l:=qP (by omega);rw [vD] at k3;simp [k1,k3,k4]
set_option maxHeartbeats 2000000 in
theorem qh5 [MaxL] [TxtC] (v:Nat) (hv:v < 18446744073709551616):call cx 46 [.int .u64 v] [] = some (.str (Kj 16 v),[]):=by
 refine qA Tryz.func46 rfl ⟨rfl,rfl⟩ ?_;obtain ⟨r,hr⟩:∃ r,Kj 16 v = r:=⟨_,rfl⟩;rw [hr];simp [Tryz.f46];refine Run.loopThen (fun (q:Nat × Nat × List UInt8) e H'=>q.1≤16∧q.2.1 < 18446744073709551616∧q.2.2.length = q.1∧Kj (16 - q.1) q.2.1 ++ q.2.2 = r∧qg e 0 = some (.int .u64 (q.2.1:Nat))∧qg e 3 = some (.str q.2.2)∧qg e 4 = some (.int .i64 (q.1:Nat))∧H' = []) (fun q=>16 - q.1) (0,v,[]) ?_ ?_
 ·simp [hr,hv]
 rintro ⟨k,u,w⟩ e H' ⟨hk,hu,km,hR,k0,k3,k4,rfl⟩;simp only at hk hu km hR k0 k3 k4;by_cases qi:k < 16
 ·have qq:(k:Int) < 16:=by omega
  have hw:IntKind.i64.wrap ((k:Int)+1) = ((k+1:Nat):Int):=by rw [wrap_i64] <;> omega
  obtain ⟨m,hm⟩:∃ m,16 - k = m+1:=⟨15 - k,by omega⟩;rw [hm,Kj] at hR;have d1:=qfY (u % 16) (by omega);generalize jC (u % 16) = c1 at *;obtain ⟨m1,jl⟩:∃ m1,m1 = u % 16:=⟨_,rfl⟩;rw [← jl] at d1;have q2:(u:Int).tmod 16 = (m1:Int):=by rw [jl];exact (Int.ofNat_tmod u 16).symm
  obtain ⟨u',hu'⟩:∃ u',u' = u / 16:=⟨_,rfl⟩;rw [← hu'] at hR;have q1:IntKind.u64.wrap ((u:Int) / 16) = (u':Int):=by rw [qF] <;> omega
  have w1:IntKind.u64.wrap ((m1:Int)+1) = (m1:Int)+1:=by rw [qF];omega
  have t1:m1≤15:=by omega
  have n1:((m1:Int)+1).toNat = m1+1:=by omega
  have u1:(m1:Int)+1≤16:=by omega
  have v1:(0:Int)≤(m1:Int)+1:=by omega
  have y1:(m1:Int)≤(m1:Int)+1:=by omega
  have x1:1+w.length≤4611686018427387904:=by omega
  have x2:w.length+1≤4611686018427387904:=by omega
  simp only [JL] at d1;simp [k0,k3,k4,qq,hw,q1,q2,w1,d1,n1,u1,v1,y1,x1];exact ⟨k+1,by omega,by omega,u',by omega,c1 :: w,by simp [km],by rw [show 16 - (k+1) = m by omega,← hR];simp,rfl,rfl,by omega⟩
 ·have qq:¬ (k:Int) < 16:=by omega
  have hke:k = 16:=by omega
  subst hke;simp only [Nat.sub_self,Kj,JP] at hR;subst hR;simp [k0,k3,k4]
set_option maxHeartbeats 4000000 in
theorem qnd [MaxL] [TxtC] (i:Inf) (h:InfOk i) (hk:i.kind = 1∨i.kind = 2∨i.kind = 3∨i.kind = 4):call cx 16 [.agg (Enc.cells i)] [] = some (.str (jY i),[]):=by
 obtain ⟨kd,sq,hd,rl⟩:=i;obtain ⟨w1,w2⟩:=h;simp only at hk w1 w2;unfold zH at w1 w2;unfold jY;simp only;have e1:((hd.toNat:Nat):Int) = hd:=by omega
 have e2:((rl.toNat:Nat):Int) = rl:=by omega
 have h1:=qne sq.l sq.h;have h3:=qh5 hd.toNat (by omega);have h4:=qh5 rl.toNat (by omega);rw [← qjE (by omega),e1] at h3;rw [← qjE (by omega),e2] at h4;have l1:=qa9 sq.l;have l2:=qbo hd.toNat;have l3:=qbo rl.toNat;rw [sq.h] at l1;simp only [vA,V2];generalize zI sq.l = a1 at *;generalize vO hd.toNat = a2 at *;generalize vO rl.toNat = a3 at *;clear e1 e2 w1 w2;have h18:List.drop 17 (qf sq.l ++ [D.int .u64 hd,D.int .u64 rl]) = [D.int .u64 rl]:=by simp [zk,jE]
 obtain ⟨s1,es1⟩:∃ s,s = aheadL ++ a1:=⟨_,rfl⟩;have ls1:s1.length = aheadL.length+a1.length:=by rw [es1,qX]
 obtain ⟨s2,es2⟩:∃ s,s = s1 ++ dsh:=⟨_,rfl⟩;have ls2:s2.length = s1.length+dsh.length:=by rw [es2,qX]
 obtain ⟨s3,es3⟩:∃ s,s = s2 ++ a2:=⟨_,rfl⟩;have ls3:s3.length = s2.length+a2.length:=by rw [es3,qX]
 obtain ⟨s4,es4⟩:∃ s,s = s3 ++ dsh:=⟨_,rfl⟩;have ls4:s4.length = s3.length+dsh.length:=by rw [es4,qX]
 obtain ⟨s5,es5⟩:∃ s,s = s4 ++ a3:=⟨_,rfl⟩;have ls5:s5.length = s4.length+a3.length:=by rw [es5,qX]
 obtain ⟨s6,es6⟩:∃ s,s = s5 ++ behindL:=⟨_,rfl⟩;have ls6:s6.length = s5.length+behindL.length:=by rw [es6,qX]
 simp only [aheadL,dsh,behindL,ju,jR] at ls1 ls2 ls3 ls4 ls5 ls6;have cs1:=Vt es1 (by (try simp only [aheadL,ju,jR]);omega);have cs2:=Vt es2 (by (try simp only [dsh,ju,jR]);omega);have cs3:=Vt es3 (by (try simp only [aheadL,dsh,behindL,ju,jR]);omega);have cs4:=Vt es4 (by (try simp only [dsh,ju,jR]);omega);have cs5:=Vt es5 (by (try simp only [aheadL,dsh,behindL,ju,jR]);omega);have cs6:=Vt es6 (by (try simp only [behindL,ju,jR]);omega);simp only [aheadL,dsh,behindL] at cs1 cs2 cs3 cs4 cs5 cs6
 have JB:aheadL ++ (a1 ++ 45 :: (a2 ++ 45 :: a3) ++ behindL) = s6:=by
  simp [es6,es5,es4,es3,es2,es1,dsh]
 rw [JB];have cs7:Go.Ev.QH BinOp.add s6 [126] = some (.str (s6 ++ [126])):=Vt rfl (by simp only [ju,jR];omega);clear JB es1 es2 es3 es4 es5 es6 ls1 ls2 ls3 ls4 ls5 ls6 l1 l2 l3;rcases hk with rfl | rfl | rfl | rfl
 ·refine qA Tryz.func16 rfl ⟨rfl,rfl⟩ ?_;simp [Tryz.f16,Inf.cells,qaK]
 ·refine qA Tryz.func16 rfl ⟨rfl,rfl⟩ ?_;simp [Tryz.f16,Inf.cells,h18,h1,h3,h4,-Go.Ev.QH,cs1,cs2,cs3,cs4,cs5,cs6]
 ·refine qA Tryz.func16 rfl ⟨rfl,rfl⟩ ?_;simp [Tryz.f16,Inf.cells,h18,h1,h3,h4,-Go.Ev.QH,cs1,cs2,cs3,cs4,cs5,cs6,cs7]
 ·refine qA Tryz.func16 rfl ⟨rfl,rfl⟩ ?_;simp [Tryz.f16,Inf.cells,qaZ]
end Go.Ev.S
namespace Go.Ev
open Go Go.Proofs
theorem qln {a b:Nat} (ha:a < 256) (hb:b < 256):zi .u8 (a:Int) (b:Int) = ((a ^^^ b:Nat):Int):=by
 have h:a ^^^ b < 2 ^ 8:=Nat.xor_lt_two_pow (n:=8) ha hb;unfold zi;show IntKind.u8.wrap ((BitVec.ofInt 8 (a:Int) ^^^ BitVec.ofInt 8 (b:Int)).toNat:Int) = _;rw [qet,qet,BitVec.toNat_xor,qes,qes,qc8 ha,qc8 hb,ZV];omega
end Go.Ev
namespace Go.Ev.S
open Go Go.Proofs Go.Ev
theorem qoD [MaxL] [TxtC] (s:Sl UInt8) (h2:s.l.length≤1000000):call cx 54 [(.vsl s.nil (qf s.l) s.l.length)] [] = some (.osl 0 s.l.length 0 s.l.length 1,[some (qf s.l)]):=by
 have hm:s.l.length≤140737488355328:=by omega
 refine qA Tryz.func54 rfl ⟨rfl,rfl⟩ ?_;simp [Tryz.f54,qw,hm]
theorem qoc {o:List UInt8} {j:Nat} (h:j < o.length) {x:Nat} (hx:x < 256):List.take j (qf o) ++ D.int .u8 (x:Int) :: List.drop (j+1) (qf o) = qf (o.set j (UInt8.ofNat x)):=by
 rw [qle,if_pos h,qaW,qii,qfj,qih,qej hx]
def qkY (b:List UInt8) (q:D × qd):Prop:= ∃ o:List UInt8,o.length = b.length∧q = (.vsl false (qf o) o.length,[])
set_option maxHeartbeats 2000000 in
theorem qmd [MaxL] [TxtC] (b:Sl UInt8) (hb:b.l.length≤100000) (nil:Bool) (zs:List Int) (qQ:nil = true→zs = []) (hz:zs.length≤1000000) (y:UInt8):∃ q,call cx 20 [(.vsl b.nil (qf b.l) b.l.length),.vsl nil (Vc .i64 zs) zs.length,.int .u8 y.toNat] [] = some q∧qkY b.l q:=by
 refine Jt (X:=cx) (f:=20) (args:=[(.vsl b.nil (qf b.l) b.l.length),.vsl nil (Vc .i64 zs) zs.length,.int .u8 y.toNat]) (H:=[]) (qkY b.l) Tryz.func20 rfl ⟨rfl,rfl⟩ ?_;have c1:=qoD b (by omega);simp [Tryz.f20,c1];refine Run.loopThen (fun (q:Nat × List UInt8) e H'=>q.1≤zs.length∧q.2.length = b.l.length∧H' = [some (qf q.2)]∧qg e 1 = some (.vsl nil (Vc .i64 zs) zs.length)∧qg e 2 = some (.int .u8 (y.toNat:Nat))∧qg e 7 = some (.osl 0 b.l.length 0 b.l.length 1)∧qg e 8 = some (.int .i64 (q.1:Nat))) (fun q=>zs.length - q.1) (0,b.l) ⟨vf _,rfl,by simp,by simp,by simp,by simp,by simp⟩ ?_;rintro ⟨k,o⟩ e H' ⟨hk,ho,rfl,k1,k2,k7,k8⟩;simp only at hk ho k8;by_cases qi:k < zs.length
 ·have qq:(k:Int) < (zs.length:Int):=by omega
  have jZ:nil = false:=by
   cases nil with
   | false=>rfl
   | true=>rw [qQ rfl] at qi;exact absurd qi (Nat.not_lt_zero _)
  have hw:IntKind.i64.wrap ((k:Int)+1) = ((k+1:Nat):Int):=by rw [wrap_i64] <;> omega
  have zC:=qiS (k:=.i64) qi;by_cases h0:0 < b.l.length
  ·obtain ⟨j,hj,c2⟩:=qfm zs[k] b.l.length (by omega) (by omega);have hjo:j < o.length:=(by omega);have hx:=qln (a:=o[j].toNat) (b:=y.toNat) (UInt8.toNat_lt _) (UInt8.toNat_lt _);have hat2:=jK hjo;have hjb:j < b.l.length:=(by omega);have Qp:j+1≤b.l.length:=(by omega);have hput:=qoc hjo (x:=o[j].toNat ^^^ y.toNat) (Nat.xor_lt_two_pow (n:=8) (UInt8.toNat_lt _) (UInt8.toNat_lt _));simp [k1,k2,k7,k8,qq,hw,zC,jZ,h0,c2,hx,hat2,hjb,ho,Qp,hput];exact ⟨k+1,by omega,by omega,_,by simp [ho],rfl,by omega⟩
  ·have hl0:b.l.length = 0:=(by omega);have ho0:o = []:=qak (by omega);subst ho0;simp [k1,k2,k7,k8,qq,hl0];exact ⟨[],by rw [hl0];rfl,rfl⟩
 ·have qq:¬ (k:Int) < (zs.length:Int):=by omega
  have vD:List.take b.l.length (qf o) = qf o:=qP (by simp [ho]);simp [k1,k2,k7,k8,qq,vD,ho];exact ⟨o,ho,by rw [ho]⟩
theorem J1 (n:Nat):∀ l:List D,mv.mvL [] n l = l.map (mv [] n)
 | []=>rfl
 | d :: l=>by rw [mv.mvL,J1 n l];rfl
theorem qfr (n j:Nat):kj [] n j = n+j:=by simp [kj]
theorem qdB (H:qd) {T:qd} {i:Nat} {ds:List D} (h:qe T i = some ds):qe (H ++ T.map (JY [] H.length)) (H.length+i) = some (ds.map (mv [] H.length)):=by
 have hl:=qt h
 have h1:T[i]? = some (some ds):=by
  unfold qe at h;rw [qU hl] at h ⊢;simp only [Zw] at h;rw [h]
 unfold qe;rw [ku (by omega),show H.length+i - H.length = i by omega,Zc,h1];simp only [zT,Zw,JY,J1]
theorem qhz (H:qd) {T:qd} {k:Nat} {v:D} {cs:List D} {L:List Nat} (h:RowA T k v cs L):RowA (H ++ T.map (JY [] H.length)) k (mv [] H.length v) (cs.map (mv [] H.length)) (L.map (H.length+·)):=by
 rcases h with ⟨rfl,rfl,rfl⟩ | ⟨r,n,rfl,h2,h3,rfl⟩
 ·exact .inl ⟨rfl,rfl,rfl⟩
 ·refine .inr ⟨H.length+r,n,?_,by rw [List.length_map];exact h2,qdB H h3,rfl⟩;simp [mv,qfr]
def FSv.mvd (v:FSv) (n:Nat):FSv:=⟨v.nd.map fun x=>(n+x.1,n+x.2),mv [] n v.nv,mv [] n v.pv,v.pc.map (mv [] n),v.Ln.map (n+·),v.Lp.map (n+·)⟩
theorem qow (v:FSv) (n:Nat):(v.ptrs).map (mv [] n) = (FSv.mvd v n).ptrs:=by
 unfold FSv.ptrs FSv.mvd;simp only [List.map_map];apply List.map_congr_left;intro x _;simp [mv,qfr]
theorem qj3 (H:qd) {T:qd} {q:Nat} {s:Fs} {v:FSv} (h:FSw T q s v):FSw (H ++ T.map (JY [] H.length)) (H.length+q) s (FSv.mvd v H.length):=by
 obtain ⟨f,hf⟩:=h.ty;refine ⟨?_,?_,qhz H h.pend,by rw [← h.len];exact List.length_map _,fun i n x h1 h2=>?_,fun i=>f (i - H.length),?_⟩
 ·rw [qdB H h.root];rfl
 ·have:=qhz H h.row;rw [qow] at this;exact this
 ·simp only [FSv.mvd,Zc] at h2;cases hy:v.nd[i]? with
  | none=>rw [hy] at h2;simp at h2
  | some y =>
   rw [hy] at h2;simp only [zT,qs] at h2;obtain ⟨a1,a2⟩:=h.node i n y h1 hy;subst h2;refine ⟨?_,?_⟩
   ·rw [qdB H a1];simp [Nd.cells,mv,qfr]
   ·rw [qdB H a2];rfl
 ·refine ⟨by rw [show H.length+q - H.length = q by omega];exact hf.root,fun i hi=>?_,fun i hi=>?_,fun j x hx=>?_⟩
  ·simp only [FSv.mvd,kI] at hi;obtain ⟨a,ha,rfl⟩:=hi;rw [show H.length+a - H.length = a by omega];exact hf.row a ha
  ·simp only [FSv.mvd,kI] at hi;obtain ⟨a,ha,rfl⟩:=hi;rw [show H.length+a - H.length = a by omega];exact hf.pend a ha
  ·simp only [FSv.mvd,Zc] at hx;cases hy:v.nd[j]? with
   | none=>rw [hy] at hx;simp at hx
   | some y =>
    rw [hy] at hx;simp only [zT,qs] at hx;have:=hf.node j y hy;subst hx;simp only;rw [show H.length+y.1 - H.length = y.1 by omega,show H.length+y.2 - H.length = y.2 by omega];exact this
theorem qoy (v:FSv) (n q i:Nat) (h:i∈FSv.names (FSv.mvd v n) (n+q)):n≤i:=by
 simp only [FSv.names,FSv.mvd,zA,ji,kI,List.map_map] at h;rcases h with rfl | ⟨a,_,rfl⟩ | ⟨a,_,rfl⟩ | ⟨a,_,rfl⟩ | ⟨a,_,rfl⟩
 all_goals first | omega | (simp only [Function.comp];omega)
theorem qox (v:FSv) (n:Nat):(FSv.mvd v n).pc.length = v.pc.length:=by simp [FSv.mvd]
theorem qjJ (H T:qd):Ext [] H (H ++ T.map (JY [] H.length)):=Ext.app _ _
end Go.Ev.S
namespace Go.Ev
open Go Go.Proofs
structure I6 where
 v:Int
instance:Enc I6:=⟨1,fun x=>[.int .i64 x.v],fun _=>rfl,fun _=>rfl⟩
theorem I6.cells (x:I6):Enc.cells x = [.int .i64 x.v]:=rfl
@[simp] theorem I6.size:Enc.size I6 = 1:=rfl
@[simp] theorem I6.cl (a:I6):(Enc.cells a).length = 1:=Enc.len a
@[simp] theorem I6.ct (a:I6) (r:List D):(Enc.cells a ++ r).take 1 = Enc.cells a:=ZN rfl a r
@[simp] theorem I6.ct' (a:I6):(Enc.cells a).take 1 = Enc.cells a:=ZM rfl a
@[simp] theorem I6.cd (a:I6) (r:List D):(Enc.cells a ++ r).drop 1 = r:=ZO rfl a r
@[simp] theorem I6.el (l:List I6):(qk l).length = l.length * 1:=ZJ rfl l
@[simp] theorem I6.ed (l:List I6) (i:Nat):(qk l).drop (i * 1) = qk (l.drop i):=QV rfl l i
@[simp] theorem I6.et (l:List I6) (i:Nat):(qk l).take (i * 1) = qk (l.take i):=QU rfl l i
@[simp high] theorem I6.ea {l:List I6} {i:Nat} (h:i < l.length):(qk l).drop (i * 1) = Enc.cells l[i] ++ qk (l.drop (i+1)):=QD rfl h
@[simp high] theorem I6.es (m:I6) {l:List I6} {j:Nat} (h:j < l.length):qC (qk l) (j * 1) (Enc.cells m) = qk (l.set j m):=Qu rfl m l h
theorem qu5 (l:List I6):qk l = Vc .i64 (l.map (·.v)):=by
 unfold Vc
 induction l with
 | nil=>rfl
 | cons a l ih=>rw [Kk,ih];rfl
structure DoI where
 kind:Int
 epoch:Int
 number:Int
 ln:Sl I6
 ats:Sl I6
 byv:Int
 b:Sl UInt8
instance:Enc DoI:=⟨7,fun m=>(.int .i64 m.kind :: (.int .i64 m.epoch :: (.int .i64 m.number :: ((.vsl m.ln.nil (qk m.ln.l) m.ln.l.length) :: ((.vsl m.ats.nil (qk m.ats.l) m.ats.l.length) :: (.int .u8 m.byv :: ((.vsl m.b.nil (qf m.b.l) m.b.l.length) :: ([]:List D)))))))),fun m=>by simp,fun m=>by simp [idFree]⟩
theorem DoI.cells (m:DoI):Enc.cells m = (.int .i64 m.kind :: (.int .i64 m.epoch :: (.int .i64 m.number :: ((.vsl m.ln.nil (qk m.ln.l) m.ln.l.length) :: ((.vsl m.ats.nil (qk m.ats.l) m.ats.l.length) :: (.int .u8 m.byv :: ((.vsl m.b.nil (qf m.b.l) m.b.l.length) :: ([]:List D)))))))):=rfl
@[simp] theorem DoI.size:Enc.size DoI = 7:=rfl
@[simp] theorem DoI.cl (a:DoI):(Enc.cells a).length = 7:=Enc.len a
@[simp] theorem DoI.ct (a:DoI) (r:List D):(Enc.cells a ++ r).take 7 = Enc.cells a:=ZN rfl a r
@[simp] theorem DoI.ct' (a:DoI):(Enc.cells a).take 7 = Enc.cells a:=ZM rfl a
@[simp] theorem DoI.cd (a:DoI) (r:List D):(Enc.cells a ++ r).drop 7 = r:=ZO rfl a r
@[simp] theorem DoI.el (l:List DoI):(qk l).length = l.length * 7:=ZJ rfl l
@[simp] theorem DoI.ed (l:List DoI) (i:Nat):(qk l).drop (i * 7) = qk (l.drop i):=QV rfl l i
@[simp] theorem DoI.et (l:List DoI) (i:Nat):(qk l).take (i * 7) = qk (l.take i):=QU rfl l i
@[simp high] theorem DoI.ea {l:List DoI} {i:Nat} (h:i < l.length):(qk l).drop (i * 7) = Enc.cells l[i] ++ qk (l.drop (i+1)):=QD rfl h
@[simp high] theorem DoI.es (m:DoI) {l:List DoI} {j:Nat} (h:j < l.length):qC (qk l) (j * 7) (Enc.cells m) = qk (l.set j m):=Qu rfl m l h
@[simp] theorem DoI.g0 (m:DoI) (h):(Enc.cells m)[0]'h = .int .i64 m.kind:=by simp [DoI.cells]
@[simp] theorem DoI.q0 (m:DoI):(Enc.cells m)[0]? = some (.int .i64 m.kind):=by simp [DoI.cells]
@[simp] theorem DoI.s0 (m:DoI) (x:Int):qC (Enc.cells m) 0 [.int .i64 x] = Enc.cells { m with kind:=x }:=by simp [DoI.cells]
@[simp] theorem DoI.d1 (m:DoI):(Enc.cells m).drop 1 = (.int .i64 m.epoch :: (.int .i64 m.number :: ((.vsl m.ln.nil (qk m.ln.l) m.ln.l.length) :: ((.vsl m.ats.nil (qk m.ats.l) m.ats.l.length) :: (.int .u8 m.byv :: ((.vsl m.b.nil (qf m.b.l) m.b.l.length) :: ([]:List D))))))):=by simp [DoI.cells]
@[simp] theorem DoI.d1' (m:DoI) (r:List D):(Enc.cells m ++ r).drop 1 = (.int .i64 m.epoch :: (.int .i64 m.number :: ((.vsl m.ln.nil (qk m.ln.l) m.ln.l.length) :: ((.vsl m.ats.nil (qk m.ats.l) m.ats.l.length) :: (.int .u8 m.byv :: ((.vsl m.b.nil (qf m.b.l) m.b.l.length) :: ([]:List D))))))) ++ r:=by simp [DoI.cells]
@[simp] theorem DoI.g1 (m:DoI) (h):(Enc.cells m)[1]'h = .int .i64 m.epoch:=by simp [DoI.cells]
@[simp] theorem DoI.q1 (m:DoI):(Enc.cells m)[1]? = some (.int .i64 m.epoch):=by simp [DoI.cells]
@[simp] theorem DoI.s1 (m:DoI) (x:Int):qC (Enc.cells m) 1 [.int .i64 x] = Enc.cells { m with epoch:=x }:=by simp [DoI.cells]
@[simp] theorem DoI.d2 (m:DoI):(Enc.cells m).drop 2 = (.int .i64 m.number :: ((.vsl m.ln.nil (qk m.ln.l) m.ln.l.length) :: ((.vsl m.ats.nil (qk m.ats.l) m.ats.l.length) :: (.int .u8 m.byv :: ((.vsl m.b.nil (qf m.b.l) m.b.l.length) :: ([]:List D)))))):=by simp [DoI.cells]
@[simp] theorem DoI.d2' (m:DoI) (r:List D):(Enc.cells m ++ r).drop 2 = (.int .i64 m.number :: ((.vsl m.ln.nil (qk m.ln.l) m.ln.l.length) :: ((.vsl m.ats.nil (qk m.ats.l) m.ats.l.length) :: (.int .u8 m.byv :: ((.vsl m.b.nil (qf m.b.l) m.b.l.length) :: ([]:List D)))))) ++ r:=by simp [DoI.cells]
@[simp] theorem DoI.g2 (m:DoI) (h):(Enc.cells m)[2]'h = .int .i64 m.number:=by simp [DoI.cells]
@[simp] theorem DoI.q2 (m:DoI):(Enc.cells m)[2]? = some (.int .i64 m.number):=by simp [DoI.cells]
@[simp] theorem DoI.s2 (m:DoI) (x:Int):qC (Enc.cells m) 2 [.int .i64 x] = Enc.cells { m with number:=x }:=by simp [DoI.cells]
@[simp] theorem DoI.d3 (m:DoI):(Enc.cells m).drop 3 = ((.vsl m.ln.nil (qk m.ln.l) m.ln.l.length) :: ((.vsl m.ats.nil (qk m.ats.l) m.ats.l.length) :: (.int .u8 m.byv :: ((.vsl m.b.nil (qf m.b.l) m.b.l.length) :: ([]:List D))))):=by simp [DoI.cells]
@[simp] theorem DoI.d3' (m:DoI) (r:List D):(Enc.cells m ++ r).drop 3 = ((.vsl m.ln.nil (qk m.ln.l) m.ln.l.length) :: ((.vsl m.ats.nil (qk m.ats.l) m.ats.l.length) :: (.int .u8 m.byv :: ((.vsl m.b.nil (qf m.b.l) m.b.l.length) :: ([]:List D))))) ++ r:=by simp [DoI.cells]
@[simp] theorem DoI.g3 (m:DoI) (h):(Enc.cells m)[3]'h = (.vsl m.ln.nil (qk m.ln.l) m.ln.l.length):=by simp [DoI.cells]
@[simp] theorem DoI.q3 (m:DoI):(Enc.cells m)[3]? = some ((.vsl m.ln.nil (qk m.ln.l) m.ln.l.length)):=by simp [DoI.cells]
@[simp] theorem DoI.s3 (m:DoI) (x:Sl I6):qC (Enc.cells m) 3 [(.vsl x.nil (qk x.l) x.l.length)] = Enc.cells { m with ln:=x }:=by simp [DoI.cells]
@[simp] theorem DoI.d4 (m:DoI):(Enc.cells m).drop 4 = ((.vsl m.ats.nil (qk m.ats.l) m.ats.l.length) :: (.int .u8 m.byv :: ((.vsl m.b.nil (qf m.b.l) m.b.l.length) :: ([]:List D)))):=by simp [DoI.cells]
@[simp] theorem DoI.d4' (m:DoI) (r:List D):(Enc.cells m ++ r).drop 4 = ((.vsl m.ats.nil (qk m.ats.l) m.ats.l.length) :: (.int .u8 m.byv :: ((.vsl m.b.nil (qf m.b.l) m.b.l.length) :: ([]:List D)))) ++ r:=by simp [DoI.cells]
@[simp] theorem DoI.g4 (m:DoI) (h):(Enc.cells m)[4]'h = (.vsl m.ats.nil (qk m.ats.l) m.ats.l.length):=by simp [DoI.cells]
@[simp] theorem DoI.q4 (m:DoI):(Enc.cells m)[4]? = some ((.vsl m.ats.nil (qk m.ats.l) m.ats.l.length)):=by simp [DoI.cells]
@[simp] theorem DoI.s4 (m:DoI) (x:Sl I6):qC (Enc.cells m) 4 [(.vsl x.nil (qk x.l) x.l.length)] = Enc.cells { m with ats:=x }:=by simp [DoI.cells]
@[simp] theorem DoI.d5 (m:DoI):(Enc.cells m).drop 5 = (.int .u8 m.byv :: ((.vsl m.b.nil (qf m.b.l) m.b.l.length) :: ([]:List D))):=by simp [DoI.cells]
@[simp] theorem DoI.d5' (m:DoI) (r:List D):(Enc.cells m ++ r).drop 5 = (.int .u8 m.byv :: ((.vsl m.b.nil (qf m.b.l) m.b.l.length) :: ([]:List D))) ++ r:=by simp [DoI.cells]
@[simp] theorem DoI.g5 (m:DoI) (h):(Enc.cells m)[5]'h = .int .u8 m.byv:=by simp [DoI.cells]
@[simp] theorem DoI.q5 (m:DoI):(Enc.cells m)[5]? = some (.int .u8 m.byv):=by simp [DoI.cells]
@[simp] theorem DoI.s5 (m:DoI) (x:Int):qC (Enc.cells m) 5 [.int .u8 x] = Enc.cells { m with byv:=x }:=by simp [DoI.cells]
@[simp] theorem DoI.d6 (m:DoI):(Enc.cells m).drop 6 = ((.vsl m.b.nil (qf m.b.l) m.b.l.length) :: ([]:List D)):=by simp [DoI.cells]
@[simp] theorem DoI.d6' (m:DoI) (r:List D):(Enc.cells m ++ r).drop 6 = ((.vsl m.b.nil (qf m.b.l) m.b.l.length) :: ([]:List D)) ++ r:=by simp [DoI.cells]
@[simp] theorem DoI.g6 (m:DoI) (h):(Enc.cells m)[6]'h = (.vsl m.b.nil (qf m.b.l) m.b.l.length):=by simp [DoI.cells]
@[simp] theorem DoI.q6 (m:DoI):(Enc.cells m)[6]? = some ((.vsl m.b.nil (qf m.b.l) m.b.l.length)):=by simp [DoI.cells]
@[simp] theorem DoI.s6 (m:DoI) (x:Sl UInt8):qC (Enc.cells m) 6 [(.vsl x.nil (qf x.l) x.l.length)] = Enc.cells { m with b:=x }:=by simp [DoI.cells]
structure RcP where
 epoch:Int
 last:Int
 items:Sl It
 marks:Sl Mk
instance:Enc RcP:=⟨4,fun m=>(.int .u64 m.epoch :: (.int .u64 m.last :: ((.vsl m.items.nil (qk m.items.l) m.items.l.length) :: ((.vsl m.marks.nil (qk m.marks.l) m.marks.l.length) :: ([]:List D))))),fun m=>by simp,fun m=>by simp [idFree]⟩
theorem RcP.cells (m:RcP):Enc.cells m = (.int .u64 m.epoch :: (.int .u64 m.last :: ((.vsl m.items.nil (qk m.items.l) m.items.l.length) :: ((.vsl m.marks.nil (qk m.marks.l) m.marks.l.length) :: ([]:List D))))):=rfl
@[simp] theorem RcP.size:Enc.size RcP = 4:=rfl
@[simp] theorem RcP.cl (a:RcP):(Enc.cells a).length = 4:=Enc.len a
@[simp] theorem RcP.ct (a:RcP) (r:List D):(Enc.cells a ++ r).take 4 = Enc.cells a:=ZN rfl a r
@[simp] theorem RcP.ct' (a:RcP):(Enc.cells a).take 4 = Enc.cells a:=ZM rfl a
@[simp] theorem RcP.cd (a:RcP) (r:List D):(Enc.cells a ++ r).drop 4 = r:=ZO rfl a r
@[simp] theorem RcP.el (l:List RcP):(qk l).length = l.length * 4:=ZJ rfl l
@[simp] theorem RcP.ed (l:List RcP) (i:Nat):(qk l).drop (i * 4) = qk (l.drop i):=QV rfl l i
@[simp] theorem RcP.et (l:List RcP) (i:Nat):(qk l).take (i * 4) = qk (l.take i):=QU rfl l i
@[simp high] theorem RcP.ea {l:List RcP} {i:Nat} (h:i < l.length):(qk l).drop (i * 4) = Enc.cells l[i] ++ qk (l.drop (i+1)):=QD rfl h
@[simp high] theorem RcP.es (m:RcP) {l:List RcP} {j:Nat} (h:j < l.length):qC (qk l) (j * 4) (Enc.cells m) = qk (l.set j m):=Qu rfl m l h
@[simp] theorem RcP.g0 (m:RcP) (h):(Enc.cells m)[0]'h = .int .u64 m.epoch:=by simp [RcP.cells]
@[simp] theorem RcP.q0 (m:RcP):(Enc.cells m)[0]? = some (.int .u64 m.epoch):=by simp [RcP.cells]
@[simp] theorem RcP.s0 (m:RcP) (x:Int):qC (Enc.cells m) 0 [.int .u64 x] = Enc.cells { m with epoch:=x }:=by simp [RcP.cells]
@[simp] theorem RcP.d1 (m:RcP):(Enc.cells m).drop 1 = (.int .u64 m.last :: ((.vsl m.items.nil (qk m.items.l) m.items.l.length) :: ((.vsl m.marks.nil (qk m.marks.l) m.marks.l.length) :: ([]:List D)))):=by simp [RcP.cells]
@[simp] theorem RcP.d1' (m:RcP) (r:List D):(Enc.cells m ++ r).drop 1 = (.int .u64 m.last :: ((.vsl m.items.nil (qk m.items.l) m.items.l.length) :: ((.vsl m.marks.nil (qk m.marks.l) m.marks.l.length) :: ([]:List D)))) ++ r:=by simp [RcP.cells]
@[simp] theorem RcP.g1 (m:RcP) (h):(Enc.cells m)[1]'h = .int .u64 m.last:=by simp [RcP.cells]
@[simp] theorem RcP.q1 (m:RcP):(Enc.cells m)[1]? = some (.int .u64 m.last):=by simp [RcP.cells]
@[simp] theorem RcP.s1 (m:RcP) (x:Int):qC (Enc.cells m) 1 [.int .u64 x] = Enc.cells { m with last:=x }:=by simp [RcP.cells]
@[simp] theorem RcP.d2 (m:RcP):(Enc.cells m).drop 2 = ((.vsl m.items.nil (qk m.items.l) m.items.l.length) :: ((.vsl m.marks.nil (qk m.marks.l) m.marks.l.length) :: ([]:List D))):=by simp [RcP.cells]
@[simp] theorem RcP.d2' (m:RcP) (r:List D):(Enc.cells m ++ r).drop 2 = ((.vsl m.items.nil (qk m.items.l) m.items.l.length) :: ((.vsl m.marks.nil (qk m.marks.l) m.marks.l.length) :: ([]:List D))) ++ r:=by simp [RcP.cells]
@[simp] theorem RcP.g2 (m:RcP) (h):(Enc.cells m)[2]'h = (.vsl m.items.nil (qk m.items.l) m.items.l.length):=by simp [RcP.cells]
@[simp] theorem RcP.q2 (m:RcP):(Enc.cells m)[2]? = some ((.vsl m.items.nil (qk m.items.l) m.items.l.length)):=by simp [RcP.cells]
@[simp] theorem RcP.s2 (m:RcP) (x:Sl It):qC (Enc.cells m) 2 [(.vsl x.nil (qk x.l) x.l.length)] = Enc.cells { m with items:=x }:=by simp [RcP.cells]
@[simp] theorem RcP.d3 (m:RcP):(Enc.cells m).drop 3 = ((.vsl m.marks.nil (qk m.marks.l) m.marks.l.length) :: ([]:List D)):=by simp [RcP.cells]
@[simp] theorem RcP.d3' (m:RcP) (r:List D):(Enc.cells m ++ r).drop 3 = ((.vsl m.marks.nil (qk m.marks.l) m.marks.l.length) :: ([]:List D)) ++ r:=by simp [RcP.cells]
@[simp] theorem RcP.g3 (m:RcP) (h):(Enc.cells m)[3]'h = (.vsl m.marks.nil (qk m.marks.l) m.marks.l.length):=by simp [RcP.cells]
@[simp] theorem RcP.q3 (m:RcP):(Enc.cells m)[3]? = some ((.vsl m.marks.nil (qk m.marks.l) m.marks.l.length)):=by simp [RcP.cells]
@[simp] theorem RcP.s3 (m:RcP) (x:Sl Mk):qC (Enc.cells m) 3 [(.vsl x.nil (qk x.l) x.l.length)] = Enc.cells { m with marks:=x }:=by simp [RcP.cells]
structure RcD where
 epoch:Int
 last:Int
 marks:Sl Mk
 items:Sl It
instance:Enc RcD:=⟨4,fun m=>(.int .u64 m.epoch :: (.int .u64 m.last :: ((.vsl m.marks.nil (qk m.marks.l) m.marks.l.length) :: ((.vsl m.items.nil (qk m.items.l) m.items.l.length) :: ([]:List D))))),fun m=>by simp,fun m=>by simp [idFree]⟩
theorem RcD.cells (m:RcD):Enc.cells m = (.int .u64 m.epoch :: (.int .u64 m.last :: ((.vsl m.marks.nil (qk m.marks.l) m.marks.l.length) :: ((.vsl m.items.nil (qk m.items.l) m.items.l.length) :: ([]:List D))))):=rfl
@[simp] theorem RcD.size:Enc.size RcD = 4:=rfl
@[simp] theorem RcD.cl (a:RcD):(Enc.cells a).length = 4:=Enc.len a
@[simp] theorem RcD.ct (a:RcD) (r:List D):(Enc.cells a ++ r).take 4 = Enc.cells a:=ZN rfl a r
@[simp] theorem RcD.ct' (a:RcD):(Enc.cells a).take 4 = Enc.cells a:=ZM rfl a
@[simp] theorem RcD.cd (a:RcD) (r:List D):(Enc.cells a ++ r).drop 4 = r:=ZO rfl a r
@[simp] theorem RcD.el (l:List RcD):(qk l).length = l.length * 4:=ZJ rfl l
@[simp] theorem RcD.ed (l:List RcD) (i:Nat):(qk l).drop (i * 4) = qk (l.drop i):=QV rfl l i
@[simp] theorem RcD.et (l:List RcD) (i:Nat):(qk l).take (i * 4) = qk (l.take i):=QU rfl l i
@[simp high] theorem RcD.ea {l:List RcD} {i:Nat} (h:i < l.length):(qk l).drop (i * 4) = Enc.cells l[i] ++ qk (l.drop (i+1)):=QD rfl h
@[simp high] theorem RcD.es (m:RcD) {l:List RcD} {j:Nat} (h:j < l.length):qC (qk l) (j * 4) (Enc.cells m) = qk (l.set j m):=Qu rfl m l h
@[simp] theorem RcD.g0 (m:RcD) (h):(Enc.cells m)[0]'h = .int .u64 m.epoch:=by simp [RcD.cells]
@[simp] theorem RcD.q0 (m:RcD):(Enc.cells m)[0]? = some (.int .u64 m.epoch):=by simp [RcD.cells]
@[simp] theorem RcD.s0 (m:RcD) (x:Int):qC (Enc.cells m) 0 [.int .u64 x] = Enc.cells { m with epoch:=x }:=by simp [RcD.cells]
@[simp] theorem RcD.d1 (m:RcD):(Enc.cells m).drop 1 = (.int .u64 m.last :: ((.vsl m.marks.nil (qk m.marks.l) m.marks.l.length) :: ((.vsl m.items.nil (qk m.items.l) m.items.l.length) :: ([]:List D)))):=by simp [RcD.cells]
@[simp] theorem RcD.d1' (m:RcD) (r:List D):(Enc.cells m ++ r).drop 1 = (.int .u64 m.last :: ((.vsl m.marks.nil (qk m.marks.l) m.marks.l.length) :: ((.vsl m.items.nil (qk m.items.l) m.items.l.length) :: ([]:List D)))) ++ r:=by simp [RcD.cells]
@[simp] theorem RcD.g1 (m:RcD) (h):(Enc.cells m)[1]'h = .int .u64 m.last:=by simp [RcD.cells]
@[simp] theorem RcD.q1 (m:RcD):(Enc.cells m)[1]? = some (.int .u64 m.last):=by simp [RcD.cells]
@[simp] theorem RcD.s1 (m:RcD) (x:Int):qC (Enc.cells m) 1 [.int .u64 x] = Enc.cells { m with last:=x }:=by simp [RcD.cells]
@[simp] theorem RcD.d2 (m:RcD):(Enc.cells m).drop 2 = ((.vsl m.marks.nil (qk m.marks.l) m.marks.l.length) :: ((.vsl m.items.nil (qk m.items.l) m.items.l.length) :: ([]:List D))):=by simp [RcD.cells]
@[simp] theorem RcD.d2' (m:RcD) (r:List D):(Enc.cells m ++ r).drop 2 = ((.vsl m.marks.nil (qk m.marks.l) m.marks.l.length) :: ((.vsl m.items.nil (qk m.items.l) m.items.l.length) :: ([]:List D))) ++ r:=by simp [RcD.cells]
@[simp] theorem RcD.g2 (m:RcD) (h):(Enc.cells m)[2]'h = (.vsl m.marks.nil (qk m.marks.l) m.marks.l.length):=by simp [RcD.cells]
@[simp] theorem RcD.q2 (m:RcD):(Enc.cells m)[2]? = some ((.vsl m.marks.nil (qk m.marks.l) m.marks.l.length)):=by simp [RcD.cells]
@[simp] theorem RcD.s2 (m:RcD) (x:Sl Mk):qC (Enc.cells m) 2 [(.vsl x.nil (qk x.l) x.l.length)] = Enc.cells { m with marks:=x }:=by simp [RcD.cells]
@[simp] theorem RcD.d3 (m:RcD):(Enc.cells m).drop 3 = ((.vsl m.items.nil (qk m.items.l) m.items.l.length) :: ([]:List D)):=by simp [RcD.cells]
@[simp] theorem RcD.d3' (m:RcD) (r:List D):(Enc.cells m ++ r).drop 3 = ((.vsl m.items.nil (qk m.items.l) m.items.l.length) :: ([]:List D)) ++ r:=by simp [RcD.cells]
@[simp] theorem RcD.g3 (m:RcD) (h):(Enc.cells m)[3]'h = (.vsl m.items.nil (qk m.items.l) m.items.l.length):=by simp [RcD.cells]
@[simp] theorem RcD.q3 (m:RcD):(Enc.cells m)[3]? = some ((.vsl m.items.nil (qk m.items.l) m.items.l.length)):=by simp [RcD.cells]
@[simp] theorem RcD.s3 (m:RcD) (x:Sl It):qC (Enc.cells m) 3 [(.vsl x.nil (qk x.l) x.l.length)] = Enc.cells { m with items:=x }:=by simp [RcD.cells]
structure ZL where
 ln:Sl I6
instance:Enc ZL:=⟨1,fun m=>((.vsl m.ln.nil (qk m.ln.l) m.ln.l.length) :: ([]:List D)),fun m=>by simp,fun m=>by simp [idFree]⟩
theorem ZL.cells (m:ZL):Enc.cells m = ((.vsl m.ln.nil (qk m.ln.l) m.ln.l.length) :: ([]:List D)):=rfl
@[simp] theorem ZL.size:Enc.size ZL = 1:=rfl
@[simp] theorem ZL.cl (a:ZL):(Enc.cells a).length = 1:=Enc.len a
@[simp] theorem ZL.ct (a:ZL) (r:List D):(Enc.cells a ++ r).take 1 = Enc.cells a:=ZN rfl a r
@[simp] theorem ZL.ct' (a:ZL):(Enc.cells a).take 1 = Enc.cells a:=ZM rfl a
@[simp] theorem ZL.cd (a:ZL) (r:List D):(Enc.cells a ++ r).drop 1 = r:=ZO rfl a r
@[simp] theorem ZL.el (l:List ZL):(qk l).length = l.length * 1:=ZJ rfl l
@[simp] theorem ZL.ed (l:List ZL) (i:Nat):(qk l).drop (i * 1) = qk (l.drop i):=QV rfl l i
@[simp] theorem ZL.et (l:List ZL) (i:Nat):(qk l).take (i * 1) = qk (l.take i):=QU rfl l i
@[simp high] theorem ZL.ea {l:List ZL} {i:Nat} (h:i < l.length):(qk l).drop (i * 1) = Enc.cells l[i] ++ qk (l.drop (i+1)):=QD rfl h
@[simp high] theorem ZL.es (m:ZL) {l:List ZL} {j:Nat} (h:j < l.length):qC (qk l) (j * 1) (Enc.cells m) = qk (l.set j m):=Qu rfl m l h
@[simp] theorem ZL.g0 (m:ZL) (h):(Enc.cells m)[0]'h = (.vsl m.ln.nil (qk m.ln.l) m.ln.l.length):=by simp [ZL.cells]
@[simp] theorem ZL.q0 (m:ZL):(Enc.cells m)[0]? = some ((.vsl m.ln.nil (qk m.ln.l) m.ln.l.length)):=by simp [ZL.cells]
@[simp] theorem ZL.s0 (m:ZL) (x:Sl I6):qC (Enc.cells m) 0 [(.vsl x.nil (qk x.l) x.l.length)] = Enc.cells { m with ln:=x }:=by simp [ZL.cells]
def ZL.zs (z:ZL):List Int:=z.ln.l.map (·.v)
theorem ZL.zs_len (z:ZL):z.zs.length = z.ln.l.length:=by simp [ZL.zs]
theorem ZL.zs_nil (z:ZL) (h:z.ln.nil = true):z.zs = []:=by simp [ZL.zs,z.ln.h h]
theorem ZL.enc (z:ZL):(Enc.cells z:List D) = [.vsl z.ln.nil (Vc .i64 z.zs) z.zs.length]:=by
 rw [ZL.cells,ZL.zs_len,qu5];rfl
end Go.Ev
namespace Go.Ev.S
open Go Go.Proofs Go.Ev
structure LaidS (s:Fs) (k:Nat):Prop where
 room:s.room = 1048576
 fuse:s.fuse = -1
 off:s.off = false
 len:s.nodes.length≤k
 nd:∀ n,n∈s.nodes→n.there = true∧n.b.l.length≤32768∧n.safe.l.length≤32768∧∃ i:Inf,InfOk i∧(i.kind = 1∨i.kind = 2∨i.kind = 3∨i.kind = 4)∧i.real≠77∧n.name = jY i
theorem qpa {s:Fs} {k:Nat} (h:LaidS s k) {i:Inf} (h1:InfOk i) (h2:i.kind = 1∨i.kind = 2∨i.kind = 3∨i.kind = 4) (h3:i.real≠77):LaidS (XQ s (jY i)).2 (k+1):=by
 have h0:LaidS s (k+1):={ h with len:=Nat.le_succ_of_le h.len }
 have hb:zS s = (0,s):=by
  unfold zS;rw [h.fuse,if_neg (by decide),if_neg (by decide)]
 unfold XQ;split
 ·exact h0
 ·split
  ·exact h0
  ·split
   ·exact h0
   ·rw [hb];simp only;rw [if_neg (by decide)]
    exact { h with
     len:=by simp only;rw [qX,List.length_singleton];have:=h.len;omega
     nd:=fun n hn=>by
      simp only [ji,qaG] at hn;rcases hn with hn | rfl
      ·exact h.nd n hn
      ·exact ⟨rfl,by simp [Sl.none],by simp [Sl.none],i,h1,h2,h3,rfl⟩ }
theorem qoZ {s s':Fs} {k:Nat} (h:LaidS s k) {name b:List UInt8} (hw:ZG s name 0 b s'):LaidS s' k:=by
 have hb:zS s = (0,s):=by
  unfold zS;rw [h.fuse,if_neg (by decide),if_neg (by decide)]
 unfold ZG at hw;rw [hb] at hw;split at hw
 ·obtain ⟨i,n,n',hf,hi,rfl,e1,e2,e3,e4⟩:=hw;have hn:=ZS hi;obtain ⟨a1,a2,a3,j,a4,a5,a6,a7⟩:=h.nd n hn
  exact { h with
   len:=by simp only;rw [vt];exact h.len
   nd:=fun x hx=>by
    simp only at hx;rcases qb7 hx with hx | rfl
    ·exact h.nd x hx
    ·exact ⟨by rw [e2];exact a1,by rw [e3];exact qey _ _ _ a2,by rw [e4];exact a3,j,a4,a5,a6,by rw [e1];exact a7⟩ }
 ·rcases hw with rfl | rfl
  ·exact h
  ·exact h
def laI (arg:D) (i:Nat) (e:qn) (K:qd):Prop :=
 i≤6∧qg e 0 = some arg∧qg e 1 = some (.vsl true [] 0)∧qg e 2 = some (.vsl true [] 0)∧qg e 7 = some (.optr 0 5 0)∧qg e 9 = some (.int .i64 i)∧∃ s v,FSw K 0 s v∧LaidS s i∧v.pc.length≤4 * i
set_option maxHeartbeats 8000000 in
set_option maxRecDepth 10000 in
theorem qpb [MaxL] [TxtC] (nl:Bool) (ls:List ZL) (zq:nl = true→ls = []) (hl:ls.length≤6) (hz:∀ z,z∈ls→z.zs.length≤1000000) :
  ∃ G s v,call cx 5 [.vsl nl (qk ls) ls.length,.vsl true [] 0,.vsl true [] 0] [] = some (.optr 0 5 0,G)∧FSw G 0 s v∧LaidS s 6∧v.pc.length≤24:=by
 suffices hs:∃ r,call cx 5 [.vsl nl (qk ls) ls.length,.vsl true [] 0,.vsl true [] 0] [] = some r∧∃ (G:qd) (s:Fs) (v:FSv),r = (.optr 0 5 0,G)∧FSw G 0 s v∧LaidS s 6∧v.pc.length≤24 by
  obtain ⟨r,hc,G,s,v,rfl,h1⟩:=hs;exact ⟨G,s,v,hc,h1⟩
 refine Zt (X:=cx) (f:=5) _ Tryz.func5 rfl ⟨rfl,rfl⟩ ?_;have ka:=qtE;obtain ⟨K0,vm⟩:∃ T:qd,[some [D.int .i64 1048576,.int .i64 (-1),.bool false,.vsl true [] 0,.vsl true [] 0]] = T:=⟨_,rfl⟩
 have w0:FSw K0 0 ⟨1048576,-1,false,[]⟩ ⟨[],.vsl true [] 0,.vsl true [] 0,[],[],[]⟩:=by
  rw [← vm];exact ⟨rfl,RowA.nil _ _,RowA.nil _ _,rfl,fun i n x h=>by simp at h,fun _=>0,rfl,fun i hi=>by simp at hi,fun i hi=>by simp at hi,fun j x hx=>by simp at hx⟩
 rw [vm] at ka;simp [-qe,-ql,-qo,-qM,Tryz.f5,ka];refine KB (laI (.vsl nl (qk ls) ls.length)) (fun i=>ls.length - i) 0 (fun ex e K=>ex = .exit 0∧∃ i,laI (.vsl nl (qk ls) ls.length) i e K) ?_ ?_ ?_
 ·exact ⟨by omega,by simp,by simp,by simp,by simp,by simp,_,_,w0,⟨rfl,rfl,rfl,by simp,fun n hn=>by simp at hn⟩,by simp⟩
 ·rintro i e K ⟨hi,p0,p1,p2,p7,p9,s,v,W,L,hpc⟩;by_cases qi:i < ls.length
  ·have qq:(i:Int) < (ls.length:Int):=(by omega);have hw:IntKind.i64.wrap ((i:Int)+1) = ((i+1:Nat):Int):=by rw [wrap_i64] <;> omega
   have jZ:nl = false:=by
    cases hn:nl with
    | false=>rfl
    | true =>
     rw [zq hn] at qi;simp at qi
   subst jZ;obtain ⟨z,hzd⟩:∃ z,z = ls[i]:=⟨_,rfl⟩;have hzm:z∈ls:=(by rw [hzd];exact vQ qi);have zC:List.drop (i * 1) (qk ls) = Enc.cells z ++ qk (ls.drop (i+1)):=(by rw [hzd];exact QD (n:=1) (α:=ZL) rfl qi);rw [Nat.mul_one,ZL.enc] at zC;have VS:=z.zs_nil;have Qa:=hz z hzm;obtain ⟨nz,hnz⟩:∃ b,b = z.ln.nil:=⟨_,rfl⟩;obtain ⟨zs,Xy⟩:∃ l,l = z.zs:=⟨_,rfl⟩;rw [← hnz,← Xy] at zC;rw [← hnz,← Xy] at VS;rw [← Xy] at Qa;have sl:=qbK nz zs;have sf:=qbL nz zs;have sc:=qbM nz zs;obtain ⟨K1,jv⟩:∃ T,qo K (jy nz zs 0) = T:=⟨_,rfl⟩;have YR:qo K [.vsl nz (Vc .i64 zs) zs.length,.int .i64 0] = K1:=jv;have e1:Ext [] K K1:=jv ▸ Ext.new K _;have g1:qe K1 K.length = some (jy nz zs 0):=(by rw [← jv,qN]);have gS:∀ X,qe (ql K1 K.length X) K.length = some X:=fun X=>qV (qt g1);obtain ⟨x1,k1,X1,-,h1⟩:=QL nz zs VS Qa 0 4 (by decide) (by decide);obtain ⟨x2,k2,hx2,-,h2⟩:=QL nz zs VS Qa k1 3 (by decide) (by decide);obtain ⟨j2,hj2,KT⟩:=qdn x2;obtain ⟨x3,k3,hx3,-,h3⟩:=QL nz zs VS Qa k2 4 (by decide) (by decide);obtain ⟨x4,k4,hx4,-,h4⟩:=QL nz zs VS Qa k3 3 (by decide) (by decide);obtain ⟨x5,k5,hx5,-,h5⟩:=QL nz zs VS Qa k4 5 (by decide) (by decide);have wx1:IntKind.i64.wrap ((x1:Int)+1) = ((x1+1:Nat):Int):=(by rw [wrap_i64] <;> omega);have wx3:IntKind.u64.wrap (x3:Int) = (x3:Int):=(by rw [qF];omega);have wx4:IntKind.u64.wrap (x4:Int) = (x4:Int):=(by rw [qF];omega);obtain ⟨y,hy⟩:=qe1 (IntKind.i64.wrap ((x5:Int) / 4));obtain ⟨inf,Q2⟩:∃ i:Inf,i = ⟨(x1+1:Nat),idN j2,x3,x4⟩:=⟨_,rfl⟩;have hio:InfOk inf:=(by rw [Q2];exact ⟨by unfold zH;simp only;omega,by unfold zH;simp only;omega⟩);have hik:inf.kind = 1∨inf.kind = 2∨inf.kind = 3∨inf.kind = 4:=(by rw [Q2];simp only;omega);have hir:inf.real≠77:=(by rw [Q2];simp only;omega);have X9:=qnd inf hio hik
   have hnl2:(jY inf).length≤1000:=by
    have h1:=qaE inf.seq.h inf.head.toNat inf.real.toNat;unfold jY;split
    ·decide
    ·split
     ·decide
     ·split
      ·omega
      ·split
       ·rw [qX];simp only [ju,jR];omega
       ·simp
   obtain ⟨name,vF⟩:∃ n,n = jY inf:=⟨_,rfl⟩;rw [← vF] at X9 hnl2;have lid:=(idN j2).h
   have hname2:call cx 16 [.agg (.int .i64 ((x1:Int)+1) :: (qf (idN j2).l ++ [.int .u64 (x3:Nat),.int .u64 (x4:Nat)]))] [] = some (.str name,[]):=by
    rw [← X9,Q2];rfl
   obtain ⟨K2,jQ⟩:∃ T,ql K1 K.length (jy nz zs k5) = T:=⟨_,rfl⟩;have e2:Ext [K.length] K1 K2:=jQ ▸ Ext.set K1 _ _;have g2:qe K2 K.length = some (jy nz zs k5):=(by rw [← jQ];exact gS _);obtain ⟨K3,qm,m,dm,hmk,wm,om,obl,e3,nm⟩:=qo5 nz zs VS Qa k5 g2;have nK:∀ j,j∈v.names 0→j < K.length:=fun j hj=>W.lt hj;have l1:=e1.len;have l2:=e2.len;have l3:=e3.len;have W3:=((W.ext e1 (fun _ _=>by simp)).ext e2 (fun j hj=>by have:=nK j hj;simp;omega)).ext e3 (fun j hj=>by have:=nK j hj;simp;omega);obtain ⟨K4,v4,hmake,W4,e4,n4,pc4⟩:=qj5 W3 (by have:=L.len;omega) (by omega) (fun n hn=>by have:=(L.nd n hn).2.1;omega) (by rw [L.fuse];omega) name (by omega);have L4:LaidS (XQ s name).2 (i+1):=vF ▸ qpa L hio hik hir
   have mN:∀ j,j∈m.names qm→j ∉ v.names 0:=fun j hj hc=>by
    have:=nm j hj;have:=nK j hc;have:=qt g2;omega
   have wm4:=qbe wm e4 mN;obtain ⟨K5,img,himg,e5,limg⟩:=qrF wm4 om;have W5:=W4.ext e5 (fun _ _=>by simp);have e17a:List.drop 17 (qf (idN j2).l ++ [D.int .u64 0,.int .u64 0]) = [.int .u64 0]:=(by simp [zk,List.drop_of_length_le,lid]);have e17:List.take 17 (qf (idN j2).l ++ [D.int .u64 (x3:Nat),.int .u64 0]) = qf (idN j2).l ++ [D.int .u64 (x3:Nat)]:=(by simp [kR,qP,lid]);have e18:List.drop 18 (qf (idN j2).l ++ [D.int .u64 (x3:Nat),.int .u64 0]) = []:=(by simp [lid]);obtain ⟨i37,hi37⟩:∃ a:Nat,a = i * 37:=⟨_,rfl⟩;have wi37:IntKind.i64.wrap ((i:Int) * 37) = (i37:Int):=(by rw [wrap_i64] <;> omega);obtain ⟨_,Z5,sp,lsp,rfl⟩:=qmd (Sl.mk false img (by simp)) (by simp only;omega) false [(i37:Int),3] (by simp) (by simp) y;replace Z5:call cx 20 [.vsl false (qf img) img.length,.vsl false [.int .i64 (i37:Nat),.int .i64 3] 2,.int .u8 y.toNat] [] = some (.vsl false (qf sp) sp.length,[]):=Z5;simp only at lsp;obtain ⟨K6,vz⟩:∃ T,qo K5 [.int .i64 (i37:Nat),.int .i64 3] = T:=⟨_,rfl⟩;have e6:Ext [] K5 K6:=vz ▸ Ext.new K5 _;have g6:qe K6 K5.length = some [.int .i64 (i37:Nat),.int .i64 3]:=(by rw [← vz,qN]);obtain ⟨K6',hK6'⟩:∃ T,jq K6 [K5.length] = T:=⟨_,rfl⟩;have hK6s:List.set K6 K5.length none = K6':=hK6';have lK6:K6.length = K5.length+1:=by rw [← vz,zG]
   have e6':Ext [] K5 K6':=by
    refine ⟨?_,fun j hj _=>?_⟩
    ·rw [← hK6',Qk];omega
    ·rw [← hK6',Xi (by simp;omega),← vz,jF hj]
   have W6:=W5.ext e6' (fun _ _=>by simp);obtain ⟨s7,K7,v7,X2,W7,hw7,e7,n7,pc7⟩:=qt8 W6 (by have:=L4.len;omega) (fun n hn=>⟨(L4.nd n hn).2.1,(L4.nd n hn).2.2.1⟩) (by rw [L4.fuse];omega) (by rw [L4.room];omega) name (by omega) 0 (by omega) (Sl.mk false sp (by simp)) (by simp only;omega);replace X2:call cx 8 [.optr 0 5 0,.str name,.int .i64 0,.vsl false (qf sp) sp.length] K6' = some (.int .i64 (QA (XQ s name).2 name 0 sp),K7):=X2;have L7:=qoZ L4 hw7;simp [-qe,-ql,-qo,-qM,p0,p1,p2,p7,p9,qq,zC,YR,g1,gS,sf,h1,h2,h3,h4,h5,KT,wx1,wx3,wx4,lid,kp,hname2,hy,jQ,hmk,hmake,himg,e17a,e17,e18,wi37,vz,g6,hK6s,Z5,X2,hw];exact ⟨i+1,by omega,by omega,by simp,by simp,by simp,by simp,by simp,s7,v7,W7,L7,by rw [pc7];omega⟩
  ·have qq:¬ (i:Int) < (ls.length:Int):=(by omega);simp [-qe,-ql,-qo,-qM,p0,p1,p2,p7,p9,qq];exact ⟨i,hi,by simp,by simp,by simp,by simp,by simp,s,v,W,L,hpc⟩
 ·rintro ex e K ⟨rfl,i,hi,p0,p1,p2,p7,p9,s,v,W,L,hpc⟩;simp [-qe,-ql,-qo,-qM,p1,p2,p7];refine qcU ?_;simp [-qe,-ql,-qo,-qM];exact ⟨s,v,W,{ L with len:=jA L.len hi },by omega⟩
theorem qjF {l:List Nd} {name:List UInt8} (h:∀ n,n∈l→n.name≠name):ve l name = none:=by
 unfold ve;rw [List.findIdx?_eq_none_iff];intro n hn;simp [h n hn]
theorem qjG {l:List Nd} {x:Nd} (hx:x.there = true) (h:∀ n,n∈l→n.name≠x.name):ve (l ++ [x]) x.name = some l.length:=by
 have h0:=qjF h;unfold ve at h0 ⊢;rw [List.findIdx?_append,h0];simp [hx]
theorem qtT {l:List Nd} {x:Nd} {name:List UInt8} (h:x.name≠name):ve (l ++ [x]) name = ve l name:=by
 unfold ve;rw [List.findIdx?_append];simp [h]
theorem qoq {s:Fs} {x:Nd} (YD:s.off = false) (hx:x.there = true):v8 { s with nodes:=s.nodes ++ [x] } = v8 s ++ [x.name]:=by
 unfold v8;simp [YD,hx]
theorem qwn {s:Fs} {x:Nd} {name:List UInt8} (h:x.name≠name):zu { s with nodes:=s.nodes ++ [x] } name = zu s name:=by
 have hf:=qtT (l:=s.nodes) h
 have hg:jD { s with nodes:=s.nodes ++ [x] } name = jD s name:=by
  unfold jD Jr;simp only [hf]
 unfold zu;rw [hg];simp only [hf];split
 ·rfl
 ·cases hi:ve s.nodes name with
  | none=>rfl
  | some i =>
   obtain ⟨qi,-,-⟩:=qdE hi;simp only [VG];rw [jX qi]
theorem qoF {s:Fs} {k:Nat} (L:LaidS s k) (hk:k≤6) {name:List UInt8} (hn:∀ n,n∈s.nodes→n.name≠name) (hr:JI name = true) :
  XQ s name = (0,{ s with nodes:=s.nodes ++ [⟨name,true,Sl.none,Sl.none⟩] }):=by
 have VX:Jr s name = 0:=by simp [Jr,L.off,hr]
 have qe:jD s name = 16:=by
  unfold jD;rw [VX,qjF hn];simp
 have hb:zS s = (0,s):=by
  unfold zS;rw [L.fuse,if_neg (by decide),if_neg (by decide)]
 have Zq:¬ 24≤Js s.nodes:=by
  have:Js s.nodes≤s.nodes.length:=List.length_filter_le _ _;have:=L.len;omega
 unfold XQ;rw [qe,if_neg (by decide),if_neg (by decide),if_neg Zq,hb,if_neg (by simp)]
theorem qmk {l:List Nd} (h:∀ m,m∈l→m.b.l.length≤32768):jM l≤l.length * 32768:=by
 induction l with
 | nil=>simp [jM]
 | cons m l ih =>
  have h1:=ih fun k hk=>h k (kS _ hk);have h2:=h m (Za ..);simp only [jM,ju,QZ,Nat.one_mul];split <;> omega
theorem qlp {s s5 s6:Fs} {k:Nat} (L:LaidS s k) (hk:k≤6) {name B:List UInt8} (hn:∀ n,n∈s.nodes→n.name≠name) (hr:JI name = true) (hB:B.length≤1000) (hB0:B≠[])
  (h5:s5 = { s with nodes:=s.nodes ++ [⟨name,true,Sl.none,Sl.none⟩] }) (hw:ZG s5 name 0 B s6) :
  QA s5 name 0 B = 0∧∃ x:Nd,x.name = name∧x.there = true∧x.b.l = B∧x.safe.l = []∧s6 = { s with nodes:=s.nodes ++ [x] }:=by
 have hfind:ve s5.nodes name = some s.nodes.length:=by
  rw [h5];exact qjG (x:=⟨name,true,Sl.none,Sl.none⟩) rfl hn
 have VX:Jr s5 name = 0:=by rw [h5];simp [Jr,L.off,hr]
 have qe:jD s5 name = 0:=by
  unfold jD;rw [VX,hfind];simp
 have hnode:s5.nodes[s.nodes.length]? = some ⟨name,true,Sl.none,Sl.none⟩:=by rw [h5];simp
 have zY:(ve s5.nodes name).bind (s5.nodes[·]?) = some ⟨name,true,Sl.none,Sl.none⟩:=by rw [hfind];exact hnode
 have hb:zS s5 = (0,s5):=by
  unfold zS;rw [show s5.fuse = -1 by rw [h5];exact L.fuse,if_neg (by decide),if_neg (by decide)]
 have hc:kf 0 B = 0:=by
  unfold kf;rw [if_neg (by omega)]
 have hR:vg [] 0 B = B:=by
  unfold vg;rw [if_pos ⟨hc,hB0⟩];unfold kJ;simp
 have zx:jM s5.nodes≤s5.nodes.length * 32768:=qmk fun m hm=>by
  rw [h5] at hm;simp only [ji,qaG] at hm;rcases hm with hm | rfl
  ·exact (L.nd m hm).2.1
  ·simp [Sl.none]
 have hl5:s5.nodes.length≤7:=by
  rw [h5];have:=L.len;simp;omega
 have KJ:s5.room = 1048576:=by rw [h5];exact L.room
 have hC:QA s5 name 0 B = 0:=by
  unfold QA;rw [qe,if_neg (by decide),zY];simp only [hc,hb,show (Sl.none:Sl UInt8).l = [] from rfl,hR];rw [if_neg (by decide),if_neg];rintro ⟨-,h2⟩;rw [KJ] at h2;simp only [jR,Nat.sub_zero] at h2;omega
 refine ⟨hC,?_⟩;unfold ZG at hw;rw [if_pos hC,hb] at hw;obtain ⟨i,n,n',hf,hi,rfl,e1,e2,e3,e4⟩:=hw;rw [hfind] at hf;injection hf with hf;subst hf;rw [hnode] at hi;injection hi with hi;subst hi;refine ⟨n',e1,e2,by rw [e3];exact hR,e4,?_⟩;rw [h5];simp
theorem qdC (k:Nat) (h:k < 16):33≤(jC k).toNat∧(jC k).toNat≤126:=by
 have:∀ k,k < 16→33≤(jC k).toNat∧(jC k).toNat≤126:=by decide
 exact this k h
theorem qjh:∀ (l:List UInt8),∀ x∈zI l,33≤x.toNat∧x.toNat≤126
 | []=>by simp [zI]
 | b :: l=>by
  intro x hx;simp only [zI,zA] at hx;have hb:=b.toNat_lt;rcases hx with rfl | rfl | hx
  ·exact qdC _ (by omega)
  ·exact qdC _ (by omega)
  ·exact qjh l x hx
theorem qjk:∀ (f v:Nat),∀ x∈Qs f v,33≤x.toNat∧x.toNat≤126
 | 0,_=>by simp [Qs]
 | f+1,v=>by
  intro x hx;rw [Qs] at hx;split at hx
  ·rw [List.mem_singleton.1 hx];exact qdC _ (by omega)
  ·rcases List.mem_append.1 hx with h | h
   ·exact qjk f _ x h
   ·rw [List.mem_singleton.1 h];exact qdC _ (by omega)
theorem qjC (v:Nat):∀ x∈vO v,33≤x.toNat∧x.toNat≤126:=by
 intro x hx;unfold vO at hx;rcases List.mem_append.1 hx with h | h
 ·rw [(List.mem_replicate.1 h).2];decide
 ·exact qjk 16 v x h
theorem qwa {q:List UInt8} (hq:q.length = 16) (h r:Nat):JI (vA q h r) = true:=by
 have hl:=qaE hq h r
 have ha:∀ x∈vA q h r,33≤x.toNat∧x.toNat≤126:=by
  intro x hx;simp only [vA,V2,ji,zA] at hx;rcases hx with hx | (hx | rfl | hx | rfl | hx) | hx
  ·revert x hx;decide
  ·exact qjh q x hx
  ·decide
  ·exact qjC h x hx
  ·decide
  ·exact qjC r x hx
  ·revert x hx;decide
 unfold JI;rw [decide_eq_true (by omega),decide_eq_true (by omega)];simp only [qer];rw [List.all_eq_true];intro x hx;obtain ⟨h1,h2⟩:=ha x hx;simp [h1,h2]
set_option maxRecDepth 4000 in
theorem qmu [MaxL] [TxtC] {H:qd} {c:Nat} {bx cy:D} {l:List UInt8} {Lx:List Nat} (h:qe H c = some [bx,cy]) (hr:RowA H 1 bx (qf l) Lx) (hc:c ∉ Lx) (hl:l.length≤1000000) (a:Nat) (ha:a≤1000000000) (bi:Nat) (b:List UInt8) (hB:qe H bi = some (qf b)) (hBc:bi ∉ c :: Lx) (hb:b.length≤1000000000) :
  ∃ bx' T Lx',call cx 29 [.optr c 2 0,.int .i64 a,(.osl bi b.length 0 b.length 1)] H = some (.int .i64 (kf a b),T)∧qe T c = some [bx',cy]∧RowA T 1 bx' (qf (vg l a b)) Lx'∧Ext (c :: Lx) H T∧NewL Lx Lx' H.length∧c ∉ Lx':=by
 have Jn:¬ (a:Int) < 0:=by omega
 have qY:=qt h;by_cases h1:32768 < a
 ·have zR:(32768:Int) < (a:Int):=by omega
  have hC:kf a b = 15:=by simp [kf,h1]
  have hR:vg l a b = l:=by simp [vg,hC]
  rw [hC,hR];refine ⟨bx,H,Lx,zt Tryz.func29 rfl ⟨rfl,rfl⟩ ?_,h,hr,Ext.refl _ _,NewL.refl _ _,hc⟩;simp [-qe,-ql,-qo,Tryz.f29,Jn,zR]
 have zR:¬ (32768:Int) < (a:Int):=by omega
 have zB:IntKind.i64.wrap (32768 - (a:Int)) = 32768 - (a:Int):=by rw [wrap_i64];omega
 by_cases h2:32768 < a+b.length
 ·have vn:(32768:Int) - (a:Int) < (b.length:Int):=by omega
  have hC:kf a b = 15:=by simp [kf,h2]
  have hR:vg l a b = l:=by simp [vg,hC]
  rw [hC,hR];refine ⟨bx,H,Lx,zt Tryz.func29 rfl ⟨rfl,rfl⟩ ?_,h,hr,Ext.refl _ _,NewL.refl _ _,hc⟩;simp [-qe,-ql,-qo,Tryz.f29,Jn,zR,zB,vn]
 have vn:¬ (32768:Int) - (a:Int) < (b.length:Int):=by omega
 have hC:kf a b = 0:=by simp [kf];omega
 rw [hC];by_cases h3:b = []
 ·have hR:vg l a b = l:=by simp [vg,h3]
  have hz:(b.length:Int) = 0:=by simp [h3]
  rw [hR];refine ⟨bx,H,Lx,zt Tryz.func29 rfl ⟨rfl,rfl⟩ ?_,h,hr,Ext.refl _ _,NewL.refl _ _,hc⟩;simp [-qe,-ql,-qo,-Int.natCast_eq_zero,-List.length_eq_zero_iff,Tryz.f29,Jn,zR,zB,hz,show ¬ ((32768:Int) - (a:Int) < 0) by omega]
 have jG:0 < b.length:=List.length_pos_iff.2 h3;have hR:vg l a b = kJ l a b:=by simp [vg,hC,h3]
 rw [hR];have hz:¬ (b.length:Int) = 0:=by omega
 have QO:(((b.length:Nat):Int) == 0) = false:=by simpa using h3
 have zp:IntKind.i64.wrap ((a:Int)+(b.length:Int)) = (a:Int)+(b.length:Int):=by rw [wrap_i64];omega
 have V5:IntKind.i64.wrap ((a:Int)+(b.length:Int) - (l.length:Int)) = (a:Int)+(b.length:Int) - (l.length:Int):=by rw [wrap_i64];omega
 have hlb:(qf l).length = l.length:=by simp
 obtain ⟨m,hm⟩:∃ m,a+b.length - l.length = m:=⟨_,rfl⟩;obtain ⟨p,hp⟩:∃ p,l ++ List.replicate m 0 = p:=⟨_,rfl⟩;have vE:p.length = l.length+m:=by rw [← hp];simp
 have hpo:qf p = qf l ++ qf (List.replicate m 0):=by rw [← hp];simp [qf]
 have vY:kJ l a b = p.take a ++ b ++ p.drop (a+b.length):=by unfold kJ;rw [hm,hp]
 have hs:∀ r:Nat,JW Tryz.prog 26 (.osl r p.length 0 p.length 1) (some (.int .i64 a)) none = some (.osl r p.length a (p.length - a) 1):=by
  intro r;have e1:(a:Int)≤(p.length:Int):=by omega
  have e2:a = 0∨a < p.length:=by omega
  simp [e1,e2]
 have hcp:∀ (r:Nat) (T:qd),qe T r = some (qf p)→qe T bi = some (qf b)→Xg Tryz.prog T 26 26 (.osl r p.length a (p.length - a) 1) (.osl bi b.length 0 b.length 1) = some (.int .i64 b.length,ql T r (qf (kJ l a b))):=by
  intro r T hT ZE;have e1:min b.length (p.length - a) = b.length:=by omega
  have e2:a+(p.length - a)≤p.length:=by omega
  have e3:(qf b).take b.length = qf b:=qP (by simp);simp [-qe,-ql,hT,ZE,e1,e2,e3];rw [vY];simp [qf,List.map_take,List.map_drop]
 have JH:(kJ l a b).length = p.length:=by rw [vY];simp;omega
 by_cases hgr:l.length < a+b.length
 ·have hg:(0:Int) < (a:Int)+(b.length:Int) - (l.length:Int):=by omega
  have jb:((a:Int)+(b.length:Int) - (l.length:Int)).toNat = m:=by omega
  have J8:Ku Tryz.prog H 5 3 (.int .i64 ((a:Int)+(b.length:Int) - (l.length:Int))) = some (qf (List.replicate m 0),m):=by
   have e1:(0:Int)≤(a:Int)+(b.length:Int) - (l.length:Int)∧(a:Int)+(b.length:Int) - (l.length:Int)≤(qw:Int)∧((a:Int)+(b.length:Int) - (l.length:Int)).toNat * bytesOf Tryz.prog 5≤qw:=by
    refine ⟨by omega,by simp only [qw];omega,?_⟩;rw [jb];simp [qw];omega
   have e2:Zd Tryz.prog 5 m = some (qf (List.replicate m 0)):=by
    simp [Zd,qf]
   unfold Ku;simp only [show Tryz.prog.underlying 3 = some (.int .i64) from by simp];rw [if_pos e1,jb,e2];rfl
  obtain ⟨nv,H6,L6,hA,hR6,x6,n6⟩:=hr.append (P:=Tryz.prog) (st:=26) (xt:=3) (e:=5) (x:=.int .i64 ((a:Int)+(b.length:Int) - (l.length:Int))) (xs:=qf (List.replicate m 0)) (m:=m) (by simp) (by simp) J8 (by simp) (by omega) (by simp) (by omega) (by simp [qw];omega) (by simp [qw];omega);rw [← hpo] at hR6
  obtain ⟨r,n,hv6,hlen6,Z7,Vo⟩:=hR6.own (by
   intro e;have h0:(qf p).length = 0:=(by rw [e];rfl);rw [show (qf p).length = p.length by simp] at h0;omega)
  have hn:n = p.length:=by simpa using hlen6.symm
  subst hn;subst hv6;have YA:(qf p).length = p.length:=by simp
  rw [YA] at hA;have Z6:=n6 r (by rw [Vo];simp)
  have Ql:r≠c:=by
   intro e;rcases Z6 with h1 | h1
   ·exact hc (e ▸ h1)
   ·omega
  have r6:=x6.get h hc;have hlt6:r < H6.length:=qt Z7;obtain ⟨H7,e7⟩:∃ K,ql H6 c [.osl r p.length 0 p.length 1,cy] = K:=⟨_,rfl⟩;have r7:qe H7 c = some [.osl r p.length 0 p.length 1,cy]:=by rw [← e7];exact qV (qt r6)
  have g7:qe H7 r = some (qf p):=by rw [← e7,qZ Ql];exact Z7
  have x7:Ext [c] H6 H7:=e7 ▸ Ext.set H6 c _;have hlen:=x6.len;simp only [zA,not_or] at hBc;have hB7:qe H7 bi = some (qf b):=x7.get (x6.get hB hBc.2) (by simp;exact hBc.1)
  have xT:Ext (c :: Lx) H (ql H7 r (qf (kJ l a b))):=by
   refine ⟨by rw [kN];have:=x7.len;omega,fun i hi hn=>?_⟩;simp only [zA,not_or] at hn;rw [qZ ?_,x7.out i (by omega) (by simpa using hn.1),x6.out i hi hn.2];intro e;rcases Z6 with h1 | h1
   ·exact hn.2 (e ▸ h1)
   ·omega
  refine ⟨.osl r p.length 0 p.length 1,ql H7 r (qf (kJ l a b)),[r],zt Tryz.func29 rfl ⟨rfl,rfl⟩ ?_,by rw [qZ (Ne.symm Ql)];exact r7,.inr ⟨r,p.length,by simp [JH],by simp [JH],qV (qt g7),rfl⟩,xT,fun i hi=>by rw [List.mem_singleton.1 hi];exact Z6,by simpa using Ne.symm Ql⟩
  have Jh:zj Tryz.prog 26 bx = some (.int .i64 l.length):=by
   rcases hr with ⟨rfl,hl0,_⟩ | ⟨r0,n0,rfl,hl0,_⟩
   ·have:l.length = 0:=(by rw [← hlb,hl0];rfl);simp [this]
   ·have:n0 = l.length:=(by simpa using hl0.symm);simp [this]
  have hlb2:zj Tryz.prog 26 (.osl bi b.length 0 b.length 1) = some (.int .i64 b.length):=by simp
  simp [-qe,-ql,-qo,-qM,-JW,-Xg,-zj,hlb2,Tryz.f29,Jn,zR,zB,vn,QO,h,Jh,zp,V5,show (l.length:Int) < (a:Int)+(b.length:Int) by omega,hA,r6,hlt6,e7,r7,hs,hcp,g7,hB7]
 ·have hg:¬ (0:Int) < (a:Int)+(b.length:Int) - (l.length:Int):=by omega
  have XA:m = 0:=by omega
  have hpl0:p = l:=by rw [← hp,XA];simp
  obtain ⟨r,n,hv,hlen6,Z7,Vo⟩:=hr.own (by
   intro e;have h0:(qf l).length = 0:=(by rw [e];rfl);rw [hlb] at h0;omega)
  have hn:n = l.length:=by simpa using hlen6.symm
  subst hn;subst hv;rw [hlb] at h;rw [← hpl0] at h Z7
  have Ql:r≠c:=by
   intro e;exact hc (by rw [Vo,e];simp)
  have x7:Ext [r] H (ql H r (qf (kJ l a b))):=Ext.set H r _;refine ⟨.osl r p.length 0 p.length 1,ql H r (qf (kJ l a b)),[r],zt Tryz.func29 rfl ⟨rfl,rfl⟩ ?_,by rw [qZ (Ne.symm Ql)];exact h,.inr ⟨r,p.length,by simp [JH],by simp [JH],qV (qt Z7),rfl⟩,x7.mono fun i hi=>by rw [List.mem_singleton.1 hi,Vo];simp,fun i hi=>.inl (by rw [Vo];exact hi),by simpa using Ne.symm Ql⟩;have hlb2:zj Tryz.prog 26 (.osl bi b.length 0 b.length 1) = some (.int .i64 b.length):=by simp
  have Jh:zj Tryz.prog 26 (.osl r p.length 0 p.length 1) = some (.int .i64 l.length):=by simp [hpl0]
  simp [-qe,-ql,-qo,-qM,-JW,-Xg,-zj,hlb2,Tryz.f29,Jn,zR,zB,vn,QO,h,Jh,zp,V5,show ¬ (l.length:Int) < (a:Int)+(b.length:Int) by omega,hs,hcp,Z7,hB]
set_option maxRecDepth 4000 in
theorem qtA [MaxL] [TxtC] {H:qd} {q:Nat} {s:Fs} {v:FSv} (h:FSw H q s v) (hn:s.nodes.length < 100000) (hb:∀ n,n∈s.nodes→n.b.l.length≤32768∧n.safe.l.length≤32768) (hf:-9000000000000000000≤s.fuse∧s.fuse≤9000000000000000000) (_hrm:0≤s.room∧s.room≤1000000000) (name:List UInt8) (hl:name.length < 1000000)
  (a:Nat) (ha:a≤1000000000) (bi:Nat) (b:List UInt8) (hB:qe H bi = some (qf b)) (jG:b.length≤1000000000) :
  ∃ s' T v',call cx 8 [.optr q 5 0,.str name,.int .i64 a,(.osl bi b.length 0 b.length 1)] H = some (.int .i64 (QA s name a b),T)∧FSw T q s' v'∧ZG s name a b s'∧Ext (v.names q) H T∧NewL (v.names q) (v'.names q) H.length∧v'.pc = v.pc:=by
 obtain ⟨H1,e1⟩:∃ H1,qo H [.str name] = H1:=⟨_,rfl⟩;have x1:Ext [] H H1:=e1 ▸ Ext.new H _;have w1:FSw H1 q s v:=h.ext x1 fun _ _=>by simp
 have hget_:=qci h (by omega) name hl;rw [e1] at hget_;have hx0:Ext (v.names q) H H1:=x1.mono fun _ hi=>by simp at hi
 by_cases c0:jD s name = 0
 rotate_left
 ·have hC:QA s name a b = jD s name:=by simp [QA,c0]
  have c0':¬ ((jD s name:Nat):Int) = 0:=by omega
  refine ⟨s,H1,v,?_,w1,by unfold ZG;rw [hC,if_neg c0];exact .inl rfl,hx0,NewL.refl _ _,rfl⟩;rw [hC];refine zt Tryz.func8 rfl ⟨rfl,rfl⟩ ?_;simp [-qe,-ql,-qo,Tryz.f8,hget_,c0]
 obtain ⟨VX,i,Jj⟩:=qfD c0;obtain ⟨hi,J7,vF⟩:=qdE Jj;have hiv:i < v.nd.length:=by rw [h.len];exact hi
 obtain ⟨jf,jO⟩:=w1.node i _ _ (qU hi) (Zg hiv);have hbn:=hb _ (vQ hi);have vj:s.nodes[i]? = some s.nodes[i]:=qU hi;obtain ⟨n,hnd⟩:∃ n,s.nodes[i] = n:=⟨_,rfl⟩;rw [hnd] at jf jO hbn vj J7 vF;simp only [Nd.cells,J7] at jf;simp only [Nd.data] at jO;have hgp:YV s v name = .optr (vh v i) 3 0:=by simp [YV,VX,Jj]
 rw [c0,hgp] at hget_;obtain ⟨c,bx,cy,H2,Lx,Ly,Jl,g2,rx2,ry2,mx,my,KZ,x2⟩:=qhi jO (by omega) (by omega);have w2:FSw H2 q s v:=w1.ext x2 fun _ _=>by simp
 have hcx:c ∉ Lx:=fun hc=>by have:=mx c hc;omega
 have hcy:c ∉ Ly:=fun hc=>by have:=my c hc;omega
 have hbiH:=qt hB;have Xz:=x1.len;have hB2:qe H2 bi = some (qf b):=x2.get (x1.get hB (by simp)) (by simp)
 have hBc2:bi ∉ c :: Lx:=fun hc=>by
  rcases List.mem_cons.1 hc with hc | hc
  ·omega
  ·have:=(mx _ hc).1;omega
 obtain ⟨bx',H3,Lx',vY,g3,rx3,x3,n3,hcx'⟩:=qmu g2 rx2 hcx (by omega) a ha bi b hB2 hBc2 jG;have hC0:(ve s.nodes name).bind (s.nodes[·]?) = some n:=by rw [Jj];exact vj
 have old1:∀ j,j∈v.names q→j < H1.length:=fun j hj=>w1.lt hj
 have dis:∀ j,j∈v.names q→j ∉ c :: Lx:=by
  intro j hj hc;have:=old1 j hj;rcases List.mem_cons.1 hc with hc | hc
  ·omega
  ·have:=(mx j hc).1;omega
 have w3:FSw H3 q s v:=w2.ext x3 dis;have hl12:=x2.len;have hl23:=x3.len
 have xx3:Ext (v.names q) H H3:=by
  refine ⟨by have:=x1.len;omega,fun j hj zy=>?_⟩;have Qp:j < H1.length:=jr hj x1.len;rw [x3.out j (by omega) ?_,x2.out j Qp (by simp),x1.out j hj (by simp)];intro hc;rcases List.mem_cons.1 hc with hc | hc
  ·omega
  ·have:=(mx j hc).1;omega
 by_cases c1:kf a b = 0
 rotate_left
 ·have hc15:kf a b = 15:=by
   unfold kf at c1 ⊢;split
   ·rfl
   ·rename_i h0;rw [if_neg h0] at c1;exact absurd rfl c1
  have hC:QA s name a b = 15:=by simp [QA,c0,hC0,c1]
  rw [hc15] at vY;refine ⟨s,H3,v,?_,w3,by unfold ZG;rw [hC];exact .inl rfl,xx3,NewL.refl _ _,rfl⟩;rw [hC];refine zt Tryz.func8 rfl ⟨rfl,rfl⟩ ?_;simp [-qe,-ql,-qo,Tryz.f8,hget_,jf,Jl,vY]
 rw [c1] at vY
 have dLy:∀ j,j∈Ly→j ∉ c :: Lx:=fun j hj hc=>by
  rcases List.mem_cons.1 hc with hc | hc
  ·exact hcy (hc ▸ hj)
  ·exact (my j hj).2.2 hc
 have ry3:RowA H3 1 cy (qf n.safe.l) Ly:=ry2.ext x3 dLy;obtain ⟨nb,nsf,H4,hst,V8,hnsf,g4,x4⟩:=qgQ g3 rx3 ry3 hcx' hcy;have hl34:=x4.len
 have newx:∀ j,j∈c :: (Lx' ++ Ly)→H1.length≤j:=by
  intro j hj;rcases List.mem_cons.1 hj with hj | hj
  ·omega
  ·rcases List.mem_append.1 hj with hj | hj
   ·rcases n3 j hj with hj | hj
    ·exact (mx j hj).1
    ·omega
   ·exact (my j hj).1
 have w4:FSw H4 q s v:=w3.ext x4 fun j hj hc=>by have:=old1 j hj;have:=newx j hc;omega
 have xx4:Ext (v.names q) H H4:=by
  refine ⟨by have:=xx3.len;omega,fun j hj zy=>?_⟩;have Qp:j < H1.length:=jr hj x1.len;rw [x4.out j (by omega) fun hc=>by have:=newx j hc;omega,xx3.out j hj zy]
 have Zi:=qfC w4 (by omega) fun m hm=>by have:=hb m hm;omega
 obtain ⟨jl,qW⟩:=w4.node i _ _ vj (Zg hiv);simp only [Nd.cells,J7] at jl;simp only [Nd.data] at qW;have len1:=qbI g4;have len2:=qbI qW;rw [V8] at len1;obtain ⟨W,hW⟩:∃ W,vg n.b.l a b = W:=⟨_,rfl⟩;have hWge:=qg1 n.b.l a b;have hWle:=qey n.b.l a b hbn.1;rw [hW] at len1 hWge hWle;obtain ⟨dl,kG⟩:∃ dl,W.length - n.b.l.length = dl:=⟨_,rfl⟩;have zB:IntKind.i64.wrap ((W.length:Int) - (n.b.l.length:Int)) = (dl:Int):=by rw [wrap_i64];all_goals omega
 have zx:jM s.nodes≤s.nodes.length * 32768:=by
  have:∀ l:List Nd,(∀ m,m∈l→m.b.l.length≤32768)→jM l≤l.length * 32768:=by
   intro l
   induction l with
   | nil=>intro _;simp [jM]
   | cons m l ih =>
    intro hm;have h1:=ih fun k hk=>hm k (kS _ hk);have h2:=hm m (Za ..);simp only [jM,ju,QZ,Nat.one_mul];split <;> omega
  exact this _ fun m hm=>(hb m hm).1
 have zp:IntKind.i64.wrap ((jM s.nodes:Nat)+(dl:Int)) = ((jM s.nodes+dl:Nat):Int):=by rw [wrap_i64] <;> omega
 have r4:=w4.root;simp only [Fs.cells] at r4
 have Qf:QA s name a b = if n.b.l.length < W.length∧s.room < (jM s.nodes+dl:Nat) then 15 else (zS s).1:=by
  unfold QA;rw [if_neg (by simpa using c0),hC0];simp only [c1,hW,kG];simp
 by_cases c2:n.b.l.length < W.length∧s.room < (jM s.nodes+dl:Nat)
 ·rw [if_pos c2] at Qf;have q1:(0:Int) < (dl:Int):=by omega
  have q2:s.room < ((jM s.nodes:Nat):Int)+(dl:Int):=by omega
  refine ⟨s,H4,v,?_,w4,by unfold ZG;rw [Qf];exact .inl rfl,xx4,NewL.refl _ _,rfl⟩;rw [Qf];refine zt Tryz.func8 rfl ⟨rfl,rfl⟩ ?_;simp [-qe,-ql,-qo,-kh,Tryz.f8,hget_,jf,Jl,vY,hst,len1,len2,jl,zB,Zi,show 0 < dl by omega,zp,r4,q2]
 rw [if_neg c2] at Qf;have vl:=qcj w4 hf;obtain ⟨H5,e5⟩:∃ K,ql H4 q ((zS s).2.cells v) = K:=⟨_,rfl⟩;have w5:FSw H5 q (zS s).2 v:=e5 ▸ qbk w4 (qbl s);have x5:Ext [q] H4 H5:=e5 ▸ Ext.set H4 q _;rw [e5] at vl;have xx5:Ext (v.names q) H H5:=xx4.trans (x5.mono fun j hj=>by rw [List.mem_singleton.1 hj];simp [FSv.names]) (NewL.refl _ _);have q2:0 < dl→¬ s.room < ((jM s.nodes:Nat):Int)+(dl:Int):=by omega
 by_cases c3:(zS s).1 = 0
 rotate_left
 ·have c3':(zS s).1 = 18:=(qfE s).resolve_left c3;rw [c3'] at vl Qf;refine ⟨(zS s).2,H5,v,?_,w5,by unfold ZG;rw [Qf];exact .inr rfl,xx5,NewL.refl _ _,rfl⟩;rw [Qf];refine zt Tryz.func8 rfl ⟨rfl,rfl⟩ ?_;by_cases hd:0 < dl
  ·simp [-qe,-ql,-qo,-kh,Tryz.f8,hget_,jf,Jl,vY,hst,len1,len2,jl,zB,Zi,hd,zp,r4,q2 hd,vl]
  ·simp [-qe,-ql,-qo,-kh,Tryz.f8,hget_,jf,Jl,vY,hst,len1,len2,jl,zB,Zi,hd,vl]
 rw [c3] at vl Qf;obtain ⟨s2,Zj⟩:∃ s2,(zS s).2 = s2:=⟨_,rfl⟩;have Vk:s2.nodes = s.nodes:=by rw [← Zj];exact qbl s
 rw [Zj] at w5;obtain ⟨vx,J9⟩:=w5.node i n _ (by rw [Vk];exact vj) (Zg hiv);simp only [Nd.cells,J7] at vx;have XM:c < H5.length:=by have:=qt g4;have:=x5.len;omega
 obtain ⟨T,eT⟩:∃ K,ql H5 (vh v i) [.str n.name,.bool true,.optr c 2 0] = K:=⟨_,rfl⟩;refine ⟨{ s2 with nodes:=s.nodes.set i { n with b:=nb,safe:=nsf } },T,{ v with nd:=v.nd.set i (vh v i,c) },?_,?_,?_,?_,?_,rfl⟩
 ·rw [Qf];refine zt Tryz.func8 rfl ⟨rfl,rfl⟩ ?_;by_cases hd:0 < dl
  ·simp [-qe,-ql,-qo,-kh,Tryz.f8,hget_,jf,Jl,vY,hst,len1,len2,jl,zB,Zi,hd,zp,r4,q2 hd,vl,vx,XM,eT,qC]
  ·simp [-qe,-ql,-qo,-kh,Tryz.f8,hget_,jf,Jl,vY,hst,len1,len2,jl,zB,Zi,hd,vl,vx,XM,eT,qC]
 ·have VC:c ∉ v.names q:=fun hc=>by have:=old1 c hc;omega
  have g5:qe H5 c = some (Nd.data { n with b:=nb,safe:=nsf }):=x5.get g4 fun hc=>VC (by rw [List.mem_singleton.1 hc];simp [FSv.names]);have:=qj2 w5 (by rw [Vk];exact vj) g5 VC;simp only [Nd.cells,J7,eT,Vk] at this;rw [J7];exact this
 ·unfold ZG;rw [Qf,if_pos rfl,Zj];exact ⟨i,n,{ n with b:=nb,safe:=nsf },Jj,vj,rfl,rfl,rfl,by rw [V8],hnsf⟩
 ·have hm:=(qba (q:=q) (Zg hiv)).1;exact xx5.trans ((eT ▸ Ext.set H5 _ _:Ext [vh v i] H5 T).mono fun j hj=>by rw [List.mem_singleton.1 hj];exact hm) (NewL.refl _ _)
 ·intro j hj;have hlen:H.length≤H1.length:=x1.len;have ql:∀ x,x∈v.nd.set i (vh v i,c)→x∈v.nd∨x = (vh v i,c):=fun x hx=>qb7 hx;have hm:=qba (q:=q) (Zg hiv);simp only [FSv.names,zA,ji,kI] at hj hm ⊢;rcases hj with hj | hj | hj | ⟨x,hx,rfl⟩ | ⟨x,hx,rfl⟩
  ·exact .inl (.inl hj)
  ·exact .inl (.inr (.inl hj))
  ·exact .inl (.inr (.inr (.inl hj)))
  ·rcases ql x hx with hx | rfl
   ·exact .inl (.inr (.inr (.inr (.inl ⟨x,hx,rfl⟩))))
   ·exact .inl hm.1
  ·rcases ql x hx with hx | rfl
   ·exact .inl (.inr (.inr (.inr (.inr ⟨x,hx,rfl⟩))))
   ·exact .inr (by show H.length≤c;omega)
theorem qkF {F:qO} {f:Nat} {H:qd} {args:List D} {r:D} {T:qd} (h0:Jd args = []) (hf:args.all idFree = true) (hF:F f args [] = some (r,T)):Kp F f args H = some (mv [] H.length r,H ++ T.map (JY [] H.length)):=by
 have hren:∀ l:List D,l.all idFree = true→Yp [] l = some l:=by
  intro l
  induction l with
  | nil=>intro _;rfl
  | cons d l ih =>
   intro hl;simp only [qal,zL] at hl;rw [Yp,ih hl.2];unfold Xr;rw [if_pos hl.1]
 unfold Kp qby;rw [h0,show qgj H 6 (Jw [] []) = [] from rfl,hren args hf,show VM [] H [] = some [] from rfl];simp only;rw [if_pos List.nodup_nil,hF];simp [kU]
theorem quB {H:qd} {q:Nat} {s:Fs} {v:FSv} [MaxL] (W:FSw H q s v) (YD:s.off = true):call cx 9 [.optr q 5 0] H = some (.tup [.vsl true [] 0,.vsl true [] 0,.int .i64 18],H):=by
 have Zk:=qj4 W;rw [YD] at Zk;refine zt Tryz.func9 rfl ⟨rfl,rfl⟩ ?_;simp [-qe,Tryz.f9,Zk]
theorem qov (i:Inf):(jY i).length≤1000:=by
 have h1:=qaE i.seq.h i.head.toNat i.real.toNat;unfold jY;split
 ·decide
 ·split
  ·decide
  ·split
   ·omega
   ·split
    ·rw [qX];simp only [ju,jR];omega
    ·simp
theorem qcV {H:qd} {k n:Nat} {v:D} {cs:List D} {L:List Nat} {t e:TypeId} (h:RowA H k v cs L) (hu:Tryz.prog.underlying t = some (.slice e)) (hl:cs.length = n * k) (hk:0 < k):zj Tryz.prog t v = some (.int .i64 n):=by
 unfold zj;rcases h with ⟨rfl,hc,_⟩ | ⟨r,m,rfl,h2,_,_⟩
 ·rw [hc] at hl;have:n = 0:=(Nat.mul_eq_zero.1 (by simpa using hl.symm)).resolve_right (by omega);subst this;simp [hu]
 ·have:m = n:=Nat.eq_of_mul_eq_mul_right hk (by omega);subst this;simp [hu]
theorem qsV (l:List UInt8):j8 ([110,111,110,101] ++ l)≠0:=by
 unfold j8;split
 ·decide
 ·split
  ·decide
  ·rename_i h;have h2:=Classical.not_not.1 h;have h3:=congrArg List.head? h2;simp [signL] at h3
theorem qk7:∀ (cs:List D),(∀ d,d∈cs→∃ k n,d = .int k n)→jt (List.replicate cs.length CK.i) cs cs = some true
 | [],_=>rfl
 | d :: cs,h=>by
  obtain ⟨k,n,rfl⟩:=h d (Za ..);have ih:=qk7 cs fun d hd=>h d (kS _ hd);rw [ju,qai];simp only [jt,Ko,ih];simp
theorem qsU (h:HdP):jt [CK.i,CK.i,CK.i,CK.i,CK.i,CK.i,CK.i,CK.i,CK.i,CK.i,CK.i,CK.i,CK.i,CK.i,CK.i,CK.i,CK.i,CK.i,CK.i,CK.i,CK.i,CK.i,CK.i,CK.i,CK.i,CK.i,CK.i,CK.i,CK.i,CK.i,CK.i,CK.i,CK.i,CK.i,CK.i,CK.i,CK.i,CK.i,CK.i,CK.i,CK.i,CK.i,CK.i,CK.i,CK.i,CK.i,CK.i,CK.i,CK.i,CK.i,CK.i,CK.i,CK.i,CK.i,CK.i,CK.i,CK.i,CK.i,CK.i,CK.i,CK.i,CK.i,CK.i,CK.i,CK.i,CK.i,CK.i,CK.i,CK.i,CK.i,CK.i,CK.i,CK.i,CK.i,CK.i,CK.i,CK.i,CK.i,CK.i,CK.i,CK.i,CK.i,CK.i,CK.i,CK.i,CK.i,CK.i,CK.i,CK.i,CK.i,CK.i] (Enc.cells h) (Enc.cells h) = some true:=by
 have hl:(Enc.cells h:List D).length = 91:=by simp
 have:=qk7 (Enc.cells h) fun d hd=>by
  rw [HdP.cells] at hd;simp only [zA,ji,List.not_mem_nil,or_false,qf,qy,kI] at hd;rcases hd with rfl | rfl | rfl | ⟨_,_,rfl⟩ | ⟨_,_,rfl⟩ | ⟨_,_,rfl⟩ | ⟨_,_,rfl⟩ | ⟨_,_,rfl⟩ | rfl | rfl | rfl <;> exact ⟨_,_,rfl⟩
 rw [hl] at this;exact this
theorem qtS [MaxL]:call cx 4 [] [] = some (.bool true,[]):=call_some.2 ⟨900,by kernel_rfl⟩
set_option maxHeartbeats 8000000 in
set_option maxRecDepth 10000 in
theorem qsO [MaxL] (ls:Sl ZL) (sq:ID) (n:Int) (hn:zH n) (body:Sl UInt8):call cx 3 [(.vsl ls.nil (qk ls.l) ls.l.length),.agg (qf sq.l),.int .u64 n,(.vsl body.nil (qf body.l) body.l.length)] [] = some (.bool true,[]):=by
 refine qA Tryz.func3 rfl ⟨rfl,rfl⟩ ?_;have hfirst:=qtS;have lsq:=sq.h;obtain ⟨K0,vm⟩:∃ T:qd,qo [] (qf sq.l) = T:=⟨_,rfl⟩;have g0:qe K0 0 = some (qf sq.l):=by rw [← vm];rfl
 have tsq:List.take 16 (qf sq.l) = qf sq.l:=qP (by simp [lsq]);by_cases h6:6 < ls.l.length
 ·have h6':(6:Int) < (ls.l.length:Int):=by omega
  simp [Tryz.f3,hfirst,lsq,h6']
 by_cases hb6:600 < body.l.length
 ·have h6':¬ (6:Int) < (ls.l.length:Int):=by omega
  have hb6':(600:Int) < (body.l.length:Int):=by omega
  simp [Tryz.f3,hfirst,lsq,h6',hb6']
 have h6':¬ (6:Int) < (ls.l.length:Int):=by omega
 have hb6':¬ (600:Int) < (body.l.length:Int):=by omega
 simp [-qe,-ql,-qo,Tryz.f3,hfirst,lsq,h6',hb6',vm];refine Run.loopThen (fun (i:Nat) e K=>i≤ls.l.length∧qg e 0 = some (.vsl ls.nil (qk ls.l) ls.l.length)∧qg e 2 = some (.int .u64 n)∧qg e 3 = some (.vsl body.nil (qf body.l) body.l.length)∧qg e 5 = some (.optr 0 16 0)∧qg e 9 = some (.bool true)∧qg e 10 = some (.int .i64 i)∧K = K0∧∀ (j:Nat) (z:ZL),j < i→ls.l[j]? = some z→z.ln.l.length≤80) (fun i=>ls.l.length - i) 0 ?_ ?_
 ·exact ⟨vf _,by simp,by simp,by simp,by simp,by simp,by simp,rfl,fun j z h=>by omega⟩
 rintro i e K ⟨hi,p0,p2,p3,p5,p9,p10,rfl,hz80⟩;by_cases qi:i < ls.l.length
 ·have qq:(i:Int) < (ls.l.length:Int):=by omega
  have hw:IntKind.i64.wrap ((i:Int)+1) = ((i+1:Nat):Int):=by rw [wrap_i64] <;> omega
  have jZ:=Sl.nn qi;obtain ⟨z,hzd⟩:∃ z,z = ls.l[i]:=⟨_,rfl⟩;have zC:List.drop (i * 1) (qk ls.l) = Enc.cells z ++ qk (ls.l.drop (i+1)):=by rw [hzd];exact QD (n:=1) (α:=ZL) rfl qi
  rw [Nat.mul_one,ZL.enc] at zC;rw [jZ] at p0;have Qa:=z.zs_len;by_cases h80:80 < z.zs.length
  ·have h80':(80:Int) < (z.zs.length:Int):=(by omega);simp [-qe,-ql,-qo,p0,p2,p3,p5,p9,p10,qq,zC,h80']
  ·have h80':¬ (80:Int) < (z.zs.length:Int):=(by omega);simp [-qe,-ql,-qo,p0,p2,p3,p5,p9,p10,qq,zC,h80',hw];refine ⟨i+1,by omega,by omega,by rw [jZ],by omega,fun j y hj hy=>?_⟩;by_cases ZC:j < i
   ·exact hz80 j y ZC hy
   ·have:j = i:=(by omega);subst this;rw [qU qi] at hy;injection hy with hy;rw [← hy,← hzd,← Qa];omega
 have qq:¬ (i:Int) < (ls.l.length:Int):=by omega
 have Q3:i = ls.l.length:=by omega
 subst Q3
 obtain ⟨G,s0,v0,hlaid,W0,L0,pc0⟩:=qpb ls.nil ls.l ls.h (by omega) (fun z hzm=>by
  obtain ⟨j,hj⟩:=List.getElem?_of_mem hzm;have:=hz80 j z (List.getElem?_eq_some_iff.1 hj).1 hj;have:=z.zs_len;omega)
 obtain ⟨q1,Jf⟩:∃ q,q = K.length+0:=⟨_,rfl⟩;have lK0:K.length = 1:=by rw [← vm];rfl
 obtain ⟨K1,jv⟩:∃ T:qd,K ++ G.map (JY [] K.length) = T:=⟨_,rfl⟩
 have G1:Kp (call cx) 5 [.vsl ls.nil (qk ls.l) ls.l.length,.vsl true [] 0,.vsl true [] 0] K = some (.optr q1 5 0,K1):=by
  rw [qkF (by simp [Jd]) (by simp) hlaid,jv,Jf];simp [mv,kj]
 have W1:=qj3 K W0;have x1:=qjJ K G;rw [jv,← Jf] at W1;rw [jv] at x1;obtain ⟨v1,Ve⟩:∃ v,v = FSv.mvd v0 K.length:=⟨_,rfl⟩;rw [← Ve] at W1;obtain ⟨q2,jL⟩:∃ q,q = K1.length+0:=⟨_,rfl⟩;obtain ⟨K2,jQ⟩:∃ T:qd,K1 ++ G.map (JY [] K1.length) = T:=⟨_,rfl⟩
 have G2:Kp (call cx) 5 [.vsl ls.nil (qk ls.l) ls.l.length,.vsl true [] 0,.vsl true [] 0] K1 = some (.optr q2 5 0,K2):=by
  rw [qkF (by simp [Jd]) (by simp) hlaid,jQ,jL];simp [mv,kj]
 have W2:=qj3 K1 W0;have x2:=qjJ K1 G;rw [jQ,← jL] at W2;rw [jQ] at x2;obtain ⟨v2,zQ⟩:∃ v,v = FSv.mvd v0 K1.length:=⟨_,rfl⟩;rw [← zQ] at W2;have n1:∀ j,j∈v1.names q1→j < K1.length:=fun j hj=>W1.lt hj;have n2:∀ j,j∈v2.names q2→K1.length≤j:=fun j hj=>qoy v0 K1.length 0 j (by rw [zQ,jL] at hj;exact hj);have pc2:v2.pc.length≤24:=by rw [zQ,qox];exact pc0
 have g2:qe K2 0 = some (qf sq.l):=x2.get (x1.get g0 (by simp)) (by simp);obtain ⟨inf,Q2⟩:∃ i:Inf,i = ⟨2,sq,n,77⟩:=⟨_,rfl⟩;have hio:InfOk inf:=by rw [Q2];exact ⟨hn,by show (0:Int)≤77∧(77:Int) < 18446744073709551616;decide⟩
 have X9:=qit inf hio;obtain ⟨name,vF⟩:∃ m,m = jY inf:=⟨_,rfl⟩;rw [← vF] at X9;have hna:name = vA sq.l n.toNat 77:=by rw [vF,Q2];rfl
 have zq:name.length = 81:=by rw [hna];exact qaE sq.h _ _
 have hright:JI name = true:=by rw [hna];exact qwa sq.h _ _
 have hname2:call cx 6 [.agg (.int .i64 2 :: (qf sq.l ++ [.int .u64 n,.int .u64 77]))] [] = some (.str name,[]):=by
  rw [← X9,Q2];rfl
 have ka:∀ x,x∈s0.nodes→x.name≠name:=fun x hx=>by
  obtain ⟨-,-,-,j,a1,a2,a3,a4⟩:=L0.nd x hx;rw [a4,vF,Q2];exact qos a2 a1 a3 sq n hn
 obtain ⟨K3,v3,hmake,W3,x3,nl3,pc3⟩:=qj5 W2 (by have:=L0.len;omega) (by omega) (fun m hm=>by have:=(L0.nd m hm).2.1;omega) (by rw [L0.fuse];omega) name (by omega);have hmk:=qoF L0 (qv _) ka hright;rw [hmk] at hmake W3;simp only at hmake W3;obtain ⟨s3,X5⟩:∃ s,s = ({ s0 with nodes:=s0.nodes ++ [⟨name,true,Sl.none,Sl.none⟩] }:Fs):=⟨_,rfl⟩;rw [← X5] at W3;obtain ⟨K4,JF⟩:∃ T,qo K3 [.int .u8 110,.int .u8 111,.int .u8 110,.int .u8 101] = T:=⟨_,rfl⟩;have x4:Ext [] K3 K4:=JF ▸ Ext.new K3 _;have g4:qe K4 K3.length = some [.int .u8 110,.int .u8 111,.int .u8 110,.int .u8 101]:=by rw [← JF,qN]
 obtain ⟨B,hB⟩:∃ b:List UInt8,b = [110,111,110,101] ++ body.l:=⟨_,rfl⟩;have lB:B.length = 4+body.l.length:=by rw [hB,qX];rfl
 have hapB:=qaQ (t:=26) (e:=5) (n:=body.l.length) (x:=(.vsl body.nil (qf body.l) body.l.length)) (xs:=qf body.l) g4 (by simp) (by simp) (by simp) (by simp) (by simp) (by simp) (c:=4) rfl (by omega);have hBc:[.int .u8 110,.int .u8 111,.int .u8 110,.int .u8 101] ++ qf body.l = qf B:=by rw [hB];rfl
 rw [hBc,← lB] at hapB;obtain ⟨K5,jP⟩:∃ T,ql K4 K3.length (qf B) = T:=⟨_,rfl⟩;rw [jP] at hapB;have x5:Ext [K3.length] K4 K5:=jP ▸ Ext.set K4 _ _;have g5:qe K5 K3.length = some (qf B):=by rw [← jP];exact qV (qt g4)
 have n3:∀ j,j∈v3.names q2→K1.length≤j∧j < K3.length:=fun j hj=>by
  refine ⟨?_,W3.lt hj⟩;rcases nl3 j hj with h | h
  ·exact n2 j h
  ·have:=x2.len;omega
 have W5:=(W3.ext x4 (fun _ _=>by simp)).ext x5 (fun j hj=>by have:=(n3 j hj).2;simp;omega);have hB0:B≠[]:=by rw [hB];simp
 obtain ⟨s6,K6,v6,X2,W6,hw6,x6,nl6,pc6⟩:=qtA W5 (by rw [X5];have:=L0.len;simp;omega) (fun m hm=>by
  rw [X5] at hm;simp only [ji,qaG] at hm;rcases hm with hm | rfl
  ·exact ⟨(L0.nd m hm).2.1,(L0.nd m hm).2.2.1⟩
  ·simp [Sl.none]) (by rw [X5];simp only;rw [L0.fuse];omega) (by rw [X5];simp only;rw [L0.room];omega) name (by omega) 0 (by omega) K3.length B g5 (by omega)
 obtain ⟨hwc,xn,xn1,xn2,xn3,xn4,Y8⟩:=qlp L0 (qv _) ka hright (by omega) hB0 X5 hw6;rw [hwc] at X2;replace X2:call cx 8 [.optr q2 5 0,.str name,.int .i64 0,.osl K3.length B.length 0 B.length 1] K5 = some (.int .i64 0,K6):=X2;have e17a:List.drop 17 (qf sq.l ++ [D.int .u64 0,.int .u64 0]) = [.int .u64 0]:=by simp [zk,List.drop_of_length_le,lsq]
 have e17:List.take 17 (qf sq.l ++ [D.int .u64 n,.int .u64 0]) = qf sq.l ++ [D.int .u64 n]:=by simp [kR,qP,lsq]
 have e18:List.drop 18 (qf sq.l ++ [D.int .u64 n,.int .u64 0]) = []:=by simp [lsq]
 have W16:=((((W1.ext x2 (fun _ _=>by simp)).ext x3 (fun j hj hc=>by have:=n1 j hj;have:=n2 j hc;omega)).ext x4 (fun _ _=>by simp)).ext x5 (fun j hj=>by have:=n1 j hj;have:=x2.len;have:=x3.len;simp;omega)).ext x6 (fun j hj hc=>by have:=n1 j hj;have:=(n3 j hc).1;omega)
 have hnm0:∀ m,m∈v8 s0→m.length≤1000∧m≠name:=fun m hm=>by
  unfold v8 at hm;rw [L0.off] at hm;simp only [kB,if_false,kI,List.mem_filter] at hm;obtain ⟨x,⟨hx,-⟩,rfl⟩:=hm;obtain ⟨-,-,-,j,a1,a2,a3,a4⟩:=L0.nd x hx;exact ⟨by rw [a4];exact qov j,ka x hx⟩
 have hN6:v8 s6 = v8 s0 ++ [name]:=by rw [Y8,qoq L0.off xn2,xn1]
 have hA6:∀ m,m∈v8 s0→zu s6 m = zu s0 m:=fun m hm=>by
  rw [Y8];exact qwn (by rw [xn1];exact fun e=>(hnm0 m hm).2 e.symm)
 have hAn:zu s6 name = B:=by
  have hfind:ve s6.nodes name = some s0.nodes.length:=by
   rw [Y8,← xn1];exact qjG xn2 (by rw [xn1];exact ka)
  have VX:Jr s6 name = 0:=by rw [Y8];simp [Jr,L0.off,hright]
  have qe:jD s6 name = 0:=by
   unfold jD;rw [VX,hfind];simp
  have hnode:s6.nodes[s0.nodes.length]? = some xn:=by rw [Y8];simp
  unfold zu;rw [qe,if_neg (by decide),hfind];simp only [VG,hnode];exact xn3
 obtain ⟨T7,ps1,o1,h1,Lo1,Lh1,hdir1,D1⟩:=qkl W16 L0.off (by have:=L0.len;omega) (fun m hm=>by have:=(L0.nd m hm).2.1;omega) (fun m hm=>(hnm0 m hm).1);have W67:=W6.ext D1.ext (fun _ _=>by simp)
 obtain ⟨T8,ps2,o2,h2,Lo2,Lh2,hdir2,D2⟩:=qkl W67 (by rw [Y8];exact L0.off) (by rw [Y8];have:=L0.len;simp;omega) (fun m hm=>by
  rw [Y8] at hm;simp only [ji,qaG] at hm;rcases hm with hm | rfl
  ·have:=(L0.nd m hm).2.1;omega
  ·rw [xn3];omega) (fun m hm=>by
  rw [hN6] at hm;rcases List.mem_append.1 hm with hm | hm
  ·exact (hnm0 m hm).1
  ·rw [List.mem_singleton.1 hm];omega)
 have Vh:vW name = (inf,true):=by
  rw [vF];exact qeZ inf (by rw [Q2];exact .inr ⟨.inl rfl,hn,by show (0:Int)≤77∧(77:Int) < 18446744073709551616;decide⟩)
 obtain ⟨M1,M2⟩:=quC (A:=v8 s0) (x:=name) (f:=zu s0) (g:=zu s6) (ok:=j6) (by rw [Vh]) (by rw [Vh,Q2];show (2:Int)≠4;decide) (by rw [hAn,hB];simp only [j6,decide_eq_false_iff_not];exact qsV _) hA6;rw [← hN6] at M1 M2;obtain ⟨fl,Zq⟩:∃ l,l = (jn (v8 s0)).filter (vX (zu s0) j6):=⟨_,rfl⟩;obtain ⟨hc,hhc⟩:∃ c,c = ((jn (v8 s0)).filter (vw (zu s0) j6)).length:=⟨_,rfl⟩;have D1p:=D1.pl;have D1o:=D1.oR;have D1h:=D1.hR;have D2p:=D2.pl;have D2o:=D2.oR;have D2h:=D2.hR;have D1f:=D1.file;have D2f:=D2.file;rw [List.take_length] at D1p D1o D1h D1f D2p D2o D2h D2f;rw [M1] at D2p D2o D2f;rw [← Zq] at D1p D1o D1f D2p D2o D2f;have hlo1:zj Tryz.prog 36 o1 = some (.int .i64 fl.length):=qcV (e:=42) D1o (by simp) (qbn _ _ D1p) (by omega);have hlo2:zj Tryz.prog 36 o2 = some (.int .i64 fl.length):=qcV (e:=42) D2o (by simp) (qbn _ _ D2p) (by omega);have hlh1:zj Tryz.prog 37 h1 = some (.int .i64 hc):=qcV (e:=9) D1h (by simp) (by rw [hhc];simp) (by omega);have hlh2:zj Tryz.prog 37 h2 = some (.int .i64 ((hc:Int)+1)):=qcV (n:=hc+1) (e:=9) D2h (by simp) (by rw [qcL,M2,hhc];simp) (by omega)
 have qY:hc≤1000:=by
  rw [hhc];refine jA (List.length_filter_le _ _) ?_;rw [qhc];unfold v8;rw [L0.off];simp only [kB,if_false,List.length_map];have:=List.length_filter_le (fun x:Nd=>x.there) s0.nodes;have:=L0.len;omega
 have hfll:fl.length≤1000:=by
  rw [Zq];refine jA (List.length_filter_le _ _) ?_;rw [qhc];unfold v8;rw [L0.off];simp only [kB,if_false,List.length_map];have:=List.length_filter_le (fun x:Nd=>x.there) s0.nodes;have:=L0.len;omega
 have whc:IntKind.i64.wrap ((hc:Int)+1) = ((hc:Int)+1):=by rw [wrap_i64] <;> omega
 have hl22:zj Tryz.prog 22 (.vsl ls.nil (qk ls.l) ls.l.length) = some (.int .i64 ls.l.length):=by simp
 simp [-qe,-ql,-qo,-qM,-zj,-Int.natCast_add,hl22,p0,p2,p3,p5,p9,p10,qq,G1,G2,g2,lsq,tsq,hname2,hmake,JF,hapB,X2,e17a,e17,e18,g4,hdir1,hdir2,hlo1,hlo2,hlh1,hlh2,whc];clear hlaid G1 G2 X2 hmake p0 p2 p3 p5 p9 p10;obtain ⟨IB,hIB⟩:∃ I:Nat→qn→qd→Prop,I = fun (i:Nat) (e:qn) (K':qd)=>i≤fl.length∧qg e 9 = some (.bool true)∧qg e 11 = some (.optr q1 5 0)∧qg e 14 = some o1∧qg e 17 = some o2∧qg e 20 = some (.int .i64 i)∧Ext [] T8 K':=⟨_,rfl⟩;refine KB IB (fun i=>fl.length - i) 0 (fun ex e K'=>ex = .exit 2∧IB fl.length e K') ?_ ?_ ?_
 ·rw [hIB];exact ⟨vf _,by simp,by simp,by simp,by simp,by simp,Ext.refl _ _⟩
 ·rw [hIB];rintro i e K' ⟨hi,p9,p11,p14,p17,p20,xK⟩;by_cases qi:i < fl.length
  ·have qq:(i:Int) < (fl.length:Int):=(by omega);have hw:IntKind.i64.wrap ((i:Int)+1) = ((i+1:Nat):Int):=(by rw [wrap_i64] <;> omega);have XK:fl[i]? = some fl[i]:=qU qi;obtain ⟨nm,hnmd⟩:∃ x,fl[i] = x:=⟨_,rfl⟩;rw [hnmd] at XK;have hp1l:i < ps1.length:=(by omega);have hp2l:i < ps2.length:=(by omega);have hp1d:ps1[i]? = some ps1[i]:=qU hp1l;have hp2d:ps2[i]? = some ps2[i]:=qU hp2l;obtain ⟨f1,hf1⟩:∃ x,ps1[i] = x:=⟨_,rfl⟩;obtain ⟨f2,hf2⟩:∃ x,ps2[i] = x:=⟨_,rfl⟩;rw [hf1] at hp1d;rw [hf2] at hp2d;obtain ⟨r1,JE⟩:=qfI fl ps1 i nm f1 D1p XK hp1d;obtain ⟨r2,Xb⟩:=qfI fl ps2 i nm f2 D2p XK hp2d;have gf1:=D1f i nm f1 XK hp1d;have gf2:=D2f i nm f2 XK hp2d
   have Z9:nm∈v8 s0:=by
    have:=ZS XK;rw [Zq] at this;exact sortL_mem.1 (List.mem_filter.1 this).1
   rw [hA6 nm Z9] at gf2;obtain ⟨A,hA⟩:∃ a,a = zu s0 nm:=⟨_,rfl⟩;rw [← hA] at gf1 gf2;have gf1K:qe K' f1 = some (ZI A):=xK.get (D2.ext.get gf1 (by simp)) (by simp);have gf2K:qe K' f2 = some (ZI A):=xK.get gf2 (by simp);have V7:ZH fl ps1≠[]:=fun e0=>by rw [e0] at JE;simp at JE
   have hne2:ZH fl ps2≠[]:=fun e0=>by rw [e0] at Xb;simp at Xb
   obtain ⟨b1,m1,X8,KP,hg1,-⟩:=(((D1o.ext D2.ext (fun _ _=>by simp)).ext xK (fun _ _=>by simp))).own V7;obtain ⟨b2,m2,ho2,hl2,hg2,-⟩:=(D2o.ext xK (fun _ _=>by simp)).own hne2;have ln1:=qbn _ _ D1p;have ln2:=qbn _ _ D2p;have jl:m1 = fl.length:=(by omega);have qW:m2 = fl.length:=(by omega);subst jl;rw [qW] at ho2 hl2;rw [KP] at X8;rw [hl2] at ho2;rw [X8] at p14;rw [ho2] at p17;obtain ⟨C1,ZF⟩:∃ c,ZH fl ps1 = c:=⟨_,rfl⟩;obtain ⟨C2,jh⟩:∃ c,ZH fl ps2 = c:=⟨_,rfl⟩;rw [ZF] at hg1 ln1 JE;rw [jh] at hg2 ln2 Xb;obtain ⟨K8,hhd1,x8⟩:=qiO gf1K;have gf28:qe K8 f2 = some (ZI A):=x8.get gf2K (by simp);obtain ⟨K9,hhd2,x9⟩:=qiO gf28;have hg28:qe K8 b2 = some C2:=x8.get hg2 (by simp);have hg18:qe K8 b1 = some C1:=x8.get hg1 (by simp);have hg29:qe K9 b2 = some C2:=x9.get hg28 (by simp);have hg19:qe K9 b1 = some C1:=x9.get hg18 (by simp);have gf18:qe K8 f1 = some (ZI A):=x8.get gf1K (by simp);have gf19:qe K9 f1 = some (ZI A):=x9.get gf18 (by simp);have gf29:qe K9 f2 = some (ZI A):=x9.get gf28 (by simp);have lx8:=x8.len;have lx9:=x9.len;have lci:(Enc.cells (vW nm).1:List D).length = 19:=by simp
   have d1:List.drop (i * 21+20) C1 = .optr f1 5 0 :: r1:=by
    rw [← kA,JE];simp [lci]
   have d2:List.drop (i * 21+20) C2 = .optr f2 5 0 :: r2:=by
    rw [← kA,Xb];simp [lci]
   simp [-qe,-ql,-qo,-qM,p9,p11,p14,p17,p20,qq,hw,hg1,hg2,ln1,ln2,JE,Xb,hhd1,hhd2,d1,d2,hg28,hg29,gf28,gf2K,lx8,lx9,qsU];exact ⟨i+1,by omega,by omega,by rw [X8],by rw [ho2],by omega,(xK.trans x8 (NewL.refl _ _)).trans x9 (NewL.refl _ _)⟩
  ·have qq:¬ (i:Int) < (fl.length:Int):=(by omega);have Q3:i = fl.length:=(by omega);subst Q3;simp [-qe,-ql,-qo,-qM,-zj,p9,p11,p14,p17,p20,hlo1];exact xK
 ·rw [hIB];rintro ex e K' ⟨rfl,-,p9,p11,p14,p17,p20,xK⟩;have Wf:=((W16.ext D1.ext (fun _ _=>by simp)).ext D2.ext (fun _ _=>by simp)).ext xK (fun _ _=>by simp);obtain ⟨U1,hfuse,Wf1,y1⟩:=qtI Wf;obtain ⟨U2,c2,sf2,hsync,Wf2,hsf2,y2⟩:=qtC Wf1 (by simp only;have:=L0.len;omega) rfl [115,121,115,116,101,109,46,106,111,117,114,110,97,108] (by simp);have hf2:sf2.fuse = 0:=by rcases hsf2 with rfl | rfl <;> rfl
  obtain ⟨U3,hsd,Wf3,y3⟩:=qtB Wf2 hf2;have YD:=quB Wf3 rfl;simp [-qe,-ql,-qo,-qM,p9,p11,hfuse,hsync,hsd,YD]
theorem qtr {n:Nat} {cs:List D} (h:vS Tryz.prog (n+1) 3 cs):∃ a:I6,cs = Enc.cells a∧qf2 a.v:=by
 obtain ⟨x,rfl,w⟩:=qto un3 h;exact ⟨⟨x⟩,rfl,w⟩
theorem qtq {n:Nat} {cs:List D} (h:vS Tryz.prog (n+1+1) 28 cs):∃ z:ZL,cs = Enc.cells z∧True:=by
 obtain ⟨s,rfl,u1,u2⟩:=qju (α:=I6) ql4 (fun l=>qtr) h;exact ⟨⟨s⟩,rfl,trivial⟩
end Go.Ev.S
namespace Go.Ev
open Go Go.Proofs
theorem qvY {H:Type} {enc:TypeId × Value→H} {P:Program} {W:World} {base n:Nat} {t e:TypeId} {v:Value} {d:DataW H} {ps:List MemPlace} (hu:P.underlying t = some (.array 16 e)) (he:P.underlying e = some (.int .u8)) (hp:Ks P (n+2) t = true) (hv:Value.okWide P W .any base t v) (h:DataW.Trod enc P W 0 (fun _=>true) true t v d ps∧Wok P t d) :
  ∃ i:ID,Rep (· < W.heap.size) W zo [] (.agg (qf i.l)) v:=by
 obtain ⟨ds,h1,h2⟩:=qdc hp h;obtain ⟨i,rfl⟩:=qtn hu he h1;obtain ⟨vs,rfl⟩:=qwt hu hv;exact ⟨i,quH h2⟩
end Go.Ev
namespace Go.Proofs
open Go.Shelf
def Tryz.laysM219_ren:Go.Shelf.Ren:=⟨fun | 219=>147 | 217=>105 | 225=>186 | 224=>187 | 267=>188 | 266=>148 | 314=>200 | n=>n,fun | 9=>9 | 3=>3 | 4=>4 | 5=>5 | 46=>122 | 146=>212 | 51=>43 | n=>n,fun | 1=>1 | n=>n⟩
theorem Tryz.laysM219:Go.Proofs.LaysM.n219 Tryz.prog Tryz.laysM219_ren:={
 mixed:=by kernel_rfl
 f217:=Tryz.func105.trans (congrArg some (by kernel_rfl))
 f219:=Tryz.func147.trans (congrArg some (by kernel_rfl))
 f224:=Tryz.func187.trans (congrArg some (by kernel_rfl))
 f225:=Tryz.func186.trans (congrArg some (by kernel_rfl))
 f266:=Tryz.func148.trans (congrArg some (by kernel_rfl))
 f267:=Tryz.func188.trans (congrArg some (by kernel_rfl))
 f314:=Tryz.func200.trans (congrArg some (by kernel_rfl))
 t3:=Tryz.underlying3
 a3:=Tryz.isAgg3
 z3:=Tryz.sizeOf3
 v3:=Tryz.zeroValue3
 t4:=Tryz.underlying4
 a4:=Tryz.isAgg4
 z4:=Tryz.sizeOf4
 v4:=Tryz.zeroValue4
 t5:=Tryz.underlying5
 a5:=Tryz.isAgg5
 z5:=Tryz.sizeOf5
 v5:=Tryz.zeroValue5
 t9:=Tryz.underlying9
 a9:=Tryz.isAgg9
 z9:=Tryz.sizeOf9
 v9:=Tryz.zeroValue9
 t46:=Tryz.underlying122
 a46:=Tryz.isAgg122
 z46:=Tryz.sizeOf122
 v46:=Tryz.zeroValue122
 t51:=Tryz.underlying43
 a51:=Tryz.isAgg43
 z51:=Tryz.sizeOf43
 v51:=Tryz.zeroValue43
 t146:=Tryz.underlying212
 a146:=Tryz.isAgg212
 z146:=Tryz.sizeOf212
 v146:=Tryz.zeroValue212
 g1:=by kernel_rfl
 i3:=by kernel_rfl
 i4:=by kernel_rfl
 i5:=by kernel_rfl
 i9:=by kernel_rfl
 i46:=by kernel_rfl
 i51:=by kernel_rfl
 i146:=by kernel_rfl
 m1:=by kernel_rfl
 s1_3:=fun w h=>Go.Proofs.cell_of_shapedOpen_int (zero:= #[.int .i64 0]) (t:=3) h (of_decide_eq_true (by kernel_rfl)) (by kernel_rfl) rfl (by kernel_rfl) (by kernel_rfl) Tryz.underlying3 }
end Go.Proofs
namespace Go.Proofs.YtjjofhpbbndccaaGreatDoor.scanHinders
open Go.ChangeShapes Go.WideShapes Go.ChangeAt Go.RowKit
theorem jf0:(Rows.scanHindersRow.wf (OpenSpec.ofChange Rows.scanHindersSpec)) = true:=by kernel_rfl
theorem jf1:(laidOutB Tryz.prog) = true:=by kernel_rfl
theorem jf2:(mapsRowed Tryz.prog) = true:=by kernel_rfl
theorem jf3:(Tryz.f3.params.all (Tryz.prog.readableRec ·)) = true:=by kernel_rfl
theorem jf4:(namedTie Tryz.prog Rows.scanHindersRow.named Rows.scanHindersSpec.vars) = true:=by kernel_rfl
theorem jf5:((Rows.scanHindersRow.stops == [])) = true:=by kernel_rfl
theorem jf6:((Tryz.prog.stops == [])) = true:=by kernel_rfl
theorem jf7:((Rows.scanHindersRow.knobs == [])) = true:=by kernel_rfl
theorem jf8:((Tryz.prog.stopKnobs == [])) = true:=by kernel_rfl
theorem jf9:((Rows.scanHindersRow.inPlace == Tryz.prog.inPlace 3)) = true:=by kernel_rfl
theorem qsk:((Rows.scanHindersRow.unfollowed == Tryz.prog.unfollowed 3)) = true:=by kernel_rfl
theorem qsj:((Rows.scanHindersRow.recurses == Tryz.prog.recurses 3)) = true:=by kernel_rfl
theorem qsi:((Rows.scanHindersRow.named == Tryz.prog.varsNamed 3)) = true:=by kernel_rfl
theorem qsh:((Rows.scanHindersRow.maps == (Tryz.f3.params.toList ++ Rows.scanHindersSpec.plain.varTypes Tryz.prog).any (Tryz.prog.mapsRec ·))) = true:=by kernel_rfl
theorem qsg:((Rows.scanHindersRow.ifaces == (Tryz.f3.params.toList ++ Rows.scanHindersSpec.plain.varTypes Tryz.prog).any (Tryz.prog.ifacesRec ·))) = true:=by kernel_rfl
theorem qsf:((Rows.scanHindersRow.mapsOut == Tryz.prog.mapsAmong Tryz.f3.resultTypes.toList)) = true:=by kernel_rfl
theorem qse:((Rows.scanHindersRow.loops == (Tryz.f3.params.toList ++ Rows.scanHindersSpec.plain.varTypes Tryz.prog).any (Tryz.prog.loopsFrom ·))) = true:=by kernel_rfl
theorem qsd:((Rows.scanHindersRow.wideKeys == (Tryz.f3.params.toList ++ Rows.scanHindersSpec.plain.varTypes Tryz.prog ++ Tryz.f3.resultTypes.toList).any (Tryz.prog.wideKeysFrom ·))) = true:=by kernel_rfl
theorem qsc:(Rows.scanHindersSpec.vars.all (Tryz.prog.varReadable ·)) = true:=by kernel_rfl
theorem qsb:(Tryz.f3.resultTypes.all (fun t=>Tryz.prog.readableRec t && decide (t < Tryz.prog.types.size))) = true:=by kernel_rfl
theorem qrZ:((Rows.scanHindersRow.ifacesOut == Tryz.f3.resultTypes.toList.any (Tryz.prog.ifacesRec ·))) = true:=by kernel_rfl
theorem qrY:((Rows.scanHindersRow.loopsOut == Tryz.f3.resultTypes.toList.any (Tryz.prog.loopsFrom ·))) = true:=by kernel_rfl
theorem qrX:((Rows.scanHindersRow.plainKeys == Tryz.prog.plainKeys)) = true:=by kernel_rfl
theorem qrW:(Rows.scanHindersRow.shortTexts.isNone) = true:=by kernel_rfl
theorem qrV:(Tryz.prog.stopsHeard) = true:=by kernel_rfl
theorem qrU:(Tryz.prog.mayEnter) = true:=by kernel_rfl
theorem qrT:((Rows.scanHindersRow.lifted == Tryz.prog.liftsFinal)) = true:=by kernel_rfl
theorem qrS:((Tryz.prog.make == some Rows.scanHindersRow.make)) = true:=by kernel_rfl
theorem qrR:((Rows.scanHindersRow.kinds == (if Rows.scanHindersRow.domain.isEmpty then [] else Tryz.f3.params.toList.map fun t=>match Tryz.prog.underlying t with | some (.int k)=>some k | _=>none))) = true:=by kernel_rfl
theorem qrQ:((Rows.scanHindersRow.pinned == Rows.scanHindersRow.pinnedBy)) = true:=by kernel_rfl
theorem qrO:((Rows.scanHindersRow.veiled == (Tryz.f3.params.toList ++ Rows.scanHindersSpec.plain.varTypes Tryz.prog ++ Tryz.f3.resultTypes.toList).any (Tryz.prog.veiledRec ·))) = true:=by kernel_rfl
theorem qrN:(Rows.scanHindersRow.veiledFits Tryz.prog Tryz.f3.params.toList (Tryz.f3.params.toList ++ Rows.scanHindersSpec.plain.varTypes Tryz.prog ++ Tryz.f3.resultTypes.toList)) = true:=by kernel_rfl
theorem jW {a b:Bool} (h1:a = true) (h2:b = true):(a && b) = true:=by rw [h1,h2];rfl
set_option maxRecDepth 100000 in
theorem qud:joinedFacts Tryz.prog 3 Tryz.f3 Rows.scanHindersSpec Rows.scanHindersRow = true:=by
 unfold joinedFacts;exact (jW (jW (jW (jW (jW (jW (jW (jW (jW (jW (jW (jW (jW (jW (jW (jW (jW (jW (jW (jW (jW (jW (jW (jW (jW (jW (jW (jW (jW (jW (jW jf0 jf1) jf2) jf3) jf4) jf5) jf6) jf7) jf8) jf9) qsk) qsj) qsi) qsh) qsg) qsf) qse) qsd) qsc) qsb) qrZ) qrY) qrX) qrW) qrV) qrU) qrT) qrS) qrR) qrQ) qrO) qrN)
theorem pw:Rows.scanHindersRow.wfByText (OpenSpec.ofChange Rows.scanHindersSpec) = true:=by kernel_rfl
theorem pm:Tryz.pinned.checked.prog.mainIs = some ((true,Rows.scanHindersCard.stood.harness.2).1,(true,Rows.scanHindersCard.stood.harness.2).2.toList):=by kernel_rfl
theorem pf:Tryz.prog.funcNamed Tryz.f3.name = some 3:=by kernel_rfl
theorem pl:true = Tryz.prog.looks []:=by kernel_rfl
theorem pa:([22,24,25,26].all fun u=>!Tryz.prog.wantsStandIn u) = true:=by kernel_rfl
theorem pg:false = Rows.scanHindersRow.goesBy Tryz.pinned.checked.prog:=by kernel_rfl
end Go.Proofs.YtjjofhpbbndccaaGreatDoor.scanHinders
namespace Go.Ev
open Go Go.Proofs Go.ChangeShapes Go.WideShapes Go.ChangeAt Go.RowKit
theorem qcH {H:Type} {P:Program} {t:TypeId} {ts:List TypeId} {d:DataW H} {r:List (DataW H)} (h:(DataW.weightsEach P (t :: ts) (d :: r)).all (fun k=>decide (k≤reachBytes)) = true) :
  Wok P t d∧(DataW.weightsEach P ts r).all (fun k=>decide (k≤reachBytes)) = true:=by
 unfold DataW.weightsEach at h;rw [List.all_append,zL] at h;exact ⟨fun k hk=>by simpa using List.all_eq_true.1 h.1 k hk,h.2⟩
theorem qts {H:Type} {enc:TypeId × Value→H} {a:Assume} {C:Checked} {os:Os} {f:FuncId} {fn:Func} {s:ChangeSpec} {conds:List PathCond} {apart fresh handsOn again:Bool} {X:World→Array Value→Prop}
  (hX:∀ (w w':World) (args:Array Value),w.heap = w'.heap→X w args→X w' args)
  (own:ownKnob C.prog.godebug = none) (started:os.Started) (noInit:C.prog.inits.idxOf? f = none) (hfn:C.prog.funcs[f]? = some fn)
  (witness:∃ (w:World) (tape:Tape) (i:Input),w.os = os∧(w.forCall tape i).Shaped C.prog∧i.vars = []∧Input.okWide C.prog (w.forCall tape i) .any w.heap.size f i ∧
   ((s.pre enc C.prog fn conds apart (w.forCall tape i).memory i.args∧X (w.forCall tape i).memory i.args)∧sizedMet enc C.prog fn (OpenSpec.ofChange s) apart (w.forCall tape i).memory i.args)∧a.holds C.prog (lone (Frame.enter C.prog f i.args .normal) [] (w.forCall tape i)))
  (contract:∀ (W:World) (base:Nat) (args:Array Value) (ds gs:List (DataW H)) (before:List MemPlace),
   (∀ (j:Nat) t v,fn.params[j]? = some t→args[j]? = some v→Value.okWide C.prog W .any base t v) →
   DataW.Whole enc C.prog fn.params.toList s.vars apart W args.toList ds gs before→(DataW.weightsEach C.prog (fn.params.toList ++ (OpenSpec.ofChange s).bare.plain.varTypes C.prog) (ds ++ gs)).all (fun k=>decide (k≤reachBytes)) = true→X W args→W.ShapedOpen C.prog →
   Calls C.prog f args W fun e W'=>∃ v,e = .returned v∧s.post enc C.prog fn apart fresh handsOn again W args v W') :
  ReturnsInHanded a C os f .any (fun w args=>(s.pre enc C.prog fn conds apart w args∧X w args)∧sizedMet enc C.prog fn (OpenSpec.ofChange s) apart w args) (s.post enc C.prog fn apart fresh handsOn again):=by
 refine returnsInHanded_of_calls own started noInit witness ?_;intro w tape i _ hsh _ hok hpre _;obtain ⟨_,_,_,fn',hfn',_,_,_,_,X4⟩:=hok;have e:fn' = fn:=Option.some.inj (hfn'.symm.trans hfn);subst e;obtain ⟨⟨_,hx⟩,hz⟩:=hpre;obtain ⟨_,ds,gs,before,hw,hs⟩:=hz;have hw':=DataW.Whole.of_heap (w':=w.forCall tape i) (by rfl) hw;refine (contract (w.forCall tape i) w.heap.size i.args ds gs before X4 hw' hs (hX _ _ _ (by rfl) hx) hsh).mono fun e W' ⟨v,he,hp⟩=>?_;subst he;exact ChangeSpec.post_blind hp
end Go.Ev
