import Derived.Test.YtglpgdajjpipgaaGreatDoorC7
import Derived.Shelf.LaysM
import Derived.Shelf.Strings.Shaped
import Derived.Test.YtglpgdajjpipgaaGreatDoorProg
import Derived.Test.YtglpgdajjpipgaaGreatDoorTie
import Derived.Test.YtglpgdajjpipgaaGreatDoorCards
import Derived.LaidMore
import Derived.SevenTiedAt
import Derived.Handed
set_option maxHeartbeats 8000000
set_option maxRecDepth 100000
namespace Go.Ev.S
open Go Go.Proofs Go.Ev
theorem q0v[MaxL][TxtC]{H:qe}{s:Nat}(nil:Bool)(zs:List Int)(c:nil=true->zs=[])(b:zs.length<=1000000)(k:Nat)(p:qd H s=some (jU nil zs k)):
  ∃r,call cx 53 [.optr s 2 0] H=some r/\∃(g m j e d:Nat)(n:Nat)(k':Nat)(T:qe),r=(.agg (qf (idN g).l++(qf (idN m).l++(qf (idN j).l++[.int .i64 (e+1:Nat),.int .i64 (d+1:Nat),.int .i64 32768,.bool ((n:Int)==1)]))),T)/\e<7/\d<4/\qd T s=some (jU nil zs k')/\Ext [s] H T:=by
 have A:=qx p;obtain⟨Z,hZ⟩:∃Z:List D,Z=List.replicate 104 (.int .u8 0):=⟨_,rfl⟩;obtain⟨u,S,J,-,x⟩:=KS nil zs c b k 5 wH wH;obtain⟨g,ZD,i1⟩:=qhF u;obtain⟨G,E,w,-,h2⟩:=KS nil zs c b S 5 wH wH;obtain⟨m,aa,i2⟩:=qhF G;obtain⟨O,I,R,-,v⟩:=KS nil zs c b E 5 wH wH;obtain⟨j,K,M⟩:=qhF O;obtain⟨e,U,t,-,P⟩:=KS nil zs c b I 7 wH wH;obtain⟨d,N,Y,-,V⟩:=KS nil zs c b U 4 wH wH;obtain⟨n,Q,F,-,W⟩:=KS nil zs c b N 2 wH wH;have q:=qz ((e:Int)+1) ((e+1:Nat):Int);have z:=qz ((d:Int)+1) ((d+1:Nat):Int);have B:∀a,qd (qr H a) s=some (jU nil zs k):=fun a=>by rw[vw A];exact p
 have gs2:∀a X,qd (qn (qr H a) s X) s=some X:=fun a X=>zk wX;have gs3:∀a X,qd (qn (qr H a) s X) H.length=some a:=fun a X=>by rw[zW wC,zo]
 have o:∀a X C,qd (qn (qn (qr H a) s X) H.length C) H.length=some C:=fun a X C=>zk (by rw[kK,jg];omega);have sl:=qeR nil zs;have L:=qeS nil zs;have sc:=qeT nil zs;refine vz (X:=cx) (f:=53) _ Tryz.func53 rfl ⟨rfl,rfl⟩ ?_;simp[-qd,-qn,-qr,Tryz.f53,q,z,B,gs2,gs3,o,QI,L,x,h2,v,P,V,W,i1,i2,M,(idN g).h,(idN m).h,(idN j).h,Zp,jf,qJ,List.drop_of_length_le];refine⟨g,m,j,e,d,n,Q,_,⟨rfl,rfl⟩,wC,wC,?_,?_⟩
 .rw[zW wC];exact gs2 _ _
 .refine⟨by rw[kK,kK,jg];omega,fun i hi y=>?_⟩;have:i≠s:=fun h0=>y (by rw[h0];simp);rw[zW wC,zW this,vw hi]
end Go.Ev.S
namespace Go.Ev
open Go Go.Proofs
mutual
theorem qow:∀(d:D),idFree d=true->noZ d=true
 | .agg cs,h=>by simp only[idFree] at h;simp only[noZ];exact qdd cs h
 | .tup cs,h=>by simp only[idFree] at h;simp only[noZ];exact qdd cs h
 | .fn _ cs,h=>by simp only[idFree] at h;simp only[noZ];exact qdd cs h
 | .iface _ d,h=>by simp only[idFree] at h;simp only[noZ];exact qow d h
 | .optr ..,h=>by simp[idFree] at h
 | .osl ..,h=>by simp[idFree] at h
 | .bool _,_=>rfl
 | .int _ _,_=>rfl
 | .str _,_=>rfl
 | .nilp,_=>rfl
 | .nilf,_=>rfl
 | .nili,_=>rfl
 | .vptr _,_=>rfl
 | .vsl ..,_=>rfl
 | .raw _,_=>rfl
theorem qdd:∀(l:List D),idFree.idFreeL l=true->noZ.noZL l=true
 |[],_=>rfl
 |d::l,h=>by
  simp only[idFree.idFreeL,zX] at h;simp only[noZ.noZL,qow d h.1,qdd l h.2,Bool.and_self]
end
@[simp] theorem q8g (a b:List D):noZ.noZL (a++b)=(noZ.noZL a&&noZ.noZL b):=by
 induction a with
 |nil=>simp[noZ.noZL]
 |cons d l c=>simp[noZ.noZL,c,Bool.and_assoc]
@[simp] theorem q8d (l:List UInt8):noZ.noZL (qf l)=true:=qdd _ wE
@[simp] theorem q8f {α:Type} [Enc α] (a:α):noZ.noZL (Enc.cells a)=true:=qdd _ (qlC a)
@[simp] theorem q8e {α:Type} [Enc α] (l:List α):noZ.noZL (qt l)=true:=qdd _ (qlj l)
end Go.Ev
namespace Go.Ev.S
open Go Go.Proofs Go.Ev
structure MkI (H:qe) (s:Nat) (nil:Bool) (zs:List Int) (q:Nat) (i:Nat) (K:qe) (m:Jm) (kk:Nat) (oD:D) (oc:List D) (Lo:List Nat):Prop where
 w:JmW K q m
 ok:m.Ok
 main:ArrOk m.b.length m.main m.ne
 cn:∀k,k∈m.da->k.cnt<=4*m.ne
 ne:m.ne=i
 tl:m.tl<=6+i
 bl:m.b.length<=700+2200*i
 da:m.da.length<=4*i
 fi:m.fi.length<=4*i
 new:∀j,j∈m.names q->H.length<=j
 seq:qd K s=some (jU nil zs kk)
 ext:Ext [s] H K
 oR:RowA K 20 oD oc Lo
 ol:oc.length=i*20
 oN:∀j,j∈Lo->j∉m.names q/\H.length<=j
def mkI(H:qe)(s:Nat)(nil:Bool)(zs:List Int)(q:Nat)(i:Nat)(e:qu)(K:qe):Prop:=
 i<=6/\qi e 0=some (.optr s 2 0)/\qi e 1=some (.int .i64 6)/\qi e 7=some (.optr q 147 0)/\∃m kk oD a Lo,qi e 8=some oD/\MkI H s nil zs q i K m kk oD a Lo
theorem q0o[MaxL][TxtC]{H:qe}{s:Nat}(nil:Bool)(zs:List Int)(qY:nil=true->zs=[])(hz:zs.length<=1000000)(k:Nat)(hg:qd H s=some (jU nil zs k)):
  ∃T q m d,call cx 26 [.optr s 2 0,.int .i64 6] H=some (.tup [.optr q 147 0,d],T)/\JmW T q m/\m.Ok/\m.b.length<=20000/\m.ne<=6/\Ext [s] H T/\(∀j,j∈m.names q->H.length<=j):=by
 suffices hs:∃r,call cx 26 [.optr s 2 0,.int .i64 6] H=some r/\∃(T:qe)(q:Nat)(m:Jm)(d:D),r=(.tup [.optr q 147 0,d],T)/\JmW T q m/\m.Ok/\m.b.length<=20000/\m.ne<=6/\Ext [s] H T/\(∀j,j∈m.names q->H.length<=j) by
  obtain⟨r,hc,T,q,m,d,rfl,t⟩:=hs;exact⟨T,q,m,d,hc,t⟩
 refine vz (X:=cx) (f:=26) _ Tryz.func26 rfl ⟨rfl,rfl⟩ ?_;have aY:=qx hg;obtain⟨_,QU,j1,j2,j3,x4,x5,x6,k1,K1,rfl,aX,aW,g1,e1⟩:=q0v nil zs qY hz k hg;obtain⟨A,hA⟩:∃A,A=idN j1:=⟨_,rfl⟩;obtain⟨B,hB⟩:∃A,A=idN j2:=⟨_,rfl⟩;obtain⟨S,hS⟩:∃A,A=idN j3:=⟨_,rfl⟩;obtain⟨key,O⟩:∃k,k=((x6:Int)==1):=⟨_,rfl⟩;rw[<-hA,<-hB,<-hS,<-O] at QU;obtain⟨cf,o⟩:∃c,c=qf A.l++(qf B.l++(qf S.l++[.int .i64 (x4+1:Nat),.int .i64 (x5+1:Nat),.int .i64 32768,.bool key])):=⟨_,rfl⟩;rw[<-o] at QU;have la:=A.h;have lb:=B.h;have ls:=S.h;have aG:cf.length=52:=by rw[o];simp[la,lb,ls]
 have aj:cf.all idFree=true:=by rw[o];simp[qf,idFree]
 have aF:=zca aj;obtain⟨K2,zN⟩:=ql (qr K1 cf);have e2:=zJ zN;have g2:=js zN;have gs2:qd K2 s=some (jU nil zs k1):=e2.get g1 wE;obtain⟨x,k2,hx,-,hn⟩:=KS nil zs qY hz k1 6 wH wH;have wx:=zg (x:Int) (x:Int);obtain⟨K3,ZF⟩:=ql (qn K2 s (jU nil zs k2));have e3:=vZ ZF;have g3:=kc ZF gs2;have aZ:=e1.len;have aA:qd K3 K1.length=some cf:=e3.get g2 wG;obtain⟨K4,q,m0,Z9,w4,o4,e4,n4,U,aV,b4,W,aI,ak⟩:=q15 K3 A B S (x4+1) (x5+1) wC wC key x wC;rw[<-o] at Z9;have sl:=qeR nil zs;have sf:=qeS nil zs;have sc:=qeT nil zs;have am:List.take 52 cf=cf:=qJ wC;have l2:=e2.len;have l3:=e3.len;have l4:=e4.len;have ag:qd K4 s=some (jU nil zs k2):=e4.get g3 wE;have ai:Ext [s] H K4:=((e1.trans e2 (fun j a=>xB)).trans e3 (fun j a=>.inl a)).trans e4 (fun j a=>xB);simp[-qd,-qn,-qr,-qG,Tryz.f26,QU,zo,qdr,aF,aG,zN,g2,gs2,sf,hn,wx,ZF,aA,am,Z9,l3];refine JC (mkI H s nil zs q) (fun i=>6-i) 0 (fun ex e K=>ex=.exit 0/\∃i,mkI H s nil zs q i e K) ?_ ?_ ?_
 .refine⟨wC,wE,wE,wE,m0,k2,.vsl true [] 0,[],[],wE,w4,o4,?_,fun k hk=>?_,U,wC,wC,?_,?_,fun j a=>?_,ag,ai,RowA.nil _ _,rfl,fun j a=>xB⟩
  .rw[ak,U];exact ArrOk.zero _
  .rw[W] at hk;simp at hk
  .rw[W];simp
  .rw[aI];simp
  .have:=n4 j a;omega
 .rintro i e K ⟨hi,p0,p1,V,m,kk,oD,oc,Lo,Y,I⟩
  have p:qK Tryz.prog 82 oD=some (.int .i64 i):=by
   have C:=I.ol;rcases I.oR with⟨hv,V7,_⟩|⟨ro,nn,hv,Q2,_,_⟩
   .rw[V7] at C;have:i=0:=(by simp at C;omega);rw[hv,this];simp
   .have:nn=i:=wC;rw[hv,this];simp
  by_cases qg:i<6
  .have qo:(i:Int)<6:=wC;have u:=q0l nil zs kk;have z:=I.seq;have v:qn K s (jU nil zs kk)=K:=qdq z;by_cases hm:kk<zs.length
   .have G:=qk5 I.w;have XC:=I.tl;obtain⟨n1,vi⟩:∃n,n=m.tl+1:=⟨_,rfl⟩;have aw:=zg ((m.tl:Int)+1) (n1:Int);obtain⟨r,k3,hR,Vk⟩:=q0h nil zs qY hz kk n1 wC;obtain⟨aU,aa,aM,aq,az⟩:=hR;have aH:r.fields.nil=false:=Sl.nn (i:=0) wC;obtain⟨K5,kR⟩:=ql (qn K s (jU nil zs k3));have e5:=vZ kR
    have sN:∀j,j∈m.names q->j∉[s]:=fun j a hc=>by
     have:=I.new j a;rw[List.mem_singleton.1 hc] at this;omega
    have w5:=qfj I.w e5 sN;have g5:=kc kR z;have L:=r.boot.h;obtain⟨g,N⟩:∃c:List D,c=.int .u64 r.seq:: .int .u64 r.real:: .int .u64 r.mono::(qf r.boot.l++[.vsl false (qt r.fields.l) r.fields.l.length]):=⟨_,rfl⟩;have F:(Enc.cells r:List D)=g:=(by rw[Rec.cells,N,aH];rfl);rw[F] at Vk;have y:g.length=20:=(by rw[N];simp[L]);have J:g.all idFree=true:=(by rw[<-F];exact Enc.free r);have ao:=zca J;have aL:noZ.noZL g=true:=qdd _ (by rw[Qv];exact J);have aD:∀n,shift.shiftL n g=g:=fun n=>qaK n _ (by rw[Qv];exact J);have R:List.take 20 g=g:=qJ wC;obtain⟨K6,Qk⟩:=ql (qr K5 g);have Q:=zJ Qk;have g6:=js Qk;have w6:=X9 w5 Q;have r1:=aa.real;have r2:=aa.mono;unfold jx at r1 r2;obtain⟨rn,aB⟩:∃n:Nat,r.real=(n:Int):=⟨r.real.toNat,wC⟩;obtain⟨mn,av⟩:∃n:Nat,r.mono=(n:Int):=⟨r.mono.toNat,wC⟩;have jS:=I.bl;have aS:=I.da;have aQ:=I.fi;have qQ:=I.ne;obtain⟨K7,m',ae,E⟩:=q21 w6 I.ok I.main I.cn r.fields.l aM aq az rn mn wC wC r.boot wC wC wC wC wC;rw[<-aB,<-av] at ae;have d1:List.drop 1 g=.int .u64 r.real::List.drop 2 g:=(by rw[N];rfl);have d2:List.drop 2 g=.int .u64 r.mono::List.drop 3 g:=(by rw[N];rfl);have d3:List.take 16 (List.drop 3 g)=qf r.boot.l:=(by rw[N];simp[L]);have aJ:List.drop 19 g=[.vsl false (qt r.fields.l) r.fields.l.length]:=(by rw[N];simp[L]);have aR:K.length=K5.length:=(by rw[<-kR,kK]);have ah:∀j,j∈m.names q->j<K5.length:=fun j a=>qde w5 a;have g7:qd K7 K5.length=some g:=E.ext.get g6 (fun hc=>by have:=ah _ hc;omega);obtain⟨K8,Ks⟩:=ql (qr K7 g);have e8:=zJ Ks;have g8:=js Ks;have C:=I.ol
    have ac:∀j,j∈Lo->j∉[s]:=fun j a hc=>by
     have:=(I.oN j a).2;rw[List.mem_singleton.1 hc] at this;omega
    have aK:=(((I.oR.ext e5 ac).ext Q (fun _ _=>wE)).ext E.ext (fun j a=>(I.oN j a).1)).ext e8 (fun _ _=>wE);obtain⟨aC,K9,ay,ax,aE,e9,n9⟩:=aK.append (P:=Tryz.prog) (st:=82) (xt:=82) (e:=45) (x:=.osl K7.length 20 0 1 20) (xs:=g) (m:=1) wE wE (by simp[-qd,g8,y,R]) wE wC (by rw[y]) wC wM wM;have M:K7≠[]:=fun e0=>by have:=qx g7;rw[e0] at this;simp at this
    simp[-qd,-qn,-qr,-qG,-qK,p0,p1,V,Y,p,qo,z,sf,u,hm,v,G,aw,Vk,kR,zo,qdr,ao,y,Qk,g6,d1,d2,d3,aJ,ae,g7,R,Ks,ax,M,aL,aD];have aT:=I.ext.len;have aP:=Q.len;have aO:=E.ext.len;have aN:=e8.len;have au:∀j,j∈Lo->j<K.length:=fun j a=>I.oR.lt a
    have Z:∀j,j∈m'.names q->j∉Lo:=fun j a hc=>by
     rcases E.new j a with t|t
     .exact(I.oN j hc).1 t
     .have:=au j hc;omega
    have sm:s∉m.names q:=fun hc=>by have:=I.new s hc;omega
    refine⟨i+1,wC,wC,wE,wE,wE,m',k3,aC,oc++g,ay,wE,?_,E.ok,E.main,E.cn,?_,?_,?_,?_,?_,fun j a=>?_,?_,?_,aE,?_,fun j a=>?_⟩
    .exact qfj (X9 E.w e8) e9 Z
    .have:=E.ne;omega
    .have:=E.tl;omega
    .have:=E.bl;omega
    .have:=E.da;omega
    .have:=E.fi;omega
    .rcases E.new j a with t|t
     .exact I.new j t
     .omega
    .exact e9.get (e8.get (E.ext.get (Q.get g5 wE) sm) wE) (fun hc=>ac s hc wE)
    .have z1:=(I.ext.trans e5 (fun j a=>.inl a)).trans Q (fun j a=>xB);have z2:=z1.trans E.ext (fun j a=>.inr (I.new j a));have z3:=z2.trans e8 (fun j a=>xB);exact z3.trans e9 (fun j a=>.inr (I.oN j a).2)
    .rw[zp,C,y];omega
    .rcases n9 j a with t|t
     .exact⟨fun hc=>Z j hc t,(I.oN j t).2⟩
     .exact⟨fun hc=>by have:=qde E.w hc;omega,wC⟩
   .simp[-qd,-qn,-qr,-qG,-qK,p0,p1,V,Y,p,qo,z,sf,u,hm,v];exact⟨i,hi,wE,wE,wE,m,kk,oD,oc,Lo,wE,I⟩
  .have qo:¬(i:Int)<6:=wC;simp[-qd,-qn,-qr,-qG,-qK,p0,p1,V,Y,p,qo];exact⟨i,hi,wE,wE,wE,m,kk,oD,oc,Lo,wE,I⟩
 .rintro ex e K ⟨rfl,i,hi,p0,p1,V,m,kk,oD,oc,Lo,Y,I⟩;simp[-qd,-qn,-qr,-qG,-qK,V,Y];exact⟨_,_,⟨rfl,rfl⟩,m,I.w,I.ok,by have:=I.bl;omega,by have:=I.ne;omega,I.ext,I.new⟩
theorem qyL[MaxL][TxtC]:call cx 245 [.int .i64 16] []=some (.bool true,[]):=call_some.2 ⟨60,wF⟩
theorem qwz[MaxL][TxtC]:call cx 246 [.int .u64 16] []=some (.int .i64 4,[]):=call_some.2 ⟨100,wF⟩
def qgY(v i u:Nat)(s:List UInt8):Prop:=∃g,1<=g/\g<=16/\i=49+g/\s.length+g=16/\u<16^g/\ZX g u++s=hx v
theorem q3f{v i u:Nat}{s:List UInt8}(h:qgY v i u s)(d:16<=u):51<=i/\qgY v (i-1) (u/16) (vV (u % 16)::s):=by
 obtain⟨g,e,k,rfl,j,a,b⟩:=h;obtain⟨f,rfl⟩:∃f,g=f+1:=⟨g-1,wC⟩
 have c:1<=f:=by
  rcases f with _|f
  .simp at a;omega
  .omega
 refine⟨wC,f,c,wC,wC,wG,by rw[qeD] at a;omega,?_⟩;rw[ZX,if_neg wC] at b;simpa using b
theorem q3h{v i u:Nat}{s:List UInt8}(h:qgY v i u s)(b:u<16):vV u::s=hx v/\50<=i/\i<=65/\i+s.length=65:=by
 obtain⟨g,d,j,rfl,e,c,a⟩:=h;obtain⟨f,rfl⟩:∃f,g=f+1:=⟨g-1,wC⟩;rw[ZX,if_pos b] at a;exact⟨wr,wC,wC,wC⟩
theorem q3g{v i u:Nat}{s:List UInt8}(h:qgY v i u s):i+s.length=65/\50<=i:=by
 obtain⟨g,c,e,rfl,d,a,b⟩:=h;omega
theorem qtX{i j:Nat}(hi:i=j+1)(s:List UInt8)(c:UInt8):zU (List.replicate i (D.int .u8 0)++qf s) j [.int .u8 c.toNat]=List.replicate j (.int .u8 0)++qf (c::s):=by
 rw[hi];exact q4k j s c
theorem q4o[MaxL][TxtC](v:Nat)(Y:v<18446744073709551616):call cx 195 [.vsl true [] 0,.int .u64 v,.int .i64 16,.bool false,.bool false] []=some (.tup [.vsl true [] 0,.str (hx v)],[]):=by
 have X:=qyL;have h2:=qwz;have z:IntKind.u64.wrap 16=16:=wH
 have C:IntKind.u64.wrap 15=15:=wH
 have R:IntKind.u64.wrap 4=4:=wH
 refine qC Tryz.func195 rfl ⟨rfl,rfl⟩ ?_;simp[-List.reduceReplicate,Tryz.f195,X,h2,z,C,R]
 refine Run.loopThen (fun(q:Nat×Nat×List UInt8) e H'=>qgY v q.1 q.2.1 q.2.2/\q.2.1<18446744073709551616/\H'=[some (List.replicate q.1 (.int .u8 0)++qf q.2.2)]/\
   qi e 0=some (.vsl true [] 0)/\qi e 1=some (.int .u64 (q.2.1:Nat))/\qi e 3=some (.bool false)/\qi e 4=some (.bool false)/\qi e 10=some (.vsl true [] 0)/\qi e 11=some (.str [])/\qi e 12=some (.optr 0 65 0)/\
   qi e 13=some (.int .i64 (q.1:Nat))/\qi e 14=some (.int .u64 4)/\qi e 15=some (.int .u64 16)/\qi e 16=some (.int .u64 15)) (fun q=>q.2.1) (65,v,[]) ?_ ?_
 .refine⟨⟨16,wC,wC,wC,wE,wC,by simp[hx]⟩,Y,?_,?_⟩
  .show[some (List.replicate 65 (D.int .u8 0))]=[some (List.replicate 65 (D.int .u8 0)++[])];rw[Jd]
  .simp
 rintro⟨i,u,s⟩ e H' ⟨w,L,rfl,I,E,N,Q,p,n,k,g,l,t,o⟩;simp only at w L E g;obtain⟨J,aa⟩:=q3g w;obtain⟨j,K⟩:∃j,i=j+1:=⟨i-1,wC⟩;have P:=qz ((i:Int)-1) (j:Int);have d:(j:Int)<65:=wC
 have ZD:j+1<=i+s.length:=wC
 have f:j<=64:=wC
 by_cases QW:16<=u
 .have a:(16:Int)<=(u:Int):=by omega
  obtain⟨T,M⟩:=q3f w QW;have O:=q65 L;have h:=quI (u % 16) (YM _ wH);simp only[qlt] at h;have U:=qub u;have b:=qtX K s (vV (u % 16));have V:i-1=j:=wC
  rw[V] at M;have y:u/16<u:=wC
  have x:u/16<18446744073709551616:=wC
  generalize u/16=u2 at *;generalize vV (u % 16)=c at *;obtain⟨m,hm⟩:∃m,m=u % 16:=⟨_,rfl⟩;rw[<-hm] at O h;simp[-qea,I,E,N,Q,p,n,k,g,l,t,o,a,P,d,f,J,O,h,b];have B:(2:Int)^min 4 IntKind.u64.bits=16:=wH
  exact⟨j,u2,y,c::s,M,x,by simp[B,U]⟩
 .have a:¬(16:Int)<=(u:Int):=by omega
  obtain⟨r,_,_,_⟩:=q3h w wC;have h:=quI u wC;simp only[qlt] at h;have b:=qtX K s (vV u)
  have W:List.take (65-j) (List.drop j (List.replicate j (D.int .u8 0)++qf (vV u::s)))=qf (hx v):=by
   rw[KH wE,r];refine qJ ?_;rw[<-r];simp;omega
  have H:(j:Int)<=65:=wC
  have Z:j<=65:=wC
  have F:j<65:=wC
  have A:j+(65-j)=65:=wC
  have S:j+(hx v).length=65:=by rw[<-r];simp;omega
  have G:(hx v).length=65-j:=by rw[<-r];simp;omega
  have Y3:j+(qf (vV u::s)).length=65:=wG
  simp only[r] at b W Y3;generalize vV u=c at *;simp[-qea,I,E,N,Q,p,n,k,g,l,t,o,a,P,d,f,J,h,b,H,F,A,G]
theorem q3D[MaxL][TxtC](v:Nat)(a:v<18446744073709551616):call cx 147 [.int .u64 v,.int .i64 16] []=some (.str (hx v),[]):=by
 have h:=q4o v a;refine qC Tryz.func147 rfl ⟨rfl,rfl⟩ ?_;simp[Tryz.f147,h]
theorem q3E[MaxL][TxtC](v:Nat)(a:v<18446744073709551616):call cx 94 [.int .u64 v,.int .i64 16] []=some (.str (hx v),[]):=by
 have h:=q3D v a;refine qC Tryz.func94 rfl ⟨rfl,rfl⟩ ?_;simp[Tryz.f94,h]
theorem qz1(a b:UInt8):Vx .u8 (a.toNat:Int) (b.toNat:Int)=((a|||b).toNat:Int):=by
 unfold Vx;have h:=(a|||b).toNat_lt
 have e:(BitVec.ofInt IntKind.u8.bits (a.toNat:Int)|||BitVec.ofInt IntKind.u8.bits (b.toNat:Int)).toNat=(a|||b).toNat:=by
  simp[IntKind.bits];rfl
 rw[e,qeJ];omega
theorem qoR[MaxL][TxtC](c:UInt8):call cx 213 [.int .u8 c.toNat] []=some (.int .u8 ((c|||32).toNat:Int),[]):=by
 have h:=qz1 c 32;have a:Vx .u8 (c.toNat:Int) 32=((c|||32).toNat:Int):=h;refine qC Tryz.func213 rfl ⟨rfl,rfl⟩ ?_;simp[Tryz.f213,a]
theorem q68{p:UInt8->Bool}(h:((List.range 256).all fun k=>p (UInt8.ofNat k))=true)(c:UInt8):p c=true:=by
 have:=List.all_eq_true.1 h c.toNat (List.mem_range.2 c.toNat_lt);rw[UInt8.ofNat_toNat] at this;exact this
theorem qoS{c:UInt8}(h:c.toNat<48):(c|||32).toNat<97:=by
 have:=q68 (p:=fun c=>decide (c.toNat<48)==false||decide ((c|||32).toNat<97)) (by decide+kernel) c;simpa[h] using this
theorem qoT{c:UInt8}(h:c.toNat=95):122<(c|||32).toNat:=by
 simp[h]
def qfy(c:UInt8):Option Nat:=if 48<=c.toNat/\c.toNat<=57 then some (c.toNat-48) else if 97<=(c|||32).toNat/\(c|||32).toNat<=122 then some ((c|||32).toNat-97+10) else none
def Qu(b:Nat):List UInt8->Nat->Option Nat
 |[],n=>some n
 |c::l,n=>match qfy c with
  |none=>none
  |some d=>if b<=d then none else if 18446744073709551616<=n*b+d then none else Qu b l (n*b+d)
def pu(b:Nat)(s:List UInt8):Option Nat:=if s=[] then none else Qu b s 0
theorem qhc{x d:Nat}(hx:x<18446744073709551616)(a:d<16)(h:18446744073709551616<=x+d):IntKind.u64.wrap ((x:Int)+(d:Int))<(x:Int):=by
 simp only[IntKind.wrap,IntKind.signed,IntKind.bits];simp;omega
theorem qnI(b:Nat):∀(l:List UInt8)(n v:Nat),n<18446744073709551616->Qu b l n=some v->v<18446744073709551616
 |[],n,v,a,h=>by simp[Qu] at h;omega
 |c::l,n,v,a,h=>by
  unfold Qu at h;split at h
  .cases h
  .split at h
   .cases h
   .split at h
    .cases h
    .exact qnI b l _ v wC h
theorem qyG[MaxL][TxtC](b:Nat)(hb:b=10\/b=16)(s:List UInt8)(hs:s.length<4611686018427387904):
  (∃n,pu b s=some n/\call cx 172 [.str s,.int .i64 b,.int .i64 64] []=some (.tup [.int .u64 n,.nili],[]))\/
  (pu b s=none/\∃(x:Nat)(c:Int),(c=1\/c=2)/\call cx 172 [.str s,.int .i64 b,.int .i64 64] []=some (.tup [.int .u64 x,.iface 318 (.int .i64 c)],[])):=by
 suffices h:∃r,call cx 172 [.str s,.int .i64 b,.int .i64 64] []=some r/\((∃n,pu b s=some n/\r=(.tup [.int .u64 n,.nili],[]))\/(pu b s=none/\∃(x:Nat)(c:Int),(c=1\/c=2)/\r=(.tup [.int .u64 x,.iface 318 (.int .i64 c)],[]))) by
  obtain⟨r,k,⟨n,h2,rfl⟩|⟨h2,x,c,h3,rfl⟩⟩:=h
  .exact .inl ⟨n,h2,k⟩
  .exact .inr ⟨h2,x,c,h3,k⟩
 refine Vp (fun r=>(∃n:Nat,pu b s=some n/\r=(D.tup [.int .u64 n,.nili],[]))\/(pu b s=none/\∃(x:Nat)(c:Int),(c=1\/c=2)/\r=(D.tup [.int .u64 x,.iface 318 (.int .i64 c)],[]))) Tryz.func172 rfl ⟨rfl,rfl⟩ ?_;by_cases h0:s=[]
 .subst h0;simp[Tryz.f172,pu];exact⟨0,rfl⟩
 .have ZS:s.length≠0:=by simpa using h0
  have Q2:(2:Int)<=(b:Int):=wC
  have ag:(b:Int)<=36:=wC
  have ah:¬(b:Int)=0:=wC
  have kF:IntKind.u64.wrap (IntKind.u64.wrap (2^min 64 IntKind.u64.bits)-1)=18446744073709551615:=wH
  have J:pu b s=Qu b s 0:=by rw[pu,if_neg h0]
  rcases hb with rfl|rfl
  .simp[Tryz.f172,h0,kF];refine Run.loopThen (fun(z:Nat×Nat) e H'=>z.1<=s.length/\z.2<18446744073709551616/\Qu 10 (s.drop z.1) z.2=Qu 10 s 0/\H'=[some (qf s)]/\qi e 1=some (.int .i64 10)/\qi e 8=some (.bool false)/\qi e 9=some (.str s)/\qi e 10=some (.int .u64 1844674407370955162)/\qi e 11=some (.int .u64 18446744073709551615)/\qi e 12=some (.bool false)/\qi e 13=some (.int .u64 (z.2:Nat))/\qi e 99=some (.osl 0 s.length 0 s.length 1)/\qi e 100=some (.int .i64 s.length)/\qi e 101=some (.int .i64 (z.1:Nat))) (fun z=>s.length-z.1) (0,0) wE ?_;rintro⟨i,n⟩ e H' ⟨hi,hn,a,rfl,k,y,C,w,v,u,l,B,A,p⟩;simp only at hi hn a l p;by_cases j:i<s.length
   .have o:=zn j;have hw:=qz ((i:Int)+1) ((i+1:Nat):Int);have hc:=qoR s[i];have ae:=s[i].toNat_lt;rw[zZ j,Qu] at a;unfold qfy at a;by_cases hd:48<=s[i].toNat/\s[i].toNat<=57
    .rw[if_pos hd] at a;have t:(48:Int)<=(s[i].toNat:Int):=wC;have I:(s[i].toNat:Int)<=57:=wC;have g:¬(s[i].toNat:Int)=95:=wC;obtain⟨d,Y⟩:∃d,d=s[i].toNat-48:=⟨_,rfl⟩;have W:=zu8 ((s[i].toNat:Int)-48) (d:Int);rw[<-Y] at a;simp only at a;have R:d<16:=wC;have T:=zg (d:Int) (d:Int);by_cases S:10<=d
     .have H:(10:Int)<=(d:Int):=wC;rw[if_pos S] at a;simp[k,y,C,w,v,u,l,B,A,p,o,vE j,t,I,g,W,H];exact⟨wU,0,rfl⟩
     .have H:¬(10:Int)<=(d:Int):=wC;rw[if_neg S] at a;by_cases U:1844674407370955162<=n
      .have L:(1844674407370955162:Int)<=(n:Int):=wC;rw[if_pos wC] at a;simp[k,y,C,w,v,u,l,B,A,p,o,vE j,t,I,g,W,H,L];exact⟨wU,18446744073709551615,rfl⟩
      .have L:¬(1844674407370955162:Int)<=(n:Int):=wC;obtain⟨m,hm⟩:∃m,m=n*10:=⟨_,rfl⟩;have G:m<18446744073709551616:=wC;have V:=zg ((n:Int)*10) (m:Int);rw[<-hm] at a;by_cases P:18446744073709551616<=m+d
       .rw[if_pos P] at a;have hx:=qhc G wC P;generalize hX:IntKind.u64.wrap ((m:Int)+(d:Int))=X at hx;simp[k,y,C,w,v,u,l,B,A,p,o,vE j,t,I,g,W,H,L,T,V,hX,hx];exact⟨wU,18446744073709551615,rfl⟩
       .rw[if_neg P] at a;obtain⟨q,Z⟩:∃q,q=m+d:=⟨_,rfl⟩;have wq:=zg ((m:Int)+(d:Int)) (q:Int);have Q:¬(q:Int)<(m:Int):=wC;have O:¬(18446744073709551615:Int)<(q:Int):=wC;rw[<-Z] at a;simp[k,y,C,w,v,u,l,B,A,p,o,vE j,t,I,g,W,H,L,T,V,wq,Q,O,hw];exact⟨i+1,wC,wC,q,wC,a,rfl,wE⟩
    .rw[if_neg hd] at a;by_cases Xq:s[i].toNat<48
     .have lw:=qoS Xq;rw[if_neg wC] at a;have t:¬(48:Int)<=(s[i].toNat:Int):=wC;have g:¬(s[i].toNat:Int)=95:=wC;have F:¬(97:Int)<=((s[i]|||32).toNat:Int):=wC;generalize (s[i]|||32).toNat=E at *;simp only at a;simp[k,y,C,w,v,u,l,B,A,p,o,vE j,t,g,hc,F];exact⟨wU,0,rfl⟩
     .have t:(48:Int)<=(s[i].toNat:Int):=wC;have I:¬(s[i].toNat:Int)<=57:=wC;by_cases ac:s[i].toNat=95
      .have lw:=qoT ac;rw[if_neg wC] at a;have g:(s[i].toNat:Int)=95:=wC;have F:(97:Int)<=((s[i]|||32).toNat:Int):=wC;have N:¬((s[i]|||32).toNat:Int)<=122:=wC;generalize (s[i]|||32).toNat=E at *;rw[g] at hc;simp only at a;simp[k,y,C,w,v,u,l,B,A,p,o,vE j,g,hc,F,N];exact⟨wU,0,rfl⟩
      .have g:¬(s[i].toNat:Int)=95:=wC;have aa:=(s[i]|||32).toNat_lt;generalize (s[i]|||32).toNat=E at *;by_cases f:97<=E/\E<=122
       .rw[if_pos f] at a;have F:(97:Int)<=(E:Int):=wC;have N:(E:Int)<=122:=wC;obtain⟨d0,vF⟩:∃d,d=E-97:=⟨_,rfl⟩;obtain⟨d,Y⟩:∃d,d=d0+10:=⟨_,rfl⟩;have M:=zu8 ((E:Int)-97) (d0:Int);have K:=zu8 ((d0:Int)+10) (d:Int);rw[<-vF,<-Y] at a;simp only at a;have R:d<36:=wC;have T:=zg (d:Int) (d:Int);by_cases S:10<=d
        .have H:(10:Int)<=(d:Int):=wC;rw[if_pos S] at a;simp[k,y,C,w,v,u,l,B,A,p,o,vE j,t,I,g,hc,F,N,M,K,H];exact⟨wU,0,rfl⟩
        .have H:¬(10:Int)<=(d:Int):=wC;rw[if_neg S] at a;by_cases U:1844674407370955162<=n
         .have L:(1844674407370955162:Int)<=(n:Int):=wC;rw[if_pos wC] at a;simp[k,y,C,w,v,u,l,B,A,p,o,vE j,t,I,g,hc,F,N,M,K,H,L];exact⟨wU,18446744073709551615,rfl⟩
         .have L:¬(1844674407370955162:Int)<=(n:Int):=wC;obtain⟨m,hm⟩:∃m,m=n*10:=⟨_,rfl⟩;have G:m<18446744073709551616:=wC;have V:=zg ((n:Int)*10) (m:Int);rw[<-hm] at a;by_cases P:18446744073709551616<=m+d
          .rw[if_pos P] at a;have hx:=qhc G wC P;generalize hX:IntKind.u64.wrap ((m:Int)+(d:Int))=X at hx;simp[k,y,C,w,v,u,l,B,A,p,o,vE j,t,I,g,hc,F,N,M,K,H,L,T,V,hX,hx];exact⟨wU,18446744073709551615,rfl⟩
          .rw[if_neg P] at a;obtain⟨q,Z⟩:∃q,q=m+d:=⟨_,rfl⟩;have wq:=zg ((m:Int)+(d:Int)) (q:Int);have Q:¬(q:Int)<(m:Int):=wC;have O:¬(18446744073709551615:Int)<(q:Int):=wC;rw[<-Z] at a;simp[k,y,C,w,v,u,l,B,A,p,o,vE j,t,I,g,hc,F,N,M,K,H,L,T,V,wq,Q,O,hw];exact⟨i+1,wC,wC,q,wC,a,rfl,wE⟩
       .rw[if_neg f] at a;by_cases f3:97<=E
        .have F:(97:Int)<=(E:Int):=wC;have N:¬(E:Int)<=122:=wC;simp only at a;simp[k,y,C,w,v,u,l,B,A,p,o,vE j,t,I,g,hc,F,N];exact⟨wU,0,rfl⟩
        .have F:¬(97:Int)<=(E:Int):=wC;simp only at a;simp[k,y,C,w,v,u,l,B,A,p,o,vE j,t,I,g,hc,F];exact⟨wU,0,rfl⟩
   .have o:=zq j;rw[Jc wC,Qu] at a;simp[k,y,C,w,v,u,l,B,A,p,o];exact⟨n,wU,rfl⟩
  .simp[Tryz.f172,h0,kF];refine Run.loopThen (fun(z:Nat×Nat) e H'=>z.1<=s.length/\z.2<18446744073709551616/\Qu 16 (s.drop z.1) z.2=Qu 16 s 0/\H'=[some (qf s)]/\qi e 1=some (.int .i64 16)/\qi e 8=some (.bool false)/\qi e 9=some (.str s)/\qi e 10=some (.int .u64 1152921504606846976)/\qi e 11=some (.int .u64 18446744073709551615)/\qi e 12=some (.bool false)/\qi e 13=some (.int .u64 (z.2:Nat))/\qi e 99=some (.osl 0 s.length 0 s.length 1)/\qi e 100=some (.int .i64 s.length)/\qi e 101=some (.int .i64 (z.1:Nat))) (fun z=>s.length-z.1) (0,0) wE ?_;rintro⟨i,n⟩ e H' ⟨hi,hn,a,rfl,k,y,C,w,v,u,l,B,A,p⟩;simp only at hi hn a l p;by_cases j:i<s.length
   .have o:=zn j;have hw:=qz ((i:Int)+1) ((i+1:Nat):Int);have hc:=qoR s[i];have ae:=s[i].toNat_lt;rw[zZ j,Qu] at a;unfold qfy at a;by_cases hd:48<=s[i].toNat/\s[i].toNat<=57
    .rw[if_pos hd] at a;have t:(48:Int)<=(s[i].toNat:Int):=wC;have I:(s[i].toNat:Int)<=57:=wC;have g:¬(s[i].toNat:Int)=95:=wC;obtain⟨d,Y⟩:∃d,d=s[i].toNat-48:=⟨_,rfl⟩;have W:=zu8 ((s[i].toNat:Int)-48) (d:Int);rw[<-Y] at a;simp only at a;have R:d<16:=wC;have T:=zg (d:Int) (d:Int);by_cases S:16<=d
     .have H:(16:Int)<=(d:Int):=wC;rw[if_pos S] at a;simp[k,y,C,w,v,u,l,B,A,p,o,vE j,t,I,g,W,H];exact⟨wU,0,rfl⟩
     .have H:¬(16:Int)<=(d:Int):=wC;rw[if_neg S] at a;by_cases U:1152921504606846976<=n
      .have L:(1152921504606846976:Int)<=(n:Int):=wC;rw[if_pos wC] at a;simp[k,y,C,w,v,u,l,B,A,p,o,vE j,t,I,g,W,H,L];exact⟨wU,18446744073709551615,rfl⟩
      .have L:¬(1152921504606846976:Int)<=(n:Int):=wC;obtain⟨m,hm⟩:∃m,m=n*16:=⟨_,rfl⟩;have G:m<18446744073709551616:=wC;have V:=zg ((n:Int)*16) (m:Int);rw[<-hm] at a;by_cases P:18446744073709551616<=m+d
       .rw[if_pos P] at a;have hx:=qhc G wC P;generalize hX:IntKind.u64.wrap ((m:Int)+(d:Int))=X at hx;simp[k,y,C,w,v,u,l,B,A,p,o,vE j,t,I,g,W,H,L,T,V,hX,hx];exact⟨wU,18446744073709551615,rfl⟩
       .rw[if_neg P] at a;obtain⟨q,Z⟩:∃q,q=m+d:=⟨_,rfl⟩;have wq:=zg ((m:Int)+(d:Int)) (q:Int);have Q:¬(q:Int)<(m:Int):=wC;have O:¬(18446744073709551615:Int)<(q:Int):=wC;rw[<-Z] at a;simp[k,y,C,w,v,u,l,B,A,p,o,vE j,t,I,g,W,H,L,T,V,wq,Q,O,hw];exact⟨i+1,wC,wC,q,wC,a,rfl,wE⟩
    .rw[if_neg hd] at a;by_cases Xq:s[i].toNat<48
     .have lw:=qoS Xq;rw[if_neg wC] at a;have t:¬(48:Int)<=(s[i].toNat:Int):=wC;have g:¬(s[i].toNat:Int)=95:=wC;have F:¬(97:Int)<=((s[i]|||32).toNat:Int):=wC;generalize (s[i]|||32).toNat=E at *;simp only at a;simp[k,y,C,w,v,u,l,B,A,p,o,vE j,t,g,hc,F];exact⟨wU,0,rfl⟩
     .have t:(48:Int)<=(s[i].toNat:Int):=wC;have I:¬(s[i].toNat:Int)<=57:=wC;by_cases ac:s[i].toNat=95
      .have lw:=qoT ac;rw[if_neg wC] at a;have g:(s[i].toNat:Int)=95:=wC;have F:(97:Int)<=((s[i]|||32).toNat:Int):=wC;have N:¬((s[i]|||32).toNat:Int)<=122:=wC;generalize (s[i]|||32).toNat=E at *;rw[g] at hc;simp only at a;simp[k,y,C,w,v,u,l,B,A,p,o,vE j,g,hc,F,N];exact⟨wU,0,rfl⟩
      .have g:¬(s[i].toNat:Int)=95:=wC;have aa:=(s[i]|||32).toNat_lt;generalize (s[i]|||32).toNat=E at *;by_cases f:97<=E/\E<=122
       .rw[if_pos f] at a;have F:(97:Int)<=(E:Int):=wC;have N:(E:Int)<=122:=wC;obtain⟨d0,vF⟩:∃d,d=E-97:=⟨_,rfl⟩;obtain⟨d,Y⟩:∃d,d=d0+10:=⟨_,rfl⟩;have M:=zu8 ((E:Int)-97) (d0:Int);have K:=zu8 ((d0:Int)+10) (d:Int);rw[<-vF,<-Y] at a;simp only at a;have R:d<36:=wC;have T:=zg (d:Int) (d:Int);by_cases S:16<=d
        .have H:(16:Int)<=(d:Int):=wC;rw[if_pos S] at a;simp[k,y,C,w,v,u,l,B,A,p,o,vE j,t,I,g,hc,F,N,M,K,H];exact⟨wU,0,rfl⟩
        .have H:¬(16:Int)<=(d:Int):=wC;rw[if_neg S] at a;by_cases U:1152921504606846976<=n
         .have L:(1152921504606846976:Int)<=(n:Int):=wC;rw[if_pos wC] at a;simp[k,y,C,w,v,u,l,B,A,p,o,vE j,t,I,g,hc,F,N,M,K,H,L];exact⟨wU,18446744073709551615,rfl⟩
         .have L:¬(1152921504606846976:Int)<=(n:Int):=wC;obtain⟨m,hm⟩:∃m,m=n*16:=⟨_,rfl⟩;have G:m<18446744073709551616:=wC;have V:=zg ((n:Int)*16) (m:Int);rw[<-hm] at a;by_cases P:18446744073709551616<=m+d
          .rw[if_pos P] at a;have hx:=qhc G wC P;generalize hX:IntKind.u64.wrap ((m:Int)+(d:Int))=X at hx;simp[k,y,C,w,v,u,l,B,A,p,o,vE j,t,I,g,hc,F,N,M,K,H,L,T,V,hX,hx];exact⟨wU,18446744073709551615,rfl⟩
          .rw[if_neg P] at a;obtain⟨q,Z⟩:∃q,q=m+d:=⟨_,rfl⟩;have wq:=zg ((m:Int)+(d:Int)) (q:Int);have Q:¬(q:Int)<(m:Int):=wC;have O:¬(18446744073709551615:Int)<(q:Int):=wC;rw[<-Z] at a;simp[k,y,C,w,v,u,l,B,A,p,o,vE j,t,I,g,hc,F,N,M,K,H,L,T,V,wq,Q,O,hw];exact⟨i+1,wC,wC,q,wC,a,rfl,wE⟩
       .rw[if_neg f] at a;by_cases f3:97<=E
        .have F:(97:Int)<=(E:Int):=wC;have N:¬(E:Int)<=122:=wC;simp only at a;simp[k,y,C,w,v,u,l,B,A,p,o,vE j,t,I,g,hc,F,N];exact⟨wU,0,rfl⟩
        .have F:¬(97:Int)<=(E:Int):=wC;simp only at a;simp[k,y,C,w,v,u,l,B,A,p,o,vE j,t,I,g,hc,F];exact⟨wU,0,rfl⟩
   .have o:=zq j;rw[Jc wC,Qu] at a;simp[k,y,C,w,v,u,l,B,A,p,o];exact⟨n,wU,rfl⟩
theorem qvk[MaxL][TxtC](s:List UInt8)(h:s.length<=281474976710656):call cx 254 [.str s] []=some (.str s,[]):=by
 refine qe8 ?_;rw[qvc,qgG,if_pos h]
theorem qwE[MaxL][TxtC](f s:List UInt8)(h:s.length<=281474976710656):∃d,call cx 215 [.str f,.str s] []=some (.vptr d,[]):=by
 have hc:=qvk s h
 suffices a:∃r,call cx 215 [.str f,.str s] []=some r/\∃d,r=(.vptr d,[]) by
  obtain⟨r,b,d,rfl⟩:=a;exact⟨d,b⟩
 refine Vp (fun r=>∃d,r=(D.vptr d,[])) Tryz.func215 rfl ⟨rfl,rfl⟩ ?_;simp[Tryz.f215,hc]
theorem qyA[MaxL][TxtC](f s:List UInt8)(h:s.length<=281474976710656):∃d,call cx 216 [.str f,.str s] []=some (.vptr d,[]):=by
 have hc:=qvk s h
 suffices a:∃r,call cx 216 [.str f,.str s] []=some r/\∃d,r=(.vptr d,[]) by
  obtain⟨r,b,d,rfl⟩:=a;exact⟨d,b⟩
 refine Vp (fun r=>∃d,r=(D.vptr d,[])) Tryz.func216 rfl ⟨rfl,rfl⟩ ?_;simp[Tryz.f216,hc]
theorem qw9[MaxL][TxtC](f s:List UInt8)(h:s.length<=281474976710656)(b c:Int)(hc:c=1\/c=2):∃d,call cx 173 [.str f,.str s,.int .i64 b,.int .i64 64,.iface 318 (.int .i64 c)] []=some (.iface 320 (.vptr d),[]):=by
 obtain⟨i,a⟩:=qwE f s h;obtain⟨j,g⟩:=qyA f s h
 suffices e:∃r,call cx 173 [.str f,.str s,.int .i64 b,.int .i64 64,.iface 318 (.int .i64 c)] []=some r/\∃d,r=(.iface 320 (.vptr d),[]) by
  obtain⟨r,a,d,rfl⟩:=e;exact⟨d,a⟩
 refine Vp (fun r=>∃d,r=(D.iface 320 (.vptr d),[])) Tryz.func173 rfl ⟨rfl,rfl⟩ ?_;rcases hc with rfl|rfl
 .simp[Tryz.f173,g]
 .simp[Tryz.f173,a]
theorem qyH[MaxL][TxtC](b:Nat)(h:b=10\/b=16)(s:List UInt8)(f:s.length<=281474976710656):
  (∃n,pu b s=some n/\call cx 115 [.str s,.int .i64 b,.int .i64 64] []=some (.tup [.int .u64 n,.nili],[]))\/
  (pu b s=none/\∃(x:Nat)(d:List D),call cx 115 [.str s,.int .i64 b,.int .i64 64] []=some (.tup [.int .u64 x,.iface 320 (.vptr d)],[])):=by
 rcases qyG b h s wC with⟨n,a,e⟩|⟨a,x,c,hc,e⟩
 .refine .inl ⟨n,a,?_⟩;refine qC Tryz.func115 rfl ⟨rfl,rfl⟩ ?_;simp[Tryz.f115,e]
 .obtain⟨d,g⟩:=qw9 [80,97,114,115,101,85,105,110,116] s f b c hc;refine .inr ⟨a,x,d,?_⟩;refine qC Tryz.func115 rfl ⟨rfl,rfl⟩ ?_;simp[Tryz.f115,e,g]
theorem qth{l:List UInt8}{k:Nat}(h:k<l.length):jF (l.take (k+1))=jF (l.take k)++[vV (l[k].toNat/16),vV (l[k].toNat % 16)]:=by
 rw[Vs h,qtk];rfl
theorem q3e[MaxL][TxtC](l:List UInt8)(I:l.length=16):call cx 42 [.agg (qf l)] []=some (.str (jF l),[]):=by
 refine qC Tryz.func42 rfl ⟨rfl,rfl⟩ ?_;have A:List.take 16 (qf l)=qf l:=qJ wG;have G:16<=l.length:=wC
 simp[Tryz.f42,A,G]
 refine Run.loopThen (fun(k:Nat) e H'=>k<=16/\qi e 6=some (.agg (qf l))/\qi e 7=some (.int .i64 k)/\
   ((k=0/\qi e 3=some (.vsl true [] 0)/\H'=[some (qf l)])\/
   (∃w,qi e 3=some (.osl 1 (jF (l.take k)).length 0 (jF (l.take k)).length 1)/\H'=[w,some (qf (jF (l.take k)))])\/
   (∃w,qi e 3=some (.osl 0 (jF (l.take k)).length 0 (jF (l.take k)).length 1)/\H'=[some (qf (jF (l.take k))),w]))) (fun k=>16-k) 0 ?_ ?_
 .simp
 rintro k e H' ⟨M,p,o,s⟩;by_cases L:k<16
 .have v:(k:Int)<16:=by omega
  have g:k<l.length:=wC
  have y:=qz ((k:Int)+1) ((k+1:Nat):Int);have K:=vE g;have j:=qth g;have N:=l[k].toNat_lt;have r:=q64 l[k];have f:(2:Int)^min 4 IntKind.u8.bits=16:=wH
  have q:=qub l[k].toNat;have i:=quH (l[k].toNat/16) wC;have n:=quH (l[k].toNat % 16) wC;simp only[Xt] at i n
  have qd:(qf l)[k]?=some (.int .u8 l[k].toNat):=by
   rw[qN xF,qzG]
  have z:(jF (l.take k)).length=2*k:=by rw[qev,jj];omega
  generalize l[k]=b at *;generalize vV (b.toNat/16)=B at *;generalize vV (b.toNat % 16)=F at *;obtain⟨H,E⟩:∃m,m=b.toNat/16:=⟨_,rfl⟩;obtain⟨J,u⟩:∃m,m=b.toNat % 16:=⟨_,rfl⟩;rw[<-E] at q i;rw[<-u] at r n;have a:(jF (l.take (k+1))).length=(jF (l.take k)).length+2:=by rw[j];simp
  have d:qf (jF (l.take k))++[.int .u8 B.toNat,.int .u8 F.toNat]=qf (jF (l.take (k+1))):=by rw[j];simp[qf]
  have x:(jF (l.take k)).length+2<=qF:=zI (show _<=100 from wC) wH;rcases s with⟨rfl,c,rfl⟩|⟨w,c,rfl⟩|⟨w,c,rfl⟩
  .simp at d a;have u:2<=qF:=wH;simp[c,p,o,qd,r,f,q,i,n,u];exact⟨1,wC,wC,wE,by rw[a];simp[jF],by rw[<-d];simp[jF,qf]⟩
  .generalize jF (l.take k)=X at *;simp[c,p,o,v,y,qd,r,f,q,i,n,d,x];exact⟨k+1,wC,wC,wE,by rw[a],rfl⟩
  .generalize jF (l.take k)=X at *;simp[c,p,o,v,y,qd,r,f,q,i,n,d,x];exact⟨k+1,wC,wC,wE,by rw[a],rfl⟩
 .have v:¬(k:Int)<16:=by omega
  have t:k=16:=wC
  subst t;have C:l.take 16=l:=qJ wC;rw[C] at s;rcases s with⟨h,_⟩|⟨w,c,rfl⟩|⟨w,c,rfl⟩
  .omega
  .simp[c,p,o]
  .simp[c,p,o]
theorem q2K[MaxL][TxtC](s:List UInt8)(c:UInt8):call cx 114 [.str s,.int .u8 c.toNat] []=some (.int .i64 (QF c s 0),[]):=by
 have a:call cx 212 [.str s,.int .u8 c.toNat] []=some (.int .i64 (QF c s 0),[]):=by
  rw[qiA (X:=cx) (f:=212) rfl Tryz.func212 rfl,que];simp[qgt]
 have b:call cx 171 [.str s,.int .u8 c.toNat] []=some (.int .i64 (QF c s 0),[]):=by
  refine qC Tryz.func171 rfl ⟨rfl,rfl⟩ ?_;simp[Tryz.f171,a]
 refine qC Tryz.func114 rfl ⟨rfl,rfl⟩ ?_;simp[Tryz.f114,b]
theorem qvX:qf zero16=[.int .u8 0,.int .u8 0,.int .u8 0,.int .u8 0,.int .u8 0,.int .u8 0,.int .u8 0,.int .u8 0,.int .u8 0,.int .u8 0,.int .u8 0,.int .u8 0,.int .u8 0,.int .u8 0,.int .u8 0,.int .u8 0]:=rfl
theorem qx4(st:List UInt8)(j:Nat)(c:UInt8)(h:j<st.length):zU (qf st) j [.int .u8 c.toNat]=qf (st.set j c):=by
 unfold zU qf;rw[qgW,if_pos h];simp
theorem q2P[MaxL][TxtC](s:List UInt8)(_:s.length<1000000):call cx 65 [.str s] []=some (.tup [.agg (qf ((KY s).getD zero16)),.bool (KY s).isSome],[]):=by
 refine qC Tryz.func65 rfl ⟨rfl,rfl⟩ ?_;have r:=qvX;have h:zero16.length=16:=rfl;have f:List.drop 16 (qf zero16)=[]:=rfl;by_cases u:s.length=32
 .have i:(s.length:Int)=32:=by omega
  have G:KY s=XB s 0 zero16:=by unfold KY;rw[if_pos u]
  rw[G];simp[Tryz.f65,i];rw[<-r]
  refine Run.loopThen (fun(q:Nat×List UInt8) e H'=>q.1<=32/\q.2.length=16/\XB (s.drop q.1) q.1 q.2=XB s 0 zero16/\H'=[some (qf zero16),some (qf q.2)]/\qi e 0=some (.str s)/\qi e 2=some (.optr 0 16 0)/\qi e 4=some (.optr 1 16 0)/\
    qi e 12=some (.int .i64 32)/\qi e 13=some (.int .i64 (q.1:Nat))) (fun q=>32-q.1) (0,zero16) ?_ ?_
  .simp[zero16]
  rintro⟨k,st⟩ e H' ⟨U,n,a,rfl,E,H,N,o,l⟩;simp only at U n a l;by_cases Z:k<32
  .have z:(k:Int)<32:=wC;have v:k<s.length:=wC;rw[zZ v,XB] at a;have P:s[k]?=some s[k]:=qN v;have g:=q2K Xt s[k];have L:=qsO s[k] Xt 0;generalize s[k]=c at *;simp only[Xt] at g;have X:=qz ((k:Int)+1) ((k+1:Nat):Int);rcases L with F|⟨m,W,y⟩
   .rw[F,if_pos wC] at a;simp only[Xt] at F;rw[F] at g;rw[<-a];simp[E,H,N,o,l,z,P,g,<-r,h,f]
   .rw[J3] at y;have t:m<16:=W;rw[y,if_neg wC] at a;simp only[Xt] at y;rw[y] at g;have C:¬(m:Int)<0:=wC;have K:((m:Nat):Int).toNat=m:=wC;rw[K] at a;have V:(k:Int).tdiv 2=((k/2:Nat):Int):=(Int.ofNat_tdiv k 2).symm;have Q:=qz ((k:Int)/2) ((k/2:Nat):Int);obtain⟨j,T⟩:∃j,j=k/2:=⟨_,rfl⟩;rw[<-T] at a V Q;have d:j<st.length:=wC;have p:(j:Int)<16:=wC;have S:=vE d;have A:st.getD j 0=st[j]:=(by rw[List.getD,qN d];rfl);rw[A] at a;have B:=zu8 (m:Int) (m:Int);have I:=qxw st[j] m t;have qn:=qx4 st j (st[j]<<<4|||UInt8.ofNat m) d;generalize st[j]=b at *;generalize hx:b<<<4|||UInt8.ofNat m=x at *;have ZD:j+1<=st.length:=wC;have w:j<=15:=wC;have M:(2:Int)^min 4 IntKind.u8.bits=16:=wH;have Y:(st.set j x).length=16:=(by simpa using n);generalize st.set j x=J at *;simp[-qea,E,H,N,o,l,z,P,g,C,Q,p,S,B,I,M,qn,n,w,X];exact⟨k+1,wC,wC,J,Y,a,rfl,wE⟩
  .have z:¬(k:Int)<32:=wC;rw[Jc wC,XB] at a;rw[<-a];have O:16<=st.length:=wC;have R:List.take 16 (qf st)=qf st:=qJ wG;simp[E,H,N,o,l,z,R,n,h,f]
 .have i:¬(s.length:Int)=32:=by omega
  have G:KY s=none:=by unfold KY;rw[if_neg u]
  rw[G];simp[Tryz.f65,i,<-r,h,f]
theorem qyy[MaxL][TxtC](n:Nat)(h:n<=16):call cx 95 [.str [48],.int .i64 n] []=some (.str (List.replicate n 48),[]):=by
 refine qe8 ?_
 have e:∀n,Lib.repeatL [48] n=List.replicate n (48:UInt8):=by
  intro n
  induction n with
  |zero=>rfl
  |succ n b=>rw[Lib.repeatL,b];rfl
 have a:((n:Nat):Int).toNat=n:=wC
 rw[qva,qgE,if_pos ⟨wC,wC,by rw[a];simp;omega⟩,a,e]
theorem qkW[MaxL][TxtC](v:Nat)(a:v<18446744073709551616):call cx 43 [.int .u64 v] []=some (.str (Qo v),[]):=by
 have c:=q3E v a;have f:=qtd v;have b:=qyy (16-(hx v).length) wC;have d:=qz (16-((hx v).length:Int)) ((16-(hx v).length:Nat):Int);have e:(16-(hx v).length)+(hx v).length<=4611686018427387904:=wC
 refine qC Tryz.func43 rfl ⟨rfl,rfl⟩ ?_;unfold Qo;generalize hx v=x at *;generalize 16-x.length=n at *;simp[Tryz.f43,c,b,d,e]
def KQ(s:List UInt8):Option Nat:=match pu 16 s with
 |none=>none
 |some v=>if Qo v=s then some v else none
theorem qnL{s:List UInt8}{v:Nat}(h:pu 16 s=some v):v<18446744073709551616:=by
 unfold pu at h;split at h
 .cases h
 .exact qnI 16 _ _ _ wH h
theorem qou[MaxL][TxtC](s:List UInt8)(e:s.length<1000000):call cx 66 [.str s] []=some (.tup [.int .u64 ((KQ s).getD 0:Nat),.bool (KQ s).isSome],[]):=by
 refine qC Tryz.func66 rfl ⟨rfl,rfl⟩ ?_;unfold KQ;rcases qyH 16 (.inr rfl) s wC with⟨v,a,e2⟩|⟨a,x,d,e2⟩
 .replace e2:call cx 115 [.str s,.int .i64 16,.int .i64 64] []=some (.tup [.int .u64 v,.nili],[]):=e2;rw[a];simp only;have h:=qkW v (qnL a);by_cases b:Qo v=s
  .rw[if_pos b];rw[b] at h;simp[Tryz.f66,e2,h]
  .rw[if_neg b];have c:(Qo v==s)=false:=beq_eq_false_iff_ne.2 b;generalize Qo v=w at *;simp[Tryz.f66,e2,h,c]
 .replace e2:call cx 115 [.str s,.int .i64 16,.int .i64 64] []=some (.tup [.int .u64 x,.iface 320 (.vptr d)],[]):=e2;rw[a];simp[Tryz.f66,e2]
theorem qsP(c:List UInt8):∀(s:List UInt8)(n:Nat),(∃i:Nat,JF c s n=((n+i:Nat):Int)/\i+c.length<=s.length/\c.isPrefixOf (s.drop i)=true)\/JF c s n= -1
 |[],n=>by
  unfold JF;cases c with
  |nil=>exact .inl ⟨0,wE⟩
  |cons a l=>exact .inr wE
 |b::l,n=>by
  unfold JF;by_cases h:c.isPrefixOf (b::l)=true
  .rw[if_pos h];refine .inl ⟨0,wE,?_,wQ⟩;have:=List.IsPrefix.length_le (List.isPrefixOf_iff_prefix.1 h);simpa using this
  .rw[if_neg h];rcases qsP c l (n+1) with⟨i,d,f,e⟩|d
   .exact .inl ⟨i+1,by rw[d];omega,wG,by simpa using e⟩
   .exact .inr d
theorem q2H[MaxL][TxtC](s a:List UInt8)(b:s.length<4294967281):call cx 211 [.str s,.str a] []=some (.int .i64 (JF a s 0),[]):=by
 refine qe8 ?_;rw[qvd,qgF,if_pos b]
theorem q4V[MaxL][TxtC](s:List UInt8)(c:UInt8):call cx 169 [.str s,.str [c]] []=some (.int .i64 (s.count c:Nat),[]):=by
 have a:call cx 210 [.str s,.int .u8 c.toNat] []=some (.int .i64 (s.count c:Nat),[]):=by
  rw[qiA (X:=cx) (f:=210) rfl Tryz.func210 rfl,quf];simp[qgI]
 refine qC Tryz.func169 rfl ⟨rfl,rfl⟩ ?_;simp[Tryz.f169,a]
theorem qxs[MaxL][TxtC](s a:List UInt8)(b:s.length<4294967281):call cx 170 [.str s,.str a] []=some (.int .i64 (JF a s 0),[]):=by
 have h:=q2H s a b;refine qC Tryz.func170 rfl ⟨rfl,rfl⟩ ?_;simp[Tryz.f170,h]
theorem qjy(ps:List (List UInt8))(x:List UInt8)(n:Nat):zU (ps.map D.str++List.replicate (n+1) (D.str [])) ps.length [.str x]=(ps++[x]).map D.str++List.replicate n (D.str []):=by
 have a:List.drop (ps.length+1) (ps.map D.str++D.str []::List.replicate n (D.str []))=List.replicate n (D.str []):=by
  rw[show ps.map D.str++D.str []::List.replicate n (D.str [])=(ps.map D.str++[D.str []])++List.replicate n (D.str []) from wE];exact KH wE
 unfold zU;rw[qdS];simp[a]
theorem q3B[MaxL][TxtC](c:UInt8)(s:List UInt8)(hs:s.length<1000000):call cx 113 [.str s,.str [c],.int .i64 0,.int .i64 (-1)] []=some (.vsl false ((Ji c s).map D.str) (Ji c s).length,[]):=by
 have hc:=q4V s c;have qE:s.count c<=s.length:=List.count_le_length;unfold Ji;generalize s.count c=m at *;refine qC Tryz.func113 rfl ⟨rfl,rfl⟩ ?_;have V:=qz ((m:Int)+1) ((m+1:Nat):Int);have N:=qz ((s.length:Int)+1) ((s.length+1:Nat):Int);have w3:¬s.length<m:=wC
 have L:=qz (m:Int) (m:Int);have R:(16:Int)*((m:Int)+1)<=(qF:Nat):=xX
 have S:(m:Int)+1<=(qF:Nat):=xX
 have W:(0:Int)<=(m:Int)+1:=wC
 have w8:=qz ((m:Int)+1-1) (m:Int);simp[Tryz.f113,hc,V,N,w3,L,R,S,W]
 refine Run.loopThen (fun(q:List (List UInt8)×List UInt8) e H'=>q.1.length<=m/\q.2.length<=s.length/\q.1++YP c (m-q.1.length) q.2=YP c m s/\H'=[some (q.1.map D.str++List.replicate (m-q.1.length+1) (.str []))]/\
   qi e 0=some (.str q.2)/\qi e 1=some (.str [c])/\qi e 2=some (.int .i64 0)/\qi e 3=some (.int .i64 m)/\qi e 9=some (.osl 0 (m+1) 0 (m+1) 1)/\qi e 10=some (.int .i64 (q.1.length:Nat))) (fun q=>m-q.1.length) ([],s) ?_ ?_
 .simp
 rintro⟨ps,r⟩ e H' ⟨u,Q,a,rfl,v,G,A,B,F,g⟩;simp only at u Q a v g;have h:=qxs r [c] wC;have E:(ps.length:Int)<(m:Int)+1:=wC
 have K:(0:Int)<=(ps.length:Int)+1:=wC
 have J:ps.length+(m-ps.length+1)=m+1:=wC
 have n:=qz ((ps.length:Int)+1) ((ps.length+1:Nat):Int);have p:ps.length+1<=m+1:=wC
 have k:∀(x:List UInt8),List.take (ps.length+1) ((ps++[x]).map D.str++List.replicate (m-ps.length) (.str []))=(ps++[x]).map D.str:=by
  intro x;exact List.take_left' wE
 have t:ps.length+1+(m-ps.length)=m+1:=wC
 have l:idFree.idFreeL (List.map D.str (ps++[r])++List.replicate (m-ps.length) (D.str []))=true:=by
  rw[Qv];simp[idFree]
 by_cases I:ps.length<m
 .have w:=zn I;obtain⟨d,H⟩:∃d,m-ps.length=d+1:=⟨m-ps.length-1,wC⟩;rw[H,YP] at a;rcases qsP [c] r 0 with⟨j,o,Z,-⟩|o
  .rw[J3] at o;rw[o] at h;rw[o,if_neg wC] at a;have y:((j:Nat):Int).toNat=j:=wC;rw[y] at a;have ZD:j+1<=r.length:=(by simpa using Z);have U:¬(j:Int)<0:=wC;have C:=qz (j:Int) (j:Int);obtain⟨i,hi⟩:∃i,i=j+1:=⟨_,rfl⟩;have X:=qz ((j:Int)+1) (i:Int);rw[<-hi] at a;have b:=qjy ps (r.take j) (d+1);have O:List.take (r.length-i) (List.drop i r)=r.drop i:=qJ wE;have z:(r.drop i).length<=s.length:=wG;have P:(j:Int)<=(r.length:Int):=wC;have g2:j<=r.length:=wC;have M:(i:Int)<=(r.length:Int):=wC;have g4:i<=r.length:=wC;have Y:m-ps.length+1=d+1+1:=wC;have g6:m-(ps.length+1)+1=d+1:=wC;have T:ps.length+(d+1+1)=m+1:=wC;have g8:ps.length+1<=ps.length+(d+1+1):=wC;rw[Y];simp[-qea,-List.map_append,-List.map_cons,u,v,G,A,B,F,g,w,h,U,C,X,P,M,T,E,b,O,n];have f:(ps++[r.take j]).length=ps.length+1:=wE;refine⟨ps++[r.take j],by rw[f];omega,by rw[f];omega,r.drop i,z,?_,?_,rfl,by rw[f];simp⟩
   .rw[f,show m-(ps.length+1)=d from wC,<-a];simp
   .rw[f,show m-(ps.length+1)+1=d+1 from wC]
  .rw[o] at h;rw[o,if_pos rfl] at a;have b:=qjy ps r (m-ps.length);rw[<-a];simp[-qea,-List.map_append,-List.map_cons,u,K,v,G,A,B,F,g,w,h,E,b,J,n,p,k,t,l]
 .have w:=zq I;have XG:ps.length=m:=by omega
  have H:m-ps.length=0:=wC
  rw[H,YP] at a;have b:=qjy ps r (m-ps.length);rw[<-a];simp[-qea,-List.map_append,-List.map_cons,u,K,v,G,A,B,F,g,w,E,b,J,n,p,k,t,l]
theorem qxg[MaxL][TxtC](c:UInt8)(s:List UInt8)(a:s.length<1000000):call cx 64 [.str s,.str [c]] []=some (.vsl false ((Ji c s).map D.str) (Ji c s).length,[]):=by
 have h:=q3B c s a;refine qC Tryz.func64 rfl ⟨rfl,rfl⟩ ?_;simp[Tryz.f64,h]
theorem qmH(c:UInt8):∀(n:Nat)(s:List UInt8),∀x∈YP c n s,x.length<=s.length
 |0,s,x,h=>by simp[YP] at h;rw[h];exact qA _
 |n+1,s,x,h=>by
  rw[YP] at h;split at h
  .simp at h;rw[h];exact qA _
  .rcases List.mem_cons.1 h with rfl|h
   .simp;omega
   .have:=qmH c n _ x h;simp at this;omega
theorem quC:∀k,k<16->qfy (vV k)=some k:=wH
theorem qnK:∀(l r:List UInt8)(n:Nat),Qu 16 (l++r) n=match Qu 16 l n with
  |none=>none
  |some m=>Qu 16 r m
 |[],r,n=>by simp[Qu]
 |c::l,r,n=>by
  simp only[kC,Qu];cases qfy c with
  |none=>rfl
  |some d=>
   simp only;split
   .rfl
   .split
    .rfl
    .exact qnK l r _
theorem qnJ:∀(f v:Nat),v<16^f->1<=f->v<18446744073709551616->Qu 16 (ZX f v) 0=some v
 |f+1,v,h,_,c=>by
  rw[ZX];by_cases a:v<16
  .rw[if_pos a];simp only[Qu,quC v a];rw[if_neg wC,if_neg wC];congr 1;omega
  .rw[if_neg a,qnK]
   have b:1<=f:=by
    rcases f with _|f
    .simp at h;omega
    .omega
   rw[qnJ f (v/16) (by rw[qeD] at h;omega) b wC];simp only[Qu,quC _ (YM v (by decide:16>0))];rw[if_neg wC,if_neg wC];congr 1;omega
theorem qyI{v:Nat}(h:v<18446744073709551616):Qu 16 (hx v) 0=some v:=qnJ 16 v wC wC h
theorem qnH(l:List UInt8):∀n,Qu 16 (List.replicate n 48++l) 0=Qu 16 l 0
 |0=>rfl
 |n+1=>by
  rw[qdS,kC,Qu];have:qfy 48=some 0:=wH
  rw[this];simp only;rw[if_neg wC,if_neg wC];exact qnH l n
theorem qzP{v:Nat}(h:v<18446744073709551616):KQ (Qo v)=some v:=by
 have a:=qfs v
 have b:pu 16 (Qo v)=some v:=by
  unfold pu;rw[if_neg (by intro e;rw[e] at a;simp at a)];unfold Qo;rw[qnH,qyI h]
 unfold KQ;rw[b];simp
end Go.Ev.S
namespace Go.Ev
open Go Go.Proofs
structure Inf where
 kind:Int
 seq:ID
 head:Int
 real:Int
 deriving DecidableEq
instance:Enc Inf:=⟨19,fun m=>(.int .i64 m.kind::(qf m.seq.l++(.int .u64 m.head::(.int .u64 m.real::([]:List D))))),fun m=>wE,fun m=>xC⟩
theorem Inf.cells(m:Inf):Enc.cells m=(.int .i64 m.kind::(qf m.seq.l++(.int .u64 m.head::(.int .u64 m.real::([]:List D))))):=rfl
@[simp] theorem Inf.size:Enc.size Inf=19:=rfl
@[simp] theorem Inf.cl (a:Inf):(Enc.cells a).length=19:=Enc.len a
@[simp] theorem Inf.ct (a:Inf) (r:List D):(Enc.cells a++r).take 19=Enc.cells a:=qc6 rfl a r
@[simp] theorem Inf.ct' (a:Inf):(Enc.cells a).take 19=Enc.cells a:=qc5 rfl a
@[simp] theorem Inf.cd (a:Inf) (r:List D):(Enc.cells a++r).drop 19=r:=qc7 rfl a r
@[simp] theorem Inf.el (l:List Inf):(qt l).length=l.length*19:=Kx rfl l
@[simp] theorem Inf.ed (l:List Inf) (i:Nat):(qt l).drop (i*19)=qt (l.drop i):=qa3 rfl l i
@[simp] theorem Inf.et (l:List Inf) (i:Nat):(qt l).take (i*19)=qt (l.take i):=qa2 rfl l i
@[simp high] theorem Inf.ea {l:List Inf} {i:Nat} (h:i<l.length):(qt l).drop (i*19)=Enc.cells l[i]++qt (l.drop (i+1)):=XW rfl h
@[simp high] theorem Inf.es (m:Inf) {l:List Inf} {j:Nat} (h:j<l.length):zU (qt l) (j*19) (Enc.cells m)=qt (l.set j m):=XV rfl m l h
@[simp] theorem Inf.g0 (m:Inf) (h):(Enc.cells m)[0]'h=.int .i64 m.kind:=xO
@[simp] theorem Inf.q0 (m:Inf):(Enc.cells m)[0]?=some (.int .i64 m.kind):=xO
@[simp] theorem Inf.s0 (m:Inf) (x:Int):zU (Enc.cells m) 0 [.int .i64 x]=Enc.cells {m with kind:=x}:=by simp[jf,Inf.cells]
@[simp] theorem Inf.d1 (m:Inf):(Enc.cells m).drop 1=(qf m.seq.l++(.int .u64 m.head::(.int .u64 m.real::([]:List D)))):=by simp[jf,Inf.cells]
@[simp] theorem Inf.d1' (m:Inf) (r:List D):(Enc.cells m++r).drop 1=(qf m.seq.l++(.int .u64 m.head::(.int .u64 m.real::([]:List D))))++r:=by simp[jf,Inf.cells]
@[simp] theorem Inf.s1 (m:Inf) (x:ID):zU (Enc.cells m) 1 (qf x.l)=Enc.cells {m with seq:=x}:=by simp[Zp,Inf.cells]
@[simp] theorem Inf.d17 (m:Inf):(Enc.cells m).drop 17=(.int .u64 m.head::(.int .u64 m.real::([]:List D))):=xO
@[simp] theorem Inf.d17' (m:Inf) (r:List D):(Enc.cells m++r).drop 17=(.int .u64 m.head::(.int .u64 m.real::([]:List D)))++r:=xO
@[simp] theorem Inf.g17 (m:Inf) (h):(Enc.cells m)[17]'h=.int .u64 m.head:=xO
@[simp] theorem Inf.q17 (m:Inf):(Enc.cells m)[17]?=some (.int .u64 m.head):=xO
@[simp] theorem Inf.s17 (m:Inf) (x:Int):zU (Enc.cells m) 17 [.int .u64 x]=Enc.cells {m with head:=x}:=by simp[jf,vY,Inf.cells]
@[simp] theorem Inf.d18 (m:Inf):(Enc.cells m).drop 18=(.int .u64 m.real::([]:List D)):=by simp[jf,vY,Inf.cells]
@[simp] theorem Inf.d18' (m:Inf) (r:List D):(Enc.cells m++r).drop 18=(.int .u64 m.real::([]:List D))++r:=by simp[jf,vY,Inf.cells]
@[simp] theorem Inf.g18 (m:Inf) (h):(Enc.cells m)[18]'h=.int .u64 m.real:=xO
@[simp] theorem Inf.q18 (m:Inf):(Enc.cells m)[18]?=some (.int .u64 m.real):=xO
@[simp] theorem Inf.s18 (m:Inf) (x:Int):zU (Enc.cells m) 18 [.int .u64 x]=Enc.cells {m with real:=x}:=by simp[Zp,jf,vY,qJ,Inf.cells]
def qeN:List UInt8:=[115,121,115,116,101,109,46,106,111,117,114,110,97,108]
def qfe:List UInt8:=[115,121,115,116,101,109,46,110,101,119]
def aheadL:List UInt8:=[115,121,115,116,101,109,64]
def behindL:List UInt8:=[46,106,111,117,114,110,97,108]
def Yo(q:List UInt8)(h r:Nat):List UInt8:=jF q++45::(Qo h++45::Qo r)
def kW(q:List UInt8)(h r:Nat):List UInt8:=aheadL++(Yo q h r++behindL)
def QD(i:Inf):List UInt8:=if i.kind=1 then qeN else if i.kind=4 then qfe else if i.kind=2 then kW i.seq.l i.head.toNat i.real.toNat else if i.kind=3 then kW i.seq.l i.head.toNat i.real.toNat++[126] else[]
def VM(p s:List UInt8):Bool:=decide (p.length<=s.length)&&(s.drop (s.length-p.length)==p)
def Za(p s:List UInt8):List UInt8:=if VM p s then s.take (s.length-p.length) else s
theorem qm0(p s:List UInt8):VM p (s++p)=true:=by
 unfold VM;have e:(s++p).length-p.length=s.length:=wE
 rw[e,List.drop_left];simp
theorem qjh(p s:List UInt8):Za p (s++p)=s:=by
 have e:(s++p).length-p.length=s.length:=wE
 unfold Za;rw[qm0,if_pos rfl,e,List.take_left]
theorem qwM{a b:UInt8}(h:a≠b)(s:List UInt8):VM [b] (s++[a])=false:=by
 unfold VM;have e:(s++[a]).length-[b].length=s.length:=wE
 rw[e,List.drop_left];have:([a]==[b])=false:=wQ
 rw[this,Bool.and_false]
def qbD(p s:List UInt8):List UInt8:=if s.take p.length==p then s.drop p.length else s
theorem qmu(p s:List UInt8):qbD p (p++s)=s:=by
 unfold qbD;rw[List.take_left,if_pos wE,List.drop_left]
def JB(s:List UInt8):List UInt8:=qbD aheadL (Za behindL (Za [126] s))
theorem qv0(q:List UInt8)(h r:Nat):VM [126] (kW q h r)=false:=by
 have e:kW q h r=(aheadL++(Yo q h r++[46,106,111,117,114,110,97]))++[108]:=by
  simp[kW,behindL]
 rw[e];exact qwM wH _
theorem q0t(q:List UInt8)(h r:Nat):JB (kW q h r)=Yo q h r:=by
 have e:Za [126] (kW q h r)=kW q h r:=by
  unfold Za;rw[qv0,if_neg wH]
 have e2:kW q h r=(aheadL++Yo q h r)++behindL:=by simp[kW]
 unfold JB;rw[e,e2,qjh,qmu]
theorem q0s(q:List UInt8)(h r:Nat):JB (kW q h r++[126])=Yo q h r:=by
 have e2:kW q h r=(aheadL++Yo q h r)++behindL:=by simp[kW]
 unfold JB;rw[qjh,e2,qjh,qmu]
theorem qtO(v:Nat):∀x∈Qo v,x≠59/\x≠61/\x≠45:=by
 intro x hx;unfold Qo at hx;rcases List.mem_append.1 hx with h|h
 .rw[(List.mem_replicate.1 h).2];decide
 .exact q2W v x h
theorem qmF(q:List UInt8)(h r:Nat):Ji 45 (Yo q h r)=[jF q,Qo h,Qo r]:=by
 unfold Yo;rw[qmG (fun x hx=>(qtj q x hx).2.2),qmG (fun x hx=>(qtO h x hx).2.2),qxf (fun x hx=>(qtO r x hx).2.2)]
theorem qfC{q:List UInt8}(a:q.length=16)(h r:Nat):(kW q h r).length=81:=by
 simp only[kW,Yo,zp,jA,qev,a,qfs,aheadL,behindL,kf]
end Go.Ev
namespace Go.Ev.S
open Go Go.Proofs Go.Ev
theorem qmz[MaxL][TxtC](s p:List UInt8)(i:s.length<1000000)(f:p.length<1000000):call cx 110 [.str s,.str p] []=some (.bool (VM p s),[]):=by
 refine qC Tryz.func110 rfl ⟨rfl,rfl⟩ ?_;unfold VM;by_cases h:p.length<=s.length
 .have a:(p.length:Int)<=(s.length:Int):=by omega
  obtain⟨j,e⟩:∃j,j=s.length-p.length:=⟨_,rfl⟩;have c:=qz ((s.length:Int)-(p.length:Int)) (j:Int);have d:(j:Int)<=(s.length:Int):=wC
  have g:j<=s.length:=wC
  have b:List.take (s.length-j) (List.drop j s)=List.drop j s:=qJ wE;rw[<-e];simp[Tryz.f110,h,a,c,d,b]
 .have a:¬(p.length:Int)<=(s.length:Int):=by omega
  simp[Tryz.f110,h,a]
theorem qwL[MaxL][TxtC](s p:List UInt8)(b:s.length<1000000)(a:p.length<1000000):call cx 61 [.str s,.str p] []=some (.bool (VM p s),[]):=by
 have h:=qmz s p b a;refine qC Tryz.func61 rfl ⟨rfl,rfl⟩ ?_;simp[Tryz.f61,h]
theorem qw3[MaxL][TxtC](s p:List UInt8)(c:s.length<1000000)(b:p.length<1000000):call cx 112 [.str s,.str p] []=some (.str (Za p s),[]):=by
 have h:=qmz s p c b;refine qC Tryz.func112 rfl ⟨rfl,rfl⟩ ?_;unfold Za;cases a:VM p s with
 |false=>
  rw[a] at h;simp[Tryz.f112,h]
 |true=>
  rw[a] at h
  have i:p.length<=s.length:=by
   unfold VM at a;rw[zX] at a;simpa using a.1
  obtain⟨j,f⟩:∃j,j=s.length-p.length:=⟨_,rfl⟩;have d:=qz ((s.length:Int)-(p.length:Int)) (j:Int);have e:(j:Int)<=(s.length:Int):=wC
  have g:j<=s.length:=wC
  rw[<-f];simp[Tryz.f112,h,d,e]
theorem qmt[MaxL][TxtC](s p:List UInt8)(b:s.length<1000000)(a:p.length<1000000):call cx 63 [.str s,.str p] []=some (.str (Za p s),[]):=by
 have h:=qw3 s p b a;refine qC Tryz.func63 rfl ⟨rfl,rfl⟩ ?_;simp[Tryz.f63,h]
theorem qyK[MaxL][TxtC](s p:List UInt8)(_:s.length<1000000)(_:p.length<1000000):call cx 167 [.str s,.str p] []=some (.bool (s.take p.length==p),[]):=by
 refine qC Tryz.func167 rfl ⟨rfl,rfl⟩ ?_;by_cases h:p.length<=s.length
 .have a:(p.length:Int)<=(s.length:Int):=by omega
  simp[Tryz.f167,a]
 .have a:¬(p.length:Int)<=(s.length:Int):=by omega
  have b:(s.take p.length==p)=false:=by
   rw[beq_eq_false_iff_ne];intro e;have:=congrArg List.length e;rw[jj] at this;omega
  simp[Tryz.f167,a,b]
theorem qw5[MaxL][TxtC](s p:List UInt8)(d:s.length<1000000)(b:p.length<1000000):call cx 111 [.str s,.str p] []=some (.str (qbD p s),[]):=by
 have h:=qyK s p d b;refine qC Tryz.func111 rfl ⟨rfl,rfl⟩ ?_;unfold qbD;cases a:(s.take p.length==p) with
 |false=>
  rw[a] at h;simp[Tryz.f111,h]
 |true=>
  rw[a] at h
  have f:p.length<=s.length:=by
   have:=congrArg List.length (beq_iff_eq.1 a);rw[jj] at this;omega
  have e:(p.length:Int)<=(s.length:Int):=wC
  have c:List.take (s.length-p.length) (List.drop p.length s)=List.drop p.length s:=qJ wE;simp[Tryz.f111,h,e,c]
theorem qw4[MaxL][TxtC](s p:List UInt8)(b:s.length<1000000)(a:p.length<1000000):call cx 62 [.str s,.str p] []=some (.str (qbD p s),[]):=by
 have h:=qw5 s p b a;refine qC Tryz.func62 rfl ⟨rfl,rfl⟩ ?_;simp[Tryz.f62,h]
def dsh:List UInt8:=[45]
structure InfOk (i:Inf):Prop where
 head:jx i.head
 real:jx i.real
theorem qo2[MaxL][TxtC](i:Inf)(h:InfOk i)(O:i.kind=2):call cx 18 [.agg (Enc.cells i)] []=some (.str (kW i.seq.l i.head.toNat i.real.toNat),[]):=by
 obtain⟨V,k,m,j⟩:=i;obtain⟨G,B⟩:=h;simp only at O G B;subst O;unfold jx at G B;have N:((m.toNat:Nat):Int)=m:=wC
 have e2:((j.toNat:Nat):Int)=j:=wC
 have S:=q3e k.l k.h;have M:=qkW m.toNat wC;have P:=qkW j.toNat wC;rw[N] at M;rw[e2] at P;have Q:=qev k.l;have T:=qfs m.toNat;have U:=qfs j.toNat;rw[k.h] at Q;simp only[kW,Yo];generalize jF k.l=J at *;generalize Qo m.toNat=E at *;generalize Qo j.toNat=H at *;clear N e2 G B;have A:List.drop 17 (qf k.l++[D.int .u64 m,D.int .u64 j])=[D.int .u64 j]:=by simp[jf,vY]
 obtain⟨L,a⟩:∃s,s=aheadL++J:=⟨_,rfl⟩;have o:L.length=aheadL.length+J.length:=by rw[a,zp]
 obtain⟨I,f⟩:∃s,s=L++dsh:=⟨_,rfl⟩;have v:I.length=L.length+dsh.length:=by rw[f,zp]
 obtain⟨F,c⟩:∃s,s=I++E:=⟨_,rfl⟩;have u:F.length=I.length+E.length:=by rw[c,zp]
 obtain⟨C,d⟩:∃s,s=F++dsh:=⟨_,rfl⟩;have r:C.length=F.length+dsh.length:=by rw[d,zp]
 obtain⟨K,b⟩:∃s,s=C++H:=⟨_,rfl⟩;have x:K.length=C.length+H.length:=by rw[b,zp]
 obtain⟨R,e⟩:∃s,s=K++behindL:=⟨_,rfl⟩;have n:R.length=K.length+behindL.length:=by rw[e,zp]
 simp only[aheadL,dsh,behindL,jA,kf] at o v u r x n;have t:=XZ a (by(try simp only[aheadL,jA,kf]);omega);have p:=XZ f yH;have q:=XZ c yD;have w:=XZ d yH;have y:=XZ b yD;have z:=XZ e (by(try simp only[behindL,jA,kf]);omega);simp only[aheadL,dsh,behindL] at t p q w y z
 have g:aheadL++(J++45::(E++45::H)++behindL)=R:=by
  simp[e,b,d,c,f,a,dsh]
 rw[g];clear g a f c d b e o v u r x n Q T U;refine qC Tryz.func18 rfl ⟨rfl,rfl⟩ ?_;simp[Tryz.f18,Inf.cells,A,S,M,P,-Go.Ev.strD,t,p,q,w,y,z]
theorem q0b[MaxL][TxtC](i:Inf)(h:InfOk i):call cx 18 [.agg (Enc.cells i)] []=some (.str (QD i),[]):=by
 unfold QD;by_cases b:i.kind=1
 .refine qC Tryz.func18 rfl ⟨rfl,rfl⟩ ?_;simp[Tryz.f18,Inf.cells,b,qeN]
 .by_cases c:i.kind=4
  .refine qC Tryz.func18 rfl ⟨rfl,rfl⟩ ?_;simp[Tryz.f18,Inf.cells,c,qfe]
  .by_cases d:i.kind=2
   .rw[if_neg b,if_neg c,if_pos d];exact qo2 i h d
   .by_cases f:i.kind=3
    .have e:=qo2 ⟨2,i.seq,i.head,i.real⟩ ⟨h.head,h.real⟩ rfl;have j:=qfC i.seq.h i.head.toNat i.real.toNat;simp only at e;have a:List.take 18 (qf i.seq.l++[D.int .u64 i.head,D.int .u64 i.real])=qf i.seq.l++[D.int .u64 i.head,D.int .u64 i.real]:=qJ wE;simp[Inf.cells] at e;rw[if_neg b,if_neg c,if_neg d,if_pos f];generalize kW i.seq.l i.head.toNat i.real.toNat=w at *;have g:w.length+1<=4611686018427387904:=wC;refine qC Tryz.func18 rfl ⟨rfl,rfl⟩ ?_;simp[Tryz.f18,Inf.cells,f,e,g,a]
    .refine qC Tryz.func18 rfl ⟨rfl,rfl⟩ ?_;simp[Tryz.f18,Inf.cells,b,d,f,c]
def qhW:Inf:=⟨0,ID.zero,0,0⟩
def KX(k:Int)(l:List (List UInt8)):Inf:=⟨k,qhZ (l.getD 0 []),((KQ (l.getD 1 [])).getD 0:Nat),((KQ (l.getD 2 [])).getD 0:Nat)⟩
def Yp(s:List UInt8):Int:=if VM [126] s then 3 else 2
def QN(s:List UInt8):Inf×Bool:=if s=qeN then(⟨1,ID.zero,0,0⟩,true) else if s=qfe then(⟨4,ID.zero,0,0⟩,true) else
 if(Ji 45 (JB s)).length=3/\QD (KX (Yp s) (Ji 45 (JB s)))=s then(KX (Yp s) (Ji 45 (JB s)),true) else(qhW,false)
theorem qov(s:List UInt8):(KQ s).getD 0<18446744073709551616:=by
 unfold KQ;cases h:pu 16 s with
 |none=>show 0<18446744073709551616;omega
 |some v=>
  simp only;split
  .exact qnL h
  .show 0<18446744073709551616;omega
theorem q2E(k:Int)(l:List (List UInt8)):InfOk (KX k l):=by
 refine⟨?_,?_⟩
 .have:=qov (l.getD 1 []);show jx ((KQ (l.getD 1 [])).getD 0:Nat);unfold jx;omega
 .have:=qov (l.getD 2 []);show jx ((KQ (l.getD 2 [])).getD 0:Nat);unfold jx;omega
def q6R(i:Inf):Prop:=(i=⟨1,ID.zero,0,0⟩\/i=⟨4,ID.zero,0,0⟩)\/((i.kind=2\/i.kind=3)/\InfOk i)
theorem qsL(i:Inf)(h:InfOk i):KX i.kind [jF i.seq.l,Qo i.head.toNat,Qo i.real.toNat]=i:=by
 obtain⟨a,b⟩:=h;unfold jx at a b
 have e:∀x:Int,0<=x/\x<18446744073709551616->(((KQ (Qo x.toNat)).getD 0:Nat):Int)=x:=by
  intro x hx;rw[qzP wC];show((x.toNat:Nat):Int)=x;omega
 unfold KX;simp only[List.getD_cons_zero,List.getD_cons_succ,q2S,e _ a,e _ b]
theorem qhM{s t:List UInt8}(h:s.length≠t.length):s≠t:=fun e=>h (by rw[e])
theorem qyX(i:Inf)(h:q6R i):QN (QD i)=(i,true):=by
 rcases h with(rfl|rfl)|⟨f|d,e⟩
 .rfl
 .rfl
 .have b:QD i=kW i.seq.l i.head.toNat i.real.toNat:=by
   unfold QD;rw[f,if_neg wH,if_neg wH,if_pos rfl]
  have a:=qfC i.seq.h i.head.toNat i.real.toNat
  have c:Yp (kW i.seq.l i.head.toNat i.real.toNat)=i.kind:=by
   unfold Yp;rw[qv0,if_neg wH,f]
  unfold QN;rw[b,if_neg (qhM (by rw[a];decide)),if_neg (qhM (by rw[a];decide)),q0t,qmF,c,qsL i e,if_pos ⟨rfl,b⟩]
 .have b:QD i=kW i.seq.l i.head.toNat i.real.toNat++[126]:=by
   unfold QD;rw[d,if_neg wH,if_neg wH,if_neg wH,if_pos rfl]
  have a:(kW i.seq.l i.head.toNat i.real.toNat++[126]).length=82:=by rw[zp,qfC i.seq.h];rfl
  have c:Yp (kW i.seq.l i.head.toNat i.real.toNat++[126])=i.kind:=by
   unfold Yp;rw[qm0,if_pos rfl,d]
  unfold QN;rw[b,if_neg (qhM (by rw[a];decide)),if_neg (qhM (by rw[a];decide)),q0s,qmF,c,qsL i e,if_pos ⟨rfl,b⟩]
end Go.Ev.S
namespace Go.Ev
open Go Go.Proofs
theorem qhh(p s:List UInt8):(Za p s).length<=s.length:=by
 unfold Za;split
 .rw[jj];omega
 .exact qA _
theorem qw6(p s:List UInt8):(qbD p s).length<=s.length:=by
 unfold qbD;split
 .rw[vr];omega
 .exact qA _
theorem q0u(s:List UInt8):(JB s).length<=s.length:=by
 unfold JB;have b:=qw6 aheadL (Za behindL (Za [126] s));have a:=qhh behindL (Za [126] s);have c:=qhh [126] s;omega
end Go.Ev
namespace Go.Ev.S
open Go Go.Proofs Go.Ev
theorem z19(k:Int):(D.int .i64 k::qM [.int .u64 0,.int .u64 0])=Enc.cells (⟨k,ID.zero,0,0⟩:Inf):=rfl
theorem qyZ[MaxL][TxtC]:call cx 30 [.str qeN] []=some (.tup [.agg (Enc.cells (⟨1,ID.zero,0,0⟩:Inf)),.bool true],[]):=call_some.2 ⟨200,wF⟩
theorem qza[MaxL][TxtC]:call cx 30 [.str qfe] []=some (.tup [.agg (Enc.cells (⟨4,ID.zero,0,0⟩:Inf)),.bool true],[]):=call_some.2 ⟨200,wF⟩
theorem qzb[MaxL][TxtC](s:List UInt8)(U:s.length<100000):call cx 30 [.str s] []=some (.tup [.agg (Enc.cells (QN s).1),.bool (QN s).2],[]):=by
 by_cases H:s=qeN
 .rw[H];exact qyZ
 by_cases J:s=qfe
 .rw[J];exact qza
 have z:(s==[115,121,115,116,101,109,46,106,111,117,114,110,97,108])=false:=beq_eq_false_iff_ne.2 H;have A:(s==[115,121,115,116,101,109,46,110,101,119])=false:=beq_eq_false_iff_ne.2 J;have p:=qwL s [126] wC wH;have e2:=qmt s [126] wC wH;have T:=qhh [126] s;have t:=qmt (Za [126] s) behindL wC wH;have S:=qhh behindL (Za [126] s);have r:=qw4 (Za behindL (Za [126] s)) aheadL wC wH;have Y:=q0u s;have v:=qxg 45 (JB s) wC;have k:∀x∈Ji 45 (JB s),x.length<=(JB s).length:=qmH 45 _ (JB s)
 have g:QN s=if(Ji 45 (JB s)).length=3/\QD (KX (Yp s) (Ji 45 (JB s)))=s then(KX (Yp s) (Ji 45 (JB s)),true) else(qhW,false):=by
  unfold QN;rw[if_neg H,if_neg J]
 have E:=z19 0;have N:Enc.cells (⟨0,ID.zero,0,0⟩:Inf)=Enc.cells qhW:=rfl;rw[N] at E;have L:qf ID.zero.l=(qM []):=rfl;have y:qbD aheadL (Za behindL (Za [126] s))=JB s:=rfl;rw[y] at r;simp only[behindL,aheadL] at t r;generalize QN s=M at *;generalize JB s=m at *;generalize Za [46,106,111,117,114,110,97,108] (Za [126] s)=Q at *;generalize Za [126] s=R at *;generalize Ji 45 m=P at *;by_cases B:P.length=3
 .obtain⟨e,f,j,I⟩:∃e f j,P=[e,f,j]:=by
   clear g k v
   match P,B with
   |[a,b,c],_=>exact⟨a,b,c,rfl⟩
  subst I;have V:=k e wE;have X:=k f wE;have W:=k j wE;have F:call cx 65 [.str e] []=some (.tup [.agg (qf (qhZ e).l),.bool (KY e).isSome],[]):=q2P e wC;have G:=qou f wC;have C:=qou j wC;have d:=q0b _ (q2E (Yp s) [e,f,j]);have i:KX (Yp s) [e,f,j]=⟨Yp s,qhZ e,((KQ f).getD 0:Nat),((KQ j).getD 0:Nat)⟩:=rfl;have u:Yp s=if VM [126] s then 3 else 2:=rfl;have q:List.drop 19 (Enc.cells qhW)=[]:=Jc wE;cases o:VM [126] s with
  |true=>
   rw[o] at u p;simp only[if_true] at u;rw[u] at d g i;by_cases n:QD (KX 3 [e,f,j])=s
   .rw[if_pos ⟨B,n⟩] at g;rw[n] at d;subst g;rw[i] at d⊢;rw[Inf.cells] at d⊢;simp only at d;refine qC Tryz.func30 rfl ⟨rfl,rfl⟩ ?_;simp[Tryz.f30,z,A,p,e2,t,r,v,F,G,C,d,Zp,jf,vY,qJ]
   .rw[if_neg (fun h=>n h.2)] at g;subst g;have K:(QD (KX 3 [e,f,j])==s)=false:=beq_eq_false_iff_ne.2 n;generalize QD (KX 3 [e,f,j])=w at *;rw[i] at d;refine qC Tryz.func30 rfl ⟨rfl,rfl⟩ ?_;simp[Tryz.f30,z,A,p,e2,t,r,v,F,G,C,d,K,E,q,qJ]
  |false=>
   rw[o] at u p;simp only[kZ,if_false] at u;rw[u] at d g i;by_cases n:QD (KX 2 [e,f,j])=s
   .rw[if_pos ⟨B,n⟩] at g;rw[n] at d;subst g;rw[i] at d⊢;rw[Inf.cells] at d⊢;simp only at d;refine qC Tryz.func30 rfl ⟨rfl,rfl⟩ ?_;simp[Tryz.f30,z,A,p,e2,t,r,v,F,G,C,d,Zp,jf,vY,qJ]
   .rw[if_neg (fun h=>n h.2)] at g;subst g;have K:(QD (KX 2 [e,f,j])==s)=false:=beq_eq_false_iff_ne.2 n;generalize QD (KX 2 [e,f,j])=w at *;rw[i] at d;refine qC Tryz.func30 rfl ⟨rfl,rfl⟩ ?_;simp[Tryz.f30,z,A,p,e2,t,r,v,F,G,C,d,K,E,q,qJ]
 .have O:¬(P.length:Int)=3:=by omega
  rw[if_neg (fun h=>B h.1)] at g;subst g;refine qC Tryz.func30 rfl ⟨rfl,rfl⟩ ?_
  cases o:VM [126] s<;>rw[o] at p<;>
   simp[Tryz.f30,z,A,p,e2,t,r,v,O,E]
theorem qls(k:Nat)(h:k<16):List.take 1 (List.drop k Xt)=[vV k]:=by
 have:∀k,k<16->List.take 1 (List.drop k Xt)=[vV k]:=wH
 exact this k h
theorem qyt[MaxL][TxtC](l:List UInt8)(n:l.length=16):call cx 51 [.agg (qf l)] []=some (.str (jF l),[]):=by
 refine qC Tryz.func51 rfl ⟨rfl,rfl⟩ ?_;simp[Tryz.f51,n];refine Run.loopThen (fun(k:Nat) e H'=>k<=16/\qi e 1=some (.optr 0 16 0)/\qi e 3=some (.str (jF (l.take k)))/\qi e 4=some (.int .i64 k)/\H'=[some (qf l)]) (fun k=>16-k) 0 ?_ ?_
 .simp[jF]
 rintro k e H' ⟨N,p,j,r,rfl⟩;by_cases M:k<16
 .have q:(k:Int)<16:=by omega
  have d:k<l.length:=wC
  have E:=qz ((k:Int)+1) ((k+1:Nat):Int);have w:=vE d;have g:=qth d;have P:=l[k].toNat_lt;have s:(jF (l.take k)).length=2*k:=by rw[qev,jj];omega
  generalize l[k]=b at *;have f:=qls (b.toNat/16) wC;have i:=qls (b.toNat % 16) wC;generalize vV (b.toNat/16)=J at *;generalize vV (b.toNat % 16)=O at *;obtain⟨a,y⟩:∃m,m=b.toNat/16:=⟨_,rfl⟩;obtain⟨c,o⟩:∃m,m=b.toNat % 16:=⟨_,rfl⟩;rw[<-y] at f;rw[<-o] at i;have G:=zu8 ((b.toNat:Int)/16) (a:Int);have I:(b.toNat:Int).tmod 16=(c:Int):=by rw[o];exact(Int.ofNat_tmod b.toNat 16).symm
  have B:=zu8 ((a:Int)+1) ((a+1:Nat):Int);have u:=zu8 ((c:Int)+1) ((c+1:Nat):Int);have L:a<=15:=wC
  have K:c<=15:=wC
  have n1:((a:Int)+1).toNat=a+1:=wC
  have n2:((c:Int)+1).toNat=c+1:=wC
  have C:(a:Int)+1<=16:=wC
  have A:(c:Int)+1<=16:=wC
  have v1:(0:Int)<=(a:Int)+1:=wC
  have F:(0:Int)<=(c:Int)+1:=wC
  have v:(a:Int)<=(a:Int)+1:=wC
  have H:(c:Int)<=(c:Int)+1:=wC
  simp only[Xt] at f i;generalize jF (l.take k)=X at *;have t:X.length+1<=4611686018427387904:=wC
  have z:X.length+1+1<=4611686018427387904:=wC
  simp[p,j,r,q,E,w,n,G,I,B,u,f,i,n1,n2,C,A,v1,F,t,z,v,H];exact⟨k+1,wC,wC,by rw[g],wC⟩
 .have q:¬(k:Int)<16:=by omega
  have h:k=16:=wC
  subst h;have x:l.take 16=l:=qJ wC;rw[x] at j;simp[p,j,r]
theorem qnz[MaxL][TxtC](v:Nat)(y:v<18446744073709551616):call cx 52 [.int .u64 v] []=some (.str (fxN 16 v),[]):=by
 refine qC Tryz.func52 rfl ⟨rfl,rfl⟩ ?_;obtain⟨r,n⟩:=ql (fxN 16 v);rw[n];simp[Tryz.f52];refine Run.loopThen (fun(q:Nat×Nat×List UInt8) e H'=>q.1<=16/\q.2.1<18446744073709551616/\q.2.2.length=q.1/\fxN (16-q.1) q.2.1++q.2.2=r/\qi e 0=some (.int .u64 (q.2.1:Nat))/\qi e 3=some (.str q.2.2)/\qi e 4=some (.int .i64 (q.1:Nat))/\H'=[]) (fun q=>16-q.1) (0,v,[]) ?_ ?_
 .simp[n,y]
 rintro⟨k,u,w⟩ e H' ⟨z,B,l,b,f,h,j,rfl⟩;simp only at z B l b f h j;by_cases I:k<16
 .have p:(k:Int)<16:=by omega
  have F:=qz ((k:Int)+1) ((k+1:Nat):Int);obtain⟨m,H⟩:∃m,16-k=m+1:=⟨15-k,wC⟩;rw[H,fxN] at b;have d:=qls (u % 16) wC;generalize vV (u % 16)=t at *;obtain⟨a,o⟩:∃a,a=u % 16:=⟨_,rfl⟩;rw[<-o] at d;have A:(u:Int).tmod 16=(a:Int):=by rw[o];exact(Int.ofNat_tmod u 16).symm
  obtain⟨c,i⟩:∃c,c=u/16:=⟨_,rfl⟩;rw[<-i] at b;have G:=zg ((u:Int)/16) (c:Int);have C:=zg ((a:Int)+1) ((a:Int)+1);have J:a<=15:=wC
  have n1:((a:Int)+1).toNat=a+1:=wC
  have E:(a:Int)+1<=16:=wC
  have v1:(0:Int)<=(a:Int)+1:=wC
  have x:(a:Int)<=(a:Int)+1:=wC
  have s:1+w.length<=4611686018427387904:=wC
  have K:w.length+1<=4611686018427387904:=wC
  simp only[Xt] at d;simp[f,h,j,p,F,G,A,C,d,n1,E,v1,x,s];exact⟨k+1,wC,wC,c,wC,t::w,by simp[l],by rw[show 16-(k+1)=m from wC,<-b];simp,rfl,rfl,wC⟩
 .have p:¬(k:Int)<16:=by omega
  have g:k=16:=wC
  subst g;simp only[Nat.sub_self,fxN,QY] at b;subst b;simp[f,h,j]
theorem qyp[MaxL][TxtC](i:Inf)(h:InfOk i)(S:i.kind=1\/i.kind=2\/i.kind=3\/i.kind=4):call cx 23 [.agg (Enc.cells i)] []=some (.str (QD i),[]):=by
 obtain⟨W,r,t,o⟩:=i;obtain⟨J,C⟩:=h;simp only at S J C;unfold jx at J C;unfold QD;simp only;have Q:((t.toNat:Nat):Int)=t:=wC
 have e2:((o.toNat:Nat):Int)=o:=wC
 have R:=qyt r.l r.h;have E:=qnz t.toNat wC;have L:=qnz o.toNat wC;rw[<-qtP wC,Q] at E;rw[<-qtP wC,e2] at L;have T:=qev r.l;have U:=qfs t.toNat;have V:=qfs o.toNat;rw[r.h] at T;simp only[kW,Yo];generalize jF r.l=N at *;generalize Qo t.toNat=G at *;generalize Qo o.toNat=K at *;clear Q e2 J C;have w:List.drop 17 (qf r.l++[D.int .u64 t,D.int .u64 o])=[D.int .u64 o]:=by simp[jf,vY]
 obtain⟨O,a⟩:∃s,s=aheadL++N:=⟨_,rfl⟩;have v:O.length=aheadL.length+N.length:=by rw[a,zp]
 obtain⟨M,f⟩:∃s,s=O++dsh:=⟨_,rfl⟩;have z:M.length=O.length+dsh.length:=by rw[f,zp]
 obtain⟨H,c⟩:∃s,s=M++G:=⟨_,rfl⟩;have y:H.length=M.length+G.length:=by rw[c,zp]
 obtain⟨F,d⟩:∃s,s=H++dsh:=⟨_,rfl⟩;have x:F.length=H.length+dsh.length:=by rw[d,zp]
 obtain⟨P,b⟩:∃s,s=F++K:=⟨_,rfl⟩;have A:P.length=F.length+K.length:=by rw[b,zp]
 obtain⟨B,e⟩:∃s,s=P++behindL:=⟨_,rfl⟩;have u:B.length=P.length+behindL.length:=by rw[e,zp]
 simp only[aheadL,dsh,behindL,jA,kf] at v z y x A u;have m:=XZ a (by(try simp only[aheadL,jA,kf]);omega);have j:=XZ f yH;have k:=XZ c yD;have p:=XZ d yH;have q:=XZ b yD;have n:=XZ e (by(try simp only[behindL,jA,kf]);omega);simp only[aheadL,dsh,behindL] at m j k p q n
 have g:aheadL++(N++45::(G++45::K)++behindL)=B:=by
  simp[e,b,d,c,f,a,dsh]
 rw[g];have I:Go.Ev.strD BinOp.add B [126]=some (.str (B++[126])):=XZ rfl (by simp only[jA,kf];omega);clear g a f c d b e v z y x A u T U V;rcases S with rfl|rfl|rfl|rfl
 .refine qC Tryz.func23 rfl ⟨rfl,rfl⟩ ?_;simp[Tryz.f23,Inf.cells,qeN]
 .refine qC Tryz.func23 rfl ⟨rfl,rfl⟩ ?_;simp[Tryz.f23,Inf.cells,w,R,E,L,-Go.Ev.strD,m,j,k,p,q,n]
 .refine qC Tryz.func23 rfl ⟨rfl,rfl⟩ ?_;simp[Tryz.f23,Inf.cells,w,R,E,L,-Go.Ev.strD,m,j,k,p,q,n,I]
 .refine qC Tryz.func23 rfl ⟨rfl,rfl⟩ ?_;simp[Tryz.f23,Inf.cells,qfe]
end Go.Ev.S
namespace Go.Ev
open Go Go.Proofs
theorem qvZ{a b:Nat}(d:a<256)(c:b<256):qO .u8 (a:Int) (b:Int)=((a^^^b:Nat):Int):=by
 have h:a^^^b<2^8:=Nat.xor_lt_two_pow (n:=8) d c;unfold qO;show IntKind.u8.wrap ((BitVec.ofInt 8 (a:Int)^^^BitVec.ofInt 8 (b:Int)).toNat:Int)=_;rw[qiV,qiV,BitVec.toNat_xor,qiU,qiU,qeE d,qeE c,qeJ];omega
end Go.Ev
namespace Go.Ev.S
open Go Go.Proofs Go.Ev
theorem q0x[MaxL][TxtC](s:Sl UInt8)(b:s.l.length<=1000000):call cx 59 [(.vsl s.nil (qf s.l) s.l.length)] []=some (.osl 0 s.l.length 0 s.l.length 1,[some (qf s.l)]):=by
 have a:s.l.length<=140737488355328:=wC
 refine qC Tryz.func59 rfl ⟨rfl,rfl⟩ ?_;simp[Tryz.f59,qF,a]
theorem qzF{o:List UInt8}{j:Nat}(h:j<o.length){x:Nat}(hx:x<256):List.take j (qf o)++D.int .u8 (x:Int)::List.drop (j+1) (qf o)=qf (o.set j (UInt8.ofNat x)):=by
 rw[qgW,if_pos h,qfc,qon,qem,qda,qfD hx]
def qvD(b:List UInt8)(y:UInt8)(q:D×qe):Prop:=∃o:List UInt8,o.length=b.length/\(y=0->o=b)/\q=(.vsl false (qf o) o.length,[])
theorem qxe[MaxL][TxtC](b:Sl UInt8)(P:b.l.length<=100000)(nil:Bool)(zs:List Int)(I:nil=true->zs=[])(O:zs.length<=1000000)(y:UInt8):∃q,call cx 27 [(.vsl b.nil (qf b.l) b.l.length),.vsl nil (Ze .i64 zs) zs.length,.int .u8 y.toNat] []=some q/\qvD b.l y q:=by
 refine Vp (X:=cx) (f:=27) (args:=[(.vsl b.nil (qf b.l) b.l.length),.vsl nil (Ze .i64 zs) zs.length,.int .u8 y.toNat]) (H:=[]) (qvD b.l y) Tryz.func27 rfl ⟨rfl,rfl⟩ ?_;have B:=q0x b wC;simp[Tryz.f27,B];refine Run.loopThen (fun(q:Nat×List UInt8) e H'=>q.1<=zs.length/\q.2.length=b.l.length/\(y=0->q.2=b.l)/\H'=[some (qf q.2)]/\qi e 1=some (.vsl nil (Ze .i64 zs) zs.length)/\qi e 2=some (.int .u8 (y.toNat:Nat))/\qi e 7=some (.osl 0 b.l.length 0 b.l.length 1)/\qi e 8=some (.int .i64 (q.1:Nat))) (fun q=>zs.length-q.1) (0,b.l) ⟨vg _,rfl,(fun _=>rfl),wE,wE,wE,wE,wE⟩ ?_;rintro⟨k,o⟩ e H' ⟨F,d,c,rfl,z,v,w,s⟩;simp only at F d c s;by_cases m:k<zs.length
 .have t:=zn m
  have G:nil=false:=by
   cases nil with
   |false=>rfl
   |true=>rw[I rfl] at m;exact absurd m (Nat.not_lt_zero _)
  have K:=qz ((k:Int)+1) ((k+1:Nat):Int);have C:=qkC (k:=.i64) m;by_cases M:0<b.l.length
  .obtain⟨j,N,J⟩:=qh9 zs[k] b.l.length wC wC;have r:j<o.length:=wC;have hx:=qvZ (a:=o[j].toNat) (b:=y.toNat) (UInt8.toNat_lt _) (UInt8.toNat_lt _);have p:=vE r;have A:j<b.l.length:=wC;have L:j+1<=b.l.length:=wC;have g:=qzF r (x:=o[j].toNat^^^y.toNat) (Nat.xor_lt_two_pow (n:=8) (UInt8.toNat_lt _) (UInt8.toNat_lt _));simp[z,v,w,s,t,K,C,G,M,J,hx,p,A,d,L,g]
   exact⟨k+1,wC,wC,_,xU,(fun h=>by
    rw[h,<-c h];simp),rfl,wC⟩
  .have i:b.l.length=0:=wC;have u:o=[]:=kx wC;subst u;simp[z,v,w,s,t,i];exact⟨[],by rw[i];rfl,c,rfl⟩
 .have t:=zq m;have E:List.take b.l.length (qf o)=qf o:=qJ xU;simp[z,v,w,s,t,E,d];exact⟨o,d,c,by rw[d]⟩
theorem qab(n:Nat):∀l:List D,mv.mvL [] n l=l.map (mv [] n)
 |[]=>rfl
 |d::l=>by rw[mv.mvL,qab n l];rfl
theorem qkn(n j:Nat):ZR [] n j=n+j:=by simp[ZR]
theorem qie(H:qe){T:qe}{i:Nat}{ds:List D}(h:qd T i=some ds):qd (H++T.map (X6 [] H.length)) (H.length+i)=some (ds.map (mv [] H.length)):=by
 have a:=qx h
 have b:T[i]?=some (some ds):=by
  unfold qd at h;rw[qN a] at h⊢;simp only[Va] at h;rw[h]
 unfold qd;rw[jn wC,show H.length+i-H.length=i from wC,Vb,b];simp only[j6,Va,X6,qab]
theorem qnn(H:qe){T:qe}{k:Nat}{v:D}{cs:List D}{L:List Nat}(h:RowA T k v cs L):RowA (H++T.map (X6 [] H.length)) k (mv [] H.length v) (cs.map (mv [] H.length)) (L.map (H.length+·)):=by
 rcases h with⟨rfl,rfl,rfl⟩|⟨r,n,rfl,a,b,rfl⟩
 .exact .inl ⟨rfl,rfl,rfl⟩
 .refine .inr ⟨H.length+r,n,?_,by rw[List.length_map];exact a,qie H b,rfl⟩;simp[mv,qkn]
def FSv.mvd(v:FSv)(n:Nat):FSv:=⟨v.nd.map fun x=>(n+x.1,n+x.2),mv [] n v.nv,mv [] n v.pv,v.pc.map (mv [] n),v.Ln.map (n+·),v.Lp.map (n+·)⟩
theorem q0f(v:FSv)(n:Nat):(v.ptrs).map (mv [] n)=(FSv.mvd v n).ptrs:=by
 unfold FSv.ptrs FSv.mvd;simp only[List.map_map];apply List.map_congr_left;intro x _;simp[mv,qkn]
theorem q3H(H:qe){T:qe}{q:Nat}{s:Fs}{v:FSv}(h:FSw T q s v):FSw (H++T.map (X6 [] H.length)) (H.length+q) s (FSv.mvd v H.length):=by
 obtain⟨f,d⟩:=h.ty;refine⟨?_,?_,qnn H h.pend,by rw[<-h.len];exact List.length_map _,fun i n x l c=>?_,fun i=>f (i-H.length),?_⟩
 .rw[qie H h.root];rfl
 .have:=qnn H h.row;rw[q0f] at this;exact this
 .simp only[FSv.mvd,Vb] at c;cases b:v.nd[i]? with
  |none=>rw[b] at c;simp at c
  |some y=>
   rw[b] at c;simp only[j6,qy] at c;obtain⟨g,k⟩:=h.node i n y l b;subst c;refine⟨?_,?_⟩
   .rw[qie H g];simp[Nd.cells,mv,qkn]
   .rw[qie H k];rfl
 .refine⟨by rw[show H.length+q-H.length=q from wC];exact d.root,fun i hi=>?_,fun i hi=>?_,fun j x hx=>?_⟩
  .simp only[FSv.mvd,ZM] at hi;obtain⟨a,e,rfl⟩:=hi;rw[show H.length+a-H.length=a from wC];exact d.row a e
  .simp only[FSv.mvd,ZM] at hi;obtain⟨a,e,rfl⟩:=hi;rw[show H.length+a-H.length=a from wC];exact d.pend a e
  .simp only[FSv.mvd,Vb] at hx;cases b:v.nd[j]? with
   |none=>rw[b] at hx;simp at hx
   |some y=>
    rw[b] at hx;simp only[j6,qy] at hx;have:=d.node j y b;subst hx;simp only;rw[show H.length+y.1-H.length=y.1 from wC,show H.length+y.2-H.length=y.2 from wC];exact this
end Go.Ev.S
namespace Go.Ev
open Go Go.Proofs
structure I6 where
 v:Int
instance:Enc I6:=⟨1,fun x=>[.int .i64 x.v],fun _=>rfl,fun _=>rfl⟩
theorem I6.cells(x:I6):Enc.cells x=[.int .i64 x.v]:=rfl
@[simp] theorem I6.size:Enc.size I6=1:=rfl
@[simp] theorem I6.cl (a:I6):(Enc.cells a).length=1:=Enc.len a
@[simp] theorem I6.ct (a:I6) (r:List D):(Enc.cells a++r).take 1=Enc.cells a:=qc6 rfl a r
@[simp] theorem I6.ct' (a:I6):(Enc.cells a).take 1=Enc.cells a:=qc5 rfl a
@[simp] theorem I6.cd (a:I6) (r:List D):(Enc.cells a++r).drop 1=r:=qc7 rfl a r
@[simp] theorem I6.el (l:List I6):(qt l).length=l.length*1:=Kx rfl l
@[simp] theorem I6.ed (l:List I6) (i:Nat):(qt l).drop (i*1)=qt (l.drop i):=qa3 rfl l i
@[simp] theorem I6.et (l:List I6) (i:Nat):(qt l).take (i*1)=qt (l.take i):=qa2 rfl l i
@[simp high] theorem I6.ea {l:List I6} {i:Nat} (h:i<l.length):(qt l).drop (i*1)=Enc.cells l[i]++qt (l.drop (i+1)):=XW rfl h
@[simp high] theorem I6.es (m:I6) {l:List I6} {j:Nat} (h:j<l.length):zU (qt l) (j*1) (Enc.cells m)=qt (l.set j m):=XV rfl m l h
theorem q4K(l:List I6):qt l=Ze .i64 (l.map (·.v)):=by
 unfold Ze
 induction l with
 |nil=>rfl
 |cons a l b=>rw[Ky,b];rfl
structure ZL where
 ln:Sl I6
instance:Enc ZL:=⟨1,fun m=>((.vsl m.ln.nil (qt m.ln.l) m.ln.l.length)::([]:List D)),fun m=>wE,fun m=>xC⟩
theorem ZL.cells(m:ZL):Enc.cells m=((.vsl m.ln.nil (qt m.ln.l) m.ln.l.length)::([]:List D)):=rfl
@[simp] theorem ZL.size:Enc.size ZL=1:=rfl
@[simp] theorem ZL.cl (a:ZL):(Enc.cells a).length=1:=Enc.len a
@[simp] theorem ZL.ct (a:ZL) (r:List D):(Enc.cells a++r).take 1=Enc.cells a:=qc6 rfl a r
@[simp] theorem ZL.ct' (a:ZL):(Enc.cells a).take 1=Enc.cells a:=qc5 rfl a
@[simp] theorem ZL.cd (a:ZL) (r:List D):(Enc.cells a++r).drop 1=r:=qc7 rfl a r
@[simp] theorem ZL.el (l:List ZL):(qt l).length=l.length*1:=Kx rfl l
@[simp] theorem ZL.ed (l:List ZL) (i:Nat):(qt l).drop (i*1)=qt (l.drop i):=qa3 rfl l i
@[simp] theorem ZL.et (l:List ZL) (i:Nat):(qt l).take (i*1)=qt (l.take i):=qa2 rfl l i
@[simp high] theorem ZL.ea {l:List ZL} {i:Nat} (h:i<l.length):(qt l).drop (i*1)=Enc.cells l[i]++qt (l.drop (i+1)):=XW rfl h
@[simp high] theorem ZL.es (m:ZL) {l:List ZL} {j:Nat} (h:j<l.length):zU (qt l) (j*1) (Enc.cells m)=qt (l.set j m):=XV rfl m l h
@[simp] theorem ZL.g0 (m:ZL) (h):(Enc.cells m)[0]'h=(.vsl m.ln.nil (qt m.ln.l) m.ln.l.length):=by simp[ZL.cells]
@[simp] theorem ZL.q0 (m:ZL):(Enc.cells m)[0]?=some ((.vsl m.ln.nil (qt m.ln.l) m.ln.l.length)):=by simp[ZL.cells]
@[simp] theorem ZL.s0 (m:ZL) (x:Sl I6):zU (Enc.cells m) 0 [(.vsl x.nil (qt x.l) x.l.length)]=Enc.cells {m with ln:=x}:=by simp[ZL.cells]
def ZL.zs(z:ZL):List Int:=z.ln.l.map (·.v)
theorem ZL.zs_len(z:ZL):z.zs.length=z.ln.l.length:=by simp[ZL.zs]
theorem ZL.zs_nil(z:ZL)(h:z.ln.nil=true):z.zs=[]:=by simp[ZL.zs,z.ln.h h]
theorem ZL.enc(z:ZL):(Enc.cells z:List D)=[.vsl z.ln.nil (Ze .i64 z.zs) z.zs.length]:=by
 rw[ZL.cells,ZL.zs_len,q4K];rfl
end Go.Ev
namespace Go.Ev.S
open Go Go.Proofs Go.Ev
structure LaidS (s:Fs) (k:Nat):Prop where
 room:s.room=1048576
 fuse:s.fuse= -1
 off:s.off=false
 len:s.nodes.length<=k
 nd:∀n,n∈s.nodes->n.there=true/\n.b.l.length<=32768/\n.safe.l.length<=32768/\∃i:Inf,InfOk i/\(i.kind=1\/i.kind=2\/i.kind=3\/i.kind=4)/\i.real≠77/\n.name=QD i
def Z7(a:List UInt8->List UInt8)(ok:List UInt8->Bool)(n:List UInt8):Bool:=(QN n).2&&(!decide ((QN n).1.kind=4)&&ok (a n))
def Z5(a:List UInt8->List UInt8)(ok:List UInt8->Bool)(n:List UInt8):Bool:=(QN n).2&&(!decide ((QN n).1.kind=4)&& !ok (a n))
theorem qtT{l:List Nd}{name:List UInt8}(h:∀n,n∈l->n.name≠name):Q5 l name=none:=by
 unfold Q5;rw[List.findIdx?_eq_none_iff];intro n a;simp[h n a]
theorem q4d{l:List Nd}{x:Nd}(hx:x.there=true)(h:∀n,n∈l->n.name≠x.name):Q5 (l++[x]) x.name=some l.length:=by
 have a:=qtT h;unfold Q5 at a⊢;rw[List.findIdx?_append,a];simp[hx]
theorem q01{s:Fs}{k:Nat}(L:LaidS s k)(f:k<=6){name:List UInt8}(e:∀n,n∈s.nodes->n.name≠name)(b:Kv name=true):
  qg0 s name=(0,{s with nodes:=s.nodes++[⟨name,true,Sl.none,Sl.none⟩]}):=by
 have a:Xr s name=0:=by simp[Xr,L.off,b]
 have qd:Q3 s name=16:=by
  unfold Q3;rw[a,qtT e];simp
 have d:kH s=(0,s):=by
  unfold kH;rw[L.fuse,if_neg wH,if_neg wH]
 have c:¬24<=Kw s.nodes:=by
  have:Kw s.nodes<=s.nodes.length:=List.length_filter_le _ _;have:=L.len;omega
 unfold qg0;rw[qd,if_neg wH,if_neg wH,if_neg c,d,if_neg wE]
theorem qxo{l:List Nd}(h:∀m,m∈l->m.b.l.length<=32768):Zl l<=l.length*32768:=by
 induction l with
 |nil=>simp[Zl]
 |cons m l c=>
  have e:=c fun k a=>h k (vq _ a);have d:=h m (Z1 ..);simp only[Zl,jA,kt,Nat.one_mul];split<;>omega
theorem qwb{s a q:Fs}{k:Nat}(L:LaidS s k)(H:k<=6){name B:List UInt8}(A:∀n,n∈s.nodes->n.name≠name)(C:Kv name=true)(J:B.length<=32768)(h:B≠[])
  (e:a={s with nodes:=s.nodes++[⟨name,true,Sl.none,Sl.none⟩]}) (j:qdH a name 0 B q):
  qay a name 0 B=0/\∃x:Nd,x.name=name/\x.there=true/\x.b.l=B/\x.safe.l=[]/\q={s with nodes:=s.nodes++[x]}:=by
 have c:Q5 a.nodes name=some s.nodes.length:=by
  rw[e];exact q4d (x:=⟨name,true,Sl.none,Sl.none⟩) rfl A
 have o:Xr a name=0:=by rw[e];simp[Xr,L.off,C]
 have qd:Q3 a name=0:=by
  unfold Q3;rw[o,c];simp
 have d:a.nodes[s.nodes.length]?=some ⟨name,true,Sl.none,Sl.none⟩:=by rw[e];simp
 have E:(Q5 a.nodes name).bind (a.nodes[·]?)=some ⟨name,true,Sl.none,Sl.none⟩:=by rw[c];exact d
 have t:kH a=(0,a):=by
  unfold kH;rw[show a.fuse= -1 by rw[e];exact L.fuse,if_neg wH,if_neg wH]
 have hc:VK 0 B=0:=by
  unfold VK;rw[if_neg wC]
 have r:Jf [] 0 B=B:=by
  unfold Jf;rw[if_pos ⟨hc,h⟩];unfold Xz;simp
 have I:Zl a.nodes<=a.nodes.length*32768:=qxo fun m f=>by
  rw[e] at f;simp only[vj,qfG] at f;rcases f with f|rfl
  .exact(L.nd m f).2.1
  .simp[Sl.none]
 have z:a.nodes.length<=7:=by
  rw[e];have:=L.len;simp;omega
 have w:a.room=1048576:=by rw[e];exact L.room
 have p:qay a name 0 B=0:=by
  unfold qay;rw[qd,if_neg wH,E];simp only[hc,t,show(Sl.none:Sl UInt8).l=[] from rfl,r];rw[if_neg wH,if_neg];rintro⟨-,u⟩;rw[w] at u;simp only[kf,Nat.sub_zero] at u;omega
 refine⟨p,?_⟩;unfold qdH at j;rw[if_pos p,t] at j;obtain⟨i,n,G,g,hi,rfl,y,e2,F,v⟩:=j;rw[c] at g;injection g with g;subst g;rw[d] at hi;injection hi with hi;subst hi;refine⟨G,y,e2,by rw[F];exact r,v,?_⟩;rw[e];simp
theorem qif(k:Nat)(h:k<16):33<=(vV k).toNat/\(vV k).toNat<=126:=by
 have:∀k,k<16->33<=(vV k).toNat/\(vV k).toNat<=126:=wH
 exact this k h
theorem qti:∀(l:List UInt8),∀x∈jF l,33<=x.toNat/\x.toNat<=126
 |[]=>by simp[jF]
 |b::l=>by
  intro x hx;simp only[jF,jI] at hx;have a:=b.toNat_lt;rcases hx with rfl|rfl|hx
  .exact qif _ wC
  .exact qif _ wC
  .exact qti l x hx
theorem qtl:∀(f v:Nat),∀x∈ZX f v,33<=x.toNat/\x.toNat<=126
 |0,_=>by simp[ZX]
 |f+1,v=>by
  intro x hx;rw[ZX] at hx;split at hx
  .rw[List.mem_singleton.1 hx];exact qif _ wC
  .rcases List.mem_append.1 hx with h|h
   .exact qtl f _ x h
   .rw[List.mem_singleton.1 h];exact qif _ wC
theorem qtN(v:Nat):∀x∈Qo v,33<=x.toNat/\x.toNat<=126:=by
 intro x hx;unfold Qo at hx;rcases List.mem_append.1 hx with h|h
 .rw[(List.mem_replicate.1 h).2];decide
 .exact qtl 16 v x h
theorem qvz{q:List UInt8}(b:q.length=16)(h r:Nat):Kv (kW q h r)=true:=by
 have e:=qfC b h r
 have a:∀x∈kW q h r,33<=x.toNat/\x.toNat<=126:=by
  intro x hx;simp only[kW,Yo,vj,jI] at hx;rcases hx with hx|(hx|rfl|hx|rfl|hx)|hx
  .revert x hx;decide
  .exact qti q x hx
  .decide
  .exact qtN h x hx
  .decide
  .exact qtN r x hx
  .revert x hx;decide
 unfold Kv;rw[decide_eq_true wC,decide_eq_true wC];simp only[Yd];rw[qgX];intro x hx;obtain⟨c,d⟩:=a x hx;simp[c,d]
def Vi(a:ID)(i:Nat):Inf:=⟨2,a,i,0⟩
structure LaidM (s:Fs) (k:Nat):Prop where
 b:LaidS s k
 n:s.nodes.length=k
 nd:∀(j:Nat)(n:Nd),s.nodes[j]?=some n->n.there=true/\n.b.l.length<=20000/\vx n.b.l=0/\(qH n.b.l).ents<=6/\∃a:ID,n.name=QD (Vi a j)
 id:∀(j:Nat)(n:Nd),s.nodes[j]?=some n->∃k,k<5/\n.name=QD (Vi (idN k) j)
theorem q2F(a:ID){i:Nat}(h:i<1000):InfOk (Vi a i):=by
 exact⟨yJ,yJ⟩
theorem qkG(a:ID){i:Nat}(h:i<1000):QN (QD (Vi a i))=(Vi a i,true):=
 qyX (Vi a i) (.inr ⟨.inl rfl,yJ,yJ⟩)
theorem qsM(a c:ID){i j:Nat}(hi:i<1000)(d:j<1000)(h:i≠j):QD (Vi a i)≠QD (Vi c j):=fun e=>by
 have b:=qkG a hi;rw[e,qkG c d] at b;injection b with b _;unfold Vi at b;injection b with _ _ f _;omega
theorem qsN(a:ID)(i:Nat):QD (Vi a i)=kW a.l i 0:=rfl
def laM(arg:D)(n i:Nat)(e:qu)(K:qe):Prop:=
 i<=n/\qi e 0=some arg/\qi e 1=some (.bool false)/\qi e 5=some (.optr 0 5 0)/\qi e 7=some (.int .i64 i)/\∃s v,FSw K 0 s v/\LaidM s i/\v.pc.length<=4*i
theorem q0P[MaxL][TxtC](R:Bool)(g:List ZL)(zG:R=true->g=[])(hl:g.length<=6)(hz:∀z,z∈g->z.zs.length<=1000000):
  ∃G s v,call cx 7 [.vsl R (qt g) g.length,.bool false] []=some (.optr 0 5 0,G)/\FSw G 0 s v/\LaidM s g.length/\v.pc.length<=24:=by
 suffices hs:∃r,call cx 7 [.vsl R (qt g) g.length,.bool false] []=some r/\∃(G:qe)(s:Fs)(v:FSv),r=(.optr 0 5 0,G)/\FSw G 0 s v/\LaidM s g.length/\v.pc.length<=24 by
  obtain⟨r,hc,G,s,v,rfl,h1⟩:=hs;exact⟨G,s,v,hc,h1⟩
 refine vz (X:=cx) (f:=7) _ Tryz.func7 rfl ⟨rfl,rfl⟩ ?_;have Z9:=q3L;obtain⟨K0,vD⟩:∃T:qe,[some [D.int .i64 1048576,.int .i64 (-1),.bool false,.vsl true [] 0,.vsl true [] 0]]=T:=⟨_,rfl⟩
 have w0:FSw K0 0 ⟨1048576,-1,false,[]⟩ ⟨[],.vsl true [] 0,.vsl true [] 0,[],[],[]⟩:=by
  rw[<-vD];exact⟨rfl,RowA.nil _ _,RowA.nil _ _,rfl,fun i n x h=>wP,fun _=>0,rfl,fun i hi=>wV,fun i hi=>wV,fun j x hx=>by simp at hx⟩
 rw[vD] at Z9;simp[-qd,-qn,-qr,-qG,Tryz.f7,Z9];refine JC (laM (.vsl R (qt g) g.length) g.length) (fun i=>g.length-i) 0 (fun ex e K=>ex=.exit 0/\laM (.vsl R (qt g) g.length) g.length g.length e K) ?_ ?_ ?_
 .exact⟨wC,wE,wE,wE,wE,_,_,w0,⟨⟨rfl,rfl,rfl,wE,fun n k=>by simp at k⟩,rfl,fun j n h=>wP,fun j n h=>wP⟩,wE⟩
 .rintro i e K ⟨hi,p0,p1,p5,p7,s,v,W,L,ag⟩;by_cases S:i<g.length
  .have qo:=zn S;have hw:=qz ((i:Int)+1) ((i+1:Nat):Int);have ax:=zg (i:Int) (i:Int)
   have vK:R=false:=by
    cases k:R with
    |false=>rfl
    |true=>
     rw[zG k] at S;simp at S
   subst vK;obtain⟨z,ac⟩:∃z,z=g[i]:=⟨_,rfl⟩;have aw:z∈g:=(by rw[ac];exact vQ S);have qS:List.drop (i*1) (qt g)=Enc.cells z++qt (g.drop (i+1)):=(by rw[ac];exact XW (n:=1) (α:=ZL) rfl S);rw[Nat.mul_one,ZL.enc] at qS;have KZ:=z.zs_nil;have Qw:=hz z aw;obtain⟨H,Z⟩:∃b,b=z.ln.nil:=⟨_,rfl⟩;obtain⟨zs,N⟩:∃l,l=z.zs:=⟨_,rfl⟩;rw[<-Z,<-N] at qS;rw[<-Z,<-N] at KZ;rw[<-N] at Qw;have sl:=qeR H zs;have sf:=qeS H zs;have sc:=qeT H zs;obtain⟨K1,jb⟩:=ql (qr K (jU H zs 0));have aE:qr K [.vsl H (Ze .i64 zs) zs.length,.int .i64 0]=K1:=jb;have e1:=zJ jb;have g1:=js jb;obtain⟨y,aF,ZV⟩:=qhF (i:Int);obtain⟨x5,k5,aK,-,h5⟩:=KS H zs KZ Qw 0 3000 wH wH;obtain⟨o,I⟩:∃x,x=Vi (idN y) i:=⟨_,rfl⟩;have ak:InfOk o:=(by rw[I];exact q2F _ wC);have ao:o.kind=1\/o.kind=2\/o.kind=3\/o.kind=4:=(by rw[I];exact .inr (.inl rfl));have aA:o.real≠77:=(by rw[I];show(0:Int)≠77;decide);have A:=qyp o ak ao;obtain⟨name,u⟩:∃n,n=QD o:=⟨_,rfl⟩;have V:name=kW (idN y).l i 0:=(by rw[u,I];rfl);have aH:name.length=81:=(by rw[V];exact qfC (idN y).h _ _);have t:Kv name=true:=(by rw[V];exact qvz (idN y).h _ _);rw[<-u] at A;have F:=(idN y).h
   have C:call cx 23 [.agg (.int .i64 2::(qf (idN y).l++[.int .u64 (i:Nat),.int .u64 0]))] []=some (.str name,[]):=by
    rw[<-A,I];rfl
   obtain⟨K2,zN⟩:=ql (qn K1 K.length (jU H zs k5));have e2:=vZ zN;have g2:=kc zN g1;obtain⟨K3,qm,m,dm,ay,wm,om,aI,U,e3,nm⟩:=q0o H zs KZ Qw k5 g2;have nK:∀j,j∈v.names 0->j<K.length:=fun j c=>W.lt c;have l1:=e1.len;have l2:=e2.len;have l3:=e3.len;have W3:=((W.ext e1 (fun _ _=>wE)).ext e2 (fun j c=>by have:=nK j c;simp;omega)).ext e3 (fun j c=>by have:=nK j c;simp;omega)
   have ji:∀n,n∈s.nodes->n.name≠name:=fun n k=>by
    obtain⟨j,c⟩:=List.getElem?_of_mem k;have zu:=(List.getElem?_eq_some_iff.1 c).1;obtain⟨-,-,-,-,a,ha⟩:=L.nd j n c;rw[ha,u,I];exact qsM a _ (by have:=L.n;omega) wC (by have:=L.n;omega)
   obtain⟨K4,v4,q,W4,e4,n4,aN⟩:=q3O W3 (by have:=L.n;omega) wC (fun n k=>by have:=(L.b.nd n k).2.1;omega) (by rw[L.b.fuse];omega) name wC;have ah:=q01 L.b wC ji t;rw[ah] at q W4;simp only at q W4;obtain⟨s4,w⟩:∃x,x=({s with nodes:=s.nodes++[⟨name,true,Sl.none,Sl.none⟩]}:Fs):=⟨_,rfl⟩;rw[<-w] at W4
   have mN:∀j,j∈m.names qm->j∉v.names 0:=fun j c hc=>by
    have:=nm j c;have:=nK j hc;have:=qx g2;omega
   have aq:=qfj wm e4 mN;obtain⟨K5,av,am,e5,aG,Q,jX⟩:=q1M aq om;have W5:=W4.ext e5 (fun _ _=>wE);have aj:List.drop 17 (qf (idN y).l++[D.int .u64 0,.int .u64 0])=[.int .u64 0]:=(by simp[jf,List.drop_of_length_le,F]);have aO:List.take 17 (qf (idN y).l++[D.int .u64 (i:Nat),.int .u64 0])=qf (idN y).l++[D.int .u64 (i:Nat)]:=(by simp[Zp,qJ,F]);have aJ:List.drop 18 (qf (idN y).l++[D.int .u64 (i:Nat),.int .u64 0])=[]:=(by simp[F]);obtain⟨_,kj,M,aL,Y,rfl⟩:=qxe (Sl.mk false av wE) wJ false [(x5:Int)] wE wE 0;have J:=Y rfl;simp only at J;subst J;replace kj:call cx 27 [.vsl false (qf M) M.length,.vsl false [.int .i64 (x5:Nat)] 1,.int .u8 0] []=some (.vsl false (qf M) M.length,[]):=kj;obtain⟨K6,Qk⟩:=ql (qr K5 [.int .i64 (x5:Nat)]);have g6:=js Qk;obtain⟨P,B⟩:=ql (jT K6 [K5.length]);have aa:List.set K6 K5.length none=P:=B;have aM:K6.length=K5.length+1:=by rw[<-Qk,jg]
   have aB:Ext [] K5 P:=by
    refine⟨?_,fun j c _=>?_⟩
    .rw[<-B,QE];omega
    .rw[<-B,VB wG,<-Qk,vw c]
   have W6:=W5.ext aB (fun _ _=>wE)
   have aD:∀n,n∈s4.nodes->n.b.l.length<=32768/\n.safe.l.length<=32768:=fun n k=>by
    rw[w] at k;simp only[vj,qfG] at k;rcases k with k|rfl
    .exact⟨(L.b.nd n k).2.1,(L.b.nd n k).2.2.1⟩
    .simp[Sl.none]
   obtain⟨s7,K7,v7,d,W7,ae,e7,n7,au⟩:=q3F W6 (by rw[w];have:=L.n;simp;omega) aD (by rw[w];simp only;rw[L.b.fuse];omega) (by rw[w];simp only;rw[L.b.room];omega) name wC 0 wC (Sl.mk false M wE) wJ;simp only at d ae;obtain⟨az,xn,O,ai,E,aC,p⟩:=qwb L.b wC ji t wC (fun h0=>by rw[h0] at Q;cases Q) w ae;rw[az] at d;replace d:call cx 20 [.optr 0 5 0,.str name,.int .i64 0,.vsl false (qf M) M.length] P=some (.int .i64 0,K7):=d
   have L7:LaidM s7 (i+1):=by
    refine⟨⟨by rw[p];exact L.b.room,by rw[p];exact L.b.fuse,by rw[p];exact L.b.off,by rw[p];have:=L.n;simp;omega,fun n k=>?_⟩,by rw[p];have:=L.n;simp;omega,fun j n c=>?_,fun j n c=>?_⟩
    .rw[p] at k;simp only[vj,qfG] at k;rcases k with k|rfl
     .exact L.b.nd n k
     .exact⟨ai,by rw[E];omega,by rw[aC];simp,o,ak,ao,aA,by rw[O,u]⟩
    .rw[p] at c;simp only at c;rw[List.getElem?_append] at c;split at c
     .exact L.nd j n c
     .have h3:=(List.getElem?_eq_some_iff.1 c).1;simp only[List.length_singleton] at h3;have ZT:=L.n;have JM:j=i:=wC;rw[show j-s.nodes.length=0 from wC] at c;simp only[kY,qy] at c;subst c;exact⟨ai,by rw[E];omega,by rw[E];exact Q,by rw[E,jX];exact U,idN y,by rw[O,u,I,JM]⟩
    .rw[p] at c;simp only at c;rw[List.getElem?_append] at c;split at c
     .exact L.id j n c
     .have h3:=(List.getElem?_eq_some_iff.1 c).1;simp only[List.length_singleton] at h3;have ZT:=L.n;have JM:j=i:=wC;rw[show j-s.nodes.length=0 from wC] at c;simp only[kY,qy] at c;subst c;exact⟨y,aF,by rw[O,u,I,JM]⟩
   simp[-qd,-qn,-qr,-qG,p0,p1,p5,p7,qo,qS,aE,g1,sf,h5,ZV,F,ax,C,zN,ay,q,am,aj,Qk,g6,aa,kj,d,hw];exact⟨i+1,wC,wC,wE,wE,wE,wE,s7,v7,W7,L7,by rw[au];omega⟩
  .have qo:=zq S;have Zh:i=g.length:=wC;simp[-qd,-qn,-qr,-qG,p0,p1,p5,p7,qo];subst Zh;exact⟨qA _,wE,wE,wE,wE,s,v,W,L,ag⟩
 .rintro ex e K ⟨rfl,hi,p0,p1,p5,p7,s,v,W,L,ag⟩;simp[-qd,-qn,-qr,-qG,p5];exact⟨s,v,W,L,wC⟩
theorem q2T:∀j<5,∀i<j,qI (idN i).l (idN j).l<0:=wH
structure FewS (i:Nat) (l:List Mk):Prop where
 rises:vc l=true
 ok:∀m,m∈l->jx m.seq
 id:∀m,m∈l->∃j,j<i/\m.id=idN j
 len:l.length<=4
theorem FewS.same{i:Nat}{l:List Mk}(h:FewS i l):FewS (i+1) l:=
 ⟨h.rises,h.ok,fun m b=>by obtain⟨j,c,a⟩:=h.id m b;exact⟨j,wC,a⟩,h.len⟩
theorem FewS.add{i:Nat}{l:List Mk}(h:FewS i l)(hi:i<5)(n:l.length<4){a b:Nat}(k:a<1000):FewS (i+1) (l++[⟨idN i,a,b,0⟩]):=by
 refine⟨rises_append.2 ⟨h.rises,rfl,fun x hx y g=>?_⟩,fun m d=>?_,fun m d=>?_,wG⟩
 .obtain⟨j,f,e⟩:=h.id x hx;rw[e,List.mem_singleton.1 g];exact q2T i hi j f
 .rcases List.mem_append.1 d with c|c
  .exact h.ok m c
  .rw[List.mem_singleton.1 c];simp only[jx];omega
 .rcases List.mem_append.1 d with c|c
  .obtain⟨j,f,e⟩:=h.id m c;exact⟨j,wC,e⟩
  .rw[List.mem_singleton.1 c];exact⟨i,wC,rfl⟩
theorem qkl[MaxL][TxtC](nil:Bool)(zs:List Int)(e:nil=true->zs=[])(n:zs.length<9223372036854775808)(k:Nat)(b:Int)(j:1<=b)(d:b<=1000000):
  ∃x k':Nat,(x:Int)<b/\(k<zs.length->k<k')/\call cx 25 [.optr 0 2 0,.int .i64 b] [some (jU nil zs k)]=some (.int .i64 x,[some (jU nil zs k')]):=by
 unfold jU;by_cases a:k<zs.length
 .have f:nil=false:=by
   cases nil with
   |false=>rfl
   |true=>rw[e rfl] at a;simp at a
  subst f;have c:¬(zs.length:Int)<=(k:Int):=wC
  have g:=zn a;have i:=qz ((k:Int)+1) ((k+1:Nat):Int);have o:=qz (((k+1:Nat):Int)-1) (k:Int);have l:=qz (k:Int) (k:Int);obtain⟨x,hx,m⟩:=qh9 zs[k] b j d;refine⟨x,k+1,hx,fun _=>Nat.lt_succ_self k,?_⟩;refine qC Tryz.func25 rfl ⟨rfl,rfl⟩ ?_;simp[Tryz.f25,c,i,g,l,qkC a,m]
 .have c:(zs.length:Int)<=(k:Int):=by omega
  refine⟨0,k,wC,fun h=>absurd h a,?_⟩;refine qC Tryz.func25 rfl ⟨rfl,rfl⟩ ?_;simp[Tryz.f25,c]
def qvE(q:D×qe):Prop:=∃s:Sl Mk,MOk s.l/\q=((.vsl s.nil (qt s.l) s.l.length),[])
def smI(nil:Bool)(zs:List Int)(i:Nat)(e:qu)(K:qe):Prop:=
 i<=5/\qi e 3=some (.optr 0 2 0)/\qi e 5=some (.int .i64 i)/\∃(l:List Mk)(d:D)(L:List Nat)(k:Nat),qi e 4=some d/\RowA K 19 d (qt l) L/\0∉L/\qd K 0=some (jU nil zs k)/\FewS i l/\(l=[]->d=.vsl true [] 0)
theorem q0g[MaxL][TxtC](nil:Bool)(zs:List Int)(qY:nil=true->zs=[])(hz:zs.length<9223372036854775808):
  ∃q,call cx 9 [.vsl nil (Ze .i64 zs) zs.length] []=some q/\qvE q:=by
 refine Vp (X:=cx) (f:=9) (args:=[.vsl nil (Ze .i64 zs) zs.length]) (H:=[]) qvE Tryz.func9 rfl ⟨rfl,rfl⟩ ?_;have sf:=qeS nil zs;have sl:=qeR nil zs;have sc:=qeT nil zs;obtain⟨K0,vD⟩:∃J:qe,[some [.vsl nil (Ze .i64 zs) zs.length,.int .i64 0]]=J:=⟨_,rfl⟩;have g0:qd K0 0=some (jU nil zs 0):=by rw[<-vD];rfl
 have F:qr [] [.vsl nil (Ze .i64 zs) zs.length,.int .i64 0]=K0:=vD;simp[-qd,-qn,-qr,-qG,-qK,Tryz.f9,F];refine JC (smI nil zs) (fun i=>5-i) 0 (fun ex e K=>ex=.exit 0/\smI nil zs 5 e K) ?_ ?_ ?_
 .exact⟨vg _,wE,wE,[],.vsl true [] 0,[],0,wE,RowA.nil _ _,wE,g0,⟨rfl,wE,wE,wE⟩,fun _=>rfl⟩
 .rintro i e K ⟨hi,E,S,l,d,L,k,w,B,g,C,o,Q⟩;have y:(qt l).length=l.length*19:=Kx (n:=19) wE l
  have zY:qK Tryz.prog 32 d=some (.int .i64 l.length):=by
   rcases B with⟨I,p,-⟩|⟨r,m,I,p,-,-⟩
   .rw[p] at y;have:l.length=0:=(by simp at y;omega);rw[I,this];simp
   .have:m=l.length:=wC;rw[I,this];simp
  by_cases qg:i<5
  case neg=>
   have U:¬(i:Int)<5:=wC;have aj:i=5:=wC;subst aj;simp[-qd,-qn,-qr,-qG,-qK,E,w,S];exact⟨qA _,wE,wE,l,d,L,k,wE,B,g,C,o,Q⟩
  have U:(i:Int)<5:=wC
  have hw:=qz ((i:Int)+1) ((i+1:Nat):Int);obtain⟨x,z,hx,-,c1⟩:=qkl nil zs qY hz k 3 wH wH;obtain⟨a,k5,ha,-,c2⟩:=qkl nil zs qY hz z 9 wH wH;obtain⟨b,T,hb,-,c3⟩:=qkl nil zs qY hz k5 3 wH wH;have wa:=zg (a:Int) (a:Int);have wb:=zg (b:Int) (b:Int);have ZV:=qoH (j:=i) wC;have ak:=o.len;have gS:∀X,qd (qn K 0 X) 0=some X:=fun X=>zk (qx C);have xS:∀X,Ext [0] K (qn K 0 X):=fun X=>Ext.set K 0 X;have u:=B.ext (xS (jU nil zs z)) (fun j O hc=>g (by rw[List.mem_singleton.1 hc] at O;exact O));have R:=B.ext (xS (jU nil zs T)) (fun j O hc=>g (by rw[List.mem_singleton.1 hc] at O;exact O));by_cases v:x=1/\l.length<4
  .obtain⟨v,h4⟩:=v;subst v;have Z:(l.length:Int)<4:=wC;have N:=o.add qg h4 (a:=a) (b:=b) wC;generalize idN i=q at *;have hq:=q.h;have am:List.take 16 (qf q.l)=qf q.l:=qJ wE;obtain⟨t,s⟩:=ql (qn K 0 (jU nil zs T));rw[s] at R;have A:qd t 0=some (jU nil zs T):=(by rw[<-s];exact gS _);obtain⟨M,hM⟩:∃M:List D,(Enc.cells (⟨q,a,b,0⟩:Mk):List D)=M:=⟨_,rfl⟩;have ae:qf q.l++[D.int .u64 (a:Nat),.int .u64 (b:Nat),.int .u64 0]=M:=(by rw[<-hM];rfl);have lM:M.length=19:=(by rw[<-hM];simp);have tM:List.take 19 M=M:=qJ wC;obtain⟨K3,V⟩:=ql (qr t M);have W:=zJ V;have g3:=js V;obtain⟨d',K4,L',hA,Y,x4,ac⟩:=(R.ext W (fun _ _=>wE)).append (P:=Tryz.prog) (st:=32) (xt:=32) (e:=40) (x:=.osl t.length 19 0 1 19) (xs:=M) (m:=1) wE wE (by simp[-qd,g3,lM,tM]) wE wC wC wC wM wM;have G:t≠[]:=fun I=>by have:=qx A;rw[I] at this;simp at this
   have Y3:0<t.length:=qx A;simp[-qd,-qn,-qr,-qG,-qK,E,w,S,zY,U,C,sf,c1,c2,c3,gS,QI,Z,ZV,wa,wb,hq,Zp,jf,vY,s,ae,lM,V,G,hA,hw];refine⟨i+1,wC,wC,wE,wE,l++[⟨q,a,b,0⟩],d',L',T,wE,by rw[qc3,hM];exact Y,fun hc=>?_,x4.get (W.get A wE) g,N,fun h=>wP⟩;rcases ac 0 hc with p|p
   .exact g p
   .have:=W.len;omega
  .have c:=o.same;obtain⟨t,s⟩:=ql (qn K 0 (jU nil zs z));rw[s] at u;have A:qd t 0=some (jU nil zs z):=(by rw[<-s];exact gS _);by_cases aa:x=1
   .subst aa;have Z:¬(l.length:Int)<4:=wC;simp[-qd,-qn,-qr,-qG,-qK,E,w,S,zY,U,C,sf,c1,Z,s,hw];exact⟨i+1,wC,wC,wE,wE,l,d,L,z,wE,u,g,A,c,Q⟩
   .have ai:¬(x:Int)=1:=wC;simp[-qd,-qn,-qr,-qG,-qK,E,w,S,U,C,sf,c1,ai,s,hw];exact⟨i+1,wC,wC,wE,wE,l,d,L,z,wE,u,g,A,c,Q⟩
 .rintro ex e K ⟨rfl,-,E,S,l,d,L,k,w,B,g,C,o,Q⟩;have y:(qt l).length=l.length*19:=Kx (n:=19) wE l;have kE:MOk l:=⟨by unfold Jk;rw[o.rises,decide_eq_true o.len];rfl,o.ok⟩;rcases B with⟨rfl,p,-⟩|⟨r,m,rfl,p,ah,rfl⟩
  .have ag:l=[]:=kx (by rw[p] at y;simp at y;omega);subst ag;simp[-qd,-qn,-qr,-qG,-qK,w];exact⟨Sl.none,kE,rfl⟩
  .have hm:m=l.length:=wC;subst hm;have qQ:l≠[]:=fun h=>by have:=Q h;cases this
   have vN:idFree.idFreeL (qt l)=true:=wE;have zV:List.take (l.length*19) (qt l)=qt l:=qJ wC;simp[-qd,-qn,-qr,-qG,-qK,w,ah,y,vN,zV];exact⟨⟨false,l,wE⟩,kE,rfl⟩
def vA(b:List UInt8):Bool:=decide (vx b=0)
def Zx:List (List UInt8)->List Nat->List D
 |n::a,p::ps=>.str n::(Enc.cells (QN n).1++ .optr p 5 0::Zx a ps)
 |_,_=>[]
theorem qtK:∀(c:List (List UInt8))(ps:List Nat)(n:List UInt8)(p:Nat),c.length=ps.length->Zx (c++[n]) (ps++[p])=Zx c ps++(.str n::(Enc.cells (QN n).1++[.optr p 5 0]))
 |[],[],n,p,_=>rfl
 |a::c,b::ps,n,p,h=>by
  simp only[kC,Zx,qtK c ps n p wQ,jY]
 |[],_::_,_,_,h=>by simp at h
 |_::_,[],_,_,h=>by simp at h
theorem qin:∀(c:List (List UInt8))(ps:List Nat),c.length=ps.length->(Zx c ps).length=c.length*21
 |[],[],_=>rfl
 |a::c,b::ps,h=>by
  have d:=qin c ps wQ;have hc:(Enc.cells (QN a).1:List D).length=19:=wE
  simp only[Zx,jA,zp,d,hc];omega
 |[],_::_,h=>by simp at h
 |_::_,[],h=>by simp at h
theorem qtL:∀(c:List (List UInt8))(ps:List Nat)(i:Nat)(n:List UInt8)(p:Nat),c.length=ps.length->c[i]?=some n->ps[i]?=some p->∃r,List.drop (i*21) (Zx c ps)=.str n::(Enc.cells (QN n).1++ .optr p 5 0::r)
 |[],_,i,n,p,_,h,_=>by simp at h
 |a::c,b::ps,0,n,p,_,f,d=>by
  simp only[kY,qy] at f d;subst f;subst d;exact⟨_,rfl⟩
 |a::c,b::ps,i+1,n,p,h,f,d=>by
  obtain⟨r,g⟩:=qtL c ps i n p wQ xo ww;refine⟨r,?_⟩;have hc:(Enc.cells (QN a).1:List D).length=19:=wE
  have e:(i+1)*21=i*21+21:=wC
  have e2:Zx (a::c) (b::ps)=(.str a::(Enc.cells (QN a).1++[.optr b 5 0]))++Zx c ps:=by simp[Zx]
  rw[e2,e,Nat.add_comm,<-ky,KH wE,g]
 |_::_,[],_,_,_,h,_,_=>by simp at h
theorem qib(H:qe)(a b:List D):qn (qr H a) H.length b=qr H b:=by simp[qn,qr]
structure DirI (H:qe) (s:Fs) (N:List (List UInt8)) (i:Nat) (K:qe) (ps:List Nat) (oD hD:D) (Lo Lh:List Nat):Prop where
 ext:Ext [] H K
 pl:((N.take i).filter (Z7 (jG s) vA)).length=ps.length
 oR:RowA K 21 oD (Zx ((N.take i).filter (Z7 (jG s) vA)) ps) Lo
 hR:RowA K 1 hD (jN ((N.take i).filter (Z5 (jG s) vA))) Lh
 file:∀(j:Nat)(n:List UInt8)(p:Nat),((N.take i).filter (Z7 (jG s) vA))[j]?=some n->ps[j]?=some p->qd K p=some (qa0 (jG s n))
 oN:∀j,j∈Lo->H.length<=j/\j∉Lh/\j∉ps
 hN:∀j,j∈Lh->H.length<=j/\j∉ps
 pN:∀j,j∈ps->j<K.length
 pD:ps.Nodup
 pH:∀j,j∈ps->H.length<=j
section
variable {H K:qe} {s:Fs} {N:List (List UInt8)} {i:Nat} {ps:List Nat} {oD hD:D} {Lo Lh:List Nat} {n:List UInt8}
theorem DirI.skip(I:DirI H s N i K ps oD hD Lo Lh)(c:N.take (i+1)=N.take i++[n])(e:Z7 (jG s) vA n=false)(f:Z5 (jG s) vA n=false){T:qe}(x:Ext [] K T):DirI H s N (i+1) T ps oD hD Lo Lh:=by
 have b:(N.take (i+1)).filter (Z7 (jG s) vA)=(N.take i).filter (Z7 (jG s) vA):=by rw[c,List.filter_append];simp[e]
 have e2:(N.take (i+1)).filter (Z5 (jG s) vA)=(N.take i).filter (Z5 (jG s) vA):=by rw[c,List.filter_append];simp[f]
 exact⟨I.ext.trans x (NewL.refl _ _),by rw[b];exact I.pl,by rw[b];exact I.oR.ext x (fun _ _=>wE),by rw[e2];exact I.hR.ext x (fun _ _=>wE),fun j n p a d=>x.get (I.file j n p (by rw[b] at a;exact a) d) wE,I.oN,I.hN,fun j a=>x.lt (I.pN j a),I.pD,I.pH⟩
theorem DirI.other(I:DirI H s N i K ps oD hD Lo Lh)(l:N.take (i+1)=N.take i++[n])(o:Z7 (jG s) vA n=false)(t:Z5 (jG s) vA n=true){g T:qe}{d:D}{b:List Nat}(c:Ext [] K g)
  (q:RowA T 1 d (jN ((N.take i).filter (Z5 (jG s) vA))++[.str n]) b) (x:Ext Lh g T) (m:NewL Lh b g.length):DirI H s N (i+1) T ps oD d Lo b:=by
 have f:(N.take (i+1)).filter (Z7 (jG s) vA)=(N.take i).filter (Z7 (jG s) vA):=by rw[l,List.filter_append];simp[o]
 have e2:(N.take (i+1)).filter (Z5 (jG s) vA)=(N.take i).filter (Z5 (jG s) vA)++[n]:=by rw[l,List.filter_append];simp[t]
 have v:=c.len;have u:=I.ext.len;have e:∀j,j∈Lo->j<K.length:=fun j a=>I.oR.lt a;refine⟨(I.ext.trans c (NewL.refl _ _)).trans x (fun j a=>.inr (I.hN j a).1),by rw[f];exact I.pl,?_,?_,fun j n p a k=>?_,fun j a=>?_,fun j a=>?_,fun j a=>x.lt (c.lt (I.pN j a)),I.pD,I.pH⟩
 .rw[f];exact(I.oR.ext c (fun _ _=>wE)).ext x (fun j a hc=>(I.oN j a).2.1 hc)
 .rw[e2];have:jN ((N.take i).filter (Z5 (jG s) vA)++[n])=jN ((N.take i).filter (Z5 (jG s) vA))++[.str n]:=by simp[jN]
  rw[this];exact q
 .have r:=jH k;exact x.get (c.get (I.file j n p (by rw[f] at a;exact a) k) wE) (fun hc=>(I.hN p hc).2 r)
 .refine⟨(I.oN j a).1,fun hc=>?_,(I.oN j a).2.2⟩;rcases m j hc with h|h
  .exact(I.oN j a).2.1 h
  .have:=e j a;omega
 .rcases m j a with h|h
  .exact I.hN j h
  .exact⟨wC,fun hc=>by have:=I.pN j hc;omega⟩
theorem DirI.found(I:DirI H s N i K ps oD hD Lo Lh)(w:N.take (i+1)=N.take i++[n])(z:Z7 (jG s) vA n=true)(L:Z5 (jG s) vA n=false){q T:qe}{p:Nat}{o:D}{f:List Nat}(l:Ext [] K q)
  (v:qd q p=some (qa0 (jG s n))) (B:K.length<=p) (G:RowA T 21 o (Zx ((N.take i).filter (Z7 (jG s) vA)) ps++(.str n::(Enc.cells (QN n).1++[.optr p 5 0]))) f) (x:Ext Lo q T) (J:NewL Lo f q.length):DirI H s N (i+1) T (ps++[p]) o hD f Lh:=by
 have u:(N.take (i+1)).filter (Z7 (jG s) vA)=(N.take i).filter (Z7 (jG s) vA)++[n]:=by rw[w,List.filter_append];simp[z]
 have e2:(N.take (i+1)).filter (Z5 (jG s) vA)=(N.take i).filter (Z5 (jG s) vA):=by rw[w,List.filter_append];simp[L]
 have P:=l.len;have O:=I.ext.len;have g:∀j,j∈Lo->j<K.length:=fun j b=>I.oR.lt b;have k:∀j,j∈Lh->j<K.length:=fun j b=>I.hR.lt b;have A:=qx v;refine⟨(I.ext.trans l (NewL.refl _ _)).trans x (fun j b=>.inr (I.oN j b).1),by rw[u,zp,zp,I.pl];rfl,?_,?_,fun j m r b e=>?_,fun j b=>?_,fun j b=>?_,fun j b=>?_,?_,fun j b=>?_⟩
 .rw[u,qtK _ _ _ _ I.pl];exact G
 .rw[e2];exact(I.hR.ext l (fun _ _=>wE)).ext x (fun j b hc=>(I.oN j hc).2.1 b)
 .rw[u] at b;by_cases y:j<ps.length
  .rw[vJ (by rw[I.pl];exact y)] at b;rw[vJ y] at e;have F:=jH e;exact x.get (l.get (I.file j m r b e) wE) (fun hc=>(I.oN r hc).2.2 F)
  .rw[jn (by rw[I.pl];omega),I.pl] at b;rw[jn wC] at e
   have M:j-ps.length=0:=by
    have:=(List.getElem?_eq_some_iff.1 e).1;simp at this;omega
   rw[M] at b e;simp only[kY,qy] at b e;subst b;subst e;exact x.get v (fun hc=>by have:=g _ hc;omega)
 .rcases J j b with h|h
  .have t:=I.oN j h;have:=g j h;refine⟨t.1,t.2.1,fun hc=>?_⟩;rcases List.mem_append.1 hc with d|d
   .exact t.2.2 d
   .have:=List.mem_singleton.1 d;omega
  .refine⟨wC,fun hc=>by have:=k j hc;omega,fun hc=>?_⟩;rcases List.mem_append.1 hc with d|d
   .have:=I.pN j d;omega
   .have:=List.mem_singleton.1 d;omega
 .refine⟨(I.hN j b).1,fun hc=>?_⟩;rcases List.mem_append.1 hc with d|d
  .exact(I.hN j b).2 d
  .have:=List.mem_singleton.1 d;have:=k j b;omega
 .rcases List.mem_append.1 b with d|d
  .exact x.lt (l.lt (I.pN j d))
  .have:=List.mem_singleton.1 d;have:=x.len;omega
 .rw[List.nodup_append];refine⟨I.pD,wE,fun a E c hc C=>?_⟩;have:=I.pN a E;have:=List.mem_singleton.1 hc;omega
 .rcases List.mem_append.1 b with d|d
  .exact I.pH j d
  .have:=List.mem_singleton.1 d;omega
end
def quF(H:qe)(q:Nat)(s:Fs)(N:List (List UInt8))(a:Bool)(i:Nat)(e:qu)(K:qe):Prop:=
 i<=N.length/\qi e 0=some (.optr q 5 0)/\qi e 18=some (.vsl a (jN N) N.length)/\qi e 19=some (.int .i64 N.length)/\qi e 20=some (.int .i64 i)/\∃ps oD hD Lo Lh,qi e 5=some oD/\qi e 6=some hD/\DirI H s N i K ps oD hD Lo Lh
theorem q4Q[MaxL]{H:qe}{q:Nat}{s:Fs}{v:FSv}(W:FSw H q s v)(S:s.off=false)(hn:s.nodes.length<1000)(hb:∀n,n∈s.nodes->n.b.l.length<=1000000)(aA:∀n,n∈Zn s->n.length<=1000):
  ∃T ps oD hD Lo Lh,call cx 8 [.optr q 5 0] H=some (.tup [oD,hD,.int .i64 0],T)/\DirI H s (kh (Zn s)) (kh (Zn s)).length T ps oD hD Lo Lh:=by
 suffices hs:∃r,call cx 8 [.optr q 5 0] H=some r/\∃(T:qe)(ps:List Nat)(oD hD:D)(Lo Lh:List Nat),r=(.tup [oD,hD,.int .i64 0],T)/\DirI H s (kh (Zn s)) (kh (Zn s)).length T ps oD hD Lo Lh by
  obtain⟨r,hc,T,ps,oD,hD,Lo,Lh,rfl,h1⟩:=hs;exact⟨T,ps,oD,hD,Lo,Lh,hc,h1⟩
 refine vz (X:=cx) (f:=8) _ Tryz.func8 rfl ⟨rfl,rfl⟩ ?_;have Xe:=q3K W;rw[S] at Xe;obtain⟨K1,nl,t,x1,zG⟩:=q3M W wC;obtain⟨N,hN⟩:∃N,N=kh (Zn s):=⟨_,rfl⟩;have M:(Zn s).length=N.length:=by rw[hN];simp
 have aF:N.length<=1000:=by
  rw[<-M];unfold Zn;rw[S];simp only[kZ,if_false,List.length_map];exact zI (List.length_filter_le _ _) wC
 have az:∀n,n∈N->n.length<=1000:=fun n h=>aA n (sortL_mem.1 (hN▸h));rw[<-hN,M] at t;rw[<-hN];simp[-qd,-qn,-qr,-qG,Tryz.f8,Xe,t];refine JC (quF H q s N nl) (fun i=>N.length-i) 0 (fun ex e K=>ex=.exit 0/\quF H q s N nl N.length e K) ?_ ?_ ?_
 .exact⟨vg _,wE,wE,wE,wE,[],.vsl true [] 0,.vsl true [] 0,[],[],wE,wE,x1,rfl,RowA.nil _ _,RowA.nil _ _,fun j n p h=>wP,fun j hj=>by simp at hj,fun j hj=>by simp at hj,fun j hj=>by simp at hj,List.nodup_nil,fun j hj=>by simp at hj⟩
 .rintro i e K ⟨hi,p0,u,y,z,ps,oD,hD,Lo,Lh,p5,Y,I⟩;by_cases qg:i<N.length
  .have qo:=zn qg;have hw:=qz ((i:Int)+1) ((i+1:Nat):Int)
   have vK:nl=false:=by
    cases jR:nl with
    |false=>rfl
    |true=>
     have h0:=zG jR;rw[h0] at M;simp at M;omega
   subst vK;obtain⟨n,aa⟩:=ql (N[i])
   have qS:List.drop i (jN N)=.str n::jN (N.drop (i+1)):=by
    unfold jN;rw[<-List.map_drop,zZ qg,aa];rfl
   have aC:n.length<=1000:=az n (aa▸vQ qg);have g:N.take (i+1)=N.take i++[n]:=(by rw[<-aa];exact Vs qg);have k:=qzb n wC;obtain⟨d,U⟩:∃x,x=(QN n).1:=⟨_,rfl⟩;rw[<-U] at k;obtain⟨C,G⟩:∃C:List D,(Enc.cells d:List D)=.int .i64 d.kind::C:=⟨_,rfl⟩;rw[G] at k
   have w:C.length=18:=by
    have:(Enc.cells d:List D).length=19:=wE;rw[G] at this;simpa using this
   have ag:C.all idFree=true:=by
    have:=Enc.free d;rw[G] at this;simpa[idFree] using this
   have O:=zca ag;have o:=zfl ag;have am:List.take 18 C=C:=qJ wC;obtain⟨Ka,QV⟩:=ql (qr K (.int .i64 d.kind::C));have xa:=zJ QV;have ga:=js QV;have Wa:=(W.ext I.ext (fun _ _=>wE)).ext xa (fun _ _=>wE);obtain⟨F,nb,jd,xb,XJ⟩:=q3Q Wa wC hb n wC;obtain⟨A,hA⟩:∃A,A=jG s n:=⟨_,rfl⟩;rw[<-hA] at jd XJ
   have aq:A.length<=1000000:=by
    rw[hA];unfold jG;split
    .simp
    .cases XL:(Q5 s.nodes n).bind (s.nodes[·]?) with
     |none=>simp
     |some x=>
      simp only;cases hf:Q5 s.nodes n with
      |none=>rw[hf] at XL;simp at XL
      |some j=>
       rw[hf] at XL;exact hb x (jH XL)
   have a:=q11 ⟨nb,A,XJ⟩ aq;replace a:call cx 31 [.vsl nb (qf A) A.length] []=if vx A=0 then some (.tup [.optr 0 5 0,.int .i64 0],[some (qa0 A)]) else some (.tup [.nilp,.int .i64 (vx A:Nat)],[]):=a;have gb:qd F K.length=some (.int .i64 d.kind::C):=xb.get ga wE;cases R:(QN n).2 with
   |false=>
    rw[R] at k;simp[-qd,-qn,-qr,-qG,p0,p5,Y,u,y,z,qo,qS,k,zo,qib,o,O,w,QV,hw];exact⟨i+1,wC,wC,wE,wE,wE,wE,ps,oD,hD,Lo,Lh,wE,wE,I.skip g (by simp[Z7,R]) (by simp[Z5,R]) xa⟩
   |true=>
    rw[R] at k;by_cases E:d.kind=4
    .have kG:(d.kind==4)=true:=(by rw[E];rfl);have ao:=eq_true E;simp[-qd,-qn,-qr,-qG,p0,p5,Y,u,y,z,qo,qS,k,zo,qib,o,O,w,QV,ga,hw,kG];rw[U] at E;exact⟨i+1,wC,wC,wE,wE,wE,wE,ps,oD,hD,Lo,Lh,wE,wE,I.skip g (by simp[Z7,E]) (by simp[Z5,E]) xa⟩
    .have kG:(d.kind==4)=false:=(by simp[E]);have ao:=eq_false E;by_cases hc:vx A=0
     .rw[if_pos hc] at a;obtain⟨Q,Zk⟩:∃T:qe,F++[some (qa0 A)]=T:=⟨_,rfl⟩;have B:qr F (qa0 A)=Q:=Zk;have xc:=zJ B;have gc:qd Q K.length=some (.int .i64 d.kind::C):=xc.get gb wE;have gf:qd Q F.length=some (qa0 A):=(by rw[<-B,zo]);have aE:=xa.len;have aD:=xb.len;have aj:Q.length=F.length+1:=(by rw[<-B,jg]);obtain⟨V,L⟩:∃c:List D,c=.str n:: .int .i64 d.kind::(C++[.optr F.length 5 0]):=⟨_,rfl⟩;have Z:V.length=21:=(by rw[L];simp[w]);have av:List.take 21 V=V:=qJ wC
      have aG:(∀x,x∈V->closed Q.length x=true)=True:=eq_true fun x hx=>by
       rw[L] at hx;simp only[jI,vj,List.not_mem_nil,or_false] at hx;rcases hx with rfl|rfl|hx|rfl
       .rfl
       .rfl
       .exact Vj x (List.all_eq_true.1 ag x hx)
       .simp[closed];omega
      obtain⟨Kd,ac⟩:=ql (qr Q V);have xd:=zJ ac;have gd:=js ac;have ax:List.drop 19 (C++[D.nilp])=[]:=(by simp[w]);have ae:Q≠[]:=fun e0=>by rw[e0] at aj;simp at aj
      have x4:=((xa.trans xb (NewL.refl _ _)).trans xc (NewL.refl _ _)).trans xd (NewL.refl _ _);have Qj:=qin _ _ I.pl;have ai:((N.take i).filter (Z7 (jG s) vA)).length<=1000:=zI (List.length_filter_le _ _) wu;obtain⟨ay,Ke,aw,ah,J,xe,ne⟩:=(I.oR.ext x4 (fun _ _=>wE)).append (P:=Tryz.prog) (st:=28) (xt:=28) (e:=57) (x:=.osl Q.length 21 0 1 21) (xs:=V) (m:=1) wE wE (by simp[-qd,gd,Z,av]) wE wC (by rw[Z]) wC (by rw[Qj];simp[qF];omega) (by rw[Qj];simp[qF];omega);simp[-qd,-qn,-qr,-qG,p0,p5,Y,u,y,z,qo,qS,k,zo,qib,o,O,w,QV,ga,hw,kG,jd,a,am,Zk,gc,<-L,Z,ac,ae,ah,ax];have ak:V=.str n::(Enc.cells (QN n).1++[.optr F.length 5 0]):=(by rw[<-U,G,L];rfl);rw[ak] at J;exact⟨i+1,wC,wC,wE,wE,wE,wE,ps++[F.length],ay,hD,aw,Lh,wE,wE,I.found g (by simp[Z7,R,<-U,E,vA,<-hA,hc]) (by simp[Z5,R,<-U,E,vA,<-hA,hc]) x4 (by rw[<-hA];exact xd.get gf wE) wC J xe ne⟩
     .rw[if_neg hc] at a;have Jx:((vx A:Int) !=0)=true:=wG;obtain⟨Q,Zk⟩:=ql (qr F [.str n]);have xc:=zJ Zk;have gc:=js Zk;have x4:=(xa.trans xb (NewL.refl _ _)).trans xc (NewL.refl _ _);have ai:((N.take i).filter (Z5 (jG s) vA)).length<=1000:=zI (List.length_filter_le _ _) wu;obtain⟨au,Ke,aB,ah,J,xe,ne⟩:=(I.hR.ext x4 (fun _ _=>wE)).append (P:=Tryz.prog) (st:=29) (xt:=29) (e:=9) (x:=.osl F.length 1 0 1 1) (xs:=[.str n]) (m:=1) wE wE (by simp[-qd,gc]) wE wC wE wC wM wM;simp[-qd,-qn,-qr,-qG,p0,p5,Y,u,y,z,qo,qS,k,zo,qib,o,O,w,QV,ga,hw,kG,jd,a,Jx,Zk,ah];exact⟨i+1,wC,wC,wE,wE,wE,wE,ps,oD,au,Lo,aB,wE,wE,I.other g (by simp[Z7,R,<-U,E,vA,<-hA,hc]) (by simp[Z5,R,<-U,E,vA,<-hA,hc]) x4 J xe ne⟩
  .have qo:=zq qg;have Zh:i=N.length:=wC;subst Zh;simp[-qd,-qn,-qr,-qG,p0,p5,Y,u,y,z,qo];exact⟨qA _,wE,wE,wE,wE,ps,oD,hD,Lo,Lh,wE,wE,I⟩
 .rintro ex e K ⟨rfl,-,p0,u,y,z,ps,oD,hD,Lo,Lh,p5,Y,I⟩;simp[-qd,-qn,-qr,-qG,p5,Y];exact⟨_,ps,_,_,⟨⟨rfl,rfl⟩,rfl⟩,Lo,Lh,I⟩
end Go.Ev.S
namespace Go.Ev.S
open Go Go.Proofs Go.Ev
theorem q5T{F:zF}{f:Nat}{H:qe}{args:List D}{r:D}{T:qe}(h:Yq args=[])(e:args.all idFree=true)(g:F f args []=some (r,T)):qb7 F f args H=some (mv [] H.length r,H++T.map (X6 [] H.length)):=by
 have a:∀l:List D,l.all idFree=true->YU [] l=some l:=by
  intro l
  induction l with
  |nil=>intro _;rfl
  |cons d l c=>
   intro b;simp only[Vc,zX] at b;rw[YU,c b.2];unfold qaO;rw[if_pos b.1]
 unfold qb7 qdK;rw[h,show qlA H 6 (YL [] [])=[] from rfl,a args e,show Yf [] H []=some [] from rfl];simp only;rw[if_pos List.nodup_nil,g];simp[J5]
theorem qno{H:qe}{k n:Nat}{v:D}{cs:List D}{L:List Nat}{t e:TypeId}(h:RowA H k v cs L)(a:Tryz.prog.underlying t=some (.slice e))(b:cs.length=n*k)(c:0<k):qK Tryz.prog t v=some (.int .i64 n):=by
 unfold qK;rcases h with⟨rfl,hc,_⟩|⟨r,m,rfl,d,_,_⟩
 .rw[hc] at b;have:n=0:=(Nat.mul_eq_zero.1 (by simpa using b.symm)).resolve_right wC;subst this;simp[a]
 .have:m=n:=Nat.eq_of_mul_eq_mul_right c wC;subst this;simp[a]
def qvN(a:Sl ZL)(n:Nat)(q:D×qe):Prop:=∃b:Bool,q=(.bool b,[])/\(b=true->a.l.length<=n/\∀z,z∈a.l->z.zs.length<=80)
theorem q0B[MaxL](a:Sl ZL)(n:Nat)(u:n<=100):∃q,call cx 6 [(.vsl a.nil (qt a.l) a.l.length),.int .i64 (n:Nat)] []=some q/\qvN a n q:=by
 refine Vp (X:=cx) (f:=6) (args:=[(.vsl a.nil (qt a.l) a.l.length),.int .i64 (n:Nat)]) (H:=[]) (qvN a n) Tryz.func6 rfl ⟨rfl,rfl⟩ ?_;by_cases v:n<a.l.length
 .have r:=zn v;simp[Tryz.f6,r];exact⟨false,rfl,fun h=>wI⟩
 have r:=zq v;simp[Tryz.f6,r];refine Run.loopThen (fun(i:Nat) e H=>i<=a.l.length/\qi e 0=some (.vsl a.nil (qt a.l) a.l.length)/\qi e 5=some (.int .i64 i)/\H=[]/\∀j z,j<i->a.l[j]?=some z->z.zs.length<=80) (fun i=>a.l.length-i) 0 ?_ ?_
 .exact⟨vg _,wE,wE,rfl,fun j z g=>absurd g (Nat.not_lt_zero _)⟩
 rintro i e H ⟨hi,o,t,rfl,x⟩;by_cases k:i<a.l.length
 .have m:=zn k;have C:=qz ((i:Int)+1) ((i+1:Nat):Int);have w:=Sl.nn k;obtain⟨z,d⟩:∃z,z=a.l[i]:=⟨_,rfl⟩;have p:List.drop (i*1) (qt a.l)=Enc.cells z++qt (a.l.drop (i+1)):=by rw[d];exact XW (n:=1) (α:=ZL) rfl k
  rw[Nat.mul_one,ZL.enc] at p;rw[w] at o;by_cases B:80<z.zs.length
  .have b:(80:Int)<(z.zs.length:Int):=wC;simp[o,t,m,p,b];exact⟨false,rfl,fun h=>wI⟩
  .have b:¬(80:Int)<(z.zs.length:Int):=wC;simp[o,t,m,p,b,C];refine⟨i+1,wC,wC,w,wC,fun j y g c=>?_⟩;by_cases A:j<i
   .exact x j y A c
   .have:j=i:=wC;subst this;rw[qN k] at c;injection c with c;rw[<-c,<-d];omega
 .have m:=zq k;simp[o,t,m];refine⟨true,rfl,fun _=>⟨wC,fun z s=>?_⟩⟩;obtain⟨j,g⟩:=List.getElem?_of_mem s;exact x j z (by have:=(List.getElem?_eq_some_iff.1 g).1;omega) g
theorem qo9:MOk (Sl.none:Sl Mk).l:=⟨rfl,fun m a=>xB⟩
theorem qua(H:qe):FdsW H (.vsl true [] 0) [] []:=⟨RowA.nil _ _,rfl,fun x hx=>by simp at hx,fun i f h=>wP,fun n a=>by simp[zx] at a⟩
theorem qtQ(n:Nat)(H:qe):FisW n H []:=⟨fun f a=>xB,fun f a=>xB,fun f a=>xB,fun f g a=>xB⟩
theorem qtW{qs:List SqF}(h:qcI (jw []) qs):qs=[]:=kx h.1.symm
theorem qzV[MaxL](H:qe):∃T,call cx 14 [.vsl true [] 0,.vsl true [] 0] H=some (.tup [.agg (Enc.cells Jp),.bool false],T)/\Ext [] H T:=by
 obtain⟨⟨r,T⟩,h,qs,c,a,hx,-⟩:=qoI (qua H) (qtQ _ H) wE (fun u b=>by simp[jw] at b) Sl.none qo9;simp only at a hx;rw[qtW c] at a;subst a;exact⟨T,h,hx⟩
theorem q6D[MaxL](H:qe):∃T,call cx 10 [.vsl true [] 0,.vsl true [] 0,.int .i64 5] H=some (.vsl true [] 0,T)/\Ext [] H T:=by
 obtain⟨⟨r,T⟩,h,qs,c,-,a,hx,-⟩:=qoJ (qua H) (qtQ _ H) wE (fun u b=>by simp[jw] at b) Sl.none qo9 5 wC wC;simp only at a hx;rw[qtW c] at a;subst a;exact⟨T,h,hx⟩
theorem q4a[MaxL]:call cx 5 [] []=some (.bool true,[]):=by
 obtain⟨T,c,h⟩:=qzV [];have d:∀n,(∀x,x∈(Enc.cells Jp:List D)->closed n x=true)=True:=fun n=>eq_true fun x hx=>Vj x (List.all_eq_true.1 (Enc.free _) x hx);have b:(Enc.cells Jp:List D).length=39:=wE
 generalize (Enc.cells Jp:List D)=I at *;obtain⟨f,a⟩:=ql (qr T I);obtain⟨T2,e,g⟩:=q6D f;refine qC Tryz.func5 rfl ⟨rfl,rfl⟩ ?_;simp[-qd,-qn,-qr,-qG,Tryz.f5,c,zo,JI,d,b,a,e]
def fsZ(ps:List Nat)(a:List (List UInt8))(c:List UInt8->List UInt8):List (Nat×List UInt8):=ps.zip (a.map c)
theorem qtC{ps:List Nat}{a:List (List UInt8)}{c:List UInt8->List UInt8}{i:Nat}{f:Nat×List UInt8}(h:(fsZ ps a c)[i]?=some f):∃n,ps[i]?=some f.1/\a[i]?=some n/\f.2=c n:=by
 unfold fsZ at h;rw[List.getElem?_zip_eq_some] at h;obtain⟨e,b⟩:=h;rw[Vb] at b;obtain⟨n,d,g⟩:=Option.map_eq_some_iff.1 b;exact⟨n,e,d,g.symm⟩
theorem qey{ps:List Nat}{a:List (List UInt8)}{c:List UInt8->List UInt8}{f:Nat×List UInt8}(h:f∈fsZ ps a c):∃(i:Nat)(n:List UInt8),ps[i]?=some f.1/\a[i]?=some n/\f.2=c n:=by
 obtain⟨i,hi⟩:=List.getElem?_of_mem h;obtain⟨n,b⟩:=qtC hi;exact⟨i,n,b⟩
theorem qkS{ps:List Nat}{a:List (List UInt8)}{c:List UInt8->List UInt8}(h:a.length=ps.length):(fsZ ps a c).length=a.length:=by
 unfold fsZ;rw[List.length_zip,List.length_map,h,Nat.min_self]
theorem q4n{H:qe}{oD:D}{a:List (List UInt8)}{ps:List Nat}{c:List UInt8->List UInt8}{L:List Nat}(d:a.length=ps.length)(k:RowA H 21 oD (Zx a ps) L)(h:∀p,p∈ps->p<H.length/\p∉L):FdsW H oD (Zx a ps) (fsZ ps a c):=by
 have u:=RowA.nm k;subst u;refine⟨k,by rw[qin _ _ d,qkS d],fun x hx=>?_,fun i f b=>?_,fun n z hc=>?_⟩
 .have key:∀(a:List (List UInt8))(ps:List Nat),(∀p,p∈ps->p<H.length)->∀x,x∈Zx a ps->closed H.length x=true:=by
   intro a
   induction a with
   |nil=>intro ps _ x hx;simp[Zx] at hx
   |cons n a o=>
    intro ps j x hx;cases ps with
    |nil=>simp[Zx] at hx
    |cons p ps=>
     simp only[Zx,jI,vj] at hx;rcases hx with rfl|hx|rfl|hx
     .rfl
     .exact Vj x (List.all_eq_true.1 (Enc.free _) x hx)
     .exact decide_eq_true (j p wE)
     .exact o ps (fun q v=>j q (vq _ v)) x hx
  exact key a ps (fun p g=>(h p g).1) x hx
 .obtain⟨n,e,y,-⟩:=qtC b;obtain⟨r,s⟩:=qtL a ps i n f.1 d y e
  have t:List.drop (i*21+20) (Zx a ps)=.optr f.1 5 0::r:=by
   rw[<-ky,s];simp
  have w:=congrArg (fun l=>l[0]?) t;simpa using w
 .obtain⟨f,b,rfl⟩:=List.mem_map.1 hc;obtain⟨i,m,e,-⟩:=qey b;exact(h f.1 (jH e)).2 z
theorem q3Z{H:qe}{r:List (List UInt8)}{ps:List Nat}{c:List UInt8->List UInt8}(a:∀(j:Nat)(n:List UInt8)(p:Nat),r[j]?=some n->ps[j]?=some p->qd H p=some (qa0 (c n)))(l:∀n,n∈r->(c n).length<=1000000)(o:ps.Nodup):FisW H.length H (fsZ ps r c):=by
 refine⟨fun f b=>?_,fun f b=>?_,fun f b=>?_,fun f g b y s=>?_⟩
 .obtain⟨i,n,k,d,e⟩:=qey b;left;rw[e];exact a i n f.1 d k
 .obtain⟨i,n,k,d,e⟩:=qey b;exact qx (a i n f.1 d k)
 .obtain⟨i,n,k,d,e⟩:=qey b;rw[e];exact l n (jH d)
 .obtain⟨i,n,k,d,e⟩:=qey b;obtain⟨j,m,x,q,w⟩:=qey y
  have z:i=j:=by
   obtain⟨t,u⟩:=List.getElem?_eq_some_iff.1 k;obtain⟨v,e2⟩:=List.getElem?_eq_some_iff.1 x;rcases Nat.lt_trichotomy i j with h|h|h
   .exact absurd (by rw[u,e2,s]) (List.pairwise_iff_getElem.1 o i j t v h)
   .exact h
   .exact absurd (by rw[u,e2,s]) (List.pairwise_iff_getElem.1 o j i v t h)
  subst z;rw[d] at q;injection q with q;subst q;exact Prod.ext s (by rw[e,w])
theorem qpk{s:Fs}{k:Nat}(L:LaidM s k):Zn s=s.nodes.map (·.name):=by
 unfold Zn;rw[L.b.off];simp only[kZ,if_false];congr 1
 exact List.filter_eq_self.2 fun n a=>by
  obtain⟨j,c⟩:=List.getElem?_of_mem a;exact(L.nd j n c).1
theorem q0Q{s:Fs}{k:Nat}(L:LaidM s k)(r:k<=6){j:Nat}{n:Nd}(d:s.nodes[j]?=some n):jG s n.name=n.b.l:=by
 have q:=(List.getElem?_eq_some_iff.1 d).1;have t:=L.n
 have g:Q5 s.nodes n.name=some j:=by
  unfold Q5;rw[List.findIdx?_eq_some_iff_getElem];obtain⟨_,e⟩:=List.getElem?_eq_some_iff.1 d;refine⟨q,by rw[e];simp[(L.nd j n d).1],fun i hi=>?_⟩;have p:i<s.nodes.length:=wC
  obtain⟨-,-,-,-,a,o⟩:=L.nd i s.nodes[i] (qN p);obtain⟨-,-,-,-,c,hc⟩:=L.nd j n d;have:=qsM a c (i:=i) (j:=j) wC wC wC;rw[<-o,<-hc] at this;simp[this]
 obtain⟨-,-,-,-,c,hc⟩:=L.nd j n d;have m:Kv n.name=true:=by rw[hc,qsN];exact qvz c.h _ _
 have f:Xr s n.name=0:=by simp[Xr,L.b.off,m]
 have qd:Q3 s n.name=0:=by
  unfold Q3;rw[f,g];simp
 unfold jG;rw[qd,if_neg wH,g];simp only[qa9,d]
theorem qpj{s:Fs}{k:Nat}(L:LaidM s k){m:List UInt8}(a:m∈Zn s):∃(j:Nat)(n:Nd),s.nodes[j]?=some n/\m=n.name:=by
 rw[qpk L] at a;obtain⟨n,b,rfl⟩:=List.mem_map.1 a;obtain⟨j,c⟩:=List.getElem?_of_mem b;exact⟨j,n,c,rfl⟩
theorem qk1{s:Fs}{k:Nat}(L:LaidM s k)(h:k<=6){m:List UInt8}(i:m∈Zn s):Z7 (jG s) vA m=true/\Z5 (jG s) vA m=false/\(jG s m).length<=20000/\(qH (jG s m)).ents<=6:=by
 obtain⟨j,n,d,rfl⟩:=qpj L i;obtain⟨-,o,f,l,a,g⟩:=L.nd j n d;have p:=(List.getElem?_eq_some_iff.1 d).1;have q:=L.n;have c:=q0Q L h d;have e:QN n.name=(Vi a j,true):=by rw[g];exact qkG a wC
 have b:(Vi a j).kind≠4:=by show(2:Int)≠4;decide
 refine⟨?_,?_,by rw[c];exact o,by rw[c];exact l⟩
 .unfold Z7 vA;rw[e,c,f];simp[b]
 .unfold Z5 vA;rw[e,c,f];simp
def mwI(T:qe)(oD:D)(a:List It)(b:List Mk)(i:Nat)(e:qu)(K:qe):Prop:=
 i<=a.length/\qi e 5=some (.bool true)/\qi e 7=some oD/\qi e 11=some (.vsl (decide (a=[])) (qt a) a.length)/\qi e 12=some (.int .i64 i)/\Ext [] T K/\∃s:Sl Mk,qi e 10=some (.vsl s.nil (qt s.l) s.l.length)/\s.l=qeq b (a.take i)/\MOk s.l
theorem q0e[MaxL](W:Sl ZL)(nil:Bool)(zs:List Int)(qY:nil=true->zs=[])(hz:zs.length<9223372036854775808):call cx 3 [(.vsl W.nil (qt W.l) W.l.length),.vsl nil (Ze .i64 zs) zs.length] []=some (.bool true,[]):=by
 refine qC Tryz.func3 rfl ⟨rfl,rfl⟩ ?_;have R:=q4a;obtain⟨_,O,b,rfl,hb⟩:=q0B W 6 wC;replace O:call cx 6 [(.vsl W.nil (qt W.l) W.l.length),.int .i64 6] []=some (.bool b,[]):=O;cases b with
 |false=>simp[Tryz.f3,R,O]
 |true=>
 obtain⟨ai,ba⟩:=hb rfl;obtain⟨G,s0,v0,aL,W0,L0,bG⟩:=q0P W.nil W.l W.h ai (fun z bm=>by have:=ba z bm;omega);obtain⟨K1,jb⟩:∃T:qe,([]:qe)++G.map (X6 [] ([]:qe).length)=T:=⟨_,rfl⟩
 have G1:qb7 (call cx) 7 [(.vsl W.nil (qt W.l) W.l.length),.bool false] []=some (.optr 0 5 0,K1):=by
  rw[q5T (by simp[Yq]) wE aL,jb];simp[mv,ZR]
 have W1:=q3H [] W0;rw[jb] at W1;have Vm:∀m,m∈kh (Zn s0)->m∈Zn s0:=fun m hm=>sortL_mem.1 hm
 obtain⟨T,ps,oD,hD,Lo,Lh,am,D1⟩:=q4Q W1 L0.b.off (by have:=L0.n;omega) (fun m hm=>by have:=(L0.b.nd m hm).2.1;omega) (fun m hm=>by
  obtain⟨j,n,hj,rfl⟩:=qpj L0 hm;obtain⟨-,-,-,-,a,ha⟩:=L0.nd j n hj;rw[ha,qsN,qfC a.h];omega)
 replace am:call cx 8 [.optr 0 5 0] K1=some (.tup [oD,hD,.int .i64 0],T):=am;have ac:=D1.pl;have az:=D1.oR;have aK:=D1.hR;have aO:=D1.file;rw[List.take_length] at ac az aK aO;have jc:(kh (Zn s0)).filter (Z5 (jG s0) vA)=[]:=List.filter_eq_nil_iff.2 fun m hm=>by rw[(qk1 L0 ai (Vm m hm)).2.1];simp
 rw[jc] at aK;obtain⟨fl,Qj⟩:∃l,l=(kh (Zn s0)).filter (Z7 (jG s0) vA):=⟨_,rfl⟩;rw[<-Qj] at ac az aO;have aE:∀m,m∈fl->m∈Zn s0:=fun m hm=>by rw[Qj] at hm;exact Vm m (List.mem_filter.1 hm).1
 have aX:fl.length<=6:=by
  rw[Qj];refine zI (List.length_filter_le _ _) ?_;rw[qxl,qpk L0,List.length_map,L0.n];exact ai
 have bD:qK Tryz.prog 29 hD=some (.int .i64 0):=qno (n:=0) (e:=9) aK wE (by simp[jN]) wC;obtain⟨fs,ao⟩:∃fs,fs=fsZ ps fl (jG s0):=⟨_,rfl⟩;have F:FdsW T oD (Zx fl ps) fs:=by rw[ao];exact q4n ac az (fun p hp=>⟨D1.pN p hp,fun hc=>(D1.oN p hc).2.2 hp⟩)
 have FW:FisW T.length T fs:=by rw[ao];exact q3Z aO (fun n hn=>by have:=(qk1 L0 ai (aE n hn)).2.2.1;omega) D1.pD
 have bh:fs.length<=6:=by rw[ao,qkS ac];exact aX
 have ak:∀f,f∈fs->(zC f.2).length<=6:=fun f hf=>by
  rw[ao] at hf;obtain⟨i,n,h1,h2,h3⟩:=qey hf;have:=(qk1 L0 ai (aE n (jH h2))).2.2.2;have:=q35 f.2;rw[h3] at this⊢;omega
 have Yw:∀u,u∈jw fs->u.l.length<40:=fun u hu=>by
  have:=qim (N:=6) fs [] 0 ak (fun q hq=>by simp at hq) u hu;omega
 obtain⟨_,aM,s,hs,rfl⟩:=q0g nil zs qY hz;obtain⟨⟨r,T2⟩,jd,qs,aq,kE,hr,x2,aP⟩:=qoJ F FW wC Yw s hs 500 wC wC;simp only at hr x2 aP;subst hr;obtain⟨aY,Xp,bA,aR,bo⟩:=qv8 kE 500 hs hs rfl;have ah:=bo (q0H aq bh ak s.l);obtain⟨MF,bk⟩:=ql ((Q8 (Ve fs) qs 500 s.l).2);obtain⟨d,JN⟩:=ql ((Q8 (Ve fs) qs 500 s.l).1);rw[bk] at Xp aR ah;rw[JN] at aY bA aR jd;have bF:d.length<=500:=by rw[<-JN];exact qv9 _ _
 replace jd:call cx 10 [oD,(.vsl s.nil (qt s.l) s.l.length),.int .i64 500] T=some (.vsl (decide (d=[])) (qt d) d.length,T2):=jd;simp[-qd,-qn,-qr,-qG,-qK,Tryz.f3,R,O,G1,am,aM,bD,jd];refine JC (mwI T2 oD d s.l) (fun i=>d.length-i) 0 (fun ex e K=>ex=.exit 0/\mwI T2 oD d s.l d.length e K) ?_ ?_ ?_
 .exact⟨vg _,wE,wE,wE,wE,Ext.refl _ _,s,wE,rfl,hs⟩
 .rintro i e K ⟨hi,U,Q,C,aa,x,o,t,Yx,hM⟩;have zY:qK Tryz.prog 34 (.vsl (decide (d=[])) (qt d) d.length)=some (.int .i64 d.length):=by simp
  by_cases qg:i<d.length
  case neg=>
   have qo:=zq qg;have Zh:i=d.length:=wC;subst Zh;simp[-qd,-qn,-qr,-qG,-qK,U,Q,t,C,aa,zY,qo];exact⟨qA _,wE,wE,wE,wE,x,o,wE,Yx,hM⟩
  have qo:=zn qg;have hw:=qz ((i:Int)+1) ((i+1:Nat):Int);have qQ:decide (d=[])=false:=decide_eq_false fun h=>by rw[h] at qg;simp at qg
  rw[qQ] at C zY;obtain⟨v,vM⟩:∃v,d[i]?=some v:=⟨_,qN qg⟩;obtain⟨Mi,X⟩:=aY i v vM;rw[<-Yx] at X;obtain⟨_,aW⟩:=List.getElem?_eq_some_iff.1 vM;have qS:List.drop (i*39) (qt d)=Enc.cells v++qt (d.drop (i+1)):=by rw[<-aW];exact XW (n:=39) (α:=It) wE qg
  have Z:=qj8 o (by have:=hM.len;omega) v.id;obtain⟨g,hg⟩:=ql (jq o.l v.id);have bB:g.id=v.id:=by rw[<-hg];exact qgz _ _
  have bq:=X.seq;have Z8:=X.room;rw[hg] at Z bq;have br:d.take (i+1)=d.take i++[v]:=by rw[<-aW];exact Vs qg
  obtain⟨V,zM⟩:∃m:Mk,m={g with seq:=VT v}:=⟨_,rfl⟩;have aU:V.id=v.id:=by rw[zM];exact bB
  have Yv:=qyi o (by have:=hM.len;omega) V
  have V7:qaM o.l V=0:=by
   unfold qaM;rw[hM.r,if_pos rfl,aU,if_neg];rcases Z8 with h|h
   .rw[h];simp
   .simp only[zX,decide_eq_true_eq,not_and];intro _;omega
  rw[V7] at Yv;have aV:=qyD (l:=o.l) (m:=V) hM.rises;rw[<-aV] at Yv;have A:=X.ok2;rw[hg,<-zM] at A
  have H:qeq s.l (d.take (i+1))=Qt o.l V:=by
   rw[br,Yx];unfold qeq;rw[List.foldl_append];show Qt _ {jq _ v.id with seq:=VT v}=_;rw[zM,<-hg,Yx];rfl
  obtain⟨P,hP⟩:=ql (Qt o.l V);rw[hP] at Yv A H;replace Yv:call cx 12 [(.vsl o.nil (qt o.l) o.l.length),.agg (Enc.cells V)] []=some (.tup [.vsl false (qt P) P.length,.int .i64 0],[]):=Yv;have hk:∀k,k<=39->List.drop (i*39+k) (qt d)=List.drop k (Enc.cells v)++qt (d.drop (i+1)):=fun k hk=>by rw[<-ky,qS,List.drop_append_of_le_length wG]
  have h0:List.take 16 (List.drop (i*39) (qt d))=qf v.id.l:=by rw[qS];simp
  have L:=hk 16 wC;have av:=hk 17 wC;have ay:=hk 18 wC;have ae:=hk 19 wC;rw[It.d16,kC] at L;rw[It.d17,kC] at av;rw[It.d18,kC] at ay;rw[It.d19,kC] at ae;have zA:(qt d).length=d.length*39:=Kx (n:=39) wE d;have aA:16<=d.length*39-i*39:=wC
  have gl:(Enc.cells g:List D).length=19:=wE
  have gc:∀n,(∀x,x∈(Enc.cells g:List D)->closed n x=true)=True:=fun n=>eq_true fun x hx=>Vj x (List.all_eq_true.1 (Enc.free _) x hx);have gs:∀n,shift.shiftL n (Enc.cells g:List D)=Enc.cells g:=fun n=>qaK n _ wE;have M:List.drop 16 (Enc.cells g:List D)=[.int .u64 g.seq,.int .u64 g.lost,.int .u64 g.over]:=xE
  have Y:List.take 16 (Enc.cells g:List D)++D.int .u64 (VT v)::List.drop 17 (Enc.cells g:List D)=Enc.cells V:=by rw[zM];simp[Mk.cells,jf,vY]
  have ml:(Enc.cells V:List D).length=19:=wE
  have mt:List.take 19 (Enc.cells V:List D)=Enc.cells V:=qJ wE;have mf:idFree.idFreeL (Enc.cells V:List D)=true:=wE
  have wq:=zg (g.seq+1) (g.seq+1);have S:d≠[]:=of_decide_eq_false qQ;obtain⟨EI,au⟩:=ql (qt d);rw[au] at C qS h0 L av ay ae zA zY;generalize (Enc.cells V:List D)=MC at *;generalize (Enc.cells g:List D)=GC at *;obtain⟨K1,jb⟩:=ql (qr K GC);have x1:=zJ jb;have g1:=js jb;obtain⟨K2,zN⟩:=ql (qn K1 K.length MC);have x2:=vZ zN;have g2:qd K2 K.length=some MC:=by rw[<-zN];exact zk (qx g1)
  have aC:Ext [] T2 K2:=(x.trans x1 (NewL.refl _ _)).trans x2 (fun n hn=>.inr (by rw[List.mem_singleton.1 hn];exact x.len));have kv:qK Tryz.prog 32 (.vsl o.nil (qt o.l) o.l.length)=some (.int .i64 o.l.length):=wE
  obtain⟨vG,bu,h4⟩:∃b,zS o.l v.id=b/\(b=false->¬(4:Int)<=(o.l.length:Int)):=by
   rcases Z8 with h|h
   .exact⟨true,h,fun h=>wI⟩
   .exact⟨_,rfl,fun _=>wC⟩
  rw[bu] at Z;cases Km:v.gap with
  |true=>
   rw[Km] at L;obtain⟨E,bI⟩:=X.gap Km;rw[hg] at E;have Ki:VT v=v.til:=(by unfold VT;rw[Km];rfl);have bg:¬v.til<g.seq+1:=wC;rw[Ki] at Y;cases vG with
   |true=>
    simp[-qd,-qn,-qr,-qG,-qK,U,Q,t,C,aa,zY,qo,h0,zA,aA,Z,zo,JI,gc,gl,gs,jb,g1,L,av,ay,ae,M,wq,E,bg,Y,zN,g2,ml,mt,mf,Yv,hw];exact⟨i+1,wC,wC,wE,wE,by simp[S,au],wE,aC,⟨false,P,wE⟩,wE,H.symm,A⟩
   |false=>
    have kG:=h4 rfl;simp[-qd,-qn,-qr,-qG,-qK,U,Q,t,C,aa,zY,qo,h0,zA,aA,Z,zo,JI,gc,gl,gs,jb,g1,kv,kG,L,av,ay,ae,M,wq,E,bg,Y,zN,g2,ml,mt,mf,Yv,hw];exact⟨i+1,wC,wC,wE,wE,by simp[S,au],wE,aC,⟨false,P,wE⟩,wE,H.symm,A⟩
  |false=>
   rw[Km] at L;have E:=X.ent Km;rw[hg] at E;have Ki:VT v=v.rc.seq:=(by unfold VT;rw[Km];rfl);rw[Ki,E] at Y;cases vG with
   |true=>
    simp[-qd,-qn,-qr,-qG,-qK,U,Q,t,C,aa,zY,qo,h0,zA,aA,Z,zo,JI,gc,gl,gs,jb,g1,L,ae,M,wq,E,Y,zN,g2,ml,mt,mf,Yv,hw];exact⟨i+1,wC,wC,wE,wE,by simp[S,au],wE,aC,⟨false,P,wE⟩,wE,H.symm,A⟩
   |false=>
    have kG:=h4 rfl;simp[-qd,-qn,-qr,-qG,-qK,U,Q,t,C,aa,zY,qo,h0,zA,aA,Z,zo,JI,gc,gl,gs,jb,g1,kv,kG,L,ae,M,wq,E,Y,zN,g2,ml,mt,mf,Yv,hw];exact⟨i+1,wC,wC,wE,wE,by simp[S,au],wE,aC,⟨false,P,wE⟩,wE,H.symm,A⟩
 .rintro ex e K ⟨rfl,-,U,Q,C,aa,x,o,t,Yx,hM⟩;rw[List.take_length] at Yx;have bb:ks MF=ks o.l:=by rw[Yx];exact aR
  have aQ:∀f,f∈fs->(zS o.l (qH f.2).seq=true\/o.l.length<4)->((qH f.2).tseq:Int)<=(jq o.l (qH f.2).seq).seq:=fun f hf hr=>qwC aq Xp bb ah hf hr;have bj:qK Tryz.prog 28 oD=some (.int .i64 fl.length):=qno (e:=57) az wE (qin _ _ ac) wC;have bE:fs.length=fl.length:=by rw[ao,qkS ac]
  simp[-qd,-qn,-qr,-qG,-qK,U,Q,t];refine JC (fun(i:Nat) e K=>i<=fl.length/\qi e 5=some (.bool true)/\qi e 7=some oD/\qi e 10=some (.vsl o.nil (qt o.l) o.l.length)/\qi e 18=some (.int .i64 i)/\Ext [] T2 K) (fun i=>fl.length-i) 0 (fun ex e K=>ex=.exit 2/\qi e 5=some (.bool true)/\qi e 7=some oD/\qi e 10=some (.vsl o.nil (qt o.l) o.l.length)/\Ext [] T2 K) ?_ ?_ ?_
  .exact⟨vg _,wE,wE,wE,wE,x⟩
  .rintro i e K ⟨hi,U,Q,t,aw,x⟩;by_cases qg:i<fl.length
   case neg=>
    have qo:=zq qg;simp[-qd,-qn,-qr,-qG,-qK,U,Q,t,aw,bj,qo];exact x
   have qo:=zn qg;have hw:=qz ((i:Int)+1) ((i+1:Nat):Int);obtain⟨f,hf⟩:∃f,fs[i]?=some f:=⟨_,qN wC⟩;have XN:=jH hf;have ht:=aQ f XN;have Kt:=F.len;obtain⟨rl,n,Yz,h1,hg,-⟩:=F.row.own (fun h0=>by rw[h0] at Kt;simp at Kt;omega);have hn:n=fl.length:=wC;subst hn;have ag:=x.get (x2.get hg (F.nm rl (by rw[Yz];simp[zx]))) wE;have kP:=F.at_ i f hf;have FK:=aP.ext x (fun _ h=>wP);obtain⟨CD,bC⟩:=ql (Zx fl ps);rw[bC] at Kt Yz h1 ag kP
   have ax:List.drop (i*21+20) CD=.optr f.1 5 0::List.drop (i*21+21) CD:=by
    obtain⟨h3,h4⟩:=List.getElem?_eq_some_iff.1 kP;rw[zZ h3,h4]
   obtain⟨p,c⟩:=f;simp only at ht ax
   have aB:∀J,Ext [] K J->∃J2,call cx 13 [.optr p 5 0] J=some (.agg (Enc.cells (qH c)),J2)/\Ext [] J J2:=fun J hJ=>by
    rcases FK.w _ XN with h|h
    .exact qhR rfl (hJ.get h wE)
    .exact qhR rfl (hJ.get h wE)
   obtain⟨h,hh⟩:∃h,h=qH c:=⟨_,rfl⟩;rw[<-hh] at aB ht;obtain⟨hc,Y7⟩:∃c:List D,Enc.cells h=c:=⟨_,rfl⟩;rw[Y7] at aB;have qE:hc.length=91:=(by rw[<-Y7];simp);have aJ:List.take 16 (List.drop 51 hc)=qf h.seq.l:=Y7▸h.d51;have bt:List.drop 76 hc=.int .u64 (h.tseq:Nat)::List.drop 77 hc:=Y7▸h.dn (i:=9) wC
   have aD:hc[76]' wC=.int .u64 (h.tseq:Nat):=by
    have h3:hc[76]?=some (.int .u64 (h.tseq:Nat)):=by
     have:=congrArg (fun l=>l[0]?) bt;rw[kX] at this;exact this
    exact(List.getElem?_eq_some_iff.1 h3).2
   obtain⟨K1,aH,x1⟩:=aB K (Ext.refl _ _);have Z:=qj8 o (by have:=hM.len;omega) h.seq;obtain⟨g,bz⟩:=ql (jq o.l h.seq);rw[bz] at Z ht;obtain⟨K2,zN⟩:=ql (qr K1 (Enc.cells g));have bp:=zJ zN;have g2:qd K2 K1.length=some (Enc.cells g):=(by rw[<-zN,zo]);have aT:Ext [] K K2:=x1.trans bp (NewL.refl _ _);obtain⟨K3,aZ,x3⟩:=aB K2 aT;have gl:(Enc.cells g:List D).length=19:=wE;have gc:∀n,(∀x,x∈(Enc.cells g:List D)->closed n x=true)=True:=fun n=>eq_true fun x hx=>Vj x (List.all_eq_true.1 (Enc.free _) x hx);have gs:∀n,shift.shiftL n (Enc.cells g:List D)=Enc.cells g:=fun n=>qaK n _ wE;have M:List.drop 16 (Enc.cells g:List D)=[.int .u64 g.seq,.int .u64 g.lost,.int .u64 g.over]:=xE;generalize (Enc.cells g:List D)=GC at *;have g3:=x3.get g2 wE;have aF:=aT.get ag wE;have kv:qK Tryz.prog 32 (.vsl o.nil (qt o.l) o.l.length)=some (.int .i64 o.l.length):=wE;have B:=bj;rw[Yz,Kt] at B;have bH:i*21+20+1<=CD.length:=wC;have bf:=x.trans aT (NewL.refl _ _);have bc:=bf.trans x3 (NewL.refl _ _);cases aj:zS o.l h.seq with
   |true=>
    rw[aj] at Z;have bn:=ht (.inl aj);have aI:¬g.seq<(h.tseq:Int):=wC;simp[-qd,-qn,-qr,-qG,-qK,U,Q,t,aw,B,qo,Yz,ag,Kt,ax,aH,qE,aJ,Z,zo,JI,gc,gl,gs,zN,g2,aF,aZ,g3,M,aD,aI,hw,x3.len];exact⟨i+1,wC,wC,wC,bc⟩
   |false=>
    rw[aj] at Z;by_cases h4:o.l.length<4
    .have kG:(o.l.length:Int)<4:=wC;have bn:=ht (.inr h4);have aI:¬g.seq<(h.tseq:Int):=wC;simp[-qd,-qn,-qr,-qG,-qK,U,Q,t,aw,B,qo,Yz,ag,Kt,ax,aH,qE,aJ,Z,zo,JI,gc,gl,gs,zN,g2,kv,kG,aF,aZ,g3,M,aD,aI,hw,x3.len];exact⟨i+1,wC,wC,wC,bc⟩
    .have kG:¬(o.l.length:Int)<4:=wC;simp[-qd,-qn,-qr,-qG,-qK,U,Q,t,aw,B,qo,Yz,ag,Kt,ax,aH,qE,aJ,Z,zo,JI,gc,gl,gs,zN,kv,kG,hw];exact⟨i+1,wC,wC,wC,bf⟩
  .rintro ex e K ⟨rfl,U,Q,t,x⟩;have FK:=aP.ext x (fun _ h=>wP);have aN:=x2.trans x (fun _ h=>wP);have F2:FdsW K oD (Zx fl ps) fs:=⟨F.row.ext aN (fun n hn=>F.nm n hn),F.len,fun y hy=>jr aN.len _ (F.cl y hy),F.at_,F.nm⟩;have bv:FisW K.length K fs:=⟨FK.w,fun f hf=>by have:=FK.lt f hf;have:=aN.len;omega,FK.len,FK.uni⟩;obtain⟨⟨r,K1⟩,aS,qs2,aG,vB,x1,-⟩:=qoI F2 bv wC Yw o hM;simp only at vB x1;rw[<-q4e aq aG,<-qzU bb,ah] at vB;simp only[qdI] at vB;subst vB;have cI:∀n,(∀x,x∈(Enc.cells Jp:List D)->closed n x=true)=True:=fun n=>eq_true fun x hx=>Vj x (List.all_eq_true.1 (Enc.free _) x hx);have lI:(Enc.cells Jp:List D).length=39:=wE;generalize (Enc.cells Jp:List D)=I at *;simp[-qd,-qn,-qr,-qG,-qK,U,Q,t,aS,zo,JI,cI,lI]
theorem q31{n:Nat}{cs:List D}(h:Je Tryz.prog (n+1) 3 cs):∃a:I6,cs=Enc.cells a/\qk9 a.v:=by
 obtain⟨x,rfl,w⟩:=q3z un3 h;exact⟨⟨x⟩,rfl,w⟩
theorem q30{n:Nat}{cs:List D}(h:Je Tryz.prog (n+1+1) 23 cs):∃z:ZL,cs=Enc.cells z/\True:=by
 obtain⟨s,rfl,b,a⟩:=qtw (α:=I6) qmm (fun l=>q31) h;exact⟨⟨s⟩,rfl,trivial⟩
end Go.Ev.S
namespace Go.Ev
open Go Go.Proofs
end Go.Ev
namespace Go.Proofs
open Go.Shelf
def Tryz.laysM219_ren:Go.Shelf.Ren:=⟨fun|219=>211|217=>171|225=>251|224=>252|267=>253|266=>212|314=>272|n=>n,fun|9=>9|3=>3|4=>4|5=>5|46=>184|146=>303|51=>50|n=>n,fun|1=>0|n=>n⟩
theorem Tryz.laysM219:Go.Proofs.LaysM.n219 Tryz.prog Tryz.laysM219_ren:={
 mixed:=wF
 f217:=Tryz.func171.trans (congrArg some wF)
 f219:=Tryz.func211.trans (congrArg some wF)
 f224:=Tryz.func252.trans (congrArg some wF)
 f225:=Tryz.func251.trans (congrArg some wF)
 f266:=Tryz.func212.trans (congrArg some wF)
 f267:=Tryz.func253.trans (congrArg some wF)
 f314:=Tryz.func272.trans (congrArg some wF)
 t3:=Tryz.underlying3
 a3:=Tryz.isAgg3
 z3:=Tryz.sizeOf3
 v3:=Tryz.zeroValue3
 t4:=Tryz.underlying4
 a4:=Tryz.isAgg4
 z4:=Tryz.sizeOf4
 v4:=Tryz.zeroValue4
 t5:=Tryz.underlying5
 a5:=Tryz.isAgg5
 z5:=Tryz.sizeOf5
 v5:=Tryz.zeroValue5
 t9:=Tryz.underlying9
 a9:=Tryz.isAgg9
 z9:=Tryz.sizeOf9
 v9:=Tryz.zeroValue9
 t46:=Tryz.underlying184
 a46:=Tryz.isAgg184
 z46:=Tryz.sizeOf184
 v46:=Tryz.zeroValue184
 t51:=Tryz.underlying50
 a51:=Tryz.isAgg50
 z51:=Tryz.sizeOf50
 v51:=Tryz.zeroValue50
 t146:=Tryz.underlying303
 a146:=Tryz.isAgg303
 z146:=Tryz.sizeOf303
 v146:=Tryz.zeroValue303
 g1:=wF
 i3:=wF
 i4:=wF
 i5:=wF
 i9:=wF
 i46:=wF
 i51:=wF
 i146:=wF
 m1:=wF
 s1_3:=fun w h=>Go.Proofs.cell_of_shapedOpen_int (zero:= #[.int .i64 0]) (t:=3) h (of_decide_eq_true wF) wF rfl wF wF Tryz.underlying3}
end Go.Proofs
namespace Go.Proofs.YtglpgdajjpipgaaGreatDoor.mergeWhole
open Go.ChangeShapes Go.WideShapes Go.ChangeAt Go.RowKit
theorem jf0:(Rows.mergeWholeRow.wf (OpenSpec.ofChange Rows.mergeWholeSpec))=true:=wF
theorem jf1:(laidOutB Tryz.prog)=true:=wF
theorem jf2:(mapsRowed Tryz.prog)=true:=wF
theorem jf3:(Tryz.f3.params.all (Tryz.prog.readableRec ·))=true:=wF
theorem jf4:(namedTie Tryz.prog Rows.mergeWholeRow.named Rows.mergeWholeSpec.vars)=true:=wF
theorem jf5:((Rows.mergeWholeRow.stops==[]))=true:=wF
theorem jf6:((Tryz.prog.stops==[]))=true:=wF
theorem jf7:((Rows.mergeWholeRow.knobs==[]))=true:=wF
theorem jf8:((Tryz.prog.stopKnobs==[]))=true:=wF
theorem jf9:((Rows.mergeWholeRow.inPlace==Tryz.prog.inPlace 3))=true:=wF
theorem q2u:((Rows.mergeWholeRow.unfollowed==Tryz.prog.unfollowed 3))=true:=wF
theorem q2t:((Rows.mergeWholeRow.recurses==Tryz.prog.recurses 3))=true:=wF
theorem q2s:((Rows.mergeWholeRow.named==Tryz.prog.varsNamed 3))=true:=wF
theorem q2r:((Rows.mergeWholeRow.maps==(Tryz.f3.params.toList++Rows.mergeWholeSpec.plain.varTypes Tryz.prog).any (Tryz.prog.mapsRec ·)))=true:=wF
theorem q2q:((Rows.mergeWholeRow.ifaces==(Tryz.f3.params.toList++Rows.mergeWholeSpec.plain.varTypes Tryz.prog).any (Tryz.prog.ifacesRec ·)))=true:=wF
theorem q2p:((Rows.mergeWholeRow.mapsOut==Tryz.prog.mapsAmong Tryz.f3.resultTypes.toList))=true:=wF
theorem q2o:((Rows.mergeWholeRow.loops==(Tryz.f3.params.toList++Rows.mergeWholeSpec.plain.varTypes Tryz.prog).any (Tryz.prog.loopsFrom ·)))=true:=wF
theorem q2n:((Rows.mergeWholeRow.wideKeys==(Tryz.f3.params.toList++Rows.mergeWholeSpec.plain.varTypes Tryz.prog++Tryz.f3.resultTypes.toList).any (Tryz.prog.wideKeysFrom ·)))=true:=wF
theorem q2m:(Rows.mergeWholeSpec.vars.all (Tryz.prog.varReadable ·))=true:=wF
theorem q2l:(Tryz.f3.resultTypes.all (fun t=>Tryz.prog.readableRec t&&decide (t<Tryz.prog.types.size)))=true:=wF
theorem q2j:((Rows.mergeWholeRow.ifacesOut==Tryz.f3.resultTypes.toList.any (Tryz.prog.ifacesRec ·)))=true:=wF
theorem q2i:((Rows.mergeWholeRow.loopsOut==Tryz.f3.resultTypes.toList.any (Tryz.prog.loopsFrom ·)))=true:=wF
theorem q2h:((Rows.mergeWholeRow.plainKeys==Tryz.prog.plainKeys))=true:=wF
theorem q2g:(Rows.mergeWholeRow.shortTexts.isNone)=true:=wF
theorem q2f:(Tryz.prog.stopsHeard)=true:=wF
theorem q2e:(Tryz.prog.mayEnter)=true:=wF
theorem q2d:((Rows.mergeWholeRow.lifted==Tryz.prog.liftsFinal))=true:=wF
theorem q2c:((Tryz.prog.make==some Rows.mergeWholeRow.make))=true:=wF
theorem q2b:((Rows.mergeWholeRow.kinds==(if Rows.mergeWholeRow.domain.isEmpty then[] else Tryz.f3.params.toList.map fun t=>match Tryz.prog.underlying t with|some (.int k)=>some k|_=>none)))=true:=wF
theorem q2a:((Rows.mergeWholeRow.pinned==Rows.mergeWholeRow.pinnedBy))=true:=wF
theorem q1Y:((Rows.mergeWholeRow.veiled==(Tryz.f3.params.toList++Rows.mergeWholeSpec.plain.varTypes Tryz.prog++Tryz.f3.resultTypes.toList).any (Tryz.prog.veiledRec ·)))=true:=wF
theorem q1X:(Rows.mergeWholeRow.veiledFits Tryz.prog Tryz.f3.params.toList (Tryz.f3.params.toList++Rows.mergeWholeSpec.plain.varTypes Tryz.prog++Tryz.f3.resultTypes.toList))=true:=wF
theorem kB{a b:Bool}(d:a=true)(c:b=true):(a&&b)=true:=by rw[d,c];rfl
theorem q4p:joinedFacts Tryz.prog 3 Tryz.f3 Rows.mergeWholeSpec Rows.mergeWholeRow=true:=by
 unfold joinedFacts;exact(kB (kB (kB (kB (kB (kB (kB (kB (kB (kB (kB (kB (kB (kB (kB (kB (kB (kB (kB (kB (kB (kB (kB (kB (kB (kB (kB (kB (kB (kB (kB jf0 jf1) jf2) jf3) jf4) jf5) jf6) jf7) jf8) jf9) q2u) q2t) q2s) q2r) q2q) q2p) q2o) q2n) q2m) q2l) q2j) q2i) q2h) q2g) q2f) q2e) q2d) q2c) q2b) q2a) q1Y) q1X)
theorem pw:Rows.mergeWholeRow.wfByText (OpenSpec.ofChange Rows.mergeWholeSpec)=true:=wF
theorem pm:Tryz.pinned.checked.prog.mainIs=some ((true,Rows.mergeWholeCard.stood.harness.2).1,(true,Rows.mergeWholeCard.stood.harness.2).2.toList):=wF
theorem pf:Tryz.prog.funcNamed Tryz.f3.name=some 3:=wF
theorem pl:true=Tryz.prog.looks []:=wF
theorem pa:([22,23].all fun u=>!Tryz.prog.wantsStandIn u)=true:=wF
theorem pg:false=Rows.mergeWholeRow.goesBy Tryz.pinned.checked.prog:=wF
end Go.Proofs.YtglpgdajjpipgaaGreatDoor.mergeWhole
namespace Go.Ev
open Go Go.Proofs Go.ChangeShapes Go.WideShapes Go.ChangeAt Go.RowKit
theorem qme{H:Type}{P:Program}{t:TypeId}{ts:List TypeId}{d:DataW H}{r:List (DataW H)}(h:(DataW.weightsEach P (t::ts) (d::r)).all (fun k=>decide (k<=reachBytes))=true):
  Wok P t d/\(DataW.weightsEach P ts r).all (fun k=>decide (k<=reachBytes))=true:=by
 unfold DataW.weightsEach at h;rw[List.all_append,zX] at h;exact⟨fun k a=>by simpa using List.all_eq_true.1 h.1 k a,h.2⟩
theorem q32{H:Type}{enc:TypeId×Value->H}{a:Assume}{C:Checked}{os:Os}{f:FuncId}{fn:Func}{s:ChangeSpec}{g:List PathCond}{apart m d h:Bool}{X:World->Array Value->Prop}
  (J:∀(w w':World)(args:Array Value),w.heap=w'.heap->X w args->X w' args)
  (own:ownKnob C.prog.godebug=none) (l:os.Started) (o:C.prog.inits.idxOf? f=none) (x:C.prog.funcs[f]?=some fn)
  (n:∃(w:World)(b:Tape)(i:Input),w.os=os/\(w.forCall b i).Shaped C.prog/\i.vars=[]/\Input.okWide C.prog (w.forCall b i) .any w.heap.size f i/\
   ((s.pre enc C.prog fn g apart (w.forCall b i).memory i.args/\X (w.forCall b i).memory i.args)/\sizedMet enc C.prog fn (OpenSpec.ofChange s) apart (w.forCall b i).memory i.args)/\a.holds C.prog (lone (Frame.enter C.prog f i.args .normal) [] (w.forCall b i)))
  (contract:∀(W:World)(base:Nat)(args:Array Value)(ds u:List (DataW H))(c:List MemPlace),
   (∀(j:Nat) t v,fn.params[j]?=some t->args[j]?=some v->Value.okWide C.prog W .any base t v)->
   DataW.Whole enc C.prog fn.params.toList s.vars apart W args.toList ds u c->(DataW.weightsEach C.prog (fn.params.toList++(OpenSpec.ofChange s).bare.plain.varTypes C.prog) (ds++u)).all (fun k=>decide (k<=reachBytes))=true->X W args->W.ShapedOpen C.prog->
   Calls C.prog f args W fun e B=>∃v,e=.returned v/\s.post enc C.prog fn apart m d h W args v B):
  ReturnsInHanded a C os f .any (fun w args=>(s.pre enc C.prog fn g apart w args/\X w args)/\sizedMet enc C.prog fn (OpenSpec.ofChange s) apart w args) (s.post enc C.prog fn apart m d h):=by
 refine returnsInHanded_of_calls own l o n ?_;intro w b i _ A _ F r _;obtain⟨_,_,_,z,p,_,_,_,_,q⟩:=F;have e:z=fn:=Option.some.inj (p.symm.trans x);subst e;obtain⟨⟨_,hx⟩,K⟩:=r;obtain⟨_,ds,u,c,L,G⟩:=K;have y:=DataW.Whole.of_heap (w':=w.forCall b i) (by rfl) L;refine(contract (w.forCall b i) w.heap.size i.args ds u c q y G (J _ _ _ (by rfl) hx) A).mono fun e B ⟨v,I,E⟩=>?_;subst I;exact ChangeSpec.post_blind E
end Go.Ev
