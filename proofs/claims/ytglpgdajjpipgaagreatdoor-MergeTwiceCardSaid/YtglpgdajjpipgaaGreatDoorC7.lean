import Derived.Test.YtglpgdajjpipgaaGreatDoorC6
set_option maxHeartbeats 8000000
set_option maxRecDepth 10000
namespace Go.Ev.S
open Go Go.Proofs Go.Ev
theorem qfr{x:D}(h:isU x):JE [x]:=fun d a=>by rw[List.mem_singleton.1 a];exact h
theorem qaP{x:D}{l:List D}(h:isU x)(b:JE l):JE (x::l):=fun d a=>by
 rcases List.mem_cons.1 a with rfl|a
 .exact h
 .exact b d a
theorem q2U:JE []:=fun d a=>by cases a
theorem qew{l:List D}(h:JE l):l.all idFree=true:=List.all_eq_true.2 fun d a=>by
 obtain⟨v,rfl,_⟩:=h d a;rfl
theorem qiL(n:Nat):n<=QA n/\QA n<=n+7/\QA n % 8=0:=xj
theorem qmv{cs:List D}{n i:Nat}(d:JE cs)(k:cs.length=n*2)(hi:i<n):∃a b:Nat,a<18446744073709551616/\b<18446744073709551616/\cs.drop (i*2)=.int .u64 (a:Int):: .int .u64 (b:Int)::cs.drop (i*2+2):=by
 have f:i*2<cs.length:=wC
 have e:i*2+1<cs.length:=wC
 obtain⟨a,h,c⟩:=d _ (vC f);obtain⟨b,j,g⟩:=d _ (vC e);exact⟨a,b,c,g,by rw[jo f,h,jo e,j]⟩
theorem qox[MaxL][TxtC](a b:Nat)(c:a<18446744073709551616)(d:b<18446744073709551616):∃s:List UInt8,s.length=16/\call cx 109 [.vsl false [.int .u64 (a:Int),.int .u64 (b:Int)] 2] []=some (.osl 0 16 0 16 1,[some (qf s)]):=by
 obtain⟨q,h,s,e,rfl⟩:=qcX false [.int .u64 (a:Int),.int .u64 (b:Int)] (qaP ⟨a,rfl,c⟩ (qfr ⟨b,rfl,d⟩)) wE wE wE;exact⟨s,e,h⟩
theorem qkb(s p:List UInt8):qf (s++p)=qf s++qf p:=wV
theorem qjO[MaxL][TxtC](k:Nat)(d:1<=k/\k<=7)(s p:List UInt8){n:Nat}(c:n=s.length+p.length)(h:n<=1000000):
  ∃t:List UInt8,t.length=QA (16+n)/\call cx 155 [.int .i64 k,.vsl false (qf s++qf p) n] []=some (.vsl false (qf t) t.length,[]):=by
 obtain⟨r,g,t,a,rfl⟩:=qnI k d false (s++p) wE wG;have b:(s++p).length=n:=by rw[zo,c]
 have e:=qiL (16+n);rw[b] at g a;refine⟨t,a,?_⟩;rw[qkb] at g;rw[g,<-a,decide_eq_false wC]
def qeL(n:Nat)(q:D×qe):Prop:=∃s:List UInt8,s.length=n/\q=(.vsl false (qf s) s.length,[])
theorem qjo{s p:List UInt8}{n:Nat}(h:n=s.length+p.length):List.take n (qf s++qf p)=qf s++qf p:=qH wG
theorem qzn[MaxL][TxtC](a b c d e f:Nat)(r:a<18446744073709551616)(u:b<18446744073709551616)(hc:c<18446744073709551616)(v:d<18446744073709551616)(l:e<18446744073709551616)(k:f<18446744073709551616)(m:Bool)(p:List UInt8)(y:p.length<=100000):
  ∃q,call cx 159 [.agg [.int .u64 a,.int .u64 b,.int .u64 c,.int .u64 d,.int .u64 e,.int .u64 f,.vsl m (qf p) p.length]] []=some q/\qeL (QA (64+p.length)) q:=by
 obtain⟨q,h,s,o,rfl⟩:=qcX false [.int .u64 (a:Int),.int .u64 (b:Int),.int .u64 (c:Int),.int .u64 (d:Int),.int .u64 (e:Int),.int .u64 (f:Int)] (qaP ⟨_,rfl,r⟩ (qaP ⟨_,rfl,u⟩ (qaP ⟨_,rfl,hc⟩ (qaP ⟨_,rfl,v⟩ (qaP ⟨_,rfl,l⟩ (qfr ⟨_,rfl,k⟩)))))) wE wE wE;have i:s.length=48:=o;replace h:call cx 109 [.vsl false [.int .u64 (a:Int),.int .u64 (b:Int),.int .u64 (c:Int),.int .u64 (d:Int),.int .u64 (e:Int),.int .u64 (f:Int)] 6] []=some (.osl 0 48 0 48 1,[some (qf s)]):=h;obtain⟨t,w,g⟩:=qjO 1 wC s p (n:=48+p.length) wC wC;have x:48+p.length<=140737488355328:=wC
 have j:=qjo (s:=s) (p:=p) (n:=48+p.length) wC;replace g:call cx 155 [.int .i64 1,.vsl false (qf s++qf p) (48+p.length)] []=some (.vsl false (qf t) t.length,[]):=g;refine⟨(.vsl false (qf t) t.length,[]),qC Tryz.func159 rfl ⟨rfl,rfl⟩ ?_,t,by rw[w];congr 1;omega,rfl⟩;simp[Tryz.f159,h,i,qF,g,x,j]
theorem qzj[MaxL][TxtC](a b c:Nat)(j:a<18446744073709551616)(k:b<18446744073709551616)(hc:c<18446744073709551616)(f:Bool)(p:List UInt8)(o:p.length<=100000):
  ∃q,call cx 203 [.agg [.int .u64 a,.int .u64 b,.int .u64 c,.vsl f (qf p) p.length]] []=some q/\qeL (QA (40+p.length)) q:=by
 obtain⟨q,h,s,i,rfl⟩:=qcX false [.int .u64 (a:Int),.int .u64 (b:Int),.int .u64 (c:Int)] (qaP ⟨_,rfl,j⟩ (qaP ⟨_,rfl,k⟩ (qfr ⟨_,rfl,hc⟩))) wE wE wE;have d:s.length=24:=i;replace h:call cx 109 [.vsl false [.int .u64 (a:Int),.int .u64 (b:Int),.int .u64 (c:Int)] 3] []=some (.osl 0 24 0 24 1,[some (qf s)]):=h;obtain⟨t,l,g⟩:=qjO 2 wC s p (n:=24+p.length) wC wC;have m:24+p.length<=140737488355328:=wC
 have e:=qjo (s:=s) (p:=p) (n:=24+p.length) wC;replace g:call cx 155 [.int .i64 2,.vsl false (qf s++qf p) (24+p.length)] []=some (.vsl false (qf t) t.length,[]):=g;refine⟨(.vsl false (qf t) t.length,[]),qC Tryz.func203 rfl ⟨rfl,rfl⟩ ?_,t,by rw[l];congr 1;omega,rfl⟩;simp[Tryz.f203,h,d,qF,g,m,e]
theorem qzt[MaxL][TxtC](a:Nat)(r:a<18446744073709551616)(b:Bool)(cs:List D)(j:JE cs)(k:b=true->cs=[])(x:cs.length<=1000)(d:1<=cs.length):
  ∃q,call cx 166 [.agg [.int .u64 a,.vsl b cs cs.length]] []=some q/\qeL (24+8*cs.length) q:=by
 obtain⟨q,h,s,o,rfl⟩:=qcX false [.int .u64 (a:Int)] (qfr ⟨_,rfl,r⟩) wE wE wE;have c:s.length=8:=o;replace h:call cx 109 [.vsl false [.int .u64 (a:Int)] 1] []=some (.osl 0 8 0 8 1,[some (qf s)]):=h;obtain⟨w,m,p,i,rfl⟩:=qcX b cs j k wC d;obtain⟨t,u,g⟩:=qjO 6 wC s p (n:=8+8*cs.length) wC wC;have v:8+8*cs.length<=140737488355328:=wC
 have f:=qjo (s:=s) (p:=p) (n:=8+8*cs.length) wC;have l:List.take (8*cs.length) (qf p)=qf p:=qH wG;have e:t.length=24+8*cs.length:=by rw[u];unfold QA;omega
 replace g:call cx 155 [.int .i64 6,.vsl false (qf s++qf p) (8+8*cs.length)] []=some (.vsl false (qf t) t.length,[]):=g;refine⟨(.vsl false (qf t) t.length,[]),qC Tryz.func166 rfl ⟨rfl,rfl⟩ ?_,t,e,rfl⟩;simp[Tryz.f166,h,c,m,i,qF,g,v,f,l]
theorem qnH[MaxL][TxtC](k:Nat)(b:1<=k/\k<=7)(s:List UInt8){n:Nat}(c:n=s.length)(h:n<=1000000):
  ∃t:List UInt8,t.length=QA (16+n)/\call cx 155 [.int .i64 k,.vsl false (qf s) n] []=some (.vsl false (qf t) t.length,[]):=by
 obtain⟨r,g,t,a,rfl⟩:=qnI k b false s wE wC;have d:=qiL (16+n);rw[<-c] at g a;exact⟨t,a,by rw[g,<-a,decide_eq_false wC]⟩
theorem qnP[MaxL][TxtC](k:Nat)(W:k=4\/k=5)(z:Bool)(cs:List D)(n:Nat)(P:JE cs)(S:cs.length=n*2)(O:z=true->n=0)(Y:n<=1000)(V:1<=n):∃q,call cx 97 [.int .i64 k,.vsl z cs n] []=some q/\qeL (16+16*n) q:=by
 have R:z=false:=Bool.eq_false_iff.2 fun h=>by have:=O h;omega
 subst R;have C:((k:Int)=4/\¬(k:Int)=5)\/(¬(k:Int)=4/\(k:Int)=5):=wC
 have F:1<=k/\k<=7:=wC
 have r:=qnH (k:=k) F;refine Vk (X:=cx) (f:=97) (qeL _) Tryz.func97 rfl ⟨rfl,rfl⟩ ?_;rcases C with⟨y,A⟩|⟨y,A⟩
 all_goals
  simp[Tryz.f97,y,A];refine Run.loopThen (fun(i:Nat) e H=>i<=n/\qi e 0=some (.int .i64 k)/\qi e 1=some (.vsl false cs n)/\qi e 6=some (.int .i64 i)/\∃l,l.length=16*i/\((i=0/\H=[]/\qi e 5=some (.vsl true [] 0))\/(i≠0/\∃p G H',H=p::G::some (qf l)::H'/\qi e 5=some (.osl 2 (16*i) 0 (16*i) 1))\/(i≠0/\∃H',H=some (qf l)::H'/\qi e 5=some (.osl 0 (16*i) 0 (16*i) 1)))) (fun i=>n-i) 0 ?_ ?_
  .refine⟨vp _,by simp[y,A],wE,wE,[],rfl,.inl ⟨rfl,rfl,wE⟩⟩
  rintro i e H ⟨hi,w,u,o,l,c,M⟩;by_cases B:i<n
  .have m:=zq B;have J:=qz ((i:Int)+1) ((i+1:Nat):Int);obtain⟨a,b,T,U,x⟩:=qmv P S B;obtain⟨s,v,j⟩:=qox a b T U
   have vk:List.drop (i*2+1) cs=.int .u64 (b:Int)::cs.drop (i*2+2):=by
    rw[<-kz,x];rfl
   have L:16*i+16<=140737488355328:=wC;rcases M with⟨d,rfl,g⟩|⟨d,p,G,H',rfl,g⟩|⟨d,H',rfl,g⟩
   .simp[w,u,g,o,m,x,j,J,qF,v];exact⟨i+1,wC,wC,wC,s,wC,wC,rfl,wC⟩
   .simp[w,u,g,o,m,x,j,J,qF,v,c,L];exact⟨i+1,wC,wC,wC,l++s,by simp[c,v];omega,wC,wV,wC⟩
   .simp[w,u,g,o,m,x,j,J,qF,v,c,L];exact⟨i+1,wC,wC,wC,l++s,by simp[c,v];omega,wC,wV,wC⟩
  .have m:=zw B;rcases M with⟨d,rfl,g⟩|⟨d,p,G,H',rfl,g⟩|⟨d,H',rfl,g⟩
   .omega
   .have Q:i=n:=wC;obtain⟨t,I,E⟩:=r l (n:=16*i) wC wC;have N:List.take (16*i) (qf l)=qf l:=qH wG;have K:QA (16+16*i)=16+16*n:=xj;simp[w,u,g,o,m,c,E];exact⟨t,by rw[I,K],rfl⟩
   .have Q:i=n:=wC;obtain⟨t,I,E⟩:=r l (n:=16*i) wC wC;have N:List.take (16*i) (qf l)=qf l:=qH wG;have K:QA (16+16*i)=16+16*n:=xj;simp[w,u,g,o,m,c,E];exact⟨t,by rw[I,K],rfl⟩
theorem qke[MaxL][TxtC](a:Nat)(b:a<18446744073709551616):∃s:List UInt8,s.length=8/\call cx 109 [.vsl false [.int .u64 (a:Int)] 1] []=some (.osl 0 8 0 8 1,[some (qf s)]):=by
 obtain⟨q,h,s,c,rfl⟩:=qcX false [.int .u64 (a:Int)] (qfr ⟨a,rfl,b⟩) wE wE wE;exact⟨s,c,h⟩
theorem q0g[MaxL][TxtC](a b c:Nat)(d:a<18446744073709551616)(e:b<18446744073709551616)(hc:c<18446744073709551616):∃s:List UInt8,s.length=24/\call cx 109 [.vsl false [.int .u64 (a:Int),.int .u64 (b:Int),.int .u64 (c:Int)] 3] []=some (.osl 0 24 0 24 1,[some (qf s)]):=by
 obtain⟨q,h,s,f,rfl⟩:=qcX false [.int .u64 (a:Int),.int .u64 (b:Int),.int .u64 (c:Int)] (qaP ⟨a,rfl,d⟩ (qaP ⟨b,rfl,e⟩ (qfr ⟨c,rfl,hc⟩))) wE wE wE;exact⟨s,f,h⟩
def qbs(a b c:Nat)(d:ID)(x:Nat)(e:Bool)(cs:List D)(n:Nat):List D:=[.int .u64 a,.int .u64 b,.int .u64 c]++(qf d.l++[.int .u64 x,.vsl e cs n])
theorem qzl[MaxL][TxtC](a b c:Nat)(d:ID)(x:Nat)(ha:a<18446744073709551616)(hb:b<18446744073709551616)(hc:c<18446744073709551616)(hx:x<18446744073709551616)(j:Bool)(cs:List D)(n:Nat)(O:JE cs)(hl:cs.length=n*2)(Z:j=true->n=0)(hn:n<=1000):
  ∃q,call cx 104 [.agg (qbs a b c d x j cs n)] []=some q/\qeL (64+16*n) q:=by
 obtain⟨s3,B,h3⟩:=q0g a b c ha hb hc;obtain⟨s1,P,h1⟩:=qke x hx;have r:d.l.length=16:=d.h;have vK:=qew O;refine Vk (X:=cx) (f:=104) (qeL _) Tryz.func104 rfl ⟨rfl,rfl⟩ ?_;obtain⟨E,o⟩:∃E,E=qbs a b c d x j cs n:=⟨_,rfl⟩;have e1:E.drop 19=[.int .u64 x,.vsl j cs n]:=by rw[o];simp[qbs,r]
 have e2:E.drop 20=[.vsl j cs n]:=by rw[o];simp[qbs,r,jd]
 have e3:(E.drop 3).take 16=qf d.l:=by rw[o];simp[qbs,r]
 have e4:E=.int .u64 a:: .int .u64 b:: .int .u64 c::E.drop 3:=by rw[o];simp[qbs]
 simp[Tryz.f104,qbs,h3,B,h1,P,r,qF];have e5:(D.int IntKind.u64 (a:Int)::D.int IntKind.u64 (b:Int)::D.int IntKind.u64 (c:Int)::(qf d.l++[D.int IntKind.u64 (x:Int),D.vsl j cs n]))=E:=by rw[o];simp[qbs]
 rw[e5]
 have J:(∀y,y∈E->idFree y=true)=True:=eq_true fun y w=>by
  rw[o] at w;simp[qbs] at w;rcases w with rfl|rfl|rfl|w|rfl|rfl
  .rfl
  .rfl
  .rfl
  .exact List.all_eq_true.1 wE y w
  .rfl
  .rfl
 have C:E.length=21:=by rw[o];simp[qbs,r]
 refine Run.loopThen (fun(i:Nat) e H=>i<=n/\qi e 1=some (.optr 0 21 0)/\qi e 4=some (.int .i64 i)/\∃l m,l.length=m/\m=48+16*i/\((∃p T,H=some E::p::some (qf l)::T/\qi e 3=some (.osl 2 m 0 m 1))\/(∃T,H=some E::some (qf l)::T/\qi e 3=some (.osl 1 m 0 m 1)))) (fun i=>n-i) 0 ?_ ?_
 .refine⟨vp _,wE,wE,s3++(d.l++s1),48,by simp[B,P,r],rfl,.inl ⟨_,_,by simp[qf];exact⟨rfl,rfl⟩,wE⟩⟩
 rintro i e H ⟨hi,F,G,l,m,g,hm,W⟩;by_cases L:i<n
 .have z:=zq L;have V:=qz ((i:Int)+1) ((i+1:Nat):Int);have Q:j=false:=Bool.eq_false_iff.2 fun h=>by have:=Z h;omega
  obtain⟨u,v,K,M,N⟩:=qmv O hl L;obtain⟨s,R,A⟩:=qox u v K M
  have vk:List.drop (i*2+1) cs=.int .u64 (v:Int)::cs.drop (i*2+2):=by
   rw[<-kz,N];rfl
  have U:m+16<=140737488355328:=wC
  rcases W with⟨p,T,rfl,k⟩|⟨T,rfl,k⟩
  .simp[F,k,G,z,Q,N,A,V,qF,R,g,U,J,C,e2];exact⟨i+1,wC,wC,wC,l++s,wG,wV,wG⟩
  .simp[F,k,G,z,Q,N,A,V,qF,R,g,U,J,C,e2];exact⟨i+1,wC,wC,wC,l++s,wG,wV,wG⟩
 .have z:=zw L;have ZA:i=n:=by omega
  obtain⟨t,S,I⟩:=qnH 3 wC l (n:=m) g.symm wC;have zS:List.take m (qf l)=qf l:=qH wG;have Y:QA (16+m)=64+16*n:=xj
  replace I:call cx 155 [.int .i64 3,.vsl false (qf l) m] []=some (.vsl false (qf t) t.length,[]):=I;rcases W with⟨p,T,rfl,k⟩|⟨T,rfl,k⟩
  .simp[F,k,G,z,g,I,J,C,e2];exact⟨t,by rw[S,Y],rfl⟩
  .simp[F,k,G,z,g,I,J,C,e2];exact⟨t,by rw[S,Y],rfl⟩
def qkC(cs:List D):Prop:=∀d,d∈cs->∃s:Sl UInt8,d=(.vsl s.nil (qf s.l) s.l.length)/\s.l.length<1000000
theorem qwq[MaxL][TxtC](b:Bool)(cs:List D)(t:qkC cs)(n:b=true->cs=[])(w:cs.length<=100000):∃q,call cx 105 [.vsl b cs cs.length] []=some q/\qgT q:=by
 refine Vk (X:=cx) (f:=105) qgT Tryz.func105 rfl ⟨rfl,rfl⟩ ?_;simp[Tryz.f105];refine Run.loopThen (fun(i:Nat) e H=>i<=cs.length/\qi e 0=some (.vsl b cs cs.length)/\qi e 4=some (.int .i64 i)/\H=[]/\∃v,jq v/\qi e 3=some (.int .u64 v)) (fun i=>cs.length-i) 0 ?_ ?_
 .exact⟨vp _,wE,wE,rfl,0,by unfold jq;omega,wE⟩
 rintro i e H ⟨hi,g,j,rfl,v,m,d⟩;by_cases a:i<cs.length
 .have c:=zq a;have k:=qz ((i:Int)+1) ((i+1:Nat):Int);have o:b=false:=Bool.eq_false_iff.2 fun h=>by rw[n h] at a;simp at a
  subst o;obtain⟨s,r,x⟩:=t _ (vC a);have u:cs.drop i=(.vsl s.nil (qf s.l) s.l.length)::cs.drop (i+1):=by rw[jo a,r]
  have p:=qnx s wC;simp[g,d,j,c,u,p,k];exact⟨i+1,wC,wC,wC,qmf _ _⟩
 .have c:=zw a;simp[g,d,j,c];exact⟨v,m,rfl⟩
theorem qkw[MaxL][TxtC](v:Nat)(a:v<4294967296):∃s:List UInt8,s.length=4/\call cx 108 [.int .u64 v,.int .i64 4] []=some (.vsl false (qf s) 4,[]):=⟨QN 4 v,wE,qkv v 4 wC wC wC⟩
theorem qms(z:Int):∃c:UInt8,IntKind.u8.wrap z=(c.toNat:Int):=by
 have h:0<=IntKind.u8.wrap z/\IntKind.u8.wrap z<256:=by
  simp only[IntKind.wrap,IntKind.signed,IntKind.bits];simp;omega
 refine⟨UInt8.ofNat (IntKind.u8.wrap z).toNat,?_⟩;rw[qfH (by simp only[UInt8.size];omega)];omega
theorem q6Y{R:List D}(h:R.all idFree=true):(∀x,x∈R->idFree x=true)=True:=eq_true (List.all_eq_true.1 h)
def Kk(v0 v1:Nat)(st:Int)(ids:List UInt8)(a:List D)(b d c:Nat):List D:=.int .u32 (v0:Int):: .int .u32 (v1:Int):: .int .i64 st::(qf ids++(a++[.int .u32 (b:Int),.int .u32 (d:Int),.int .u64 (c:Int)]))
structure HdB (st:Int) (v1:Nat) (ns:List D) (s:List UInt8):Prop where
 len:s.length=272
 sign:s.take 8=signL
 inc:Ji s 12=v1
 st:((s.getD 16 0).toNat:Int)=IntKind.u8.wrap st
 n:∀(j v:Nat),j<20->ns[j]?=some (.int .u64 (v:Int))->qT s (88+8*j)=v
theorem q39[MaxL][TxtC](v0 v1:Nat)(st:Int)(ids:List UInt8)(a:List D)(h i p T:Nat)(h0:v0<4294967296)(h1:v1<4294967296)(Y:ids.length=64)(U:JE a)(r:a.length=20)(h2:h<4294967296)(h3:i<4294967296)(h4:p<18446744073709551616)(J:T<18446744073709551616):
  ∃q,call cx 60 [.agg (Kk v0 v1 st ids a h i p),.int .u64 T] []=some q/\∃s:List UInt8,HdB st v1 a s/\q=(.osl 0 272 0 272 1,[some (qf s)]):=by
 obtain⟨F,d,e0⟩:=qkw v0 h0;obtain⟨G,g,e1,f1⟩:∃s:List UInt8,s.length=4/\call cx 108 [.int .u64 v1,.int .i64 4] []=some (.vsl false (qf s) 4,[])/\leN s=v1:=⟨QN 4 v1,wE,qkv v1 4 wC wC wC,by rw[qk3];exact qeJ h1⟩;obtain⟨S,l2,e2⟩:=qkw h h2;obtain⟨N,W,e3⟩:=qkw i h3;obtain⟨E,l4,e4⟩:=qke p h4;obtain⟨H,ld,ed⟩:=qke T J;obtain⟨q,t,o,ln,an,rfl⟩:=qou false a U wE wC wC;rw[r] at t ln an;replace t:call cx 109 [.vsl false a 20] []=some (.osl 0 160 0 160 1,[some (qf o)]):=t;replace ln:o.length=160:=ln;obtain⟨c,hc⟩:=qms st;have w0:=zf (v0:Int) (v0:Int);have w1:=zf (v1:Int) (v1:Int);have w2:=zf (h:Int) (h:Int);have w3:=zf (i:Int) (i:Int);have I:=qew U;have fI:=q6Y I;have fL:=zfl I;have fC:=zca I;obtain⟨R,hR⟩:∃R:List D,R=[.int .u32 (h:Int),.int .u32 (i:Int),.int .u64 (p:Int)]:=⟨_,rfl⟩;have Z:(qf ids).length=64:=by simp[Y]
 have w:List.drop 84 (qf ids++(a++R))=R:=by rw[show(84:Nat)=64+20 by rfl,<-kz,VD Z,VD r]
 have d1:List.drop 85 (qf ids++(a++R))=R.drop 1:=by rw[show(85:Nat)=84+1 by rfl,<-kz,w]
 have d2:List.drop 86 (qf ids++(a++R))=R.drop 2:=by rw[show(86:Nat)=84+2 by rfl,<-kz,w]
 have V:List.drop 64 (qf ids++(a++R))=a++R:=VD Z;have d4:List.take 20 (a++R)=a:=List.take_left' r
 have B:∀k,k+16<=64->List.take 16 (List.drop k (qf ids++(a++R)))=qf ((ids.drop k).take 16):=by
  intro k hk;rw[List.drop_append_of_le_length wC,List.take_append_of_le_length xA];simp[qf]
 have y:=B 0 wC;have O:=B 16 wC;have P:=B 32 wC;have K:=B 48 wC;rw[List.drop_zero] at y;obtain⟨u,m⟩:∃b,b=(ids.drop 0).take 16:=⟨_,rfl⟩;obtain⟨A,l⟩:∃b,b=(ids.drop 16).take 16:=⟨_,rfl⟩;obtain⟨x,kx⟩:∃b,b=(ids.drop 32).take 16:=⟨_,rfl⟩;obtain⟨z,n⟩:∃b,b=(ids.drop 48).take 16:=⟨_,rfl⟩;have L:u.length=16:=by rw[m,jc,vg];omega
 have C:A.length=16:=by rw[l,jc,vg];omega
 have M:x.length=16:=by rw[kx,jc,vg];omega
 have Q:z.length=16:=by rw[n,jc,vg];omega
 rw[<-m] at y;rw[<-l] at O;rw[<-kx] at P;rw[<-n] at K;rw[hR] at w d1 d2 V d4 y O P K;refine Vk (X:=cx) (f:=60) (fun q=>∃s:List UInt8,HdB st v1 a s/\q=(.osl 0 272 0 272 1,[some (qf s)])) Tryz.func60 rfl ⟨rfl,rfl⟩ ?_;simp[Tryz.f60,Kk,Y,r,w0,w1,w2,w3,e0,e1,e2,e3,e4,ed,t,d,g,l2,W,l4,ld,ln,hc,qF,fI,fC,w,d1,d2,V,d4,y,O,P,K,L,C,M,Q,qH];refine⟨[76,80,75,83,72,72,82,72]++(F++(G++([c,0,0,0,0,0,0,0]++(u++(A++(x++(z++(o++(H++(S++(N++E))))))))))),⟨by simp[d,g,l2,W,l4,ld,ln,L,C,M,Q],rfl,?_,?_,fun j v hj hv=>?_⟩,?_⟩
 .unfold Ji;rw[<-jX,VD xR,List.take_left' g,f1]
 .rw[<-jX,<-jX,jy,jl (by simp[d,g])];simp[d,g,hc]
 .have e:[76,80,75,83,72,72,82,72]++(F++(G++([c,0,0,0,0,0,0,0]++(u++(A++(x++(z++(o++(H++(S++(N++E)))))))))))=([76,80,75,83,72,72,82,72]++(F++(G++([c,0,0,0,0,0,0,0]++(u++(A++(x++z)))))))++(o++(H++(S++(N++E)))):=by simp
  unfold qT;rw[e,<-kz,VD (by simp[d,g,L,C,M,Q]),List.drop_append_of_le_length wC,List.take_append_of_le_length xA];exact an j v wC hv
 .simp[qf]
theorem jD{l:List D}{i:Nat}{x:D}(h:l[i]?=some x):l.drop i=x::l.drop (i+1):=by
 obtain⟨hi,hx⟩:=List.getElem?_eq_some_iff.1 h;rw[jo hi,hx]
theorem QJ(H:qe)(i:Nat)(x y:List D):qn (qn H i x) i y=qn H i y:=by
 unfold qn;rw[List.set_set]
theorem qdl{H:qe}{i:Nat}{x:List D}(h:qd H i=some x):qn H i x=H:=by
 unfold qn;have hi:=qx h;unfold qd at h;rw[qM hi] at h;apply List.ext_getElem
 .simp
 .intro j c b;rw[List.getElem_set];split
  .rename_i a;subst a;exact h.symm
  .rfl
theorem q2d{H:qe}{q:Nat}{m:Jm}(h:JmW H q m){b:List UInt8}(d:b.length=m.b.length):JmW (qn H m.bi (qf b)) q {m with b:=b}:=by
 have a:=h.nodup;have g:∀i,i∈m.names q->i≠m.bi->qd (qn H m.bi (qf b)) i=qd H i:=fun i _ hi=>zV hi
 have f:q≠m.bi:=by
  intro e;unfold Jm.names at a;rw[e] at a;simp at a
 have hD:∀i,i∈m.Ld->i∉[m.bi]:=by
  intro i hi e;rw[List.mem_singleton.1 e] at hi;unfold Jm.names at a;simp only[List.nodup_cons,jC,jW] at a;exact a.2.1 (.inl hi)
 have c:∀i,i∈m.Lf->i∉[m.bi]:=by
  intro i hi e;rw[List.mem_singleton.1 e] at hi;unfold Jm.names at a;simp only[List.nodup_cons,jC,jW] at a;exact a.2.1 (.inr hi)
 exact{h with
  root:=by rw[zV f];exact h.root
  c143:=by rw[h.c143];simp only;rw[d]
  bytes:=zj (qx h.bytes)
  rowD:=h.rowD.ext (Ext.set H m.bi _) hD
  rowF:=h.rowF.ext (Ext.set H m.bi _) c}
theorem q1Q[MaxL][TxtC]{H:qe}{q:Nat}{m:Jm}(h:JmW H q m)(a v:Nat)(S:a+8<=m.b.length)(R:m.b.length<=1000000):
  ∃b,call cx 107 [.optr q 147 0,.int .u64 a,.int .u64 v] H=some (.tup [],qn H m.bi (qf b))/\b.length=m.b.length:=by
 have hc:=jD h.c143
 have J:q≠m.bi:=by
  intro e;have n:=h.nodup;unfold Jm.names at n;rw[e] at n;simp at n
 have I:∀x,qd (qn H m.bi x) q=some m.cs:=fun x=>by rw[zV J];exact h.root
 have F:∀x,qd (qn H m.bi x) m.bi=some x:=fun x=>zj (qx h.bytes);have w:=h.len
 obtain⟨r,B,b,rfl,j⟩:∃r,call cx 107 [.optr q 147 0,.int .u64 a,.int .u64 v] H=some r/\∃b:List UInt8,r=(.tup [],qn H m.bi (qf b))/\b.length=m.b.length:=by
  refine vx (X:=cx) (f:=107) _ Tryz.func107 rfl ⟨rfl,rfl⟩ ?_;simp[-qd,-qn,-qr,Tryz.f107];refine Run.loopThen (fun(i:Nat) e K=>i<=8/\qi e 0=some (.optr q 147 0)/\qi e 1=some (.int .u64 a)/\qi e 2=some (.int .u64 v)/\qi e 6=some (.int .i64 i)/\∃b:List UInt8,b.length=m.b.length/\K=qn H m.bi (qf b)) (fun i=>8-i) 0 ?_ ?_
  .exact⟨wC,wE,wE,wE,wE,m.b,rfl,(qdl h.bytes).symm⟩
  rintro i e K ⟨hi,s,o,p,t,b,j,rfl⟩;by_cases P:i<8
  .have k:(i:Int)<8:=wC;have L:=qz ((i:Int)+1) ((i+1:Nat):Int);have G:=zf (i:Int) (i:Int);obtain⟨z,Q⟩:∃z:Nat,z=8*i:=⟨_,rfl⟩;obtain⟨y,N⟩:∃y:Nat,y=a+i:=⟨_,rfl⟩;have E:=zf ((a:Int)+(i:Int)) (y:Int);have u:=qz (8*(i:Int)) (z:Int);have A:=zf (z:Int) (z:Int);have M:¬(z:Int)<0:=wC;have O:y<m.b.length:=wC;have g:(y:Int)<(m.b.length:Int):=wC;have C:¬(y:Int)<0:=wC;have d:y+1<=m.b.length:=wC;obtain⟨c,l⟩:=qms ((v:Int).fdiv (2^min z IntKind.u64.bits));simp[-qd,-qn,-qr,s,o,p,t,k,L,G,E,u,A,M,I,F,w,hc,j,g,QJ,l,d];exact⟨i+1,wC,wC,wC,b.take y++c::b.drop (y+1),wG,wV⟩
  .have k:¬(i:Int)<8:=wC;simp[-qd,-qn,-qr,s,o,p,t,k];exact⟨b,rfl,j⟩
 exact⟨b,B,j⟩
theorem qaN[MaxL][TxtC]{H:qe}{q:Nat}{m:Jm}(h:JmW H q m)(d:m.Ok)(a v:Nat)(e:a+8<=m.b.length):
  ∃T b,call cx 107 [.optr q 147 0,.int .u64 a,.int .u64 v] H=some (.tup [],T)/\b.length=m.b.length/\JmW T q {m with b:=b}/\Jm.Ok {m with b:=b}/\Ext [m.bi] H T/\T.length=H.length:=by
 obtain⟨b,hc,c⟩:=q1Q h a v e d.bmax;refine⟨_,b,hc,c,q2d h c,?_,Ext.set H m.bi _,by simp[qn]⟩
 exact{d with
  bl:=by simp only;rw[c];exact d.bl
  bmod:=by simp only;rw[c];exact d.bmod
  bmax:=by simp only;rw[c];exact d.bmax
  da:=by simp only;rw[c];exact d.da
  fi:=by simp only;rw[c];exact d.fi
  main:=by simp only;rw[c];exact d.main}
theorem vr{l:List D}{i:Nat}{d:D}(h:i<l.length):List.take i l++d::List.drop (i+1) l=l.set i d:=by
 rw[qgU,if_pos h]
theorem qb5{l:List D}{i j:Nat}{d x:D}(a:i≠j)(h:l[j]?=some x):(l.set i d)[j]?=some x:=by rw[List.getElem?_set_ne a,h]
def qkY(i:Nat):Bool:=(decide (119<=i)&&decide (i<139)&& !([119,121,122,123,124,127,128].contains i))||decide (i=141)||decide (i=142)
theorem q4q{i:Nat}(h:qkY i=true):119<i/\i<143/\i≠121/\i≠122/\i≠123/\i≠124/\i≠127/\i≠128/\i≠139/\i≠140:=by
 unfold qkY at h;simp at h;omega
theorem KN{H:qe}{q:Nat}{m:Jm}(h:JmW H q m):m.bi≠q/\q∉m.Ld/\q∉m.Lf:=by
 have a:=h.nodup;unfold Jm.names at a;simp only[List.nodup_cons,jC,jW,not_or] at a;exact⟨fun e=>a.1.1 e.symm,a.1.2.1,a.1.2.2⟩
theorem X6{H:qe}{q:Nat}{m:Jm}(h:JmW H q m){i:Nat}(hi:qkY i=true){d:D}(n:isU d):JmW (qn H q (m.cs.set i d)) q {m with cs:=m.cs.set i d}:=by
 obtain⟨G,B,F,C,J,L,E,K,I,A⟩:=q4q hi;obtain⟨u,t,y⟩:=KN h;have p:i<m.cs.length:=xL
 have f:∀{j:Nat}{x:D},i≠j->m.cs[j]?=some x->(m.cs.set i d)[j]?=some x:=fun l hx=>qb5 l hx
 exact{h with
  root:=zj (qx h.root)
  len:=xJ
  file:=xI
  c48:=f wC h.c48
  c49:=f wC h.c49
  c50:=f wC h.c50
  c51:=f wC h.c51
  c52:=f wC h.c52
  c53:=f wC h.c53
  c54:=f wC h.c54
  ids:=by
   obtain⟨a,b,c,e,s⟩:=h.ids;refine⟨a,b,c,e,?_⟩;simp only;rw[List.drop_set,if_neg wC,List.take_set_of_le wC];exact s
  c119:=f wC h.c119
  c121:=f wC h.c121
  c122:=f wC h.c122
  c123:=f wC h.c123
  c124:=f wC h.c124
  c127:=f wC h.c127
  c128:=f wC h.c128
  nums:=fun j z w=>by
   by_cases g:i=j
   .subst g;exact⟨d,yQ,n⟩
   .obtain⟨x,hx,k⟩:=h.nums j z w;exact⟨x,f g hx,k⟩
  c139:=by obtain⟨v,r,o⟩:=h.c139;exact⟨v,f wC r,o⟩
  c140:=by obtain⟨v,r,o⟩:=h.c140;exact⟨v,f wC r,o⟩
  c141:=by
   by_cases g:i=141
   .subst g;exact⟨d,yQ,n⟩
   .obtain⟨x,hx,k⟩:=h.c141;exact⟨x,f g hx,k⟩
  c142:=by
   by_cases g:i=142
   .subst g;exact⟨d,yQ,n⟩
   .obtain⟨x,hx,k⟩:=h.c142;exact⟨x,f g hx,k⟩
  c143:=f wC h.c143
  c144:=f wC h.c144
  c145:=f wC h.c145
  c146:=f wC h.c146
  free:=qcs h.free (fun _=>qkA n)
  bytes:=yK
  rowD:=h.rowD.ext (Ext.set H q _) (fun j l e=>t (by rw[<-List.mem_singleton.1 e];exact l))
  rowF:=h.rowF.ext (Ext.set H q _) (fun j l e=>y (by rw[<-List.mem_singleton.1 e];exact l))}
theorem q2c{H:qe}{q:Nat}{m:Jm}(h:JmW H q m)(x:List UInt8){n:Nat}(G:n=m.b.length+x.length):JmW (qn (qn H m.bi (qf (m.b++x))) q (m.cs.set 143 (.osl m.bi n 0 n 1))) q {m with b:=m.b++x,cs:=m.cs.set 143 (.osl m.bi n 0 n 1)}:=by
 obtain⟨C,A,F⟩:=KN h;have g:=h.nodup;unfold Jm.names at g;simp only[List.nodup_cons,jC,jW,not_or] at g;have B:143<m.cs.length:=xL
 have f:∀{j:Nat}{y d:D},143≠j->m.cs[j]?=some y->(m.cs.set 143 d)[j]?=some y:=fun o i=>qb5 o i;have I:m.bi<H.length:=qx h.bytes;have r:q<H.length:=qx h.root;have E:Ext [m.bi] H (qn H m.bi (qf (m.b++x))):=Ext.set H _ _;have e2:Ext [q] (qn H m.bi (qf (m.b++x))) (qn (qn H m.bi (qf (m.b++x))) q (m.cs.set 143 (.osl m.bi n 0 n 1))):=Ext.set _ _ _
 have w:∀{k:Nat}{v:D}{cs:List D}{L:List Nat},m.bi∉L->q∉L->RowA H k v cs L->RowA (qn (qn H m.bi (qf (m.b++x))) q (m.cs.set 143 (.osl m.bi n 0 n 1))) k v cs L:=fun u s r=>
  (r.ext E (fun j o e=>u xW)).ext e2 (fun j o e=>s xW)
 exact{h with
  root:=zj (by simp[qn];exact r)
  len:=xJ
  file:=xI
  c48:=f wC h.c48
  c49:=f wC h.c49
  c50:=f wC h.c50
  c51:=f wC h.c51
  c52:=f wC h.c52
  c53:=f wC h.c53
  c54:=f wC h.c54
  ids:=by
   obtain⟨a,b,c,e,z⟩:=h.ids;refine⟨a,b,c,e,?_⟩;simp only;rw[List.drop_set,if_neg wC,List.take_set_of_le wC];exact z
  c119:=f wC h.c119
  c121:=f wC h.c121
  c122:=f wC h.c122
  c123:=f wC h.c123
  c124:=f wC h.c124
  c127:=f wC h.c127
  c128:=f wC h.c128
  nums:=fun j u s=>by
   obtain⟨y,i,l⟩:=h.nums j u s;exact⟨y,f wC i,l⟩
  c139:=by obtain⟨v,t,p⟩:=h.c139;exact⟨v,f wC t,p⟩
  c140:=by obtain⟨v,t,p⟩:=h.c140;exact⟨v,f wC t,p⟩
  c141:=by obtain⟨y,i,l⟩:=h.c141;exact⟨y,f wC i,l⟩
  c142:=by obtain⟨y,i,l⟩:=h.c142;exact⟨y,f wC i,l⟩
  c143:=by simp only;rw[List.getElem?_set_self B,G,zo]
  c144:=f wC h.c144
  c145:=f wC h.c145
  c146:=f wC h.c146
  free:=qcs h.free (fun hi=>wC)
  bytes:=by rw[zV C];exact zj I
  rowD:=w g.2.1.1 A h.rowD
  rowF:=w g.2.1.2 F h.rowF}
theorem q2h{m:Jm}(h:m.Ok){x:List UInt8}{cs:List D}(f:x.length % 8=0)(d:m.b.length+x.length<=1000000):Jm.Ok {m with b:=m.b++x,cs:=cs}:=by
 have e:(m.b++x).length=m.b.length+x.length:=zo;have a:m.b.length<=(m.b++x).length:=wC
 have:=h.bl;have:=h.bmod
 exact{h with
  bl:=wJ
  bmod:=wJ
  bmax:=wJ
  da:=fun k c=>(h.da k c).mono a
  fi:=fun k c=>(h.fi k c).mono a
  main:=h.main.mono a}
theorem qhO[MaxL][TxtC]{H:qe}{q:Nat}{m:Jm}(h:JmW H q m)(G:m.Ok)(x:List UInt8)(P:x.length % 8=0)(S:m.b.length+x.length<=1000000):
  ∃T cs,call cx 103 [.optr q 147 0,.vsl false (qf x) x.length] H=some (.int .u64 (m.b.length:Nat),T)/\JmW T q {m with b:=m.b++x,cs:=cs}/\Jm.Ok {m with b:=m.b++x,cs:=cs}/\Ext [q,m.bi] H T/\T.length=H.length:=by
 obtain⟨n,c⟩:∃n,n=m.b.length+x.length:=⟨_,rfl⟩;have U:=q2c h x c;have A:isU (.int .u64 ((m.b.length:Nat):Int)):=⟨_,rfl,wC⟩;have p:=X6 U (i:=125) rfl A;obtain⟨z,Kk,g,rfl,Q⟩:=p.nums 126 wC wC
 have M:isU (.int .u64 (IntKind.u64.wrap ((g:Int)+1))):=by
  have v:=qdZ ((g:Int)+1);unfold jq at v;exact⟨(IntKind.u64.wrap ((g:Int)+1)).toNat,by rw[Int.toNat_of_nonneg v.1],wC⟩
 have w3:=X6 p (i:=126) rfl M;simp only[QJ] at p w3 Kk;obtain⟨L,Y,q3⟩:=KN h;have u:=h.len;have hc:=jD h.c143;have o:=qx h.root;have k:=qx h.bytes;have w:=h.root;have E:=h.bytes;have d:qf m.b++qf x=qf (m.b++x):=wV
 obtain⟨f,j⟩:∃C,C=m.cs.set 143 (.osl m.bi n 0 n 1):=⟨_,rfl⟩;have I:List.take 143 m.cs++D.osl m.bi n 0 n 1::List.drop 144 m.cs=f:=by rw[j];exact vr wC
 have y:f.length=147:=by rw[j,vH];exact u
 obtain⟨e,l⟩:∃C,C=f.set 125 (.int .u64 ((m.b.length:Nat):Int)):=⟨_,rfl⟩;have V:List.take 125 f++D.int .u64 ((m.b.length:Nat):Int)::List.drop 126 f=e:=by rw[l];exact vr wC
 have N:e.length=147:=by rw[l,vH];exact y
 obtain⟨r,t⟩:∃C,C=e.set 126 (.int .u64 (IntKind.u64.wrap ((g:Int)+1))):=⟨_,rfl⟩;have O:List.take 126 e++D.int .u64 (IntKind.u64.wrap ((g:Int)+1))::List.drop 127 e=r:=by rw[t];exact vr wC
 rw[<-j] at w3 Kk;rw[<-l] at w3 Kk;rw[<-t] at w3;have z:=jD Kk;obtain⟨B,F⟩:∃B,B=qf (m.b++x):=⟨_,rfl⟩;rw[<-F] at d w3;obtain⟨K,a⟩:∃K,K=qn H m.bi B:=⟨_,rfl⟩;have W:qd K q=some m.cs:=by rw[a,zV L.symm];exact w
 have J:∀C,qd (qn K q C) q=some C:=fun C=>zj (by rw[a];simpa[qn] using o);rw[<-a] at w3;have X:=zf ((m.b.length:Nat):Int) ((m.b.length:Nat):Int);have s:m.bi<K.length:=by rw[a];simpa[qn] using k
 have R:n<=140737488355328:=wC
 have Z:m.b.length+x.length<=140737488355328:=wC
 refine⟨qn K q r,r,j6 Tryz.func103 rfl ⟨rfl,rfl⟩ ?_,w3,q2h G P S,?_,by rw[a];simp[qn]⟩
 .simp[-qd,-qn,-qr,Tryz.f103,w,E,u,hc,d,c.symm,a.symm,W,J,I,V,O,y,N,z,X,R,qF,QJ,s]
 .refine⟨by rw[a];simp[qn],fun i hi c=>?_⟩;simp only[jC,List.not_mem_nil,or_false,not_or] at c;rw[zV c.1,a,zV c.2]
theorem qdc{l:List Kn}{i:Nat}(hi:i<l.length):∃(k:Kn)(r:List D),k∈l/\(qt l).drop (i*5)=.str k.text:: .int .u64 (k.at_:Nat):: .int .i64 (k.slot:Nat):: .int .i64 (k.cnt:Nat):: .vsl k.nil (qP .u64 k.arrs) k.arrs.length::r/\l[i]?=some k/\(qt l).drop (i*5+1)=.int .u64 (k.at_:Nat):: .int .i64 (k.slot:Nat):: .int .i64 (k.cnt:Nat):: .vsl k.nil (qP .u64 k.arrs) k.arrs.length::r/\(qt l).drop (i*5+2)=.int .i64 (k.slot:Nat):: .int .i64 (k.cnt:Nat):: .vsl k.nil (qP .u64 k.arrs) k.arrs.length::r:=by
 have h:=XS (n:=5) (α:=Kn) rfl hi;rw[Kn.cells] at h;refine⟨l[i],_,vC hi,h,qM hi,?_,?_⟩
 .rw[<-kz,h];rfl
 .rw[<-kz,h];rfl
theorem qsE[MaxL][TxtC]{H:qe}{q:Nat}{m:Jm}(h:JmW H q m)(R:m.Ok){v:D}{ks:List Kn}{L:List Nat}(u:RowA H 5 v (qt ks) L)(ac:∀k,k∈ks->k.at_+40<=m.b.length)(ah:ks.length<=1000)
  (A at_ t:Nat) (ht:A+16*t+16<=m.b.length) (_:at_<18446744073709551616):
  ∃T b r,call cx 160 [.optr q 147 0,v,.int .u64 A,.int .u64 at_,.int .i64 t] H=some (.int .u64 (r:Nat),T)/\r<18446744073709551616/\b.length=m.b.length/\JmW T q {m with b:=b}/\Jm.Ok {m with b:=b}/\Ext [m.bi] H T/\T.length=H.length:=by
 have kG:=R.bmax
 suffices hs:∃r,call cx 160 [.optr q 147 0,v,.int .u64 A,.int .u64 at_,.int .i64 t] H=some r/\∃(n:Nat)(T:qe)(b:List UInt8),r=(.int .u64 (n:Nat),T)/\n<18446744073709551616/\b.length=m.b.length/\JmW T q {m with b:=b}/\Jm.Ok {m with b:=b}/\Ext [m.bi] H T/\T.length=H.length by
  obtain⟨r,hc,n,T,b,rfl,h1,h2,h3,h4,h5,h6⟩:=hs;exact⟨T,b,n,hc,h1,h2,h3,h4,h5,h6⟩
 refine vx (X:=cx) (f:=160) _ Tryz.func160 rfl ⟨rfl,rfl⟩ ?_;simp[-qd,-qn,-qr,Tryz.f160];refine Run.loopThen (fun(i:Nat) e K=>i<=ks.length/\qi e 0=some (.optr q 147 0)/\qi e 1=some v/\qi e 2=some (.int .u64 A)/\qi e 3=some (.int .u64 at_)/\qi e 4=some (.int .i64 t)/\qi e 13=some (.int .i64 i)/\K=H/\∃n last:Nat,n<=i/\(0<n->last+40<=m.b.length)/\qi e 11=some (.int .u64 n)/\qi e 12=some (.int .u64 last)) (fun i=>ks.length-i) 0 ?_ ?_
 .exact⟨vp _,wE,wE,wE,wE,wE,wE,rfl,0,0,qA _,fun h=>absurd h wC,wE,wE⟩
 rintro i e K ⟨hi,N,F,J,M,G,g,rfl,n,last,hn,a,l,j⟩;by_cases U:i<ks.length
 .have E:=zq U;have hw:=qz ((i:Int)+1) ((i+1:Nat):Int);obtain⟨k,r,Ki,vF,vA,Zu,vk⟩:=qdc U;have Y:=ac k Ki;have qQ:qt ks≠[]:=fun e0=>by rw[e0] at vF;simp at vF
  obtain⟨ro,nn,rfl,C,V,rfl⟩:=u.own qQ
  have Z:nn=ks.length:=by
   have:=Ja ks;rw[this] at C;simp at C;omega
  subst Z;have zH:(qt ks).length=ks.length*5:=wE
  have Q:=zf ((n:Int)+1) ((n+1:Nat):Int);by_cases Q2:k.slot=t
  .simp[-qd,-qn,-qr,N,F,J,M,G,l,j,g,E,hw,Q,V,zH,Zu,vk,Q2];exact⟨i+1,wC,wC,wC,n+1,wC,k.at_,fun _=>Y,wC,rfl⟩
  .have I:¬(k.slot:Int)=(t:Int):=wC;simp[-qd,-qn,-qr,N,F,J,M,G,l,j,g,E,hw,V,zH,vk,I];exact⟨i+1,wC,wC,wC,n,wC,last,a,rfl,rfl⟩
 .have E:=zw U;obtain⟨y,hy⟩:∃y:Nat,y=A+16*t:=⟨_,rfl⟩;obtain⟨x,hx⟩:∃x:Nat,x=16*t:=⟨_,rfl⟩;have w1:=qz (16*(t:Int)) (x:Int);have w2:=zf (x:Int) (x:Int);have w3:=zf ((A:Int)+(x:Int)) (y:Int);obtain⟨y8,ai⟩:∃z:Nat,z=y+8:=⟨_,rfl⟩;have w4:=zf ((y:Int)+8) (y8:Int);obtain⟨p,ae⟩:∃z:Nat,z=last+24:=⟨_,rfl⟩
  have w5:0<n->IntKind.u64.wrap ((last:Int)+24)=(p:Int):=fun d=>by
   have:=a d;rw[qcC]<;>omega
  have o:∃s w a1,a1=(if n=0 then y else p)/\call cx 107 [.optr q 147 0,.int .u64 (a1:Nat),.int .u64 at_] K=some (.tup [],s)/\w.length=m.b.length/\JmW s q {m with b:=w}/\Jm.Ok {m with b:=w}/\Ext [m.bi] K s/\s.length=K.length:=by
   by_cases d:n=0
   .obtain⟨s,w,hh⟩:=qaN h R y at_ wC
    exact⟨s,w,y,by rw[if_pos d],hh⟩
   .have:=a wC;obtain⟨s,w,hh⟩:=qaN h R p at_ wC
    exact⟨s,w,p,by rw[if_neg d],hh⟩
  obtain⟨s,w,a1,c,c1,ag,W1,O1,E1,L1⟩:=o;obtain⟨T2,S,W,kx,W2,O,P,L2⟩:=qaN W1 O1 y8 at_ wJ
  simp only at W2 O P kx;rcases u with⟨rfl,Yv,rfl⟩|⟨ro,nn,rfl,C,V,rfl⟩
  .have B:¬(i:Int)<0:=by omega
   have h0:ks.length=0:=by
    have:=Ja ks;rw[Yv] at this;simp at this;omega
   by_cases d:n=0
   .rw[if_pos d] at c;subst d c;simp[-qd,-qn,-qr,N,F,J,M,G,l,j,g,w1,w2,w3,w4,c1,W,B];exact⟨0,T2,⟨rfl,rfl⟩,wC,S,wC,W2,O,E1.trans P (NewL.refl _ _),wC⟩
   .omega
  .have Z:nn=ks.length:=by
    have:=Ja ks;rw[this] at C;simp at C;omega
   subst Z;by_cases d:n=0
   .rw[if_pos d] at c;subst d c;simp[-qd,-qn,-qr,N,F,J,M,G,l,j,g,E,w1,w2,w3,w4,c1,W];exact⟨0,T2,⟨rfl,rfl⟩,wC,S,wC,W2,O,E1.trans P (NewL.refl _ _),wC⟩
   .rw[if_neg d] at c;subst c;have ve:¬(n:Int)=0:=wC;have aa:=w5 wC;simp[-qd,-qn,-qr,N,F,J,M,G,l,j,g,E,w1,w2,w3,w4,aa,c1,W,d];exact⟨n,T2,⟨rfl,rfl⟩,wC,S,wC,W2,O,E1.trans P (NewL.refl _ _),wC⟩
theorem q2f{H T:qe}{q:Nat}{m:Jm}(h:JmW H q m)(k:Kn){v:D}{L:List Nat}(z:RowA T 5 v (qt (m.fi++[k])) L)(s:Ext m.Lf H T)(x:NewL m.Lf L H.length):JmW (qn T q (m.cs.set 145 v)) q {m with fi:=m.fi++[k],fv:=v,Lf:=L,cs:=m.cs.set 145 v}:=by
 obtain⟨B,A,N⟩:=KN h;have l:=h.nodup;unfold Jm.names at l;simp only[List.nodup_cons,jC,jW,not_or,List.nodup_append] at l;obtain⟨n1,n2,n3,n4,n5⟩:=l;have E:145<m.cs.length:=xL
 have f:∀{j:Nat}{y d:D},145≠j->m.cs[j]?=some y->(m.cs.set 145 d)[j]?=some y:=fun o g=>qb5 o g;have M:=qx h.root;have F:=qx h.bytes;have I:q<T.length:=s.lt M;have C:q∉L:=fun hc=>(x q hc).elim N wC;have G:m.bi∉L:=fun hc=>(x _ hc).elim n2.2 wC;have e2:Ext [q] T (qn T q (m.cs.set 145 v)):=Ext.set _ _ _;have S:∀i,i∈m.Ld->i∉L:=fun i hi hc=>(x i hc).elim (fun R=>n5 i hi i R rfl) (fun U=>absurd (h.rowD.lt hi) wC);have K:∀i,i∈m.Ld->i∉m.Lf:=fun i hi hc=>n5 i hi i hc rfl
 have u:L.Nodup:=by
  rcases z with⟨_,_,rfl⟩|⟨r,n,_,_,_,rfl⟩
  .simp
  .simp
 exact{h with
  root:=zj I
  len:=xJ
  file:=xI
  ids:=by
   obtain⟨a,b,c,e,s⟩:=h.ids;refine⟨a,b,c,e,?_⟩;simp only;rw[List.drop_set,if_neg wC,List.take_set_of_le wC];exact s
  nums:=fun j O J=>by
   obtain⟨y,g,p⟩:=h.nums j O J;exact⟨y,f wC g,p⟩
  c139:=by obtain⟨v,w,t⟩:=h.c139;exact⟨v,f wC w,t⟩
  c140:=by obtain⟨v,w,t⟩:=h.c140;exact⟨v,f wC w,t⟩
  c141:=by obtain⟨y,g,p⟩:=h.c141;exact⟨y,f wC g,p⟩
  c142:=by obtain⟨y,g,p⟩:=h.c142;exact⟨y,f wC g,p⟩
  c48:=f wC h.c48
  c49:=f wC h.c49
  c50:=f wC h.c50
  c51:=f wC h.c51
  c52:=f wC h.c52
  c53:=f wC h.c53
  c54:=f wC h.c54
  c119:=f wC h.c119
  c121:=f wC h.c121
  c122:=f wC h.c122
  c123:=f wC h.c123
  c124:=f wC h.c124
  c127:=f wC h.c127
  c128:=f wC h.c128
  c143:=f wC h.c143
  c144:=f wC h.c144
  c145:=by simp only;rw[List.getElem?_set_self E]
  c146:=f wC h.c146
  free:=qcs h.free (fun hi=>wC)
  bytes:=by rw[zV B];exact s.get h.bytes n2.2
  rowF:=z.ext e2 (fun j o e=>C xW)
  rowD:=(h.rowD.ext s (fun j o=>K j o)).ext e2 (fun j o e=>A xW)
  nodup:=by
   unfold Jm.names;simp only[List.nodup_cons,jC,jW,not_or,List.nodup_append];exact⟨⟨fun e=>B e.symm,A,C⟩,⟨n2.1,G⟩,n3,u,fun a P b Q e=>S a P (by rw[e];exact Q)⟩}
theorem q2g{H T:qe}{q:Nat}{m:Jm}(h:JmW H q m)(k:Kn){v:D}{L:List Nat}(z:RowA T 5 v (qt (m.da++[k])) L)(s:Ext m.Ld H T)(x:NewL m.Ld L H.length):JmW (qn T q (m.cs.set 144 v)) q {m with da:=m.da++[k],dv:=v,Ld:=L,cs:=m.cs.set 144 v}:=by
 obtain⟨A,E,B⟩:=KN h;have l:=h.nodup;unfold Jm.names at l;simp only[List.nodup_cons,jC,jW,not_or,List.nodup_append] at l;obtain⟨n1,n2,n3,n4,n5⟩:=l;have F:144<m.cs.length:=xL
 have f:∀{j:Nat}{y d:D},144≠j->m.cs[j]?=some y->(m.cs.set 144 d)[j]?=some y:=fun o g=>qb5 o g;have N:=qx h.root;have G:=qx h.bytes;have J:q<T.length:=s.lt N;have C:q∉L:=fun hc=>(x q hc).elim E wC;have I:m.bi∉L:=fun hc=>(x _ hc).elim n2.1 wC;have e2:Ext [q] T (qn T q (m.cs.set 144 v)):=Ext.set _ _ _;have S:∀i,i∈m.Lf->i∉L:=fun i hi hc=>(x i hc).elim (fun R=>n5 i R i hi rfl) (fun U=>absurd (h.rowF.lt hi) wC);have M:∀i,i∈m.Lf->i∉m.Ld:=fun i hi hc=>n5 i hc i hi rfl
 have u:L.Nodup:=by
  rcases z with⟨_,_,rfl⟩|⟨r,n,_,_,_,rfl⟩
  .simp
  .simp
 exact{h with
  root:=zj J
  len:=xJ
  file:=xI
  ids:=by
   obtain⟨a,b,c,e,s⟩:=h.ids;refine⟨a,b,c,e,?_⟩;simp only;rw[List.drop_set,if_neg wC,List.take_set_of_le wC];exact s
  nums:=fun j O K=>by
   obtain⟨y,g,p⟩:=h.nums j O K;exact⟨y,f wC g,p⟩
  c139:=by obtain⟨v,w,t⟩:=h.c139;exact⟨v,f wC w,t⟩
  c140:=by obtain⟨v,w,t⟩:=h.c140;exact⟨v,f wC w,t⟩
  c141:=by obtain⟨y,g,p⟩:=h.c141;exact⟨y,f wC g,p⟩
  c142:=by obtain⟨y,g,p⟩:=h.c142;exact⟨y,f wC g,p⟩
  c48:=f wC h.c48
  c49:=f wC h.c49
  c50:=f wC h.c50
  c51:=f wC h.c51
  c52:=f wC h.c52
  c53:=f wC h.c53
  c54:=f wC h.c54
  c119:=f wC h.c119
  c121:=f wC h.c121
  c122:=f wC h.c122
  c123:=f wC h.c123
  c124:=f wC h.c124
  c127:=f wC h.c127
  c128:=f wC h.c128
  c143:=f wC h.c143
  c144:=by simp only;rw[List.getElem?_set_self F]
  c145:=f wC h.c145
  c146:=f wC h.c146
  free:=qcs h.free (fun hi=>wC)
  bytes:=by rw[zV A];exact s.get h.bytes n2.1
  rowD:=z.ext e2 (fun j o e=>C xW)
  rowF:=(h.rowF.ext s (fun j o=>M j o)).ext e2 (fun j o e=>B xW)
  nodup:=by
   unfold Jm.names;simp only[List.nodup_cons,jC,jW,not_or,List.nodup_append];exact⟨⟨fun e=>A e.symm,C,B⟩,⟨I,n2.2⟩,u,n4,fun a P b Q e=>S b Q (by rw[<-e];exact P)⟩}
structure JGrow (H T:qe) (q:Nat) (m m':Jm):Prop where
 w:JmW T q m'
 ok:m'.Ok
 ext:Ext (m.names q) H T
 new:NewL (m.names q) (m'.names q) H.length
 ds:m'.ds=m.ds
 fs:m'.fs=m.fs
 key:m'.key=m.key
 file:m'.file=m.file
 ft:m'.ft=m.ft
 ne:m'.ne=m.ne
 tl:m'.tl=m.tl
 mn:m'.mn=m.mn
 main:m'.main=m.main
 bl:m.b.length<=m'.b.length
theorem JGrow.refl{H:qe}{q:Nat}{m:Jm}(h:JmW H q m)(a:m.Ok):JGrow H H q m m:=⟨h,a,Ext.refl _ _,NewL.refl _ _,rfl,rfl,rfl,rfl,rfl,rfl,rfl,rfl,rfl,qA _⟩
theorem X5{H T:qe}{q:Nat}{m:Jm}(h:JmW H q m)(a:Ext [] H T):JmW T q m:=
 {h with
  root:=a.get h.root wE
  bytes:=a.get h.bytes wE
  rowD:=h.rowD.ext a (fun _ _=>wE)
  rowF:=h.rowF.ext a (fun _ _=>wE)}
theorem VS{m:Jm}{q:Nat}:q∈m.names q:=by simp[Jm.names]
theorem KJ{m:Jm}{q:Nat}:m.bi∈m.names q:=by simp[Jm.names]
theorem qo6{m:Jm}{q i:Nat}(h:i∈m.Lf):i∈m.names q:=by simp[Jm.names,h]
theorem qh8{m:Jm}{q i:Nat}(h:i∈m.Ld):i∈m.names q:=by simp[Jm.names,h]
theorem q2m[MaxL][TxtC]{H:qe}{q:Nat}{m:Jm}(h:JmW H q m)(W:m.Ok)(name:List UInt8)(hn:name.length<=1000)(kG:m.b.length+2000<=1000000)(vI:m.fi.length<1000):
  ∃T t a,call cx 161 [.optr q 147 0,.str name] H=some (.int .u64 (a:Nat),T)/\JGrow H T q m t/\a+40<=t.b.length/\t.b.length<=m.b.length+(47+name.length)/\t.da=m.da/\t.fi.length<=m.fi.length+1:=by
 suffices hs:∃r,call cx 161 [.optr q 147 0,.str name] H=some r/\∃(a:Nat)(T:qe)(t:Jm),r=(.int .u64 (a:Nat),T)/\JGrow H T q m t/\a+40<=t.b.length/\t.b.length<=m.b.length+(47+name.length)/\t.da=m.da/\t.fi.length<=m.fi.length+1 by
  obtain⟨r,hc,a,T,t,rfl,R⟩:=hs;exact⟨T,t,a,hc,R⟩
 refine vx (X:=cx) (f:=161) _ Tryz.func161 rfl ⟨rfl,rfl⟩ ?_;have r0:=h.root;have qE:=h.len;have c5:=jD h.c145
 have aF:qO Tryz.prog 135 m.fv=some (.int .i64 m.fi.length):=by
  have zH:=Ja m.fi;rcases h.rowF with⟨hv,Yv,_⟩|⟨ro,nn,hv,Q8,_,_⟩
  .rw[Yv] at zH;have:m.fi.length=0:=(by simp at zH;omega);rw[hv,this];simp
  .have:nn=m.fi.length:=by
    rw[zH] at Q8;simp at Q8;omega
   rw[hv,this];simp
 simp[-qd,-qn,-qr,-qO,-qJ,Tryz.f161];refine Run.loopThen (fun(i:Nat) e K=>i<=m.fi.length/\qi e 0=some (.optr q 147 0)/\qi e 1=some (.str name)/\qi e 5=some (.int .i64 i)/\K=H) (fun i=>m.fi.length-i) 0 ?_ ?_
 .exact⟨vp _,wE,wE,wE,rfl⟩
 rintro i e K ⟨hi,p0,p1,p5,rfl⟩;by_cases qg:i<m.fi.length
 .have qo:=zq qg;have hw:=qz ((i:Int)+1) ((i+1:Nat):Int);obtain⟨k,r,Ki,vF,vA,Zu,vk⟩:=qdc qg;have aT:=W.fi k Ki;have qQ:qt m.fi≠[]:=fun e0=>by rw[e0] at vF;simp at vF
  obtain⟨ro,nn,aE,vw,ZW,bk⟩:=h.rowF.own qQ
  have jh:nn=m.fi.length:=by
   have:=Ja m.fi;rw[this] at vw;simp at vw;omega
  have zH:(qt m.fi).length=m.fi.length*5:=by rw[vw,jh]
  rw[jh] at aE;rw[aE] at c5;by_cases ht:k.text=name
  .simp[-qd,-qn,-qr,-Kn.ea,p0,p1,p5,r0,qE,c5,qo,ZW,zH,vF,Zu,ht];exact⟨k.at_,K,⟨rfl,rfl⟩,m,JGrow.refl h W,aT.at_,wC,rfl,wC⟩
  .simp[-qd,-qn,-qr,-Kn.ea,p0,p1,p5,r0,qE,c5,qo,hw,ZW,zH,vF,ht];exact⟨i+1,wC,wC,wC⟩
 .have qo:=zw qg;have bp:=W.fs;have bc:=W.ft;have jR:=W.bl;obtain⟨qh,KX,xh,JH,rfl⟩:=qka m.key m.file (Sl.mk false name wE) wJ;unfold jq at JH;obtain⟨V,rfl⟩:∃V:Nat,xh=(V:Int):=⟨xh.toNat,wC⟩;have aU:V<18446744073709551616:=by omega
  replace KX:call cx 102 [.bool m.key,.agg (qf m.file.l),.vsl false (qf name) name.length] []=some (.int .u64 (V:Int),[]):=KX;obtain⟨qp,Z,tb,bo,rfl⟩:=qzj V 0 0 aU wC wC false name wC;replace Z:call cx 203 [.agg [.int .u64 (V:Int),.int .u64 0,.int .u64 0,.vsl false (qf name) name.length]] []=some (.vsl false (qf tb) tb.length,[]):=Z;have bj:=qiL (40+name.length);obtain⟨K0,vB⟩:=ql (qr K (qf name));have g0:=js vB;obtain⟨K1,jx⟩:=ql (jS K0 [K.length])
  have x1:Ext [] K K1:=by
   refine⟨?_,fun j hj _=>?_⟩
   .rw[<-jx,QF,<-vB,jb];omega
   .rw[<-jx,V8 wG,<-vB,vv hj]
  have w1:=X5 h x1;obtain⟨K2,g,aI,S,o2,x2,l2⟩:=qhO w1 W tb wC wC;obtain⟨o,p⟩:∃x,x=({m with b:=m.b++tb,cs:=g}:Jm):=⟨_,rfl⟩;rw[<-p] at S o2;have bb:o.b.length=m.b.length+tb.length:=by rw[p];simp
  have F:o.fi=m.fi:=xH
  have J:o.fv=m.fv:=xH
  have c:o.cs=g:=xH
  have ae:o.fs=m.fs:=xH
  have aW:o.ft=m.ft:=xH
  obtain⟨E,Q2⟩:∃s,s=V % m.fs:=⟨_,rfl⟩;have au:E<m.fs:=by rw[Q2];exact YA _ wC
  obtain⟨K3,b3,r,aD,hr,bf,w3,o3,x3,l3⟩:=qsE S o2 (v:=o.fv) (ks:=o.fi) S.rowF (fun k JO=>by
   rw[F] at JO;have:=(W.fi k JO).at_;omega) (by rw[F];omega) m.ft m.b.length E wC wC
  rw[J] at aD;have aP:qd K2 q=some g:=by rw[<-c];exact S.root
  have aR:g.length=147:=by rw[<-c];exact S.len
  have ay:=jD S.c49;have G:=w3.c142;have U:=jD S.c123;have Q:=jD S.c145;rw[c,ae] at ay;rw[c,aW] at U;rw[c,J] at Q;simp only[c] at G;obtain⟨_,ag,dv,rfl,bh⟩:=G;have av:=jD ag;have aG:qd K3 q=some g:=by rw[<-c];exact w3.root
  have aK:∀C,qd (qn K3 q C) q=some C:=fun C=>zj (qx aG);obtain⟨mx,XG⟩:∃z:Nat,z=max dv r:=⟨_,rfl⟩
  have aZ:(if(dv:Int)<(r:Int) then(r:Int) else(dv:Int))=(mx:Int):=by
   rw[XG];split<;>omega
  have aC:(if dv<r then(r:Int) else(dv:Int))=(mx:Int):=by
   rw[XG];split<;>omega
  have w4:=X6 w3 (i:=142) rfl (d:=.int .u64 (mx:Int)) ⟨mx,rfl,wC⟩;simp only[c] at w4;obtain⟨C4,Xj⟩:∃C,C=g.set 142 (.int .u64 (mx:Int)):=⟨_,rfl⟩;have ao:List.take 142 g++D.int .u64 (mx:Int)::List.drop 143 g=C4:=by rw[Xj];exact vr wC
  rw[<-Xj] at w4;have l4:C4.length=147:=w4.len;obtain⟨_,aq,aa,rfl,ba⟩:=w4.nums 135 wC wC;have O:=jD aq;simp only at O;have Y:=qdZ ((aa:Int)+1);unfold jq at Y;obtain⟨M,hz⟩:∃z:Nat,IntKind.u64.wrap ((aa:Int)+1)=(z:Int):=⟨(IntKind.u64.wrap ((aa:Int)+1)).toNat,by rw[Int.toNat_of_nonneg Y.1]⟩;have w5:=X6 w4 (i:=135) rfl (d:=.int .u64 (M:Int)) ⟨M,rfl,wC⟩;simp only[QJ] at w5;obtain⟨I,Vi⟩:∃C,C=C4.set 135 (.int .u64 (M:Int)):=⟨_,rfl⟩;have aB:List.take 135 C4++D.int .u64 (M:Int)::List.drop 136 C4=I:=yH
  rw[<-Vi] at w5;have l5:I.length=147:=w5.len;have u:=jD w5.c145;simp only[J] at u;obtain⟨K5,kR⟩:=ql (qn K3 q I);rw[kR] at w5;have aV:qd K5 q=some I:=w5.root;obtain⟨K6,Qn⟩:=ql (qr K5 [.str name,.int .u64 (m.b.length:Nat),.int .i64 (E:Nat),.int .i64 0,.vsl true [] 0]);have x6:=zL Qn;have w6:=X5 w5 x6;have g6:=js Qn;have aJ:qd K6 q=some I:=w6.root;obtain⟨p6,aA⟩:=ql (K5.length);rw[aA] at g6;have N:=w6.rowF;simp only[F,J] at N;have w:=Ja m.fi;simp only[Kn.size] at w;obtain⟨v',K7,L7,hA,ai,x7,n7⟩:=N.append (P:=Tryz.prog) (st:=135) (xt:=135) (e:=204) (x:=.osl p6 5 0 1 5) (xs:=[.str name,.int .u64 (m.b.length:Nat),.int .i64 (E:Nat),.int .i64 0,.vsl true [] 0]) (m:=1) wE wE (by simp[-qd,g6]) wE wC wE wC (by rw[w];simp[qF];omega) (by rw[w];simp[qF];omega);obtain⟨kn,Qm⟩:∃k:Kn,k=⟨name,m.b.length,E,0,true,[]⟩:=⟨_,rfl⟩
  have ax:qt (m.fi++[kn])=qt m.fi++[.str name,.int .u64 (m.b.length:Nat),.int .i64 (E:Nat),.int .i64 0,.vsl true [] 0]:=by
   rw[qe8,Qm];rfl
  rw[<-ax] at ai;have ac:Ext o.Lf K6 K7:=x7;have w8:=q2f w6 kn (v:=v') (L:=L7) (by simp only[F];exact ai) ac n7;simp only[F] at w8
  have aS:qd K7 q=some I:=ac.get aJ (by
   have:=(KN w6).2.2;exact this)
  obtain⟨r7,k7,az,-,aN,bm⟩:=ai.own (by rw[ax];simp);obtain⟨z7,aH⟩:∃z,z=(qt (m.fi++[kn])).length:=⟨_,rfl⟩;rw[<-aH] at az;have am:r7<K7.length:=qx aN;subst az;obtain⟨C8,aw⟩:∃C,C=I.set 145 (D.osl r7 z7 0 k7 5):=⟨_,rfl⟩;have ak:List.take 145 I++D.osl r7 z7 0 k7 5::List.drop 146 I=C8:=by rw[aw];exact vr wC
  rw[<-aw] at w8;have e1:=jD h.c51;have e2:=h.file;have aM:=zf (m.fs:Int) (m.fs:Int);have aY:¬(m.fs:Int)=0:=wC
  have aj:¬m.fs=0:=wC
  have ah:K2.length<=K3.length:=wC
  have aL:(V:Int).tmod (m.fs:Int)=(E:Int):=by
   rw[Q2,Int.tmod_eq_emod_of_nonneg (Int.natCast_nonneg _)];rfl
  have aQ:=qz (E:Int) (E:Int);have bn:=zf (E:Int) (E:Int);have aX:List.set K0 K.length none=K1:=jx;simp[-qd,-qn,-qr,-qO,-qJ,-Kn.ea,p0,p1,p5,r0,qE,c5,aF,qo,e1,e2,KX,vB,g0,aX,Z,aI,aP,aR,ay,aM,aj,aL,aQ,Q,U,av,aD,aG,aK,aC,ao,l4,O,hz,aB,l5,u,QJ,kR,aV,Qn,aA,hA,aS,am,ak,ah];have n:∀{A B:qe}{L:List Nat},Ext L A B->(∀i,i∈L->i∈m.names q)->Ext (m.names q) A B:=fun hh hm=>hh.mono hm;have y1:=n x1 (fun _ hi=>wU)
  have y2:=n x2 (fun i hi=>by
   simp only[jC,List.not_mem_nil,or_false] at hi;rcases hi with rfl|rfl
   .exact VS
   .exact KJ)
  have y3:=n x3 (fun i hi=>by
   have:o.bi=m.bi:=xH;rw[List.mem_singleton.1 hi,this];exact KJ)
  have y5:Ext (m.names q) K3 K5:=kR▸n (Ext.set K3 q I) (fun i hi=>yB);have y6:=n x6 (fun _ hi=>wU)
  have y7:=n ac (fun i hi=>by
   have:o.Lf=m.Lf:=xH;rw[this] at hi;exact qo6 hi)
  have y8:=n (Ext.set K7 q C8) (fun i hi=>yB);have y:=(((((y1.trans y2 (NewL.refl _ _)).trans y3 (NewL.refl _ _)).trans y5 (NewL.refl _ _)).trans y6 (NewL.refl _ _)).trans y7 (NewL.refl _ _)).trans y8 (NewL.refl _ _);refine⟨m.b.length,_,⟨rfl,rfl⟩,_,⟨w8,?_,y,?_,?_,?_,?_,?_,?_,?_,?_,?_,?_,?_⟩,?_,?_,?_,?_⟩
  .exact{o3 with
    fi:=fun k JO=>by
     rcases List.mem_append.1 JO with R|R
     .have z:=(W.fi k R).mono (show m.b.length<=b3.length from wC);exact⟨z.at_,by simp only[ae];exact z.slot⟩
     .rw[List.mem_singleton.1 R,Qm];exact⟨wJ,by simp only[ae];exact au⟩
    nfi:=by simp only;rw[zo,List.length_singleton];omega}
  .intro i hi;have b1:o.bi=m.bi:=xH;have b2:o.Ld=m.Ld:=xH;have b4:o.Lf=m.Lf:=xH;have aO:=x1.len;simp only[Jm.names,b1,b2,jC,jW] at hi⊢;rcases hi with hi|hi|hi|hi
   .exact .inl (.inl hi)
   .exact .inl (.inr (.inl hi))
   .exact .inl (.inr (.inr (.inl hi)))
   .rcases n7 i hi with R|R
    .exact .inl (.inr (.inr (.inr (by rw[<-b4];exact R))))
    .have:=x6.len;have bg:K5.length=K3.length:=(by rw[<-kR];simp[qn]);exact .inr wC
  all_goals first
   |(subst p;rfl)
   |(simp only;omega)
   |(simp only;rw[p])
   |(simp only;rw[zo,List.length_singleton];omega)
theorem q3Z[MaxL][TxtC](b:List UInt8)(a:Nat)(J:a+8<=b.length)(I:b.length<=1000000):∃v:Nat,v<18446744073709551616/\call cx 162 [.vsl false (qf b) b.length,.int .i64 a,.int .i64 8] []=some (.tup [.int .u64 (v:Int),.bool true],[]):=by
 suffices B:∃r,call cx 162 [.vsl false (qf b) b.length,.int .i64 a,.int .i64 8] []=some r/\∃v:Int,jq v/\r=(.tup [.int .u64 v,.bool true],[]) by
  obtain⟨r,hc,v,g,rfl⟩:=B;unfold jq at g;exact⟨v.toNat,wC,by rw[hc,Int.toNat_of_nonneg g.1]⟩
 refine Vk (X:=cx) (f:=162) _ Tryz.func162 rfl ⟨rfl,rfl⟩ ?_;have o:¬(a:Int)<0:=wC
 have s:¬(b.length:Int)<(a:Int):=wC
 have h:=qz ((b.length:Int)-(a:Int)) ((b.length-a:Nat):Int);obtain⟨z,q⟩:∃z,z=b.length-a:=⟨_,rfl⟩;rw[<-q] at h;have w:¬(z:Int)<8:=wC
 simp[Tryz.f162,o,s,h,w];refine Run.loopThen (fun(k:Nat) e H=>k<=8/\qi e 0=some (.vsl false (qf b) b.length)/\qi e 1=some (.int .i64 a)/\qi e 9=some (.int .i64 ((k:Int)-1))/\H=[]/\∃v,jq v/\qi e 8=some (.int .u64 v)) (fun k=>k) 8 ?_ ?_
 .exact⟨wC,wE,wE,wE,rfl,0,by unfold jq;omega,wE⟩
 rintro k e H ⟨F,m,i,d,rfl,v,g,l⟩;by_cases n:k=0
 .subst n;simp[m,i,l,d];exact g
 .obtain⟨j,rfl⟩:∃j,k=j+1:=⟨k-1,wC⟩;replace d:qi e 9=some (.int .i64 (j:Int)):=by rw[d];congr 3;omega
  have G:¬(j:Int)<0:=wC
  have t:(0:Int)<=(j:Int):=wC
  obtain⟨y,E⟩:∃y,y=a+j:=⟨_,rfl⟩;have u:=qz ((a:Int)+(j:Int)) (y:Int);have A:=qz ((j:Int)-1) (((j:Nat):Int)-1);have p:y<b.length:=wC
  have x:(y:Int)<(b.length:Int):=wC
  have C:(qf b).drop y=.int .u8 (b[y].toNat:Int)::(qf b).drop (y+1):=by
   rw[jo (by simpa using p)];simp[qf]
  generalize b[y]=c at *;simp[m,i,l,d,t,u,A,x,C];exact⟨j,wC,wC,rfl,qdZ _⟩
theorem JGrow.trans{H T U:qe}{q:Nat}{m c b:Jm}(h:JGrow H T q m c)(a:JGrow T U q c b):JGrow H U q m b:=
 ⟨a.w,a.ok,h.ext.trans a.ext h.new,h.new.trans a.new h.ext.len,a.ds.trans h.ds,a.fs.trans h.fs,a.key.trans h.key,a.file.trans h.file,a.ft.trans h.ft,a.ne.trans h.ne,a.tl.trans h.tl,a.mn.trans h.mn,a.main.trans h.main,zJ h.bl a.bl⟩
theorem qda{H:qe}{q:Nat}{m:Jm}(h:JmW H q m){i:Nat}(hi:i∈m.names q):i<H.length:=by
 simp only[Jm.names,jC,jW] at hi;rcases hi with rfl|rfl|hi|hi
 .exact qx h.root
 .exact qx h.bytes
 .exact h.rowD.lt hi
 .exact h.rowF.lt hi
theorem qnW{p:Pr}:(KE p).length=p.name.length+1+p.value.length:=by unfold KE;simp;omega
theorem q2L[MaxL][TxtC]{H:qe}{q:Nat}{m:Jm}(h0:JmW H q m)(hk:m.Ok)(p:Pr)(kC:p.name.length<=300)(Js:p.value.length<=300)(kG:m.b.length+5000<=1000000)(vI:m.fi.length<1000)(bO:m.da.length<1000):
  ∃T o i,call cx 101 [.optr q 147 0,.agg (Enc.cells p)] H=some (.int .i64 (i:Nat),T)/\JGrow H T q m o/\i<o.da.length/\o.b.length<=m.b.length+(119+2*p.name.length+p.value.length)/\o.da.length<=m.da.length+1/\o.fi.length<=m.fi.length+1/\m.da.length<=o.da.length/\∀k,k∈o.da->k∈m.da\/k.cnt=0:=by
 suffices hs:∃r,call cx 101 [.optr q 147 0,.agg (Enc.cells p)] H=some r/\∃(i:Nat)(T:qe)(o:Jm),r=(.int .i64 (i:Nat),T)/\JGrow H T q m o/\i<o.da.length/\o.b.length<=m.b.length+(119+2*p.name.length+p.value.length)/\o.da.length<=m.da.length+1/\o.fi.length<=m.fi.length+1/\m.da.length<=o.da.length/\∀k,k∈o.da->k∈m.da\/k.cnt=0 by
  obtain⟨r,hc,a,T,o,rfl,g⟩:=hs;exact⟨T,o,a,hc,g⟩
 refine vx (X:=cx) (f:=101) _ Tryz.func101 rfl ⟨rfl,rfl⟩ ?_;obtain⟨name,am⟩:=ql (KE p)
 have hn:name.length<=1000:=by
  have:=qnW (p:=p);rw[am] at this;omega
 have YZ:name.length=p.name.length+1+p.value.length:=by rw[<-am];exact qnW
 have R:=qhy p wC wC;rw[am] at R;have aC:(Enc.cells p:List D)=[.str p.name,.str p.value]:=rfl;rw[aC] at R;obtain⟨H1,ax⟩:=ql (qr H [.str p.name,.str p.value]);have xb:=zL ax;have gb:=js ax;have h:=X5 h0 xb;have aI:JGrow H H1 q m m:=⟨h,hk,xb.mono (fun _ hi=>wU),NewL.refl _ _,rfl,rfl,rfl,rfl,rfl,rfl,rfl,rfl,rfl,qA _⟩;have r0:=h.root;have qE:=h.len;have c5:=jD h.c144
 have bb:qO Tryz.prog 135 m.dv=some (.int .i64 m.da.length):=by
  have zH:=Ja m.da;rcases h.rowD with⟨hv,Yv,_⟩|⟨ro,nn,hv,Q8,_,_⟩
  .rw[Yv] at zH;have:m.da.length=0:=(by simp at zH;omega);rw[hv,this];simp
  .have:nn=m.da.length:=by
    rw[zH] at Q8;simp at Q8;omega
   rw[hv,this];simp
 simp[-qd,-qn,-qr,-qO,-qJ,Tryz.f101,aC,ax,R,gb];obtain⟨pb,br⟩:∃x,x=H.length:=⟨_,rfl⟩;rw[<-br] at gb⊢;refine Run.loopThen (fun(i:Nat) e K=>i<=m.da.length/\qi e 0=some (.optr q 147 0)/\qi e 3=some (.optr pb 2 0)/\qi e 5=some (.str name)/\qi e 6=some (.int .i64 i)/\K=H1) (fun i=>m.da.length-i) 0 ?_ ?_
 .exact⟨vp _,wE,wE,wE,wE,rfl⟩
 rintro i e K ⟨hi,p0,p3,p5,ai,rfl⟩;by_cases qg:i<m.da.length
 .have qo:=zq qg;have hw:=qz ((i:Int)+1) ((i+1:Nat):Int);obtain⟨k,r,Ki,vF,vA,Zu,vk⟩:=qdc qg;have qQ:qt m.da≠[]:=fun e0=>by rw[e0] at vF;simp at vF
  obtain⟨ro,nn,S,vw,ZW,cp⟩:=h.rowD.own qQ
  have jh:nn=m.da.length:=by
   have:=Ja m.da;rw[this] at vw;simp at vw;omega
  have zH:(qt m.da).length=m.da.length*5:=by rw[vw,jh]
  rw[jh] at S;rw[S] at c5;by_cases ht:k.text=name
  .simp[-qd,-qn,-qr,-Kn.ea,p0,p3,p5,ai,r0,qE,c5,qo,ZW,zH,vF,ht];exact⟨i,K,⟨rfl,rfl⟩,m,aI,qg,wC,wC,wC,qA _,fun k h=>.inl h⟩
  .simp[-qd,-qn,-qr,-Kn.ea,p0,p3,p5,ai,r0,qE,c5,qo,hw,ZW,zH,vF,ht];exact⟨i+1,wC,wC,wC⟩
 .have qo:=zw qg;have bX:=hk.ds;have ce:=hk.ft;have jR:=hk.bl;obtain⟨qh,KX,xh,JH,rfl⟩:=qka m.key m.file (Sl.mk false name wE) wJ;unfold jq at JH;obtain⟨xn,rfl⟩:∃xn:Nat,xh=(xn:Int):=⟨xh.toNat,wC⟩;have bG:xn<18446744073709551616:=by omega
  replace KX:call cx 102 [.bool m.key,.agg (qf m.file.l),.vsl false (qf name) name.length] []=some (.int .u64 (xn:Int),[]):=KX;obtain⟨qp,ak,tb,cA,rfl⟩:=qzn xn 0 0 0 0 0 bG wC wC wC wC wC false name wC;replace ak:call cx 159 [.agg (.int .u64 (xn:Int)::VF [.int .u64 0,.vsl false (qf name) name.length])] []=some (.vsl false (qf tb) tb.length,[]):=ak;have ck:=qiL (64+name.length);obtain⟨K0,vB⟩:=ql (qr K (qf name));have g0:=js vB;obtain⟨K1,jx⟩:=ql (jS K0 [K.length])
  have x1:Ext [] K K1:=by
   refine⟨?_,fun j hj _=>?_⟩
   .rw[<-jx,QF,<-vB,jb];omega
   .rw[<-jx,V8 wG,<-vB,vv hj]
  have w1:=X5 h x1;obtain⟨K2,u,bg,w2,o2,x2,l2⟩:=qhO w1 hk tb wC wC;obtain⟨J,F⟩:∃x,x=({m with b:=m.b++tb,cs:=u}:Jm):=⟨_,rfl⟩;rw[<-F] at w2 o2;have bY:J.b.length=m.b.length+tb.length:=by rw[F];simp
  have n:J.da=m.da:=by rw[F]
  have G:J.dv=m.dv:=by rw[F]
  have t:J.cs=u:=by rw[F]
  have aA:J.ds=m.ds:=by rw[F]
  obtain⟨Q,Q2⟩:∃s,s=xn % m.ds:=⟨_,rfl⟩;have aL:Q<m.ds:=by rw[Q2];exact YA _ wC
  obtain⟨K3,b3,r,aY,hr,cg,w3,o3,x3,l3⟩:=qsE w2 o2 (v:=J.dv) (ks:=J.da) w2.rowD (fun k JO=>by
   rw[n] at JO;have:=(hk.da k JO).at_;omega) (by rw[n];omega) 288 m.b.length Q wC wC
  rw[G,show((288:Nat):Int)=288 from rfl] at aY;have bz:qd K2 q=some u:=by rw[<-t];exact w2.root
  have bC:u.length=147:=by rw[<-t];exact w2.len
  have aE:=jD w2.c48;have aa:=jD w2.c121;have ah:=jD w2.c144;rw[t,aA] at aE;rw[t] at aa;rw[t,G] at ah;obtain⟨_,O,dv,rfl,ci⟩:=w3.nums 138 wC wC;simp only[t] at O;have aV:=jD O;have bc:qd K3 q=some u:=by rw[<-t];exact w3.root
  have bm:∀C,qd (qn K3 q C) q=some C:=fun C=>zj (qx bc);obtain⟨mx,XG⟩:∃z:Nat,z=max dv r:=⟨_,rfl⟩
  have bP:(if(dv:Int)<(r:Int) then(r:Int) else(dv:Int))=(mx:Int):=by
   rw[XG];split<;>omega
  have aX:(if dv<r then(r:Int) else(dv:Int))=(mx:Int):=by
   rw[XG];split<;>omega
  have w4:=X6 w3 (i:=138) rfl (d:=.int .u64 (mx:Int)) ⟨mx,rfl,wC⟩;simp only[t] at w4;obtain⟨C4,Xj⟩:∃C,C=u.set 138 (.int .u64 (mx:Int)):=⟨_,rfl⟩;have aO:List.take 138 u++D.int .u64 (mx:Int)::List.drop 139 u=C4:=by rw[Xj];exact vr wC
  rw[<-Xj] at w4;have l4:C4.length=147:=w4.len;obtain⟨_,aJ,aq,rfl,bT⟩:=w4.nums 134 wC wC;have ae:=jD aJ;simp only at ae;have ag:=qdZ ((aq:Int)+1);unfold jq at ag;obtain⟨Z,hz⟩:∃z:Nat,IntKind.u64.wrap ((aq:Int)+1)=(z:Int):=⟨(IntKind.u64.wrap ((aq:Int)+1)).toNat,by rw[Int.toNat_of_nonneg ag.1]⟩;have w5:=X6 w4 (i:=134) rfl (d:=.int .u64 (Z:Int)) ⟨Z,rfl,wC⟩;simp only[QJ] at w5;obtain⟨W,Vi⟩:∃C,C=C4.set 134 (.int .u64 (Z:Int)):=⟨_,rfl⟩;have aP:List.take 134 C4++D.int .u64 (Z:Int)::List.drop 135 C4=W:=yH
  rw[<-Vi] at w5;have l5:W.length=147:=w5.len;have V:=jD w5.c144;simp only[G] at V;obtain⟨K5,kR⟩:=ql (qn K3 q W);rw[kR] at w5;have bH:qd K5 q=some W:=w5.root;obtain⟨K6,Qn⟩:=ql (qr K5 [.str name,.int .u64 (m.b.length:Nat),.int .i64 (Q:Nat),.int .i64 0,.vsl true [] 0]);have x6:=zL Qn;have w6:=X5 w5 x6;have g6:=js Qn;have bj:qd K6 q=some W:=w6.root;obtain⟨p6,aT⟩:=ql (K5.length);rw[aT] at g6;have ac:=w6.rowD;simp only[n,G] at ac;have N:=Ja m.da;simp only[Kn.size] at N;obtain⟨v',K7,L7,hA,aB,x7,n7⟩:=ac.append (P:=Tryz.prog) (st:=135) (xt:=135) (e:=204) (x:=.osl p6 5 0 1 5) (xs:=[.str name,.int .u64 (m.b.length:Nat),.int .i64 (Q:Nat),.int .i64 0,.vsl true [] 0]) (m:=1) wE wE (by simp[-qd,g6]) wE wC wE wC (by rw[N];simp[qF];omega) (by rw[N];simp[qF];omega);obtain⟨kn,Qm⟩:∃k:Kn,k=⟨name,m.b.length,Q,0,true,[]⟩:=⟨_,rfl⟩
  have aQ:qt (m.da++[kn])=qt m.da++[.str name,.int .u64 (m.b.length:Nat),.int .i64 (Q:Nat),.int .i64 0,.vsl true [] 0]:=by
   rw[qe8,Qm];rfl
  rw[<-aQ] at aB;have az:Ext J.Ld K6 K7:=x7;have w8:=q2g w6 kn (v:=v') (L:=L7) (by simp only[n];exact aB) az n7;simp only[n] at w8
  have bE:qd K7 q=some W:=az.get bj (by
   have:=(KN w6).2.1;exact this)
  obtain⟨r7,k7,aS,-,bu,cq⟩:=aB.own (by rw[aQ];simp);obtain⟨z7,bf⟩:∃z,z=(qt (m.da++[kn])).length:=⟨_,rfl⟩;rw[<-bf] at aS;have aH:r7<K7.length:=qx bu;subst aS;obtain⟨C8,aM⟩:∃C,C=W.set 144 (D.osl r7 z7 0 k7 5):=⟨_,rfl⟩;have aU:List.take 144 W++D.osl r7 z7 0 k7 5::List.drop 145 W=C8:=by rw[aM];exact vr wC
  rw[<-aM] at w8;have e1:=jD h.c51;have e2:=h.file;have bt:=zf (m.ds:Int) (m.ds:Int);have bN:¬(m.ds:Int)=0:=wC
  have aD:¬m.ds=0:=wC
  have bM:K2.length<=K3.length:=wC
  have bn:(xn:Int).tmod (m.ds:Int)=(Q:Int):=by
   rw[Q2,Int.tmod_eq_emod_of_nonneg (Int.natCast_nonneg _)];rfl
  have bA:=qz (Q:Int) (Q:Int);have cu:=zf (Q:Int) (Q:Int);have bK:List.set K0 K.length none=K1:=jx;have E:∀{A B:qe}{L:List Nat},Ext L A B->(∀i,i∈L->i∈m.names q)->Ext (m.names q) A B:=fun hh hm=>hh.mono hm;have y1:=E x1 (fun _ hi=>wU)
  have y2:=E x2 (fun i hi=>by
   simp only[jC,List.not_mem_nil,or_false] at hi;rcases hi with rfl|rfl
   .exact VS
   .exact KJ)
  have y3:=E x3 (fun i hi=>by
   have:J.bi=m.bi:=(by rw[F]);rw[List.mem_singleton.1 hi,this];exact KJ)
  have y5:Ext (m.names q) K3 K5:=kR▸E (Ext.set K3 q W) (fun i hi=>yB);have y6:=E x6 (fun _ hi=>wU)
  have y7:=E az (fun i hi=>by
   have:J.Ld=m.Ld:=(by rw[F]);rw[this] at hi;exact qh8 hi)
  have y8:=E (Ext.set K7 q C8) (fun i hi=>yB);have y:=(((((y1.trans y2 (NewL.refl _ _)).trans y3 (NewL.refl _ _)).trans y5 (NewL.refl _ _)).trans y6 (NewL.refl _ _)).trans y7 (NewL.refl _ _)).trans y8 (NewL.refl _ _)
  obtain⟨K8,m8,Kp,gr8,Yy,M,aN⟩:∃(K8:qe)(m8:Jm),qn K7 q C8=K8/\JGrow K K8 q m m8/\m8.b.length=m.b.length+tb.length/\m8.da=m.da++[kn]/\m8.fi=m.fi:=by
   refine⟨_,_,rfl,⟨w8,?_,y,?_,?_,?_,?_,?_,?_,?_,?_,?_,?_,?_⟩,?_,?_,?_⟩
   .exact{o3 with
     da:=fun k JO=>by
      rcases List.mem_append.1 JO with g|g
      .have z:=(hk.da k g).mono (show m.b.length<=b3.length from wC);exact⟨z.at_,by simp only[aA];exact z.slot,z.arr,z.nil,z.txt⟩
      .rw[List.mem_singleton.1 g,Qm];exact⟨wJ,by simp only[aA];exact aL,ArrOk.zero _,fun _=>rfl,by simp only;exact hn⟩
     cn:=fun k JO=>by
      rcases List.mem_append.1 JO with g|g
      .have:=hk.cn k g;simp only[F];exact this
      .rw[List.mem_singleton.1 g,Qm];exact vp _
     nda:=by simp only;rw[zo,List.length_singleton];omega}
   .intro i hi;have b1:J.bi=m.bi:=(by rw[F]);have b2:J.Ld=m.Ld:=(by rw[F]);have b4:J.Lf=m.Lf:=(by rw[F]);have bv:=x1.len;simp only[Jm.names,b1,jC,jW] at hi⊢;rcases hi with hi|hi|hi|hi
    .exact .inl (.inl hi)
    .exact .inl (.inr (.inl hi))
    rotate_left
    .exact .inl (.inr (.inr (.inr (by rw[<-b4];exact hi))))
    .rcases n7 i hi with g|g
     .exact .inl (.inr (.inr (.inl (by rw[<-b2];exact g))))
     .have:=x6.len;have ch:K5.length=K3.length:=(by rw[<-kR];simp[qn]);exact .inr wC
   all_goals first
    |(subst F;rfl)
    |(simp only;omega)
    |(simp only;rw[F])
    |(simp only;rw[zo,List.length_singleton];omega)
  have gx:=aI.trans gr8;obtain⟨K9,m9,a,aR,c,cj,cC,I,bo⟩:=q2m gr8.w gr8.ok p.name wC wC (by rw[aN];exact vI);obtain⟨U,bR⟩:∃z,z=a+32:=⟨_,rfl⟩;obtain⟨aF,bQ⟩:∃z,z=m.b.length+32:=⟨_,rfl⟩;have bV:=c.bl;have bI:=c.ok.bmax;obtain⟨v,hv,av⟩:=q3Z m9.b U wC bI;obtain⟨aW,cw,aw,aG,bq,bD,bJ,bZ⟩:=qaN c.w c.ok aF v wC;obtain⟨aZ,bU,au,ba,Y,bF,bp,bW⟩:=qaN bq bD U m.b.length wJ
  have bB:qd K8 pb=some [.str p.name,.str p.value]:=gr8.ext.get gb (fun hi=>by
   have:=qda h0 hi;omega)
  have e9:=c.w.root;have l9:=c.w.len;have c9:=jD c.w.c143;have y9:=c.w.bytes;have wA:=zf ((a:Int)+32) (U:Int);have bk:=qz (U:Int) (U:Int);have wB:=zf ((m.b.length:Int)+32) (aF:Int);have aK:=Y.root;have ao:=jD Y.c144;simp only at aK ao
  have ay:qt m9.da≠[]:=fun e0=>by
   have:=Ja m9.da;rw[e0,I,M] at this;simp at this
  obtain⟨ro,nn,S,vw,ZW,cB⟩:=Y.rowD.own ay;simp only at S vw
  have jh:nn=m.da.length+1:=by
   have g:=Ja m9.da;rw[g,I,M] at vw;simp at vw;omega
  rw[S,jh] at ao;have bh:∀x,qO Tryz.prog 135 (.osl ro x 0 (m.da.length+1) 5)=some (.int .i64 ((m.da.length:Int)+1)):=fun x=>by simp
  have wN:=qz (m.da.length:Int) (m.da.length:Int);simp[-qd,-qn,-qr,-qO,-qJ,-Kn.ea,p0,p3,p5,ai,r0,qE,c5,bb,qo,e1,e2,KX,vB,g0,bK,ak,bg,bz,bC,aE,bt,aD,bn,bA,ah,aa,aV,aY,bc,bm,aX,aO,l4,ae,hz,aP,l5,V,QJ,kR,bH,Qn,aT,hA,bE,aH,aU,Kp,bB,aR,e9,l9,c9,y9,av,wA,bk,wB,aw,au,aK,ao,bh,wN];dsimp only at aG ba;refine⟨m.da.length,aZ,⟨rfl,rfl⟩,_,(gx.trans c).trans ⟨Y,bF,?_,?_,rfl,rfl,rfl,rfl,rfl,rfl,rfl,rfl,rfl,?_⟩,?_,?_,?_,?_,?_,?_⟩
  .have z1:Ext (m9.names q) K9 aW:=bJ.mono fun i hi=>by rw[List.mem_singleton.1 hi];exact KJ
   have z2:Ext (m9.names q) aW aZ:=bp.mono fun i hi=>by rw[List.mem_singleton.1 hi];exact KJ
   exact z1.trans z2 (NewL.refl _ _)
  .exact NewL.refl _ _
  .simp only;omega
  .simp only;rw[I,M];simp
  .simp only;omega
  .simp only;rw[I,M];simp
  .simp only;rw[aN] at bo;omega
  .simp only;rw[I,M];simp
  .intro k aj;simp only at aj;rw[I,M] at aj;rcases List.mem_append.1 aj with g|g
   .exact .inl g
   .rw[List.mem_singleton.1 g,Qm];exact .inr rfl
theorem qnv[MaxL][TxtC](i:Nat)(hi:i<=1000):call cx 165 [.int .i64 i] []=some (.int .i64 (Jk i:Nat),[]):=by
 by_cases h:i<=6
 .have:i=0\/i=1\/i=2\/i=3\/i=4\/i=5\/i=6:=by omega
  rcases this with rfl|rfl|rfl|rfl|rfl|rfl|rfl<;>
  .refine qC Tryz.func165 rfl ⟨rfl,rfl⟩ ?_;simp[Tryz.f165,Jk]
   try decide
 .have c:(6:Int)<(i:Int):=by omega
  have b:¬(i:Int)<0:=wC
  have a:¬i<6:=wC
  have d:6<i:=wC
  refine qC Tryz.func165 rfl ⟨rfl,rfl⟩ ?_;simp[Tryz.f165,Jk,c,b,a]
theorem qiJ{c:Nat}{a:List Nat}{n:Nat}(h:ArrOk c a n):a.length<=n:=by
 cases b:a.length with
 |zero=>omega
 |succ j=>
  have d:=h.lo j b
  have:∀k,k<=vq k:=fun k=>by
   induction k with
   |zero=>exact qA _
   |succ k e=>
    have:=qjq (j:=k);omega
  have:=this j;omega
theorem qwY(k:Nat):vq k<=256*k:=by
 induction k with
 |zero=>exact qA _
 |succ k a=>
  have:=qht k;simp only[vq];omega
theorem qfo{H T:qe}{q:Nat}{m:Jm}{L:List Nat}(h:JmW H q m)(b:Ext L H T)(a:∀i,i∈m.names q->i∉L):JmW T q m:=
 {h with
  root:=b.get h.root (a _ VS)
  bytes:=b.get h.bytes (a _ KJ)
  rowD:=h.rowD.ext b (fun i hi=>a i (qh8 hi))
  rowF:=h.rowF.ext b (fun i hi=>a i (qo6 hi))}
theorem qur(H:qe)(i:Nat):Ext [i] H (jS H [i]):=⟨by rw[QF];exact qA _,fun j _ a=>V8 a⟩
theorem q3S(K:qe)(g:Bool)(b:List Nat)(a:Nat)(C:g=true->b=[])(S:b.length<=1000):
  ∃f c v T2 r,qJ Tryz.prog (qr K []) 98 98 (.osl K.length 0 0 0 1) (.vsl g (qP .u64 b) b.length)=some (f,c)/\qJ Tryz.prog (qr c [.int .u64 (a:Nat)]) 98 98 f (.osl c.length 1 0 1 1)=some (.osl r (b.length+1) 0 (b.length+1) 1,T2)/\qd T2 r=some (qP .u64 (b++[a]))/\Ext [] K T2/\K.length<=r/\v=r:=by
 have T:=Ext.new K [];have s:qd (qr K []) K.length=some []:=by rw[zF]
 have u:RowA (qr K []) 1 (.osl K.length 0 0 0 1) [] [K.length]:=RowA.of wE s
 obtain⟨f,c,o,O,F,w,E⟩:∃f c o,qJ Tryz.prog (qr K []) 98 98 (.osl K.length 0 0 0 1) (.vsl g (qP .u64 b) b.length)=some (f,c)/\RowA c 1 f (qP .u64 b) o/\Ext [K.length] (qr K []) c/\NewL [K.length] o (qr K []).length:=by
  by_cases p:b=[]
  .subst p;exact⟨.osl K.length 0 0 0 1,qr K [],[K.length],by simp[-qr,-qd,qP,s];exact qdl s,u,Ext.refl _ _,NewL.refl _ _⟩
  .have I:b.length≠0:=fun h=>p (List.length_eq_zero_iff.1 h)
   have H:g=false:=by
    cases g with
    |false=>rfl
    |true=>exact absurd (C rfl) p
   subst H;exact u.append (P:=Tryz.prog) (st:=98) (xt:=98) (e:=38) (x:=.vsl false (qP .u64 b) b.length) (xs:=qP .u64 b) (m:=b.length) wE wE (by simp[-qd]) wE I wE wC wM wM
 have B:qd (qr c [.int .u64 (a:Nat)]) c.length=some [.int .u64 (a:Nat)]:=by rw[zF]
 have R:=F.ext (Ext.new c [.int .u64 (a:Nat)]) (fun _ _=>wE);obtain⟨v,T2,G,d,j,k,t⟩:=R.append (P:=Tryz.prog) (st:=98) (xt:=98) (e:=38) (x:=.osl c.length 1 0 1 1) (xs:=[.int .u64 (a:Nat)]) (m:=1) wE wE (by simp[-qd,-qr,B]) wE wC wE wC wM wM;have e2:qP .u64 b++[.int .u64 (a:Nat)]=qP .u64 (b++[a]):=by rw[qki];rfl
 rw[e2] at j;obtain⟨r,n,rfl,A,M,J⟩:=j.own (by rw[<-e2];simp);rw[qkh] at A d;have Q:n=b.length+1:=by simp at A;omega
 subst Q;rw[zo,List.length_singleton] at d
 have y:∀i,i∈o->K.length<=i:=fun i hi=>by
  rcases E i hi with h|h
  .rw[List.mem_singleton.1 h];exact qA _
  .rw[jb] at h;omega
 have l:Ext [] K c:=by
  refine⟨by have:=w.len;rw[jb] at this;omega,fun i hi _=>?_⟩;rw[w.out i wW wG,vv hi]
 have N:Ext [] K T2:=by
  have z:=k.len;rw[jb] at z;refine⟨by have:=l.len;omega,fun i hi _=>?_⟩;have L:i<c.length:=vd hi l.len;rw[k.out i wW (fun hc=>by have:=y i hc;omega),vv L,l.out i hi wE]
 refine⟨f,c,r,T2,r,O,d,M,N,?_,rfl⟩;have q:r∈G:=by rw[J];simp
 rcases t r q with h|h
 .exact y r h
 .rw[jb] at h;have:=l.len;omega
theorem qsC[MaxL][TxtC]{H:qe}{q:Nat}{m:Jm}(h:JmW H q m)(hk:m.Ok)(L:Bool)(c:List Nat)(n a0 v:Nat)(zB:L=true->c=[])(ha:ArrOk m.b.length c n)(hn:n<=1000)(Y1:a0+8<=m.b.length)(_:v<18446744073709551616)(kG:m.b.length+5000<=1000000):
  ∃T k g z,call cx 106 [.optr q 147 0,.vsl L (qP .u64 c) c.length,.int .i64 n,.int .u64 a0,.int .u64 v] H=some (.tup [.vsl false (qP .u64 g) g.length,.int .i64 (z:Nat)],T)/\z<=256/\JGrow H T q m k/\ArrOk k.b.length g (n+1)/\k.b.length<=m.b.length+(24+8*Jk c.length)/\k.da=m.da/\k.fi=m.fi:=by
 suffices hs:∃r,call cx 106 [.optr q 147 0,.vsl L (qP .u64 c) c.length,.int .i64 n,.int .u64 a0,.int .u64 v] H=some r/\∃(T:qe)(k:Jm)(g:List Nat)(z:Nat),r=(.tup [.vsl false (qP .u64 g) g.length,.int .i64 (z:Nat)],T)/\z<=256/\JGrow H T q m k/\ArrOk k.b.length g (n+1)/\k.b.length<=m.b.length+(24+8*Jk c.length)/\k.da=m.da/\k.fi=m.fi by
  obtain⟨r,hc,T,k,g,z,rfl,h1⟩:=hs;exact⟨T,k,g,z,hc,h1⟩
 refine vx (X:=cx) (f:=106) _ Tryz.func106 rfl ⟨rfl,rfl⟩ ?_;have Zg:=qiJ ha;simp[-qd,-qn,-qr,-qO,-qJ,Tryz.f106];refine Run.loopThen (fun(i:Nat) e K=>i<=c.length/\qi e 0=some (.optr q 147 0)/\qi e 1=some (.vsl L (qP .u64 c) c.length)/\qi e 2=some (.int .i64 n)/\qi e 3=some (.int .u64 a0)/\qi e 4=some (.int .u64 v)/\qi e 12=some (.int .i64 (vq (i-1):Nat))/\qi e 13=some (.int .i64 (vq i:Nat))/\qi e 14=some (.int .i64 i)/\K=H) (fun i=>c.length-i) 0 ?_ ?_
 .exact⟨vp _,wE,wE,wE,wE,wE,by simp[vq],by simp[vq],wE,rfl⟩
 rintro i e K ⟨hi,p0,p1,p2,p3,p4,w,M,J,rfl⟩;by_cases qg:i<c.length
 .have qo:=zq qg;have hw:=qz ((i:Int)+1) ((i+1:Nat):Int);have hr:=qnv i wC;have h1:=qwY i;have h2:=qht i
  have zR:IntKind.i64.wrap ((vq i:Int)+(Jk i:Int))=((vq (i+1):Nat):Int):=by
   simp only[vq];rw[wrap_i64]<;>omega
  simp[-qd,-qn,-qr,p0,p1,p2,p3,p4,w,M,J,qo,hw,hr,zR];exact⟨i+1,wC,wC,wE,wE,wE⟩
 .have qo:=zw qg;have ZA:i=c.length:=by omega
  subst ZA;by_cases Kj:n=vq c.length
  .obtain⟨r,hr⟩:∃r,r=Jk c.length:=⟨_,rfl⟩;have aL:=qj6 c.length;have JK:=qht c.length;have V:=qnv c.length wC;rw[<-hr] at V;have e0:(n:Int)=(vq c.length:Int):=wC;obtain⟨zs,u⟩:∃z:List D,z=List.replicate r (.int .u64 0):=⟨_,rfl⟩;have Q1:zs.length=r:=(by rw[u];simp);obtain⟨qp,QQ,tb,aB,rfl⟩:=qzt 0 wC false zs (fun d hd=>by rw[u] at hd;rw[List.eq_of_mem_replicate hd];exact⟨0,rfl,wC⟩) wE wC wC;rw[Q1] at QQ aB;replace QQ:call cx 166 [.agg [.int .u64 0,.vsl false zs r]] []=some (.vsl false (qf tb) tb.length,[]):=QQ
   have av:8*(r:Int)<=(qF:Int)/\r<=qF:=by
    simp only[qF];omega
   have vK:∀x,x∈zs->idFree x=true:=fun d hd=>by
    rw[u] at hd;rw[List.eq_of_mem_replicate hd];rfl
   have Zt:idFree.idFreeL zs=true:=(by rw[Q0];exact List.all_eq_true.2 vK);have am:List.take r zs=zs:=(by rw[<-Q1];exact List.take_length);obtain⟨K0,vB⟩:=ql (qr K zs);have g0:=js vB;obtain⟨K1,jx⟩:=ql (jS K0 [K.length]);have aq:List.set K0 K.length none=K1:=jx
   have x1:Ext [] K K1:=by
    refine⟨?_,fun j E _=>?_⟩
    .rw[<-jx,QF,<-vB,jb];omega
    .rw[<-jx,V8 wG,<-vB,vv E]
   have ax:=hk.bmax;have w1:=X5 h x1;obtain⟨K2,Z,ac,w2,o2,x2,l2⟩:=qhO w1 hk tb wC wC;have r2:=w2.root;have U:=w2.len;obtain⟨_,s,A,rfl,ay⟩:=w2.nums 137 wC wC;simp only at r2 U s;have O:=jD s;have S:=qdZ ((A:Int)+1);unfold jq at S;obtain⟨N,hz⟩:∃z:Nat,IntKind.u64.wrap ((A:Int)+1)=(z:Int):=⟨(IntKind.u64.wrap ((A:Int)+1)).toNat,by rw[Int.toNat_of_nonneg S.1]⟩;have w5:=X6 w2 (i:=137) rfl (d:=.int .u64 (N:Int)) ⟨N,rfl,wC⟩;simp only at w5;obtain⟨C5,Vi⟩:∃C,C=Z.set 137 (.int .u64 (N:Int)):=⟨_,rfl⟩;have R:List.take 137 Z++D.int .u64 (N:Int)::List.drop 138 Z=C5:=yH;rw[<-Vi] at w5;obtain⟨K5,kR⟩:=ql (qn K2 q C5);rw[kR] at w5
   obtain⟨pa,aD,az⟩:∃pa,pa+8<=m.b.length/\((c.length=0/\pa=a0)\/(∃j a,c.length=j+1/\c[j]?=some a/\pa=a+16)):=by
    cases hl:c.length with
    |zero=>exact⟨a0,Y1,.inl ⟨rfl,rfl⟩⟩
    |succ j=>
     have G:j<c.length:=wC;have h9:=ha.at_ j c[j] (qM G);exact⟨c[j]+16,wC,.inr ⟨j,c[j],rfl,qM G,rfl⟩⟩
   obtain⟨m5,l⟩:∃x,x=({m with b:=m.b++tb,cs:=C5}:Jm):=⟨_,rfl⟩;rw[<-l] at w5;have o5:m5.Ok:=(by rw[l];exact{o2 with});have aI:m5.b.length=m.b.length+tb.length:=(by rw[l];simp);obtain⟨K6,b6,y,aJ,w6,o6,x6,l6⟩:=qaN w5 o5 pa m.b.length wC;obtain⟨d1,T1,d2,T2,o,ak,W,Y,xg,aM,-⟩:=q3S K6 L c m.b.length zB wC;obtain⟨aK,B⟩:=ql (qr T1 [.int .u64 (m.b.length:Nat)]);rw[B] at W;have w7:=X5 w6 xg;obtain⟨I,aF⟩:∃p,p=m.b.length+24:=⟨_,rfl⟩;obtain⟨T8,b8,t,Yy,w8,o8,x8,l8⟩:=qaN w7 o6 I v wJ;have aC:m5.bi<K6.length:=qx w6.bytes;have g8:qd T8 o=some (qP .u64 (c++[m.b.length])):=x8.get Y (by simp only[qdU];omega);have wl:=qz (c.length:Int) (c.length:Int)
   have ae:(qP .u64 (c++[m.b.length])).drop c.length=[.int .u64 (m.b.length:Nat)]:=by
    rw[qki];simp[qP]
   have au:(c.length:Int)<(c.length:Int)+1:=wC;have wb:=zf ((m.b.length:Int)+24) (I:Int);have ao:=zf (I:Int) (I:Int);have wz:IntKind.i64.wrap 0=0:=rfl;have aj:IntKind.u64.wrap 0=0:=rfl;obtain⟨T9,ah⟩:=ql (jS T8 [o]);have Q:List.set T8 o none=T9:=ah;dsimp only at Yy;have aE:b8.length=m.b.length+tb.length:=wC;have z1:Ext (m.names q) K K1:=x1.mono fun i hi=>by simp at hi
   have z2:Ext (m.names q) K1 K2:=x2.mono fun i hi=>by
    simp only[jC,List.not_mem_nil,or_false] at hi;rcases hi with rfl|rfl
    .exact VS
    .exact KJ
   have z5:Ext (m.names q) K2 K5:=kR▸(Ext.set K2 q C5).mono fun i hi=>by rw[List.mem_singleton.1 hi];exact VS
   have b5:m5.bi=m.bi:=(by rw[l]);have z6:Ext (m.names q) K5 K6:=x6.mono fun i hi=>by rw[List.mem_singleton.1 hi,b5];exact KJ
   have z7:Ext (m.names q) K6 T2:=xg.mono fun i hi=>by simp at hi
   have z8:Ext (m.names q) T2 T8:=x8.mono fun i hi=>by
    simp only[qdU] at hi;rw[hi,b5];exact KJ
   have z9:Ext [o] T8 T9:=ah▸qur T8 o;have y8:=((((z1.trans z2 (NewL.refl _ _)).trans z5 (NewL.refl _ _)).trans z6 (NewL.refl _ _)).trans z7 (NewL.refl _ _)).trans z8 (NewL.refl _ _)
   have aA:K.length<=o:=by
    have:=(((z1.trans z2 (NewL.refl _ _)).trans z5 (NewL.refl _ _)).trans z6 (NewL.refl _ _)).len;omega
   have y9:Ext (m.names q) K T9:=y8.trans z9 fun i hi=>.inr (by rw[List.mem_singleton.1 hi];exact aA)
   have w9:=qfo w8 z9 (fun i hi hc=>by
    have:=qda w6 hi;rw[List.mem_singleton.1 hc] at this;omega)
   have Zd:=ArrOk.new (Kj▸ha) (bl':=b8.length) (a:=m.b.length) wC wC;have zS:List.take (c.length+1) (qP .u64 (c++[m.b.length]))=qP .u64 (c++[m.b.length]):=qH wE
   have P:∃(T:qe)(k:Jm)(g:List Nat)(z:Nat),(((List.take (c.length+1) (qP .u64 (c++[m.b.length]))=qP .u64 g/\c.length+1=g.length)/\(1:Int)=z)/\T9=T)/\z<=256/\JGrow K T q m k/\ArrOk k.b.length g (vq c.length+1)/\k.b.length<=m.b.length+(24+8*Jk c.length)/\k.da=m.da/\k.fi=m.fi:=by
    refine⟨T9,_,c++[m.b.length],1,⟨⟨⟨zS,wE⟩,rfl⟩,rfl⟩,wC,⟨w9,o8,y9,?_,?_,?_,?_,?_,?_,?_,?_,?_,?_,?_⟩,Zd,?_,?_,?_⟩
    .subst l;exact NewL.refl _ _
    all_goals first
     |(subst l;rfl)
     |(simp only;omega)
   rcases az with⟨ag,rfl⟩|⟨j,a,E,F,XD⟩
   .have ea:c=[]:=List.length_eq_zero_iff.1 ag;have ez:((c.length:Int)==0)=true:=(by rw[ag];rfl);simp[-qd,-qn,-qr,-qJ,p0,p1,p2,p3,p4,w,M,J,qo,Kj,V,av,<-u,eq_true vK,Q1,vB,g0,QQ,Zt,am,aq,ac,r2,U,O,hz,R,kR,y,ak,B,W,Y,wl,au,ae,wb,wz,aj,ao,t,g8,Q,ez];exact P
   .have vI:L=false:=by
     cases L with
     |false=>rfl
     |true=>rw[zB rfl] at E;simp at E
    subst vI;have G:j<c.length:=wC
    have aa:(qP .u64 c).drop j=.int .u64 (a:Nat)::qP .u64 (c.drop (j+1)):=by
     rw[qes G];rw[qM G] at F;injection F with F;rw[F]
    have ea:c≠[]:=fun h0=>by rw[h0] at E;simp at E
    have ez:((c.length:Int)==0)=false:=(by simp[ea]);have e1:=qz ((c.length:Int)-1) (j:Int);have h9:=ha.at_ j a F;have e2:=zf ((a:Int)+16) (pa:Int);simp[-qd,-qn,-qr,-qJ,p0,p1,p2,p3,p4,w,M,J,qo,Kj,V,av,<-u,eq_true vK,Q1,vB,g0,QQ,Zt,am,aq,ac,r2,U,O,hz,R,kR,y,ak,B,W,Y,wl,au,ae,wb,wz,aj,ao,t,g8,Q,ez,G,aa,e1,e2];exact P
  .obtain⟨j,a,E,F,kj,aH,Yz,aw⟩:=ha.more Kj;have ax:=hk.bmax
   have vI:L=false:=by
    cases L with
    |false=>rfl
    |true=>rw[zB rfl] at E;simp at E
   subst vI;have G:j<c.length:=wC
   have aa:(qP .u64 c).drop j=.int .u64 (a:Nat)::qP .u64 (c.drop (j+1)):=by
    rw[qes G];rw[qM G] at F;injection F with F;rw[F]
   obtain⟨d,hd⟩:∃d,d=n-vq j:=⟨_,rfl⟩;obtain⟨T,b,ai,jR,w1,o1,x1,l1⟩:=qaN h hk (a+24+8*d) v wC;have e0:¬(n:Int)=(vq c.length:Int):=wC;have e1:=qz ((c.length:Int)-1) (j:Int);have e2:=zf ((a:Int)+24) ((a+24:Nat):Int);have Xa:vq (c.length-1)=vq j:=(by rw[E];rfl);have e3:=qz ((n:Int)-(vq j:Int)) (d:Int);have e4:=qz (8*(d:Int)) ((8*d:Nat):Int);have e5:=zf ((8*d:Nat):Int) ((8*d:Nat):Int);have e6:=zf (((a+24:Nat):Int)+((8*d:Nat):Int)) ((a+24+8*d:Nat):Int);have e7:=qz ((d:Int)+1) ((d+1:Nat):Int);rw[Xa] at w;simp[-qd,-qn,-qr,-Int.natCast_add,-Int.natCast_mul,p0,p1,p2,p3,p4,w,M,J,qo,e0,e1,e2,e3,e4,e5,e6,e7,ai,G,aa];have aG:=qht j;refine⟨T,_,c,d+1,⟨⟨⟨rfl,rfl⟩,rfl⟩,rfl⟩,wC,⟨w1,o1,x1.mono fun i hi=>by rw[List.mem_singleton.1 hi];exact KJ,NewL.refl _ _,rfl,rfl,rfl,rfl,rfl,rfl,rfl,rfl,rfl,?_⟩,?_,?_,rfl,rfl⟩
   .simp only;omega
   .simp only;rw[jR];exact aw
   .simp only;omega
theorem qsB{H:qe}{q:Nat}{m:Jm}(h:JmW H q m){n:Nat}(f:H.length<=n):∀x,x∈m.cs->closed n x=true:=by
 intro x hx;obtain⟨i,a⟩:=List.getElem?_of_mem hx
 have g:i<147:=by
  have:=(List.getElem?_eq_some_iff.1 a).1;rw[h.len] at this;exact this
 have row:∀{v:D}{cs:List D}{L:List Nat},RowA H 5 v cs L->closed n v=true:=fun d=>by
  rcases d with⟨b,_⟩|⟨r,k,b,_,c,_⟩
  .rw[b];simp[closed]
  .rw[b];have:=qx c;simp[closed];omega
 by_cases e:i<143
 .exact VU x (h.free i x e a)
 .have:i=143\/i=144\/i=145\/i=146:=by omega
  rcases this with rfl|rfl|rfl|rfl
  .rw[h.c143] at a;injection a with a;subst a;have:=qx h.bytes;simp[closed];omega
  .rw[h.c144] at a;injection a with a;subst a;exact row h.rowD
  .rw[h.c145] at a;injection a with a;subst a;exact row h.rowF
  .rw[h.c146] at a;injection a with a;subst a;exact VU _ xE
theorem q6A{d:Nat}{a:List Nat}{ne:Nat}(h:ArrW d a ne):a.length<=ne+1:=by
 obtain⟨n,c,b⟩:=h;exact zJ (qiJ b) c
theorem quO(K:qe)(b:Bool)(a:List Nat)(k:b=true->a=[])(z:a.length<=1000):
  ∃r n T,qJ Tryz.prog (qr K []) 98 98 (.osl K.length 0 0 0 1) (.vsl b (qP .u64 a) a.length)=some (.osl r n 0 n 1,T)/\Ext [] K T/\r<T.length:=by
 have d:qd (qr K []) K.length=some []:=by rw[zF]
 have o:RowA (qr K []) 1 (.osl K.length 0 0 0 1) [] [K.length]:=RowA.of wE d;by_cases c:a=[]
 .subst c;exact⟨K.length,0,qr K [],by simp[-qr,-qd,qP,d];exact qdl d,Ext.new K [],wW⟩
 .have s:a.length≠0:=fun h=>c (List.length_eq_zero_iff.1 h)
  have q:b=false:=by
   cases b with
   |false=>rfl
   |true=>exact absurd (k rfl) c
  subst q;obtain⟨y,p,A,v,l,f,w⟩:=o.append (P:=Tryz.prog) (st:=98) (xt:=98) (e:=38) (x:=.vsl false (qP .u64 a) a.length) (xs:=qP .u64 a) (m:=a.length) wE wE (by simp[-qd]) wE s wE wC wM wM;obtain⟨r,j,g,t,u,_⟩:=l.own yW;rw[t,Nat.mul_one] at g;refine⟨r,j,p,by rw[v,g],⟨by have:=f.len;rw[jb] at this;omega,fun i hi _=>?_⟩,qx u⟩;rw[f.out i wW wG,vv hi]
theorem q5h(K:qe){b:List UInt8}{bi:Nat}(d:qd K bi=some (qf b))(c:b≠[])(w:b.length<=1000000):
  ∃r n T,qJ Tryz.prog (qr K []) 63 63 (.osl K.length 0 0 0 1) (.osl bi b.length 0 b.length 1)=some (.osl r n 0 n 1,T)/\Ext [] K T/\r<T.length:=by
 have l:qd (qr K []) K.length=some []:=by rw[zF]
 have k:RowA (qr K []) 1 (.osl K.length 0 0 0 1) [] [K.length]:=RowA.of wE l;have s:qd (qr K []) bi=some (qf b):=by rw[vv (qx d)];exact d
 have g:b.length≠0:=fun h=>c (List.length_eq_zero_iff.1 h);obtain⟨y,t,v,q,u,f,z⟩:=k.append (P:=Tryz.prog) (st:=63) (xt:=63) (e:=5) (x:=.osl bi b.length 0 b.length 1) (xs:=qf b) (m:=b.length) wE wE (by simp[-qd,-qr,s]) wE g wE wC wM wM;obtain⟨r,j,a,o,p,_⟩:=u.own yW;rw[o,Nat.mul_one] at a;refine⟨r,j,t,by rw[q,a],⟨by have:=f.len;rw[jb] at this;omega,fun i hi _=>?_⟩,qx p⟩;rw[f.out i wW wG,vv hi]
theorem q6G{H:qe}{x:D}{cs:List D}{L:List Nat}(h:RowA H 5 x cs L)(u:cs.length<=5000):
  ∃d T,qJ Tryz.prog H 135 135 (.vsl true [] 0) x=some (d,T)/\Ext [] H T/\(d=.vsl true [] 0\/∃r z k,d=.osl r z 0 k 5/\r<T.length):=by
 rcases h with⟨rfl,rfl,rfl⟩|⟨r,n,rfl,a,b,rfl⟩
 .exact⟨.vsl true [] 0,H,wE,Ext.refl _ _,.inl rfl⟩
 .by_cases c:n=0
  .subst c;have g:cs=[]:=List.length_eq_zero_iff.1 wC;subst g;exact⟨.vsl true [] 0,H,by simp[-qd,b],Ext.refl _ _,.inl rfl⟩
  .obtain⟨d,T,v,o,s,q,w⟩:=(RowA.nil H 5).append (P:=Tryz.prog) (st:=135) (xt:=135) (e:=204) (x:=.osl r cs.length 0 n 5) (xs:=cs) (m:=n) wE wE (by simp[-qd,b,a];exact qH wC) wE c a wC wM wM;obtain⟨l,j,f,t,i,_⟩:=s.own (by intro p;have:=congrArg List.length p;simp at this;rw[this] at a;simp at a;omega);exact⟨d,T,o,q,.inr ⟨l,_,j,f,qx i⟩⟩
theorem qdm(H:qe)(a b:List D):qn (qr H a) H.length b=qr H b:=by simp[qn,qr]
theorem q2M[MaxL][TxtC]{H:qe}{q:Nat}{m:Jm}(h:JmW H q m)(o:m.Ok):
  ∃T p,call cx 100 [.optr q 147 0] H=some (.optr p 147 0,T)/\Ext [] H T:=by
 suffices hs:∃r,call cx 100 [.optr q 147 0] H=some r/\∃(T:qe)(p:Nat),r=(.optr p 147 0,T)/\Ext [] H T by
  obtain⟨r,hc,T,p,rfl,h1⟩:=hs;exact⟨T,p,hc,h1⟩
 refine vx (X:=cx) (f:=100) _ Tryz.func100 rfl ⟨rfl,rfl⟩ ?_;have r0:=h.root;have qE:=h.len;have ai:=jD h.c143;have d:=jD h.c144;have zS:List.take 147 m.cs=m.cs:=qH wC;have ag:∀n,H.length<=n->(∀x,x∈m.cs->closed n x=true)=True:=fun n hn=>eq_true (qsB h hn);have az:∀a,H.length<=(qr H a).length:=fun a=>by rw[jb];omega
 have jR:=o.bl;have aB:=o.bmax;have aJ:m.b≠[]:=fun Z=>by rw[Z] at jR;simp at jR;have:=o.ft;omega
 obtain⟨K0,vB⟩:=ql (qr H m.cs);have x0:=zL vB;have aM:=js vB;have w0:=X5 h x0;have q1:qd (qr K0 []) q=some m.cs:=by rw[vv (qx w0.root)];exact w0.root
 obtain⟨a1,n1,K1,aK,x1,aL⟩:=q5h K0 w0.bytes aJ aB;have p1:qd K1 H.length=some m.cs:=x1.get aM wE;obtain⟨N,V5⟩:∃C,C=m.cs.set 143 (.osl a1 n1 0 n1 1):=⟨_,rfl⟩;have s1:List.take 143 m.cs++D.osl a1 n1 0 n1 1::List.drop 144 m.cs=N:=by rw[V5];exact vr wC
 have l1:N.length=147:=by rw[V5,vH];exact qE
 obtain⟨K2,jw⟩:=ql (qn K1 H.length N);have hq:q<H.length:=qx h.root;have y2:=vZ jw
 have z2:Ext [] H K2:=⟨by have:=x0.len;have:=x1.len;have:=y2.len;omega,fun i hi _=>by
  rw[y2.out i (by have:=x0.len;have:=x1.len;omega) wG,x1.out i (by have:=x0.len;omega) wE,x0.out i hi wE]⟩
 have w2:=X5 h z2;have q3:qd (qr K2 []) q=some m.cs:=by rw[vv (qx w2.root)];exact w2.root
 have av:=jD h.c146;obtain⟨a3,n3,K3,aG,x3,aA⟩:=quO K2 m.mn m.main o.mn (by have:=q6A o.main;have:=o.ne;omega);have p2:=vV jw p1;have p3:qd K3 H.length=some N:=x3.get p2 wE;obtain⟨W,JR⟩:∃C,C=N.set 146 (.osl a3 n3 0 n3 1):=⟨_,rfl⟩;have s3:List.take 146 N++D.osl a3 n3 0 n3 1::List.drop 147 N=W:=by rw[JR];exact vr wC
 have l3:W.length=147:=by rw[JR,vH];exact l1
 obtain⟨K4,Xi⟩:=ql (qn K3 H.length W);have p4:=vV Xi p3;obtain⟨V,Vi⟩:∃C,C=W.set 144 (.vsl true [] 0):=⟨_,rfl⟩;have s5:List.take 144 W++D.vsl true [] 0::List.drop 145 W=V:=yH
 have l5:V.length=147:=by rw[Vi,vH];exact l3
 obtain⟨K5,kR⟩:=ql (qn K4 H.length V);have p5:=vV kR p4;obtain⟨C6,t⟩:∃C,C=V.set 145 (.vsl true [] 0):=⟨_,rfl⟩;have s6:List.take 145 V++D.vsl true [] 0::List.drop 146 V=C6:=by rw[t];exact vr wC
 have l6:C6.length=147:=by rw[t,vH];exact l5
 obtain⟨K6,Qn⟩:=ql (qn K5 H.length C6);have p6:=vV Qn p5
 have own:∀{A B:qe}{C:List D},Ext [] H A->qn A H.length C=B->Ext [] H B:=fun{A B C} ha hb=>by
  have y:=vZ hb;exact⟨by have:=ha.len;have:=y.len;omega,fun i hi _=>by rw[y.out i (by have:=ha.len;omega) wG,ha.out i hi wE]⟩
 have z6:Ext [] H K6:=own (own (own (z2.trans x3 (NewL.refl _ _)) Xi) kR) Qn;have aO:=o.nda;simp[-qd,-qn,-qr,-qO,-qJ,Tryz.f100,r0,qE,zS,ag,az,zF,qdm,ai,vB,q1,aK,p1,aL,s1,l1,jw,q3,av,aG,p3,aA,s3,l3,Xi,p4,s5,kR,p5,l5,s6,Qn];refine Run.loopThen (fun(i:Nat) e K=>i<=m.da.length/\qi e 0=some (.optr q 147 0)/\qi e 3=some (.optr H.length 147 0)/\qi e 4=some (.int .i64 i)/\Ext [] H K/\∃C v cs L,qd K H.length=some C/\C.length=147/\C[144]?=some v/\C[145]?=some (.vsl true [] 0)/\RowA K 5 v cs L/\cs.length=i*5/\(∀j,j∈L->H.length<j)) (fun i=>m.da.length-i) 0 ?_ ?_
 .exact⟨vp _,wE,wE,wE,z6,C6,.vsl true [] 0,[],[],p6,l6,by rw[t,List.getElem?_set_ne wC,Vi,List.getElem?_set_self wC],by rw[t,List.getElem?_set_self wC],RowA.nil _ _,rfl,wE⟩
 rintro i e K ⟨hi,k0,k3,k4,zK,C,v,cs,L,gC,lC,ah,G,hR,M,O⟩;have wK:=X5 h zK;have rK:=wK.root;by_cases qg:i<m.da.length
 .have qo:=zq qg;have hw:=qz ((i:Int)+1) ((i+1:Nat):Int);obtain⟨k,r,Ki,vF,vA,Zu,vk⟩:=qdc qg;have qQ:qt m.da≠[]:=fun e0=>by rw[e0] at vF;simp at vF
  obtain⟨ro,nn,ay,vw,ZW,aT⟩:=wK.rowD.own qQ
  have jh:nn=m.da.length:=by
   have:=Ja m.da;rw[this] at vw;simp at vw;omega
  have zH:(qt m.da).length=m.da.length*5:=by rw[vw,jh]
  rw[jh] at ay;rw[ay] at d;have ao:=o.da k Ki;have aU:=o.cn k Ki;have Qm:=o.ne;have aR:=qiJ ao.arr;obtain⟨Ka,QU⟩:=ql (qr K [.str k.text,.int .u64 (k.at_:Nat),.int .i64 (k.slot:Nat),.int .i64 (k.cnt:Nat),.vsl k.nil (qP .u64 k.arrs) k.arrs.length]);have xa:=zL QU;have ta:=js QU;have aC:qd (qr Ka []) K.length=some [.str k.text,.int .u64 (k.at_:Nat),.int .i64 (k.slot:Nat),.int .i64 (k.cnt:Nat),.vsl k.nil (qP .u64 k.arrs) k.arrs.length]:=by rw[vv (qx ta)];exact ta
  obtain⟨ab,nb,Kb,aN,xb,aI⟩:=quO Ka k.nil k.arrs ao.nil wC;have tb:qd Kb K.length=some [.str k.text,.int .u64 (k.at_:Nat),.int .i64 (k.slot:Nat),.int .i64 (k.cnt:Nat),.vsl k.nil (qP .u64 k.arrs) k.arrs.length]:=xb.get ta wE;obtain⟨s,J⟩:∃c:List D,c=[.str k.text,.int .u64 (k.at_:Nat),.int .i64 (k.slot:Nat),.int .i64 (k.cnt:Nat),.osl ab nb 0 nb 1]:=⟨_,rfl⟩;obtain⟨Kc,Zh⟩:=ql (qn Kb K.length s);have tc:=vV Zh tb;have yc:=vZ Zh;have aW:H.length<K.length:=qx gC;have pC:qd Kc H.length=some C:=yc.get (xb.get (xa.get gC wE) wE) wG;have Ju:=jD ah;have g:s.length=5:=by rw[J];rfl
  have aj:List.take 5 s=s:=qH wC;obtain⟨Kd,Q⟩:=ql (qr Kc s);have xd:=zL Q;have td:=js Q;obtain⟨pc,ac⟩:∃p,p=Kc.length:=⟨_,rfl⟩
  have aQ:(∀x,x∈s->closed pc x=true)=True:=eq_true (fun x hx=>by
   have Yz:ab<pc:=(by have:=yc.len;omega);rw[J] at hx;simp only[jC,List.not_mem_nil,or_false] at hx;rcases hx with rfl|rfl|rfl|rfl|rfl
   .rfl
   .rfl
   .rfl
   .rfl
   .simp[closed];exact Yz)
  rw[<-ac] at td
  have ak:Kc≠[]:=fun Z=>by
   have:=qx tc;rw[Z] at this;simp at this
  have rd:=(((hR.ext xa (fun _ _=>wE)).ext xb (fun _ _=>wE)).ext yc (fun j I hc=>by
   have:=hR.lt I;rw[List.mem_singleton.1 hc] at this;omega)).ext xd (fun _ _=>wE)
  obtain⟨v',R,L',aE,ae,xe,ne⟩:=rd.append (P:=Tryz.prog) (st:=135) (xt:=135) (e:=204) (x:=.osl pc 5 0 1 5) (xs:=s) (m:=1) wE wE (by simp[-qd,td,g,aj]) wE wC (by rw[g]) wC (by rw[M];simp[qF];omega) (by rw[M];simp[qF];omega)
  have am:cs++s≠[]:=fun Z=>by
   have:=congrArg List.length Z;simp at this;rw[this.2] at g;simp at g
  obtain⟨re,je,ax,aV,jF,aS⟩:=ae.own am;obtain⟨ze,aD⟩:∃z,z=(cs++s).length:=⟨_,rfl⟩;rw[<-aD] at ax;have aa:re<R.length:=qx jF;subst ax;have pD:qd Kd H.length=some C:=xd.get pC wE;have pE:qd R H.length=some C:=xe.get pD (fun hc=>Nat.lt_irrefl _ (O _ hc));obtain⟨Y,w⟩:∃Y,Y=C.set 144 (D.osl re ze 0 je 5):=⟨_,rfl⟩;have aw:List.take 144 C++D.osl re ze 0 je 5::List.drop 145 C=Y:=by rw[w];exact vr wC
  obtain⟨Kf,u⟩:=ql (qn R H.length Y);simp[-qd,-qn,-qr,-qJ,-Kn.ea,k0,k3,k4,rK,qE,d,qo,hw,ZW,zH,vF,zF,qdm,QU,aC,aN,tb,aI,<-J,Zh,tc,pC,lC,Ju,g,aj,<-ac,Q,ak,aE,pE,aa,aw,u];have U:H.length<R.length:=qx pE
  have zE:Ext [] H R:=by
   refine⟨wC,fun j I _=>?_⟩;have e1:=zK.len;have e2:=xa.len;have e3:=xb.len;have e4:=yc.len;have e5:=xd.len;rw[xe.out j wC (fun hc=>by have:=O j hc;omega),xd.out j wC wE,yc.out j wC wG,xb.out j wC wE,xa.out j wC wE,zK.out j I wE]
  have aq:∀j,j∈L'->H.length<j:=fun j I=>by
   rcases ne j I with h1|h1
   .exact O j h1
   .have:=qx pD;omega
  have rf:=ae.ext (u▸Ext.set R H.length Y:Ext [H.length] R Kf) (fun j I hc=>by
   have:=aq j I;rw[List.mem_singleton.1 hc] at this;omega)
  exact⟨i+1,wC,wC,rfl,own zE u,Y,by rw[<-u];exact zj U,by rw[w,vH];exact lC,_,by rw[w];exact List.getElem?_set_self wC,by rw[w,List.getElem?_set_ne wC];exact G,cs++s,L',rf,by rw[zo,M,g];omega,aq⟩
 .have qo:=zw qg
  have l:qO Tryz.prog 135 m.dv=some (.int .i64 m.da.length):=by
   have zH:=Ja m.da;rcases h.rowD with⟨hv,Yv,_⟩|⟨ro,nn,hv,Q8,_,_⟩
   .rw[Yv] at zH;have:m.da.length=0:=(by simp at zH;omega);rw[hv,this];simp
   .have:nn=m.da.length:=by
     rw[zH] at Q8;simp at Q8;omega
    rw[hv,this];simp
  have E:=jD h.c145;have F:=jD G;have aP:=o.nfi;obtain⟨dv,Kg,au,xg,aF⟩:=q6G wK.rowF (by rw[Ja];simp;omega);have pg:qd Kg H.length=some C:=xg.get gC wE;obtain⟨Cg,aH⟩:∃X,X=C.set 145 dv:=⟨_,rfl⟩;have sg:List.take 145 C++dv::List.drop 146 C=Cg:=by rw[aH];exact vr wC
  obtain⟨Kh,S⟩:=ql (qn Kg H.length Cg);have zh:Ext [] H Kh:=own (zK.trans xg (NewL.refl _ _)) S;rcases aF with rfl|⟨r,z,k,rfl,hr⟩
  .simp[-qd,-qn,-qr,-qO,-qJ,k0,k3,k4,rK,qE,d,E,F,qo,l,gC,lC,au,pg,sg,S];exact zh
  .simp[-qd,-qn,-qr,-qO,-qJ,k0,k3,k4,rK,qE,d,E,F,qo,l,gC,lC,au,pg,sg,S,hr];exact zh
theorem qk7[MaxL][TxtC]{H:qe}{q:Nat}{m:Jm}(h:JmW H q m):call cx 57 [.optr q 147 0] H=some (.int .u64 (m.tl:Nat),H):=by
 refine vx (X:=cx) (f:=57) (fun r=>r=(.int .u64 (m.tl:Nat),H)) Tryz.func57 rfl ⟨rfl,rfl⟩ ?_|>.elim fun r a=>by rw[a.1,a.2]
 have b:=h.root;have d:=h.len;have c:=jD h.c128;simp[-qd,-qn,-qr,Tryz.f57,b,d,c]
theorem q3I(v0 v1:Nat)(st:Int)(ids:List UInt8)(a:List D)(e d b:Nat)(c:JE a):idFree.idFreeL (Kk v0 v1 st ids a e d b)=true:=by
 rw[Q0];unfold Kk;have:=qew c;simp only[Va,List.all_append,this];simp[idFree]
theorem q2b{H:qe}{q:Nat}{m:Jm}(h:JmW H q m):∃(ids:List UInt8)(e:List D)(o r g:Nat),ids.length=64/\JE e/\e.length=20/\o<4294967296/\r<4294967296/\g<18446744073709551616/\(∀i,i<20->e[i]?=m.cs[119+i]?)/\List.take 90 (List.drop 52 m.cs)=Kk 2 (if m.key then 4 else 0) 1 ids e o r g:=by
 have P:=h.len;have A:=jD h.c52;have C:=jD h.c53;have B:=jD h.c54;obtain⟨a,b,c,d,k⟩:=h.ids;obtain⟨o,n,O⟩:=h.c139;obtain⟨r,v,E⟩:=h.c140;obtain⟨_,s,g,rfl,F⟩:=h.c141;have u:=jD n;have t:=jD v;have j:=jD s;obtain⟨e,w⟩:∃e,e=List.take 20 (List.drop 119 m.cs):=⟨_,rfl⟩
 have z:List.drop 55 m.cs=List.take 64 (List.drop 55 m.cs)++List.drop 119 m.cs:=by
  have:=(Zy 64 (List.drop 55 m.cs)).symm
  rwa [kz] at this
 have p:List.drop 119 m.cs=e++List.drop 139 m.cs:=by
  have:=(Zy 20 (List.drop 119 m.cs)).symm;rw[kz] at this;rw[w];exact this
 have G:e.length=20:=by rw[w,jc,vg,P];rfl
 have J:=a.h;have I:=b.h;have K:=c.h;have L:=d.h;refine⟨a.l++(b.l++(c.l++d.l)),e,o,r,g,by simp[J,I,K,L],fun x hx=>?_,G,O,E,F,fun i hi=>by rw[w,List.getElem?_take_of_lt hi,Qa],?_⟩
 .obtain⟨i,f⟩:=List.getElem?_of_mem hx
  have hi:i<20:=by
   have:=(List.getElem?_eq_some_iff.1 f).1;omega
  rw[w] at f;rw[List.getElem?_take_of_lt hi,Qa] at f;obtain⟨y,M,Q⟩:=h.nums (119+i) wC wC;rw[M] at f;injection f with f;exact f▸Q
 .have N:List.drop 52 m.cs=Kk 2 (if m.key then 4 else 0) 1 (a.l++(b.l++(c.l++d.l))) e o r g++List.drop 142 m.cs:=by
   rw[A,C,B,z,k,p,u,t,j];unfold Kk;cases m.key<;>simp[qf]
  rw[N];exact List.take_left' (by unfold Kk;simp[G,J,I,K,L])
theorem q38{a r:List UInt8}{key:Bool}{b:List D}{z ds fs f ne n:Nat}(d:HdB 1 (if key then 4 else 0) b a)(n0:b[0]?=some (.int .u64 272))(n1:b[1]?=some (.int .u64 (z:Nat)))(n2:b[2]?=some (.int .u64 288))(n3:b[3]?=some (.int .u64 (16*ds:Nat)))(n4:b[4]?=some (.int .u64 (f:Nat)))(n5:b[5]?=some (.int .u64 (16*fs:Nat)))(q:b[8]?=some (.int .u64 (ne:Nat)))
  (J:1<=ds) (H:1<=fs) (C:f=288+16*ds+16) (y:(a++r).length=n) (F:f+16*fs<=n) (G:n % 8=0) (I:z=n-272) (E:n<1000001):vf (a++r)=0/\(qG (a++r)).ents=ne:=by
 have A:=d.len
 have c:∀(i v:Nat),i<20->b[i]?=some (.int .u64 (v:Int))->(qG (a++r)).g i=v:=fun i v hi x=>by
  rw[qtz _ wC,<-d.n i v hi x];unfold qT;rw[List.drop_append_of_le_length wC,List.take_append_of_le_length xA]
 have k:=c 0 272 wC n0;have e:=c 1 _ wC n1;have t:=c 2 288 wC n2;have w:=c 3 _ wC n3;have p:=c 4 _ wC n4;have u:=c 5 _ wC n5;have o:=c 8 _ wC q;refine⟨?_,o⟩
 have l:(qG (a++r)).incompat=if key then 4 else 0:=by
  rw[<-d.inc];show Ji (a++r) 12=_;unfold Ji;rw[List.drop_append_of_le_length wC,List.take_append_of_le_length xA]
 have st:(qG (a++r)).state=1:=by
  have h:(((a++r).getD 16 0).toNat:Int)=1:=by
   rw[jy,vD wC,<-jy,d.st];rfl
  show((a++r).getD 16 0).toNat=1;omega
 have s:qeF .u32 ((qG (a++r)).incompat:Nat) 4=0:=by
  rw[l];cases key<;>rfl
 have m:(a++r).take 8=signL:=by rw[List.take_append_of_le_length wC,d.sign]
 have B:(qG (a++r)).endN=n:=by
  unfold HdP.endN;rw[k,e,if_pos wC];omega
 have j:(qG (a++r)).endC=true:=by
  unfold HdP.endC;rw[k,e,decide_eq_true wC]
 unfold vf;rw[y,if_neg wC,if_neg (by rw[m];simp)];unfold hdC;rw[if_neg (by rw[s];simp),if_neg (by rw[st];omega),k,e,t,w,p,u,B,j,if_neg wC,if_neg wE,if_neg]
 .unfold qb4;rw[if_neg wC,if_neg wC,if_neg wC]
 .unfold qb4;rw[if_neg wC,if_neg wC,if_neg wC];simp
theorem q2i[MaxL][TxtC]{H:qe}{q:Nat}{m:Jm}(h:JmW H q m)(A:m.Ok):
  ∃T s,call cx 28 [.optr q 147 0,.int .i64 1] H=some (.vsl false (qf s) s.length,T)/\Ext [] H T/\s.length=m.b.length/\vf s=0/\(qG s).ents=m.ne:=by
 suffices hs:∃r,call cx 28 [.optr q 147 0,.int .i64 1] H=some r/\∃(T:qe)(s:List UInt8),r=(.vsl false (qf s) s.length,T)/\Ext [] H T/\s.length=m.b.length/\vf s=0/\(qG s).ents=m.ne by
  obtain⟨r,hc,T,s,rfl,w⟩:=hs;exact⟨T,s,hc,w⟩
 refine vx (X:=cx) (f:=28) _ Tryz.func28 rfl ⟨rfl,rfl⟩ ?_;have r0:=h.root;have qE:=h.len;obtain⟨G,t⟩:∃c,c=List.take 90 (List.drop 52 m.cs):=⟨_,rfl⟩;have W:G.length=90:=by rw[t,jc,vg,qE];rfl
 have au:List.take 90 G=G:=qH wC;have M:∀n,H.length<=n->(∀x,x∈G->closed n x=true)=True:=fun n hn=>eq_true (fun x hx=>qsB h hn x (by rw[t] at hx;exact Zz (QX hx)));have ac:∀a,H.length<=(qr H a).length:=fun a=>by rw[jb];omega
 have hq:q<H.length:=qx h.root;have R:=jD h.c143;obtain⟨_,J,dp,rfl,aj⟩:=h.c142;have U:=jD J;have jR:=A.bl;have ax:=A.bmax;have aw:=A.ft;obtain⟨Q,jI⟩:∃C,C=G.set 2 (.int .i64 1):=⟨_,rfl⟩;have s2:List.take 2 G++D.int .i64 1::List.drop 3 G=Q:=by rw[jI];exact vr wC
 have l2:Q.length=90:=by rw[jI,vH];exact W
 obtain⟨z,hz⟩:∃z,z=m.b.length-272:=⟨_,rfl⟩;have w1:=qz ((m.b.length:Int)-272) (z:Int);have w2:=zf (z:Int) (z:Int);obtain⟨E,JR⟩:∃C,C=Q.set 68 (.int .u64 (z:Nat)):=⟨_,rfl⟩;have s3:List.take 68 Q++D.int .u64 (z:Nat)::List.drop 69 Q=E:=by rw[JR];exact vr wC
 have l3:E.length=90:=by rw[JR,vH];exact l2
 have t3:List.take 90 E=E:=qH wC;have gq:∀a,qd (qr H a) q=some m.cs:=fun a=>by rw[vv hq];exact r0
 have N:(272:Int)<=(m.b.length:Int):=wC
 have F:272<m.b.length:=wC
 obtain⟨ids,V,v2,v3,v4,QS,XE,zB,jE,ak,ag,qR,hH⟩:=q2b h
 have v:JE (V.set 1 (.int .u64 (z:Nat))):=fun d hd=>by
  rcases qc9 hd with w|w
  .exact XE d w
  .exact⟨z,w,wC⟩
 have y:E=Kk 2 (if m.key then 4 else 0) 1 ids (V.set 1 (.int .u64 (z:Nat))) v2 v3 v4:=by
  rw[JR,jI,t,hH];unfold Kk;simp[QS,zB]
 obtain⟨_,u,o,hB,rfl⟩:=q39 2 (if m.key then 4 else 0) 1 ids (V.set 1 (.int .u64 (z:Nat))) v2 v3 v4 dp wC (by split<;>omega) QS v (by rw[vH];exact zB) jE ak ag aj;have I:=hB.len;rw[<-y] at u;have ah:idFree.idFreeL E=true:=by rw[y];exact q3I _ _ _ _ _ _ _ _ v
 replace u:call cx 60 [.agg E,.int .u64 dp] []=some (.osl 0 272 0 272 1,[some (qf o)]):=u;obtain⟨K1,jx⟩:=ql (qr H E);obtain⟨K,jw⟩:∃T:qe,K1++[some (qf o)]=T:=⟨_,rfl⟩;have B:qr K1 (qf o)=K:=jw;have t1:=js jx;have q1:qd K1 q=some m.cs:=by rw[<-jx];exact gq _
 have x1:=zL jx;have x2:=zL B;have g:=x1.trans x2 (NewL.refl _ _);have q2:qd K q=some m.cs:=g.get r0 wE;have b2:qd K m.bi=some (qf m.b):=g.get h.bytes wE;obtain⟨p1,kC⟩:∃p,p=K1.length:=⟨_,rfl⟩;have g1:qd K p1=some (qf o):=by rw[<-B,kC,zF]
 have O:RowA K 1 (.osl p1 272 0 272 1) (qf o) [p1]:=by
  have:=RowA.of (H:=K) (k:=1) (n:=272) (cs:=qf o) (by simp[I]) g1;rw[qaH,I] at this;exact this
 have ao:((qf m.b).drop 272).length=z:=wG
 obtain⟨d,T,L,hA,hR,hX,hN⟩:=O.append (P:=Tryz.prog) (st:=63) (xt:=63) (e:=5) (x:=.osl m.bi m.b.length 272 z 1) (xs:=(qf m.b).drop 272) (m:=z) wE wE (by have ht:List.take z (List.drop 272 (qf m.b))=List.drop 272 (qf m.b):=qH wC;have hb:272+z<=m.b.length:=wC;simp[-qd,b2,ht,hb]) wE wC (by rw[ao];omega) wC wM wM;have Y:qf o++(qf m.b).drop 272=qf (o++m.b.drop 272):=wV
 rw[Y] at hR;have Z:(o++m.b.drop 272).length=m.b.length:=by simp[I];omega
 obtain⟨S,hS⟩:∃S,S=o++m.b.drop 272:=⟨_,rfl⟩;rw[<-hS] at hR Z;obtain⟨r,j,rfl,hj,ae,hL⟩:=hR.own (by intro h0;have:=congrArg List.length h0;simp at this;rw[this] at Z;simp at Z;omega);rw[qaH,Nat.mul_one] at hj;subst hj;rw[qaH] at hA;simp[-qd,-qn,-qr,-qJ,Tryz.f28,r0,qE,zF,qdm,<-t,W,M,ac,R,U,s2,l2,w1,w2,s3,l3,t3,gq,ah,u,N,F,<-hz,jx,jw,t1,q1,q2,<-kC,hA,ae]
 have av:H.length<=r:=by
  rcases hN r (by rw[hL];simp) with w|w
  .rw[List.mem_singleton.1 w,kC];exact x1.len
  .have:=g.len;omega
 have aq:H.length<=p1:=by rw[kC];exact x1.len
 have zc:=qur T r;have aa:=A.ds;have am:=A.fs;have l:∀i,i<20->i≠1->(V.set 1 (.int .u64 (z:Nat)))[i]?=m.cs[119+i]?:=fun i hi hn=>by rw[List.getElem?_set_ne (Ne.symm hn),qR i hi]
 have ai:(V.set 1 (.int .u64 (z:Nat)))[1]?=some (.int .u64 (z:Nat)):=by rw[List.getElem?_set_self wC]
 have Xb:=q38 (r:=m.b.drop 272) (key:=m.key) hB ((l 0 wC wC).trans h.c119) ai ((l 2 wC wC).trans h.c121) ((l 3 wC wC).trans h.c122) ((l 4 wC wC).trans h.c123) ((l 5 wC wC).trans h.c124) ((l 8 wC wC).trans h.c127) aa.1 am.1 A.ft (n:=m.b.length) (by rw[<-hS];exact Z) A.bl A.bmod wC wC;rw[<-hS] at Xb;refine⟨_,S,⟨⟨rfl,rfl⟩,rfl⟩,⟨?_,fun i hi _=>?_⟩,Z,Xb⟩
 .have e1:=g.len;have e2:=hX.len;have e3:=zc.len;exact zJ e1 (zJ e2 e3)
 .have e1:=g.len;have e2:=hX.len;have e4:=zc.out i wC wG;have e5:=hX.out i wC wG;have e6:=g.out i hi wE;exact e4.trans (e5.trans e6)
theorem q1Y{H:qe}{q:Nat}{m:Jm}(h:JmW H q m)(v:Nat)(f:v<18446744073709551616):JmW (qn H q (m.cs.set 127 (.int .u64 (v:Nat)))) q {m with cs:=(m.cs.set 127 (.int .u64 (v:Nat))),ne:=v}:=by
 obtain⟨u,s,o⟩:=KN h;have l:127<m.cs.length:=xL
 have d:∀{j:Nat}{x:D},127≠j->m.cs[j]?=some x->(m.cs.set 127 (.int .u64 (v:Nat)))[j]?=some x:=fun i hx=>qb5 i hx
 exact{h with
  root:=zj (qx h.root)
  len:=xJ
  file:=xI
  ids:=by
   obtain⟨a,b,c,e,p⟩:=h.ids;refine⟨a,b,c,e,?_⟩;simp only;rw[List.drop_set,if_neg wC,List.take_set_of_le wC];exact p
  c48:=d wC h.c48
  c49:=d wC h.c49
  c50:=d wC h.c50
  c51:=d wC h.c51
  c52:=d wC h.c52
  c53:=d wC h.c53
  c54:=d wC h.c54
  c119:=d wC h.c119
  c121:=d wC h.c121
  c122:=d wC h.c122
  c123:=d wC h.c123
  c124:=d wC h.c124
  c127:=yA
  c128:=d wC h.c128
  c143:=d wC h.c143
  c144:=d wC h.c144
  c145:=d wC h.c145
  c146:=d wC h.c146
  nums:=fun j t r=>by
   by_cases n:127=j
   .subst n;exact⟨_,yA,v,rfl,f⟩
   .obtain⟨x,hx,g⟩:=h.nums j t r;exact⟨x,d n hx,g⟩
  c139:=by obtain⟨v,f,k⟩:=h.c139;exact⟨v,d wC f,k⟩
  c140:=by obtain⟨v,f,k⟩:=h.c140;exact⟨v,d wC f,k⟩
  c141:=yY
  c142:=yZ
  free:=qcs h.free (fun _=>rfl)
  bytes:=yK
  rowD:=h.rowD.ext (Ext.set H q _) (fun j i e=>s yC)
  rowF:=h.rowF.ext (Ext.set H q _) (fun j i e=>o yC)}
theorem q1W{H:qe}{q:Nat}{m:Jm}(h:JmW H q m)(v:Nat)(f:v<18446744073709551616):JmW (qn H q (m.cs.set 128 (.int .u64 (v:Nat)))) q {m with cs:=(m.cs.set 128 (.int .u64 (v:Nat))),tl:=v}:=by
 obtain⟨u,s,o⟩:=KN h;have l:128<m.cs.length:=xL
 have d:∀{j:Nat}{x:D},128≠j->m.cs[j]?=some x->(m.cs.set 128 (.int .u64 (v:Nat)))[j]?=some x:=fun i hx=>qb5 i hx
 exact{h with
  root:=zj (qx h.root)
  len:=xJ
  file:=xI
  ids:=by
   obtain⟨a,b,c,e,p⟩:=h.ids;refine⟨a,b,c,e,?_⟩;simp only;rw[List.drop_set,if_neg wC,List.take_set_of_le wC];exact p
  c48:=d wC h.c48
  c49:=d wC h.c49
  c50:=d wC h.c50
  c51:=d wC h.c51
  c52:=d wC h.c52
  c53:=d wC h.c53
  c54:=d wC h.c54
  c119:=d wC h.c119
  c121:=d wC h.c121
  c122:=d wC h.c122
  c123:=d wC h.c123
  c124:=d wC h.c124
  c127:=d wC h.c127
  c128:=yA
  c143:=d wC h.c143
  c144:=d wC h.c144
  c145:=d wC h.c145
  c146:=d wC h.c146
  nums:=fun j t r=>by
   by_cases n:128=j
   .subst n;exact⟨_,yA,v,rfl,f⟩
   .obtain⟨x,hx,g⟩:=h.nums j t r;exact⟨x,d n hx,g⟩
  c139:=by obtain⟨v,f,k⟩:=h.c139;exact⟨v,d wC f,k⟩
  c140:=by obtain⟨v,f,k⟩:=h.c140;exact⟨v,d wC f,k⟩
  c141:=yY
  c142:=yZ
  free:=qcs h.free (fun _=>rfl)
  bytes:=yK
  rowD:=h.rowD.ext (Ext.set H q _) (fun j i e=>s yC)
  rowF:=h.rowF.ext (Ext.set H q _) (fun j i e=>o yC)}
theorem q1V{H:qe}{q:Nat}{m:Jm}(h:JmW H q m)(v:Nat)(i:v<4294967296):JmW (qn H q (m.cs.set 139 (.int .u32 (v:Nat)))) q {m with cs:=(m.cs.set 139 (.int .u32 (v:Nat)))}:=by
 obtain⟨s,o,k⟩:=KN h;have r:139<m.cs.length:=xL
 have d:∀{j:Nat}{x:D},139≠j->m.cs[j]?=some x->(m.cs.set 139 (.int .u32 (v:Nat)))[j]?=some x:=fun g hx=>qb5 g hx
 exact{h with
  root:=zj (qx h.root)
  len:=xJ
  file:=xI
  ids:=by
   obtain⟨a,b,c,e,l⟩:=h.ids;refine⟨a,b,c,e,?_⟩;simp only;rw[List.drop_set,if_neg wC,List.take_set_of_le wC];exact l
  c48:=d wC h.c48
  c49:=d wC h.c49
  c50:=d wC h.c50
  c51:=d wC h.c51
  c52:=d wC h.c52
  c53:=d wC h.c53
  c54:=d wC h.c54
  c119:=d wC h.c119
  c121:=d wC h.c121
  c122:=d wC h.c122
  c123:=d wC h.c123
  c124:=d wC h.c124
  c127:=d wC h.c127
  c128:=d wC h.c128
  c143:=d wC h.c143
  c144:=d wC h.c144
  c145:=d wC h.c145
  c146:=d wC h.c146
  nums:=fun j p n=>by
   obtain⟨x,hx,f⟩:=h.nums j p n;exact⟨x,d wC hx,f⟩
  c139:=⟨v,by simp only;rw[List.getElem?_set_self r],i⟩
  c140:=by obtain⟨v,i,t⟩:=h.c140;exact⟨v,d wC i,t⟩
  c141:=ya
  c142:=yb
  free:=qcs h.free (fun _=>rfl)
  bytes:=by rw[zV s];exact h.bytes
  rowD:=h.rowD.ext (Ext.set H q _) (fun j g e=>o xX)
  rowF:=h.rowF.ext (Ext.set H q _) (fun j g e=>k xX)}
theorem q1U{H:qe}{q:Nat}{m:Jm}(h:JmW H q m)(v:Nat)(i:v<4294967296):JmW (qn H q (m.cs.set 140 (.int .u32 (v:Nat)))) q {m with cs:=(m.cs.set 140 (.int .u32 (v:Nat)))}:=by
 obtain⟨s,o,k⟩:=KN h;have r:140<m.cs.length:=xL
 have d:∀{j:Nat}{x:D},140≠j->m.cs[j]?=some x->(m.cs.set 140 (.int .u32 (v:Nat)))[j]?=some x:=fun g hx=>qb5 g hx
 exact{h with
  root:=zj (qx h.root)
  len:=xJ
  file:=xI
  ids:=by
   obtain⟨a,b,c,e,l⟩:=h.ids;refine⟨a,b,c,e,?_⟩;simp only;rw[List.drop_set,if_neg wC,List.take_set_of_le wC];exact l
  c48:=d wC h.c48
  c49:=d wC h.c49
  c50:=d wC h.c50
  c51:=d wC h.c51
  c52:=d wC h.c52
  c53:=d wC h.c53
  c54:=d wC h.c54
  c119:=d wC h.c119
  c121:=d wC h.c121
  c122:=d wC h.c122
  c123:=d wC h.c123
  c124:=d wC h.c124
  c127:=d wC h.c127
  c128:=d wC h.c128
  c143:=d wC h.c143
  c144:=d wC h.c144
  c145:=d wC h.c145
  c146:=d wC h.c146
  nums:=fun j p n=>by
   obtain⟨x,hx,f⟩:=h.nums j p n;exact⟨x,d wC hx,f⟩
  c139:=by obtain⟨v,i,t⟩:=h.c139;exact⟨v,d wC i,t⟩
  c140:=⟨v,by simp only;rw[List.getElem?_set_self r],i⟩
  c141:=ya
  c142:=yb
  free:=qcs h.free (fun _=>rfl)
  bytes:=by rw[zV s];exact h.bytes
  rowD:=h.rowD.ext (Ext.set H q _) (fun j g e=>o xX)
  rowF:=h.rowF.ext (Ext.set H q _) (fun j g e=>k xX)}
theorem q1Z{H:qe}{q:Nat}{m:Jm}(h:JmW H q m)(d:List Nat):JmW (qn H q (m.cs.set 146 (.vsl false (qP .u64 d) d.length))) q {m with cs:=(m.cs.set 146 (.vsl false (qP .u64 d) d.length)),mn:=false,main:=d}:=by
 obtain⟨u,r,n⟩:=KN h;have t:146<m.cs.length:=xL
 have f:∀{j:Nat}{x:D},146≠j->m.cs[j]?=some x->(m.cs.set 146 (.vsl false (qP .u64 d) d.length))[j]?=some x:=fun g hx=>qb5 g hx
 exact{h with
  root:=zj (qx h.root)
  len:=xJ
  file:=xI
  ids:=by
   obtain⟨a,b,c,e,o⟩:=h.ids;refine⟨a,b,c,e,?_⟩;simp only;rw[List.drop_set,if_neg wC,List.take_set_of_le wC];exact o
  c48:=f wC h.c48
  c49:=f wC h.c49
  c50:=f wC h.c50
  c51:=f wC h.c51
  c52:=f wC h.c52
  c53:=f wC h.c53
  c54:=f wC h.c54
  c119:=f wC h.c119
  c121:=f wC h.c121
  c122:=f wC h.c122
  c123:=f wC h.c123
  c124:=f wC h.c124
  c127:=f wC h.c127
  c128:=f wC h.c128
  c143:=f wC h.c143
  c144:=f wC h.c144
  c145:=f wC h.c145
  c146:=by simp only;rw[List.getElem?_set_self t]
  nums:=fun j s p=>by
   obtain⟨x,hx,i⟩:=h.nums j s p;exact⟨x,f wC hx,i⟩
  c139:=by obtain⟨v,k,l⟩:=h.c139;exact⟨v,f wC k,l⟩
  c140:=by obtain⟨v,k,l⟩:=h.c140;exact⟨v,f wC k,l⟩
  c141:=by obtain⟨x,hx,i⟩:=h.c141;exact⟨x,f wC hx,i⟩
  c142:=by obtain⟨x,hx,i⟩:=h.c142;exact⟨x,f wC hx,i⟩
  free:=qcs h.free (fun hi=>wC)
  bytes:=yK
  rowD:=h.rowD.ext (Ext.set H q _) (fun j g e=>r xX)
  rowF:=h.rowF.ext (Ext.set H q _) (fun j g e=>n xX)}
theorem q2e{H:qe}{q:Nat}{m:Jm}(h:JmW H q m)(o:ID):JmW (qn H q (List.take 87 m.cs++(qf o.l++List.drop 103 m.cs))) q {m with cs:=(List.take 87 m.cs++(qf o.l++List.drop 103 m.cs))}:=by
 obtain⟨B,A,z⟩:=KN h;have n:(List.take 87 m.cs).length=87:=by rw[jc,h.len];rfl
 have f:∀{j:Nat}{x:D},j<87\/103<=j->m.cs[j]?=some x->(List.take 87 m.cs++(qf o.l++List.drop 103 m.cs))[j]?=some x:=fun{j x} k hx=>by
  rcases k with k|k
  .rw[vD (by rw[n];exact k),List.getElem?_take_of_lt k,hx]
  .rw[jl (by rw[n];omega),n,jl (by rw[qaH,o.h];omega),qaH,o.h,Qa,show 103+(j-87-16)=j from wC,hx]
 exact{h with
  root:=zj (qx h.root)
  len:=by simp only[zo,jc,vg,qaH,o.h,h.len];rfl
  file:=by simp only;rw[List.take_append_of_le_length (by rw[jc,h.len];omega),List.take_take];exact h.file
  ids:=by
   obtain⟨a,b,c,e,g⟩:=h.ids;have t:=a.h;have w:=b.h;have E:=c.h;have le:=e.h;refine⟨a,b,o,e,?_⟩
   have C:List.drop 55 (List.take 87 m.cs)=qf a.l++qf b.l:=by
    have:=congrArg (List.take 32) g;rw[List.take_take] at this;rw[List.drop_take,show 87-55=min 32 64 from rfl,this];simp[Zk,t,w,qH]
   have e2:List.take 16 (List.drop 103 m.cs)=qf e.l:=by
    have:=congrArg (List.drop 48) g;rw[List.drop_take,kz] at this;rw[show 16=64-48 from rfl,show 103=55+48 from rfl,this];simp[jd,t,w,E,List.drop_of_length_le]
   simp only;have n:(List.take 87 m.cs).length=87:=(by rw[jc,h.len];rfl);rw[List.drop_append_of_le_length wC,C]
   have F:List.take 64 ((qf a.l++qf b.l)++(qf o.l++List.drop 103 m.cs))=(qf a.l++qf b.l)++(qf o.l++List.take 16 (List.drop 103 m.cs)):=by
    simp[Zk,t,w,o.h,qH]
   rw[F,e2,jX]
  c48:=f wC h.c48
  c49:=f wC h.c49
  c50:=f wC h.c50
  c51:=f wC h.c51
  c52:=f wC h.c52
  c53:=f wC h.c53
  c54:=f wC h.c54
  c119:=f wC h.c119
  c121:=f wC h.c121
  c122:=f wC h.c122
  c123:=f wC h.c123
  c124:=f wC h.c124
  c127:=f wC h.c127
  c128:=f wC h.c128
  c143:=f wC h.c143
  c144:=f wC h.c144
  c145:=f wC h.c145
  c146:=f wC h.c146
  nums:=fun j r y=>by
   obtain⟨x,hx,p⟩:=h.nums j r y;exact⟨x,f wC hx,p⟩
  c139:=by obtain⟨v,s,u⟩:=h.c139;exact⟨v,f wC s,u⟩
  c140:=by obtain⟨v,s,u⟩:=h.c140;exact⟨v,f wC s,u⟩
  c141:=by obtain⟨x,hx,p⟩:=h.c141;exact⟨x,f wC hx,p⟩
  c142:=by obtain⟨x,hx,p⟩:=h.c142;exact⟨x,f wC hx,p⟩
  free:=fun i d hi g=>by
   simp only at g;by_cases r:i<87
   .rw[vD (by rw[n];exact r),List.getElem?_take_of_lt r] at g;exact h.free i d hi g
   .rw[jl (by rw[n];omega),n] at g;by_cases y:i<103
    .rw[vD (by rw[qaH,o.h];omega)] at g;obtain⟨c,_,rfl⟩:=List.mem_map.1 (j7 g);rfl
    .rw[jl (by rw[qaH,o.h];omega),qaH,o.h,Qa] at g;exact h.free i d hi (by rw[show i=103+(i-87-16) from wC];exact g)
  bytes:=by rw[zV B];exact h.bytes
  rowD:=h.rowD.ext (Ext.set H q _) (fun j k e=>A (by rw[<-List.mem_singleton.1 e];exact k))
  rowF:=h.rowF.ext (Ext.set H q _) (fun j k e=>z (by rw[<-List.mem_singleton.1 e];exact k))}
theorem XR:∀(l:List Kn)(j:Nat)(k:Kn),j<l.length->qt (l.set j k)=List.take (j*5) (qt l)++(Enc.cells k++List.drop (j*5+5) (qt l))
 |[],j,k,h=>by simp at h
 |a::l,0,k,_=>by
  have b:(Enc.cells a).length=5:=rfl;simp only[List.set_cons_zero,Nat.zero_mul,List.take_zero,QW,J3];show Enc.cells k++qt l=Enc.cells k++List.drop 5 (Enc.cells a++qt l);rw[VD b]
 |a::l,j+1,k,h=>by
  have b:(Enc.cells a).length=5:=rfl;have c:=XR l j k wQ;simp only[List.set_cons_succ];show Enc.cells a++qt (l.set j k)=List.take ((j+1)*5) (Enc.cells a++qt l)++(Enc.cells k++List.drop ((j+1)*5+5) (Enc.cells a++qt l));rw[c,Zk,jd,b,qH (l:=Enc.cells a) wC,List.drop_of_length_le (l:=Enc.cells a) wC,show(j+1)*5-5=j*5 from wC,show(j+1)*5+5-5=j*5+5 from wC];simp
theorem q1X{H:qe}{q:Nat}{m:Jm}(h:JmW H q m){j:Nat}(k:Kn){r:Nat}(c:m.Ld=[r])(g:m.dv=.osl r (m.da.length*5) 0 m.da.length 5)(l:(qd H r).isSome=true):JmW (qn H r (qt (m.da.set j k))) q {m with da:=m.da.set j k}:=by
 obtain⟨o,d,n⟩:=KN h;have a:=h.nodup;unfold Jm.names at a;simp only[List.nodup_cons,jC,jW,not_or,List.nodup_append] at a;obtain⟨n1,n2,n3,n4,n5⟩:=a;rw[c] at d n2 n5;obtain⟨ds,b⟩:=Option.isSome_iff_exists.1 l;have f:(qt (m.da.set j k)).length=m.da.length*5:=by rw[Ja,vH];rfl
 exact{h with
  root:=by rw[zV (fun e=>d (by rw[e];simp))];exact h.root
  bytes:=by rw[zV (fun e=>n2.1 (by rw[e];simp))];exact h.bytes
  rowD:=.inr ⟨r,m.da.length,by simp only;rw[f];exact g,by rw[f],zj (qx b),c⟩
  rowF:=h.rowF.ext (Ext.set H r _) (fun i hi e=>n5 r wE i hi (List.mem_singleton.1 e).symm)}
theorem qfZ{H:qe}{r n:Nat}{cs xs:List D}{t e:TypeId}{x:D}(g:qd H r=some cs)(f:Tryz.prog.underlying t=some (.slice e))(i:qw Tryz.prog e=1)(d:bytesOf Tryz.prog e<=100)(a:(VG Tryz.prog e 0).isSome=true)(j:qcL Tryz.prog H e t x=some (xs,n))(b:xs.length=n){c:Nat}(hc:cs.length=c)(h:c+n<=1000000):
  qJ Tryz.prog H t t (.osl r c 0 c 1) x=some (.osl r (c+n) 0 (c+n) 1,qn H r (cs++xs)):=by
 obtain⟨z,a⟩:=Option.isSome_iff_exists.1 a;have k:(c+n)*bytesOf Tryz.prog e<=1000000*100:=Nat.mul_le_mul h d;unfold qJ;simp only[f,j,a,g,i];rw[if_pos ⟨hc,trivial,Nat.mul_one _,xV,xV⟩,b]
theorem q2Z(K:qe)(f:Bool)(w:List Nat)(a k:Nat)(v:a<=w.length)(u:w.length<=1000):
  ∃d T2 h,qJ Tryz.prog (qr K []) 23 23 (.osl K.length 0 0 0 1) (.vsl f (List.take a (qP .i64 w)) a)=some (.osl K.length a 0 a 1,d)/\qJ Tryz.prog d 23 23 (.osl K.length a 0 a 1) (.vsl false [.int .i64 (k:Nat)] 1)=some (.osl K.length (a+1) 0 (a+1) 1,T2)/\qJ Tryz.prog T2 23 23 (.osl K.length (a+1) 0 (a+1) 1) (.vsl f (List.drop a (qP .i64 w)) (w.length-a))=some (.osl K.length (w.length+1) 0 (w.length+1) 1,h)/\qd h K.length=some (qP .i64 (w.take a++k::w.drop a))/\Ext [] K h/\d.length=K.length+1:=by
 have m:qd (qr K []) K.length=some []:=by rw[zF]
 have r:(List.take a (qP .i64 w)).length=a:=wG
 have s:(List.drop a (qP .i64 w)).length=w.length-a:=wE
 have j:=qfZ (t:=23) (e:=3) (n:=a) (x:=.vsl f (List.take a (qP .i64 w)) a) (xs:=List.take a (qP .i64 w)) m wE wE wE wE wG r rfl (c:=0) wC;simp only[J3,QW] at j;obtain⟨d,b⟩:=ql (qn (qr K []) K.length (List.take a (qP .i64 w)));rw[b] at j;have o:qd d K.length=some (List.take a (qP .i64 w)):=by rw[<-b];exact zj (qx m)
 have n1:d.length=K.length+1:=by rw[<-b,kL,jb]
 have l:=qfZ (t:=23) (e:=3) (n:=1) (x:=.vsl false [.int .i64 (k:Nat)] 1) (xs:=[.int .i64 (k:Nat)]) o wE wE wE wE wE rfl r wC;obtain⟨T2,g⟩:=ql (qn d K.length (List.take a (qP .i64 w)++[.int .i64 (k:Nat)]));rw[g] at l;have q:=vV g o;have p:=qfZ (t:=23) (e:=3) (n:=w.length-a) (x:=.vsl f (List.drop a (qP .i64 w)) (w.length-a)) (xs:=List.drop a (qP .i64 w)) q wE wE wE wE wE s (c:=a+1) (by simp<;>omega) wC;rw[show a+1+(w.length-a)=w.length+1 from wC] at p;refine⟨d,T2,_,j,l,p,?_,⟨?_,fun i hi _=>?_⟩,n1⟩
 .rw[zj (qx q)];simp[qP]
 .rw[kL,<-g,kL];omega
 .rw[zV wC,<-g,zV wC,<-b,zV wC,vv hi]
theorem qmC{H:qe}{x y:D}{l:List Nat}(hx:j9 H 9 x=some (y,l)):∀{a:List D},a.all idFree=true->kc (j9 H 9) (a++[x])=some (a++[y],l)
 |[],_=>by simp only[QW,kc,hx,J4]
 |d::a,b=>by
  simp only[Va,zY] at b
  have c:j9 H 9 d=some (d,[]):=by
   unfold j9;rw[if_pos b.1]
  simp only[Qc,kc,c,qmC hx b.2,QW]
theorem qzo(K:qe){C:D}{a:List D}{d:List Nat}(E:RowA K 1 C a d)(L:a.all idFree=true)(s:List UInt8)(V:a.length<=100):
  ∃r b q,qJ Tryz.prog (qr (qr K (qf s)) [.osl K.length s.length 0 s.length 1]) 199 199 C (.osl (qr K (qf s)).length 1 0 1 1)=some (.osl r (a.length+1) 0 (a.length+1) 1,b)/\ZK b r=some q/\qd q r=some (a++[.vsl false (qf s) s.length])/\Ext d K q/\(r∈d\/K.length<=r):=by
 obtain⟨o,j⟩:=ql (qr K (qf s));have n2:o.length=K.length+1:=by rw[<-j,jb]
 have A:=zL j;have M:=js j;rw[j];obtain⟨F,l⟩:=ql (qr o [.osl K.length s.length 0 s.length 1]);have k:=zL l;have N:=js l;rw[l];have J:=(E.ext A (fun _ _=>wE)).ext k (fun _ _=>wE);obtain⟨S,b,R,O,B,u,n4⟩:=J.append (P:=Tryz.prog) (st:=199) (xt:=199) (e:=63) (x:=.osl o.length 1 0 1 1) (xs:=[.osl K.length s.length 0 s.length 1]) (m:=1) wE wE (by simp[-qd,N]) wE wC wE wC wM wM;obtain⟨r,n,rfl,p,g,z⟩:=B.own wE;have Q:n=a.length+1:=by simp at p;omega
 subst Q;have f:∀i,i∈d->i<K.length:=fun i hi=>E.lt hi;have t:r∈R:=by rw[z];simp
 have v:r∈d\/F.length<=r:=n4 r t;have n3:F.length=o.length+1:=by rw[<-l,jb]
 have G:qd b K.length=some (qf s):=u.get (k.get M wE) (fun hc=>by have:=f _ hc;omega)
 have H:K.length≠r:=fun e=>by
  rcases v with h|h
  .have:=f _ h;omega
  .omega
 have w:j9 b 9 (.osl K.length s.length 0 s.length 1)=some (.vsl false (qf s) s.length,[K.length]):=by
  unfold j9;rw[if_neg xE];simp only[G];rw[if_pos ⟨wE,wC⟩,if_pos (by rw[Q0];simp[qf,idFree])];simp
 have I:¬(a++[D.osl K.length s.length 0 s.length 1]).all idFree=true:=xE
 have c:ZK b r=some (qn (jS b [K.length]) r (a++[.vsl false (qf s) s.length])):=by
  unfold ZK;simp only[g];rw[if_neg I,qmC w L];simp only;rw[if_neg (by simp only[qdU];exact fun e=>H e.symm)]
 refine⟨r,b,_,?_,c,?_,⟨?_,fun i hi p=>?_⟩,?_⟩
 .rw[O];simp
 .exact zj (by rw[QF];exact qx g)
 .rw[kL,QF];have U:=A.len;have e2:=k.len;have T:=u.len;omega
 .have y:i≠r:=fun e=>by
   rcases v with h|h
   .exact p (e▸h)
   .omega
  rw[zV y,V8 (by simp only[qdU];omega),u.out i wC p,k.out i wC wE,A.out i hi wE]
 .rcases v with h|h
  .exact .inl h
  .exact .inr wC
def jz(cf ids:List D)(v0 v1:Nat)(st:Int)(n0 n2 n3 n4 n5 n6 n7 n9:Nat)(bd:D):List D:=
 cf++(.int .u32 v0:: .int .u32 v1:: .int .i64 st::(ids++(.int .u64 n0::.int .u64 0::.int .u64 n2::.int .u64 n3::.int .u64 n4::.int .u64 n5::.int .u64 n6::.int .u64 n7::.int .u64 0::.int .u64 n9::ku [.int .u32 0,.int .u32 0,.int .u64 0,.int .u64 0,bd,.vsl true [] 0,.vsl true [] 0,.vsl true [] 0])))
section
variable {cf ids:List D} (hc:cf.length=52) (hi:ids.length=64) (v0 v1:Nat) (st:Int) (n0 n2 n3 n4 n5 n6 n7 n9:Nat) (bd:D)
include hc hi
theorem QO:(jz cf ids v0 v1 st n0 n2 n3 n4 n5 n6 n7 n9 bd).length=147:=by simp[jz,hc,hi]
theorem qk6(x:D):List.take 143 (jz cf ids v0 v1 st n0 n2 n3 n4 n5 n6 n7 n9 bd)++x::List.drop 144 (jz cf ids v0 v1 st n0 n2 n3 n4 n5 n6 n7 n9 bd)=jz cf ids v0 v1 st n0 n2 n3 n4 n5 n6 n7 n9 x:=by
 rw[vr xG];simp[jz,hc,hi]
theorem q1P(x:Nat):List.take 119 (jz cf ids v0 v1 st n0 n2 n3 n4 n5 n6 n7 n9 bd)++D.int .u64 x::List.drop 120 (jz cf ids v0 v1 st n0 n2 n3 n4 n5 n6 n7 n9 bd)=jz cf ids v0 v1 st x n2 n3 n4 n5 n6 n7 n9 bd:=by
 rw[vr xG];simp[jz,hc,hi]
theorem q1O(x:Nat):List.take 121 (jz cf ids v0 v1 st n0 n2 n3 n4 n5 n6 n7 n9 bd)++D.int .u64 x::List.drop 122 (jz cf ids v0 v1 st n0 n2 n3 n4 n5 n6 n7 n9 bd)=jz cf ids v0 v1 st n0 x n3 n4 n5 n6 n7 n9 bd:=by
 rw[vr xG];simp[jz,hc,hi]
theorem q1N(x:Nat):List.take 122 (jz cf ids v0 v1 st n0 n2 n3 n4 n5 n6 n7 n9 bd)++D.int .u64 x::List.drop 123 (jz cf ids v0 v1 st n0 n2 n3 n4 n5 n6 n7 n9 bd)=jz cf ids v0 v1 st n0 n2 x n4 n5 n6 n7 n9 bd:=by
 rw[vr xG];simp[jz,hc,hi]
theorem q1M(x:Nat):List.take 123 (jz cf ids v0 v1 st n0 n2 n3 n4 n5 n6 n7 n9 bd)++D.int .u64 x::List.drop 124 (jz cf ids v0 v1 st n0 n2 n3 n4 n5 n6 n7 n9 bd)=jz cf ids v0 v1 st n0 n2 n3 x n5 n6 n7 n9 bd:=by
 rw[vr xG];simp[jz,hc,hi]
theorem q1L(x:Nat):List.take 124 (jz cf ids v0 v1 st n0 n2 n3 n4 n5 n6 n7 n9 bd)++D.int .u64 x::List.drop 125 (jz cf ids v0 v1 st n0 n2 n3 n4 n5 n6 n7 n9 bd)=jz cf ids v0 v1 st n0 n2 n3 n4 x n6 n7 n9 bd:=by
 rw[vr xG];simp[jz,hc,hi]
theorem q1K(x:Nat):List.take 125 (jz cf ids v0 v1 st n0 n2 n3 n4 n5 n6 n7 n9 bd)++D.int .u64 x::List.drop 126 (jz cf ids v0 v1 st n0 n2 n3 n4 n5 n6 n7 n9 bd)=jz cf ids v0 v1 st n0 n2 n3 n4 n5 x n7 n9 bd:=by
 rw[vr xG];simp[jz,hc,hi]
theorem q1J(x:Nat):List.take 126 (jz cf ids v0 v1 st n0 n2 n3 n4 n5 n6 n7 n9 bd)++D.int .u64 x::List.drop 127 (jz cf ids v0 v1 st n0 n2 n3 n4 n5 n6 n7 n9 bd)=jz cf ids v0 v1 st n0 n2 n3 n4 n5 n6 x n9 bd:=by
 rw[vr xG];simp[jz,hc,hi]
theorem q1I(x:Nat):List.take 128 (jz cf ids v0 v1 st n0 n2 n3 n4 n5 n6 n7 n9 bd)++D.int .u64 x::List.drop 129 (jz cf ids v0 v1 st n0 n2 n3 n4 n5 n6 n7 n9 bd)=jz cf ids v0 v1 st n0 n2 n3 n4 n5 n6 n7 x bd:=by
 rw[vr xG];simp[jz,hc,hi]
theorem q1H(x:Nat):List.take 53 (jz cf ids v0 v1 st n0 n2 n3 n4 n5 n6 n7 n9 bd)++D.int .u32 x::List.drop 54 (jz cf ids v0 v1 st n0 n2 n3 n4 n5 n6 n7 n9 bd)=jz cf ids v0 x st n0 n2 n3 n4 n5 n6 n7 n9 bd:=by
 rw[vr xG];simp[jz,hc]
end
theorem q2a{T:qe}{q bi:Nat}{A B S:ID}{ds fs n1 aft:Nat}{key:Bool}{b:List UInt8}{cf I:List D}(m:cf=qf A.l++(qf B.l++(qf S.l++[.int .i64 (ds:Nat),.int .i64 (fs:Nat),.int .i64 32768,.bool key])))(w:I=qf A.l++(qf B.l++(qf (List.replicate 16 0)++qf S.l)))
  (hq:qd T q=some (jz cf I 2 (if key then 4 else 0) 1 272 288 (16*ds) (n1+16) (16*fs) n1 2 aft (.osl bi b.length 0 b.length 1))) (hb:qd T bi=some (qf b)) (qQ:q≠bi) (aa:aft<18446744073709551616) (ve:n1<1000000) (ac:ds<=64) (ae:fs<=64):
  JmW T q ⟨jz cf I 2 (if key then 4 else 0) 1 272 288 (16*ds) (n1+16) (16*fs) n1 2 aft (.osl bi b.length 0 b.length 1),b,[],[],ds,fs,key,A,n1+16,0,aft,true,[],.vsl true [] 0,.vsl true [] 0,bi,[],[]⟩:=by
 have k:=A.h;have n:=B.h;have o:=S.h;have f:cf.length=52:=by rw[m];simp[k,n,o]
 have g:I.length=64:=by rw[w];simp[k,n,o]
 have hz:(ID.mk (List.replicate 16 0) wE).l=List.replicate 16 0:=rfl
 exact{
  root:=hq
  len:=QO f g ..
  file:=by simp only[jz];rw[List.take_append_of_le_length wC,m];simp[k]
  c48:=xu
  c49:=xu
  c50:=xu
  c51:=xu
  c52:=wr
  c53:=by cases key<;>simp[jz,f,g]
  c54:=wr
  ids:=by
   refine⟨A,B,⟨List.replicate 16 0,wE⟩,S,?_⟩;rw[hz,<-w];simp[jz,jd,List.drop_of_length_le,f,g]
  c119:=wr
  c121:=wr
  c122:=wr
  c123:=wr
  c124:=wr
  c127:=wr
  c128:=wr
  nums:=fun i h1 h2=>by
   obtain⟨j,rfl⟩:∃j,i=119+j:=⟨i-119,wC⟩;have hj:j<20:=wC
   have e:∀(l:List D),(cf++(.int .u32 ((2:Nat):Int):: .int .u32 ((if key then 4 else 0:Nat):Int):: .int .i64 1::(I++l)))[119+j]?=l[j]?:=fun l=>by
    rw[jl wC,f,show 119+j-52=64+j+1+1+1 from wC,qeK,qeK,qeK,jl wC,g,show 64+j-64=j from wC]
   simp only[jz];rw[e];have z:j=0\/j=1\/j=2\/j=3\/j=4\/j=5\/j=6\/j=7\/j=8\/j=9\/j=10\/j=11\/j=12\/j=13\/j=14\/j=15\/j=16\/j=17\/j=18\/j=19:=wC;rcases z with rfl|rfl|rfl|rfl|rfl|rfl|rfl|rfl|rfl|rfl|rfl|rfl|rfl|rfl|rfl|rfl|rfl|rfl|rfl|rfl<;>first|exact⟨_,rfl,0,rfl,wH⟩|exact⟨_,rfl,272,rfl,wH⟩|exact⟨_,rfl,288,rfl,wH⟩|exact⟨_,rfl,2,rfl,wH⟩|exact⟨_,rfl,_,rfl,wC⟩
  c139:=⟨0,wr,wC⟩
  c140:=⟨0,wr,wC⟩
  c141:=⟨_,wr,0,rfl,wC⟩
  c142:=⟨_,wr,0,rfl,wC⟩
  c143:=wr
  c144:=wr
  c145:=wr
  c146:=by simp[jz,f,g,qP]
  bytes:=hb
  rowD:=RowA.nil _ _
  rowF:=RowA.nil _ _
  nodup:=by simp[Jm.names,qQ]
  free:=fun i d hi s=>by
   simp only[jz] at s;by_cases h1:i<52
   .rw[vD wC] at s;have:=j7 s;rw[m] at this;simp only[jW,jC,List.not_mem_nil,or_false,qf,ZI] at this;rcases this with⟨_,_,rfl⟩|⟨_,_,rfl⟩|⟨_,_,rfl⟩|rfl|rfl|rfl|rfl<;>rfl
   .rw[jl wC,f] at s;by_cases h2:i<143
    .have hm:∃X,(.int .u32 ((2:Nat):Int):: .int .u32 ((if key then 4 else 0:Nat):Int):: .int .i64 1::(I++(D.int .u64 ((272:Nat):Int)::.int .u64 0::.int .u64 ((288:Nat):Int)::.int .u64 ((16*ds:Nat):Int)::.int .u64 ((n1+16:Nat):Int)::.int .u64 ((16*fs:Nat):Int)::.int .u64 (n1:Int)::.int .u64 ((2:Nat):Int)::.int .u64 0::.int .u64 (aft:Int)::.int .u64 0::.int .u64 0::.int .u64 0::.int .u64 0::.int .u64 0::.int .u64 0::.int .u64 0::.int .u64 0::.int .u64 0::.int .u64 0::[.int .u32 0,.int .u32 0,.int .u64 0,.int .u64 0])))=X/\X.length=91:=⟨_,rfl,by simp[g]⟩;obtain⟨X,y,lX⟩:=hm
     have x:X[i-52]?=some d:=by
      rw[<-s,<-y];have:=lX;rw[<-y] at this;have v:∀(l r:List D),(.int .u32 ((2:Nat):Int):: .int .u32 ((if key then 4 else 0:Nat):Int):: .int .i64 1::(I++(l++r)):List D)=(.int .u32 ((2:Nat):Int):: .int .u32 ((if key then 4 else 0:Nat):Int):: .int .i64 1::(I++l))++r:=fun l r=>by simp
      rw[show∀a b c P M F Z N Y W Q C:D,∀O e2 v V L J e7 U G p u t E K H R:D,[a,b,c,P,M,F,Z,N,Y,W,Q,C,O,e2,v,V,L,J,e7,U,G,p,u,t,E,K,H,R]=[a,b,c,P,M,F,Z,N,Y,W,Q,C,O,e2,v,V,L,J,e7,U,G,p,u,t]++[E,K,H,R] from by intros;rfl,v,vD wC]
     have:=j7 x;rw[<-y] at this;simp only[jW,jC,List.not_mem_nil,or_false] at this;rw[w] at this;simp only[jW,qf,ZI] at this;rcases this with rfl|rfl|rfl|(⟨_,_,rfl⟩|⟨_,_,rfl⟩|⟨_,_,rfl⟩|⟨_,_,rfl⟩)|h
     all_goals first
      |rfl
      |(repeat' (first|(rcases h with rfl|h;· rfl)|(subst h;rfl)))
    .omega}
theorem q1T[MaxL][TxtC](H:qe)(A B S:ID)(ds fs:Nat)(cT:1<=ds/\ds<=64)(de:1<=fs/\fs<=64)(key:Bool)(aft:Nat)(cJ:aft<18446744073709551616):
  ∃T q m,call cx 54 [.agg (qf A.l++(qf B.l++(qf S.l++[.int .i64 (ds:Nat),.int .i64 (fs:Nat),.int .i64 32768,.bool key]))),.int .u64 aft] H=some (.optr q 147 0,T)/\JmW T q m/\m.Ok/\Ext [] H T/\(∀i,i∈m.names q->H.length<=i)/\m.ne=0/\m.tl=aft/\m.b.length=304+16*ds+16*fs/\m.da=[]/\m.fi=[]/\m.main=[]:=by
 suffices hs:∃r,call cx 54 [.agg (qf A.l++(qf B.l++(qf S.l++[.int .i64 (ds:Nat),.int .i64 (fs:Nat),.int .i64 32768,.bool key]))),.int .u64 aft] H=some r/\∃(T:qe)(q:Nat)(m:Jm),r=(.optr q 147 0,T)/\JmW T q m/\m.Ok/\Ext [] H T/\(∀i,i∈m.names q->H.length<=i)/\m.ne=0/\m.tl=aft/\m.b.length=304+16*ds+16*fs/\m.da=[]/\m.fi=[]/\m.main=[] by
  obtain⟨r,hc,T,q,m,rfl,h1⟩:=hs;exact⟨T,q,m,hc,h1⟩
 refine vx (X:=cx) (f:=54) _ Tryz.func54 rfl ⟨rfl,rfl⟩ ?_;obtain⟨cf,QT⟩:∃c,c=qf A.l++(qf B.l++(qf S.l++[.int .i64 (ds:Nat),.int .i64 (fs:Nat),.int .i64 32768,.bool key])):=⟨_,rfl⟩;have W:=A.h;have lb:=B.h;have ls:=S.h;have a:cf.length=52:=by rw[QT];simp[W,lb,ls]
 rw[<-QT];obtain⟨g,jx⟩:=ql (qr H cf);have g1:=js jx;have cw:cf.all idFree=true:=by rw[QT];simp[qf,idFree]
 have bF:=zca cw;have dg:∀X,qd (qr g X) H.length=some cf:=fun X=>by rw[vv (qx g1)];exact g1
 obtain⟨v,jw⟩:=ql (qr g (qI (qI (qI (qI (qI (qI (qI (qI (qI (qI (qI (qI (qI (qI (qI (qI (qI []))))))))))))))))))
 have g2:qd v g.length=some (qf (List.replicate 272 0)):=by
  rw[<-jw,zF];rfl
 have x1:=zL jx;have x2:=zL jw;have cW:qd v H.length=some cf:=x2.get g1 wE;have aL:(272:Int)<=(qF:Int):=wH
 have cF:List.take 52 cf=cf:=qH wC;obtain⟨Zm,ak⟩:∃Z,Z=(D.int .u32 0::.int .u32 0::.int .i64 0::qI (qI (qI (qI (ku (ku [.int .u32 0,.int .u32 0,.int .u64 0,.int .u64 0,.vsl true [] 0,.vsl true [] 0,.vsl true [] 0,.vsl true [] 0])))))):=⟨_,rfl⟩;have cY:Zm.all idFree=true:=by rw[ak];simp[idFree]
 have cq:Zm.length=95:=by rw[ak];rfl
 have fA:∀x,x∈cf++Zm->∀n,closed n x=true:=fun x hx n=>VU x (by
  rcases List.mem_append.1 hx with h|h
  .exact List.all_eq_true.1 cw x h
  .exact List.all_eq_true.1 cY x h)
 have ct:∀n k,(∀x,x∈List.take k (cf++Zm)->closed n x=true)=True:=fun n k=>eq_true fun x hx=>fA x (QX hx) n;have cd:∀n k,(∀x,x∈List.drop k (cf++Zm)->closed n x=true)=True:=fun n k=>eq_true fun x hx=>fA x (Zz hx) n;obtain⟨I0,cj⟩:∃I,I=qf (List.replicate 64 0):=⟨_,rfl⟩;have y:I0.length=64:=by rw[cj];rfl
 have ez:cf++Zm=jz cf I0 0 0 0 0 0 0 0 0 0 0 0 (.vsl true [] 0):=by rw[ak,cj];rfl
 have s1:=qk6 a y 0 0 0 0 0 0 0 0 0 0 0 (.vsl true [] 0) (.osl g.length 272 0 272 1);rw[<-ez] at s1;obtain⟨C1,V5⟩:=ql (jz cf I0 0 0 0 0 0 0 0 0 0 0 0 (.osl g.length 272 0 272 1));rw[V5] at s1;obtain⟨K3,ZC⟩:=ql (qr v C1);have cX:g.length<v.length:=qx g2;have bJ:C1.length=147:=by rw[<-V5];exact QO a y ..
 have bE:(∀x,x∈C1->closed v.length x=true)=True:=eq_true fun x hx=>by
  rw[<-s1] at hx;rcases List.mem_append.1 hx with h|h
  .exact fA x (QX h) _
  .rcases List.mem_cons.1 h with rfl|h
   .simp[closed];exact cX
   .exact fA x (Zz h) _
 have g3:=js ZC;have x3:=zL ZC;have bj:qd K3 H.length=some cf:=x3.get cW wE;have aa:∀{v1:Nat}{st:Int}{v0:Nat}{n0 n2 n3 n4 n5 n6 n7 n9:Nat}{bd:D}{ids:List D},ids.length=64->List.drop 143 (jz cf ids v0 v1 st n0 n2 n3 n4 n5 n6 n7 n9 bd)=bd::List.drop 144 (jz cf ids v0 v1 st n0 n2 n3 n4 n5 n6 n7 n9 bd):=fun h=>by simp[jz,jd,List.drop_of_length_le,a,h]
 have Y:=aa (v1:=0) (st:=0) (v0:=0) (n0:=0) (n2:=0) (n3:=0) (n4:=0) (n5:=0) (n6:=0) (n7:=0) (n9:=0) (bd:=.osl g.length 272 0 272 1) y;rw[V5] at Y;have bT:List.drop 48 cf=.int .i64 (ds:Nat)::List.drop 49 cf:=xw
 have cA:List.drop 49 cf=.int .i64 (fs:Nat)::List.drop 50 cf:=xw
 obtain⟨B0,ck⟩:∃b:List UInt8,b=List.replicate 272 0:=⟨_,rfl⟩;have cE:B0.length=272:=by rw[ck];simp
 rw[<-ck] at g2;have cG:qd K3 g.length=some (qf B0):=x3.get g2 wE;have ay:=g3;have bH:=bj;have di:H.length<g.length:=qx g1;obtain⟨za,ax⟩:=ql ((List.replicate ds [D.int .u64 0,D.int .u64 0]).flatten);have ba:za.length=ds*2:=by rw[<-ax];simp
 have aZ:JE za:=fun d L=>by
  rw[<-ax] at L;obtain⟨l,hl,L⟩:=List.mem_flatten.1 L;rw[(List.mem_replicate.1 hl).2] at L;simp only[jC,List.not_mem_nil,or_false,or_self] at L;exact⟨0,L,wC⟩
 have cg:idFree.idFreeL za=true:=by rw[Q0];exact qew aZ
 have bA:(∀x,x∈za->idFree x=true)=True:=eq_true fun x hx=>qkA (aZ x hx);have cO:List.take (ds*2) za=za:=qH wC;have aU:16*(ds:Int)<=(qF:Int)/\ds<=qF:=xV
 obtain⟨K4,Xi⟩:=ql (qr K3 za);have bG:=js Xi;obtain⟨K5,kR⟩:=ql (jS K4 [K3.length]);have aO:List.set K4 K3.length none=K5:=kR
 have P:Ext [] K3 K5:=by
  refine⟨?_,fun j hj _=>?_⟩
  .rw[<-kR,QF,<-Xi,jb];omega
  .rw[<-kR,V8 wG,<-Xi,vv hj]
 obtain⟨_,aH,tb,dk,rfl⟩:=qnP 4 (.inl rfl) false za ds aZ ba wE wC wC;replace aH:call cx 97 [.int .i64 4,.vsl false za ds] []=some (.vsl false (qf tb) tb.length,[]):=aH;have au:qd K5 g.length=some (qf B0):=P.get cG wE;have aE:=qfZ (t:=63) (e:=5) (n:=tb.length) (x:=.vsl false (qf tb) tb.length) (xs:=qf tb) au wE wE wE wE wE wE (c:=272) (by simp[cE]) wC;obtain⟨n1,ve⟩:=ql (272+tb.length);obtain⟨B1,ch⟩:∃b,b=B0++tb:=⟨_,rfl⟩;have bB:B1.length=n1:=by rw[ch,zo,cE,ve]
 rw[<-qkb,<-ch,ve] at aE;obtain⟨K6,Qn⟩:=ql (qn K5 g.length (qf B1));rw[Qn] at aE;have aD:=vZ Qn;have bo:qd K6 v.length=some C1:=aD.get (P.get ay wE) wG;have bU:g.length<K6.length:=aD.lt (P.lt (qx cG));have bN:qd K6 H.length=some cf:=aD.get (P.get bH wE) wG;have aF:=qk6 a y 0 0 0 0 0 0 0 0 0 0 0 (.osl g.length 272 0 272 1) (.osl g.length n1 0 n1 1);rw[V5] at aF;obtain⟨C2,jI⟩:=ql (jz cf I0 0 0 0 0 0 0 0 0 0 0 0 (.osl g.length n1 0 n1 1));rw[jI] at aF;have bt:C2.length=147:=by rw[<-jI];exact QO a y ..
 have bb:=aa (v1:=0) (st:=0) (v0:=0) (n0:=0) (n2:=0) (n3:=0) (n4:=0) (n5:=0) (n6:=0) (n7:=0) (n9:=0) (bd:=.osl g.length n1 0 n1 1) y;rw[jI] at bb;obtain⟨K7,aq⟩:=ql (qn K6 v.length C2);have bk:=vZ aq;have N:=vV aq bo;have bM:qd K7 g.length=some (qf B1):=bk.get (by rw[<-Qn];exact zj (qx au)) wG;have Q:qd K7 H.length=some cf:=bk.get bN wG;obtain⟨zb,am⟩:=ql ((List.replicate fs [D.int .u64 0,D.int .u64 0]).flatten);have bf:zb.length=fs*2:=by rw[<-am];simp
 have br:JE zb:=fun d L=>by
  rw[<-am] at L;obtain⟨l,hl,L⟩:=List.mem_flatten.1 L;rw[(List.mem_replicate.1 hl).2] at L;simp only[jC,List.not_mem_nil,or_false,or_self] at L;exact⟨0,L,wC⟩
 have cu:idFree.idFreeL zb=true:=by rw[Q0];exact qew br
 have ce:(∀x,x∈zb->idFree x=true)=True:=eq_true fun x hx=>qkA (br x hx);have bO:List.take (fs*2) zb=zb:=qH wC;have aP:16*(fs:Int)<=(qF:Int)/\fs<=qF:=xV
 obtain⟨K8,Kp⟩:=ql (qr K7 zb);have cM:=js Kp;obtain⟨K9,Xh⟩:=ql (jS K8 [K7.length]);have bW:List.set K8 K7.length none=K9:=Xh
 have M:Ext [] K7 K9:=by
  refine⟨?_,fun j hj _=>?_⟩
  .rw[<-Xh,QF,<-Kp,jb];omega
  .rw[<-Xh,V8 wG,<-Kp,vv hj]
 obtain⟨_,az,tc,dh,rfl⟩:=qnP 5 (.inr rfl) false zb fs br bf wE wC wC;replace az:call cx 97 [.int .i64 5,.vsl false zb fs] []=some (.vsl false (qf tc) tc.length,[]):=az;have ao:qd K9 g.length=some (qf B1):=M.get bM wE;have K:=qfZ (t:=63) (e:=5) (n:=tc.length) (x:=.vsl false (qf tc) tc.length) (xs:=qf tc) ao wE wE wE wE wE wE (c:=n1) (by simp[bB]) wC;obtain⟨n2,jQ⟩:=ql (n1+tc.length);obtain⟨B2,bX⟩:∃b,b=B1++tc:=⟨_,rfl⟩;have dc:B2.length=n2:=by rw[bX,zo,bB,jQ]
 rw[<-qkb,<-bX,jQ] at K;obtain⟨aG,aj⟩:=ql (qn K9 g.length (qf B2));rw[aj] at K;have F:=vZ aj;have ah:qd aG v.length=some C2:=F.get (M.get N wE) wG;have aN:g.length<aG.length:=F.lt (M.lt (qx bM));have bg:qd aG H.length=some cf:=F.get (M.get Q wE) wG;have av:=qk6 a y 0 0 0 0 0 0 0 0 0 0 0 (.osl g.length n1 0 n1 1) (.osl g.length n2 0 n2 1);rw[jI] at av;obtain⟨C3,JR⟩:=ql (jz cf I0 0 0 0 0 0 0 0 0 0 0 0 (.osl g.length n2 0 n2 1));rw[JR] at av;have bz:C3.length=147:=by rw[<-JR];exact QO a y ..
 have cZ:=aa (v1:=0) (st:=0) (v0:=0) (n0:=0) (n2:=0) (n3:=0) (n4:=0) (n5:=0) (n6:=0) (n7:=0) (n9:=0) (bd:=.osl g.length n2 0 n2 1) y;rw[JR] at cZ;obtain⟨z,J⟩:=ql (qn aG v.length C3);have ag:=vZ J;have ae:=vV J ah;have bI:qd z g.length=some (qf B2):=ag.get (by rw[<-aj];exact zj (qx ao)) wG;have E:qd z H.length=some cf:=ag.get bg wG;have aQ:K4.length<=K5.length:=by rw[<-kR,QF];exact qA _
 have bv:qd K4 v.length=some C1:=by rw[<-Xi,vv (qx ay)];exact ay
 have bQ:qd K5 v.length=some C1:=P.get ay wE;have aJ:K8.length<=K9.length:=by rw[<-Xh,QF];exact qA _
 have bV:qd K8 v.length=some C2:=by rw[<-Kp,vv (qx N)];exact N
 have cD:qd K9 v.length=some C2:=M.get N wE;have tA:List.take 16 cf=qf A.l:=by rw[QT];simp[W]
 have tB:List.take 16 (List.drop 16 cf)=qf B.l:=by rw[QT];simp[W,lb]
 have tS:List.take 16 (List.drop 32 cf)=qf S.l:=xw
 have eD:List.drop 32 (qf A.l++(qI (qI (qI (ku (ku [.int .u32 0,.int .u32 0,.int .u64 0]))))))=(qI (qI (ku (ku [.int .u32 0,.int .u32 0,.int .u64 0])))):=by simp[jd,List.drop_of_length_le,W]
 have cH:List.take 48 (qf A.l++(qf B.l++(qI (qI (ku (ku [.int .u32 0,.int .u32 0,.int .u64 0]))))))=qf A.l++(qf B.l++(qI [])):=by simp[Zk,qH,W,lb]
 have cQ:List.drop 64 (qf A.l++(qf B.l++(qI (qI (ku (ku [.int .u32 0,.int .u32 0,.int .u64 0]))))))=(ku (ku [.int .u32 0,.int .u32 0,.int .u64 0])):=by simp[jd,List.drop_of_length_le,W,lb]
 obtain⟨R,bq⟩:∃I,I=qf A.l++(qf B.l++(qf (List.replicate 16 0)++qf S.l)):=⟨_,rfl⟩;have o:R.length=64:=by rw[bq];simp[W,lb,ls]
 obtain⟨C4,Xj⟩:=ql (jz cf R 2 0 1 0 0 0 0 0 0 0 0 (.osl g.length n2 0 n2 1))
 have s4:List.take 52 C3++D.int .u32 2::D.int .u32 0::D.int .i64 1::(qf A.l++(qf B.l++D.int .u8 0::D.int .u8 0::D.int .u8 0::D.int .u8 0::D.int .u8 0::D.int .u8 0::D.int .u8 0::D.int .u8 0::D.int .u8 0::D.int .u8 0::D.int .u8 0::D.int .u8 0::D.int .u8 0::D.int .u8 0::D.int .u8 0::D.int .u8 0::(qf S.l++D.int .u64 0::D.int .u64 0::D.int .u64 0::D.int .u64 0::D.int .u64 0::D.int .u64 0::D.int .u64 0::D.int .u64 0::D.int .u64 0::D.int .u64 0::D.int .u64 0::D.int .u64 0::D.int .u64 0::D.int .u64 0::D.int .u64 0::D.int .u64 0::D.int .u64 0::D.int .u64 0::D.int .u64 0::D.int .u64 0::D.int .u32 0::D.int .u32 0::D.int .u64 0::List.drop 142 C3)))=C4:=by
  rw[<-JR,<-Xj,bq];simp[jz,jd,List.drop_of_length_le,a,y,qf]
 have db:C4.length=147:=by rw[<-Xj];exact QO a o ..
 have gS:∀C,qd (qn z v.length C) v.length=some C:=fun C=>zj (qx ae);have ci:∀C,qd (qn z v.length C) H.length=some cf:=fun C=>by rw[zV wC];exact E
 have bS:∀C,qd (qn z v.length C) g.length=some (qf B2):=fun C=>by rw[zV wC];exact bI
 have aB:List.drop 51 cf=[.bool key]:=xw
 obtain⟨v1,bp⟩:∃v1:Nat,v1=if key then 4 else 0:=⟨_,rfl⟩;obtain⟨p,cB⟩:∃x,x=16*ds:=⟨_,rfl⟩;obtain⟨u,cC⟩:∃x,x=16*fs:=⟨_,rfl⟩;obtain⟨s,bD⟩:∃x,x=n1+16:=⟨_,rfl⟩;have bY:=zf (n1:Int) (n1:Int);have wx:=qz (16*(ds:Int)) (p:Int);have bR:=zf (p:Int) (p:Int);have wy:=qz (16*(fs:Int)) (u:Int);have cL:=zf (u:Int) (u:Int);have wn:=zf ((n1:Int)+16) (s:Int);obtain⟨C5,Vi⟩:=ql (jz cf R 2 v1 1 0 0 0 0 0 0 0 0 (.osl g.length n2 0 n2 1))
 have s5:key=true->List.take 53 C4++D.int .u32 4::List.drop 54 C4=C5:=fun hk=>by
  have:=q1H a o 2 0 1 0 0 0 0 0 0 0 0 (.osl g.length n2 0 n2 1) 4;rw[Xj] at this;rw[show D.int .u32 4=D.int .u32 ((4:Nat):Int) from rfl,this,<-Vi,bp,hk];rfl
 have e5:key=false->C4=C5:=fun hk=>by rw[<-Xj,<-Vi,bp,hk];rfl
 have cP:C5.length=147:=by rw[<-Vi];exact QO a o ..
 obtain⟨C6,aX⟩:=ql (jz cf R 2 v1 1 272 0 0 0 0 0 0 0 (.osl g.length n2 0 n2 1))
 have bu:List.take 119 C5++D.int .u64 272::List.drop 120 C5=C6:=by
  have:=q1P a o 2 v1 1 0 0 0 0 0 0 0 0 (.osl g.length n2 0 n2 1) 272;rw[Vi,aX] at this;exact this
 have bP:C6.length=147:=by rw[<-aX];exact QO a o ..
 obtain⟨C7,aY⟩:=ql (jz cf R 2 v1 1 272 288 0 0 0 0 0 0 (.osl g.length n2 0 n2 1))
 have bZ:List.take 121 C6++D.int .u64 288::List.drop 122 C6=C7:=by
  have:=q1O a o 2 v1 1 272 0 0 0 0 0 0 0 (.osl g.length n2 0 n2 1) 288;rw[aX,aY] at this;exact this
 have cS:C7.length=147:=by rw[<-aY];exact QO a o ..
 obtain⟨C8,bm⟩:=ql (jz cf R 2 v1 1 272 288 p 0 0 0 0 0 (.osl g.length n2 0 n2 1))
 have bC:List.take 122 C7++D.int .u64 (p:Nat)::List.drop 123 C7=C8:=by
  have:=q1N a o 2 v1 1 272 288 0 0 0 0 0 0 (.osl g.length n2 0 n2 1) p;rw[aY,bm] at this;exact this
 have cK:C8.length=147:=by rw[<-bm];exact QO a o ..
 obtain⟨C9,bn⟩:=ql (jz cf R 2 v1 1 272 288 p s 0 0 0 0 (.osl g.length n2 0 n2 1))
 have bK:List.take 123 C8++D.int .u64 (s:Nat)::List.drop 124 C8=C9:=by
  have:=q1M a o 2 v1 1 272 288 p 0 0 0 0 0 (.osl g.length n2 0 n2 1) s;rw[bm,bn] at this;exact this
 have cN:C9.length=147:=by rw[<-bn];exact QO a o ..
 obtain⟨aC,U⟩:=ql (jz cf R 2 v1 1 272 288 p s u 0 0 0 (.osl g.length n2 0 n2 1))
 have aI:List.take 124 C9++D.int .u64 (u:Nat)::List.drop 125 C9=aC:=by
  have:=q1L a o 2 v1 1 272 288 p s 0 0 0 0 (.osl g.length n2 0 n2 1) u;rw[bn,U] at this;exact this
 have aR:aC.length=147:=by rw[<-U];exact QO a o ..
 obtain⟨aw,ac⟩:=ql (jz cf R 2 v1 1 272 288 p s u n1 0 0 (.osl g.length n2 0 n2 1))
 have aM:List.take 125 aC++D.int .u64 (n1:Nat)::List.drop 126 aC=aw:=by
  have:=q1K a o 2 v1 1 272 288 p s u 0 0 0 (.osl g.length n2 0 n2 1) n1;rw[U,ac] at this;exact this
 have aW:aw.length=147:=by rw[<-ac];exact QO a o ..
 obtain⟨aA,ai⟩:=ql (jz cf R 2 v1 1 272 288 p s u n1 2 0 (.osl g.length n2 0 n2 1))
 have aV:List.take 126 aw++D.int .u64 2::List.drop 127 aw=aA:=by
  have:=q1J a o 2 v1 1 272 288 p s u n1 0 0 (.osl g.length n2 0 n2 1) 2;rw[ac,ai] at this;exact this
 have aS:aA.length=147:=by rw[<-ai];exact QO a o ..
 obtain⟨O,V⟩:=ql (jz cf R 2 v1 1 272 288 p s u n1 2 aft (.osl g.length n2 0 n2 1))
 have aK:List.take 128 aA++D.int .u64 (aft:Nat)::List.drop 129 aA=O:=by
  have:=q1I a o 2 v1 1 272 288 p s u n1 2 0 (.osl g.length n2 0 n2 1) aft;rw[ai,V] at this;exact this
 have df:O.length=147:=by rw[<-V];exact QO a o ..
 have aT:∃(T:qe)(q:Nat),(v.length=q/\qn z v.length O=T)/\∃(m:Jm),JmW T q m/\m.Ok/\Ext [] H T/\(∀i,i∈m.names q->H.length<=i)/\m.ne=0/\m.tl=aft/\m.b.length=304+16*ds+16*fs/\m.da=[]/\m.fi=[]/\m.main=[]:=by
  have w:=q2a (T:=qn z v.length O) (q:=v.length) (bi:=g.length) (b:=B2) (n1:=n1) (aft:=aft) QT bq (by rw[gS,dc,<-cB,<-bD,<-cC,<-bp,V]) (bS O) wC cJ wC wC wC;refine⟨_,_,⟨rfl,rfl⟩,_,w,?_,?_,fun i hi=>?_,rfl,rfl,wJ,rfl,rfl,rfl⟩
  .exact⟨cT,de,wJ,wJ,wJ,wJ,fun k hk=>by simp at hk,fun k hk=>by simp at hk,⟨0,wJ,ArrOk.zero _⟩,fun _=>rfl,cJ,wJ,wE,wE,fun k hk=>by simp at hk⟩
  .have cp:NewL [] [g.length] H.length:=fun i hi=>.inr (by rw[List.mem_singleton.1 hi];omega);have bh:NewL [] [v.length] H.length:=fun i hi=>.inr (by rw[List.mem_singleton.1 hi];omega);exact(((((((((x1.trans x2 (NewL.refl _ _)).trans x3 (NewL.refl _ _)).trans P (NewL.refl _ _)).trans aD cp).trans bk bh).trans M (NewL.refl _ _)).trans F cp).trans ag bh).trans (Ext.set z v.length O) bh)
  .simp only[Jm.names,jC,List.not_mem_nil,or_false,J4] at hi;rcases hi with rfl|rfl<;>omega
 cases G:key with
 |true=>
  have bc:=s5 G;rw[G] at aB;simp[-qd,-qn,-qr,-qJ,Tryz.f54,jx,g1,a,bF,jw,aL,cF,<-ak,cq,s1,ZC,bJ,bE,g3,bj,Y,bT,cA,ax,ba,cg,bA,cO,aU,Xi,bG,aO,aH,au,aE,bU,bo,aF,bt,bb,aq,N,Q,am,bf,cu,ce,bO,aP,Kp,cM,bW,az,ao,K,aN,ah,av,bz,J,ae,E,aQ,bv,bQ,aJ,bV,cD,tA,tB,tS,eD,cH,cQ,s4,db,gS,ci,aB,QJ,bY,wx,bR,wy,cL,wn,cP,bu,bP,bZ,cS,bC,cK,bK,cN,aI,aR,aM,aW,aV,aS,aK,bc];exact aT
 |false=>
  have bc:=e5 G;rw[G] at aB;simp[-qd,-qn,-qr,-qJ,Tryz.f54,jx,g1,a,bF,jw,aL,cF,<-ak,cq,s1,ZC,bJ,bE,g3,bj,Y,bT,cA,ax,ba,cg,bA,cO,aU,Xi,bG,aO,aH,au,aE,bU,bo,aF,bt,bb,aq,N,Q,am,bf,cu,ce,bO,aP,Kp,cM,bW,az,ao,K,aN,ah,av,bz,J,ae,E,aQ,bv,bQ,aJ,bV,cD,tA,tB,tS,eD,cH,cQ,s4,gS,ci,aB,QJ,bY,wx,bR,wy,cL,wn,cP,bu,bP,bZ,cS,bC,cK,bK,cN,aI,aR,aM,aW,aV,aS,aK,bc];exact aT
end Go.Ev.S
namespace Go.Ev.S
open Go Go.Proofs Go.Ev
theorem qhj{H:qe}{v:D}{cs:List D}{L:List Nat}(h:RowA H 1 v cs L)(b:cs.all idFree=true):∃a,j9 H 9 v=some (.vsl a cs cs.length,L)/\(a=true->cs=[]):=by
 rcases h with⟨rfl,rfl,rfl⟩|⟨r,n,rfl,e,c,rfl⟩
 .exact⟨true,rfl,fun _=>rfl⟩
 .have d:n=cs.length:=by omega
  subst d;refine⟨false,?_,fun h=>wI⟩;unfold j9;simp only[idFree,Qd,if_false,c];rw[if_pos ⟨trivial,wC⟩,if_pos (by rw[Q0];exact b)];simp
theorem qgY{H:qe}(L:List Nat):Ext L H (jS H L):=⟨by rw[QF];exact qA _,fun _ _ h=>V8 h⟩
@[simp] theorem qjj (l:List (List UInt8)):(jG l).length=l.length:=by simp[jG]
theorem qwF(l:List (List UInt8)):(jG l).all idFree=true:=by
 rw[qgV];intro d a;simp only[jG,ZI] at a;obtain⟨s,_,rfl⟩:=a;rfl
theorem qx4[MaxL][TxtC]{H:qe}{c:D}{l:List (List UInt8)}{L:List Nat}(h:RowA H 1 c (jG l) L)(g:l.length<1000000):
  ∃T,call cx 39 [c] H=some (.tup [],T)/\RowA T 1 c (jG (vN l)) L/\Ext L H T:=by
 rcases h with⟨rfl,b,rfl⟩|⟨r,n,rfl,b,e,rfl⟩
 .have d:l=[]:=by
   cases l with
   |nil=>rfl
   |cons a l=>simp[jG] at b
  subst d;refine⟨H,qeE ?_,.inl ⟨rfl,by simp[vN,jG],rfl⟩,Ext.refl _ _⟩;rfl
 .have f:n=l.length:=by simpa using b.symm
  subst f;refine⟨qn H r (jG (vN l)),qeE ?_,.inr ⟨r,l.length,wE,wE,zj (qx e),rfl⟩,Ext.set H r _⟩;rw[qvt,qjj];simp only[qgE,e,qm6];rw[if_pos ⟨trivial,trivial,wC⟩]
def kZ(s:Fs):List (List UInt8):=if s.off then[] else(s.nodes.filter (·.there)).map (·.name)
theorem qtH[MaxL][TxtC]{H:qe}{q:Nat}{s:Fs}{v:FSv}(h:FSw H q s v)(hn:s.nodes.length<100000):
  ∃T c,call cx 15 [.optr q 5 0] H=some (.vsl c (jG (vN (kZ s))) (kZ s).length,T)/\Ext [] H T/\(c=true->kZ s=[]):=by
 obtain⟨N,G⟩:=ql (kZ s)
 have Ko:N.length<=s.nodes.length:=by
  rw[<-G];unfold kZ;split
  .simp
  .rw[List.length_map];exact List.length_filter_le _ _
 rw[G];have y:=h.root;simp only[Fs.cells] at y
 suffices hs:∃r,call cx 15 [.optr q 5 0] H=some r/\∃c T,r=(.vsl c (jG (vN N)) N.length,T)/\Ext [] H T/\(c=true->N=[]) by
  obtain⟨_,M,c,T,rfl,h2,h3⟩:=hs;exact⟨T,c,M,h2,h3⟩
 have fin:∀(d:D)(H':qe)(L:List Nat),RowA H' 1 d (jG N) L->Ext [] H H'->(∀j,j∈L->H.length<=j)->
   ∃t c,call cx 39 [d] H'=some (.tup [],t)/\j9 t 9 d=some (.vsl c (jG (vN N)) N.length,L)/\Ext [] H (jS t L)/\(c=true->N=[]):=by
  intro d H' L g hx Z;obtain⟨t,a1,I,a3⟩:=qx4 g wC;obtain⟨c,b1,b2⟩:=qhj I (qwF _);have Zd:NewL [] L H.length:=fun i hi=>.inr (Z i hi);refine⟨t,c,a1,by simpa using b1,(hx.trans a3 Zd).trans (qgY L) Zd,fun R=>?_⟩;have:=congrArg List.length (b2 R);simp at this;exact this
 rcases h.row with⟨U,hp,Z⟩|⟨b,n,U,C,zQ,Z⟩
 .have hl:=h.len;have:v.nd=[]:=by simpa[FSv.ptrs] using hp
  rw[this] at hl;have hs:s.nodes=[]:=List.length_eq_zero_iff.1 hl.symm;rw[U] at y;have o:N=[]:=by rw[<-G];simp[kZ,hs]
  obtain⟨t,c,S,f2,F,f4⟩:=fin (.vsl true [] 0) H [] (.inl ⟨rfl,by rw[o];rfl,rfl⟩) (Ext.refl _ _) wE;refine vx _ Tryz.func15 rfl ⟨rfl,rfl⟩ ?_;simp[-qd,Tryz.f15,y];refine qfY ?_;simp[S];exact⟨t,⟨⟨by rw[o];simp[vN,jG],by rw[o];rfl⟩,rfl⟩,F,o⟩
 .rw[U] at y;have aa:v.ptrs.length=v.nd.length:=by simp[FSv.ptrs]
  have R:n=s.nodes.length:=by have:=h.len;omega
  subst R;refine vx _ Tryz.func15 rfl ⟨rfl,rfl⟩ ?_;simp[-qd,Tryz.f15,y];refine Run.loopThen (fun(k:Nat) e H'=>k<=s.nodes.length/\∃d L,RowA H' 1 d (jG (if s.off then[] else((s.nodes.take k).filter (·.there)).map (·.name))) L/\Ext [] H H'/\(∀j,j∈L->H.length<=j)/\qi e 0=some (.optr q 5 0)/\qi e 3=some d/\qi e 9=some (.osl b v.ptrs.length 0 s.nodes.length 1)/\qi e 10=some (.int .i64 s.nodes.length)/\qi e 11=some (.int .i64 k)) (fun k=>s.nodes.length-k) 0 ?_ ?_
  .exact⟨wC,.vsl true [] 0,[],.inl ⟨rfl,by simp[jG],rfl⟩,Ext.refl _ _,wE,rfl,rfl,rfl,rfl,rfl⟩
  rintro k e H' ⟨hk,d,L,g,hx,f,O,J,E,l,p⟩;by_cases z:k<s.nodes.length
  .have A:=zq z;have hw:=qz ((k:Int)+1) ((k+1:Nat):Int);have B:k<v.nd.length:=(by rw[h.len];exact z);obtain⟨ve,jQ⟩:=h.node k _ _ (qM z) (Yh B);have w:=hx.get ve wE;have a:=hx.get y wE;have kx:=hx.get zQ wE;simp only[Nd.cells] at w;have u:=qjP B;have zS:s.nodes.take (k+1)=s.nodes.take k++[s.nodes[k]]:=(by rw[List.take_add_one,qM z];rfl);cases K:s.nodes[k].there with
   |false=>
    rw[K] at w;simp[-qd,O,J,E,l,p,A,hw,kx,u,w];refine⟨k+1,wC,wC,d,L,?_,hx,f,rfl,wC⟩;rw[zS,List.filter_append];simpa[K] using g
   |true=>
    rw[K] at w;cases ho:s.off with
    |true=>
     rw[ho] at a g;simp[-qd,O,J,E,l,p,A,hw,kx,u,w,a];exact⟨k+1,wC,wC,d,L,xD,hx,f,rfl,wC⟩
    |false=>
     rw[ho] at a g;simp only[Qd,if_false] at g;obtain⟨H2,e2⟩:=ql (qr H' [.str s.nodes[k].name]);obtain⟨I,l2⟩:=ql (H'.length);have Y:Ext [] H' H2:=e2▸Ext.new H' _;have g2:qd H2 I=some [.str s.nodes[k].name]:=by rw[<-e2,<-l2,zF]
     have C:(((s.nodes.take k).filter (·.there)).map (·.name)).length<=k:=by
      rw[List.length_map];refine zJ (List.length_filter_le _ _) ?_;rw[jc];omega
     have hB:bytesOf Tryz.prog 9=16:=wE;obtain⟨Q,H3,L3,hA,V,x3,n3⟩:=(g.ext Y fun _ _=>wE).append (P:=Tryz.prog) (st:=29) (xt:=29) (e:=9) (x:=.osl I 1 0 1 1) (xs:=[.str s.nodes[k].name]) (m:=1) wE wE (by simp[-qd,g2]) wE wC wE wC (by rw[hB,qjj];simp only[qF];omega) (by rw[qjj];simp only[qF];omega);have W:Ext [] H H3:=(hx.trans Y (NewL.refl _ _)).trans x3 fun i hi=>.inr (f i hi);simp[-qd,-qr,-qJ,O,J,E,l,p,A,hw,kx,u,w,a,e2,l2,hA,qkg a];refine⟨k+1,wC,wC,Q,L3,?_,W,fun j hj=>?_,rfl,wC⟩
     .rw[zS,List.filter_append];simpa[K,jG] using V
     .have:=Y.len;have:=hx.len;rcases n3 j hj with M|M
      .exact f j M
      .omega
  .have A:=zw z;have KZ:k=s.nodes.length:=wC;have X:(if s.off then[] else((s.nodes.take k).filter (·.there)).map (·.name))=N:=(by rw[KZ,List.take_length,<-G];rfl);rw[X] at g;obtain⟨t,c,S,f2,F,f4⟩:=fin d H' L g hx f;simp[-qd,-j9,O,J,E,l,p,A,S,f2];cases c with
   |false=>exact .inl ⟨_,⟨rfl,rfl⟩,F⟩
   |true=>exact .inr ⟨_,⟨rfl,rfl⟩,F,f4 rfl⟩
theorem qxO[MaxL][TxtC]{H:qe}{b:Nat}{x y:Sl UInt8}(h:qd H b=some [(.vsl x.nil (qf x.l) x.l.length),(.vsl y.nil (qf y.l) y.l.length)])(hx:x.l.length<=1000000):
  ∃T a,call cx 41 [.optr b 2 0] H=some (.vsl a (qf x.l) x.l.length,T)/\Ext [] H T/\(a=true->x.l=[]):=by
 obtain⟨p,k,q,m⟩:=qlH x hx;obtain⟨c,d,e,f⟩:=m H;obtain⟨r,g⟩:=ql (shift H.length p);obtain⟨n,e2⟩:=ql (H++k);rw[g,e2] at d;rw[e2] at e f;obtain⟨a,o,j⟩:=qjr d;refine⟨jS n c,a,j6 Tryz.func41 rfl ⟨rfl,rfl⟩ ?_,e.trans (qgY c) fun i hi=>.inr (by have:=f i hi;omega),j⟩;simp[-qd,-qn,-qr,-j9,Tryz.f41,h,q,g,e2,o]
def zM(s:Fs)(name:List UInt8):List UInt8:=if vW s name≠0 then[] else match(kH s.nodes name).bind (s.nodes[·]?) with|some n=>n.b.l|none=>[]
theorem qtL[MaxL][TxtC]{H:qe}{q:Nat}{s:Fs}{v:FSv}(h:FSw H q s v)(G:s.nodes.length<100000)(F:∀n,n∈s.nodes->n.b.l.length<=1000000)(name:List UInt8)(z:name.length<1000000):
  ∃T e,call cx 16 [.optr q 5 0,.str name] H=some (.tup [.vsl e (qf (zM s name)) (zM s name).length,.int .i64 (vW s name)],T)/\Ext [] H T/\(e=true->zM s name=[]):=by
 obtain⟨r,o⟩:=ql (qr H [.str name]);have g:=zL o;have B:FSw r q s v:=h.ext g fun _ _=>by simp
 have a:=qkU h wC name z;rw[o] at a;by_cases d:vW s name=0
 rotate_left
 .have u:¬((vW s name:Nat):Int)=0:=by omega
  have j:zM s name=[]:=by simp[zM,d]
  rw[j];refine⟨r,true,j6 Tryz.func16 rfl ⟨rfl,rfl⟩ ?_,g,fun _=>rfl⟩;simp[-qd,-qn,-qr,Tryz.f16,a,d];try rfl
 obtain⟨y,i,c⟩:=qtO d;obtain⟨hi,t,E⟩:=qkW c;have hiv:i<v.nd.length:=by rw[h.len];exact hi
 obtain⟨p,m⟩:=B.node i _ _ (qM hi) (Yh hiv);have k:=F _ (vC hi);have x:s.nodes[i]?=some s.nodes[i]:=qM hi;simp only[Nd.cells] at p;simp only[Nd.data] at m;have f:qfv s v name=.optr (Za v i) 3 0:=by simp[qfv,y,c]
 rw[d,f] at a;have j:zM s name=s.nodes[i].b.l:=by simp[zM,d,c,x]
 obtain⟨T,e,A,w,C⟩:=qxO m k;rw[j,d];refine⟨T,e,j6 Tryz.func16 rfl ⟨rfl,rfl⟩ ?_,g.trans w (NewL.refl _ _),C⟩;simp[-qd,-qn,-qr,Tryz.f16,a,p,A]
theorem q4i[MaxL][TxtC]{H:qe}{q:Nat}{s:Fs}{v:FSv}(h:FSw H q s v):call cx 29 [.optr q 5 0] H=some (.bool s.off,H):=by
 have a:=h.root;simp only[Fs.cells] at a;refine j6 Tryz.func29 rfl ⟨rfl,rfl⟩ ?_;simp[-qd,Tryz.f29,a]
theorem JGrow.side{H K T:qe}{q:Nat}{m a:Jm}{L:List Nat}(g:JGrow H K q m a)(x:Ext L K T)(c:∀i,i∈L->H.length<=i)(b:∀i,i∈a.names q->i∉L):JGrow H T q m a:=
 {g with w:=qfo g.w x b,ext:=g.ext.trans x (fun i hi=>.inr (c i hi))}
structure ApA (H:qe) (q:Nat) (m:Jm) (o:ID) (i:Nat) (K:qe) (m':Jm) (w:List Nat) (wD pD:D) (pc:List D) (Lw Lp:List Nat):Prop where
 g:JGrow H K q m m'
 da:m'.da.length<=m.da.length+i
 fi:m'.fi.length<=m.fi.length+i
 bl:m'.b.length<=m.b.length+171*i
 cn:∀k,k∈m'.da->k.cnt<=4*m.ne
 id:qd K H.length=some (qf o.l)
 idN:H.length∉m'.names q
 wR:RowA K 1 wD (qP .i64 w) Lw
 pR:RowA K 1 pD pc Lp
 wl:w.length=i
 pl:pc.length=i
 wb:∀j,j∈w->j<m'.da.length
 ps:qkC pc
 wN:∀j,j∈Lw->j∉m'.names q/\H.length<j
 pN:∀j,j∈Lp->j∉m'.names q/\H.length<j/\j∉Lw
theorem qsJ{cs:List D}(h:qkC cs):cs.all idFree=true:=List.all_eq_true.2 fun d a=>by
 obtain⟨s,rfl,_⟩:=h d a;rfl
theorem ApA.next{H K G E x C:qe}{q:Nat}{m p f:Jm}{o:ID}{i:Nat}{w:List Nat}{V T:D}{t:List D}{v u:List Nat}(h:ApA H q m o i K p w V T t v u)(gr:JGrow K G q p f)
  {kk:Nat} (W:kk<f.da.length) (hb:f.b.length<=p.b.length+171) (R:f.da.length<=p.da.length+1) (l:p.da.length<=f.da.length) (hf:f.fi.length<=p.fi.length+1) (P:∀k,k∈f.da->k∈p.da\/k.cnt=0)
  {s:List UInt8} (hs:s.length<=1000) {r:Nat} (A:qd E r=some (t++[.vsl false (qf s) s.length])) (Q:Ext u G E) (N:r∈u\/G.length<=r) (F:Ext v E x) (I:Ext [] x C) {a:Nat} (ha:a<=w.length)
  (X:qd C x.length=some (qP .i64 (w.take a++kk::w.drop a))):
  ApA H q m o (i+1) C f (w.take a++kk::w.drop a) (.osl x.length (w.length+1) 0 (w.length+1) 1) (.osl r (t.length+1) 0 (t.length+1) 1) (t++[.vsl false (qf s) s.length]) [x.length] [r]:=by
 have n1:∀j,j<K.length->j∉p.names q->j∉f.names q:=fun j c hn hc=>(gr.new j hc).elim hn (fun jF=>wC);have J:H.length<K.length:=qx h.id;have M:∀j,j∈u->j<K.length:=fun j c=>h.pR.lt c;have S:∀j,j∈v->j<K.length:=fun j c=>h.wR.lt c;have l1:=gr.ext.len;have l5:=Q.len;have l6:=F.len;have l7:=I.len;have y:∀j,j∈f.names q->j<G.length:=fun j c=>qda gr.w c;have z:∀j,j∈f.names q->j∉u:=fun j c hc=>n1 j (M j hc) (h.pN j hc).1 c;have L:∀j,j∈f.names q->j∉v:=fun j c hc=>n1 j (S j hc) (h.wN j hc).1 c
 have O:r∉v:=fun hc=>by
  rcases N with e|e
  .exact(h.pN r e).2.2 hc
  .have:=S r hc;omega
 have aa:r<E.length:=qx A;have Z:=(((h.g.trans gr).side Q (fun j c=>by have:=(h.pN j c).2.1;omega) z).side F (fun j c=>by have:=(h.wN j c).2;omega) L).side I (fun j c=>by simp at c) (fun j _=>wE);have B:H.length∉u/\H.length∉v:=⟨fun hc=>by have:=(h.pN _ hc).2.1;omega,fun hc=>by have:=(h.wN _ hc).2;omega⟩;refine⟨Z,by have:=h.da;omega,by have:=h.fi;omega,by have:=h.bl;omega,fun k U=>?_,?_,n1 _ J h.idN,?_,?_,?_,?_,?_,?_,?_,?_⟩
 .rcases P k U with e|e
  .exact h.cn k e
  .omega
 .exact I.get (F.get (Q.get (gr.ext.get h.id h.idN) B.1) B.2) wE
 .have:=RowA.of (H:=C) (k:=1) (n:=w.length+1) (cs:=qP .i64 (w.take a++kk::w.drop a)) wG X;have Y:(qP .i64 (w.take a++kk::w.drop a)).length=w.length+1:=by simp;omega
  rw[Y] at this;exact this
 .have hg:=I.get (F.get A O) wE;have:=RowA.of (H:=C) (k:=1) (n:=t.length+1) wE hg;rw[zo,List.length_singleton] at this;exact this
 .have:=h.wl;simp;omega
 .rw[zo,h.pl];rfl
 .intro j c;simp only[jW,jC] at c;rcases c with c|rfl|c
  .exact vd (h.wb j (QX c)) l
  .exact W
  .exact vd (h.wb j (Zz c)) l
 .intro d R;rcases List.mem_append.1 R with e|e
  .exact h.ps d e
  .exact⟨Sl.mk false s wE,List.mem_singleton.1 e,wJ⟩
 .intro j c;rw[List.mem_singleton.1 c];exact⟨fun hc=>by have:=y _ hc;omega,wC⟩
 .intro j c;rw[List.mem_singleton.1 c];refine⟨fun hc=>?_,?_,wG⟩
  .rcases N with e|e
   .exact z r hc e
   .have:=y _ hc;omega
  .rcases N with e|e
   .exact(h.pN r e).2.1
   .omega
theorem qxm{H:qe}{v:D}{cs:List D}{L:List Nat}{k n:Nat}(h:RowA H k v cs L)(b:cs.all idFree=true)(e:cs.length=n*k)(j:0<k):∃a,j9 H 9 v=some (.vsl a cs n,L)/\(a=true->n=0):=by
 rcases h with⟨rfl,rfl,rfl⟩|⟨r,g,rfl,l,c,rfl⟩
 .have f:n*k=0:=by simpa using e.symm
  have i:n=0:=(Nat.mul_eq_zero.1 f).resolve_right wC;subst i;exact⟨true,by simp[j9,idFree],fun _=>rfl⟩
 .have d:g=n:=Nat.eq_of_mul_eq_mul_right j wC;subst d;refine⟨false,?_,fun h=>wP⟩;unfold j9;rw[if_neg xE];simp only[c];rw[if_pos ⟨trivial,wC⟩,if_pos (by rw[Q0];exact b),List.drop_zero,qH wC]
structure ApE (H T:qe) (q:Nat) (m m':Jm):Prop where
 w:JmW T q m'
 ok:m'.Ok
 main:ArrOk m'.b.length m'.main m'.ne
 cn:∀k,k∈m'.da->k.cnt<=4*m'.ne
 ext:Ext (m.names q) H T
 new:NewL (m.names q) (m'.names q) H.length
 ne:m'.ne=m.ne+1
 tl:m'.tl=m.tl+1
 bl:m'.b.length<=m.b.length+2200
 da:m'.da.length<=m.da.length+4
 fi:m'.fi.length<=m.fi.length+4
structure ApC (H:qe) (q:Nat) (m:Jm) (o:ID) (i:Nat) (K:qe) (m':Jm) (itD:D) (ic:List D) (Li:List Nat):Prop where
 g:JGrow H K q m m'
 id:qd K H.length=some (qf o.l)
 iR:RowA K 2 itD ic Li
 il:ic.length=i*2
 iu:JE ic
 iN:∀j,j∈Li->j∉m'.names q/\H.length<j
def apJ(q:Nat)(H:qe)(m h:Jm)(o:ID)(w:List Nat)(c:List D)(d b:Bool)(j k p:Nat)(i:Nat)(e:qu)(K:qe):Prop:=
 i<=w.length/\qi e 0=some (.optr q 147 0)/\qi e 2=some (.int .u64 j)/\qi e 3=some (.int .u64 k)/\qi e 9=some (.optr H.length 16 0)/\qi e 14=some (.optr p 147 0)/\qi e 16=some (.vsl d (qP .i64 w) w.length)/\qi e 17=some (.vsl b c c.length)/\qi e 21=some (.int .i64 i)/\∃a f g,qi e 15=some a/\ApC H q m o i K h a f g
structure ApD (H:qe) (q:Nat) (m:Jm) (o:ID) (dl:Nat) (i:Nat) (K:qe) (m5:Jm):Prop where
 w:JmW K q m5
 ok:m5.Ok
 ext:Ext (m.names q) H K
 new:NewL (m.names q) (m5.names q) H.length
 ne:m5.ne=m.ne
 tl:m5.tl=m.tl
 main:ArrOk m5.b.length m5.main (m.ne+1)
 bl:m5.b.length<=m.b.length+(1000+280*i)
 dl:m5.da.length=dl
 da:m5.da.length<=m.da.length+4
 fi:m5.fi.length<=m.fi.length+4
 cn:∀k,k∈m5.da->k.cnt<=4*m.ne+i
 id:qd K H.length=some (qf o.l)
 idN:H.length∉m5.names q
def apK(q:Nat)(H:qe)(m:Jm)(o:ID)(w:List Nat)(b:Bool)(f g p seq a c:Nat)(i:Nat)(e:qu)(K:qe):Prop:=
 i<=w.length/\qi e 0=some (.optr q 147 0)/\qi e 2=some (.int .u64 f)/\qi e 3=some (.int .u64 g)/\qi e 9=some (.optr H.length 16 0)/\qi e 14=some (.optr p 147 0)/\qi e 16=some (.vsl b (qP .i64 w) w.length)/\qi e 23=some (.int .u64 seq)/\qi e 24=some (.int .u64 a)/\qi e 26=some (.int .i64 m.ne)/\qi e 27=some (.int .i64 i)/\∃d,ApD H q m o c i K d
theorem qwX{j k:Nat}(h:j<=k):vq j<=vq k:=by
 induction h with
 |refl=>exact qA _
 |step _ a=>have:=@qjq;exact zJ a (qfJ qjq)
theorem qvG{c:Nat}{a:List Nat}{n:Nat}(h:ArrOk c a n){k:Nat}(f:n<=vq k):a.length<=k:=by
 cases b:a.length with
 |zero=>omega
 |succ j=>
  have e:=h.lo j b;by_cases d:j<k
  .omega
  .have:=qwX (show k<=j from wC);omega
theorem qnu{a k:Nat}(h:a<=k)(b:k<=5):Jk a<=4*2^k:=by
 unfold Jk;rw[if_pos wC];exact Nat.mul_le_mul_left _ (qfI wC h)
def apI(q:Nat)(H:qe)(m:Jm)(o:ID)(out:List Pr)(g h p:Nat)(i:Nat)(e:qu)(K:qe):Prop:=
 i<=out.length/\qi e 0=some (.optr q 147 0)/\qi e 2=some (.int .u64 g)/\qi e 3=some (.int .u64 h)/\qi e 9=some (.optr H.length 16 0)/\qi e 12=some (.vsl false (qt out) out.length)/\qi e 14=some (.optr p 147 0)/\qi e 15=some (.vsl true [] 0)/\qi e 18=some (.int .i64 i)/\∃f w a b d j c,qi e 16=some a/\qi e 17=some b/\ApA H q m o i K f w a b d j c
theorem q2O[MaxL][TxtC]{H:qe}{q:Nat}{m:Jm}(h:JmW H q m)(hk:m.Ok)(cX:ArrOk m.b.length m.main m.ne)(fO:∀k,k∈m.da->k.cnt<=4*m.ne)(ps:List Pr)(kC:1<=ps.length)(fu:ps.length<=4)(fM:∀p∈ps,VT p=true)(rt mo:Nat)(cT:rt<18446744073709551616)(dC:mo<18446744073709551616)(o:ID)(qQ:m.ne<=5)(jR:m.b.length<=25000)(X8:m.tl<1000000)(io:m.da.length<=500)(iG:m.fi.length<=500):
  ∃T G,call cx 58 [.optr q 147 0,.vsl false (qt ps) ps.length,.int .u64 rt,.int .u64 mo,.agg (qf o.l)] H=some (.tup [.int .u64 (m.tl+1:Nat),.int .i64 0],T)/\ApE H T q m G:=by
 suffices hs:∃r,call cx 58 [.optr q 147 0,.vsl false (qt ps) ps.length,.int .u64 rt,.int .u64 mo,.agg (qf o.l)] H=some r/\∃(T:qe)(G:Jm),r=(.tup [.int .u64 (m.tl+1:Nat),.int .i64 0],T)/\ApE H T q m G by
  obtain⟨r,hc,T,G,rfl,t⟩:=hs;exact⟨T,G,hc,t⟩
 refine vx (X:=cx) (f:=58) _ Tryz.func58 rfl ⟨rfl,rfl⟩ ?_;obtain⟨K1,jx⟩:=ql (qr H (qf o.l));have x1:=zL jx;have eX:=js jx;obtain⟨_,cH,out,iS,iV,fK,rfl⟩:=qpg ps kC fu fM;have g1:=(JGrow.refl h hk).side x1 (fun i hi=>wU) (fun i _=>wE);have dk:=qk7 g1.w;obtain⟨K2,p,gA,x2⟩:=q2M g1.w hk;have g2:=g1.side x2 (fun i hi=>wU) (fun i _=>wE);have eB:qd K2 H.length=some (qf o.l):=x2.get eX wE;have fq:¬(m.tl:Int)=18446744073709551615:=wC
 have gM:¬m.tl=18446744073709551615:=wC
 have lo:=o.h
 have co:(∀x,x∈qf o.l->closed H.length x=true)=True:=eq_true fun x hx=>by
  simp only[qf,ZI] at hx;obtain⟨_,_,rfl⟩:=hx;rfl
 simp[-qd,-qn,-qr,-qJ,-j9,-ZK,Tryz.f58,lo,jx,cH,dk,fq,gA];refine Vv (apI q H m o out rt mo p) (fun i=>out.length-i) 0 (fun ex e K=>ex=.exit 0/\apI q H m o out rt mo p out.length e K) ?_ ?_ ?_
 .refine⟨vp _,wE,wE,wE,wE,wE,wE,wE,wE,m,[],.vsl true [] 0,.vsl true [] 0,[],[],[],wE,wE,g2,wC,wC,wC,fO,eB,?_,RowA.nil _ _,RowA.nil _ _,rfl,rfl,fun j y=>xQ,fun d hd=>by simp at hd,fun j y=>xQ,fun j y=>xQ⟩;intro hc;have:=qda h hc;omega
 .rintro i e K ⟨hi,V,Z,Y,W,ae,E,M,ac,G,w,wD,pD,pc,Lw,Lp,F,O,A⟩;by_cases qg:i<out.length
  .have qo:=zq qg;have hw:=qz ((i:Int)+1) ((i+1:Nat):Int);have hp:=q0A (fK _ (vC qg));have iT:=A.da;have iF:=A.fi;have ir:=A.bl;have iH:=A.wl;have iU:=A.pl;obtain⟨bI,m1,kk,dP,gr,KZ,dY,Zu,fZ,aJ,dS⟩:=q2L A.g.w A.g.ok out[i] wC wC wC wC wC;have iB:(Enc.cells out[i]:List D)=[.str out[i].name,.str out[i].value]:=rfl
   have ai:qt m1.da≠[]:=fun e0=>by
    have:=Ja m1.da;rw[e0] at this;simp at this;omega
   obtain⟨ro,nn,bp,vw,ZW,cN⟩:=gr.w.rowD.own ai
   have jh:nn=m1.da.length:=by
    have:=Ja m1.da;rw[this] at vw;simp at vw;omega
   subst jh;have zH:(qt m1.da).length=m1.da.length*5:=vw;have aA:=gr.w.root;have aw:=gr.w.len;have Q:=jD gr.w.c144;rw[bp,zH] at Q;obtain⟨k,r0,Ki,vF,vA,aL,cC⟩:=qdc KZ;have Yq:=(gr.ok.da k Ki).txt;have bt:(kk:Int)<(m1.da.length:Int):=wC;obtain⟨r,K4,K5,aZ,fU,g5,x5,hr⟩:=qzo bI (A.pR.ext gr.ext (fun j y=>(A.pN j y).1)) (qsJ A.ps) k.text wC;obtain⟨Ka,QU⟩:=ql (qr bI (qf k.text));rw[QU] at aZ;have cZ:bI.length<Ka.length:=(by rw[<-QU,jb];omega);have eq:Ka≠[]:=fun e0=>by rw[e0] at cZ;simp at cZ
   obtain⟨Kb,Jx⟩:=ql (qr Ka [.osl bI.length k.text.length 0 k.text.length 1]);rw[Jx] at aZ;have gy:=(A.wR.ext gr.ext (fun j y=>(A.wN j y).1)).ext x5 (fun j y hc=>(A.pN j hc).2.2 y);obtain⟨nl,VX,zB⟩:=qhj gy (by simp[qP,idFree]);rw[qkh] at VX;obtain⟨K6,Qn⟩:=ql (jS K5 Lw);have x6:Ext Lw K5 K6:=Qn▸qgY Lw
   have eH:∀j,j∈m1.names q->j∉Lp:=fun j y hc=>by
    have:=A.pR.lt hc;rcases gr.new j y with t|t
    .exact(A.pN j hc).1 t
    .omega
   have dK:∀j,j∈m1.names q->j∉Lw:=fun j y hc=>by
    have:=A.wR.lt hc;rcases gr.new j y with t|t
    .exact(A.wN j hc).1 t
    .omega
   have dA:qd K6 q=some m1.cs:=x6.get (x5.get aA (eH _ VS)) (dK _ VS);have dU:ro∈m1.names q:=qh8 (by rw[cN];simp);have dQ:qd K6 ro=some (qt m1.da):=x6.get (x5.get ZW (eH _ dU)) (dK _ dU);simp[-qd,-qn,-qr,-qJ,-j9,-ZK,-jS,-Kn.ea,V,Z,Y,W,ae,E,M,F,O,ac,qg,qo,dP,aA,aw,Q,bt,ZW,zH,vF,QU,Jx,eq,aZ,fU,VX,Qn];clear V Z Y W ae E M F O ac;obtain⟨IB,dg⟩:∃I:Nat->qu->qe->Prop,I=fun(a:Nat)(e:qu)(J:qe)=>a<=w.length/\qi e 0=some (.optr q 147 0)/\qi e 2=some (.int .u64 rt)/\qi e 3=some (.int .u64 mo)/\qi e 9=some (.optr H.length 16 0)/\qi e 12=some (.vsl false (qt out) out.length)/\qi e 14=some (.optr p 147 0)/\qi e 15=some (.vsl true [] 0)/\qi e 18=some (.int .i64 i)/\qi e 16=some (.vsl nl (qP .i64 w) w.length)/\qi e 17=some (.osl r (pc.length+1) 0 (pc.length+1) 1)/\qi e 19=some (.int .i64 kk)/\qi e 20=some (.int .i64 a)/\J=K6:=⟨_,rfl⟩;refine Vv IB (fun a=>a) w.length (fun ex e J=>ex=.exit 2/\∃a,IB a e J) ?_ ?_ ?_
   .rw[dg];exact⟨qA _,wE,wE,wE,wE,wE,wE,wE,wE,wE,wE,wE,wE,rfl⟩
   .rw[dg];rintro a e J ⟨ha,V,Z,Y,W,ae,E,M,ac,F,O,bA,aT,rfl⟩;by_cases Y1:a=0
    .subst Y1;simp[-qd,-qn,-qr,V,Z,Y,W,ae,E,M,F,O,ac,bA,aT];exact⟨0,wC,rfl⟩
    .obtain⟨b,rfl⟩:∃b,a=b+1:=⟨a-1,wC⟩;have jR:b<w.length:=wC;have cp:(b:Int)<(w.length:Int):=wC;have iD:=qz ((b:Int)+1-1) (b:Int);have aU:=qz (b:Int) (b:Int);have eP:(0:Int)<(b:Int)+1:=wC;have qR:=qes (k:=.i64) jR;obtain⟨j1,Z9⟩:=ql (w[b]);rw[Z9] at qR;have V0:j1<m1.da.length:=vd (A.wb j1 (Z9▸vC jR)) aJ;have ah:(j1:Int)<(m1.da.length:Int):=wC;obtain⟨k2,r2,gL,iJ,im,cq,gV⟩:=qdc V0
     have vI:nl=false:=by
      cases bu:nl with
      |false=>rfl
      |true=>
       have h0:w=[]:=(by simpa[qP] using zB bu);rw[h0] at jR;simp at jR
     subst vI;by_cases dO:k.at_<k2.at_
     .have bb:=zq dO;simp[-qd,-qn,-qr,-Kn.ea,V,Z,Y,W,ae,E,M,F,O,ac,bA,aT,cp,aU,eP,qR,ah,dA,aw,Q,dQ,zH,cq,aL,bt,bb];exact⟨b,wC,wC,rfl⟩
     .have bb:=zw dO;simp[-qd,-qn,-qr,-Kn.ea,V,Z,Y,W,ae,E,M,F,O,ac,bA,aT,cp,aU,eP,qR,ah,dA,aw,Q,dQ,zH,cq,aL,bt,bb];exact⟨b+1,ha,wC⟩
   .rw[dg];rintro ex e J ⟨rfl,a,ha,V,Z,Y,W,ae,E,M,ac,F,O,bA,aT,rfl⟩;obtain⟨T1,T2,T3,i1,i2,i3,g7,x7,ix⟩:=q2Z J nl w a kk ha wC;obtain⟨K7,eR⟩:=ql (qr J []);rw[eR] at i1;have XL:(a:Int)<=(w.length:Int):=wC;have fJ:List.take (w.length-a) (List.drop a (qP .i64 w))=List.drop a (qP .i64 w):=qH wE;have JM:qr [] [D.int .i64 (kk:Nat)]=[some [.int .i64 (kk:Nat)]]:=rfl;simp[-qd,-qn,-qr,-qJ,V,Z,Y,W,ae,E,M,F,O,ac,bA,aT,XL,eR,i1,i2,i3,hw,JM,fJ];exact⟨i+1,wC,wC,wE,wE,wE,wE,wE,wE,wE,wE,m1,w.take a++kk::w.drop a,.osl J.length (w.length+1) 0 (w.length+1) 1,.osl r (pc.length+1) 0 (pc.length+1) 1,_,_,_,wE,wE,A.next gr KZ wC Zu aJ fZ dS Yq g5 x5 hr x6 x7 ha g7⟩
  .have qo:=zw qg;have ZA:i=out.length:=wC;subst ZA;simp[-qd,-qn,-qr,V,Z,Y,W,ae,E,M,F,O,ac];exact⟨qA _,wE,wE,wE,wE,wE,wE,wE,wE,G,w,wD,pD,pc,Lw,Lp,wE,wE,A⟩
 .rintro ex e K ⟨rfl,-,V,Z,Y,W,ae,E,M,ac,G,w,wD,pD,pc,Lw,Lp,F,O,A⟩;have QI:=A.wl;have iL:=A.pl;have gP:=A.bl;have dD:(qP .i64 w).all idFree=true:=by simp
  obtain⟨nl,VX,zB⟩:=qhj A.wR dD;obtain⟨cW,eQ,bu⟩:=qhj A.pR (qsJ A.ps);rw[qkh] at VX;obtain⟨K8,Kp⟩:=ql (jS K (Lw++Lp));have x8:Ext (Lw++Lp) K K8:=Kp▸qgY _
  have g8:=A.g.side x8 (fun j y=>by
   rcases List.mem_append.1 y with t|t
   .have:=(A.wN j t).2;omega
   .have:=(A.pN j t).2.1;omega) (fun j y hc=>by
   rcases List.mem_append.1 hc with t|t
   .exact(A.wN j t).1 y
   .exact(A.pN j t).1 y)
  have dV:qd K8 H.length=some (qf o.l):=x8.get A.id (fun hc=>by
   rcases List.mem_append.1 hc with t|t
   .have:=(A.wN _ t).2;omega
   .have:=(A.pN _ t).2.1;omega)
  simp[-qd,-qn,-qr,-qJ,-j9,-ZK,-jS,V,Z,Y,W,E,M,F,O,VX,eQ,Kp];refine Vv (apJ q H m G o w pc nl cW rt mo p) (fun i=>w.length-i) 0 (fun ex e K=>ex=.exit 4/\apJ q H m G o w pc nl cW rt mo p w.length e K) ?_ ?_ ?_
  .exact⟨vp _,wE,wE,wE,wE,wE,wE,wE,wE,.vsl true [] 0,[],[],wE,g8,dV,RowA.nil _ _,rfl,q2U,fun j y=>xQ⟩
  .clear V Z Y W ae E M F O ac;rintro i e J ⟨hi,V,Z,Y,W,E,F,O,bN,eA,ic,Li,M,C⟩;by_cases qg:i<w.length
   .have qo:=zq qg;have hw:=qz ((i:Int)+1) ((i+1:Nat):Int)
    have vI:nl=false:=by
     cases ax:nl with
     |false=>rfl
     |true=>
      have h0:w=[]:=(by simpa[qP] using zB ax);rw[h0] at qg;simp at qg
    subst vI;have qR:=qes (k:=.i64) qg;obtain⟨j1,Z9⟩:=ql (w[i]);rw[Z9] at qR;have V0:j1<G.da.length:=A.wb j1 (Z9▸vC qg);have ah:(j1:Int)<(G.da.length:Int):=wC;obtain⟨k,r0,Ki,vF,vA,aL,cC⟩:=qdc V0;have ai:qt G.da≠[]:=fun e0=>by rw[e0] at vF;simp at vF
    obtain⟨ro,nn,bp,vw,ZW,cN⟩:=C.g.w.rowD.own ai
    have jh:nn=G.da.length:=by
     have:=Ja G.da;rw[this] at vw;simp at vw;omega
    subst jh;have zH:(qt G.da).length=G.da.length*5:=vw;have aA:=C.g.w.root;have aw:=C.g.w.len;have Q:=jD C.g.w.c144;rw[bp,zH] at Q;have fV:=jD C.g.w.c51;have cY:=C.g.w.file;have Yq:=(C.g.ok.da k Ki).txt;have gg:=(C.g.ok.da k Ki).at_;have fw:=C.g.ok.bmax;obtain⟨Ka,QU⟩:=ql (qr J [.str k.text,.int .u64 (k.at_:Nat),.int .i64 (k.slot:Nat),.int .i64 (k.cnt:Nat),.vsl k.nil (qP .u64 k.arrs) k.arrs.length]);have xa:Ext [] J Ka:=QU▸Ext.new J _;have ga:qd Ka J.length=some [.str k.text,.int .u64 (k.at_:Nat),.int .i64 (k.slot:Nat),.int .i64 (k.cnt:Nat),.vsl k.nil (qP .u64 k.arrs) k.arrs.length]:=(by rw[<-QU,zF]);have fN:qd Ka q=some G.cs:=xa.get aA wE;obtain⟨qh,KX,xh,JH,rfl⟩:=qka G.key G.file (Sl.mk false k.text wE) wJ;unfold jq at JH;obtain⟨xn,rfl⟩:∃xn:Nat,xh=(xn:Int):=⟨xh.toNat,wC⟩;have fz:xn<18446744073709551616:=wC;replace KX:call cx 102 [.bool G.key,.agg (qf G.file.l),.vsl false (qf k.text) k.text.length] []=some (.int .u64 (xn:Int),[]):=KX;obtain⟨Kb,Jx⟩:=ql (qr Ka (qf k.text));have xb:=zL Jx;have gb:qd Kb Ka.length=some (qf k.text):=(by rw[<-Jx,zF]);obtain⟨Kc,Zh⟩:=ql (qr Kb [.int .u64 (k.at_:Nat),.int .u64 (xn:Nat)]);have xc:=zL Zh;have gc:qd Kc Kb.length=some [.int .u64 (k.at_:Nat),.int .u64 (xn:Nat)]:=(by rw[<-Zh,zF]);have cZ:J.length<Ka.length:=qx ga;have iQ:Ka.length<Kb.length:=qx gb;have fW:List.take k.text.length (qf k.text)=qf k.text:=qH wE;have vS:=C.il;obtain⟨eG,Kd,gu,hA,fP,xd,nd⟩:=(((C.iR.ext xa (fun _ _=>wE)).ext xb (fun _ _=>wE)).ext xc (fun _ _=>wE)).append (P:=Tryz.prog) (st:=198) (xt:=198) (e:=207) (x:=.osl Kb.length 2 0 1 2) (xs:=[.int .u64 (k.at_:Nat),.int .u64 (xn:Nat)]) (m:=1) wE wE (by simp[-qd,gc]) wE wC wE wC wM wM;simp[-qd,-qn,-qr,-qJ,-Kn.ea,V,Z,Y,W,E,M,F,O,bN,qo,qR,hw,ah,aA,aw,Q,ZW,zH,vF,zF,qdm,QU,ga,fN,fV,cY,KX,Jx,gb,Zh,hA,fW];have eb:H.length∉Li:=fun hc=>by have:=(C.iN _ hc).2;omega
    refine⟨i+1,wC,wC,wE,wE,wE,wE,wE,wE,wE,wE,eG,ic++[.int .u64 (k.at_:Nat),.int .u64 (xn:Nat)],gu,wE,?_,?_,fP,?_,?_,fun j y=>?_⟩
    .exact(((C.g.side xa (fun j y=>xQ) (fun j _=>wE)).side xb (fun j y=>xQ) (fun j _=>wE)).side xc (fun j y=>xQ) (fun j _=>wE)).side xd (fun j y=>by have:=(C.iN j y).2;omega) (fun j y hc=>(C.iN j hc).1 y)
    .exact xd.get (xc.get (xb.get (xa.get C.id wE) wE) wE) eb
    .rw[zo,vS];simp;omega
    .intro d hd;rcases List.mem_append.1 hd with t|t
     .exact C.iu d t
     .simp only[jC,List.not_mem_nil,or_false] at t;rcases t with rfl|rfl
      .exact⟨_,rfl,wC⟩
      .exact⟨_,rfl,fz⟩
    .rcases nd j y with t|t
     .exact C.iN j t
     .have e1:=xa.len;have e2:=xb.len;have e3:=xc.len;have e4:=qx C.id;exact⟨fun hc=>by have:=qda C.g.w hc;omega,wC⟩
   .have qo:=zw qg;have ZA:i=w.length:=wC;subst ZA;simp[-qd,-qn,-qr,V,Z,Y,W,E,M,F,O,bN];exact⟨qA _,wE,wE,wE,wE,wE,wE,wE,wE,eA,ic,Li,wE,C⟩
  .clear V Z Y W ae E M F O ac;rintro ex e J ⟨rfl,-,V,Z,Y,W,E,F,O,bN,eA,ic,Li,M,C⟩;obtain⟨bK,ep,ax⟩:=qxm C.iR (qew C.iu) C.il wC;obtain⟨K9,Xh⟩:=ql (jS J Li);have x9:Ext Li J K9:=Xh▸qgY _;have g9:=C.g.side x9 (fun j y=>by have:=(C.iN j y).2;omega) (fun j y hc=>(C.iN j hc).1 y);have aV:qd K9 H.length=some (qf o.l):=x9.get C.id (fun hc=>by have:=(C.iN _ hc).2;omega);have aI:=qk7 g9.w;rw[g9.tl] at aI;obtain⟨seq,eW⟩:∃s,s=m.tl+1:=⟨_,rfl⟩;have gG:=zf ((m.tl:Int)+1) (seq:Int);obtain⟨_,ci,xx,gH,rfl⟩:=qwq cW pc A.ps bu wC;unfold jq at gH;obtain⟨xm,rfl⟩:∃xm:Nat,xx=(xm:Int):=⟨xx.toNat,wC⟩;have gh:xm<18446744073709551616:=wC;obtain⟨_,XD,te,iM,rfl⟩:=qzl seq rt mo o xm wC cT dC gh bK ic w.length C.iu C.il ax wC;replace XD:call cx 104 [.agg (.int .u64 (seq:Nat):: .int .u64 (rt:Nat):: .int .u64 (mo:Nat)::(qf o.l++[.int .u64 (xm:Nat),.vsl bK ic w.length]))] []=some (.vsl false (qf te) te.length,[]):=XD;have gX:=g9.ok.bmod;obtain⟨fj,bW,cE,aP,ff,fB,ip⟩:=qhO g9.w g9.ok te wC wC;obtain⟨aF,aj⟩:∃x,x=({G with b:=G.b++te,cs:=bW}:Jm):=⟨_,rfl⟩;rw[<-aj] at aP ff;have gY:aF.b.length=G.b.length+te.length:=(by rw[aj];simp);have ie:aF.cs=bW:=(by rw[aj]);have dc:aF.mn=G.mn:=(by rw[aj]);have cJ:aF.main=G.main:=(by rw[aj]);have aC:aF.ne=m.ne:=(by rw[aj];exact g9.ne);have er:=aP.root;have eh:=aP.len;have bV:=jD aP.c127;have cu:=jD aP.c146;rw[dc,cJ] at cu;rw[aC] at bV;have gv:=qz (m.ne:Int) (m.ne:Int)
   have eJ:ArrOk aF.b.length G.main m.ne:=by
    rw[g9.main];exact cX.mono (by have:=g9.bl;omega)
   have iq:=g9.ok.ft;have gQ:=g9.ok.bl;obtain⟨aQ,av,u,z,ao,hz,L,ag,gO,dH,fh⟩:=qsC aP ff G.mn G.main m.ne 176 G.b.length g9.ok.mn eJ wC wC wC wC
   have dh:∃al R,u=al::R:=by
    cases eZ:u with
    |nil=>exact absurd (ag.nil eZ) wC
    |cons al R=>exact⟨al,R,rfl⟩
   have dZ:jS K9 []=K9:=rfl;obtain⟨al,R,rfl⟩:=dh;obtain⟨u,au⟩:∃a,a=al::R:=⟨_,rfl⟩;rw[<-au] at ao ag;rw[show((176:Nat):Int)=176 from rfl] at ao;have ik:=qiJ ag;have iw:u.length=R.length+1:=(by rw[au];rfl);have eg:qP .u64 u=.int .u64 (al:Nat)::qP .u64 R:=(by rw[au];rfl);have dX:R.length<u.length:=wC;have cL:=qes (k:=.u64) dX;obtain⟨lv,dM⟩:=ql (u[R.length]);rw[dM] at cL;have eO:(R.length:Int)<(u.length:Int):=wC;have iA:(0:Int)<(u.length:Int):=wC;have ej:0<u.length:=wC;have eM:=qz ((u.length:Int)-1) (R.length:Int);have cB:=L.w.root;have dJ:=L.w.len;have bm:=q1Z L.w u;obtain⟨bn,bT⟩:∃C,C=av.cs.set 146 (.vsl false (qP .u64 u) u.length):=⟨_,rfl⟩;have em:List.take 146 av.cs++D.vsl false (qP .u64 u) u.length::List.drop 147 av.cs=bn:=(by rw[bT];exact vr wC);rw[<-bT] at bm;have gS:∀C,qd (qn aQ q C) q=some C:=fun C=>zj (qx cB);have fT:bn.length=147:=bm.len;have bo:=jD bm.c146;simp only at bo
   have fy:∀a,a∈u->a<18446744073709551616:=fun a ha=>by
    obtain⟨j,y⟩:=List.getElem?_of_mem ha;have:=ag.at_ j a y;have:=L.ok.bmax;omega
   have Zg:al<18446744073709551616:=fy al (by rw[au];simp);have aO:=X6 bm (i:=130) rfl (d:=.int .u64 (al:Nat)) ⟨al,rfl,Zg⟩;simp only[QJ] at aO;obtain⟨bv,cj⟩:∃C,C=bn.set 130 (.int .u64 (al:Nat)):=⟨_,rfl⟩;have gk:List.take 130 bn++D.int .u64 (al:Nat)::List.drop 131 bn=bv:=(by rw[cj];exact vr wC);rw[<-cj] at aO;have fG:bv.length=147:=aO.len;have aE:=jD aO.c146;simp only at aE;have gW:=ag.at_ R.length lv (by rw[qM dX,dM]);have fD:=L.ok.bmax;obtain⟨bz,cP⟩:∃v,v=lv:=⟨_,rfl⟩;have cK:bz<4294967296:=wC;have eN:IntKind.u32.wrap (lv:Int)=(bz:Int):=(by rw[cP,qjd];omega);have fm:=qdX (z:Int) (z:Int);have bj:=q1V aO bz cK;simp only[QJ] at bj;obtain⟨ba,bX⟩:∃C,C=bv.set 139 (.int .u32 (bz:Nat)):=⟨_,rfl⟩;have fx:List.take 139 bv++D.int .u32 (bz:Nat)::List.drop 140 bv=ba:=(by rw[bX];exact vr wC);rw[<-bX] at bj;have fE:ba.length=147:=bj.len;have aS:=q1U bj z wC;simp only[QJ] at aS;obtain⟨bk,bU⟩:∃C,C=ba.set 140 (.int .u32 (z:Nat)):=⟨_,rfl⟩;have gt:List.take 140 ba++D.int .u32 (z:Nat)::List.drop 141 ba=bk:=(by rw[bU];exact vr wC);rw[<-bU] at aS;have iI:bk.length=147:=aS.len;rw[eg] at em bo aE cL;have dB:List.drop 17 (qf o.l++[D.int .u64 0,.vsl true [] 0])=[.vsl true [] 0]:=(by simp[jd,List.drop_of_length_le,lo]);have gw:List.take 17 (qf o.l++[D.int .u64 (xm:Nat),.vsl true [] 0])=qf o.l++[D.int .u64 (xm:Nat)]:=(by simp[Zk,qH,lo]);have gp:List.drop 18 (qf o.l++[D.int .u64 (xm:Nat),.vsl true [] 0])=[]:=(by simp[lo]);have iK:ic.all idFree=true:=qew C.iu
   have ef:j9 K9 9 (.agg (.int .u64 (seq:Nat):: .int .u64 (rt:Nat):: .int .u64 (mo:Nat)::(qf o.l++[.int .u64 (xm:Nat),.vsl bK ic w.length])))=some (.agg (.int .u64 (seq:Nat):: .int .u64 (rt:Nat):: .int .u64 (mo:Nat)::(qf o.l++[.int .u64 (xm:Nat),.vsl bK ic w.length])),[]):=by
    unfold j9;rw[if_pos (by simp[idFree,Q0,qf])]
   simp[-qd,-qn,-qr,-qJ,-j9,-jS,V,Z,Y,W,E,M,F,O,ep,Xh,aV,aI,gG,ci,XD,cE,er,eh,bV,cu,gv,ao,lo,dB,gw,gp,ef,dZ,cB,dJ,em,gS,fT,bo,eg,ej,gk,QJ,fG,aE,eM,eO,cL,eN,fm,fx,fE,gt,kL];have dL:=qvG eJ (k:=2) (by rw[show vq 2=12 from rfl];omega);have iC:=qnu dL wC;obtain⟨bJ,bC⟩:=ql (qn aQ q bk);rw[bC] at aS⊢;obtain⟨aH,ak⟩:∃x,x=({av with mn:=false,main:=u,cs:=bk}:Jm):=⟨_,rfl⟩;have fk:JmW bJ q aH:=(by rw[ak];exact aS);have aW:aF.names q=G.names q:=(by rw[aj];rfl);have cF:aH.names q=av.names q:=(by rw[ak];rfl);have iO:H.length<K9.length:=qx aV;have cG:H.length∉G.names q:=A.idN
   have dq:H.length∉av.names q:=fun hc=>by
    rcases L.new _ hc with t|t
    .rw[aW] at t;exact cG t
    .omega
   have bZ:Ext (G.names q) K9 fj:=fB.mono fun i hi=>by
    simp only[jC,List.not_mem_nil,or_false] at hi;rcases hi with rfl|rfl
    .exact VS
    .exact KJ
   have cg:Ext (G.names q) fj aQ:=(by rw[<-aW];exact L.ext);have ch:Ext (G.names q) aQ bJ:=(bC▸Ext.set aQ q bk:Ext [q] aQ bJ).mono fun i hi=>by rw[List.mem_singleton.1 hi];exact VS
   have bh:=(bZ.trans cg (NewL.refl _ _)).trans ch (NewL.refl _ _);have aK:aH.da=G.da:=(by rw[ak];simp only;rw[dH,aj]);have cA:aH.fi=G.fi:=(by rw[ak];simp only;rw[fh,aj]);have gK:aH.b.length=av.b.length:=by rw[ak]
   have D0:ApD H q m o G.da.length 0 bJ aH:=by
    refine⟨fk,?_,g9.ext.trans bh g9.new,?_,?_,?_,?_,?_,by rw[aK],by rw[aK];have:=A.da;omega,by rw[cA];have:=A.fi;omega,by rw[aK];exact A.cn,bh.get aV cG,by rw[cF];exact dq⟩
    .rw[ak]
     exact{L.ok with
      main:=⟨av.ne+1,wJ,by simp only;rw[L.ne,aC];exact ag⟩
      mn:=fun h=>by simp at h}
    .rw[cF];intro i hi;rcases L.new i hi with t|t
     .rw[aW] at t;exact g9.new i t
     .exact .inr wC
    .rw[ak];simp only;rw[L.ne,aC]
    .rw[ak];simp only;rw[L.tl,aj];exact g9.tl
    .rw[ak];exact ag
    .omega
   have aU:∀j,j∈w->j<G.da.length:=A.wb;obtain⟨dl,jv⟩:∃d,d=G.da.length:=⟨_,rfl⟩;obtain⟨az,fg⟩:∃a,a=G.b.length:=⟨_,rfl⟩;rw[<-jv] at D0 aU;rw[<-fg];have bP:az<18446744073709551616:=(by have:=g9.ok.bmax;omega);have Yl:w.length<=4:=wC;have dF:nl=true->w=[]:=fun h=>by simpa[qP] using zB h
   clear ak bC Xh cE ao XD ci aK cA ef V Z Y W E M F O bN bh bZ cg ch L aS bj aO bm A C;refine Vv (apK q H m o w nl rt mo p seq az dl) (fun i=>w.length-i) 0 (fun ex e K=>ex=.exit 6/\apK q H m o w nl rt mo p seq az dl w.length e K) ?_ ?_ ?_
   .exact⟨vp _,wE,wE,wE,wE,wE,wE,wE,wE,wE,wE,aH,D0⟩
   .rintro i e J ⟨hi,V,Z,Y,W,E,F,aM,aR,aN,bM,S,B⟩;by_cases qg:i<w.length
    .have qo:=zq qg;have hw:=qz ((i:Int)+1) ((i+1:Nat):Int)
     have vI:nl=false:=by
      cases ax:nl with
      |false=>rfl
      |true=>
       rw[dF ax] at qg;simp at qg
     subst vI;have qR:=qes (k:=.i64) qg;obtain⟨j1,Z9⟩:=ql (w[i]);rw[Z9] at qR;have V0:j1<S.da.length:=(by rw[B.dl];exact aU j1 (Z9▸vC qg));have ah:(j1:Int)<(S.da.length:Int):=wC;obtain⟨k,r0,Ki,vF,vA,aL,cC⟩:=qdc V0;have ai:qt S.da≠[]:=fun e0=>by rw[e0] at vF;simp at vF
     obtain⟨ro,nn,bp,vw,ZW,cN⟩:=B.w.rowD.own ai
     have jh:nn=S.da.length:=by
      have:=Ja S.da;rw[this] at vw;simp at vw;omega
     subst jh;have zH:(qt S.da).length=S.da.length*5:=vw;have aA:=B.w.root;have aw:=B.w.len;have Q:=jD B.w.c144;rw[bp,zH] at Q;have aa:=B.ok.da k Ki;have gg:=aa.at_;have iE:=B.cn k Ki;have fw:=B.ok.bmax;have fH:=B.bl;have gU:=B.ne;obtain⟨Ka,QU⟩:=ql (qr J [.str k.text,.int .u64 (k.at_:Nat),.int .i64 (k.slot:Nat),.int .i64 (k.cnt:Nat),.vsl k.nil (qP .u64 k.arrs) k.arrs.length]);have xa:Ext [] J Ka:=QU▸Ext.new J _;have ga:qd Ka J.length=some [.str k.text,.int .u64 (k.at_:Nat),.int .i64 (k.slot:Nat),.int .i64 (k.cnt:Nat),.vsl k.nil (qP .u64 k.arrs) k.arrs.length]:=(by rw[<-QU,zF]);have wa:=X5 B.w xa;have ew:∀j,j∈S.names q->j<J.length:=fun j y=>qda B.w y;obtain⟨eC,gZ⟩:∃x,x=k.at_+40:=⟨_,rfl⟩;obtain⟨eY,gI⟩:∃x,x=k.at_+48:=⟨_,rfl⟩;obtain⟨dz,ij⟩:∃x,x=k.at_+56:=⟨_,rfl⟩;obtain⟨c1,Kl⟩:∃x,x=k.cnt-1:=⟨_,rfl⟩;obtain⟨c2,Q8⟩:∃x,x=k.cnt+1:=⟨_,rfl⟩;have fS:=zf ((k.at_:Int)+40) (eC:Int);have fQ:=zf ((k.at_:Int)+48) (eY:Int);have dN:=zf ((k.at_:Int)+56) (dz:Int);have ei:=qz ((k.cnt:Int)+1) (c2:Int);have ce:=zf (c2:Int) (c2:Int);have ee:j1*5+5<=S.da.length*5:=wC
     have key:∀(Kb:qe)(m6:Jm)(nk:Bool)(ar:List Nat),JGrow Ka Kb q S m6->m6.da=S.da->m6.fi=S.fi->m6.b.length<=S.b.length+280->ArrOk m6.b.length ar (c2-1)->(nk=true->ar=[])->
       ∃Kd T m7 U,call cx 107 [.optr q 147 0,.int .u64 dz,.int .u64 c2] (qn Kb J.length [.str k.text,.int .u64 (k.at_:Nat),.int .i64 (k.slot:Nat),.int .i64 (c2:Nat),.vsl nk (qP .u64 ar) ar.length])=some (.tup [],Kd)
        /\qd Kb J.length=some [.str k.text,.int .u64 (k.at_:Nat),.int .i64 (k.slot:Nat),.int .i64 (k.cnt:Nat),.vsl k.nil (qP .u64 k.arrs) k.arrs.length]
        /\qd Kd q=some m6.cs/\m6.cs.length=147/\List.drop 144 m6.cs=.osl U (S.da.length*5) 0 S.da.length 5::List.drop 145 m6.cs
        /\qd Kd J.length=some [.str k.text,.int .u64 (k.at_:Nat),.int .i64 (k.slot:Nat),.int .i64 (c2:Nat),.vsl nk (qP .u64 ar) ar.length]
        /\qd Kd U=some (qt S.da)
        /\qn Kd U (qt (List.take j1 S.da)++(.str k.text:: .int .u64 (k.at_:Nat):: .int .i64 (k.slot:Nat):: .int .i64 (c2:Nat):: .vsl nk (qP .u64 ar) ar.length::List.drop (j1*5+5) (qt S.da)))=T
        /\ApD H q m o dl (i+1) T m7:=by
      intro Kb m6 nk ar g6 aB bq gD cM fF;have iP:Ka.length=J.length+1:=(by rw[<-QU,jb]);have gb:qd Kb J.length=some [.str k.text,.int .u64 (k.at_:Nat),.int .i64 (k.slot:Nat),.int .i64 (k.cnt:Nat),.vsl k.nil (qP .u64 k.arrs) k.arrs.length]:=g6.ext.get ga (fun hc=>by have:=ew _ hc;omega)
      have nb:∀j,j∈m6.names q->j≠J.length:=fun j y e=>by
       rcases g6.new j y with t|t
       .have:=ew j t;omega
       .omega
      obtain⟨bF,br⟩:∃c:List D,c=[.str k.text,.int .u64 (k.at_:Nat),.int .i64 (k.slot:Nat),.int .i64 (c2:Nat),.vsl nk (qP .u64 ar) ar.length]:=⟨_,rfl⟩;rw[<-br];obtain⟨Kc,Zh⟩:=ql (qn Kb J.length bF);have xc:=vZ Zh;have gc:qd Kc J.length=some bF:=(by rw[<-Zh];exact zj (qx gb));have wc:=qfo g6.w xc (fun j y hc=>nb j y (List.mem_singleton.1 hc));have ii:=g6.bl;obtain⟨Kd,b7,dE,db,wd,de,xd,ld⟩:=qaN wc g6.ok dz c2 wC;rw[Zh];have dW:qt m6.da≠[]:=(by rw[aB];exact ai);obtain⟨U,n2,ay,aD,aq,bf⟩:=wd.rowD.own dW;simp only at ay aD aq bf;rw[aB] at ay aD aq;have jQ:n2=S.da.length:=(by rw[zH] at aD;omega);subst jQ;rw[zH] at ay;have N:=jD wd.c144;simp only at N;rw[ay] at N;have bg:m6.bi∈m6.names q:=KJ;have bY:U∈m6.names q:=qh8 (by rw[bf];simp);have gd:qd Kd J.length=some bF:=xd.get gc (fun hc=>nb _ bg (List.mem_singleton.1 hc).symm);obtain⟨k',bO⟩:∃x:Kn,x=⟨k.text,k.at_,k.slot,c2,nk,ar⟩:=⟨_,rfl⟩;have gE:(Enc.cells k':List D)=bF:=(by rw[bO,br];rfl);have we:=q1X (j:=j1) wd k' (by simp only;exact bf) (by simp only;rw[aB];exact ay) (by rw[aq];rfl);simp only at we;have bB:=XR S.da j1 k' V0;rw[qau (n:=5) rfl,gE] at bB;obtain⟨T,hT⟩:=ql (qn Kd U (qt (S.da.set j1 k')));rw[aB,hT] at we;refine⟨Kd,T,_,U,dE,gb,wd.root,wd.len,N,gd,aq,by rw[<-hT,bB,br];rfl,we,?_,?_,?_,?_,?_,?_,?_,?_,?_,?_,?_,?_,?_⟩
      .exact{de with
        da:=fun x hx=>by
         simp only at hx⊢;rcases qc9 hx with t|t
         .exact de.da x (by simp only;rw[aB];exact t)
         .rw[t,bO];have e7:b7.length=m6.b.length:=db;exact⟨wJ,by simp only;rw[g6.ds];exact aa.slot,by simp only;rw[e7];exact cM,by simp only;exact fF,by simp only;exact aa.txt⟩
        nda:=by
         have:=B.ok.nda;simp only;rw[vH];exact this
        cn:=fun x hx=>by
         simp only at hx⊢;rcases qc9 hx with t|t
         .exact de.cn x (by simp only;rw[aB];exact t)
         .have:=g6.ne;rw[t,bO];simp only;omega}
      .have dT:=B.ext.len;have n6:NewL (m.names q) (m6.names q) H.length:=B.new.trans g6.new (by have:=xa.len;omega);have z1:=B.ext.trans xa (fun j y=>xQ);have z2:=z1.trans g6.ext B.new;have z3:=z2.trans xc (fun j y=>.inr (by rw[List.mem_singleton.1 y];exact dT));have z4:=z3.trans xd (fun j y=>by rw[List.mem_singleton.1 y];exact n6 _ bg);exact z4.trans (hT▸Ext.set Kd U _:Ext [U] Kd T) (fun j y=>by rw[List.mem_singleton.1 y];exact n6 _ bY)
      .exact B.new.trans g6.new (by have:=xa.len;have:=B.ext.len;omega)
      .exact g6.ne.trans B.ne
      .exact g6.tl.trans B.tl
      .simp only;rw[g6.main];exact B.main.mono (by rw[db];exact g6.bl)
      .simp only;rw[db];omega
      .simp only;rw[vH];exact B.dl
      .simp only;rw[vH];exact B.da
      .simp only;rw[bq];exact B.fi
      .intro x hx;simp only at hx;rcases qc9 hx with t|t
       .have:=B.cn x t;omega
       .rw[t,bO];simp only;omega
      .have QS:=B.id;have e1:=qx QS;have g1:=g6.ext.get (xa.get QS wE) B.idN
       have cw:H.length∉m6.names q:=fun hc=>by
        rcases g6.new _ hc with t|t
        .exact B.idN t
        .omega
       have g2:=xd.get (xc.get g1 wG) (fun hc=>cw (by rw[List.mem_singleton.1 hc];exact bg));exact(hT▸Ext.set Kd U _:Ext [U] Kd T).get g2 (fun hc=>cw (by rw[List.mem_singleton.1 hc];exact bY))
      .intro hc;have e1:=qx B.id;rcases g6.new _ hc with t|t
       .exact B.idN t
       .omega
     by_cases cS:k.cnt=0
     .have bQ:((k.cnt:Int)==0)=true:=(by rw[cS];rfl);have ig:=eq_true cS;obtain⟨Kb,b1,du,dY,wb,gF,xb,lb⟩:=qaN wa B.ok eC az wC;have g6:JGrow Ka Kb q S {S with b:=b1}:=⟨wb,gF,xb.mono (fun i hi=>by rw[List.mem_singleton.1 hi];exact KJ),NewL.refl _ _,rfl,rfl,rfl,rfl,rfl,rfl,rfl,rfl,rfl,wJ⟩;obtain⟨Kd,T,m7,U,aG,gb,bG,df,N,gd,cO,hT,A6⟩:=key Kb _ k.nil k.arrs g6 rfl rfl wJ (by simp only;rw[dY,show c2-1=k.cnt-1 from wC];exact aa.arr) aa.nil;simp only at N bG df
      have eo:U=ro:=by
       rw[Q] at N;injection N with t _;injection t with h2 _ _ _ _;exact h2.symm
      subst eo;have di:∀X,qd (qn Kb J.length X) J.length=some X:=fun X=>zj (qx gb);simp[-qd,-qn,-qr,-qJ,-Kn.ea,V,Z,Y,W,E,F,aM,aR,aN,bM,qo,qR,hw,ah,aA,aw,Q,ZW,zH,vF,zF,qdm,QU,ga,bQ,fS,du,di,gb,ei,dN,ce,aG,bG,gd,cO,hT,ee];exact⟨i+1,wC,wC,wE,wE,wE,wE,wE,wE,wE,wE,wE,wE,m7,A6⟩
     .have bQ:¬(k.cnt:Int)=0:=wC;have fY:=qz ((k.cnt:Int)-1) (c1:Int);have fe:=qvG (Kl▸aa.arr) (k:=3) (by rw[show vq 3=28 from rfl];omega);have gJ:=qnu fe wC;obtain⟨Kb,m6,ar,z2,bE,kB,g6,cM,gD,aB,bq⟩:=qsC wa B.ok k.nil k.arrs c1 eY az aa.nil (Kl▸aa.arr) wC wC bP wC;obtain⟨Kd,T,m7,U,aG,gb,bG,df,N,gd,cO,hT,A6⟩:=key Kb m6 false ar g6 aB bq wC (by rw[show c2-1=c1+1 from wC];exact cM) (fun h=>wP);have di:∀X,qd (qn Kb J.length X) J.length=some X:=fun X=>zj (qx gb);simp[-qd,-qn,-qr,-qJ,-Kn.ea,V,Z,Y,W,E,F,aM,aR,aN,bM,qo,qR,hw,ah,aA,aw,Q,ZW,zH,vF,zF,qdm,QU,ga,di,cS,fQ,fY,bE,gb,ei,dN,ce,aG,bG,df,N,gd,cO,hT,QJ,ee];exact⟨i+1,wC,wC,wE,wE,wE,wE,wE,wE,wE,wE,wE,wE,m7,A6⟩
    .have qo:=zw qg;have ZA:i=w.length:=wC;subst ZA;simp[-qd,-qn,-qr,V,Z,Y,W,E,F,aM,aR,aN,bM];exact⟨qA _,wE,wE,wE,wE,wE,wE,wE,wE,wE,wE,S,B⟩
   .rintro ex e J ⟨rfl,-,V,Z,Y,W,E,F,aM,aR,aN,bM,S,B⟩;have bD:=B.w.root;have cQ:=B.w.len;have ck:=jD B.w.c143;have fo:=jD B.w.c50;have fH:=B.bl;have bc:¬(32768:Int)<(S.b.length:Int):=wC;have fp:¬32768<S.b.length:=by omega
    have iy:∀n,(∀x,x∈qf o.l->closed n x=true)=True:=fun n=>eq_true fun x hx=>by
     simp only[qf,ZI] at hx;obtain⟨_,_,rfl⟩:=hx;rfl
    obtain⟨bH,ai⟩:∃n,n=m.ne+1:=⟨_,rfl⟩;have cD:=zf ((m.ne:Int)+1) (bH:Int);have dI:∀C,qd (qn J q C) q=some C:=fun C=>zj (qx bD)
    have bR:∀C,qd (qn J q C) H.length=some (qf o.l):=fun C=>by
     rw[zV (fun e=>B.idN (by rw[e];exact VS))];exact B.id
    have aX:seq<18446744073709551616:=wC
    have fin:∀C2,JmW (qn J q C2) q {S with cs:=C2}->∃C3 C4 C5 C6 C7 C8,List.drop 127 C2=.int .u64 (m.ne:Nat)::List.drop 128 C2/\C2.length=147
      /\List.take 127 C2++D.int .u64 (bH:Nat)::List.drop 128 C2=C3/\C3.length=147
      /\List.take 128 C3++D.int .u64 (seq:Nat)::List.drop 129 C3=C4/\C4.length=147
      /\List.take 132 C4++D.int .u64 (rt:Nat)::List.drop 133 C4=C5/\C5.length=147
      /\List.take 133 C5++D.int .u64 (mo:Nat)::List.drop 134 C5=C6/\C6.length=147
      /\List.take 87 C6++(qf o.l++List.drop 103 C6)=C7/\C7.length=147
      /\List.take 141 C7++D.int .u64 (az:Nat)::List.drop 142 C7=C8
      /\∃G,ApE H (qn J q C8) q m G:=by
     intro C2 w2;have l2:C2.length=147:=w2.len;have am:=jD w2.c127;simp only[B.ne] at am;have w3:=q1Y w2 bH wC;simp only[QJ] at w3;have w4:=q1W w3 seq aX;simp only[QJ] at w4;have w5:=X6 w4 (i:=132) rfl (d:=.int .u64 (rt:Nat)) ⟨rt,rfl,cT⟩;simp only[QJ] at w5;have w6:=X6 w5 (i:=133) rfl (d:=.int .u64 (mo:Nat)) ⟨mo,rfl,dC⟩;simp only[QJ] at w6;have w7:=q2e w6 o;simp only[QJ] at w7;have w8:=X6 w7 (i:=141) rfl (d:=.int .u64 (az:Nat)) ⟨az,rfl,bP⟩;simp only[QJ] at w8;have l3:=w3.len;have l4:=w4.len;have l5:=w5.len;have l6:=w6.len;have l7:=w7.len;simp only at l3 l4 l5 l6 l7;refine⟨_,_,_,_,_,_,am,l2,vr wC,l3,vr wC,l4,vr wC,l5,vr wC,l6,rfl,l7,vr wC,_,w8,?_,?_,?_,?_,?_,?_,?_,?_,?_,?_⟩
     .exact{B.ok with
       tl:=wJ
       ne:=wJ
       main:=⟨bH,wJ,by simp only;rw[ai];exact B.main⟩
       cn:=fun x hx=>by have:=B.cn x hx;simp only;omega}
     .simp only;rw[ai];exact B.main
     .intro x hx;have:=B.cn x hx;simp only;omega
     .exact B.ext.trans (Ext.set J q _) (fun j y=>.inl (by rw[List.mem_singleton.1 y];exact VS))
     .exact B.new
     .exact ai
     .exact eW
     .simp only;omega
     .exact B.da
     .exact B.fi
    by_cases KT:m.ne=0
    .have aY:((m.ne:Int)==0)=true:=(by rw[KT];rfl);have eE:=eq_true KT;have w1:=X6 B.w (i:=129) rfl (d:=.int .u64 (seq:Nat)) ⟨seq,rfl,aX⟩;have w2:=X6 w1 (i:=131) rfl (d:=.int .u64 (rt:Nat)) ⟨rt,rfl,cT⟩;simp only[QJ] at w2;have l1:(S.cs.set 129 (.int .u64 (seq:Nat))).length=147:=(by rw[vH];exact cQ);obtain⟨C1,V5⟩:∃C,C=S.cs.set 129 (.int .u64 (seq:Nat)):=⟨_,rfl⟩;have s1:List.take 129 S.cs++D.int .u64 (seq:Nat)::List.drop 130 S.cs=C1:=(by rw[V5];exact vr wC);rw[<-V5] at w2 l1;obtain⟨C2,jI⟩:∃C,C=C1.set 131 (.int .u64 (rt:Nat)):=⟨_,rfl⟩;have s2:List.take 131 C1++D.int .u64 (rt:Nat)::List.drop 132 C1=C2:=(by rw[jI];exact vr wC);rw[<-jI] at w2;obtain⟨C3,C4,C5,C6,C7,C8,am,l2,s3,l3,s4,l4,s5,l5,s6,l6,s7,l7,s8,mE,hE⟩:=fin C2 w2;simp[-qd,-qn,-qr,-qJ,V,Z,Y,W,E,aM,aR,aN,bD,cQ,ck,fo,bc,aY,s1,dI,l1,s2,QJ,am,l2,s3,l3,s4,l4,s5,l5,s6,l6,lo,s7,l7,s8,bR,cD];exact⟨_,⟨wC,rfl⟩,mE,hE⟩
    .have aY:((m.ne:Int)==0)=false:=(by simp[KT]);have eE:=eq_false KT;obtain⟨C3,C4,C5,C6,C7,C8,am,l2,s3,l3,s4,l4,s5,l5,s6,l6,s7,l7,s8,mE,hE⟩:=fin S.cs (by rw[qdl bD];exact B.w);simp[-qd,-qn,-qr,-qJ,V,Z,Y,W,E,aM,aR,aN,bD,cQ,ck,fo,bc,aY,dI,QJ,am,s3,l3,s4,l4,s5,l5,s6,l6,lo,s7,l7,s8,bR,cD];exact⟨_,⟨wC,rfl⟩,mE,hE⟩
def q7n(n:Nat)(r:Rec):Prop:=r.seq=n/\r.Ok/\1<=r.fields.l.length/\r.fields.l.length<=4/\∀p∈r.fields.l,VT p=true
theorem qji{n:Nat}(h:n<18446744073709551616):jq (n:Int):=by
 unfold jq;omega
theorem q02[MaxL][TxtC](nil:Bool)(zs:List Int)(d:nil=true->zs=[])(c:zs.length<=1000000)(k:Nat)(n:Nat)(I:n<18446744073709551616):
  ∃(r:Rec)(k':Nat),q7n n r/\call cx 56 [.optr 0 2 0,.int .u64 n] [some (jT nil zs k)]=some (.agg (Enc.cells r),[some (jT nil zs k')]):=by
 obtain⟨q,H,l,G,t,i,A,rfl⟩:=q04 nil zs d c k;obtain⟨q,C,out,g,e,F,rfl⟩:=qpg l t i A;obtain⟨x,B,hx,-,o⟩:=KK nil zs d c G 40 wH wH;obtain⟨y,v,L,-,u⟩:=KK nil zs d c B 9 wH wH;obtain⟨z,p,J,-,w⟩:=KK nil zs d c v 3 wH wH;have E:=qoN (j:=z) wC;refine⟨⟨n,x,y,idN z,.of out⟩,p,⟨rfl,⟨qji I,qji wC,qji wC⟩,g,e,F⟩,?_⟩;have m:=qeW nil zs;have N:=qeV nil zs;have s:=qeX nil zs;have b:=zf (x:Int) (x:Int);have a:=zf (y:Int) (y:Int);have hi:=(idN z).h;generalize idN z=f at *;have M:List.take 16 (qf f.l)=qf f.l:=qH wE;have K:List.drop 17 (qf f.l++[D.vsl true [] 0])=[]:=Vn wE;refine qC Tryz.func56 rfl ⟨rfl,rfl⟩ ?_;simp[Tryz.f56,H,C,o,u,w,E,m,s,b,a,Rec.cells,hi,K,Zk]
theorem q0H[MaxL][TxtC]{H:qe}{s:Nat}(nil:Bool)(zs:List Int)(e:nil=true->zs=[])(c:zs.length<=1000000)(k:Nat)(p:qd H s=some (jT nil zs k)):
  ∃r,call cx 53 [.optr s 2 0] H=some r/\∃(m g j b d:Nat)(n:Nat)(k':Nat)(T:qe),r=(.agg (qf (idN m).l++(qf (idN g).l++(qf (idN j).l++[.int .i64 (b+1:Nat),.int .i64 (d+1:Nat),.int .i64 32768,.bool ((n:Int)==1)]))),T)/\b<7/\d<4/\qd T s=some (jT nil zs k')/\Ext [s] H T:=by
 have hs:=qx p;obtain⟨Z,hZ⟩:∃Z:List D,Z=List.replicate 104 (.int .u8 0):=⟨_,rfl⟩;obtain⟨Q,W,aa,-,Y⟩:=KK nil zs e c k 5 wH wH;obtain⟨m,Z9,z⟩:=qhD Q;obtain⟨R,J,ac,-,L⟩:=KK nil zs e c W 5 wH wH;obtain⟨g,N,S⟩:=qhD R;obtain⟨K,E,I,-,t⟩:=KK nil zs e c J 5 wH wH;obtain⟨j,B,x⟩:=qhD K;obtain⟨b,u,G,-,A⟩:=KK nil zs e c E 7 wH wH;obtain⟨d,v,y,-,F⟩:=KK nil zs e c u 4 wH wH;obtain⟨n,V,P,-,O⟩:=KK nil zs e c v 2 wH wH;have M:=qz ((b:Int)+1) ((b+1:Nat):Int);have w5:=qz ((d:Int)+1) ((d+1:Nat):Int);have U:∀a,qd (qr H a) s=some (jT nil zs k):=fun a=>by rw[vv hs];exact p
 have gs2:∀a X,qd (qn (qr H a) s X) s=some X:=fun a X=>zj wW;have gs3:∀a X,qd (qn (qr H a) s X) H.length=some a:=fun a X=>by rw[zV wC,zF]
 have o:∀a X C,qd (qn (qn (qr H a) s X) H.length C) H.length=some C:=fun a X C=>zj (by rw[kL,jb];omega);have sl:=qeV nil zs;have q:=qeW nil zs;have sc:=qeX nil zs;refine vx (X:=cx) (f:=53) _ Tryz.func53 rfl ⟨rfl,rfl⟩ ?_;simp[-qd,-qn,-qr,Tryz.f53,M,w5,U,gs2,gs3,o,QJ,q,Y,L,t,A,F,O,z,S,x,(idN m).h,(idN g).h,(idN j).h,Zk,jd,qH,List.drop_of_length_le];refine⟨m,g,j,b,d,n,V,_,⟨rfl,rfl⟩,wC,wC,?_,?_⟩
 .rw[zV wC];exact gs2 _ _
 .refine⟨by rw[kL,kL,jb];omega,fun i hi hn=>?_⟩;have:i≠s:=fun w=>hn (by rw[w];simp);rw[zV wC,zV this,vv hi]
end Go.Ev.S
namespace Go.Ev
open Go Go.Proofs
mutual
theorem qo0:∀(d:D),idFree d=true->noZ d=true
 | .agg cs,h=>by simp only[idFree] at h;simp only[noZ];exact qcZ cs h
 | .tup cs,h=>by simp only[idFree] at h;simp only[noZ];exact qcZ cs h
 | .fn _ cs,h=>by simp only[idFree] at h;simp only[noZ];exact qcZ cs h
 | .iface _ d,h=>by simp only[idFree] at h;simp only[noZ];exact qo0 d h
 | .optr ..,h=>by simp[idFree] at h
 | .osl ..,h=>by simp[idFree] at h
 | .bool _,_=>rfl
 | .int _ _,_=>rfl
 | .str _,_=>rfl
 | .nilp,_=>rfl
 | .nilf,_=>rfl
 | .nili,_=>rfl
 | .vptr _,_=>rfl
 | .vsl ..,_=>rfl
 | .raw _,_=>rfl
theorem qcZ:∀(l:List D),idFree.idFreeL l=true->noZ.noZL l=true
 |[],_=>rfl
 |d::l,h=>by
  simp only[idFree.idFreeL,zY] at h;simp only[noZ.noZL,qo0 d h.1,qcZ l h.2,Bool.and_self]
end
@[simp] theorem q85 (a b:List D):noZ.noZL (a++b)=(noZ.noZL a&&noZ.noZL b):=by
 induction a with
 |nil=>simp[noZ.noZL]
 |cons d l c=>simp[noZ.noZL,c,Bool.and_assoc]
@[simp] theorem q82 (l:List UInt8):noZ.noZL (qf l)=true:=qcZ _ wE
@[simp] theorem q84 {α:Type} [Enc α] (a:α):noZ.noZL (Enc.cells a)=true:=qcZ _ (qlI a)
@[simp] theorem q83 {α:Type} [Enc α] (l:List α):noZ.noZL (qt l)=true:=qcZ _ (qlo l)
end Go.Ev
namespace Go.Ev.S
open Go Go.Proofs Go.Ev
structure MkI (H:qe) (s:Nat) (nil:Bool) (zs:List Int) (q:Nat) (i:Nat) (K:qe) (m:Jm) (kk:Nat) (oD:D) (oc:List D) (Lo:List Nat):Prop where
 w:JmW K q m
 ok:m.Ok
 main:ArrOk m.b.length m.main m.ne
 cn:∀k,k∈m.da->k.cnt<=4*m.ne
 ne:m.ne=i
 tl:m.tl<=6+i
 bl:m.b.length<=700+2200*i
 da:m.da.length<=4*i
 fi:m.fi.length<=4*i
 new:∀j,j∈m.names q->H.length<=j
 seq:qd K s=some (jT nil zs kk)
 ext:Ext [s] H K
 oR:RowA K 20 oD oc Lo
 ol:oc.length=i*20
 oN:∀j,j∈Lo->j∉m.names q/\H.length<=j
def mkI(H:qe)(s:Nat)(nil:Bool)(zs:List Int)(q:Nat)(i:Nat)(e:qu)(K:qe):Prop:=
 i<=6/\qi e 0=some (.optr s 2 0)/\qi e 1=some (.int .i64 6)/\qi e 7=some (.optr q 147 0)/\∃m kk oD a Lo,qi e 8=some oD/\MkI H s nil zs q i K m kk oD a Lo
theorem q09[MaxL][TxtC]{H:qe}{s:Nat}(nil:Bool)(zs:List Int)(qX:nil=true->zs=[])(hz:zs.length<=1000000)(k:Nat)(hg:qd H s=some (jT nil zs k)):
  ∃T q m d,call cx 26 [.optr s 2 0,.int .i64 6] H=some (.tup [.optr q 147 0,d],T)/\JmW T q m/\m.Ok/\m.b.length<=20000/\m.ne<=6/\Ext [s] H T/\(∀j,j∈m.names q->H.length<=j):=by
 suffices hs:∃r,call cx 26 [.optr s 2 0,.int .i64 6] H=some r/\∃(T:qe)(q:Nat)(m:Jm)(d:D),r=(.tup [.optr q 147 0,d],T)/\JmW T q m/\m.Ok/\m.b.length<=20000/\m.ne<=6/\Ext [s] H T/\(∀j,j∈m.names q->H.length<=j) by
  obtain⟨r,hc,T,q,m,d,rfl,p⟩:=hs;exact⟨T,q,m,d,hc,p⟩
 refine vx (X:=cx) (f:=26) _ Tryz.func26 rfl ⟨rfl,rfl⟩ ?_;have aX:=qx hg;obtain⟨_,QT,j1,j2,j3,x4,x5,x6,k1,K1,rfl,aU,aS,g1,e1⟩:=q0H nil zs qX hz k hg;obtain⟨A,hA⟩:∃A,A=idN j1:=⟨_,rfl⟩;obtain⟨B,hB⟩:∃A,A=idN j2:=⟨_,rfl⟩;obtain⟨S,hS⟩:∃A,A=idN j3:=⟨_,rfl⟩;obtain⟨key,W⟩:∃k,k=((x6:Int)==1):=⟨_,rfl⟩;rw[<-hA,<-hB,<-hS,<-W] at QT;obtain⟨cf,o⟩:∃c,c=qf A.l++(qf B.l++(qf S.l++[.int .i64 (x4+1:Nat),.int .i64 (x5+1:Nat),.int .i64 32768,.bool key])):=⟨_,rfl⟩;rw[<-o] at QT;have la:=A.h;have lb:=B.h;have ls:=S.h;have au:cf.length=52:=by rw[o];simp[la,lb,ls]
 have aA:cf.all idFree=true:=by rw[o];simp[qf,idFree]
 have ai:=zca aA;obtain⟨K2,jw⟩:=ql (qr K1 cf);have e2:=zL jw;have g2:=js jw;have gs2:qd K2 s=some (jT nil zs k1):=e2.get g1 wE;obtain⟨x,k2,hx,-,hn⟩:=KK nil zs qX hz k1 6 wH wH;have wx:=zf (x:Int) (x:Int);obtain⟨K3,ZC⟩:=ql (qn K2 s (jT nil zs k2));have e3:=vZ ZC;have g3:=vV ZC gs2;have aT:=e1.len;have aB:qd K3 K1.length=some cf:=e3.get g2 wG;obtain⟨K4,q,m0,Zd,w4,o4,e4,n4,Z,aW,b4,aa,aH,aG⟩:=q1T K3 A B S (x4+1) (x5+1) wC wC key x wC;rw[<-o] at Zd;have sl:=qeV nil zs;have sf:=qeW nil zs;have sc:=qeX nil zs;have aF:List.take 52 cf=cf:=qH wC;have l2:=e2.len;have l3:=e3.len;have l4:=e4.len;have aD:qd K4 s=some (jT nil zs k2):=e4.get g3 wE;have ah:Ext [s] H K4:=((e1.trans e2 (fun j a=>xC)).trans e3 (fun j a=>.inl a)).trans e4 (fun j a=>xC);simp[-qd,-qn,-qr,-qJ,Tryz.f26,QT,zF,qdm,ai,au,jw,g2,gs2,sf,hn,wx,ZC,aB,aF,Zd,l3];refine Vv (mkI H s nil zs q) (fun i=>6-i) 0 (fun ex e K=>ex=.exit 0/\∃i,mkI H s nil zs q i e K) ?_ ?_ ?_
 .refine⟨wC,wE,wE,wE,m0,k2,.vsl true [] 0,[],[],wE,w4,o4,?_,fun k hk=>?_,Z,wC,wC,?_,?_,fun j a=>?_,aD,ah,RowA.nil _ _,rfl,fun j a=>xC⟩
  .rw[aG,Z];exact ArrOk.zero _
  .rw[aa] at hk;simp at hk
  .rw[aa];simp
  .rw[aH];simp
  .have:=n4 j a;omega
 .rintro i e K ⟨hi,p0,p1,U,m,kk,oD,oc,Lo,p8,I⟩
  have t:qO Tryz.prog 82 oD=some (.int .i64 i):=by
   have y:=I.ol;rcases I.oR with⟨hv,Yv,_⟩|⟨ro,nn,hv,Q8,_,_⟩
   .rw[Yv] at y;have:i=0:=(by simp at y;omega);rw[hv,this];simp
   .have:nn=i:=wC;rw[hv,this];simp
  by_cases qg:i<6
  .have qo:(i:Int)<6:=wC;have v:=q06 nil zs kk;have z:=I.seq;have u:qn K s (jT nil zs kk)=K:=qdl z;by_cases hm:kk<zs.length
   .have J:=qk7 I.w;have X8:=I.tl;obtain⟨n1,ve⟩:∃n,n=m.tl+1:=⟨_,rfl⟩;have ax:=zf ((m.tl:Int)+1) (n1:Int);obtain⟨r,k3,hR,Vf⟩:=q02 nil zs qX hz kk n1 wC;obtain⟨aZ,ac,az,ak,aM⟩:=hR;have ao:r.fields.nil=false:=Sl.nn (i:=0) wC;obtain⟨K5,kR⟩:=ql (qn K s (jT nil zs k3));have e5:=vZ kR
    have sN:∀j,j∈m.names q->j∉[s]:=fun j a hc=>by
     have:=I.new j a;rw[List.mem_singleton.1 hc] at this;omega
    have w5:=qfo I.w e5 sN;have g5:=vV kR z;have M:=r.boot.h;obtain⟨g,N⟩:∃c:List D,c=.int .u64 r.seq:: .int .u64 r.real:: .int .u64 r.mono::(qf r.boot.l++[.vsl false (qt r.fields.l) r.fields.l.length]):=⟨_,rfl⟩;have F:(Enc.cells r:List D)=g:=(by rw[Rec.cells,N,ao];rfl);rw[F] at Vf;have C:g.length=20:=(by rw[N];simp[M]);have L:g.all idFree=true:=(by rw[<-F];exact Enc.free r);have ay:=zca L;have av:noZ.noZL g=true:=qcZ _ (by rw[Q0];exact L);have aj:∀n,shift.shiftL n g=g:=fun n=>qcM n _ (by rw[Q0];exact L);have ae:List.take 20 g=g:=qH wC;obtain⟨K6,Qn⟩:=ql (qr K5 g);have Q:=zL Qn;have g6:=js Qn;have w6:=X5 w5 Q;have r1:=ac.real;have r2:=ac.mono;unfold jq at r1 r2;obtain⟨rn,aL⟩:∃n:Nat,r.real=(n:Int):=⟨r.real.toNat,wC⟩;obtain⟨mn,aq⟩:∃n:Nat,r.mono=(n:Int):=⟨r.mono.toNat,wC⟩;have jR:=I.bl;have aR:=I.da;have aY:=I.fi;have qQ:=I.ne;obtain⟨K7,m',O,E⟩:=q2O w6 I.ok I.main I.cn r.fields.l az ak aM rn mn wC wC r.boot wC wC wC wC wC;rw[<-aL,<-aq] at O;have d1:List.drop 1 g=.int .u64 r.real::List.drop 2 g:=(by rw[N];rfl);have d2:List.drop 2 g=.int .u64 r.mono::List.drop 3 g:=(by rw[N];rfl);have d3:List.take 16 (List.drop 3 g)=qf r.boot.l:=(by rw[N];simp[M]);have aJ:List.drop 19 g=[.vsl false (qt r.fields.l) r.fields.l.length]:=(by rw[N];simp[M]);have aQ:K.length=K5.length:=(by rw[<-kR,kL]);have am:∀j,j∈m.names q->j<K5.length:=fun j a=>qda w5 a;have g7:qd K7 K5.length=some g:=E.ext.get g6 (fun hc=>by have:=am _ hc;omega);obtain⟨K8,Kp⟩:=ql (qr K7 g);have Y:=zL Kp;have g8:=js Kp;have y:=I.ol
    have R:∀j,j∈Lo->j∉[s]:=fun j a hc=>by
     have:=(I.oN j a).2;rw[List.mem_singleton.1 hc] at this;omega
    have ag:=(((I.oR.ext e5 R).ext Q (fun _ _=>wE)).ext E.ext (fun j a=>(I.oN j a).1)).ext Y (fun _ _=>wE);obtain⟨aI,K9,aE,aK,aC,e9,n9⟩:=ag.append (P:=Tryz.prog) (st:=82) (xt:=82) (e:=45) (x:=.osl K7.length 20 0 1 20) (xs:=g) (m:=1) wE wE (by simp[-qd,g8,C,ae]) wE wC (by rw[C]) wC wM wM;have G:K7≠[]:=fun e0=>by have:=qx g7;rw[e0] at this;simp at this
    simp[-qd,-qn,-qr,-qJ,-qO,p0,p1,U,p8,t,qo,z,sf,v,hm,u,J,ax,Vf,kR,zF,qdm,ay,C,Qn,g6,d1,d2,d3,aJ,O,g7,ae,Kp,aK,G,av,aj];have aV:=I.ext.len;have aN:=Q.len;have aP:=E.ext.len;have aO:=Y.len;have aw:∀j,j∈Lo->j<K.length:=fun j a=>I.oR.lt a
    have V:∀j,j∈m'.names q->j∉Lo:=fun j a hc=>by
     rcases E.new j a with p|p
     .exact(I.oN j hc).1 p
     .have:=aw j hc;omega
    have sm:s∉m.names q:=fun hc=>by have:=I.new s hc;omega
    refine⟨i+1,wC,wC,wE,wE,wE,m',k3,aI,oc++g,aE,wE,?_,E.ok,E.main,E.cn,?_,?_,?_,?_,?_,fun j a=>?_,?_,?_,aC,?_,fun j a=>?_⟩
    .exact qfo (X5 E.w Y) e9 V
    .have:=E.ne;omega
    .have:=E.tl;omega
    .have:=E.bl;omega
    .have:=E.da;omega
    .have:=E.fi;omega
    .rcases E.new j a with p|p
     .exact I.new j p
     .omega
    .exact e9.get (Y.get (E.ext.get (Q.get g5 wE) sm) wE) (fun hc=>R s hc wE)
    .have z1:=(I.ext.trans e5 (fun j a=>.inl a)).trans Q (fun j a=>xC);have z2:=z1.trans E.ext (fun j a=>.inr (I.new j a));have z3:=z2.trans Y (fun j a=>xC);exact z3.trans e9 (fun j a=>.inr (I.oN j a).2)
    .rw[zo,y,C];omega
    .rcases n9 j a with p|p
     .exact⟨fun hc=>V j hc p,(I.oN j p).2⟩
     .exact⟨fun hc=>by have:=qda E.w hc;omega,wC⟩
   .simp[-qd,-qn,-qr,-qJ,-qO,p0,p1,U,p8,t,qo,z,sf,v,hm,u];exact⟨i,hi,wE,wE,wE,m,kk,oD,oc,Lo,wE,I⟩
  .have qo:¬(i:Int)<6:=wC;simp[-qd,-qn,-qr,-qJ,-qO,p0,p1,U,p8,t,qo];exact⟨i,hi,wE,wE,wE,m,kk,oD,oc,Lo,wE,I⟩
 .rintro ex e K ⟨rfl,i,hi,p0,p1,U,m,kk,oD,oc,Lo,p8,I⟩;simp[-qd,-qn,-qr,-qJ,-qO,U,p8];exact⟨_,_,⟨rfl,rfl⟩,m,I.w,I.ok,by have:=I.bl;omega,by have:=I.ne;omega,I.ext,I.new⟩
theorem qzc[MaxL][TxtC]:call cx 245 [.int .i64 16] []=some (.bool true,[]):=call_some.2 ⟨60,wF⟩
theorem qwE[MaxL][TxtC]:call cx 246 [.int .u64 16] []=some (.int .i64 4,[]):=call_some.2 ⟨100,wF⟩
def qgW(v i u:Nat)(s:List UInt8):Prop:=∃g,1<=g/\g<=16/\i=49+g/\s.length+g=16/\u<16^g/\ZY g u++s=hx v
theorem q35{v i u:Nat}{s:List UInt8}(h:qgW v i u s)(d:16<=u):51<=i/\qgW v (i-1) (u/16) (vT (u % 16)::s):=by
 obtain⟨g,j,e,rfl,k,b,a⟩:=h;obtain⟨f,rfl⟩:∃f,g=f+1:=⟨g-1,wC⟩
 have c:1<=f:=by
  rcases f with _|f
  .simp at b;omega
  .omega
 refine⟨wC,f,c,wC,wC,wG,by rw[qeI] at b;omega,?_⟩;rw[ZY,if_neg wC] at a;simpa using a
theorem q37{v i u:Nat}{s:List UInt8}(h:qgW v i u s)(b:u<16):vT u::s=hx v/\50<=i/\i<=65/\i+s.length=65:=by
 obtain⟨g,d,c,rfl,e,j,a⟩:=h;obtain⟨f,rfl⟩:∃f,g=f+1:=⟨g-1,wC⟩;rw[ZY,if_pos b] at a;exact⟨wZ,wC,wC,wC⟩
theorem q36{v i u:Nat}{s:List UInt8}(h:qgW v i u s):i+s.length=65/\50<=i:=by
 obtain⟨g,b,a,rfl,d,e,c⟩:=h;omega
theorem qul{i j:Nat}(hi:i=j+1)(s:List UInt8)(c:UInt8):zT (List.replicate i (D.int .u8 0)++qf s) j [.int .u8 c.toNat]=List.replicate j (.int .u8 0)++qf (c::s):=by
 rw[hi];exact q46 j s c
theorem q49[MaxL][TxtC](v:Nat)(hv:v<18446744073709551616):call cx 195 [.vsl true [] 0,.int .u64 v,.int .i64 16,.bool false,.bool false] []=some (.tup [.vsl true [] 0,.str (hx v)],[]):=by
 have h1:=qzc;have Y:=qwE;have G:IntKind.u64.wrap 16=16:=wH
 have E:IntKind.u64.wrap 15=15:=wH
 have Z:IntKind.u64.wrap 4=4:=wH
 refine qC Tryz.func195 rfl ⟨rfl,rfl⟩ ?_;simp[-List.reduceReplicate,Tryz.f195,h1,Y,G,E,Z]
 refine Run.loopThen (fun(q:Nat×Nat×List UInt8) e H'=>qgW v q.1 q.2.1 q.2.2/\q.2.1<18446744073709551616/\H'=[some (List.replicate q.1 (.int .u8 0)++qf q.2.2)]/\
   qi e 0=some (.vsl true [] 0)/\qi e 1=some (.int .u64 (q.2.1:Nat))/\qi e 3=some (.bool false)/\qi e 4=some (.bool false)/\qi e 10=some (.vsl true [] 0)/\qi e 11=some (.str [])/\qi e 12=some (.optr 0 65 0)/\
   qi e 13=some (.int .i64 (q.1:Nat))/\qi e 14=some (.int .u64 4)/\qi e 15=some (.int .u64 16)/\qi e 16=some (.int .u64 15)) (fun q=>q.2.1) (65,v,[]) ?_ ?_
 .refine⟨⟨16,wC,wC,wC,wE,wC,by simp[hx]⟩,hv,?_,?_⟩
  .show[some (List.replicate 65 (D.int .u8 0))]=[some (List.replicate 65 (D.int .u8 0)++[])];rw[J4]
  .simp
 rintro⟨i,u,s⟩ e H' ⟨w,J,rfl,P,F,K,I,k,o,l,g,r,t,n⟩;simp only at w J F g;obtain⟨M,R⟩:=q36 w;obtain⟨j,L⟩:∃j,i=j+1:=⟨i-1,wC⟩;have N:=qz ((i:Int)-1) (j:Int);have d:(j:Int)<65:=wC
 have Z9:j+1<=i+s.length:=wC
 have f:j<=64:=wC
 by_cases S:16<=u
 .have a:(16:Int)<=(u:Int):=by omega
  obtain⟨aa,O⟩:=q35 w S;have Q:=q6P J;have h:=quX (u % 16) (YA _ wH);simp only[qly] at h;have X:=quq u;have b:=qul L s (vT (u % 16));have W:i-1=j:=wC
  rw[W] at O;have z:u/16<u:=wC
  have x:u/16<18446744073709551616:=wC
  generalize u/16=T at *;generalize vT (u % 16)=c at *;obtain⟨m,hm⟩:∃m,m=u % 16:=⟨_,rfl⟩;rw[<-hm] at Q h;simp[-qeg,P,F,K,I,k,o,l,g,r,t,n,a,N,d,f,M,Q,h,b];have A:(2:Int)^min 4 IntKind.u64.bits=16:=wH
  exact⟨j,T,z,c::s,O,x,by simp[A,X]⟩
 .have a:¬(16:Int)<=(u:Int):=by omega
  obtain⟨p,_,_,_⟩:=q37 w wC;have h:=quX u wC;simp only[qly] at h;have b:=qul L s (vT u)
  have Xf:List.take (65-j) (List.drop j (List.replicate j (D.int .u8 0)++qf (vT u::s)))=qf (hx v):=by
   rw[VD wE,p];refine qH ?_;rw[<-p];simp;omega
  have B:(j:Int)<=65:=wC
  have V:j<=65:=wC
  have y:j<65:=wC
  have C:j+(65-j)=65:=wC
  have ac:j+(hx v).length=65:=by rw[<-p];simp;omega
  have H:(hx v).length=65-j:=by rw[<-p];simp;omega
  have U:j+(qf (vT u::s)).length=65:=wG
  simp only[p] at b Xf U;generalize vT u=c at *;simp[-qeg,P,F,K,I,k,o,l,g,r,t,n,a,N,d,f,M,h,b,B,y,C,H]
theorem q4c[MaxL][TxtC](v:Nat)(a:v<18446744073709551616):call cx 147 [.int .u64 v,.int .i64 16] []=some (.str (hx v),[]):=by
 have h:=q49 v a;refine qC Tryz.func147 rfl ⟨rfl,rfl⟩ ?_;simp[Tryz.f147,h]
theorem q4d[MaxL][TxtC](v:Nat)(a:v<18446744073709551616):call cx 94 [.int .u64 v,.int .i64 16] []=some (.str (hx v),[]):=by
 have h:=q4c v a;refine qC Tryz.func94 rfl ⟨rfl,rfl⟩ ?_;simp[Tryz.f94,h]
end Go.Ev.S
