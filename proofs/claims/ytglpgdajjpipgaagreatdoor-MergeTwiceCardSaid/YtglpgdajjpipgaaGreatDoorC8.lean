import Derived.Test.YtglpgdajjpipgaaGreatDoorC7
import Derived.Shelf.LaysM
import Derived.Shelf.Strings.Shaped
import Derived.Test.YtglpgdajjpipgaaGreatDoorProg
import Derived.Test.YtglpgdajjpipgaaGreatDoorTie
import Derived.Test.YtglpgdajjpipgaaGreatDoorCards
import Derived.LaidMore
import Derived.SevenTiedAt
import Derived.Handed
set_option maxHeartbeats 8000000
set_option maxRecDepth 100000
namespace Go.Ev.S
open Go Go.Proofs Go.Ev
theorem qzH(a b:UInt8):Vs .u8 (a.toNat:Int) (b.toNat:Int)=((a|||b).toNat:Int):=by
 unfold Vs;have h:=(a|||b).toNat_lt
 have e:(BitVec.ofInt IntKind.u8.bits (a.toNat:Int)|||BitVec.ofInt IntKind.u8.bits (b.toNat:Int)).toNat=(a|||b).toNat:=by
  simp[IntKind.bits];rfl
 rw[e,qeO];omega
theorem qoW[MaxL][TxtC](c:UInt8):call cx 213 [.int .u8 c.toNat] []=some (.int .u8 ((c|||32).toNat:Int),[]):=by
 have h:=qzH c 32;have a:Vs .u8 (c.toNat:Int) 32=((c|||32).toNat:Int):=h;refine qC Tryz.func213 rfl ⟨rfl,rfl⟩ ?_;simp[Tryz.f213,a]
theorem q6S{p:UInt8->Bool}(h:((List.range 256).all fun k=>p (UInt8.ofNat k))=true)(c:UInt8):p c=true:=by
 have:=List.all_eq_true.1 h c.toNat (List.mem_range.2 c.toNat_lt);rw[UInt8.ofNat_toNat] at this;exact this
theorem qoX{c:UInt8}(h:c.toNat<48):(c|||32).toNat<97:=by
 have:=q6S (p:=fun c=>decide (c.toNat<48)==false||decide ((c|||32).toNat<97)) (by decide+kernel) c;simpa[h] using this
theorem qoY{c:UInt8}(h:c.toNat=95):122<(c|||32).toNat:=by
 simp[h]
def qf2(c:UInt8):Option Nat:=if 48<=c.toNat/\c.toNat<=57 then some (c.toNat-48) else if 97<=(c|||32).toNat/\(c|||32).toNat<=122 then some ((c|||32).toNat-97+10) else none
def Qz(b:Nat):List UInt8->Nat->Option Nat
 |[],n=>some n
 |c::l,n=>match qf2 c with
  |none=>none
  |some d=>if b<=d then none else if 18446744073709551616<=n*b+d then none else Qz b l (n*b+d)
def pu(b:Nat)(s:List UInt8):Option Nat:=if s=[] then none else Qz b s 0
theorem qha{x d:Nat}(hx:x<18446744073709551616)(a:d<16)(h:18446744073709551616<=x+d):IntKind.u64.wrap ((x:Int)+(d:Int))<(x:Int):=by
 simp only[IntKind.wrap,IntKind.signed,IntKind.bits];simp;omega
theorem qnK(b:Nat):∀(l:List UInt8)(n v:Nat),n<18446744073709551616->Qz b l n=some v->v<18446744073709551616
 |[],n,v,a,h=>by simp[Qz] at h;omega
 |c::l,n,v,a,h=>by
  unfold Qz at h;split at h
  .cases h
  .split at h
   .cases h
   .split at h
    .cases h
    .exact qnK b l _ v wC h
theorem qyX[MaxL][TxtC](b:Nat)(hb:b=10\/b=16)(s:List UInt8)(hs:s.length<4611686018427387904):
  (∃n,pu b s=some n/\call cx 172 [.str s,.int .i64 b,.int .i64 64] []=some (.tup [.int .u64 n,.nili],[]))\/
  (pu b s=none/\∃(x:Nat)(c:Int),(c=1\/c=2)/\call cx 172 [.str s,.int .i64 b,.int .i64 64] []=some (.tup [.int .u64 x,.iface 318 (.int .i64 c)],[])):=by
 suffices h:∃r,call cx 172 [.str s,.int .i64 b,.int .i64 64] []=some r/\((∃n,pu b s=some n/\r=(.tup [.int .u64 n,.nili],[]))\/(pu b s=none/\∃(x:Nat)(c:Int),(c=1\/c=2)/\r=(.tup [.int .u64 x,.iface 318 (.int .i64 c)],[]))) by
  obtain⟨r,k,⟨n,h2,rfl⟩|⟨h2,x,c,h3,rfl⟩⟩:=h
  .exact .inl ⟨n,h2,k⟩
  .exact .inr ⟨h2,x,c,h3,k⟩
 refine Vk (fun r=>(∃n:Nat,pu b s=some n/\r=(D.tup [.int .u64 n,.nili],[]))\/(pu b s=none/\∃(x:Nat)(c:Int),(c=1\/c=2)/\r=(D.tup [.int .u64 x,.iface 318 (.int .i64 c)],[]))) Tryz.func172 rfl ⟨rfl,rfl⟩ ?_;by_cases h0:s=[]
 .subst h0;simp[Tryz.f172,pu];exact⟨0,rfl⟩
 .have ZS:s.length≠0:=by simpa using h0
  have Q8:(2:Int)<=(b:Int):=wC
  have ae:(b:Int)<=36:=wC
  have ag:¬(b:Int)=0:=wC
  have kG:IntKind.u64.wrap (IntKind.u64.wrap (2^min 64 IntKind.u64.bits)-1)=18446744073709551615:=wH
  have J:pu b s=Qz b s 0:=by rw[pu,if_neg h0]
  rcases hb with rfl|rfl
  .simp[Tryz.f172,h0,kG];refine Run.loopThen (fun(z:Nat×Nat) e H'=>z.1<=s.length/\z.2<18446744073709551616/\Qz 10 (s.drop z.1) z.2=Qz 10 s 0/\H'=[some (qf s)]/\qi e 1=some (.int .i64 10)/\qi e 8=some (.bool false)/\qi e 9=some (.str s)/\qi e 10=some (.int .u64 1844674407370955162)/\qi e 11=some (.int .u64 18446744073709551615)/\qi e 12=some (.bool false)/\qi e 13=some (.int .u64 (z.2:Nat))/\qi e 99=some (.osl 0 s.length 0 s.length 1)/\qi e 100=some (.int .i64 s.length)/\qi e 101=some (.int .i64 (z.1:Nat))) (fun z=>s.length-z.1) (0,0) wE ?_;rintro⟨i,n⟩ e H' ⟨hi,hn,a,rfl,k,A,t,y,B,v,p,C,w,l⟩;simp only at hi hn a p l;by_cases j:i<s.length
   .have o:=zq j;have hw:=qz ((i:Int)+1) ((i+1:Nat):Int);have hc:=qoW s[i];have ac:=s[i].toNat_lt;rw[jo j,Qz] at a;unfold qf2 at a;by_cases hd:48<=s[i].toNat/\s[i].toNat<=57
    .rw[if_pos hd] at a;have u:(48:Int)<=(s[i].toNat:Int):=wC;have I:(s[i].toNat:Int)<=57:=wC;have g:¬(s[i].toNat:Int)=95:=wC;obtain⟨d,Xg⟩:∃d,d=s[i].toNat-48:=⟨_,rfl⟩;have W:=zu8 ((s[i].toNat:Int)-48) (d:Int);rw[<-Xg] at a;simp only at a;have U:d<16:=wC;have S:=zf (d:Int) (d:Int);by_cases T:10<=d
     .have G:(10:Int)<=(d:Int):=wC;rw[if_pos T] at a;simp[k,A,t,y,B,v,p,C,w,l,o,ke j,u,I,g,W,G];exact⟨wT,0,rfl⟩
     .have G:¬(10:Int)<=(d:Int):=wC;rw[if_neg T] at a;by_cases V:1844674407370955162<=n
      .have L:(1844674407370955162:Int)<=(n:Int):=wC;rw[if_pos wC] at a;simp[k,A,t,y,B,v,p,C,w,l,o,ke j,u,I,g,W,G,L];exact⟨wT,18446744073709551615,rfl⟩
      .have L:¬(1844674407370955162:Int)<=(n:Int):=wC;obtain⟨m,hm⟩:∃m,m=n*10:=⟨_,rfl⟩;have H:m<18446744073709551616:=wC;have R:=zf ((n:Int)*10) (m:Int);rw[<-hm] at a;by_cases P:18446744073709551616<=m+d
       .rw[if_pos P] at a;have hx:=qha H wC P;generalize hX:IntKind.u64.wrap ((m:Int)+(d:Int))=X at hx;simp[k,A,t,y,B,v,p,C,w,l,o,ke j,u,I,g,W,G,L,S,R,hX,hx];exact⟨wT,18446744073709551615,rfl⟩
       .rw[if_neg P] at a;obtain⟨q,hq⟩:∃q,q=m+d:=⟨_,rfl⟩;have wq:=zf ((m:Int)+(d:Int)) (q:Int);have Q:¬(q:Int)<(m:Int):=wC;have O:¬(18446744073709551615:Int)<(q:Int):=wC;rw[<-hq] at a;simp[k,A,t,y,B,v,p,C,w,l,o,ke j,u,I,g,W,G,L,S,R,wq,Q,O,hw];exact⟨i+1,wC,wC,q,wC,a,rfl,wE⟩
    .rw[if_neg hd] at a;by_cases Xk:s[i].toNat<48
     .have lw:=qoX Xk;rw[if_neg wC] at a;have u:¬(48:Int)<=(s[i].toNat:Int):=wC;have g:¬(s[i].toNat:Int)=95:=wC;have E:¬(97:Int)<=((s[i]|||32).toNat:Int):=wC;generalize (s[i]|||32).toNat=F at *;simp only at a;simp[k,A,t,y,B,v,p,C,w,l,o,ke j,u,g,hc,E];exact⟨wT,0,rfl⟩
     .have u:(48:Int)<=(s[i].toNat:Int):=wC;have I:¬(s[i].toNat:Int)<=57:=wC;by_cases Z:s[i].toNat=95
      .have lw:=qoY Z;rw[if_neg wC] at a;have g:(s[i].toNat:Int)=95:=wC;have E:(97:Int)<=((s[i]|||32).toNat:Int):=wC;have N:¬((s[i]|||32).toNat:Int)<=122:=wC;generalize (s[i]|||32).toNat=F at *;rw[g] at hc;simp only at a;simp[k,A,t,y,B,v,p,C,w,l,o,ke j,g,hc,E,N];exact⟨wT,0,rfl⟩
      .have g:¬(s[i].toNat:Int)=95:=wC;have aa:=(s[i]|||32).toNat_lt;generalize (s[i]|||32).toNat=F at *;by_cases f:97<=F/\F<=122
       .rw[if_pos f] at a;have E:(97:Int)<=(F:Int):=wC;have N:(F:Int)<=122:=wC;obtain⟨Y,vF⟩:∃d,d=F-97:=⟨_,rfl⟩;obtain⟨d,Xg⟩:∃d,d=Y+10:=⟨_,rfl⟩;have K:=zu8 ((F:Int)-97) (Y:Int);have M:=zu8 ((Y:Int)+10) (d:Int);rw[<-vF,<-Xg] at a;simp only at a;have U:d<36:=wC;have S:=zf (d:Int) (d:Int);by_cases T:10<=d
        .have G:(10:Int)<=(d:Int):=wC;rw[if_pos T] at a;simp[k,A,t,y,B,v,p,C,w,l,o,ke j,u,I,g,hc,E,N,K,M,G];exact⟨wT,0,rfl⟩
        .have G:¬(10:Int)<=(d:Int):=wC;rw[if_neg T] at a;by_cases V:1844674407370955162<=n
         .have L:(1844674407370955162:Int)<=(n:Int):=wC;rw[if_pos wC] at a;simp[k,A,t,y,B,v,p,C,w,l,o,ke j,u,I,g,hc,E,N,K,M,G,L];exact⟨wT,18446744073709551615,rfl⟩
         .have L:¬(1844674407370955162:Int)<=(n:Int):=wC;obtain⟨m,hm⟩:∃m,m=n*10:=⟨_,rfl⟩;have H:m<18446744073709551616:=wC;have R:=zf ((n:Int)*10) (m:Int);rw[<-hm] at a;by_cases P:18446744073709551616<=m+d
          .rw[if_pos P] at a;have hx:=qha H wC P;generalize hX:IntKind.u64.wrap ((m:Int)+(d:Int))=X at hx;simp[k,A,t,y,B,v,p,C,w,l,o,ke j,u,I,g,hc,E,N,K,M,G,L,S,R,hX,hx];exact⟨wT,18446744073709551615,rfl⟩
          .rw[if_neg P] at a;obtain⟨q,hq⟩:∃q,q=m+d:=⟨_,rfl⟩;have wq:=zf ((m:Int)+(d:Int)) (q:Int);have Q:¬(q:Int)<(m:Int):=wC;have O:¬(18446744073709551615:Int)<(q:Int):=wC;rw[<-hq] at a;simp[k,A,t,y,B,v,p,C,w,l,o,ke j,u,I,g,hc,E,N,K,M,G,L,S,R,wq,Q,O,hw];exact⟨i+1,wC,wC,q,wC,a,rfl,wE⟩
       .rw[if_neg f] at a;by_cases f3:97<=F
        .have E:(97:Int)<=(F:Int):=wC;have N:¬(F:Int)<=122:=wC;simp only at a;simp[k,A,t,y,B,v,p,C,w,l,o,ke j,u,I,g,hc,E,N];exact⟨wT,0,rfl⟩
        .have E:¬(97:Int)<=(F:Int):=wC;simp only at a;simp[k,A,t,y,B,v,p,C,w,l,o,ke j,u,I,g,hc,E];exact⟨wT,0,rfl⟩
   .have o:=zw j;rw[Vn wC,Qz] at a;simp[k,A,t,y,B,v,p,C,w,l,o];exact⟨n,wT,rfl⟩
  .simp[Tryz.f172,h0,kG];refine Run.loopThen (fun(z:Nat×Nat) e H'=>z.1<=s.length/\z.2<18446744073709551616/\Qz 16 (s.drop z.1) z.2=Qz 16 s 0/\H'=[some (qf s)]/\qi e 1=some (.int .i64 16)/\qi e 8=some (.bool false)/\qi e 9=some (.str s)/\qi e 10=some (.int .u64 1152921504606846976)/\qi e 11=some (.int .u64 18446744073709551615)/\qi e 12=some (.bool false)/\qi e 13=some (.int .u64 (z.2:Nat))/\qi e 99=some (.osl 0 s.length 0 s.length 1)/\qi e 100=some (.int .i64 s.length)/\qi e 101=some (.int .i64 (z.1:Nat))) (fun z=>s.length-z.1) (0,0) wE ?_;rintro⟨i,n⟩ e H' ⟨hi,hn,a,rfl,k,A,t,y,B,v,p,C,w,l⟩;simp only at hi hn a p l;by_cases j:i<s.length
   .have o:=zq j;have hw:=qz ((i:Int)+1) ((i+1:Nat):Int);have hc:=qoW s[i];have ac:=s[i].toNat_lt;rw[jo j,Qz] at a;unfold qf2 at a;by_cases hd:48<=s[i].toNat/\s[i].toNat<=57
    .rw[if_pos hd] at a;have u:(48:Int)<=(s[i].toNat:Int):=wC;have I:(s[i].toNat:Int)<=57:=wC;have g:¬(s[i].toNat:Int)=95:=wC;obtain⟨d,Xg⟩:∃d,d=s[i].toNat-48:=⟨_,rfl⟩;have W:=zu8 ((s[i].toNat:Int)-48) (d:Int);rw[<-Xg] at a;simp only at a;have U:d<16:=wC;have S:=zf (d:Int) (d:Int);by_cases T:16<=d
     .have G:(16:Int)<=(d:Int):=wC;rw[if_pos T] at a;simp[k,A,t,y,B,v,p,C,w,l,o,ke j,u,I,g,W,G];exact⟨wT,0,rfl⟩
     .have G:¬(16:Int)<=(d:Int):=wC;rw[if_neg T] at a;by_cases V:1152921504606846976<=n
      .have L:(1152921504606846976:Int)<=(n:Int):=wC;rw[if_pos wC] at a;simp[k,A,t,y,B,v,p,C,w,l,o,ke j,u,I,g,W,G,L];exact⟨wT,18446744073709551615,rfl⟩
      .have L:¬(1152921504606846976:Int)<=(n:Int):=wC;obtain⟨m,hm⟩:∃m,m=n*16:=⟨_,rfl⟩;have H:m<18446744073709551616:=wC;have R:=zf ((n:Int)*16) (m:Int);rw[<-hm] at a;by_cases P:18446744073709551616<=m+d
       .rw[if_pos P] at a;have hx:=qha H wC P;generalize hX:IntKind.u64.wrap ((m:Int)+(d:Int))=X at hx;simp[k,A,t,y,B,v,p,C,w,l,o,ke j,u,I,g,W,G,L,S,R,hX,hx];exact⟨wT,18446744073709551615,rfl⟩
       .rw[if_neg P] at a;obtain⟨q,hq⟩:∃q,q=m+d:=⟨_,rfl⟩;have wq:=zf ((m:Int)+(d:Int)) (q:Int);have Q:¬(q:Int)<(m:Int):=wC;have O:¬(18446744073709551615:Int)<(q:Int):=wC;rw[<-hq] at a;simp[k,A,t,y,B,v,p,C,w,l,o,ke j,u,I,g,W,G,L,S,R,wq,Q,O,hw];exact⟨i+1,wC,wC,q,wC,a,rfl,wE⟩
    .rw[if_neg hd] at a;by_cases Xk:s[i].toNat<48
     .have lw:=qoX Xk;rw[if_neg wC] at a;have u:¬(48:Int)<=(s[i].toNat:Int):=wC;have g:¬(s[i].toNat:Int)=95:=wC;have E:¬(97:Int)<=((s[i]|||32).toNat:Int):=wC;generalize (s[i]|||32).toNat=F at *;simp only at a;simp[k,A,t,y,B,v,p,C,w,l,o,ke j,u,g,hc,E];exact⟨wT,0,rfl⟩
     .have u:(48:Int)<=(s[i].toNat:Int):=wC;have I:¬(s[i].toNat:Int)<=57:=wC;by_cases Z:s[i].toNat=95
      .have lw:=qoY Z;rw[if_neg wC] at a;have g:(s[i].toNat:Int)=95:=wC;have E:(97:Int)<=((s[i]|||32).toNat:Int):=wC;have N:¬((s[i]|||32).toNat:Int)<=122:=wC;generalize (s[i]|||32).toNat=F at *;rw[g] at hc;simp only at a;simp[k,A,t,y,B,v,p,C,w,l,o,ke j,g,hc,E,N];exact⟨wT,0,rfl⟩
      .have g:¬(s[i].toNat:Int)=95:=wC;have aa:=(s[i]|||32).toNat_lt;generalize (s[i]|||32).toNat=F at *;by_cases f:97<=F/\F<=122
       .rw[if_pos f] at a;have E:(97:Int)<=(F:Int):=wC;have N:(F:Int)<=122:=wC;obtain⟨Y,vF⟩:∃d,d=F-97:=⟨_,rfl⟩;obtain⟨d,Xg⟩:∃d,d=Y+10:=⟨_,rfl⟩;have K:=zu8 ((F:Int)-97) (Y:Int);have M:=zu8 ((Y:Int)+10) (d:Int);rw[<-vF,<-Xg] at a;simp only at a;have U:d<36:=wC;have S:=zf (d:Int) (d:Int);by_cases T:16<=d
        .have G:(16:Int)<=(d:Int):=wC;rw[if_pos T] at a;simp[k,A,t,y,B,v,p,C,w,l,o,ke j,u,I,g,hc,E,N,K,M,G];exact⟨wT,0,rfl⟩
        .have G:¬(16:Int)<=(d:Int):=wC;rw[if_neg T] at a;by_cases V:1152921504606846976<=n
         .have L:(1152921504606846976:Int)<=(n:Int):=wC;rw[if_pos wC] at a;simp[k,A,t,y,B,v,p,C,w,l,o,ke j,u,I,g,hc,E,N,K,M,G,L];exact⟨wT,18446744073709551615,rfl⟩
         .have L:¬(1152921504606846976:Int)<=(n:Int):=wC;obtain⟨m,hm⟩:∃m,m=n*16:=⟨_,rfl⟩;have H:m<18446744073709551616:=wC;have R:=zf ((n:Int)*16) (m:Int);rw[<-hm] at a;by_cases P:18446744073709551616<=m+d
          .rw[if_pos P] at a;have hx:=qha H wC P;generalize hX:IntKind.u64.wrap ((m:Int)+(d:Int))=X at hx;simp[k,A,t,y,B,v,p,C,w,l,o,ke j,u,I,g,hc,E,N,K,M,G,L,S,R,hX,hx];exact⟨wT,18446744073709551615,rfl⟩
          .rw[if_neg P] at a;obtain⟨q,hq⟩:∃q,q=m+d:=⟨_,rfl⟩;have wq:=zf ((m:Int)+(d:Int)) (q:Int);have Q:¬(q:Int)<(m:Int):=wC;have O:¬(18446744073709551615:Int)<(q:Int):=wC;rw[<-hq] at a;simp[k,A,t,y,B,v,p,C,w,l,o,ke j,u,I,g,hc,E,N,K,M,G,L,S,R,wq,Q,O,hw];exact⟨i+1,wC,wC,q,wC,a,rfl,wE⟩
       .rw[if_neg f] at a;by_cases f3:97<=F
        .have E:(97:Int)<=(F:Int):=wC;have N:¬(F:Int)<=122:=wC;simp only at a;simp[k,A,t,y,B,v,p,C,w,l,o,ke j,u,I,g,hc,E,N];exact⟨wT,0,rfl⟩
        .have E:¬(97:Int)<=(F:Int):=wC;simp only at a;simp[k,A,t,y,B,v,p,C,w,l,o,ke j,u,I,g,hc,E];exact⟨wT,0,rfl⟩
   .have o:=zw j;rw[Vn wC,Qz] at a;simp[k,A,t,y,B,v,p,C,w,l,o];exact⟨n,wT,rfl⟩
theorem qv2[MaxL][TxtC](s:List UInt8)(h:s.length<=281474976710656):call cx 254 [.str s] []=some (.str s,[]):=by
 refine qeE ?_;rw[qvu,qgH,if_pos h]
theorem qwS[MaxL][TxtC](f s:List UInt8)(h:s.length<=281474976710656):∃d,call cx 215 [.str f,.str s] []=some (.vptr d,[]):=by
 have hc:=qv2 s h
 suffices a:∃r,call cx 215 [.str f,.str s] []=some r/\∃d,r=(.vptr d,[]) by
  obtain⟨r,b,d,rfl⟩:=a;exact⟨d,b⟩
 refine Vk (fun r=>∃d,r=(D.vptr d,[])) Tryz.func215 rfl ⟨rfl,rfl⟩ ?_;simp[Tryz.f215,hc]
theorem qyT[MaxL][TxtC](f s:List UInt8)(h:s.length<=281474976710656):∃d,call cx 216 [.str f,.str s] []=some (.vptr d,[]):=by
 have hc:=qv2 s h
 suffices a:∃r,call cx 216 [.str f,.str s] []=some r/\∃d,r=(.vptr d,[]) by
  obtain⟨r,b,d,rfl⟩:=a;exact⟨d,b⟩
 refine Vk (fun r=>∃d,r=(D.vptr d,[])) Tryz.func216 rfl ⟨rfl,rfl⟩ ?_;simp[Tryz.f216,hc]
theorem qwO[MaxL][TxtC](f s:List UInt8)(h:s.length<=281474976710656)(b c:Int)(hc:c=1\/c=2):∃d,call cx 173 [.str f,.str s,.int .i64 b,.int .i64 64,.iface 318 (.int .i64 c)] []=some (.iface 320 (.vptr d),[]):=by
 obtain⟨j,a⟩:=qwS f s h;obtain⟨i,e⟩:=qyT f s h
 suffices g:∃r,call cx 173 [.str f,.str s,.int .i64 b,.int .i64 64,.iface 318 (.int .i64 c)] []=some r/\∃d,r=(.iface 320 (.vptr d),[]) by
  obtain⟨r,a,d,rfl⟩:=g;exact⟨d,a⟩
 refine Vk (fun r=>∃d,r=(D.iface 320 (.vptr d),[])) Tryz.func173 rfl ⟨rfl,rfl⟩ ?_;rcases hc with rfl|rfl
 .simp[Tryz.f173,e]
 .simp[Tryz.f173,a]
theorem qyY[MaxL][TxtC](b:Nat)(g:b=10\/b=16)(s:List UInt8)(f:s.length<=281474976710656):
  (∃n,pu b s=some n/\call cx 115 [.str s,.int .i64 b,.int .i64 64] []=some (.tup [.int .u64 n,.nili],[]))\/
  (pu b s=none/\∃(x:Nat)(d:List D),call cx 115 [.str s,.int .i64 b,.int .i64 64] []=some (.tup [.int .u64 x,.iface 320 (.vptr d)],[])):=by
 rcases qyX b g s wC with⟨n,e,a⟩|⟨e,x,c,hc,a⟩
 .refine .inl ⟨n,e,?_⟩;refine qC Tryz.func115 rfl ⟨rfl,rfl⟩ ?_;simp[Tryz.f115,a]
 .obtain⟨d,h⟩:=qwO [80,97,114,115,101,85,105,110,116] s f b c hc;refine .inr ⟨e,x,d,?_⟩;refine qC Tryz.func115 rfl ⟨rfl,rfl⟩ ?_;simp[Tryz.f115,a,h]
theorem qtn{l:List UInt8}{k:Nat}(h:k<l.length):ju (l.take (k+1))=ju (l.take k)++[vT (l[k].toNat/16),vT (l[k].toNat % 16)]:=by
 rw[Ky h,qtq];rfl
theorem q34[MaxL][TxtC](l:List UInt8)(M:l.length=16):call cx 42 [.agg (qf l)] []=some (.str (ju l),[]):=by
 refine qC Tryz.func42 rfl ⟨rfl,rfl⟩ ?_;have F:List.take 16 (qf l)=qf l:=qH wG;have C:16<=l.length:=wC
 simp[Tryz.f42,F,C]
 refine Run.loopThen (fun(k:Nat) e H'=>k<=16/\qi e 6=some (.agg (qf l))/\qi e 7=some (.int .i64 k)/\
   ((k=0/\qi e 3=some (.vsl true [] 0)/\H'=[some (qf l)])\/
   (∃w,qi e 3=some (.osl 1 (ju (l.take k)).length 0 (ju (l.take k)).length 1)/\H'=[w,some (qf (ju (l.take k)))])\/
   (∃w,qi e 3=some (.osl 0 (ju (l.take k)).length 0 (ju (l.take k)).length 1)/\H'=[some (qf (ju (l.take k))),w]))) (fun k=>16-k) 0 ?_ ?_
 .simp
 rintro k e H' ⟨I,o,p,s⟩;by_cases K:k<16
 .have t:(k:Int)<16:=by omega
  have g:k<l.length:=wC
  have y:=qz ((k:Int)+1) ((k+1:Nat):Int);have H:=ke g;have i:=qtn g;have N:=l[k].toNat_lt;have r:=q6O l[k];have f:(2:Int)^min 4 IntKind.u8.bits=16:=wH
  have q:=quq l[k].toNat;have n:=quW (l[k].toNat/16) wC;have j:=quW (l[k].toNat % 16) wC;simp only[Xo] at n j
  have qd:(qf l)[k]?=some (.int .u8 l[k].toNat):=by
   rw[qM xD,qzX]
  have z:(ju (l.take k)).length=2*k:=by rw[qe0,jc];omega
  generalize l[k]=b at *;generalize vT (b.toNat/16)=G at *;generalize vT (b.toNat % 16)=E at *;obtain⟨L,B⟩:∃m,m=b.toNat/16:=⟨_,rfl⟩;obtain⟨J,v⟩:∃m,m=b.toNat % 16:=⟨_,rfl⟩;rw[<-B] at q n;rw[<-v] at r j;have d:(ju (l.take (k+1))).length=(ju (l.take k)).length+2:=by rw[i];simp
  have a:qf (ju (l.take k))++[.int .u8 G.toNat,.int .u8 E.toNat]=qf (ju (l.take (k+1))):=by rw[i];simp[qf]
  have x:(ju (l.take k)).length+2<=qF:=zJ (show _<=100 from wC) wH;rcases s with⟨rfl,c,rfl⟩|⟨w,c,rfl⟩|⟨w,c,rfl⟩
  .simp at a d;have v:2<=qF:=wH;simp[c,o,p,qd,r,f,q,n,j,v];exact⟨1,wC,wC,wE,by rw[d];simp[ju],by rw[<-a];simp[ju,qf]⟩
  .generalize ju (l.take k)=X at *;simp[c,o,p,t,y,qd,r,f,q,n,j,a,x];exact⟨k+1,wC,wC,wE,by rw[d],rfl⟩
  .generalize ju (l.take k)=X at *;simp[c,o,p,t,y,qd,r,f,q,n,j,a,x];exact⟨k+1,wC,wC,wE,by rw[d],rfl⟩
 .have t:¬(k:Int)<16:=by omega
  have u:k=16:=wC
  subst u;have A:l.take 16=l:=qH wC;rw[A] at s;rcases s with⟨h,_⟩|⟨w,c,rfl⟩|⟨w,c,rfl⟩
  .omega
  .simp[c,o,p]
  .simp[c,o,p]
theorem q3n[MaxL][TxtC](s:List UInt8)(c:UInt8):call cx 114 [.str s,.int .u8 c.toNat] []=some (.int .i64 (QG c s 0),[]):=by
 have b:call cx 212 [.str s,.int .u8 c.toNat] []=some (.int .i64 (QG c s 0),[]):=by
  rw[qiC (X:=cx) (f:=212) rfl Tryz.func212 rfl,qut];simp[qgx]
 have a:call cx 171 [.str s,.int .u8 c.toNat] []=some (.int .i64 (QG c s 0),[]):=by
  refine qC Tryz.func171 rfl ⟨rfl,rfl⟩ ?_;simp[Tryz.f171,b]
 refine qC Tryz.func114 rfl ⟨rfl,rfl⟩ ?_;simp[Tryz.f114,a]
theorem qwn:qf zero16=[.int .u8 0,.int .u8 0,.int .u8 0,.int .u8 0,.int .u8 0,.int .u8 0,.int .u8 0,.int .u8 0,.int .u8 0,.int .u8 0,.int .u8 0,.int .u8 0,.int .u8 0,.int .u8 0,.int .u8 0,.int .u8 0]:=rfl
theorem qxQ(st:List UInt8)(j:Nat)(c:UInt8)(h:j<st.length):zT (qf st) j [.int .u8 c.toNat]=qf (st.set j c):=by
 unfold zT qf;rw[qgU,if_pos h];simp
theorem q3s[MaxL][TxtC](s:List UInt8)(_:s.length<1000000):call cx 65 [.str s] []=some (.tup [.agg (qf ((KR s).getD zero16)),.bool (KR s).isSome],[]):=by
 refine qC Tryz.func65 rfl ⟨rfl,rfl⟩ ?_;have r:=qwn;have d:zero16.length=16:=rfl;have g:List.drop 16 (qf zero16)=[]:=rfl;by_cases v:s.length=32
 .have h:(s.length:Int)=32:=by omega
  have K:KR s=X7 s 0 zero16:=by unfold KR;rw[if_pos v]
  rw[K];simp[Tryz.f65,h];rw[<-r]
  refine Run.loopThen (fun(q:Nat×List UInt8) e H'=>q.1<=32/\q.2.length=16/\X7 (s.drop q.1) q.1 q.2=X7 s 0 zero16/\H'=[some (qf zero16),some (qf q.2)]/\qi e 0=some (.str s)/\qi e 2=some (.optr 0 16 0)/\qi e 4=some (.optr 1 16 0)/\
    qi e 12=some (.int .i64 32)/\qi e 13=some (.int .i64 (q.1:Nat))) (fun q=>32-q.1) (0,zero16) ?_ ?_
  .simp[zero16]
  rintro⟨k,st⟩ e H' ⟨U,l,a,rfl,N,G,A,p,n⟩;simp only at U l a n;by_cases Z:k<32
  .have y:(k:Int)<32:=wC;have u:k<s.length:=wC;rw[jo u,X7] at a;have Q:s[k]?=some s[k]:=qM u;have f:=q3n Xo s[k];have H:=qsV s[k] Xo 0;generalize s[k]=c at *;simp only[Xo] at f;have Y:=qz ((k:Int)+1) ((k+1:Nat):Int);rcases H with M|⟨m,R,z⟩
   .rw[M,if_pos wC] at a;simp only[Xo] at M;rw[M] at f;rw[<-a];simp[N,G,A,p,n,y,Q,f,<-r,d,g]
   .rw[J3] at z;have t:m<16:=R;rw[z,if_neg wC] at a;simp only[Xo] at z;rw[z] at f;have E:¬(m:Int)<0:=wC;have L:((m:Nat):Int).toNat=m:=wC;rw[L] at a;have X:(k:Int).tdiv 2=((k/2:Nat):Int):=(Int.ofNat_tdiv k 2).symm;have O:=qz ((k:Int)/2) ((k/2:Nat):Int);obtain⟨j,V⟩:∃j,j=k/2:=⟨_,rfl⟩;rw[<-V] at a X O;have i:j<st.length:=wC;have o:(j:Int)<16:=wC;have T:=ke i;have B:st.getD j 0=st[j]:=(by rw[List.getD,qM i];rfl);rw[B] at a;have J:=zu8 (m:Int) (m:Int);have F:=qxI st[j] m t;have qn:=qxQ st j (st[j]<<<4|||UInt8.ofNat m) i;generalize st[j]=b at *;generalize hx:b<<<4|||UInt8.ofNat m=x at *;have Z9:j+1<=st.length:=wC;have w:j<=15:=wC;have I:(2:Int)^min 4 IntKind.u8.bits=16:=wH;have S:(st.set j x).length=16:=(by simpa using l);generalize st.set j x=C at *;simp[-qeg,N,G,A,p,n,y,Q,f,E,O,o,T,J,F,I,qn,l,w,Y];exact⟨k+1,wC,wC,C,S,a,rfl,wE⟩
  .have y:¬(k:Int)<32:=wC;rw[Vn wC,X7] at a;rw[<-a];have P:16<=st.length:=wC;have W:List.take 16 (qf st)=qf st:=qH wG;simp[N,G,A,p,n,y,W,l,d,g]
 .have h:¬(s.length:Int)=32:=by omega
  have K:KR s=none:=by unfold KR;rw[if_neg v]
  rw[K];simp[Tryz.f65,h,<-r,d,g]
theorem qyH[MaxL][TxtC](n:Nat)(h:n<=16):call cx 95 [.str [48],.int .i64 n] []=some (.str (List.replicate n 48),[]):=by
 refine qeE ?_
 have e:∀n,Lib.repeatL [48] n=List.replicate n (48:UInt8):=by
  intro n
  induction n with
  |zero=>rfl
  |succ n b=>rw[Lib.repeatL,b];rfl
 have a:((n:Nat):Int).toNat=n:=wC
 rw[qvs,qgF,if_pos ⟨wC,wC,by rw[a];simp;omega⟩,a,e]
theorem qla[MaxL][TxtC](v:Nat)(a:v<18446744073709551616):call cx 43 [.int .u64 v] []=some (.str (Qt v),[]):=by
 have e:=q4d v a;have f:=qtj v;have c:=qyH (16-(hx v).length) wC;have b:=qz (16-((hx v).length:Int)) ((16-(hx v).length:Nat):Int);have d:(16-(hx v).length)+(hx v).length<=4611686018427387904:=wC
 refine qC Tryz.func43 rfl ⟨rfl,rfl⟩ ?_;unfold Qt;generalize hx v=x at *;generalize 16-x.length=n at *;simp[Tryz.f43,e,c,b,d]
def KI(s:List UInt8):Option Nat:=match pu 16 s with
 |none=>none
 |some v=>if Qt v=s then some v else none
theorem qnN{s:List UInt8}{v:Nat}(h:pu 16 s=some v):v<18446744073709551616:=by
 unfold pu at h;split at h
 .cases h
 .exact qnK 16 _ _ _ wH h
theorem qoy[MaxL][TxtC](s:List UInt8)(e:s.length<1000000):call cx 66 [.str s] []=some (.tup [.int .u64 ((KI s).getD 0:Nat),.bool (KI s).isSome],[]):=by
 refine qC Tryz.func66 rfl ⟨rfl,rfl⟩ ?_;unfold KI;rcases qyY 16 (.inr rfl) s wC with⟨v,a,e2⟩|⟨a,x,d,e2⟩
 .replace e2:call cx 115 [.str s,.int .i64 16,.int .i64 64] []=some (.tup [.int .u64 v,.nili],[]):=e2;rw[a];simp only;have h:=qla v (qnN a);by_cases b:Qt v=s
  .rw[if_pos b];rw[b] at h;simp[Tryz.f66,e2,h]
  .rw[if_neg b];have c:(Qt v==s)=false:=beq_eq_false_iff_ne.2 b;generalize Qt v=w at *;simp[Tryz.f66,e2,h,c]
 .replace e2:call cx 115 [.str s,.int .i64 16,.int .i64 64] []=some (.tup [.int .u64 x,.iface 320 (.vptr d)],[]):=e2;rw[a];simp[Tryz.f66,e2]
theorem qsW(c:List UInt8):∀(s:List UInt8)(n:Nat),(∃i:Nat,JG c s n=((n+i:Nat):Int)/\i+c.length<=s.length/\c.isPrefixOf (s.drop i)=true)\/JG c s n= -1
 |[],n=>by
  unfold JG;cases c with
  |nil=>exact .inl ⟨0,wE⟩
  |cons a l=>exact .inr wE
 |b::l,n=>by
  unfold JG;by_cases h:c.isPrefixOf (b::l)=true
  .rw[if_pos h];refine .inl ⟨0,wE,?_,wQ⟩;have:=List.IsPrefix.length_le (List.isPrefixOf_iff_prefix.1 h);simpa using this
  .rw[if_neg h];rcases qsW c l (n+1) with⟨i,d,f,e⟩|d
   .exact .inl ⟨i+1,by rw[d];omega,wG,by simpa using e⟩
   .exact .inr d
theorem q3k[MaxL][TxtC](s a:List UInt8)(b:s.length<4294967281):call cx 211 [.str s,.str a] []=some (.int .i64 (JG a s 0),[]):=by
 refine qeE ?_;rw[qvv,qgG,if_pos b]
theorem q5q[MaxL][TxtC](s:List UInt8)(c:UInt8):call cx 169 [.str s,.str [c]] []=some (.int .i64 (s.count c:Nat),[]):=by
 have a:call cx 210 [.str s,.int .u8 c.toNat] []=some (.int .i64 (s.count c:Nat),[]):=by
  rw[qiC (X:=cx) (f:=210) rfl Tryz.func210 rfl,quu];simp[qgJ]
 refine qC Tryz.func169 rfl ⟨rfl,rfl⟩ ?_;simp[Tryz.f169,a]
theorem qxD[MaxL][TxtC](s a:List UInt8)(b:s.length<4294967281):call cx 170 [.str s,.str a] []=some (.int .i64 (JG a s 0),[]):=by
 have h:=q3k s a b;refine qC Tryz.func170 rfl ⟨rfl,rfl⟩ ?_;simp[Tryz.f170,h]
theorem qj0(ps:List (List UInt8))(x:List UInt8)(n:Nat):zT (ps.map D.str++List.replicate (n+1) (D.str [])) ps.length [.str x]=(ps++[x]).map D.str++List.replicate n (D.str []):=by
 have a:List.drop (ps.length+1) (ps.map D.str++D.str []::List.replicate n (D.str []))=List.replicate n (D.str []):=by
  rw[show ps.map D.str++D.str []::List.replicate n (D.str [])=(ps.map D.str++[D.str []])++List.replicate n (D.str []) from wE];exact VD wE
 unfold zT;rw[qdT];simp[a]
theorem q4a[MaxL][TxtC](c:UInt8)(s:List UInt8)(hs:s.length<1000000):call cx 113 [.str s,.str [c],.int .i64 0,.int .i64 (-1)] []=some (.vsl false ((Jj c s).map D.str) (Jj c s).length,[]):=by
 have hc:=q5q s c;have qE:s.count c<=s.length:=List.count_le_length;unfold Jj;generalize s.count c=m at *;refine qC Tryz.func113 rfl ⟨rfl,rfl⟩ ?_;have W:=qz ((m:Int)+1) ((m+1:Nat):Int);have X:=qz ((s.length:Int)+1) ((s.length+1:Nat):Int);have w3:¬s.length<m:=wC
 have S:=qz (m:Int) (m:Int);have Y:(16:Int)*((m:Int)+1)<=(qF:Nat):=xV
 have Z:(m:Int)+1<=(qF:Nat):=xV
 have P:(0:Int)<=(m:Int)+1:=wC
 have w8:=qz ((m:Int)+1-1) (m:Int);simp[Tryz.f113,hc,W,X,w3,S,Y,Z,P]
 refine Run.loopThen (fun(q:List (List UInt8)×List UInt8) e H'=>q.1.length<=m/\q.2.length<=s.length/\q.1++YF c (m-q.1.length) q.2=YF c m s/\H'=[some (q.1.map D.str++List.replicate (m-q.1.length+1) (.str []))]/\
   qi e 0=some (.str q.2)/\qi e 1=some (.str [c])/\qi e 2=some (.int .i64 0)/\qi e 3=some (.int .i64 m)/\qi e 9=some (.osl 0 (m+1) 0 (m+1) 1)/\qi e 10=some (.int .i64 (q.1.length:Nat))) (fun q=>m-q.1.length) ([],s) ?_ ?_
 .simp
 rintro⟨ps,r⟩ e H' ⟨v,N,a,rfl,w,G,C,B,z,h⟩;simp only at v N a w h;have g:=qxD r [c] wC;have F:(ps.length:Int)<(m:Int)+1:=wC
 have K:(0:Int)<=(ps.length:Int)+1:=wC
 have J:ps.length+(m-ps.length+1)=m+1:=wC
 have n:=qz ((ps.length:Int)+1) ((ps.length+1:Nat):Int);have p:ps.length+1<=m+1:=wC
 have k:∀(x:List UInt8),List.take (ps.length+1) ((ps++[x]).map D.str++List.replicate (m-ps.length) (.str []))=(ps++[x]).map D.str:=by
  intro x;exact List.take_left' wE
 have t:ps.length+1+(m-ps.length)=m+1:=wC
 have l:idFree.idFreeL (List.map D.str (ps++[r])++List.replicate (m-ps.length) (D.str []))=true:=by
  rw[Q0];simp[idFree]
 by_cases I:ps.length<m
 .have u:=zq I;obtain⟨d,H⟩:∃d,m-ps.length=d+1:=⟨m-ps.length-1,wC⟩;rw[H,YF] at a;rcases qsW [c] r 0 with⟨j,o,R,-⟩|o
  .rw[J3] at o;rw[o] at g;rw[o,if_neg wC] at a;have y:((j:Nat):Int).toNat=j:=wC;rw[y] at a;have Z9:j+1<=r.length:=(by simpa using R);have Q:¬(j:Int)<0:=wC;have A:=qz (j:Int) (j:Int);obtain⟨i,hi⟩:∃i,i=j+1:=⟨_,rfl⟩;have M:=qz ((j:Int)+1) (i:Int);rw[<-hi] at a;have f:=qj0 ps (r.take j) (d+1);have T:List.take (r.length-i) (List.drop i r)=r.drop i:=qH wE;have E:(r.drop i).length<=s.length:=wG;have L:(j:Int)<=(r.length:Int):=wC;have g2:j<=r.length:=wC;have V:(i:Int)<=(r.length:Int):=wC;have g4:i<=r.length:=wC;have U:m-ps.length+1=d+1+1:=wC;have g6:m-(ps.length+1)+1=d+1:=wC;have O:ps.length+(d+1+1)=m+1:=wC;have g8:ps.length+1<=ps.length+(d+1+1):=wC;rw[U];simp[-qeg,-List.map_append,-List.map_cons,v,w,G,C,B,z,h,u,g,Q,A,M,L,V,O,F,f,T,n];have b:(ps++[r.take j]).length=ps.length+1:=wE;refine⟨ps++[r.take j],by rw[b];omega,by rw[b];omega,r.drop i,E,?_,?_,rfl,by rw[b];simp⟩
   .rw[b,show m-(ps.length+1)=d from wC,<-a];simp
   .rw[b,show m-(ps.length+1)+1=d+1 from wC]
  .rw[o] at g;rw[o,if_pos rfl] at a;have f:=qj0 ps r (m-ps.length);rw[<-a];simp[-qeg,-List.map_append,-List.map_cons,v,K,w,G,C,B,z,h,u,g,F,f,J,n,p,k,t,l]
 .have u:=zw I;have XD:ps.length=m:=by omega
  have H:m-ps.length=0:=wC
  rw[H,YF] at a;have f:=qj0 ps r (m-ps.length);rw[<-a];simp[-qeg,-List.map_append,-List.map_cons,v,K,w,G,C,B,z,h,u,F,f,J,n,p,k,t,l]
theorem qxx[MaxL][TxtC](c:UInt8)(s:List UInt8)(a:s.length<1000000):call cx 64 [.str s,.str [c]] []=some (.vsl false ((Jj c s).map D.str) (Jj c s).length,[]):=by
 have h:=q4a c s a;refine qC Tryz.func64 rfl ⟨rfl,rfl⟩ ?_;simp[Tryz.f64,h]
theorem qmN(c:UInt8):∀(n:Nat)(s:List UInt8),∀x∈YF c n s,x.length<=s.length
 |0,s,x,h=>by simp[YF] at h;rw[h];exact qA _
 |n+1,s,x,h=>by
  rw[YF] at h;split at h
  .simp at h;rw[h];exact qA _
  .rcases List.mem_cons.1 h with rfl|h
   .simp;omega
   .have:=qmN c n _ x h;simp at this;omega
theorem quQ:∀k,k<16->qf2 (vT k)=some k:=wH
theorem qnM:∀(l r:List UInt8)(n:Nat),Qz 16 (l++r) n=match Qz 16 l n with
  |none=>none
  |some m=>Qz 16 r m
 |[],r,n=>by simp[Qz]
 |c::l,r,n=>by
  simp only[Qc,Qz];cases qf2 c with
  |none=>rfl
  |some d=>
   simp only;split
   .rfl
   .split
    .rfl
    .exact qnM l r _
theorem qnL:∀(f v:Nat),v<16^f->1<=f->v<18446744073709551616->Qz 16 (ZY f v) 0=some v
 |f+1,v,h,_,c=>by
  rw[ZY];by_cases a:v<16
  .rw[if_pos a];simp only[Qz,quQ v a];rw[if_neg wC,if_neg wC];congr 1;omega
  .rw[if_neg a,qnM]
   have b:1<=f:=by
    rcases f with _|f
    .simp at h;omega
    .omega
   rw[qnL f (v/16) (by rw[qeI] at h;omega) b wC];simp only[Qz,quQ _ (YA v (by decide:16>0))];rw[if_neg wC,if_neg wC];congr 1;omega
theorem qyZ{v:Nat}(h:v<18446744073709551616):Qz 16 (hx v) 0=some v:=qnL 16 v wC wC h
theorem qnJ(l:List UInt8):∀n,Qz 16 (List.replicate n 48++l) 0=Qz 16 l 0
 |0=>rfl
 |n+1=>by
  rw[qdT,Qc,Qz];have:qf2 48=some 0:=wH
  rw[this];simp only;rw[if_neg wC,if_neg wC];exact qnJ l n
theorem q0i{v:Nat}(h:v<18446744073709551616):KI (Qt v)=some v:=by
 have a:=qfx v
 have b:pu 16 (Qt v)=some v:=by
  unfold pu;rw[if_neg (by intro e;rw[e] at a;simp at a)];unfold Qt;rw[qnJ,qyZ h]
 unfold KI;rw[b];simp
end Go.Ev.S
namespace Go.Ev
open Go Go.Proofs
structure Inf where
 kind:Int
 seq:ID
 head:Int
 real:Int
 deriving DecidableEq
instance:Enc Inf:=⟨19,fun m=>(.int .i64 m.kind::(qf m.seq.l++(.int .u64 m.head::(.int .u64 m.real::([]:List D))))),fun m=>wE,fun m=>xE⟩
theorem Inf.cells(m:Inf):Enc.cells m=(.int .i64 m.kind::(qf m.seq.l++(.int .u64 m.head::(.int .u64 m.real::([]:List D))))):=rfl
@[simp] theorem Inf.size:Enc.size Inf=19:=rfl
@[simp] theorem Inf.cl (a:Inf):(Enc.cells a).length=19:=Enc.len a
@[simp] theorem Inf.ct (a:Inf) (r:List D):(Enc.cells a++r).take 19=Enc.cells a:=qcx rfl a r
@[simp] theorem Inf.ct' (a:Inf):(Enc.cells a).take 19=Enc.cells a:=qcw rfl a
@[simp] theorem Inf.cd (a:Inf) (r:List D):(Enc.cells a++r).drop 19=r:=qcy rfl a r
@[simp] theorem Inf.el (l:List Inf):(qt l).length=l.length*19:=Ks rfl l
@[simp] theorem Inf.ed (l:List Inf) (i:Nat):(qt l).drop (i*19)=qt (l.drop i):=qav rfl l i
@[simp] theorem Inf.et (l:List Inf) (i:Nat):(qt l).take (i*19)=qt (l.take i):=qau rfl l i
@[simp high] theorem Inf.ea {l:List Inf} {i:Nat} (h:i<l.length):(qt l).drop (i*19)=Enc.cells l[i]++qt (l.drop (i+1)):=XS rfl h
@[simp high] theorem Inf.es (m:Inf) {l:List Inf} {j:Nat} (h:j<l.length):zT (qt l) (j*19) (Enc.cells m)=qt (l.set j m):=XR rfl m l h
@[simp] theorem Inf.g0 (m:Inf) (h):(Enc.cells m)[0]'h=.int .i64 m.kind:=xO
@[simp] theorem Inf.q0 (m:Inf):(Enc.cells m)[0]?=some (.int .i64 m.kind):=xO
@[simp] theorem Inf.s0 (m:Inf) (x:Int):zT (Enc.cells m) 0 [.int .i64 x]=Enc.cells {m with kind:=x}:=by simp[jd,Inf.cells]
@[simp] theorem Inf.d1 (m:Inf):(Enc.cells m).drop 1=(qf m.seq.l++(.int .u64 m.head::(.int .u64 m.real::([]:List D)))):=by simp[jd,Inf.cells]
@[simp] theorem Inf.d1' (m:Inf) (r:List D):(Enc.cells m++r).drop 1=(qf m.seq.l++(.int .u64 m.head::(.int .u64 m.real::([]:List D))))++r:=by simp[jd,Inf.cells]
@[simp] theorem Inf.s1 (m:Inf) (x:ID):zT (Enc.cells m) 1 (qf x.l)=Enc.cells {m with seq:=x}:=by simp[Zk,Inf.cells]
@[simp] theorem Inf.d17 (m:Inf):(Enc.cells m).drop 17=(.int .u64 m.head::(.int .u64 m.real::([]:List D))):=xO
@[simp] theorem Inf.d17' (m:Inf) (r:List D):(Enc.cells m++r).drop 17=(.int .u64 m.head::(.int .u64 m.real::([]:List D)))++r:=xO
@[simp] theorem Inf.g17 (m:Inf) (h):(Enc.cells m)[17]'h=.int .u64 m.head:=xO
@[simp] theorem Inf.q17 (m:Inf):(Enc.cells m)[17]?=some (.int .u64 m.head):=xO
@[simp] theorem Inf.s17 (m:Inf) (x:Int):zT (Enc.cells m) 17 [.int .u64 x]=Enc.cells {m with head:=x}:=by simp[jd,ko,Inf.cells]
@[simp] theorem Inf.d18 (m:Inf):(Enc.cells m).drop 18=(.int .u64 m.real::([]:List D)):=by simp[jd,ko,Inf.cells]
@[simp] theorem Inf.d18' (m:Inf) (r:List D):(Enc.cells m++r).drop 18=(.int .u64 m.real::([]:List D))++r:=by simp[jd,ko,Inf.cells]
@[simp] theorem Inf.g18 (m:Inf) (h):(Enc.cells m)[18]'h=.int .u64 m.real:=xO
@[simp] theorem Inf.q18 (m:Inf):(Enc.cells m)[18]?=some (.int .u64 m.real):=xO
@[simp] theorem Inf.s18 (m:Inf) (x:Int):zT (Enc.cells m) 18 [.int .u64 x]=Enc.cells {m with real:=x}:=by simp[Zk,jd,ko,qH,Inf.cells]
def qeR:List UInt8:=[115,121,115,116,101,109,46,106,111,117,114,110,97,108]
def qfk:List UInt8:=[115,121,115,116,101,109,46,110,101,119]
def aheadL:List UInt8:=[115,121,115,116,101,109,64]
def behindL:List UInt8:=[46,106,111,117,114,110,97,108]
def X2(q:List UInt8)(h r:Nat):List UInt8:=ju q++45::(Qt h++45::Qt r)
def kF(q:List UInt8)(h r:Nat):List UInt8:=aheadL++(X2 q h r++behindL)
def kf(i:Inf):List UInt8:=if i.kind=1 then qeR else if i.kind=4 then qfk else if i.kind=2 then kF i.seq.l i.head.toNat i.real.toNat else if i.kind=3 then kF i.seq.l i.head.toNat i.real.toNat++[126] else[]
def VK(p s:List UInt8):Bool:=decide (p.length<=s.length)&&(s.drop (s.length-p.length)==p)
def QY(p s:List UInt8):List UInt8:=if VK p s then s.take (s.length-p.length) else s
theorem qm5(p s:List UInt8):VK p (s++p)=true:=by
 unfold VK;have e:(s++p).length-p.length=s.length:=wE
 rw[e,List.drop_left];simp
theorem qjk(p s:List UInt8):QY p (s++p)=s:=by
 have e:(s++p).length-p.length=s.length:=wE
 unfold QY;rw[qm5,if_pos rfl,e,List.take_left]
theorem qxa{a b:UInt8}(h:a≠b)(s:List UInt8):VK [b] (s++[a])=false:=by
 unfold VK;have e:(s++[a]).length-[b].length=s.length:=wE
 rw[e,List.drop_left];have:([a]==[b])=false:=wQ
 rw[this,Bool.and_false]
def qb3(p s:List UInt8):List UInt8:=if s.take p.length==p then s.drop p.length else s
theorem qmz(p s:List UInt8):qb3 p (p++s)=s:=by
 unfold qb3;rw[List.take_left,if_pos wE,List.drop_left]
def JD(s:List UInt8):List UInt8:=qb3 aheadL (QY behindL (QY [126] s))
theorem qvH(q:List UInt8)(h r:Nat):VK [126] (kF q h r)=false:=by
 have e:kF q h r=(aheadL++(X2 q h r++[46,106,111,117,114,110,97]))++[108]:=by
  simp[kF,behindL]
 rw[e];exact qxa wH _
theorem q0E(q:List UInt8)(h r:Nat):JD (kF q h r)=X2 q h r:=by
 have e:QY [126] (kF q h r)=kF q h r:=by
  unfold QY;rw[qvH,if_neg wH]
 have e2:kF q h r=(aheadL++X2 q h r)++behindL:=by simp[kF]
 unfold JD;rw[e,e2,qjk,qmz]
theorem q0D(q:List UInt8)(h r:Nat):JD (kF q h r++[126])=X2 q h r:=by
 have e2:kF q h r=(aheadL++X2 q h r)++behindL:=by simp[kF]
 unfold JD;rw[qjk,e2,qjk,qmz]
theorem qua(v:Nat):∀x∈Qt v,x≠59/\x≠61/\x≠45:=by
 intro x hx;unfold Qt at hx;rcases List.mem_append.1 hx with h|h
 .rw[(List.mem_replicate.1 h).2];decide
 .exact q3z v x h
theorem qmL(q:List UInt8)(h r:Nat):Jj 45 (X2 q h r)=[ju q,Qt h,Qt r]:=by
 unfold X2;rw[qmM (fun x hx=>(qtp q x hx).2.2),qmM (fun x hx=>(qua h x hx).2.2),qxw (fun x hx=>(qua r x hx).2.2)]
theorem qdO{q:List UInt8}(a:q.length=16)(h r:Nat):(kF q h r).length=81:=by
 simp only[kF,X2,zo,jJ,qe0,a,qfx,aheadL,behindL,kt]
end Go.Ev
namespace Go.Ev.S
open Go Go.Proofs Go.Ev
theorem qm4[MaxL][TxtC](s p:List UInt8)(i:s.length<1000000)(f:p.length<1000000):call cx 110 [.str s,.str p] []=some (.bool (VK p s),[]):=by
 refine qC Tryz.func110 rfl ⟨rfl,rfl⟩ ?_;unfold VK;by_cases h:p.length<=s.length
 .have a:(p.length:Int)<=(s.length:Int):=by omega
  obtain⟨j,d⟩:∃j,j=s.length-p.length:=⟨_,rfl⟩;have b:=qz ((s.length:Int)-(p.length:Int)) (j:Int);have c:(j:Int)<=(s.length:Int):=wC
  have g:j<=s.length:=wC
  have e:List.take (s.length-j) (List.drop j s)=List.drop j s:=qH wE;rw[<-d];simp[Tryz.f110,h,a,b,c,e]
 .have a:¬(p.length:Int)<=(s.length:Int):=by omega
  simp[Tryz.f110,h,a]
theorem qwZ[MaxL][TxtC](s p:List UInt8)(b:s.length<1000000)(a:p.length<1000000):call cx 61 [.str s,.str p] []=some (.bool (VK p s),[]):=by
 have h:=qm4 s p b a;refine qC Tryz.func61 rfl ⟨rfl,rfl⟩ ?_;simp[Tryz.f61,h]
theorem qwJ[MaxL][TxtC](s p:List UInt8)(f:s.length<1000000)(c:p.length<1000000):call cx 112 [.str s,.str p] []=some (.str (QY p s),[]):=by
 have h:=qm4 s p f c;refine qC Tryz.func112 rfl ⟨rfl,rfl⟩ ?_;unfold QY;cases a:VK p s with
 |false=>
  rw[a] at h;simp[Tryz.f112,h]
 |true=>
  rw[a] at h
  have i:p.length<=s.length:=by
   unfold VK at a;rw[zY] at a;simpa using a.1
  obtain⟨j,e⟩:∃j,j=s.length-p.length:=⟨_,rfl⟩;have b:=qz ((s.length:Int)-(p.length:Int)) (j:Int);have d:(j:Int)<=(s.length:Int):=wC
  have g:j<=s.length:=wC
  rw[<-e];simp[Tryz.f112,h,b,d]
theorem qmy[MaxL][TxtC](s p:List UInt8)(b:s.length<1000000)(a:p.length<1000000):call cx 63 [.str s,.str p] []=some (.str (QY p s),[]):=by
 have h:=qwJ s p b a;refine qC Tryz.func63 rfl ⟨rfl,rfl⟩ ?_;simp[Tryz.f63,h]
theorem qzb[MaxL][TxtC](s p:List UInt8)(_:s.length<1000000)(_:p.length<1000000):call cx 167 [.str s,.str p] []=some (.bool (s.take p.length==p),[]):=by
 refine qC Tryz.func167 rfl ⟨rfl,rfl⟩ ?_;by_cases h:p.length<=s.length
 .have a:(p.length:Int)<=(s.length:Int):=by omega
  simp[Tryz.f167,a]
 .have a:¬(p.length:Int)<=(s.length:Int):=by omega
  have b:(s.take p.length==p)=false:=by
   rw[beq_eq_false_iff_ne];intro e;have:=congrArg List.length e;rw[jc] at this;omega
  simp[Tryz.f167,a,b]
theorem qwL[MaxL][TxtC](s p:List UInt8)(d:s.length<1000000)(b:p.length<1000000):call cx 111 [.str s,.str p] []=some (.str (qb3 p s),[]):=by
 have h:=qzb s p d b;refine qC Tryz.func111 rfl ⟨rfl,rfl⟩ ?_;unfold qb3;cases a:(s.take p.length==p) with
 |false=>
  rw[a] at h;simp[Tryz.f111,h]
 |true=>
  rw[a] at h
  have f:p.length<=s.length:=by
   have:=congrArg List.length (beq_iff_eq.1 a);rw[jc] at this;omega
  have c:(p.length:Int)<=(s.length:Int):=wC
  have e:List.take (s.length-p.length) (List.drop p.length s)=List.drop p.length s:=qH wE;simp[Tryz.f111,h,c,e]
theorem qwK[MaxL][TxtC](s p:List UInt8)(b:s.length<1000000)(a:p.length<1000000):call cx 62 [.str s,.str p] []=some (.str (qb3 p s),[]):=by
 have h:=qwL s p b a;refine qC Tryz.func62 rfl ⟨rfl,rfl⟩ ?_;simp[Tryz.f62,h]
def dsh:List UInt8:=[45]
structure InfOk (i:Inf):Prop where
 head:jq i.head
 real:jq i.real
theorem qo8[MaxL][TxtC](i:Inf)(h:InfOk i)(R:i.kind=2):call cx 18 [.agg (Enc.cells i)] []=some (.str (kF i.seq.l i.head.toNat i.real.toNat),[]):=by
 obtain⟨V,m,k,j⟩:=i;obtain⟨I,L⟩:=h;simp only at R I L;subst R;unfold jq at I L;have P:((k.toNat:Nat):Int)=k:=wC
 have e2:((j.toNat:Nat):Int)=j:=wC
 have U:=q34 m.l m.h;have N:=qla k.toNat wC;have O:=qla j.toNat wC;rw[P] at N;rw[e2] at O;have Q:=qe0 m.l;have T:=qfx k.toNat;have S:=qfx j.toNat;rw[m.h] at Q;simp only[kF,X2];generalize ju m.l=H at *;generalize Qt k.toNat=C at *;generalize Qt j.toNat=K at *;clear P e2 I L;have G:List.drop 17 (qf m.l++[D.int .u64 k,D.int .u64 j])=[D.int .u64 j]:=by simp[jd,ko]
 obtain⟨E,c⟩:∃s,s=aheadL++H:=⟨_,rfl⟩;have q:E.length=aheadL.length+H.length:=by rw[c,zo]
 obtain⟨J,a⟩:∃s,s=E++dsh:=⟨_,rfl⟩;have x:J.length=E.length+dsh.length:=by rw[a,zo]
 obtain⟨F,e⟩:∃s,s=J++C:=⟨_,rfl⟩;have z:F.length=J.length+C.length:=by rw[e,zo]
 obtain⟨A,b⟩:∃s,s=F++dsh:=⟨_,rfl⟩;have r:A.length=F.length+dsh.length:=by rw[b,zo]
 obtain⟨B,d⟩:∃s,s=A++K:=⟨_,rfl⟩;have p:B.length=A.length+K.length:=by rw[d,zo]
 obtain⟨M,f⟩:∃s,s=B++behindL:=⟨_,rfl⟩;have n:M.length=B.length+behindL.length:=by rw[f,zo]
 simp only[aheadL,dsh,behindL,jJ,kt] at q x z r p n;have v:=XU c (by(try simp only[aheadL,jJ,kt]);omega);have w:=XU a yD;have y:=XU e xy;have u:=XU b yD;have t:=XU d xy;have o:=XU f (by(try simp only[behindL,jJ,kt]);omega);simp only[aheadL,dsh,behindL] at v w y u t o
 have g:aheadL++(H++45::(C++45::K)++behindL)=M:=by
  simp[f,d,b,e,a,c,dsh]
 rw[g];clear g c a e b d f q x z r p n Q T S;refine qC Tryz.func18 rfl ⟨rfl,rfl⟩ ?_;simp[Tryz.f18,Inf.cells,G,U,N,O,-Go.Ev.strD,v,w,y,u,t,o]
theorem qo7[MaxL][TxtC](i:Inf)(h:InfOk i):call cx 18 [.agg (Enc.cells i)] []=some (.str (kf i),[]):=by
 unfold kf;by_cases c:i.kind=1
 .refine qC Tryz.func18 rfl ⟨rfl,rfl⟩ ?_;simp[Tryz.f18,Inf.cells,c,qeR]
 .by_cases d:i.kind=4
  .refine qC Tryz.func18 rfl ⟨rfl,rfl⟩ ?_;simp[Tryz.f18,Inf.cells,d,qfk]
  .by_cases b:i.kind=2
   .rw[if_neg c,if_neg d,if_pos b];exact qo8 i h b
   .by_cases e:i.kind=3
    .have f:=qo8 ⟨2,i.seq,i.head,i.real⟩ ⟨h.head,h.real⟩ rfl;have j:=qdO i.seq.h i.head.toNat i.real.toNat;simp only at f;have a:List.take 18 (qf i.seq.l++[D.int .u64 i.head,D.int .u64 i.real])=qf i.seq.l++[D.int .u64 i.head,D.int .u64 i.real]:=qH wE;simp[Inf.cells] at f;rw[if_neg c,if_neg d,if_neg b,if_pos e];generalize kF i.seq.l i.head.toNat i.real.toNat=w at *;have g:w.length+1<=4611686018427387904:=wC;refine qC Tryz.func18 rfl ⟨rfl,rfl⟩ ?_;simp[Tryz.f18,Inf.cells,e,f,g,a]
    .refine qC Tryz.func18 rfl ⟨rfl,rfl⟩ ?_;simp[Tryz.f18,Inf.cells,c,b,e,d]
def qhU:Inf:=⟨0,ID.zero,0,0⟩
def KQ(k:Int)(l:List (List UInt8)):Inf:=⟨k,qhY (l.getD 0 []),((KI (l.getD 1 [])).getD 0:Nat),((KI (l.getD 2 [])).getD 0:Nat)⟩
def Yi(s:List UInt8):Int:=if VK [126] s then 3 else 2
def QD(s:List UInt8):Inf×Bool:=if s=qeR then(⟨1,ID.zero,0,0⟩,true) else if s=qfk then(⟨4,ID.zero,0,0⟩,true) else
 if(Jj 45 (JD s)).length=3/\kf (KQ (Yi s) (Jj 45 (JD s)))=s then(KQ (Yi s) (Jj 45 (JD s)),true) else(qhU,false)
theorem qoz(s:List UInt8):(KI s).getD 0<18446744073709551616:=by
 unfold KI;cases h:pu 16 s with
 |none=>show 0<18446744073709551616;omega
 |some v=>
  simp only;split
  .exact qnN h
  .show 0<18446744073709551616;omega
theorem q3e(k:Int)(l:List (List UInt8)):InfOk (KQ k l):=by
 refine⟨?_,?_⟩
 .have:=qoz (l.getD 1 []);show jq ((KI (l.getD 1 [])).getD 0:Nat);unfold jq;omega
 .have:=qoz (l.getD 2 []);show jq ((KI (l.getD 2 [])).getD 0:Nat);unfold jq;omega
def q7q(i:Inf):Prop:=(i=⟨1,ID.zero,0,0⟩\/i=⟨4,ID.zero,0,0⟩)\/((i.kind=2\/i.kind=3)/\InfOk i)
theorem qsR(i:Inf)(h:InfOk i):KQ i.kind [ju i.seq.l,Qt i.head.toNat,Qt i.real.toNat]=i:=by
 obtain⟨a,b⟩:=h;unfold jq at a b
 have e:∀x:Int,0<=x/\x<18446744073709551616->(((KI (Qt x.toNat)).getD 0:Nat):Int)=x:=by
  intro x hx;rw[q0i wC];show((x.toNat:Nat):Int)=x;omega
 unfold KQ;simp only[List.getD_cons_zero,List.getD_cons_succ,q3v,e _ a,e _ b]
theorem qhK{s t:List UInt8}(h:s.length≠t.length):s≠t:=fun e=>h (by rw[e])
theorem qnX(i:Inf)(h:q7q i):QD (kf i)=(i,true):=by
 rcases h with(rfl|rfl)|⟨f|e,d⟩
 .rfl
 .rfl
 .have b:kf i=kF i.seq.l i.head.toNat i.real.toNat:=by
   unfold kf;rw[f,if_neg wH,if_neg wH,if_pos rfl]
  have a:=qdO i.seq.h i.head.toNat i.real.toNat
  have c:Yi (kF i.seq.l i.head.toNat i.real.toNat)=i.kind:=by
   unfold Yi;rw[qvH,if_neg wH,f]
  unfold QD;rw[b,if_neg (qhK (by rw[a];decide)),if_neg (qhK (by rw[a];decide)),q0E,qmL,c,qsR i d,if_pos ⟨rfl,b⟩]
 .have b:kf i=kF i.seq.l i.head.toNat i.real.toNat++[126]:=by
   unfold kf;rw[e,if_neg wH,if_neg wH,if_neg wH,if_pos rfl]
  have a:(kF i.seq.l i.head.toNat i.real.toNat++[126]).length=82:=by rw[zo,qdO i.seq.h];rfl
  have c:Yi (kF i.seq.l i.head.toNat i.real.toNat++[126])=i.kind:=by
   unfold Yi;rw[qm5,if_pos rfl,e]
  unfold QD;rw[b,if_neg (qhK (by rw[a];decide)),if_neg (qhK (by rw[a];decide)),q0D,qmL,c,qsR i d,if_pos ⟨rfl,b⟩]
end Go.Ev.S
namespace Go.Ev
open Go Go.Proofs
theorem qhg(p s:List UInt8):(QY p s).length<=s.length:=by
 unfold QY;split
 .rw[jc];omega
 .exact qA _
theorem qwM(p s:List UInt8):(qb3 p s).length<=s.length:=by
 unfold qb3;split
 .rw[vg];omega
 .exact qA _
theorem q0F(s:List UInt8):(JD s).length<=s.length:=by
 unfold JD;have b:=qwM aheadL (QY behindL (QY [126] s));have a:=qhg behindL (QY [126] s);have c:=qhg [126] s;omega
end Go.Ev
namespace Go.Ev.S
open Go Go.Proofs Go.Ev
theorem z19(k:Int):(D.int .i64 k::qI [.int .u64 0,.int .u64 0])=Enc.cells (⟨k,ID.zero,0,0⟩:Inf):=rfl
theorem qzq[MaxL][TxtC]:call cx 30 [.str qeR] []=some (.tup [.agg (Enc.cells (⟨1,ID.zero,0,0⟩:Inf)),.bool true],[]):=call_some.2 ⟨200,wF⟩
theorem qzr[MaxL][TxtC]:call cx 30 [.str qfk] []=some (.tup [.agg (Enc.cells (⟨4,ID.zero,0,0⟩:Inf)),.bool true],[]):=call_some.2 ⟨200,wF⟩
theorem qzs[MaxL][TxtC](s:List UInt8)(Y:s.length<100000):call cx 30 [.str s] []=some (.tup [.agg (Enc.cells (QD s).1),.bool (QD s).2],[]):=by
 by_cases K:s=qeR
 .rw[K];exact qzq
 by_cases I:s=qfk
 .rw[I];exact qzr
 have A:(s==[115,121,115,116,101,109,46,106,111,117,114,110,97,108])=false:=beq_eq_false_iff_ne.2 K;have y:(s==[115,121,115,116,101,109,46,110,101,119])=false:=beq_eq_false_iff_ne.2 I;have q:=qwZ s [126] wC wH;have e2:=qmy s [126] wC wH;have X:=qhg [126] s;have u:=qmy (QY [126] s) behindL wC wH;have V:=qhg behindL (QY [126] s);have r:=qwK (QY behindL (QY [126] s)) aheadL wC wH;have W:=q0F s;have v:=qxx 45 (JD s) wC;have k:∀x∈Jj 45 (JD s),x.length<=(JD s).length:=qmN 45 _ (JD s)
 have i:QD s=if(Jj 45 (JD s)).length=3/\kf (KQ (Yi s) (Jj 45 (JD s)))=s then(KQ (Yi s) (Jj 45 (JD s)),true) else(qhU,false):=by
  unfold QD;rw[if_neg K,if_neg I]
 have F:=z19 0;have O:Enc.cells (⟨0,ID.zero,0,0⟩:Inf)=Enc.cells qhU:=rfl;rw[O] at F;have L:qf ID.zero.l=(qI []):=rfl;have z:qb3 aheadL (QY behindL (QY [126] s))=JD s:=rfl;rw[z] at r;simp only[behindL,aheadL] at u r;generalize QD s=M at *;generalize JD s=m at *;generalize QY [46,106,111,117,114,110,97,108] (QY [126] s)=S at *;generalize QY [126] s=R at *;generalize Jj 45 m=P at *;by_cases C:P.length=3
 .obtain⟨e,g,j,J⟩:∃e g j,P=[e,g,j]:=by
   clear i k v
   match P,C with
   |[a,b,c],_=>exact⟨a,b,c,rfl⟩
  subst J;have Q:=k e wE;have T:=k g wE;have U:=k j wE;have B:call cx 65 [.str e] []=some (.tup [.agg (qf (qhY e).l),.bool (KR e).isSome],[]):=q3s e wC;have E:=qoy g wC;have G:=qoy j wC;have d:=qo7 _ (q3e (Yi s) [e,g,j]);have f:KQ (Yi s) [e,g,j]=⟨Yi s,qhY e,((KI g).getD 0:Nat),((KI j).getD 0:Nat)⟩:=rfl;have t:Yi s=if VK [126] s then 3 else 2:=rfl;have p:List.drop 19 (Enc.cells qhU)=[]:=Vn wE;cases n:VK [126] s with
  |true=>
   rw[n] at t q;simp only[if_true] at t;rw[t] at d i f;by_cases o:kf (KQ 3 [e,g,j])=s
   .rw[if_pos ⟨C,o⟩] at i;rw[o] at d;subst i;rw[f] at d⊢;rw[Inf.cells] at d⊢;simp only at d;refine qC Tryz.func30 rfl ⟨rfl,rfl⟩ ?_;simp[Tryz.f30,A,y,q,e2,u,r,v,B,E,G,d,Zk,jd,ko,qH]
   .rw[if_neg (fun h=>o h.2)] at i;subst i;have H:(kf (KQ 3 [e,g,j])==s)=false:=beq_eq_false_iff_ne.2 o;generalize kf (KQ 3 [e,g,j])=w at *;rw[f] at d;refine qC Tryz.func30 rfl ⟨rfl,rfl⟩ ?_;simp[Tryz.f30,A,y,q,e2,u,r,v,B,E,G,d,H,F,p,qH]
  |false=>
   rw[n] at t q;simp only[Qd,if_false] at t;rw[t] at d i f;by_cases o:kf (KQ 2 [e,g,j])=s
   .rw[if_pos ⟨C,o⟩] at i;rw[o] at d;subst i;rw[f] at d⊢;rw[Inf.cells] at d⊢;simp only at d;refine qC Tryz.func30 rfl ⟨rfl,rfl⟩ ?_;simp[Tryz.f30,A,y,q,e2,u,r,v,B,E,G,d,Zk,jd,ko,qH]
   .rw[if_neg (fun h=>o h.2)] at i;subst i;have H:(kf (KQ 2 [e,g,j])==s)=false:=beq_eq_false_iff_ne.2 o;generalize kf (KQ 2 [e,g,j])=w at *;rw[f] at d;refine qC Tryz.func30 rfl ⟨rfl,rfl⟩ ?_;simp[Tryz.f30,A,y,q,e2,u,r,v,B,E,G,d,H,F,p,qH]
 .have N:¬(P.length:Int)=3:=by omega
  rw[if_neg (fun h=>C h.1)] at i;subst i;refine qC Tryz.func30 rfl ⟨rfl,rfl⟩ ?_
  cases n:VK [126] s<;>rw[n] at q<;>
   simp[Tryz.f30,A,y,q,e2,u,r,v,N,F]
theorem qlx(k:Nat)(h:k<16):List.take 1 (List.drop k Xo)=[vT k]:=by
 have:∀k,k<16->List.take 1 (List.drop k Xo)=[vT k]:=wH
 exact this k h
theorem qyA[MaxL][TxtC](l:List UInt8)(p:l.length=16):call cx 51 [.agg (qf l)] []=some (.str (ju l),[]):=by
 refine qC Tryz.func51 rfl ⟨rfl,rfl⟩ ?_;simp[Tryz.f51,p];refine Run.loopThen (fun(k:Nat) e H'=>k<=16/\qi e 1=some (.optr 0 16 0)/\qi e 3=some (.str (ju (l.take k)))/\qi e 4=some (.int .i64 k)/\H'=[some (qf l)]) (fun k=>16-k) 0 ?_ ?_
 .simp[ju]
 rintro k e H' ⟨J,q,i,n,rfl⟩;by_cases K:k<16
 .have o:(k:Int)<16:=by omega
  have d:k<l.length:=wC
  have F:=qz ((k:Int)+1) ((k+1:Nat):Int);have w:=ke d;have f:=qtn d;have P:=l[k].toNat_lt;have s:(ju (l.take k)).length=2*k:=by rw[qe0,jc];omega
  generalize l[k]=b at *;have h:=qlx (b.toNat/16) wC;have g:=qlx (b.toNat % 16) wC;generalize vT (b.toNat/16)=N at *;generalize vT (b.toNat % 16)=L at *;obtain⟨c,t⟩:∃m,m=b.toNat/16:=⟨_,rfl⟩;obtain⟨a,r⟩:∃m,m=b.toNat % 16:=⟨_,rfl⟩;rw[<-t] at h;rw[<-r] at g;have z:=zu8 ((b.toNat:Int)/16) (c:Int);have y:(b.toNat:Int).tmod 16=(a:Int):=by rw[r];exact(Int.ofNat_tmod b.toNat 16).symm
  have G:=zu8 ((c:Int)+1) ((c+1:Nat):Int);have I:=zu8 ((a:Int)+1) ((a+1:Nat):Int);have O:c<=15:=wC
  have M:a<=15:=wC
  have n1:((c:Int)+1).toNat=c+1:=wC
  have n2:((a:Int)+1).toNat=a+1:=wC
  have v:(c:Int)+1<=16:=wC
  have x:(a:Int)+1<=16:=wC
  have v1:(0:Int)<=(c:Int)+1:=wC
  have A:(0:Int)<=(a:Int)+1:=wC
  have B:(c:Int)<=(c:Int)+1:=wC
  have H:(a:Int)<=(a:Int)+1:=wC
  simp only[Xo] at h g;generalize ju (l.take k)=X at *;have C:X.length+1<=4611686018427387904:=wC
  have E:X.length+1+1<=4611686018427387904:=wC
  simp[q,i,n,o,F,w,p,z,y,G,I,h,g,n1,n2,v,x,v1,A,C,E,B,H];exact⟨k+1,wC,wC,by rw[f],wC⟩
 .have o:¬(k:Int)<16:=by omega
  have j:k=16:=wC
  subst j;have u:l.take 16=l:=qH wC;rw[u] at i;simp[q,i,n]
theorem qn2[MaxL][TxtC](v:Nat)(C:v<18446744073709551616):call cx 52 [.int .u64 v] []=some (.str (fxN 16 v),[]):=by
 refine qC Tryz.func52 rfl ⟨rfl,rfl⟩ ?_;obtain⟨r,n⟩:=ql (fxN 16 v);rw[n];simp[Tryz.f52];refine Run.loopThen (fun(q:Nat×Nat×List UInt8) e H'=>q.1<=16/\q.2.1<18446744073709551616/\q.2.2.length=q.1/\fxN (16-q.1) q.2.1++q.2.2=r/\qi e 0=some (.int .u64 (q.2.1:Nat))/\qi e 3=some (.str q.2.2)/\qi e 4=some (.int .i64 (q.1:Nat))/\H'=[]) (fun q=>16-q.1) (0,v,[]) ?_ ?_
 .simp[n,C]
 rintro⟨k,u,w⟩ e H' ⟨t,x,p,b,i,g,d,rfl⟩;simp only at t x p b i g d;by_cases I:k<16
 .have o:(k:Int)<16:=by omega
  have E:=qz ((k:Int)+1) ((k+1:Nat):Int);obtain⟨m,G⟩:∃m,16-k=m+1:=⟨15-k,wC⟩;rw[G,fxN] at b;have f:=qlx (u % 16) wC;generalize vT (u % 16)=H at *;obtain⟨a,l⟩:∃a,a=u % 16:=⟨_,rfl⟩;rw[<-l] at f;have y:(u:Int).tmod 16=(a:Int):=by rw[l];exact(Int.ofNat_tmod u 16).symm
  obtain⟨c,j⟩:∃c,c=u/16:=⟨_,rfl⟩;rw[<-j] at b;have z:=zf ((u:Int)/16) (c:Int);have F:=zf ((a:Int)+1) ((a:Int)+1);have K:a<=15:=wC
  have n1:((a:Int)+1).toNat=a+1:=wC
  have s:(a:Int)+1<=16:=wC
  have v1:(0:Int)<=(a:Int)+1:=wC
  have A:(a:Int)<=(a:Int)+1:=wC
  have B:1+w.length<=4611686018427387904:=wC
  have J:w.length+1<=4611686018427387904:=wC
  simp only[Xo] at f;simp[i,g,d,o,E,z,y,F,f,n1,s,v1,A,B];exact⟨k+1,wC,wC,c,wC,H::w,by simp[p],by rw[show 16-(k+1)=m from wC,<-b];simp,rfl,rfl,wC⟩
 .have o:¬(k:Int)<16:=by omega
  have h:k=16:=wC
  subst h;simp only[Nat.sub_self,fxN,QW] at b;subst b;simp[i,g,d]
theorem qy8[MaxL][TxtC](i:Inf)(h:InfOk i)(Q:i.kind=1\/i.kind=2\/i.kind=3\/i.kind=4):call cx 23 [.agg (Enc.cells i)] []=some (.str (kf i),[]):=by
 obtain⟨W,t,r,j⟩:=i;obtain⟨M,P⟩:=h;simp only at Q M P;unfold jq at M P;unfold kf;simp only;have R:((r.toNat:Nat):Int)=r:=wC
 have e2:((j.toNat:Nat):Int)=j:=wC
 have T:=qyA t.l t.h;have C:=qn2 r.toNat wC;have I:=qn2 j.toNat wC;rw[<-qub wC,R] at C;rw[<-qub wC,e2] at I;have S:=qe0 t.l;have V:=qfx r.toNat;have U:=qfx j.toNat;rw[t.h] at S;simp only[kF,X2];generalize ju t.l=L at *;generalize Qt r.toNat=G at *;generalize Qt j.toNat=O at *;clear R e2 M P;have y:List.drop 17 (qf t.l++[D.int .u64 r,D.int .u64 j])=[D.int .u64 j]:=by simp[jd,ko]
 obtain⟨H,c⟩:∃s,s=aheadL++L:=⟨_,rfl⟩;have w:H.length=aheadL.length+L.length:=by rw[c,zo]
 obtain⟨N,a⟩:∃s,s=H++dsh:=⟨_,rfl⟩;have z:N.length=H.length+dsh.length:=by rw[a,zo]
 obtain⟨K,e⟩:∃s,s=N++G:=⟨_,rfl⟩;have A:K.length=N.length+G.length:=by rw[e,zo]
 obtain⟨E,b⟩:∃s,s=K++dsh:=⟨_,rfl⟩;have x:E.length=K.length+dsh.length:=by rw[b,zo]
 obtain⟨F,d⟩:∃s,s=E++O:=⟨_,rfl⟩;have v:F.length=E.length+O.length:=by rw[d,zo]
 obtain⟨B,f⟩:∃s,s=F++behindL:=⟨_,rfl⟩;have u:B.length=F.length+behindL.length:=by rw[f,zo]
 simp only[aheadL,dsh,behindL,jJ,kt] at w z A x v u;have o:=XU c (by(try simp only[aheadL,jJ,kt]);omega);have p:=XU a yD;have q:=XU e xy;have n:=XU b yD;have m:=XU d xy;have k:=XU f (by(try simp only[behindL,jJ,kt]);omega);simp only[aheadL,dsh,behindL] at o p q n m k
 have g:aheadL++(L++45::(G++45::O)++behindL)=B:=by
  simp[f,d,b,e,a,c,dsh]
 rw[g];have J:Go.Ev.strD BinOp.add B [126]=some (.str (B++[126])):=XU rfl (by simp only[jJ,kt];omega);clear g c a e b d f w z A x v u S V U;rcases Q with rfl|rfl|rfl|rfl
 .refine qC Tryz.func23 rfl ⟨rfl,rfl⟩ ?_;simp[Tryz.f23,Inf.cells,qeR]
 .refine qC Tryz.func23 rfl ⟨rfl,rfl⟩ ?_;simp[Tryz.f23,Inf.cells,y,T,C,I,-Go.Ev.strD,o,p,q,n,m,k]
 .refine qC Tryz.func23 rfl ⟨rfl,rfl⟩ ?_;simp[Tryz.f23,Inf.cells,y,T,C,I,-Go.Ev.strD,o,p,q,n,m,k,J]
 .refine qC Tryz.func23 rfl ⟨rfl,rfl⟩ ?_;simp[Tryz.f23,Inf.cells,qfk]
end Go.Ev.S
namespace Go.Ev
open Go Go.Proofs
theorem qwp{a b:Nat}(c:a<256)(d:b<256):qK .u8 (a:Int) (b:Int)=((a^^^b:Nat):Int):=by
 have h:a^^^b<2^8:=Nat.xor_lt_two_pow (n:=8) c d;unfold qK;show IntKind.u8.wrap ((BitVec.ofInt 8 (a:Int)^^^BitVec.ofInt 8 (b:Int)).toNat:Int)=_;rw[qiX,qiX,BitVec.toNat_xor,qiW,qiW,qeJ c,qeJ d,qeO];omega
end Go.Ev
namespace Go.Ev.S
open Go Go.Proofs Go.Ev
theorem q0J[MaxL][TxtC](s:Sl UInt8)(b:s.l.length<=1000000):call cx 59 [(.vsl s.nil (qf s.l) s.l.length)] []=some (.osl 0 s.l.length 0 s.l.length 1,[some (qf s.l)]):=by
 have a:s.l.length<=140737488355328:=wC
 refine qC Tryz.func59 rfl ⟨rfl,rfl⟩ ?_;simp[Tryz.f59,qF,a]
theorem qzW{o:List UInt8}{j:Nat}(h:j<o.length){x:Nat}(hx:x<256):List.take j (qf o)++D.int .u8 (x:Int)::List.drop (j+1) (qf o)=qf (o.set j (UInt8.ofNat x)):=by
 rw[qgU,if_pos h,qfh,qoq,qep,qcW,qfH hx]
def qvT(b:List UInt8)(y:UInt8)(q:D×qe):Prop:=∃o:List UInt8,o.length=b.length/\(y=0->o=b)/\q=(.vsl false (qf o) o.length,[])
theorem qxv[MaxL][TxtC](b:Sl UInt8)(P:b.l.length<=100000)(nil:Bool)(zs:List Int)(L:nil=true->zs=[])(O:zs.length<=1000000)(y:UInt8):∃q,call cx 27 [(.vsl b.nil (qf b.l) b.l.length),.vsl nil (Zb .i64 zs) zs.length,.int .u8 y.toNat] []=some q/\qvT b.l y q:=by
 refine Vk (X:=cx) (f:=27) (args:=[(.vsl b.nil (qf b.l) b.l.length),.vsl nil (Zb .i64 zs) zs.length,.int .u8 y.toNat]) (H:=[]) (qvT b.l y) Tryz.func27 rfl ⟨rfl,rfl⟩ ?_;have J:=q0J b wC;simp[Tryz.f27,J];refine Run.loopThen (fun(q:Nat×List UInt8) e H'=>q.1<=zs.length/\q.2.length=b.l.length/\(y=0->q.2=b.l)/\H'=[some (qf q.2)]/\qi e 1=some (.vsl nil (Zb .i64 zs) zs.length)/\qi e 2=some (.int .u8 (y.toNat:Nat))/\qi e 7=some (.osl 0 b.l.length 0 b.l.length 1)/\qi e 8=some (.int .i64 (q.1:Nat))) (fun q=>zs.length-q.1) (0,b.l) ⟨vp _,rfl,(fun _=>rfl),wE,wE,wE,wE,wE⟩ ?_;rintro⟨k,o⟩ e H' ⟨F,d,c,rfl,z,u,v,s⟩;simp only at F d c s;by_cases p:k<zs.length
 .have t:=zq p
  have G:nil=false:=by
   cases nil with
   |false=>rfl
   |true=>rw[L rfl] at p;exact absurd p (Nat.not_lt_zero _)
  have K:=qz ((k:Int)+1) ((k+1:Nat):Int);have E:=qkD (k:=.i64) p;by_cases C:0<b.l.length
  .obtain⟨j,N,I⟩:=qfi zs[k] b.l.length wC wC;have r:j<o.length:=wC;have hx:=qwp (a:=o[j].toNat) (b:=y.toNat) (UInt8.toNat_lt _) (UInt8.toNat_lt _);have g:=ke r;have w:j<b.l.length:=wC;have M:j+1<=b.l.length:=wC;have i:=qzW r (x:=o[j].toNat^^^y.toNat) (Nat.xor_lt_two_pow (n:=8) (UInt8.toNat_lt _) (UInt8.toNat_lt _));simp[z,u,v,s,t,K,E,G,C,I,hx,g,w,d,M,i]
   exact⟨k+1,wC,wC,_,xR,(fun h=>by
    rw[h,<-c h];simp),rfl,wC⟩
  .have m:b.l.length=0:=wC;have A:o=[]:=ky wC;subst A;simp[z,u,v,s,t,m];exact⟨[],by rw[m];rfl,c,rfl⟩
 .have t:=zw p;have B:List.take b.l.length (qf o)=qf o:=qH xR;simp[z,u,v,s,t,B,d];exact⟨o,d,c,by rw[d]⟩
theorem YQ(n:Nat):∀l:List D,mv.mvL [] n l=l.map (mv [] n)
 |[]=>rfl
 |d::l=>by rw[mv.mvL,YQ n l];rfl
theorem qkn(n j:Nat):ZQ [] n j=n+j:=by simp[ZQ]
theorem qid(H:qe){T:qe}{i:Nat}{ds:List D}(h:qd T i=some ds):qd (H++T.map (X1 [] H.length)) (H.length+i)=some (ds.map (mv [] H.length)):=by
 have b:=qx h
 have a:T[i]?=some (some ds):=by
  unfold qd at h;rw[qM b] at h⊢;simp only[Vm] at h;rw[h]
 unfold qd;rw[jl wC,show H.length+i-H.length=i from wC,Je,a];simp only[jn,Vm,X1,YQ]
theorem qnq(H:qe){T:qe}{k:Nat}{v:D}{cs:List D}{L:List Nat}(h:RowA T k v cs L):RowA (H++T.map (X1 [] H.length)) k (mv [] H.length v) (cs.map (mv [] H.length)) (L.map (H.length+·)):=by
 rcases h with⟨rfl,rfl,rfl⟩|⟨r,n,rfl,a,b,rfl⟩
 .exact .inl ⟨rfl,rfl,rfl⟩
 .refine .inr ⟨H.length+r,n,?_,by rw[List.length_map];exact a,qid H b,rfl⟩;simp[mv,qkn]
def FSv.mvd(v:FSv)(n:Nat):FSv:=⟨v.nd.map fun x=>(n+x.1,n+x.2),mv [] n v.nv,mv [] n v.pv,v.pc.map (mv [] n),v.Ln.map (n+·),v.Lp.map (n+·)⟩
theorem q0y(v:FSv)(n:Nat):(v.ptrs).map (mv [] n)=(FSv.mvd v n).ptrs:=by
 unfold FSv.ptrs FSv.mvd;simp only[List.map_map];apply List.map_congr_left;intro x _;simp[mv,qkn]
theorem q4f(H:qe){T:qe}{q:Nat}{s:Fs}{v:FSv}(h:FSw T q s v):FSw (H++T.map (X1 [] H.length)) (H.length+q) s (FSv.mvd v H.length):=by
 obtain⟨f,d⟩:=h.ty;refine⟨?_,?_,qnq H h.pend,by rw[<-h.len];exact List.length_map _,fun i n x k c=>?_,fun i=>f (i-H.length),?_⟩
 .rw[qid H h.root];rfl
 .have:=qnq H h.row;rw[q0y] at this;exact this
 .simp only[FSv.mvd,Je] at c;cases b:v.nd[i]? with
  |none=>rw[b] at c;simp at c
  |some y=>
   rw[b] at c;simp only[jn,qy] at c;obtain⟨l,g⟩:=h.node i n y k b;subst c;refine⟨?_,?_⟩
   .rw[qid H l];simp[Nd.cells,mv,qkn]
   .rw[qid H g];rfl
 .refine⟨by rw[show H.length+q-H.length=q from wC];exact d.root,fun i hi=>?_,fun i hi=>?_,fun j x hx=>?_⟩
  .simp only[FSv.mvd,ZI] at hi;obtain⟨a,e,rfl⟩:=hi;rw[show H.length+a-H.length=a from wC];exact d.row a e
  .simp only[FSv.mvd,ZI] at hi;obtain⟨a,e,rfl⟩:=hi;rw[show H.length+a-H.length=a from wC];exact d.pend a e
  .simp only[FSv.mvd,Je] at hx;cases b:v.nd[j]? with
   |none=>rw[b] at hx;simp at hx
   |some y=>
    rw[b] at hx;simp only[jn,qy] at hx;have:=d.node j y b;subst hx;simp only;rw[show H.length+y.1-H.length=y.1 from wC,show H.length+y.2-H.length=y.2 from wC];exact this
theorem q0z(v:FSv)(n:Nat):(FSv.mvd v n).pc.length=v.pc.length:=by simp[FSv.mvd]
end Go.Ev.S
namespace Go.Ev
open Go Go.Proofs
structure I6 where
 v:Int
instance:Enc I6:=⟨1,fun x=>[.int .i64 x.v],fun _=>rfl,fun _=>rfl⟩
theorem I6.cells(x:I6):Enc.cells x=[.int .i64 x.v]:=rfl
@[simp] theorem I6.size:Enc.size I6=1:=rfl
@[simp] theorem I6.cl (a:I6):(Enc.cells a).length=1:=Enc.len a
@[simp] theorem I6.ct (a:I6) (r:List D):(Enc.cells a++r).take 1=Enc.cells a:=qcx rfl a r
@[simp] theorem I6.ct' (a:I6):(Enc.cells a).take 1=Enc.cells a:=qcw rfl a
@[simp] theorem I6.cd (a:I6) (r:List D):(Enc.cells a++r).drop 1=r:=qcy rfl a r
@[simp] theorem I6.el (l:List I6):(qt l).length=l.length*1:=Ks rfl l
@[simp] theorem I6.ed (l:List I6) (i:Nat):(qt l).drop (i*1)=qt (l.drop i):=qav rfl l i
@[simp] theorem I6.et (l:List I6) (i:Nat):(qt l).take (i*1)=qt (l.take i):=qau rfl l i
@[simp high] theorem I6.ea {l:List I6} {i:Nat} (h:i<l.length):(qt l).drop (i*1)=Enc.cells l[i]++qt (l.drop (i+1)):=XS rfl h
@[simp high] theorem I6.es (m:I6) {l:List I6} {j:Nat} (h:j<l.length):zT (qt l) (j*1) (Enc.cells m)=qt (l.set j m):=XR rfl m l h
theorem q5f(l:List I6):qt l=Zb .i64 (l.map (·.v)):=by
 unfold Zb
 induction l with
 |nil=>rfl
 |cons a l b=>rw[qaw,b];rfl
structure ZL where
 ln:Sl I6
instance:Enc ZL:=⟨1,fun m=>((.vsl m.ln.nil (qt m.ln.l) m.ln.l.length)::([]:List D)),fun m=>wE,fun m=>xE⟩
theorem ZL.cells(m:ZL):Enc.cells m=((.vsl m.ln.nil (qt m.ln.l) m.ln.l.length)::([]:List D)):=rfl
@[simp] theorem ZL.size:Enc.size ZL=1:=rfl
@[simp] theorem ZL.cl (a:ZL):(Enc.cells a).length=1:=Enc.len a
@[simp] theorem ZL.ct (a:ZL) (r:List D):(Enc.cells a++r).take 1=Enc.cells a:=qcx rfl a r
@[simp] theorem ZL.ct' (a:ZL):(Enc.cells a).take 1=Enc.cells a:=qcw rfl a
@[simp] theorem ZL.cd (a:ZL) (r:List D):(Enc.cells a++r).drop 1=r:=qcy rfl a r
@[simp] theorem ZL.el (l:List ZL):(qt l).length=l.length*1:=Ks rfl l
@[simp] theorem ZL.ed (l:List ZL) (i:Nat):(qt l).drop (i*1)=qt (l.drop i):=qav rfl l i
@[simp] theorem ZL.et (l:List ZL) (i:Nat):(qt l).take (i*1)=qt (l.take i):=qau rfl l i
@[simp high] theorem ZL.ea {l:List ZL} {i:Nat} (h:i<l.length):(qt l).drop (i*1)=Enc.cells l[i]++qt (l.drop (i+1)):=XS rfl h
@[simp high] theorem ZL.es (m:ZL) {l:List ZL} {j:Nat} (h:j<l.length):zT (qt l) (j*1) (Enc.cells m)=qt (l.set j m):=XR rfl m l h
@[simp] theorem ZL.g0 (m:ZL) (h):(Enc.cells m)[0]'h=(.vsl m.ln.nil (qt m.ln.l) m.ln.l.length):=by simp[ZL.cells]
@[simp] theorem ZL.q0 (m:ZL):(Enc.cells m)[0]?=some ((.vsl m.ln.nil (qt m.ln.l) m.ln.l.length)):=by simp[ZL.cells]
@[simp] theorem ZL.s0 (m:ZL) (x:Sl I6):zT (Enc.cells m) 0 [(.vsl x.nil (qt x.l) x.l.length)]=Enc.cells {m with ln:=x}:=by simp[ZL.cells]
def ZL.zs(z:ZL):List Int:=z.ln.l.map (·.v)
theorem ZL.zs_len(z:ZL):z.zs.length=z.ln.l.length:=by simp[ZL.zs]
theorem ZL.zs_nil(z:ZL)(h:z.ln.nil=true):z.zs=[]:=by simp[ZL.zs,z.ln.h h]
theorem ZL.enc(z:ZL):(Enc.cells z:List D)=[.vsl z.ln.nil (Zb .i64 z.zs) z.zs.length]:=by
 rw[ZL.cells,ZL.zs_len,q5f];rfl
end Go.Ev
namespace Go.Ev.S
open Go Go.Proofs Go.Ev
structure LaidS (s:Fs) (k:Nat):Prop where
 room:s.room=1048576
 fuse:s.fuse= -1
 off:s.off=false
 len:s.nodes.length<=k
 nd:∀n,n∈s.nodes->n.there=true/\n.b.l.length<=32768/\n.safe.l.length<=32768/\∃i:Inf,InfOk i/\(i.kind=1\/i.kind=2\/i.kind=3\/i.kind=4)/\i.real≠77/\n.name=kf i
def Qi(a:List UInt8->List UInt8)(ok:List UInt8->Bool)(n:List UInt8):Bool:=(QD n).2&&(!decide ((QD n).1.kind=4)&&ok (a n))
def ZO(a:List UInt8->List UInt8)(ok:List UInt8->Bool)(n:List UInt8):Bool:=(QD n).2&&(!decide ((QD n).1.kind=4)&& !ok (a n))
theorem quf{l:List Nd}{name:List UInt8}(h:∀n,n∈l->n.name≠name):kH l name=none:=by
 unfold kH;rw[List.findIdx?_eq_none_iff];intro n a;simp[h n a]
theorem qug{l:List Nd}{x:Nd}(hx:x.there=true)(h:∀n,n∈l->n.name≠x.name):kH (l++[x]) x.name=some l.length:=by
 have a:=quf h;unfold kH at a⊢;rw[List.findIdx?_append,a];simp[hx]
theorem q4z{l:List Nd}{x:Nd}{name:List UInt8}(h:x.name≠name):kH (l++[x]) name=kH l name:=by
 unfold kH;rw[List.findIdx?_append];simp[h]
theorem q0t{s:Fs}{x:Nd}(a:s.off=false)(hx:x.there=true):kZ {s with nodes:=s.nodes++[x]}=kZ s++[x.name]:=by
 unfold kZ;simp[a,hx]
theorem q6U{s:Fs}{x:Nd}{name:List UInt8}(h:x.name≠name):zM {s with nodes:=s.nodes++[x]} name=zM s name:=by
 have a:=q4z (l:=s.nodes) h
 have c:vW {s with nodes:=s.nodes++[x]} name=vW s name:=by
  unfold vW Vj;simp only[a]
 unfold zM;rw[c];simp only[a];split
 .rfl
 .cases hi:kH s.nodes name with
  |none=>rfl
  |some i=>
   obtain⟨b,-,-⟩:=qkW hi;simp only[Y9];rw[vD b]
theorem qoV{s:Fs}{k:Nat}(L:LaidS s k)(f:k<=6){name:List UInt8}(d:∀n,n∈s.nodes->n.name≠name)(c:Jy name=true):
  qg3 s name=(0,{s with nodes:=s.nodes++[⟨name,true,Sl.none,Sl.none⟩]}):=by
 have b:Vj s name=0:=by simp[Vj,L.off,c]
 have qd:vW s name=16:=by
  unfold vW;rw[b,quf d];simp
 have e:kI s=(0,s):=by
  unfold kI;rw[L.fuse,if_neg wH,if_neg wH]
 have a:¬24<=Kr s.nodes:=by
  have:Kr s.nodes<=s.nodes.length:=List.length_filter_le _ _;have:=L.len;omega
 unfold qg3;rw[qd,if_neg wH,if_neg wH,if_neg a,e,if_neg wE]
theorem qx8{l:List Nd}(h:∀m,m∈l->m.b.l.length<=32768):Zi l<=l.length*32768:=by
 induction l with
 |nil=>simp[Zi]
 |cons m l a=>
  have e:=a fun k c=>h k (vy _ c);have d:=h m (Jd ..);simp only[Zi,jJ,ZH,Nat.one_mul];split<;>omega
theorem qmh{s a o:Fs}{k:Nat}(L:LaidS s k)(I:k<=6){name B:List UInt8}(G:∀n,n∈s.nodes->n.name≠name)(v:Jy name=true)(H:B.length<=32768)(h:B≠[])
  (e:a={s with nodes:=s.nodes++[⟨name,true,Sl.none,Sl.none⟩]}) (j:qdF a name 0 B o):
  qaq a name 0 B=0/\∃x:Nd,x.name=name/\x.there=true/\x.b.l=B/\x.safe.l=[]/\o={s with nodes:=s.nodes++[x]}:=by
 have c:kH a.nodes name=some s.nodes.length:=by
  rw[e];exact qug (x:=⟨name,true,Sl.none,Sl.none⟩) rfl G
 have z:Vj a name=0:=by rw[e];simp[Vj,L.off,v]
 have qd:vW a name=0:=by
  unfold vW;rw[z,c];simp
 have d:a.nodes[s.nodes.length]?=some ⟨name,true,Sl.none,Sl.none⟩:=by rw[e];simp
 have C:(kH a.nodes name).bind (a.nodes[·]?)=some ⟨name,true,Sl.none,Sl.none⟩:=by rw[c];exact d
 have t:kI a=(0,a):=by
  unfold kI;rw[show a.fuse= -1 by rw[e];exact L.fuse,if_neg wH,if_neg wH]
 have hc:VI 0 B=0:=by
  unfold VI;rw[if_neg wC]
 have p:Jg [] 0 B=B:=by
  unfold Jg;rw[if_pos ⟨hc,h⟩];unfold Xv;simp
 have J:Zi a.nodes<=a.nodes.length*32768:=qx8 fun m f=>by
  rw[e] at f;simp only[jW,qdU] at f;rcases f with f|rfl
  .exact(L.nd m f).2.1
  .simp[Sl.none]
 have y:a.nodes.length<=7:=by
  rw[e];have:=L.len;simp;omega
 have E:a.room=1048576:=by rw[e];exact L.room
 have q:qaq a name 0 B=0:=by
  unfold qaq;rw[qd,if_neg wH,C];simp only[hc,t,show(Sl.none:Sl UInt8).l=[] from rfl,p];rw[if_neg wH,if_neg];rintro⟨-,r⟩;rw[E] at r;simp only[kt,Nat.sub_zero] at r;omega
 refine⟨q,?_⟩;unfold qdF at j;rw[if_pos q,t] at j;obtain⟨i,n,A,g,hi,rfl,w,e2,u,F⟩:=j;rw[c] at g;injection g with g;subst g;rw[d] at hi;injection hi with hi;subst hi;refine⟨A,w,e2,by rw[u];exact p,F,?_⟩;rw[e];simp
theorem qie(k:Nat)(h:k<16):33<=(vT k).toNat/\(vT k).toNat<=126:=by
 have:∀k,k<16->33<=(vT k).toNat/\(vT k).toNat<=126:=wH
 exact this k h
theorem qto:∀(l:List UInt8),∀x∈ju l,33<=x.toNat/\x.toNat<=126
 |[]=>by simp[ju]
 |b::l=>by
  intro x hx;simp only[ju,jC] at hx;have a:=b.toNat_lt;rcases hx with rfl|rfl|hx
  .exact qie _ wC
  .exact qie _ wC
  .exact qto l x hx
theorem qtr:∀(f v:Nat),∀x∈ZY f v,33<=x.toNat/\x.toNat<=126
 |0,_=>by simp[ZY]
 |f+1,v=>by
  intro x hx;rw[ZY] at hx;split at hx
  .rw[List.mem_singleton.1 hx];exact qie _ wC
  .rcases List.mem_append.1 hx with h|h
   .exact qtr f _ x h
   .rw[List.mem_singleton.1 h];exact qie _ wC
theorem qtZ(v:Nat):∀x∈Qt v,33<=x.toNat/\x.toNat<=126:=by
 intro x hx;unfold Qt at hx;rcases List.mem_append.1 hx with h|h
 .rw[(List.mem_replicate.1 h).2];decide
 .exact qtr 16 v x h
theorem qlV{q:List UInt8}(d:q.length=16)(h r:Nat):Jy (kF q h r)=true:=by
 have e:=qdO d h r
 have c:∀x∈kF q h r,33<=x.toNat/\x.toNat<=126:=by
  intro x hx;simp only[kF,X2,jW,jC] at hx;rcases hx with hx|(hx|rfl|hx|rfl|hx)|hx
  .revert x hx;decide
  .exact qto q x hx
  .decide
  .exact qtZ h x hx
  .decide
  .exact qtZ r x hx
  .revert x hx;decide
 unfold Jy;rw[decide_eq_true wC,decide_eq_true wC];simp only[YB];rw[qgV];intro x hx;obtain⟨b,a⟩:=c x hx;simp[b,a]
def Jq(a:ID)(i:Nat):Inf:=⟨2,a,i,0⟩
structure LaidM (s:Fs) (k:Nat):Prop where
 b:LaidS s k
 n:s.nodes.length=k
 nd:∀(j:Nat)(n:Nd),s.nodes[j]?=some n->n.there=true/\n.b.l.length<=20000/\vf n.b.l=0/\(qG n.b.l).ents<=6/\∃a:ID,n.name=kf (Jq a j)
 id:∀(j:Nat)(n:Nd),s.nodes[j]?=some n->∃k,k<5/\n.name=kf (Jq (idN k) j)
theorem q3f(a:ID){i:Nat}(h:i<1000):InfOk (Jq a i):=by
 exact⟨yF,yF⟩
theorem qhV(a:ID){i:Nat}(h:i<1000):QD (kf (Jq a i))=(Jq a i,true):=
 qnX (Jq a i) (.inr ⟨.inl rfl,yF,yF⟩)
theorem qsS(a c:ID){i j:Nat}(hi:i<1000)(d:j<1000)(h:i≠j):kf (Jq a i)≠kf (Jq c j):=fun e=>by
 have b:=qhV a hi;rw[e,qhV c d] at b;injection b with b _;unfold Jq at b;injection b with _ _ f _;omega
theorem qkH(a:ID)(i:Nat):kf (Jq a i)=kF a.l i 0:=rfl
def laM(arg:D)(n i:Nat)(e:qu)(K:qe):Prop:=
 i<=n/\qi e 0=some arg/\qi e 1=some (.bool false)/\qi e 5=some (.optr 0 5 0)/\qi e 7=some (.int .i64 i)/\∃s v,FSw K 0 s v/\LaidM s i/\v.pc.length<=4*i
theorem q1l[MaxL][TxtC](J:Bool)(d:List ZL)(zB:J=true->d=[])(hl:d.length<=6)(hz:∀z,z∈d->z.zs.length<=1000000):
  ∃G s v,call cx 7 [.vsl J (qt d) d.length,.bool false] []=some (.optr 0 5 0,G)/\FSw G 0 s v/\LaidM s d.length/\v.pc.length<=24:=by
 suffices hs:∃r,call cx 7 [.vsl J (qt d) d.length,.bool false] []=some r/\∃(G:qe)(s:Fs)(v:FSv),r=(.optr 0 5 0,G)/\FSw G 0 s v/\LaidM s d.length/\v.pc.length<=24 by
  obtain⟨r,hc,G,s,v,rfl,h1⟩:=hs;exact⟨G,s,v,hc,h1⟩
 refine vx (X:=cx) (f:=7) _ Tryz.func7 rfl ⟨rfl,rfl⟩ ?_;have Zd:=q4j;obtain⟨K0,vB⟩:∃T:qe,[some [D.int .i64 1048576,.int .i64 (-1),.bool false,.vsl true [] 0,.vsl true [] 0]]=T:=⟨_,rfl⟩
 have w0:FSw K0 0 ⟨1048576,-1,false,[]⟩ ⟨[],.vsl true [] 0,.vsl true [] 0,[],[],[]⟩:=by
  rw[<-vB];exact⟨rfl,RowA.nil _ _,RowA.nil _ _,rfl,fun i n x h=>wP,fun _=>0,rfl,fun i hi=>wU,fun i hi=>wU,fun j x hx=>by simp at hx⟩
 rw[vB] at Zd;simp[-qd,-qn,-qr,-qJ,Tryz.f7,Zd];refine Vv (laM (.vsl J (qt d) d.length) d.length) (fun i=>d.length-i) 0 (fun ex e K=>ex=.exit 0/\laM (.vsl J (qt d) d.length) d.length d.length e K) ?_ ?_ ?_
 .exact⟨wC,wE,wE,wE,wE,_,_,w0,⟨⟨rfl,rfl,rfl,wE,fun n g=>by simp at g⟩,rfl,fun j n h=>wP,fun j n h=>wP⟩,wE⟩
 .rintro i e K ⟨hi,p0,p1,p5,p7,s,v,W,L,S⟩;by_cases P:i<d.length
  .have qo:=zq P;have hw:=qz ((i:Int)+1) ((i+1:Nat):Int);have au:=zf (i:Int) (i:Int)
   have vI:J=false:=by
    cases g:J with
    |false=>rfl
    |true=>
     rw[zB g] at P;simp at P
   subst vI;obtain⟨z,U⟩:∃z,z=d[i]:=⟨_,rfl⟩;have aw:z∈d:=(by rw[U];exact vC P);have qR:List.drop (i*1) (qt d)=Enc.cells z++qt (d.drop (i+1)):=(by rw[U];exact XS (n:=1) (α:=ZL) rfl P);rw[Nat.mul_one,ZL.enc] at qR;have KS:=z.zs_nil;have Q1:=hz z aw;obtain⟨E,Z⟩:∃b,b=z.ln.nil:=⟨_,rfl⟩;obtain⟨zs,M⟩:∃l,l=z.zs:=⟨_,rfl⟩;rw[<-Z,<-M] at qR;rw[<-Z,<-M] at KS;rw[<-M] at Q1;have sl:=qeV E zs;have sf:=qeW E zs;have sc:=qeX E zs;obtain⟨K1,jx⟩:=ql (qr K (jT E zs 0));have aB:qr K [.vsl E (Zb .i64 zs) zs.length,.int .i64 0]=K1:=jx;have e1:=zL jx;have g1:=js jx;obtain⟨w,aC,QS⟩:=qhD (i:Int);obtain⟨x5,k5,aI,-,h5⟩:=KK E zs KS Q1 0 3000 wH wH;obtain⟨k,H⟩:∃x,x=Jq (idN w) i:=⟨_,rfl⟩;have R:InfOk k:=(by rw[H];exact q3f _ wC);have aj:k.kind=1\/k.kind=2\/k.kind=3\/k.kind=4:=(by rw[H];exact .inr (.inl rfl));have av:k.real≠77:=(by rw[H];show(0:Int)≠77;decide);have aa:=qy8 k R aj;obtain⟨name,u⟩:∃n,n=kf k:=⟨_,rfl⟩;have ac:name=kF (idN w).l i 0:=(by rw[u,H];rfl);have aE:name.length=81:=(by rw[ac];exact qdO (idN w).h _ _);have q:Jy name=true:=(by rw[ac];exact qlV (idN w).h _ _);rw[<-u] at aa;have A:=(idN w).h
   have B:call cx 23 [.agg (.int .i64 2::(qf (idN w).l++[.int .u64 (i:Nat),.int .u64 0]))] []=some (.str name,[]):=by
    rw[<-aa,H];rfl
   obtain⟨K2,jw⟩:=ql (qn K1 K.length (jT E zs k5));have e2:=vZ jw;have g2:=vV jw g1;obtain⟨K3,qm,m,dm,aA,wm,om,aJ,ai,e3,nm⟩:=q09 E zs KS Q1 k5 g2;have nK:∀j,j∈v.names 0->j<K.length:=fun j c=>W.lt c;have l1:=e1.len;have l2:=e2.len;have l3:=e3.len;have W3:=((W.ext e1 (fun _ _=>wE)).ext e2 (fun j c=>by have:=nK j c;simp;omega)).ext e3 (fun j c=>by have:=nK j c;simp;omega)
   have jh:∀n,n∈s.nodes->n.name≠name:=fun n g=>by
    obtain⟨j,c⟩:=List.getElem?_of_mem g;have zp:=(List.getElem?_eq_some_iff.1 c).1;obtain⟨-,-,-,-,a,ha⟩:=L.nd j n c;rw[ha,u,H];exact qsS a _ (by have:=L.n;omega) wC (by have:=L.n;omega)
   obtain⟨K4,v4,p,W4,e4,n4,aM⟩:=qtI W3 (by have:=L.n;omega) wC (fun n g=>by have:=(L.b.nd n g).2.1;omega) (by rw[L.b.fuse];omega) name wC;have ag:=qoV L.b wC jh q;rw[ag] at p W4;simp only at p W4;obtain⟨s4,t⟩:∃x,x=({s with nodes:=s.nodes++[⟨name,true,Sl.none,Sl.none⟩]}:Fs):=⟨_,rfl⟩;rw[<-t] at W4
   have mN:∀j,j∈m.names qm->j∉v.names 0:=fun j c hc=>by
    have:=nm j c;have:=nK j hc;have:=qx g2;omega
   have ao:=qfo wm e4 mN;obtain⟨K5,ax,ak,e5,aF,Xb,jV⟩:=q2i ao om;have W5:=W4.ext e5 (fun _ _=>wE);have V:List.drop 17 (qf (idN w).l++[D.int .u64 0,.int .u64 0])=[.int .u64 0]:=(by simp[jd,List.drop_of_length_le,A]);have aL:List.take 17 (qf (idN w).l++[D.int .u64 (i:Nat),.int .u64 0])=qf (idN w).l++[D.int .u64 (i:Nat)]:=(by simp[Zk,qH,A]);have aG:List.drop 18 (qf (idN w).l++[D.int .u64 (i:Nat),.int .u64 0])=[]:=(by simp[A]);obtain⟨_,ki,O,aK,ae,rfl⟩:=qxv (Sl.mk false ax wE) wJ false [(x5:Int)] wE wE 0;have F:=ae rfl;simp only at F;subst F;replace ki:call cx 27 [.vsl false (qf O) O.length,.vsl false [.int .i64 (x5:Nat)] 1,.int .u8 0] []=some (.vsl false (qf O) O.length,[]):=ki;obtain⟨K6,Qn⟩:=ql (qr K5 [.int .i64 (x5:Nat)]);have g6:=js Qn;obtain⟨I,y⟩:=ql (jS K6 [K5.length]);have ah:List.set K6 K5.length none=I:=y;have aH:K6.length=K5.length+1:=by rw[<-Qn,jb]
   have ay:Ext [] K5 I:=by
    refine⟨?_,fun j c _=>?_⟩
    .rw[<-y,QF];omega
    .rw[<-y,V8 wG,<-Qn,vv c]
   have W6:=W5.ext ay (fun _ _=>wE)
   have aq:∀n,n∈s4.nodes->n.b.l.length<=32768/\n.safe.l.length<=32768:=fun n g=>by
    rw[t] at g;simp only[jW,qdU] at g;rcases g with g|rfl
    .exact⟨(L.b.nd n g).2.1,(L.b.nd n g).2.2.1⟩
    .simp[Sl.none]
   obtain⟨s7,K7,v7,YU,W7,Y,e7,n7,az⟩:=qtE W6 (by rw[t];have:=L.n;simp;omega) aq (by rw[t];simp only;rw[L.b.fuse];omega) (by rw[t];simp only;rw[L.b.room];omega) name wC 0 wC (Sl.mk false O wE) wJ;simp only at YU Y;obtain⟨aD,xn,N,Q,C,am,o⟩:=qmh L.b wC jh q wC (fun h0=>by rw[h0] at Xb;cases Xb) t Y;rw[aD] at YU;replace YU:call cx 20 [.optr 0 5 0,.str name,.int .i64 0,.vsl false (qf O) O.length] I=some (.int .i64 0,K7):=YU
   have L7:LaidM s7 (i+1):=by
    refine⟨⟨by rw[o];exact L.b.room,by rw[o];exact L.b.fuse,by rw[o];exact L.b.off,by rw[o];have:=L.n;simp;omega,fun n g=>?_⟩,by rw[o];have:=L.n;simp;omega,fun j n c=>?_,fun j n c=>?_⟩
    .rw[o] at g;simp only[jW,qdU] at g;rcases g with g|rfl
     .exact L.b.nd n g
     .exact⟨Q,by rw[C];omega,by rw[am];simp,k,R,aj,av,by rw[N,u]⟩
    .rw[o] at c;simp only at c;rw[List.getElem?_append] at c;split at c
     .exact L.nd j n c
     .have h3:=(List.getElem?_eq_some_iff.1 c).1;simp only[List.length_singleton] at h3;have ZT:=L.n;have JP:j=i:=wC;rw[show j-s.nodes.length=0 from wC] at c;simp only[Qb,qy] at c;subst c;exact⟨Q,by rw[C];omega,by rw[C];exact Xb,by rw[C,jV];exact ai,idN w,by rw[N,u,H,JP]⟩
    .rw[o] at c;simp only at c;rw[List.getElem?_append] at c;split at c
     .exact L.id j n c
     .have h3:=(List.getElem?_eq_some_iff.1 c).1;simp only[List.length_singleton] at h3;have ZT:=L.n;have JP:j=i:=wC;rw[show j-s.nodes.length=0 from wC] at c;simp only[Qb,qy] at c;subst c;exact⟨w,aC,by rw[N,u,H,JP]⟩
   simp[-qd,-qn,-qr,-qJ,p0,p1,p5,p7,qo,qR,aB,g1,sf,h5,QS,A,au,B,jw,aA,p,ak,V,Qn,g6,ah,ki,YU,hw];exact⟨i+1,wC,wC,wE,wE,wE,wE,s7,v7,W7,L7,by rw[az];omega⟩
  .have qo:=zw P;have ZA:i=d.length:=wC;simp[-qd,-qn,-qr,-qJ,p0,p1,p5,p7,qo];subst ZA;exact⟨qA _,wE,wE,wE,wE,s,v,W,L,S⟩
 .rintro ex e K ⟨rfl,hi,p0,p1,p5,p7,s,v,W,L,S⟩;simp[-qd,-qn,-qr,-qJ,p5];exact⟨s,v,W,L,wC⟩
theorem q3w:∀j<5,∀i<j,zn (idN i).l (idN j).l<0:=wH
structure FewS (i:Nat) (l:List Mk):Prop where
 rises:kv l=true
 ok:∀m,m∈l->jq m.seq
 id:∀m,m∈l->∃j,j<i/\m.id=idN j
 len:l.length<=4
theorem FewS.same{i:Nat}{l:List Mk}(h:FewS i l):FewS (i+1) l:=
 ⟨h.rises,h.ok,fun m b=>by obtain⟨j,c,a⟩:=h.id m b;exact⟨j,wC,a⟩,h.len⟩
theorem FewS.add{i:Nat}{l:List Mk}(h:FewS i l)(hi:i<5)(n:l.length<4){a b:Nat}(k:a<1000):FewS (i+1) (l++[⟨idN i,a,b,0⟩]):=by
 refine⟨rises_append.2 ⟨h.rises,rfl,fun x hx y g=>?_⟩,fun m d=>?_,fun m d=>?_,wG⟩
 .obtain⟨j,f,e⟩:=h.id x hx;rw[e,List.mem_singleton.1 g];exact q3w i hi j f
 .rcases List.mem_append.1 d with c|c
  .exact h.ok m c
  .rw[List.mem_singleton.1 c];simp only[jq];omega
 .rcases List.mem_append.1 d with c|c
  .obtain⟨j,f,e⟩:=h.id m c;exact⟨j,wC,e⟩
  .rw[List.mem_singleton.1 c];exact⟨i,wC,rfl⟩
theorem qkl[MaxL][TxtC](nil:Bool)(zs:List Int)(e:nil=true->zs=[])(n:zs.length<9223372036854775808)(k:Nat)(b:Int)(l:1<=b)(i:b<=1000000):
  ∃x k':Nat,(x:Int)<b/\(k<zs.length->k<k')/\call cx 25 [.optr 0 2 0,.int .i64 b] [some (jT nil zs k)]=some (.int .i64 x,[some (jT nil zs k')]):=by
 unfold jT;by_cases a:k<zs.length
 .have m:nil=false:=by
   cases nil with
   |false=>rfl
   |true=>rw[e rfl] at a;simp at a
  subst m;have c:¬(zs.length:Int)<=(k:Int):=wC
  have d:=zq a;have f:=qz ((k:Int)+1) ((k+1:Nat):Int);have o:=qz (((k+1:Nat):Int)-1) (k:Int);have g:=qz (k:Int) (k:Int);obtain⟨x,hx,j⟩:=qfi zs[k] b l i;refine⟨x,k+1,hx,fun _=>Nat.lt_succ_self k,?_⟩;refine qC Tryz.func25 rfl ⟨rfl,rfl⟩ ?_;simp[Tryz.f25,c,f,d,g,qkD a,j]
 .have c:(zs.length:Int)<=(k:Int):=by omega
  refine⟨0,k,wC,fun h=>absurd h a,?_⟩;refine qC Tryz.func25 rfl ⟨rfl,rfl⟩ ?_;simp[Tryz.f25,c]
def qvU(q:D×qe):Prop:=∃s:Sl Mk,MOk s.l/\q=((.vsl s.nil (qt s.l) s.l.length),[])
def smI(nil:Bool)(zs:List Int)(i:Nat)(e:qu)(K:qe):Prop:=
 i<=5/\qi e 3=some (.optr 0 2 0)/\qi e 5=some (.int .i64 i)/\∃(l:List Mk)(d:D)(L:List Nat)(k:Nat),qi e 4=some d/\RowA K 19 d (qt l) L/\0∉L/\qd K 0=some (jT nil zs k)/\FewS i l/\(l=[]->d=.vsl true [] 0)
theorem q01[MaxL][TxtC](nil:Bool)(zs:List Int)(qX:nil=true->zs=[])(hz:zs.length<9223372036854775808):
  ∃q,call cx 9 [.vsl nil (Zb .i64 zs) zs.length] []=some q/\qvU q:=by
 refine Vk (X:=cx) (f:=9) (args:=[.vsl nil (Zb .i64 zs) zs.length]) (H:=[]) qvU Tryz.func9 rfl ⟨rfl,rfl⟩ ?_;have V:=qeW nil zs;have sl:=qeV nil zs;have sc:=qeX nil zs;obtain⟨K0,vB⟩:∃J:qe,[some [.vsl nil (Zb .i64 zs) zs.length,.int .i64 0]]=J:=⟨_,rfl⟩;have g0:qd K0 0=some (jT nil zs 0):=by rw[<-vB];rfl
 have F:qr [] [.vsl nil (Zb .i64 zs) zs.length,.int .i64 0]=K0:=vB;simp[-qd,-qn,-qr,-qJ,-qO,Tryz.f9,F];refine Vv (smI nil zs) (fun i=>5-i) 0 (fun ex e K=>ex=.exit 0/\smI nil zs 5 e K) ?_ ?_ ?_
 .exact⟨vp _,wE,wE,[],.vsl true [] 0,[],0,wE,RowA.nil _ _,wE,g0,⟨rfl,wE,wE,wE⟩,fun _=>rfl⟩
 .rintro i e K ⟨hi,G,Q,l,d,L,k,u,B,g,z,p,I⟩;have y:(qt l).length=l.length*19:=Ks (n:=19) wE l
  have jv:qO Tryz.prog 32 d=some (.int .i64 l.length):=by
   rcases B with⟨S,o,-⟩|⟨r,m,S,o,-,-⟩
   .rw[o] at y;have:l.length=0:=(by simp at y;omega);rw[S,this];simp
   .have:m=l.length:=wC;rw[S,this];simp
  by_cases qg:i<5
  case neg=>
   have T:¬(i:Int)<5:=wC;have Y:i=5:=wC;subst Y;simp[-qd,-qn,-qr,-qJ,-qO,G,u,Q];exact⟨qA _,wE,wE,l,d,L,k,wE,B,g,z,p,I⟩
  have T:(i:Int)<5:=wC
  have hw:=qz ((i:Int)+1) ((i+1:Nat):Int);obtain⟨x,C,hx,-,c1⟩:=qkl nil zs qX hz k 3 wH wH;obtain⟨a,k5,ha,-,c2⟩:=qkl nil zs qX hz C 9 wH wH;obtain⟨b,U,hb,-,c3⟩:=qkl nil zs qX hz k5 3 wH wH;have wa:=zf (a:Int) (a:Int);have wb:=zf (b:Int) (b:Int);have QS:=qoN (j:=i) wC;have ak:=p.len;have gS:∀X,qd (qn K 0 X) 0=some X:=fun X=>zj (qx z);have xS:∀X,Ext [0] K (qn K 0 X):=fun X=>Ext.set K 0 X;have w:=B.ext (xS (jT nil zs C)) (fun j E hc=>g (by rw[List.mem_singleton.1 hc] at E;exact E));have R:=B.ext (xS (jT nil zs U)) (fun j E hc=>g (by rw[List.mem_singleton.1 hc] at E;exact E));by_cases t:x=1/\l.length<4
  .obtain⟨t,h4⟩:=t;subst t;have JS:(l.length:Int)<4:=wC;have N:=p.add qg h4 (a:=a) (b:=b) wC;generalize idN i=q at *;have hq:=q.h;have aj:List.take 16 (qf q.l)=qf q.l:=qH wE;obtain⟨v,s⟩:=ql (qn K 0 (jT nil zs U));rw[s] at R;have A:qd v 0=some (jT nil zs U):=(by rw[<-s];exact gS _);obtain⟨M,hM⟩:∃M:List D,(Enc.cells (⟨q,a,b,0⟩:Mk):List D)=M:=⟨_,rfl⟩;have W:qf q.l++[D.int .u64 (a:Nat),.int .u64 (b:Nat),.int .u64 0]=M:=(by rw[<-hM];rfl);have lM:M.length=19:=(by rw[<-hM];simp);have tM:List.take 19 M=M:=qH wC;obtain⟨K3,Z⟩:=ql (qr v M);have x3:=zL Z;have g3:=js Z;obtain⟨d',K4,L',hA,aa,x4,ag⟩:=(R.ext x3 (fun _ _=>wE)).append (P:=Tryz.prog) (st:=32) (xt:=32) (e:=40) (x:=.osl v.length 19 0 1 19) (xs:=M) (m:=1) wE wE (by simp[-qd,g3,lM,tM]) wE wC wC wC wM wM;have O:v≠[]:=fun S=>by have:=qx A;rw[S] at this;simp at this
   have XI:0<v.length:=qx A;simp[-qd,-qn,-qr,-qJ,-qO,G,u,Q,jv,T,z,V,c1,c2,c3,gS,QJ,JS,QS,wa,wb,hq,Zk,jd,ko,s,W,lM,Z,O,hA,hw];refine⟨i+1,wC,wC,wE,wE,l++[⟨q,a,b,0⟩],d',L',U,wE,by rw[qe8,hM];exact aa,fun hc=>?_,x4.get (x3.get A wE) g,N,fun h=>wP⟩;rcases ag 0 hc with o|o
   .exact g o
   .have:=x3.len;omega
  .have c:=p.same;obtain⟨v,s⟩:=ql (qn K 0 (jT nil zs C));rw[s] at w;have A:qd v 0=some (jT nil zs C):=(by rw[<-s];exact gS _);by_cases ah:x=1
   .subst ah;have JS:¬(l.length:Int)<4:=wC;simp[-qd,-qn,-qr,-qJ,-qO,G,u,Q,jv,T,z,V,c1,JS,s,hw];exact⟨i+1,wC,wC,wE,wE,l,d,L,C,wE,w,g,A,c,I⟩
   .have ae:¬(x:Int)=1:=wC;simp[-qd,-qn,-qr,-qJ,-qO,G,u,Q,T,z,V,c1,ae,s,hw];exact⟨i+1,wC,wC,wE,wE,l,d,L,C,wE,w,g,A,c,I⟩
 .rintro ex e K ⟨rfl,-,G,Q,l,d,L,k,u,B,g,z,p,I⟩;have y:(qt l).length=l.length*19:=Ks (n:=19) wE l;have kY:MOk l:=⟨by unfold YJ;rw[p.rises,decide_eq_true p.len];rfl,p.ok⟩;rcases B with⟨rfl,o,-⟩|⟨r,m,rfl,o,ai,rfl⟩
  .have ac:l=[]:=ky (by rw[o] at y;simp at y;omega);subst ac;simp[-qd,-qn,-qr,-qJ,-qO,u];exact⟨Sl.none,kY,rfl⟩
  .have hm:m=l.length:=wC;subst hm;have qQ:l≠[]:=fun h=>by have:=I h;cases this
   have vK:idFree.idFreeL (qt l)=true:=wE;have zS:List.take (l.length*19) (qt l)=qt l:=qH wC;simp[-qd,-qn,-qr,-qJ,-qO,u,ai,y,vK,zS];exact⟨⟨false,l,wE⟩,kY,rfl⟩
def jY(b:List UInt8):Bool:=decide (vf b=0)
def ZD:List (List UInt8)->List Nat->List D
 |n::a,p::ps=>.str n::(Enc.cells (QD n).1++ .optr p 5 0::ZD a ps)
 |_,_=>[]
theorem qtW:∀(c:List (List UInt8))(ps:List Nat)(n:List UInt8)(p:Nat),c.length=ps.length->ZD (c++[n]) (ps++[p])=ZD c ps++(.str n::(Enc.cells (QD n).1++[.optr p 5 0]))
 |[],[],n,p,_=>rfl
 |a::c,b::ps,n,p,h=>by
  simp only[Qc,ZD,qtW c ps n p wQ,jX]
 |[],_::_,_,_,h=>by simp at h
 |_::_,[],_,_,h=>by simp at h
theorem qkZ:∀(c:List (List UInt8))(ps:List Nat),c.length=ps.length->(ZD c ps).length=c.length*21
 |[],[],_=>rfl
 |a::c,b::ps,h=>by
  have d:=qkZ c ps wQ;have hc:(Enc.cells (QD a).1:List D).length=19:=wE
  simp only[ZD,jJ,zo,d,hc];omega
 |[],_::_,h=>by simp at h
 |_::_,[],h=>by simp at h
theorem qtX:∀(c:List (List UInt8))(ps:List Nat)(i:Nat)(n:List UInt8)(p:Nat),c.length=ps.length->c[i]?=some n->ps[i]?=some p->∃r,List.drop (i*21) (ZD c ps)=.str n::(Enc.cells (QD n).1++ .optr p 5 0::r)
 |[],_,i,n,p,_,h,_=>by simp at h
 |a::c,b::ps,0,n,p,_,f,d=>by
  simp only[Qb,qy] at f d;subst f;subst d;exact⟨_,rfl⟩
 |a::c,b::ps,i+1,n,p,h,f,d=>by
  obtain⟨r,g⟩:=qtX c ps i n p wQ (by simpa using f) xB;refine⟨r,?_⟩;have hc:(Enc.cells (QD a).1:List D).length=19:=wE
  have e:(i+1)*21=i*21+21:=wC
  have e2:ZD (a::c) (b::ps)=(.str a::(Enc.cells (QD a).1++[.optr b 5 0]))++ZD c ps:=by simp[ZD]
  rw[e2,e,Nat.add_comm,<-kz,VD wE,g]
 |_::_,[],_,_,_,h,_,_=>by simp at h
theorem qia(H:qe)(a b:List D):qn (qr H a) H.length b=qr H b:=by simp[qn,qr]
structure DirI (H:qe) (s:Fs) (N:List (List UInt8)) (i:Nat) (K:qe) (ps:List Nat) (oD hD:D) (Lo Lh:List Nat):Prop where
 ext:Ext [] H K
 pl:((N.take i).filter (Qi (zM s) jY)).length=ps.length
 oR:RowA K 21 oD (ZD ((N.take i).filter (Qi (zM s) jY)) ps) Lo
 hR:RowA K 1 hD (jG ((N.take i).filter (ZO (zM s) jY))) Lh
 file:∀(j:Nat)(n:List UInt8)(p:Nat),((N.take i).filter (Qi (zM s) jY))[j]?=some n->ps[j]?=some p->qd K p=some (qas (zM s n))
 oN:∀j,j∈Lo->H.length<=j/\j∉Lh/\j∉ps
 hN:∀j,j∈Lh->H.length<=j/\j∉ps
 pN:∀j,j∈ps->j<K.length
 pD:ps.Nodup
 pH:∀j,j∈ps->H.length<=j
section
variable {H K:qe} {s:Fs} {N:List (List UInt8)} {i:Nat} {ps:List Nat} {oD hD:D} {Lo Lh:List Nat} {n:List UInt8}
theorem DirI.skip(I:DirI H s N i K ps oD hD Lo Lh)(c:N.take (i+1)=N.take i++[n])(f:Qi (zM s) jY n=false)(e:ZO (zM s) jY n=false){T:qe}(x:Ext [] K T):DirI H s N (i+1) T ps oD hD Lo Lh:=by
 have b:(N.take (i+1)).filter (Qi (zM s) jY)=(N.take i).filter (Qi (zM s) jY):=by rw[c,List.filter_append];simp[f]
 have e2:(N.take (i+1)).filter (ZO (zM s) jY)=(N.take i).filter (ZO (zM s) jY):=by rw[c,List.filter_append];simp[e]
 exact⟨I.ext.trans x (NewL.refl _ _),by rw[b];exact I.pl,by rw[b];exact I.oR.ext x (fun _ _=>wE),by rw[e2];exact I.hR.ext x (fun _ _=>wE),fun j n p a d=>x.get (I.file j n p (by rw[b] at a;exact a) d) wE,I.oN,I.hN,fun j a=>x.lt (I.pN j a),I.pD,I.pH⟩
theorem DirI.other(I:DirI H s N i K ps oD hD Lo Lh)(m:N.take (i+1)=N.take i++[n])(q:Qi (zM s) jY n=false)(o:ZO (zM s) jY n=true){f T:qe}{d:D}{b:List Nat}(c:Ext [] K f)
  (t:RowA T 1 d (jG ((N.take i).filter (ZO (zM s) jY))++[.str n]) b) (x:Ext Lh f T) (l:NewL Lh b f.length):DirI H s N (i+1) T ps oD d Lo b:=by
 have g:(N.take (i+1)).filter (Qi (zM s) jY)=(N.take i).filter (Qi (zM s) jY):=by rw[m,List.filter_append];simp[q]
 have e2:(N.take (i+1)).filter (ZO (zM s) jY)=(N.take i).filter (ZO (zM s) jY)++[n]:=by rw[m,List.filter_append];simp[o]
 have v:=c.len;have u:=I.ext.len;have e:∀j,j∈Lo->j<K.length:=fun j a=>I.oR.lt a;refine⟨(I.ext.trans c (NewL.refl _ _)).trans x (fun j a=>.inr (I.hN j a).1),by rw[g];exact I.pl,?_,?_,fun j n p a k=>?_,fun j a=>?_,fun j a=>?_,fun j a=>x.lt (c.lt (I.pN j a)),I.pD,I.pH⟩
 .rw[g];exact(I.oR.ext c (fun _ _=>wE)).ext x (fun j a hc=>(I.oN j a).2.1 hc)
 .rw[e2];have:jG ((N.take i).filter (ZO (zM s) jY)++[n])=jG ((N.take i).filter (ZO (zM s) jY))++[.str n]:=by simp[jG]
  rw[this];exact t
 .have r:=j7 k;exact x.get (c.get (I.file j n p (by rw[g] at a;exact a) k) wE) (fun hc=>(I.hN p hc).2 r)
 .refine⟨(I.oN j a).1,fun hc=>?_,(I.oN j a).2.2⟩;rcases l j hc with h|h
  .exact(I.oN j a).2.1 h
  .have:=e j a;omega
 .rcases l j a with h|h
  .exact I.hN j h
  .exact⟨wC,fun hc=>by have:=I.pN j hc;omega⟩
theorem DirI.found(I:DirI H s N i K ps oD hD Lo Lh)(y:N.take (i+1)=N.take i++[n])(L:Qi (zM s) jY n=true)(G:ZO (zM s) jY n=false){q T:qe}{p:Nat}{k:D}{f:List Nat}(o:Ext [] K q)
  (v:qd q p=some (qas (zM s n))) (C:K.length<=p) (B:RowA T 21 k (ZD ((N.take i).filter (Qi (zM s) jY)) ps++(.str n::(Enc.cells (QD n).1++[.optr p 5 0]))) f) (x:Ext Lo q T) (z:NewL Lo f q.length):DirI H s N (i+1) T (ps++[p]) k hD f Lh:=by
 have u:(N.take (i+1)).filter (Qi (zM s) jY)=(N.take i).filter (Qi (zM s) jY)++[n]:=by rw[y,List.filter_append];simp[L]
 have e2:(N.take (i+1)).filter (ZO (zM s) jY)=(N.take i).filter (ZO (zM s) jY):=by rw[y,List.filter_append];simp[G]
 have O:=o.len;have P:=I.ext.len;have l:∀j,j∈Lo->j<K.length:=fun j b=>I.oR.lt b;have g:∀j,j∈Lh->j<K.length:=fun j b=>I.hR.lt b;have E:=qx v;refine⟨(I.ext.trans o (NewL.refl _ _)).trans x (fun j b=>.inr (I.oN j b).1),by rw[u,zo,zo,I.pl];rfl,?_,?_,fun j m r b e=>?_,fun j b=>?_,fun j b=>?_,fun j b=>?_,?_,fun j b=>?_⟩
 .rw[u,qtW _ _ _ _ I.pl];exact B
 .rw[e2];exact(I.hR.ext o (fun _ _=>wE)).ext x (fun j b hc=>(I.oN j hc).2.1 b)
 .rw[u] at b;by_cases w:j<ps.length
  .rw[vD (by rw[I.pl];exact w)] at b;rw[vD w] at e;have J:=j7 e;exact x.get (o.get (I.file j m r b e) wE) (fun hc=>(I.oN r hc).2.2 J)
  .rw[jl (by rw[I.pl];omega),I.pl] at b;rw[jl wC] at e
   have A:j-ps.length=0:=by
    have:=(List.getElem?_eq_some_iff.1 e).1;simp at this;omega
   rw[A] at b e;simp only[Qb,qy] at b e;subst b;subst e;exact x.get v (fun hc=>by have:=l _ hc;omega)
 .rcases z j b with h|h
  .have t:=I.oN j h;have:=l j h;refine⟨t.1,t.2.1,fun hc=>?_⟩;rcases List.mem_append.1 hc with d|d
   .exact t.2.2 d
   .have:=List.mem_singleton.1 d;omega
  .refine⟨wC,fun hc=>by have:=g j hc;omega,fun hc=>?_⟩;rcases List.mem_append.1 hc with d|d
   .have:=I.pN j d;omega
   .have:=List.mem_singleton.1 d;omega
 .refine⟨(I.hN j b).1,fun hc=>?_⟩;rcases List.mem_append.1 hc with d|d
  .exact(I.hN j b).2 d
  .have:=List.mem_singleton.1 d;have:=g j b;omega
 .rcases List.mem_append.1 b with d|d
  .exact x.lt (o.lt (I.pN j d))
  .have:=List.mem_singleton.1 d;have:=x.len;omega
 .rw[List.nodup_append];refine⟨I.pD,wE,fun a M c hc F=>?_⟩;have:=I.pN a M;have:=List.mem_singleton.1 hc;omega
 .rcases List.mem_append.1 b with d|d
  .exact I.pH j d
  .have:=List.mem_singleton.1 d;omega
end
def quU(H:qe)(q:Nat)(s:Fs)(N:List (List UInt8))(a:Bool)(i:Nat)(e:qu)(K:qe):Prop:=
 i<=N.length/\qi e 0=some (.optr q 5 0)/\qi e 18=some (.vsl a (jG N) N.length)/\qi e 19=some (.int .i64 N.length)/\qi e 20=some (.int .i64 i)/\∃ps oD hD Lo Lh,qi e 5=some oD/\qi e 6=some hD/\DirI H s N i K ps oD hD Lo Lh
theorem quT[MaxL]{H:qe}{q:Nat}{s:Fs}{v:FSv}(W:FSw H q s v)(ag:s.off=false)(hn:s.nodes.length<1000)(hb:∀n,n∈s.nodes->n.b.l.length<=1000000)(ao:∀n,n∈kZ s->n.length<=1000):
  ∃T ps oD hD Lo Lh,call cx 8 [.optr q 5 0] H=some (.tup [oD,hD,.int .i64 0],T)/\DirI H s (vN (kZ s)) (vN (kZ s)).length T ps oD hD Lo Lh:=by
 suffices hs:∃r,call cx 8 [.optr q 5 0] H=some r/\∃(T:qe)(ps:List Nat)(oD hD:D)(Lo Lh:List Nat),r=(.tup [oD,hD,.int .i64 0],T)/\DirI H s (vN (kZ s)) (vN (kZ s)).length T ps oD hD Lo Lh by
  obtain⟨r,hc,T,ps,oD,hD,Lo,Lh,rfl,h1⟩:=hs;exact⟨T,ps,oD,hD,Lo,Lh,hc,h1⟩
 refine vx (X:=cx) (f:=8) _ Tryz.func8 rfl ⟨rfl,rfl⟩ ?_;have KX:=q4i W;rw[ag] at KX;obtain⟨K1,nl,aj,x1,zB⟩:=qtH W wC;obtain⟨N,hN⟩:∃N,N=vN (kZ s):=⟨_,rfl⟩;have Ko:(kZ s).length=N.length:=by rw[hN];simp
 have aE:N.length<=1000:=by
  rw[<-Ko];unfold kZ;rw[ag];simp only[Qd,if_false,List.length_map];exact zJ (List.length_filter_le _ _) wC
 have aq:∀n,n∈N->n.length<=1000:=fun n h=>ao n (sortL_mem.1 (hN▸h));rw[<-hN,Ko] at aj;rw[<-hN];simp[-qd,-qn,-qr,-qJ,Tryz.f8,KX,aj];refine Vv (quU H q s N nl) (fun i=>N.length-i) 0 (fun ex e K=>ex=.exit 0/\quU H q s N nl N.length e K) ?_ ?_ ?_
 .exact⟨vp _,wE,wE,wE,wE,[],.vsl true [] 0,.vsl true [] 0,[],[],wE,wE,x1,rfl,RowA.nil _ _,RowA.nil _ _,fun j n p h=>wP,fun j S=>by simp at S,fun j S=>by simp at S,fun j S=>by simp at S,List.nodup_nil,fun j S=>by simp at S⟩
 .rintro i e K ⟨hi,p0,u,y,t,ps,oD,hD,Lo,Lh,p5,p6,I⟩;by_cases qg:i<N.length
  .have qo:=zq qg;have hw:=qz ((i:Int)+1) ((i+1:Nat):Int)
   have vI:nl=false:=by
    cases jQ:nl with
    |false=>rfl
    |true=>
     have h0:=zB jQ;rw[h0] at Ko;simp at Ko;omega
   subst vI;obtain⟨n,ac⟩:=ql (N[i])
   have qR:List.drop i (jG N)=.str n::jG (N.drop (i+1)):=by
    unfold jG;rw[<-List.map_drop,jo qg,ac];rfl
   have aB:n.length<=1000:=aq n (ac▸vC qg);have g:N.take (i+1)=N.take i++[n]:=(by rw[<-ac];exact Ky qg);have k:=qzs n wC;obtain⟨d,V3⟩:∃x,x=(QD n).1:=⟨_,rfl⟩;rw[<-V3] at k;obtain⟨z,F⟩:∃z:List D,(Enc.cells d:List D)=.int .i64 d.kind::z:=⟨_,rfl⟩;rw[F] at k
   have w:z.length=18:=by
    have:(Enc.cells d:List D).length=19:=wE;rw[F] at this;simpa using this
   have Q:z.all idFree=true:=by
    have:=Enc.free d;rw[F] at this;simpa[idFree] using this
   have G:=zca Q;have o:=zfl Q;have aw:List.take 18 z=z:=qH wC;obtain⟨Ka,QU⟩:=ql (qr K (.int .i64 d.kind::z));have xa:=zL QU;have ga:=js QU;have Wa:=(W.ext I.ext (fun _ _=>wE)).ext xa (fun _ _=>wE);obtain⟨E,nb,ja,xb,JM⟩:=qtL Wa wC hb n wC;obtain⟨A,Z⟩:∃A,A=zM s n:=⟨_,rfl⟩;rw[<-Z] at ja JM
   have aA:A.length<=1000000:=by
    rw[Z];unfold zM;split
    .simp
    .cases XJ:(kH s.nodes n).bind (s.nodes[·]?) with
     |none=>simp
     |some x=>
      simp only;cases hf:kH s.nodes n with
      |none=>rw[hf] at XJ;simp at XJ
      |some j=>
       rw[hf] at XJ;exact hb x (j7 XJ)
   have a:=q1R ⟨nb,A,JM⟩ aA;replace a:call cx 31 [.vsl nb (qf A) A.length] []=if vf A=0 then some (.tup [.optr 0 5 0,.int .i64 0],[some (qas A)]) else some (.tup [.nilp,.int .i64 (vf A:Nat)],[]):=a;have gb:qd E K.length=some (.int .i64 d.kind::z):=xb.get ga wE;cases O:(QD n).2 with
   |false=>
    rw[O] at k;simp[-qd,-qn,-qr,-qJ,p0,p5,p6,u,y,t,qo,qR,k,zF,qia,o,G,w,QU,hw];exact⟨i+1,wC,wC,wE,wE,wE,wE,ps,oD,hD,Lo,Lh,wE,wE,I.skip g (by simp[Qi,O]) (by simp[ZO,O]) xa⟩
   |true=>
    rw[O] at k;by_cases C:d.kind=4
    .have JS:(d.kind==4)=true:=(by rw[C];rfl);have am:=eq_true C;simp[-qd,-qn,-qr,-qJ,p0,p5,p6,u,y,t,qo,qR,k,zF,qia,o,G,w,QU,ga,hw,JS];rw[V3] at C;exact⟨i+1,wC,wC,wE,wE,wE,wE,ps,oD,hD,Lo,Lh,wE,wE,I.skip g (by simp[Qi,C]) (by simp[ZO,C]) xa⟩
    .have JS:(d.kind==4)=false:=(by simp[C]);have am:=eq_false C;by_cases hc:vf A=0
     .rw[if_pos hc] at a;obtain⟨L,Zh⟩:∃T:qe,E++[some (qas A)]=T:=⟨_,rfl⟩;have B:qr E (qas A)=L:=Zh;have xc:=zL B;have gc:qd L K.length=some (.int .i64 d.kind::z):=xc.get gb wE;have gf:qd L E.length=some (qas A):=(by rw[<-B,zF]);have aF:=xa.len;have aC:=xb.len;have ae:L.length=E.length+1:=(by rw[<-B,jb]);obtain⟨Y,M⟩:∃c:List D,c=.str n:: .int .i64 d.kind::(z++[.optr E.length 5 0]):=⟨_,rfl⟩;have R:Y.length=21:=(by rw[M];simp[w]);have ay:List.take 21 Y=Y:=qH wC
      have aD:(∀x,x∈Y->closed L.length x=true)=True:=eq_true fun x hx=>by
       rw[M] at hx;simp only[jC,jW,List.not_mem_nil,or_false] at hx;rcases hx with rfl|rfl|hx|rfl
       .rfl
       .rfl
       .exact VU x (List.all_eq_true.1 Q x hx)
       .simp[closed];omega
      obtain⟨Kd,aa⟩:=ql (qr L Y);have xd:=zL aa;have gd:=js aa;have av:List.drop 19 (z++[D.nilp])=[]:=(by simp[w]);have U:L≠[]:=fun e0=>by rw[e0] at ae;simp at ae
      have x4:=((xa.trans xb (NewL.refl _ _)).trans xc (NewL.refl _ _)).trans xd (NewL.refl _ _);have Zt:=qkZ _ _ I.pl;have ah:((N.take i).filter (Qi (zM s) jY)).length<=1000:=zJ (List.length_filter_le _ _) wu;obtain⟨az,Ke,ax,V,J,xe,ne⟩:=(I.oR.ext x4 (fun _ _=>wE)).append (P:=Tryz.prog) (st:=28) (xt:=28) (e:=57) (x:=.osl L.length 21 0 1 21) (xs:=Y) (m:=1) wE wE (by simp[-qd,gd,R,ay]) wE wC (by rw[R]) wC (by rw[Zt];simp[qF];omega) (by rw[Zt];simp[qF];omega);simp[-qd,-qn,-qr,-qJ,p0,p5,p6,u,y,t,qo,qR,k,zF,qia,o,G,w,QU,ga,hw,JS,ja,a,aw,Zh,gc,<-M,R,aa,U,V,av];have ai:Y=.str n::(Enc.cells (QD n).1++[.optr E.length 5 0]):=(by rw[<-V3,F,M];rfl);rw[ai] at J;exact⟨i+1,wC,wC,wE,wE,wE,wE,ps++[E.length],az,hD,ax,Lh,wE,wE,I.found g (by simp[Qi,O,<-V3,C,jY,<-Z,hc]) (by simp[ZO,O,<-V3,C,jY,<-Z,hc]) x4 (by rw[<-Z];exact xd.get gf wE) wC J xe ne⟩
     .rw[if_neg hc] at a;have Yw:((vf A:Int) !=0)=true:=wG;obtain⟨L,Zh⟩:=ql (qr E [.str n]);have xc:=zL Zh;have gc:=js Zh;have x4:=(xa.trans xb (NewL.refl _ _)).trans xc (NewL.refl _ _);have ah:((N.take i).filter (ZO (zM s) jY)).length<=1000:=zJ (List.length_filter_le _ _) wu;obtain⟨au,Ke,ak,V,J,xe,ne⟩:=(I.hR.ext x4 (fun _ _=>wE)).append (P:=Tryz.prog) (st:=29) (xt:=29) (e:=9) (x:=.osl E.length 1 0 1 1) (xs:=[.str n]) (m:=1) wE wE (by simp[-qd,gc]) wE wC wE wC wM wM;simp[-qd,-qn,-qr,-qJ,p0,p5,p6,u,y,t,qo,qR,k,zF,qia,o,G,w,QU,ga,hw,JS,ja,a,Yw,Zh,V];exact⟨i+1,wC,wC,wE,wE,wE,wE,ps,oD,au,Lo,ak,wE,wE,I.other g (by simp[Qi,O,<-V3,C,jY,<-Z,hc]) (by simp[ZO,O,<-V3,C,jY,<-Z,hc]) x4 J xe ne⟩
  .have qo:=zw qg;have ZA:i=N.length:=wC;subst ZA;simp[-qd,-qn,-qr,-qJ,p0,p5,p6,u,y,t,qo];exact⟨qA _,wE,wE,wE,wE,ps,oD,hD,Lo,Lh,wE,wE,I⟩
 .rintro ex e K ⟨rfl,-,p0,u,y,t,ps,oD,hD,Lo,Lh,p5,p6,I⟩;simp[-qd,-qn,-qr,-qJ,p5,p6];exact⟨_,ps,_,_,⟨⟨rfl,rfl⟩,rfl⟩,Lo,Lh,I⟩
end Go.Ev.S
namespace Go.Ev.S
open Go Go.Proofs Go.Ev
theorem q6m{F:zG}{f:Nat}{H:qe}{args:List D}{r:D}{T:qe}(g:Yj args=[])(c:args.all idFree=true)(e:F f args []=some (r,T)):qby F f args H=some (mv [] H.length r,H++T.map (X1 [] H.length)):=by
 have a:∀l:List D,l.all idFree=true->YL [] l=some l:=by
  intro l
  induction l with
  |nil=>intro _;rfl
  |cons d l h=>
   intro b;simp only[Va,zY] at b;rw[YL,h b.2];unfold qaB;rw[if_pos b.1]
 unfold qby qdJ;rw[g,show qlG H 6 (Y8 [] [])=[] from rfl,a args c,show XY [] H []=some [] from rfl];simp only;rw[if_pos List.nodup_nil,e];simp[J6]
def qwd(a:Sl ZL)(n:Nat)(q:D×qe):Prop:=∃b:Bool,q=(.bool b,[])/\(b=true->a.l.length<=n/\∀z,z∈a.l->z.zs.length<=80)
theorem q0W[MaxL](a:Sl ZL)(n:Nat)(t:n<=100):∃q,call cx 6 [(.vsl a.nil (qt a.l) a.l.length),.int .i64 (n:Nat)] []=some q/\qwd a n q:=by
 refine Vk (X:=cx) (f:=6) (args:=[(.vsl a.nil (qt a.l) a.l.length),.int .i64 (n:Nat)]) (H:=[]) (qwd a n) Tryz.func6 rfl ⟨rfl,rfl⟩ ?_;by_cases x:n<a.l.length
 .have u:=zq x;simp[Tryz.f6,u];exact⟨false,rfl,fun h=>wI⟩
 have u:=zw x;simp[Tryz.f6,u];refine Run.loopThen (fun(i:Nat) e H=>i<=a.l.length/\qi e 0=some (.vsl a.nil (qt a.l) a.l.length)/\qi e 5=some (.int .i64 i)/\H=[]/\∀j z,j<i->a.l[j]?=some z->z.zs.length<=80) (fun i=>a.l.length-i) 0 ?_ ?_
 .exact⟨vp _,wE,wE,rfl,fun j z g=>absurd g (Nat.not_lt_zero _)⟩
 rintro i e H ⟨hi,o,r,rfl,w⟩;by_cases d:i<a.l.length
 .have m:=zq d;have B:=qz ((i:Int)+1) ((i+1:Nat):Int);have v:=Sl.nn d;obtain⟨z,k⟩:∃z,z=a.l[i]:=⟨_,rfl⟩;have p:List.drop (i*1) (qt a.l)=Enc.cells z++qt (a.l.drop (i+1)):=by rw[k];exact XS (n:=1) (α:=ZL) rfl d
  rw[Nat.mul_one,ZL.enc] at p;rw[v] at o;by_cases C:80<z.zs.length
  .have b:(80:Int)<(z.zs.length:Int):=wC;simp[o,r,m,p,b];exact⟨false,rfl,fun h=>wI⟩
  .have b:¬(80:Int)<(z.zs.length:Int):=wC;simp[o,r,m,p,b,B];refine⟨i+1,wC,wC,v,wC,fun j y g c=>?_⟩;by_cases A:j<i
   .exact w j y A c
   .have:j=i:=wC;subst this;rw[qM d] at c;injection c with c;rw[<-c,<-k];omega
 .have m:=zw d;simp[o,r,m];refine⟨true,rfl,fun _=>⟨wC,fun z s=>?_⟩⟩;obtain⟨j,g⟩:=List.getElem?_of_mem s;exact w j z (by have:=(List.getElem?_eq_some_iff.1 g).1;omega) g
theorem qoF:MOk (Sl.none:Sl Mk).l:=⟨rfl,fun m a=>xC⟩
theorem qup(H:qe):FdsW H (.vsl true [] 0) [] []:=⟨RowA.nil _ _,rfl,fun x hx=>by simp at hx,fun i f h=>wP,fun n a=>by simp[zy] at a⟩
theorem qud(n:Nat)(H:qe):FisW n H []:=⟨fun f a=>xC,fun f a=>xC,fun f a=>xC,fun f g a=>xC⟩
theorem quk{qs:List SqF}(h:qcA (zW []) qs):qs=[]:=ky h.1.symm
theorem q0n[MaxL](H:qe):∃T,call cx 14 [.vsl true [] 0,.vsl true [] 0] H=some (.tup [.agg (Enc.cells Vw),.bool false],T)/\Ext [] H T:=by
 obtain⟨⟨r,T⟩,h,qs,b,a,hx,-⟩:=q0G (qup H) (qud _ H) wE (fun u c=>by simp[zW] at c) Sl.none qoF;simp only at a hx;rw[quk b] at a;subst a;exact⟨T,h,hx⟩
theorem q6Z[MaxL](H:qe):∃T,call cx 10 [.vsl true [] 0,.vsl true [] 0,.int .i64 5] H=some (.vsl true [] 0,T)/\Ext [] H T:=by
 obtain⟨⟨r,T⟩,h,qs,b,-,a,hx,-⟩:=qkr (qup H) (qud _ H) wE (fun u c=>by simp[zW] at c) Sl.none qoF 5 wC wC;simp only at a hx;rw[quk b] at a;subst a;exact⟨T,h,hx⟩
theorem q4w[MaxL]:call cx 5 [] []=some (.bool true,[]):=by
 obtain⟨T,d,g⟩:=q0n [];have f:∀n,(∀x,x∈(Enc.cells Vw:List D)->closed n x=true)=True:=fun n=>eq_true fun x hx=>VU x (List.all_eq_true.1 (Enc.free _) x hx);have b:(Enc.cells Vw:List D).length=39:=wE
 generalize (Enc.cells Vw:List D)=I at *;obtain⟨e,a⟩:=ql (qr T I);obtain⟨T2,c,h⟩:=q6Z e;refine qC Tryz.func5 rfl ⟨rfl,rfl⟩ ?_;simp[-qd,-qn,-qr,-qJ,Tryz.f5,d,zF,qaT,f,b,a,c]
def Xl(ps:List Nat)(a:List (List UInt8))(c:List UInt8->List UInt8):List (Nat×List UInt8):=ps.zip (a.map c)
theorem qtN{ps:List Nat}{b:List (List UInt8)}{c:List UInt8->List UInt8}{i:Nat}{f:Nat×List UInt8}(h:(Xl ps b c)[i]?=some f):∃n,ps[i]?=some f.1/\b[i]?=some n/\f.2=c n:=by
 unfold Xl at h;rw[List.getElem?_zip_eq_some] at h;obtain⟨e,a⟩:=h;rw[Je] at a;obtain⟨n,d,g⟩:=Option.map_eq_some_iff.1 a;exact⟨n,e,d,g.symm⟩
theorem qcq{ps:List Nat}{a:List (List UInt8)}{c:List UInt8->List UInt8}{f:Nat×List UInt8}(h:f∈Xl ps a c):∃(i:Nat)(n:List UInt8),ps[i]?=some f.1/\a[i]?=some n/\f.2=c n:=by
 obtain⟨i,hi⟩:=List.getElem?_of_mem h;obtain⟨n,b⟩:=qtN hi;exact⟨i,n,b⟩
theorem qkV{ps:List Nat}{a:List (List UInt8)}{c:List UInt8->List UInt8}(h:a.length=ps.length):(Xl ps a c).length=a.length:=by
 unfold Xl;rw[List.length_zip,List.length_map,h,Nat.min_self]
theorem qun{H:qe}{oD:D}{a:List (List UInt8)}{ps:List Nat}{c:List UInt8->List UInt8}{L:List Nat}(e:a.length=ps.length)(k:RowA H 21 oD (ZD a ps) L)(h:∀p,p∈ps->p<H.length/\p∉L):FdsW H oD (ZD a ps) (Xl ps a c):=by
 have v:=RowA.nm k;subst v;refine⟨k,by rw[qkZ _ _ e,qkV e],fun x hx=>?_,fun i f b=>?_,fun n u hc=>?_⟩
 .have key:∀(a:List (List UInt8))(ps:List Nat),(∀p,p∈ps->p<H.length)->∀x,x∈ZD a ps->closed H.length x=true:=by
   intro a
   induction a with
   |nil=>intro ps _ x hx;simp[ZD] at hx
   |cons n a y=>
    intro ps j x hx;cases ps with
    |nil=>simp[ZD] at hx
    |cons p ps=>
     simp only[ZD,jC,jW] at hx;rcases hx with rfl|hx|rfl|hx
     .rfl
     .exact VU x (List.all_eq_true.1 (Enc.free _) x hx)
     .exact decide_eq_true (j p wE)
     .exact y ps (fun q z=>j q (vy _ z)) x hx
  exact key a ps (fun p d=>(h p d).1) x hx
 .obtain⟨n,g,s,-⟩:=qtN b;obtain⟨r,t⟩:=qtX a ps i n f.1 e s g
  have o:List.drop (i*21+20) (ZD a ps)=.optr f.1 5 0::r:=by
   rw[<-kz,t];simp
  have w:=congrArg (fun l=>l[0]?) o;simpa using w
 .obtain⟨f,b,rfl⟩:=List.mem_map.1 hc;obtain⟨i,m,g,-⟩:=qcq b;exact(h f.1 (j7 g)).2 u
theorem quc{H:qe}{s:List (List UInt8)}{ps:List Nat}{c:List UInt8->List UInt8}(a:∀(j:Nat)(n:List UInt8)(p:Nat),s[j]?=some n->ps[j]?=some p->qd H p=some (qas (c n)))(o:∀n,n∈s->(c n).length<=1000000)(l:ps.Nodup):FisW H.length H (Xl ps s c):=by
 refine⟨fun f b=>?_,fun f b=>?_,fun f b=>?_,fun f g b w r=>?_⟩
 .obtain⟨i,n,k,d,e⟩:=qcq b;left;rw[e];exact a i n f.1 d k
 .obtain⟨i,n,k,d,e⟩:=qcq b;exact qx (a i n f.1 d k)
 .obtain⟨i,n,k,d,e⟩:=qcq b;rw[e];exact o n (j7 d)
 .obtain⟨i,n,k,d,e⟩:=qcq b;obtain⟨j,m,x,q,y⟩:=qcq w
  have z:i=j:=by
   obtain⟨u,t⟩:=List.getElem?_eq_some_iff.1 k;obtain⟨v,e2⟩:=List.getElem?_eq_some_iff.1 x;rcases Nat.lt_trichotomy i j with h|h|h
   .exact absurd (by rw[t,e2,r]) (List.pairwise_iff_getElem.1 l i j u v h)
   .exact h
   .exact absurd (by rw[t,e2,r]) (List.pairwise_iff_getElem.1 l j i v u h)
  subst z;rw[d] at q;injection q with q;subst q;exact Prod.ext r (by rw[e,y])
theorem qpn{s:Fs}{k:Nat}(L:LaidM s k):kZ s=s.nodes.map (·.name):=by
 unfold kZ;rw[L.b.off];simp only[Qd,if_false];congr 1
 exact List.filter_eq_self.2 fun n c=>by
  obtain⟨j,a⟩:=List.getElem?_of_mem c;exact(L.nd j n a).1
theorem qk4{s:Fs}{k:Nat}(L:LaidM s k)(t:k<=6){j:Nat}{n:Nd}(d:s.nodes[j]?=some n):zM s n.name=n.b.l:=by
 have o:=(List.getElem?_eq_some_iff.1 d).1;have r:=L.n
 have f:kH s.nodes n.name=some j:=by
  unfold kH;rw[List.findIdx?_eq_some_iff_getElem];obtain⟨_,e⟩:=List.getElem?_eq_some_iff.1 d;refine⟨o,by rw[e];simp[(L.nd j n d).1],fun i hi=>?_⟩;have p:i<s.nodes.length:=wC
  obtain⟨-,-,-,-,a,q⟩:=L.nd i s.nodes[i] (qM p);obtain⟨-,-,-,-,c,hc⟩:=L.nd j n d;have:=qsS a c (i:=i) (j:=j) wC wC wC;rw[<-q,<-hc] at this;simp[this]
 obtain⟨-,-,-,-,c,hc⟩:=L.nd j n d;have m:Jy n.name=true:=by rw[hc,qkH];exact qlV c.h _ _
 have g:Vj s n.name=0:=by simp[Vj,L.b.off,m]
 have qd:vW s n.name=0:=by
  unfold vW;rw[g,f];simp
 unfold zM;rw[qd,if_neg wH,f];simp only[Y9,d]
theorem qgt{s:Fs}{k:Nat}(L:LaidM s k){m:List UInt8}(a:m∈kZ s):∃(j:Nat)(n:Nd),s.nodes[j]?=some n/\m=n.name:=by
 rw[qpn L] at a;obtain⟨n,c,rfl⟩:=List.mem_map.1 a;obtain⟨j,b⟩:=List.getElem?_of_mem c;exact⟨j,n,b,rfl⟩
theorem qfm{s:Fs}{k:Nat}(L:LaidM s k)(l:k<=6){m:List UInt8}(g:m∈kZ s):Qi (zM s) jY m=true/\ZO (zM s) jY m=false/\(zM s m).length<=20000/\(qG (zM s m)).ents<=6:=by
 obtain⟨j,n,d,rfl⟩:=qgt L g;obtain⟨-,h,f,i,a,o⟩:=L.nd j n d;have p:=(List.getElem?_eq_some_iff.1 d).1;have q:=L.n;have c:=qk4 L l d;have e:QD n.name=(Jq a j,true):=by rw[o];exact qhV a wC
 have b:(Jq a j).kind≠4:=by show(2:Int)≠4;decide
 refine⟨?_,?_,by rw[c];exact h,by rw[c];exact i⟩
 .unfold Qi jY;rw[e,c,f];simp[b]
 .unfold ZO jY;rw[e,c,f];simp
def muD(m:Nat->Nat):D->D
 | .optr p a b=>.optr (m p) a b
 |d=>d
def KL(m:Nat->Nat)(x:Pl):Pl:=⟨x.s,x.r,muD m x.f,x.i⟩
def kg(m:Nat->Nat)(q:SqF):SqF:=⟨q.id,q.l.map (KL m),q.t⟩
def muF(m:Nat->Nat)(f:Nat×List UInt8):Nat×List UInt8:=(m f.1,f.2)
theorem qzg(m:Nat->Nat)(p:Nat)(b:List UInt8):Vd (m p) b=(Vd p b).map (KL m):=by
 unfold Vd;rw[List.map_map];rfl
theorem q0o(m:Nat->Nat)(qs:List SqF)(a:ID):kA (qs.map (kg m)) a=(kA qs a).map (kg m):=by
 unfold kA;have h:(qs.map (kg m)).any (fun q=>q.id==a)=qs.any (fun q=>q.id==a):=by rw[List.any_map];rfl
 rw[h];split
 .rfl
 .rw[List.map_append];rfl
theorem q7i(m:Nat->Nat)(qs:List SqF)(f:Nat×List UInt8):vY (qs.map (kg m)) (muF m f)=(vY qs f).map (kg m):=by
 unfold vY;show(kA (qs.map (kg m)) (qG f.2).seq).map _=_;rw[q0o,List.map_map,List.map_map];refine List.map_congr_left fun q _=>?_;show(if q.id=(qG f.2).seq then YC (m f.1) f.2 (kg m q) else kg m q)=kg m (if q.id=(qG f.2).seq then YC f.1 f.2 q else q);split
 .unfold YC kg;simp only[qzg,List.map_append]
 .rfl
theorem qtU(m:Nat->Nat):∀(fs:List (Nat×List UInt8))(qs:List SqF),(fs.map (muF m)).foldl vY (qs.map (kg m))=(fs.foldl vY qs).map (kg m)
 |[],_=>rfl
 |f::fs,qs=>by
  simp only[List.map_cons,List.foldl_cons];rw[q7i,qtU m fs]
theorem qyR(m:Nat->Nat)(fs:List (Nat×List UInt8)):zW (fs.map (muF m))=(zW fs).map (kg m):=qtU m fs []
theorem qui(l:List Pl)(k:Nat):l.find? (·.s==k)=(l.filter (·.s==k)).head?:=by
 rw[List.head?_filter]
theorem qvc:∀{l:List Pl}{x y:Pl},J2 (x::l)->(y∈J0 x l↔x.s≠y.s/\l.find? (·.s==y.s)=some y)
 |[],x,y,_=>by simp[J0]
 |z::l,x,y,h=>by
  have f:=(List.pairwise_cons.1 h).2;have j:=(List.pairwise_cons.1 h).1 z wE;have g:=qvc (y:=y) f;unfold J0;by_cases d:z.s=x.s
  .rw[if_pos d,g,List.find?_cons,d];constructor
   .rintro⟨a,b⟩;refine⟨a,?_⟩;rw[show(x.s==y.s)=false from wZ];exact b
   .rintro⟨a,b⟩;rw[show(x.s==y.s)=false from wZ] at b;exact⟨a,b⟩
  .rw[if_neg d,jC,g,List.find?_cons];by_cases c:z.s=y.s
   .rw[show(z.s==y.s)=true from wo];constructor
    .rintro(rfl|⟨a,b⟩)
     .exact⟨fun e=>d e.symm,rfl⟩
     .exact absurd c a
    .rintro⟨a,b⟩;injection b with b;exact .inl b.symm
   .rw[show(z.s==y.s)=false from wo];constructor
    .rintro(rfl|⟨a,b⟩)
     .exact absurd rfl c
     .refine⟨fun e=>?_,b⟩;have i:=List.mem_of_find?_eq_some b;have:=(List.pairwise_cons.1 f).1 y i;omega
    .rintro⟨a,b⟩;exact .inr ⟨c,b⟩
theorem q5n{l:List Pl}{y:Pl}(h:J2 l):y∈dd l↔l.find? (·.s==y.s)=some y:=by
 cases l with
 |nil=>simp[dd]
 |cons x l=>
  rw[dd,jC,qvc h,List.find?_cons];by_cases hx:x.s=y.s
  .rw[show(x.s==y.s)=true from wY];constructor
   .rintro(rfl|⟨a,b⟩)
    .rfl
    .exact absurd hx a
   .intro b;injection b with b;exact .inl b.symm
  .rw[show(x.s==y.s)=false from wY];constructor
   .rintro(rfl|⟨a,b⟩)
    .exact absurd rfl hx
    .exact b
   .intro b;exact .inr ⟨hx,b⟩
theorem qmG{u v:List Pl}(h:StS u v){y:Pl}:y∈dd v↔u.find? (·.s==y.s)=some y:=by
 rw[q5n h.rise,qui,qui,h.same]
theorem qn1:∀{a b:List Pl},a.Pairwise (fun x y=>x.s<y.s)->b.Pairwise (fun x y=>x.s<y.s)->(∀y,y∈a↔y∈b)->a=b
 |[],[],_,_,_=>rfl
 |[],y::b,_,_,h=>by have:=(h y).2 wE;simp at this
 |x::a,[],_,_,h=>by have:=(h x).1 wE;simp at this
 |x::a,y::b,m,l,h=>by
  obtain⟨i,j⟩:=List.pairwise_cons.1 m;obtain⟨g,k⟩:=List.pairwise_cons.1 l
  have e:x=y:=by
   rcases List.mem_cons.1 ((h x).1 wE) with c|c
   .exact c
   .rcases List.mem_cons.1 ((h y).2 wE) with f|f
    .exact f.symm
    .have:=g x c;have:=i y f;omega
  subst e
  rw[qn1 j k fun z=>⟨fun d=>by
   rcases List.mem_cons.1 ((h z).1 (vy _ d)) with c|c
   .rw[c] at d;have:=i x d;omega
   .exact c,fun d=>by
   rcases List.mem_cons.1 ((h z).2 (vy _ d)) with c|c
   .rw[c] at d;have:=g x d;omega
   .exact c⟩]
theorem q5m{u e v w:List Pl}(b:StS u v)(a:StS (u++e) w)(d:∀x,x∈e->∃y,y∈u/\y.s=x.s):dd w=dd v:=by
 refine qn1 (ql0 a.rise) (ql0 b.rise) fun y=>?_;rw[qmG b,qmG a,List.find?_append];cases c:u.find? (·.s==y.s) with
 |some z=>simp
 |none=>
  simp only[Option.none_or];constructor
  .intro h;have f:=List.mem_of_find?_eq_some h;obtain⟨z,g,i⟩:=d y f;have:=List.find?_eq_none.1 c z g;simp[i] at this
  .intro h;simp at h
theorem qxs{u v:List Pl}(m:Nat->Nat)(h:StS u v):StS (u.map (KL m)) (v.map (KL m)):=by
 refine⟨List.pairwise_map.2 h.rise,by simp[h.len],fun k=>?_⟩;rw[List.filter_map,List.filter_map];have:=h.same k;show List.map _ (v.filter fun x=>x.s==k)=List.map _ (u.filter fun x=>x.s==k);rw[this]
theorem quZ(m:Nat->Nat):∀v:List Pl,dd (v.map (KL m))=(dd v).map (KL m)
 |[]=>rfl
 |x::l=>by
  have key:∀(l:List Pl)(x:Pl),J0 (KL m x) (l.map (KL m))=(J0 x l).map (KL m):=by
   intro l
   induction l with
   |nil=>intro x;rfl
   |cons y l a=>
    intro x;simp only[List.map_cons,J0];rw[show(KL m y).s=y.s from rfl,show(KL m x).s=x.s from rfl,a];split<;>simp
  simp only[List.map_cons,dd,key]
def muV(m:Nat->Nat)(v:NxV):NxV:=⟨v.id,v.s,v.r,muD m v.f,v.i,v.th,v.fr,v.tt⟩
theorem qot(m:Nat->Nat)(q:SqF)(d:Nat):JA (kg m q) d=(JA q d).map (KL m):=by
 unfold JA kg;rw[List.find?_map];rfl
theorem q0b(m:Nat->Nat)(q:SqF)(d:Nat):kK (kg m q) d=muV m (kK q d):=by
 unfold kK;rw[qot];cases JA q d<;>rfl
theorem q0c(m:Nat->Nat)(q:SqF)(d:Nat):VQ (kg m q) d=VQ q d:=by
 unfold VQ Yf;rw[qot];cases JA q d<;>rfl
theorem qo2(m:Nat->Nat)(M:List Mk):∀qs:List SqF,ZP (qs.map (kg m)) M=(ZP qs M).map (muV m)
 |[]=>rfl
 |q::qs=>by
  have a:=qo2 m M qs
  have h:Vu M (kg m q)=(Vu M q).map (muV m):=by
   unfold Vu;show(if qee M q then none else if VQ (kg m q) (vE M q) then some (kK (kg m q) (vE M q)) else none)=_;rw[q0c,q0b];split
   .rfl
   .split<;>rfl
  unfold ZP at *;simp only[List.map_cons,List.filterMap_cons,h];cases Vu M q with
  |none=>exact a
  |some x=>simp only[jn,List.map_cons,a]
theorem qkq(m:Nat->Nat):∀(l:List NxV)(x:NxV),ZR (muV m x) (l.map (muV m))=muV m (ZR x l)
 |[],_=>rfl
 |y::l,x=>by
  simp only[List.map_cons,ZR];rw[show qcU (muV m y) (muV m x)=qcU y x from rfl];split
  .exact qkq m l y
  .exact qkq m l x
theorem q4x(m:Nat->Nat)(qs:List SqF)(M:List Mk):V6 (qs.map (kg m)) M=(V6 qs M).map (muV m):=by
 unfold V6;rw[qo2];cases ZP qs M with
 |nil=>rfl
 |cons x l=>exact congrArg some (qkq m l x)
theorem qvP{rf a:D->Int->Rec}(m:Nat->Nat){qs:List SqF}(g:∀q,q∈qs->∀x:Pl,x∈q.l->a (muD m x.f) x.i=rf x.f x.i):∀(n:Nat)(M:List Mk),Zj a (qs.map (kg m)) n M=Zj rf qs n M
 |0,_=>rfl
 |n+1,M=>by
  have d:=q4x m qs M;cases h:V6 qs M with
  |none=>
   rw[h] at d;simp only[Zj,h,d,Option.map_none]
  |some v=>
   rw[h] at d
   have j:Qh a (muV m v)=Qh rf v:=by
    obtain⟨q,k,-,c,rfl⟩:=qlb h;unfold Qh;show(if 0<(kK q (vE M q)).fr then _ else _)=_;split
    .rfl
    .rename_i b;cases hx:JA q (vE M q) with
     |none=>
      exfalso;unfold VQ Yf at c;unfold kK at b;rw[hx] at c b;simp only[Option.isSome_none,Bool.false_or,decide_eq_true_eq] at c;simp only[if_pos c] at b;exact b (Nat.succ_pos _)
     |some x=>
      have:=g q k x (qgk hx).1;have e:(kK q (vE M q)).f=x.f/\(kK q (vE M q)).i=(x.i:Int):=(by unfold kK;rw[hx];exact⟨rfl,rfl⟩);show(⟨qet _,false,0,0,a (muD m (kK q (vE M q)).f) (kK q (vE M q)).i⟩:It)=⟨_,_,_,_,rf (kK q (vE M q)).f (kK q (vE M q)).i⟩;rw[e.1,e.2,this];rfl
   simp only[Zj,h,d,jn,j];rw[qvP m g n]
theorem q7h{qs:List SqF}{f:Nat×List UInt8}{i:Nat}(hi:i∈zu f.2):∃u,u∈vY qs f/\u.id=(qG f.2).seq/\J9 f.1 f.2 i∈u.l:=by
 obtain⟨q,a,b⟩:∃q,q∈kA qs (qG f.2).seq/\q.id=(qG f.2).seq:=by
  unfold kA;split
  .rename_i h;obtain⟨q,a,hi⟩:=List.any_eq_true.1 h;exact⟨q,a,xl⟩
  .exact⟨_,List.mem_append_right _ (List.mem_singleton.2 rfl),rfl⟩
 exact⟨YC f.1 f.2 q,List.mem_map.2 ⟨q,a,by rw[if_pos b]⟩,b,List.mem_append_right _ (List.mem_map.2 ⟨i,hi,rfl⟩)⟩
theorem q7g{qs:List SqF}{f:Nat×List UInt8}{a:ID}{x:Pl}(h:∃u,u∈qs/\u.id=a/\x∈u.l):∃u,u∈vY qs f/\u.id=a/\x∈u.l:=by
 obtain⟨u,b,e,c⟩:=h
 have d:u∈kA qs (qG f.2).seq:=by
  unfold kA;split
  .exact b
  .exact Xr _ b
 refine⟨_,List.mem_map.2 ⟨u,d,rfl⟩,by rw[qhc];exact e,?_⟩;split
 .exact Xr _ c
 .exact c
theorem qtT:∀(fs:List (Nat×List UInt8))(qs:List SqF)(a:ID)(x:Pl),((∃u,u∈qs/\u.id=a/\x∈u.l)\/∃f,f∈fs/\(qG f.2).seq=a/\∃i,i∈zu f.2/\x=J9 f.1 f.2 i)->∃u,u∈fs.foldl vY qs/\u.id=a/\x∈u.l
 |[],qs,a,x,h=>by
  rcases h with h|⟨f,j,-⟩
  .exact h
  .simp at j
 |f::fs,qs,a,x,h=>by
  refine qtT fs (vY qs f) a x ?_;rcases h with h|⟨g,b,e,i,d,c⟩
  .exact .inl (q7g h)
  .rcases List.mem_cons.1 b with rfl|b
   .left;rw[<-e,c];exact q7h d
   .exact .inr ⟨g,b,e,i,d,c⟩
theorem qwI{fs:List (Nat×List UInt8)}{p:Nat}{c:List UInt8}{m:Nat->Nat}{qs qs2:List SqF}(hc:∃f,f∈fs/\f.2=c)(J:qcA (zW fs) qs)(H:qcA (zW (fs.map (muF m)++[(p,c)])) qs2):qs2=qs.map (kg m):=by
 obtain⟨f,R,rfl⟩:=hc;obtain⟨us,a⟩:=ql (zW fs);have U:qdP us:=by rw[<-a];exact qjL fs (qs:=[]) (fun i j x y h=>wP)
 obtain⟨q,M,v,aa⟩:=qtV fs [] _ _ (.inr ⟨f,R,rfl,rfl⟩);have e:q∈us:=by rw[<-a];exact M
 obtain⟨T,o⟩:=List.getElem?_of_mem e
 have d:∀u,u∈us->u.id=(qG f.2).seq->u=q:=fun u l K=>by
  obtain⟨k,C⟩:=List.getElem?_of_mem l;have:=U k T u q C o (K.trans v.symm);subst this;rw[C] at o;injection o
 have Y:kA (us.map (kg m)) (qG f.2).seq=us.map (kg m):=by
  unfold kA;rw[if_pos];exact List.any_eq_true.2 ⟨kg m q,List.mem_map.2 ⟨q,e,rfl⟩,by rw[show(kg m q).id=q.id from rfl,v];exact beq_self_eq_true _⟩
 have e2:zW (fs.map (muF m)++[(p,f.2)])=us.map fun u=>if u.id=(qG f.2).seq then YC p f.2 (kg m u) else kg m u:=by
  unfold zW;rw[List.foldl_append];show vY (zW (fs.map (muF m))) (p,f.2)=_;rw[qyR,a];unfold vY;rw[Y,List.map_map];rfl
 rw[a] at J;rw[e2] at H;refine List.ext_getElem? fun i=>?_;rw[Je];by_cases F:i<us.length
 .have b:us[i]?=some us[i]:=qM F;have Q:qs[i]?=some (qs[i]'(by rw[<-J.1];exact F)):=qM _;have P:qs2[i]?=some (qs2[i]'(by rw[<-H.1,List.length_map];exact F)):=qM _;obtain⟨I,E,W,a3,G⟩:=J.2 i _ _ b Q;obtain⟨s,r,V,A,B⟩:=H.2 i _ _ (by rw[Je,b];rfl) P;rw[Q,P];simp only[jn,qy];have l:us[i]∈us:=vC F;generalize us[i]=u at *;generalize qs[i]'_=x at *;generalize qs2[i]'_=y at *;have n:=qxs m a3;by_cases L:u.id=(qG f.2).seq
  .simp only[if_pos L] at s r A;have g:=d u l L
   have Xg:dd V=(dd W).map (KL m):=by
    rw[<-quZ];refine q5m n A fun z hz=>?_;obtain⟨k,C,rfl⟩:=List.mem_map.1 hz;obtain⟨w,jM,X,O⟩:=qtT fs [] _ _ (.inr ⟨f,R,rfl,k,C,rfl⟩);have N:w=u:=(by rw[g];exact d w (by rw[<-a];exact jM) X);rw[N] at O;exact⟨_,List.mem_map.2 ⟨_,O,rfl⟩,rfl⟩
   have S:y.t=u.t:=by
    rw[<-r];show max u.t (qG f.2).tseq=u.t;rw[g];omega
   cases x;cases y;simp only at I E G s r B S;unfold kg;simp only;rw[B,Xg,G,S,<-E,<-s,<-I];rfl
  .simp only[if_neg L] at s r A;have Z:V=W.map (KL m):=qn0 A.rise n.rise fun k=>by rw[A.same,n.same];rfl
   cases x;cases y;simp only at I E G s r B;unfold kg;simp only;rw[B,Z,quZ,G,<-r,<-E,<-s,<-I];rfl
 .rw[List.getElem?_eq_none (by rw[<-H.1,List.length_map];omega),List.getElem?_eq_none (by rw[<-J.1];omega)];rfl
theorem qxz[MaxL][TxtC](a:Sl Pr)(i:a.l.length<=1000000):call cx 154 [(.vsl a.nil (qt a.l) a.l.length),(.vsl a.nil (qt a.l) a.l.length)] []=some (.bool true,[]):=by
 refine qC Tryz.func154 rfl ⟨rfl,rfl⟩ ?_;simp[Tryz.f154];refine Run.loopThen (fun(k:Nat) e H'=>k<=a.l.length/\qi e 0=some (.vsl a.nil (qt a.l) a.l.length)/\qi e 1=some (.vsl a.nil (qt a.l) a.l.length)/\qi e 5=some (.int .i64 (k:Nat))/\H'=[]) (fun k=>a.l.length-k) 0 ?_ ?_
 .simp
 rintro k e H' ⟨j,g,d,f,rfl⟩;by_cases b:k<a.l.length
 .have c:=zq b;have h:=qz ((k:Int)+1) ((k+1:Nat):Int);have n1:a.nil=false:=Sl.nn b;simp[g,d,f,b,c,n1,Pr.cells,h];exact⟨k+1,wC,wC,wC⟩
 .have c:=zw b;simp[g,d,f,c]
theorem qxt[MaxL][TxtC](r:Rec)(c:r.fields.l.length<=1000000):call cx 96 [.agg (Enc.cells r),.agg (Enc.cells r)] []=some (.bool true,[]):=by
 have a:=qxz r.fields c;have b:List.take 16 (qf r.boot.l++[(.vsl r.fields.nil (qt r.fields.l) r.fields.l.length)])=qf r.boot.l:=by rw[Zk];simp
 have e:List.drop 16 (qf r.boot.l++[(.vsl r.fields.nil (qt r.fields.l) r.fields.l.length)])=[(.vsl r.fields.nil (qt r.fields.l) r.fields.l.length)]:=by rw[jd];simp
 have d:(qf r.boot.l).length=16:=wE
 refine qC Tryz.func96 rfl ⟨rfl,rfl⟩ ?_;rw[Rec.cells];simp[Tryz.f96,a,b,e,d]
theorem qxH[MaxL][TxtC](x:It)(p:x.rc.fields.l.length<=1000000):call cx 50 [.agg (Enc.cells x),.agg (Enc.cells x)] []=some (.bool true,[]):=by
 have g:=qxt x.rc p;have q:(Enc.cells x.rc:List D).length=20:=wE
 have o:List.take 20 (Enc.cells x.rc:List D)=Enc.cells x.rc:=qH wE;have e:(Enc.cells x:List D)=qf x.id.l++(.bool x.gap:: .int .u64 x.fr:: .int .u64 x.til::Enc.cells x.rc):=rfl;have a:(qf x.id.l).length=16:=wE
 have m:idFree.idFreeL (Enc.cells x.rc:List D)=true:=wE
 have h:∀n,(∀y,y∈(Enc.cells x.rc:List D)->closed n y=true)=True:=fun n=>eq_true fun y j=>VU y (List.all_eq_true.1 (Enc.free _) y j);generalize (Enc.cells x.rc:List D)=R at *;have i:List.take 16 (qf x.id.l++(D.bool x.gap:: .int .u64 x.fr:: .int .u64 x.til::R))=qf x.id.l:=List.take_left' a;have dd:∀k,List.drop (16+k) (qf x.id.l++(D.bool x.gap:: .int .u64 x.fr:: .int .u64 x.til::R))=List.drop k (D.bool x.gap:: .int .u64 x.fr:: .int .u64 x.til::R):=fun k=>by rw[<-kz,VD a]
 have b:=dd 0;have f:=dd 1;have d:=dd 2;have c:=dd 3;simp only[Nat.reduceAdd,List.drop_succ_cons,List.drop_zero] at b f d c;refine qC Tryz.func50 rfl ⟨rfl,rfl⟩ ?_;rw[e];simp[Tryz.f50,g,i,b,f,d,c,a,q,o,m,h]
theorem qx9[MaxL][TxtC](l:List It)(w:l.length<=1000)(u:∀x,x∈l->x.rc.fields.l.length<=1000000):call cx 21 [.vsl (decide (l=[])) (qt l) l.length,.vsl (decide (l=[])) (qt l) l.length] []=some (.bool true,[]):=by
 refine qC Tryz.func21 rfl ⟨rfl,rfl⟩ ?_;simp[Tryz.f21];refine Run.loopThen (fun(k:Nat) e H'=>k<=l.length/\qi e 0=some (.vsl (decide (l=[])) (qt l) l.length)/\qi e 1=some (.vsl (decide (l=[])) (qt l) l.length)/\qi e 5=some (.int .i64 (k:Nat))/\H'=[]) (fun k=>l.length-k) 0 ?_ ?_
 .simp
 rintro k e H' ⟨v,f,d,g,rfl⟩;by_cases a:k<l.length
 .have c:=zq a;have s:=qz ((k:Int)+1) ((k+1:Nat):Int);have i:decide (l=[])=false:=decide_eq_false fun h=>by rw[h] at a;simp at a
  rw[i] at f d;obtain⟨x,hx⟩:=ql (l[k]);have t:=qxH x (u x (hx▸vC a));have m:List.drop (k*39) (qt l)=Enc.cells x++qt (l.drop (k+1)):=by rw[<-hx];exact XS (n:=39) (α:=It) wE a
  have o:(Enc.cells x:List D).length=39:=wE
  have q:(qt l).length=l.length*39:=Ks (n:=39) wE l;have r:39<=l.length*39-k*39:=wC
  have j:List.take 39 (List.drop (k*39) (qt l))=Enc.cells x:=by rw[m,List.take_left' o]
  have b:l≠[]:=of_decide_eq_false i;have p:idFree.idFreeL (Enc.cells x:List D)=true:=wE
  generalize qt l=E at *;generalize (Enc.cells x:List D)=X at *;simp[f,d,g,c,j,q,r,t,p,s];exact⟨k+1,wC,wC,b,wC⟩
 .have c:=zw a;simp[f,d,g,c]
def idF:ID:=⟨[255,0,0,0,0,0,0,0,0,0,0,0,0,0,0,0],rfl⟩
def Vx(w:Nat):Inf:=⟨3,idF,w,0⟩
theorem qsU{w:Nat}(h:w<1000):InfOk (Vx w):=⟨by unfold jq Vx;simp only;omega,by unfold jq Vx;simp only;omega⟩
theorem qsT{w:Nat}(h:w<1000):QD (kf (Vx w))=(Vx w,true):=
 qnX (Vx w) (.inr ⟨.inr rfl,qsU h⟩)
theorem qkI(w:Nat):kf (Vx w)=kF idF.l w 0++[126]:=rfl
theorem q3g(w:Nat):Jy (kf (Vx w))=true:=by
 have h:=qlV idF.h w 0;rw[qkI];unfold Jy at h⊢;rw[zY,zY,decide_eq_true_eq,decide_eq_true_eq] at h;obtain⟨⟨c,b⟩,a⟩:=h;have d:=qdO idF.h w 0;rw[zo,List.all_append,a,decide_eq_true wE,decide_eq_true (by simp only[List.length_singleton];omega)];rfl
theorem qpk{x y:UInt8}(h:x<y)(a b:List UInt8):∀p:List UInt8,Zq (p++x::a) (p++y::b)=true
 |[]=>by
  simp only[QW,Zq,decide_eq_true_eq];exact List.cons_le_cons_iff.2 (.inl h)
 |c::p=>by
  have:=qpk h a b p;simp only[Zq,decide_eq_true_eq] at this;simp only[Qc,Zq,decide_eq_true_eq];exact List.cons_le_cons_iff.2 (.inr ⟨rfl,this⟩)
theorem q0v{k:Nat}(g:k<5)(j w:Nat):Zq (kf (Jq (idN k) j)) (kf (Vx w))=true:=by
 rw[qkH,qkI]
 have e:∃r,ju (idN k).l=53::r:=by
  have:∀k,k<5->(ju (idN k).l).head?=some 53:=wH
  have b:=this k g;cases c:ju (idN k).l with
  |nil=>rw[c] at b;cases b
  |cons a r=>rw[c] at b;injection b with b;exact⟨r,by rw[b]⟩
 obtain⟨r,d⟩:=e;have b:∃r,ju idF.l=102::r:=⟨_,rfl⟩;obtain⟨h,f⟩:=b;unfold kF X2;rw[d,f];simp only[Qc,jX];exact qpk wH _ _ _
theorem qx3{A:List (List UInt8)}{x:List UInt8}(h:∀y,y∈A->Zq y x=true):vN (A++[x])=vN A++[x]:=by
 refine qx2 (qmP _) (List.pairwise_append.2 ⟨qmP A,List.pairwise_singleton _ _,fun a c b d=>?_⟩) ((qhl _).trans ((qhl A).symm.append_right _));rw[List.mem_singleton.1 d];exact h a (sortL_mem.1 c)
theorem qoD:∀(ps pa:List Nat),ps.Nodup->ps.length=pa.length->∃m:Nat->Nat,ps.map m=pa
 |[],[],_,_=>⟨fun _=>0,rfl⟩
 |p::ps,a::pa,h,b=>by
  obtain⟨f,c⟩:=List.nodup_cons.1 h;obtain⟨m,d⟩:=qoD ps pa c wv;refine⟨fun x=>if x=p then a else m x,?_⟩;rw[List.map_cons,if_pos rfl];congr 1;rw[<-d];exact List.map_congr_left fun x hx=>if_neg fun(e:x=p)=>f (e▸hx)
 |[],_::_,_,b=>by simp at b
 |_::_,[],_,b=>by simp at b
theorem q4m{ps a:List Nat}{b:List (List UInt8)}{c d:List UInt8->List UInt8}{x:List UInt8}(e:ps.Nodup)(h:b.length=ps.length)(j:a.length=b.length+1)(hc:∀n,n∈b->d n=c n):∃m p,Xl a (b++[x]) d=(Xl ps b c).map (muF m)++[(p,d x)]:=by
 obtain⟨m,f⟩:=qoD ps (a.take b.length) e wu;obtain⟨p,g⟩:∃p,a.drop b.length=[p]:=List.length_eq_one_iff.1 xA;refine⟨m,p,?_⟩;have i:a=ps.map m++[p]:=by rw[f,<-g,Zy]
 have e2:b.map d=b.map c:=List.map_congr_left hc;unfold Xl;rw[i,List.map_append,List.zip_append xM,e2];congr 1;rw[List.zip_map_left];rfl
theorem q40{fs:List (Nat×List UInt8)}{qs:List SqF}(a:qcA (zW fs) qs){q:SqF}(g:q∈qs){x:Pl}(hx:x∈q.l):∃f,f∈fs/\∃i,i∈zu f.2/\x=J9 f.1 f.2 i:=by
 obtain⟨i,hi⟩:=List.getElem?_of_mem g;have e:=(List.getElem?_eq_some_iff.1 hi).1;have b:(zW fs)[i]?=some ((zW fs)[i]'(by rw[a.1];exact e)):=qM _;obtain⟨-,-,W,c,j⟩:=a.2 i _ q b hi;rw[j] at hx;rcases qin fs [] _ x (j7 b) (c.mem ((qlz W).subset hx)) with⟨q',d,-⟩|h
 .simp at d
 .exact h
theorem qyB{n0 n1:Nat}{K g:qe}{fs a:List (Nat×List UInt8)}(W:FisW n0 K fs)(W2:FisW n1 g a){m:Nat->Nat}{r:List (Nat×List UInt8)}(d:a=fs.map (muF m)++r){qs:List SqF}(c:qcA (zW fs) qs):∀q,q∈qs->∀x:Pl,x∈q.l->Z1 a (muD m x.f) x.i=Z1 fs x.f x.i:=fun q j x hx=>by
 obtain⟨f,b,i,-,rfl⟩:=q40 c j hx;have e:muF m f∈a:=by rw[d];exact Xr _ (List.mem_map.2 ⟨f,b,rfl⟩)
 have h:=qip W b;have e2:=qip W2 e;show qcP (qdG a (m f.1)) _=qcP (qdG fs f.1) _;rw[h];rw[show m f.1=(muF m f).1 from rfl,e2];rfl
theorem qyC{n0:Nat}{K:qe}{fs:List (Nat×List UInt8)}(W:FisW n0 K fs)(d:D)(i:Int):(Z1 fs d i).fields.l.length<=1000000:=by
 have key:∀b:List UInt8,b.length<=1000000->∀i,(qcP b i).fields.l.length<=1000000:=fun b e i=>by
  unfold qcP Ya;simp only[Sl.of_l,List.length_map,qfp];have c:(qN (zD b).l ((zC b).getD i 0)).length<=(zD b).l.length:=by unfold qN;simp only[vg,jc];omega
  have a:(zD b).l.length<=b.length:=by simp[zD];omega
  omega
 unfold Z1;split
 .rename_i p _ _;refine key _ ?_ _;unfold qdG;cases h:fs.find? (fun f=>f.1==p) with
  |none=>simp
  |some f=>exact W.len f (List.mem_of_find?_eq_some h)
 .simp[qgc]
theorem qsF{rf:D->Int->Rec}{l:List SqF}(h:∀d i,(rf d i).fields.l.length<=1000000):∀(n:Nat)(M:List Mk)(x:It),x∈(Zj rf l n M).1->x.rc.fields.l.length<=1000000
 |0,_,x,hx=>by simp[Zj] at hx
 |n+1,M,x,hx=>by
  rw[Zj] at hx;split at hx
  .simp at hx
  .rename_i v _;rcases List.mem_cons.1 hx with rfl|hx
   .unfold Qh;split
    .simp[qgc]
    .exact h _ _
   .exact qsF h n _ x hx
theorem q1m{s:Fs}{k:Nat}(L:LaidM s k)(d:k<=6){j:Nat}{n:Nd}(c:s.nodes[j]?=some n):vW s n.name=0:=by
 by_cases h:vW s n.name=0
 .exact h
 .have a:=qk4 L d c;obtain⟨-,-,b,-⟩:=L.nd j n c;unfold zM at a;rw[if_pos h] at a;rw[<-a] at b;cases b
theorem q6T{s:Fs}{k:Nat}(L:LaidS s k){x:Nd}(hx:x.there=true)(h:∀n,n∈s.nodes->n.name≠x.name)(d:Jy x.name=true):zM {s with nodes:=s.nodes++[x]} x.name=x.b.l:=by
 have a:=qug hx h;have c:Vj {s with nodes:=s.nodes++[x]} x.name=0:=by simp[Vj,L.off,d]
 have qd:vW {s with nodes:=s.nodes++[x]} x.name=0:=by
  unfold vW;rw[c];simp[a]
 unfold zM;rw[qd,if_neg wH];simp[a]
theorem q4n{ps:List Nat}{a:List (List UInt8)}{c:List UInt8->List UInt8}{i p:Nat}{n:List UInt8}(d:ps[i]?=some p)(b:a[i]?=some n):(p,c n)∈Xl ps a c:=by
 refine j7 (i:=i) ?_;unfold Xl;rw[List.getElem?_zip_eq_some];exact⟨d,by simp[b]⟩
theorem q2W{f g:List UInt8->List UInt8}{m:List UInt8}(h:g m=f m):Qi g jY m=Qi f jY m:=by unfold Qi;rw[h]
theorem q3h{f:List UInt8->List UInt8}{z:Nat}(a:z<1000)(h:vf (f (kf (Vx z)))=0):Qi f jY (kf (Vx z))=true:=by
 have b:(Vx z).kind≠4:=by show(3:Int)≠4;decide
 unfold Qi jY;rw[qsT a,h];simp[b]
theorem q3i(z:Nat):(Enc.cells (Vx z):List D)=(.int .i64 3::.int .u8 255::zb8 [.int .u8 0,.int .u8 0,.int .u8 0,.int .u8 0,.int .u8 0,.int .u8 0,.int .u8 0,.int .u64 (z:Nat),.int .u64 0]):=rfl
theorem q00[MaxL](t:Sl ZL)(w:Int)(nil:Bool)(zs:List Int)(qX:nil=true->zs=[])(hz:zs.length<9223372036854775808):call cx 4 [(.vsl t.nil (qt t.l) t.l.length),.int .i64 w,.vsl nil (Zb .i64 zs) zs.length] []=some (.bool true,[]):=by
 refine qC Tryz.func4 rfl ⟨rfl,rfl⟩ ?_;have A:=q4w;obtain⟨_,H,b,rfl,hb⟩:=q0W t 4 wC;replace H:call cx 6 [(.vsl t.nil (qt t.l) t.l.length),.int .i64 4] []=some (.bool b,[]):=H;cases b with
 |false=>simp[Tryz.f4,A,H]
 |true=>
 obtain⟨bD,aT⟩:=hb rfl;have ah:qO Tryz.prog 22 (.vsl t.nil (qt t.l) t.l.length)=some (.int .i64 t.l.length):=wE
 by_cases h0:t.l.length=0
 .have zl:(t.l.length:Int)=0:=by omega
  simp[-qO,Tryz.f4,A,H,ah,zl]
 have zl:((t.l.length:Int)==0)=false:=beq_eq_false_iff_ne.2 wC;obtain⟨_,az,s,hs,rfl⟩:=q01 nil zs qX hz;obtain⟨G,E,v0,av,W0,g,bj⟩:=q1l t.nil t.l t.h wC (fun z bm=>by have:=aT z bm;omega);obtain⟨K1,jx⟩:∃T:qe,([]:qe)++G.map (X1 [] ([]:qe).length)=T:=⟨_,rfl⟩
 have G1:qby (call cx) 7 [(.vsl t.nil (qt t.l) t.l.length),.bool false] []=some (.optr 0 5 0,K1):=by
  rw[q6m (by simp[Yj]) wE av,jx];simp[mv,ZQ]
 obtain⟨v1,W1,bF⟩:∃v1,FSw K1 0 E v1/\v1.pc.length<=24:=⟨_,jx▸q4f [] W0,by rw[q0z];exact bj⟩;have am:=g.b.off;have ba:=g.n;have JM:∀n,n∈E.nodes->n.b.l.length<=1000000:=fun n d=>by have:=(g.b.nd n d).2.1;omega
 have aq:∀n,n∈kZ E->n.length<=1000:=fun m hm=>by
  obtain⟨j,n,K,rfl⟩:=qgt g hm;obtain⟨-,-,-,-,a,ha⟩:=g.nd j n K;rw[ha,qkH,qdO a.h];omega
 obtain⟨T,ps,oD,hD,Lo,Lh,Y,D1⟩:=quT W1 am wC JM aq;obtain⟨N,hN⟩:=ql (vN (kZ E));have Ko:(kZ E).length=N.length:=by rw[<-hN,qx5]
 have bG:N.length=t.l.length:=by rw[<-Ko,qpn g,List.length_map,ba]
 have Zr:∀m,m∈N->m∈kZ E:=fun m hm=>sortL_mem.1 (hN▸hm);rw[hN] at D1;have aS:N.filter (Qi (zM E) jY)=N:=List.filter_eq_self.2 fun m hm=>(qfm g wC (Zr m hm)).1;have aa:=D1.pl;have aV:=D1.oR;have aK:=D1.file;rw[List.take_length,aS] at aa aV aK;obtain⟨fs,S⟩:∃fs,fs=Xl ps N (zM E):=⟨_,rfl⟩;have F:FdsW T oD (ZD N ps) fs:=by rw[S];exact qun aa aV (fun p hp=>⟨D1.pN p hp,fun hc=>(D1.oN p hc).2.2 hp⟩)
 have FW:FisW T.length T fs:=by rw[S];exact quc aK (fun n d=>by have:=(qfm g wC (Zr n d)).2.2.1;omega) D1.pD
 have bt:fs.length=N.length:=by rw[S,qkV aa]
 have good:∀(c:List UInt8->List UInt8)(n:List UInt8),(qG (c n)).ents<=6->(zu (c n)).length<=6:=fun c n h=>zJ (q3U _) h
 have aE:∀f,f∈fs->(zu f.2).length<=6:=fun f hf=>by
  rw[S] at hf;obtain⟨i,n,V,h2,h3⟩:=qcq hf;rw[h3];exact good _ n (qfm g wC (Zr n (j7 h2))).2.2.2
 have YX:∀u,u∈zW fs->u.l.length<40:=fun u hu=>by
  have:=qim (N:=6) fs [] 0 aE (fun q hq=>by simp at hq) u hu;omega
 obtain⟨⟨r,T2⟩,ja,qs,aj,-,hr,x2,bb⟩:=qkr F FW wC YX s hs 300 wC wC;simp only at hr x2 bb;subst hr;obtain⟨v,ZV⟩:=ql ((Zj (Z1 fs) qs 300 s.l).1);rw[ZV] at ja;have bv:v.length<=300:=by rw[<-ZV];exact qvQ _ _
 have aH:∀x,x∈v->x.rc.fields.l.length<=1000000:=by rw[<-ZV];exact qsF (qyC FW) 300 s.l
 have aW:∀j,j∈fs.map (·.1)->K1.length<=j:=fun j K=>by
  obtain⟨f,hf,rfl⟩:=List.mem_map.1 K;rw[S] at hf;obtain⟨i,n,V,-⟩:=qcq hf;exact D1.pH _ (j7 V)
 have W2:=(W1.ext D1.ext (fun _ _=>wE)).ext x2 (fun j K hc=>by have:=aW j hc;have:=W1.lt K;omega);obtain⟨T3,nl,aY,x3,zB⟩:=qtH W2 wC;rw[hN,Ko] at aY;have W3:=W2.ext x3 (fun _ _=>wE)
 have aX:nl=false:=by
  cases nl with
  |false=>rfl
  |true=>have:=zB rfl;rw[this] at Ko;simp at Ko;omega
 subst aX;obtain⟨i,hi,bp⟩:=qfi w N.length wC wC;have kO:i<N.length:=wC
 obtain⟨m,hm⟩:∃m,N[i]?=some m:=⟨_,qM kO⟩;have bo:=j7 hm;have ax:=Zr m bo;have aG:=qfm g wC ax;obtain⟨T4,aU,O,x4,ai⟩:=qtL W3 wC JM m (by have:=aq m ax;omega)
 obtain⟨bk,Xb⟩:vW E m=0/\vf (zM E m)=0:=by
  obtain⟨j,n,K,rfl⟩:=qgt g ax;exact⟨q1m g wC K,by rw[qk4 g wC K];exact(g.nd j n K).2.2.1⟩
 rw[bk] at O;have W4:=W3.ext x4 (fun _ _=>wE);obtain⟨c,hc⟩:=ql (zM E m);rw[hc] at O ai Xb;have qE:c.length<=20000:=by rw[<-hc];exact aG.2.2.1
 obtain⟨z,bA,aC⟩:=qfi w 9 wC wC;have bu:z<9:=wC
 have aO:=qo7 (Vx z) (qsU wC);obtain⟨nm,o⟩:=ql (kf (Vx z));rw[o,q3i] at aO;have C:Jy nm=true:=o▸q3g z;have aL:nm.length<=1000:=by rw[<-o,qkI,zo,qdO idF.h];simp
 have qQ:∀n,n∈E.nodes->n.name≠nm:=fun n d e=>by
  obtain⟨j,K⟩:=List.getElem?_of_mem d;have zp:=(List.getElem?_eq_some_iff.1 K).1;obtain⟨-,-,-,-,a,ha⟩:=g.nd j n K;have V:=qhV a (i:=j) wC;rw[<-ha,e,<-o,qsT wC] at V;injection V with V _;unfold Vx Jq at V;injection V with V;exact absurd V wH
 obtain⟨T5,v5,L,W5,x5,n5,bC⟩:=qtI W4 wC wC JM (by rw[g.b.fuse];omega) nm wC;rw[qoV g.b wC qQ C] at L W5;simp only at L W5;obtain⟨s5,XB⟩:∃x,x=({E with nodes:=E.nodes++[⟨nm,true,Sl.none,Sl.none⟩]}:Fs):=⟨_,rfl⟩;rw[<-XB] at W5
 have bf:∀n,n∈s5.nodes->n.b.l.length<=32768/\n.safe.l.length<=32768:=fun n d=>by
  rw[XB] at d;simp only[jW,qdU] at d;rcases d with d|rfl
  .exact⟨(g.b.nd n d).2.1,(g.b.nd n d).2.2.1⟩
  .simp[Sl.none]
 obtain⟨Z,T6,v6,YU,W6,aQ,x6,n6,bB⟩:=qtE W5 (by rw[XB];simp;omega) bf (by rw[XB];simp only;rw[g.b.fuse];omega) (by rw[XB];simp only;rw[g.b.room];omega) nm wC 0 wC (Sl.mk aU c ai) wJ;simp only at YU aQ;obtain⟨br,x,X,aF,aZ,bz,W⟩:=qmh g.b wC qQ C wC (fun h=>by rw[h] at Xb;cases Xb) XB aQ;rw[br] at YU;replace YU:call cx 20 [.optr 0 5 0,.str nm,.int .i64 0,.vsl aU (qf c) c.length] T5=some (.int .i64 0,T6):=YU;have aB:Z.off=false:=by rw[W];exact am
 have J:kZ Z=kZ E++[nm]:=by rw[W,q0t am aF,X]
 have ao:∀y,y≠nm->zM Z y=zM E y:=fun y U=>by rw[W];exact q6U (fun e=>U (by rw[<-e,X]))
 have Q:zM Z nm=c:=by
  have:=q6T g.b aF (fun n d=>by rw[X];exact qQ n d) (by rw[X];exact C);rw[X,aZ] at this;rw[W];exact this
 have aM:∀y,y∈N->y≠nm:=fun y U e=>by
  obtain⟨j,n,K,e2⟩:=qgt g (Zr y U);exact qQ n (j7 K) (by rw[<-e2,e])
 have M:∀y,y∈N->zM Z y=zM E y:=fun y U=>ao y (aM y U)
 have ay:vN (kZ Z)=N++[nm]:=by
  rw[J,qx3,hN];intro y U;obtain⟨j,n,K,rfl⟩:=qgt g U;obtain⟨k,hk,e⟩:=g.id j n K;rw[e,<-o];exact q0v hk j z
 obtain⟨T7,aI,au,bh,bH,bE,P,D2⟩:=quT W6 aB (by rw[W];simp;omega) (fun n d=>by
  rw[W] at d;simp only[jW,qdU] at d;rcases d with d|rfl
  .exact JM n d
  .rw[aZ];omega) (fun n d=>by
  rw[J] at d;rcases List.mem_append.1 d with d|d
  .exact aq n d
  .rw[List.mem_singleton.1 d];exact aL)
 rw[ay] at D2
 have aA:(N++[nm]).filter (Qi (zM Z) jY)=N++[nm]:=List.filter_eq_self.2 fun y U=>by
  rcases List.mem_append.1 U with U|U
  .rw[q2W (M y U)];exact(qfm g wC (Zr y U)).1
  .rw[List.mem_singleton.1 U,<-o];exact q3h wC (by rw[o,Q];exact Xb)
 have ac:=D2.pl;have aN:=D2.oR;have aJ:=D2.file;rw[List.take_length,aA] at ac aN aJ;obtain⟨mu,p,kB⟩:=q4m (x:=nm) D1.pD aa (by rw[<-ac];simp) M;rw[<-S,Q] at kB;obtain⟨R,I⟩:∃l,l=Xl aI (N++[nm]) (zM Z):=⟨_,rfl⟩
 have c6:∀n,n∈N++[nm]->(zM Z n).length<=20000/\(qG (zM Z n)).ents<=6:=fun n d=>by
  rcases List.mem_append.1 d with d|d
  .rw[M n d];exact(qfm g wC (Zr n d)).2.2
  .rw[List.mem_singleton.1 d,Q,<-hc];exact aG.2.2
 have F2:FdsW T7 au (ZD (N++[nm]) aI) R:=by rw[I];exact qun ac aN (fun p hp=>⟨D2.pN p hp,fun hc=>(D2.oN p hc).2.2 hp⟩)
 have aR:FisW T7.length T7 R:=by rw[I];exact quc aJ (fun n d=>by have:=(c6 n d).1;omega) D2.pD
 have bq:R.length<=5:=by rw[I,qkV ac];simp;omega
 have ae:∀f,f∈R->(zu f.2).length<=6:=fun f hf=>by
  rw[I] at hf;obtain⟨i,n,V,h2,h3⟩:=qcq hf;rw[h3];exact good _ n (c6 n (j7 h2)).2
 have aP:∀u,u∈zW R->u.l.length<40:=fun u hu=>by
  have:=qim (N:=6) R [] 0 ae (fun q hq=>by simp at hq) u hu;omega
 obtain⟨⟨r,T8⟩,B,qs2,ak,-,hr,-,-⟩:=qkr F2 aR wC aP s hs 300 wC wC;simp only at hr;subst hr;rw[<-I] at kB
 have jP:qs2=qs.map (kg mu):=by
  refine qwI (p:=p) (c:=c) ?_ aj (kB▸ak);obtain⟨p1,kC⟩:∃p,ps[i]?=some p:=⟨_,qM wC⟩;exact⟨(p1,zM E m),by rw[S];exact q4n kC hm,hc⟩
 have aw:(Zj (Z1 R) qs2 300 s.l).1=v:=by
  rw[jP,qvP mu (qyB FW aR kB aj) 300 s.l];exact ZV
 rw[aw] at B;have aD:=qx9 v wC aH;replace Y:call cx 8 [.optr 0 5 0] K1=some (.tup [oD,hD,.int .i64 0],T):=Y;replace P:call cx 8 [.optr 0 5 0] T6=some (.tup [au,bh,.int .i64 0],T7):=P;replace ja:call cx 10 [oD,(.vsl s.nil (qt s.l) s.l.length),.int .i64 300] T=some (.vsl (decide (v=[])) (qt v) v.length,T2):=ja;replace B:call cx 10 [au,(.vsl s.nil (qt s.l) s.l.length),.int .i64 300] T7=some (.vsl (decide (v=[])) (qt v) v.length,T8):=B
 have qR:List.drop i (jG N)=.str m::jG (N.drop (i+1)):=by
  unfold jG;obtain⟨V,h2⟩:=List.getElem?_eq_some_iff.1 hm;rw[<-List.map_drop,jo V,h2];rfl
 have bn:qO Tryz.prog 29 (.vsl false (jG N) N.length)=some (.int .i64 N.length):=wE
 have bc:((N.length:Int)==0)=false:=beq_eq_false_iff_ne.2 wC;have bg:=zf (z:Int) (z:Int);have ag:call cx 17 [.int .i64 w,.int .i64 9] []=some (.int .i64 z,[]):=aC;simp[-qd,-qn,-qr,-qJ,-qO,Tryz.f4,A,H,ah,zl,G1,az,Y,ja,aY,bn,bc,bp,qR,kO,O,ag,bg,aO,L,YU,P,B,aD]
theorem q3Q{n:Nat}{cs:List D}(h:Jf Tryz.prog (n+1) 3 cs):∃a:I6,cs=Enc.cells a/\qhR a.v:=by
 obtain⟨x,rfl,w⟩:=qt3 un3 h;exact⟨⟨x⟩,rfl,w⟩
theorem q3P{n:Nat}{cs:List D}(h:Jf Tryz.prog (n+1+1) 23 cs):∃z:ZL,cs=Enc.cells z/\True:=by
 obtain⟨s,rfl,a,b⟩:=qt2 (α:=I6) qmr (fun l=>q3Q) h;exact⟨⟨s⟩,rfl,trivial⟩
end Go.Ev.S
namespace Go.Ev
open Go Go.Proofs
end Go.Ev
namespace Go.Proofs
open Go.Shelf
def Tryz.laysM219_ren:Go.Shelf.Ren:=⟨fun|219=>211|217=>171|225=>251|224=>252|267=>253|266=>212|314=>272|n=>n,fun|9=>9|3=>3|4=>4|5=>5|46=>184|146=>303|51=>50|n=>n,fun|1=>0|n=>n⟩
theorem Tryz.laysM219:Go.Proofs.LaysM.n219 Tryz.prog Tryz.laysM219_ren:={
 mixed:=wF
 f217:=Tryz.func171.trans (congrArg some wF)
 f219:=Tryz.func211.trans (congrArg some wF)
 f224:=Tryz.func252.trans (congrArg some wF)
 f225:=Tryz.func251.trans (congrArg some wF)
 f266:=Tryz.func212.trans (congrArg some wF)
 f267:=Tryz.func253.trans (congrArg some wF)
 f314:=Tryz.func272.trans (congrArg some wF)
 t3:=Tryz.underlying3
 a3:=Tryz.isAgg3
 z3:=Tryz.sizeOf3
 v3:=Tryz.zeroValue3
 t4:=Tryz.underlying4
 a4:=Tryz.isAgg4
 z4:=Tryz.sizeOf4
 v4:=Tryz.zeroValue4
 t5:=Tryz.underlying5
 a5:=Tryz.isAgg5
 z5:=Tryz.sizeOf5
 v5:=Tryz.zeroValue5
 t9:=Tryz.underlying9
 a9:=Tryz.isAgg9
 z9:=Tryz.sizeOf9
 v9:=Tryz.zeroValue9
 t46:=Tryz.underlying184
 a46:=Tryz.isAgg184
 z46:=Tryz.sizeOf184
 v46:=Tryz.zeroValue184
 t51:=Tryz.underlying50
 a51:=Tryz.isAgg50
 z51:=Tryz.sizeOf50
 v51:=Tryz.zeroValue50
 t146:=Tryz.underlying303
 a146:=Tryz.isAgg303
 z146:=Tryz.sizeOf303
 v146:=Tryz.zeroValue303
 g1:=wF
 i3:=wF
 i4:=wF
 i5:=wF
 i9:=wF
 i46:=wF
 i51:=wF
 i146:=wF
 m1:=wF
 s1_3:=fun w h=>Go.Proofs.cell_of_shapedOpen_int (zero:= #[.int .i64 0]) (t:=3) h (of_decide_eq_true wF) wF rfl wF wF Tryz.underlying3}
end Go.Proofs
namespace Go.Proofs.YtglpgdajjpipgaaGreatDoor.mergeTwice
open Go.ChangeShapes Go.WideShapes Go.ChangeAt Go.RowKit
theorem jf0:(Rows.mergeTwiceRow.wf (OpenSpec.ofChange Rows.mergeTwiceSpec))=true:=wF
theorem jf1:(laidOutB Tryz.prog)=true:=wF
theorem jf2:(mapsRowed Tryz.prog)=true:=wF
theorem jf3:(Tryz.f4.params.all (Tryz.prog.readableRec ·))=true:=wF
theorem jf4:(namedTie Tryz.prog Rows.mergeTwiceRow.named Rows.mergeTwiceSpec.vars)=true:=wF
theorem jf5:((Rows.mergeTwiceRow.stops==[]))=true:=wF
theorem jf6:((Tryz.prog.stops==[]))=true:=wF
theorem jf7:((Rows.mergeTwiceRow.knobs==[]))=true:=wF
theorem jf8:((Tryz.prog.stopKnobs==[]))=true:=wF
theorem jf9:((Rows.mergeTwiceRow.inPlace==Tryz.prog.inPlace 4))=true:=wF
theorem q2I:((Rows.mergeTwiceRow.unfollowed==Tryz.prog.unfollowed 4))=true:=wF
theorem q2H:((Rows.mergeTwiceRow.recurses==Tryz.prog.recurses 4))=true:=wF
theorem q2G:((Rows.mergeTwiceRow.named==Tryz.prog.varsNamed 4))=true:=wF
theorem q2F:((Rows.mergeTwiceRow.maps==(Tryz.f4.params.toList++Rows.mergeTwiceSpec.plain.varTypes Tryz.prog).any (Tryz.prog.mapsRec ·)))=true:=wF
theorem q2E:((Rows.mergeTwiceRow.ifaces==(Tryz.f4.params.toList++Rows.mergeTwiceSpec.plain.varTypes Tryz.prog).any (Tryz.prog.ifacesRec ·)))=true:=wF
theorem q2D:((Rows.mergeTwiceRow.mapsOut==Tryz.prog.mapsAmong Tryz.f4.resultTypes.toList))=true:=wF
theorem q2C:((Rows.mergeTwiceRow.loops==(Tryz.f4.params.toList++Rows.mergeTwiceSpec.plain.varTypes Tryz.prog).any (Tryz.prog.loopsFrom ·)))=true:=wF
theorem q2B:((Rows.mergeTwiceRow.wideKeys==(Tryz.f4.params.toList++Rows.mergeTwiceSpec.plain.varTypes Tryz.prog++Tryz.f4.resultTypes.toList).any (Tryz.prog.wideKeysFrom ·)))=true:=wF
theorem q2A:(Rows.mergeTwiceSpec.vars.all (Tryz.prog.varReadable ·))=true:=wF
theorem q29:(Tryz.f4.resultTypes.all (fun t=>Tryz.prog.readableRec t&&decide (t<Tryz.prog.types.size)))=true:=wF
theorem q27:((Rows.mergeTwiceRow.ifacesOut==Tryz.f4.resultTypes.toList.any (Tryz.prog.ifacesRec ·)))=true:=wF
theorem q26:((Rows.mergeTwiceRow.loopsOut==Tryz.f4.resultTypes.toList.any (Tryz.prog.loopsFrom ·)))=true:=wF
theorem q25:((Rows.mergeTwiceRow.plainKeys==Tryz.prog.plainKeys))=true:=wF
theorem q23:(Rows.mergeTwiceRow.shortTexts.isNone)=true:=wF
theorem q22:(Tryz.prog.stopsHeard)=true:=wF
theorem q21:(Tryz.prog.mayEnter)=true:=wF
theorem q2z:((Rows.mergeTwiceRow.lifted==Tryz.prog.liftsFinal))=true:=wF
theorem q2y:((Tryz.prog.make==some Rows.mergeTwiceRow.make))=true:=wF
theorem q2x:((Rows.mergeTwiceRow.kinds==(if Rows.mergeTwiceRow.domain.isEmpty then[] else Tryz.f4.params.toList.map fun t=>match Tryz.prog.underlying t with|some (.int k)=>some k|_=>none)))=true:=wF
theorem q2w:((Rows.mergeTwiceRow.pinned==Rows.mergeTwiceRow.pinnedBy))=true:=wF
theorem q2u:((Rows.mergeTwiceRow.veiled==(Tryz.f4.params.toList++Rows.mergeTwiceSpec.plain.varTypes Tryz.prog++Tryz.f4.resultTypes.toList).any (Tryz.prog.veiledRec ·)))=true:=wF
theorem q2t:(Rows.mergeTwiceRow.veiledFits Tryz.prog Tryz.f4.params.toList (Tryz.f4.params.toList++Rows.mergeTwiceSpec.plain.varTypes Tryz.prog++Tryz.f4.resultTypes.toList))=true:=wF
theorem kE{a b:Bool}(d:a=true)(c:b=true):(a&&b)=true:=by rw[d,c];rfl
theorem q4A:joinedFacts Tryz.prog 4 Tryz.f4 Rows.mergeTwiceSpec Rows.mergeTwiceRow=true:=by
 unfold joinedFacts;exact(kE (kE (kE (kE (kE (kE (kE (kE (kE (kE (kE (kE (kE (kE (kE (kE (kE (kE (kE (kE (kE (kE (kE (kE (kE (kE (kE (kE (kE (kE (kE jf0 jf1) jf2) jf3) jf4) jf5) jf6) jf7) jf8) jf9) q2I) q2H) q2G) q2F) q2E) q2D) q2C) q2B) q2A) q29) q27) q26) q25) q23) q22) q21) q2z) q2y) q2x) q2w) q2u) q2t)
theorem pw:Rows.mergeTwiceRow.wfByText (OpenSpec.ofChange Rows.mergeTwiceSpec)=true:=wF
theorem pm:Tryz.pinned.checked.prog.mainIs=some ((true,Rows.mergeTwiceCard.stood.harness.2).1,(true,Rows.mergeTwiceCard.stood.harness.2).2.toList):=wF
theorem pf:Tryz.prog.funcNamed Tryz.f4.name=some 4:=wF
theorem pl:true=Tryz.prog.looks []:=wF
theorem pa:([22,3,23].all fun u=>!Tryz.prog.wantsStandIn u)=true:=wF
theorem pg:false=Rows.mergeTwiceRow.goesBy Tryz.pinned.checked.prog:=wF
end Go.Proofs.YtglpgdajjpipgaaGreatDoor.mergeTwice
namespace Go.Ev
open Go Go.Proofs Go.ChangeShapes Go.WideShapes Go.ChangeAt Go.RowKit
theorem qje{H:Type}{P:Program}{t:TypeId}{ts:List TypeId}{d:DataW H}{r:List (DataW H)}(h:(DataW.weightsEach P (t::ts) (d::r)).all (fun k=>decide (k<=reachBytes))=true):
  Wok P t d/\(DataW.weightsEach P ts r).all (fun k=>decide (k<=reachBytes))=true:=by
 unfold DataW.weightsEach at h;rw[List.all_append,zY] at h;exact⟨fun k a=>by simpa using List.all_eq_true.1 h.1 k a,h.2⟩
theorem q3R{H:Type}{enc:TypeId×Value->H}{a:Assume}{C:Checked}{os:Os}{f:FuncId}{fn:Func}{s:ChangeSpec}{g:List PathCond}{apart n d h:Bool}{X:World->Array Value->Prop}
  (J:∀(w w':World)(args:Array Value),w.heap=w'.heap->X w args->X w' args)
  (own:ownKnob C.prog.godebug=none) (m:os.Started) (o:C.prog.inits.idxOf? f=none) (u:C.prog.funcs[f]?=some fn)
  (l:∃(w:World)(b:Tape)(i:Input),w.os=os/\(w.forCall b i).Shaped C.prog/\i.vars=[]/\Input.okWide C.prog (w.forCall b i) .any w.heap.size f i/\
   ((s.pre enc C.prog fn g apart (w.forCall b i).memory i.args/\X (w.forCall b i).memory i.args)/\sizedMet enc C.prog fn (OpenSpec.ofChange s) apart (w.forCall b i).memory i.args)/\a.holds C.prog (lone (Frame.enter C.prog f i.args .normal) [] (w.forCall b i)))
  (contract:∀(W:World)(base:Nat)(args:Array Value)(ds r:List (DataW H))(c:List MemPlace),
   (∀(j:Nat) t v,fn.params[j]?=some t->args[j]?=some v->Value.okWide C.prog W .any base t v)->
   DataW.Whole enc C.prog fn.params.toList s.vars apart W args.toList ds r c->(DataW.weightsEach C.prog (fn.params.toList++(OpenSpec.ofChange s).bare.plain.varTypes C.prog) (ds++r)).all (fun k=>decide (k<=reachBytes))=true->X W args->W.ShapedOpen C.prog->
   Calls C.prog f args W fun e B=>∃v,e=.returned v/\s.post enc C.prog fn apart n d h W args v B):
  ReturnsInHanded a C os f .any (fun w args=>(s.pre enc C.prog fn g apart w args/\X w args)/\sizedMet enc C.prog fn (OpenSpec.ofChange s) apart w args) (s.post enc C.prog fn apart n d h):=by
 refine returnsInHanded_of_calls own m o l ?_;intro w b i _ z _ E q _;obtain⟨_,_,_,x,p,_,_,_,_,A⟩:=E;have e:x=fn:=Option.some.inj (p.symm.trans u);subst e;obtain⟨⟨_,hx⟩,I⟩:=q;obtain⟨_,ds,r,c,K,L⟩:=I;have y:=DataW.Whole.of_heap (w':=w.forCall b i) (by rfl) K;refine(contract (w.forCall b i) w.heap.size i.args ds r c A y L (J _ _ _ (by rfl) hx) z).mono fun e B ⟨v,F,G⟩=>?_;subst F;exact ChangeSpec.post_blind G
end Go.Ev
