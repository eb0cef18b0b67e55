import Derived.Test.YtkfojmihnjnhfaaGreatDoorC6
namespace Go.Ev.S
open Go Go.Proofs Go.Ev
theorem orI_u8 (a b:UInt8):orI .u8 (a.toNat:Int) (b.toNat:Int) = ((a ||| b).toNat:Int):=by
 unfold orI
 have h:=(a ||| b).toNat_lt
 have e:(BitVec.ofInt IntKind.u8.bits (a.toNat:Int) ||| BitVec.ofInt IntKind.u8.bits (b.toNat:Int)).toNat = (a ||| b).toNat:=by
  simp [IntKind.bits]
  rfl
 rw [e,wrap_u8]
 omega
theorem lower_ev [MaxL] [TxtC] (c:UInt8):call cx 183 [.int .u8 c.toNat] [] = some (.int .u8 ((c ||| 32).toNat:Int),[]):=by
 have h:=orI_u8 c 32
 have h':orI .u8 (c.toNat:Int) 32 = ((c ||| 32).toNat:Int):=h
 refine call_run Tryz.func183 rfl ⟨rfl,rfl⟩ ?_
 simp [Tryz.f183,h']
theorem all_u8 {p:UInt8→Bool} (h:((List.range 256).all fun k=>p (UInt8.ofNat k)) = true) (c:UInt8):p c = true:=by
 have:=List.all_eq_true.1 h c.toNat (List.mem_range.2 c.toNat_lt)
 rw [UInt8.ofNat_toNat] at this
 exact this
theorem low_lt {c:UInt8} (h:c.toNat < 48):(c ||| 32).toNat < 97:=by
 have:=all_u8 (p:=fun c=>decide (c.toNat < 48) == false || decide ((c ||| 32).toNat < 97)) (by decide +kernel) c
 simpa [h] using this
theorem low_95 {c:UInt8} (h:c.toNat = 95):122 < (c ||| 32).toNat:=by
 simp [h]
def dval (c:UInt8):Option Nat:=if 48≤c.toNat∧c.toNat≤57 then some (c.toNat - 48) else if 97≤(c ||| 32).toNat∧(c ||| 32).toNat≤122 then some ((c ||| 32).toNat - 97+10) else none
def puGo (b:Nat):List UInt8→Nat→Option Nat
 | [],n=>some n
 | c :: l,n=>match dval c with
  | none=>none
  | some d=>if b≤d then none else if 18446744073709551616≤n * b+d then none else puGo b l (n * b+d)
def pu (b:Nat) (s:List UInt8):Option Nat:=if s = [] then none else puGo b s 0
theorem wrap_over {x d:Nat} (hx:x < 18446744073709551616) (hd:d < 16) (h:18446744073709551616≤x+d):IntKind.u64.wrap ((x:Int)+(d:Int)) < (x:Int):=by
 simp only [IntKind.wrap,IntKind.signed,IntKind.bits]
 simp
 omega
theorem puGo_lt (b:Nat):∀ (l:List UInt8) (n v:Nat),n < 18446744073709551616→puGo b l n = some v→v < 18446744073709551616
 | [],n,v,hn,h=>by simp [puGo] at h;omega
 | c :: l,n,v,hn,h=>by
  unfold puGo at h
  split at h
  ·cases h
  ·split at h
   ·cases h
   ·split at h
    ·cases h
    ·exact puGo_lt b l _ v (by omega) h
set_option maxHeartbeats 2000000 in
set_option maxRecDepth 4000 in
theorem pui_ev [MaxL] [TxtC] (b:Nat) (hb:b = 10∨b = 16) (s:List UInt8) (hs:s.length < 4611686018427387904) :
  (∃ n,pu b s = some n∧call cx 157 [.str s,.int .i64 b,.int .i64 64] [] = some (.tup [.int .u64 n,.nili],[])) ∨
  (pu b s = none∧∃ (x:Nat) (c:Int),(c = 1∨c = 2)∧call cx 157 [.str s,.int .i64 b,.int .i64 64] [] = some (.tup [.int .u64 x,.iface 230 (.int .i64 c)],[])):=by
 suffices h:∃ r,call cx 157 [.str s,.int .i64 b,.int .i64 64] [] = some r∧((∃ n,pu b s = some n∧r = (.tup [.int .u64 n,.nili],[]))∨(pu b s = none∧∃ (x:Nat) (c:Int),(c = 1∨c = 2)∧r = (.tup [.int .u64 x,.iface 230 (.int .i64 c)],[]))) by
  obtain ⟨r,h1,⟨n,h2,rfl⟩ | ⟨h2,x,c,h3,rfl⟩⟩:=h
  ·exact .inl ⟨n,h2,h1⟩
  ·exact .inr ⟨h2,x,c,h3,h1⟩
 refine call_runE (fun r=>(∃ n:Nat,pu b s = some n∧r = (D.tup [.int .u64 n,.nili],[]))∨(pu b s = none∧∃ (x:Nat) (c:Int),(c = 1∨c = 2)∧r = (D.tup [.int .u64 x,.iface 230 (.int .i64 c)],[]))) Tryz.func157 rfl ⟨rfl,rfl⟩ ?_
 by_cases h0:s = []
 ·subst h0
  simp [Tryz.f157,pu]
  exact ⟨0,rfl⟩
 ·have hpos:s.length≠0:=by simpa using h0
  have hc2:(2:Int)≤(b:Int):=by omega
  have hc36:(b:Int)≤36:=by omega
  have hbz:¬ (b:Int) = 0:=by omega
  have hmx:IntKind.u64.wrap (IntKind.u64.wrap (2 ^ min 64 IntKind.u64.bits) - 1) = 18446744073709551615:=by decide
  have hpu:pu b s = puGo b s 0:=by rw [pu,if_neg h0]
  rcases hb with rfl | rfl
  ·simp [Tryz.f157,h0,hmx]
   refine Run.loopThen (fun (z:Nat × Nat) e H'=>z.1≤s.length∧z.2 < 18446744073709551616∧puGo 10 (s.drop z.1) z.2 = puGo 10 s 0∧H' = [some (ofBytes s)]∧look e 1 = some (.int .i64 10)∧look e 8 = some (.bool false)∧look e 9 = some (.str s)∧look e 10 = some (.int .u64 1844674407370955162)∧look e 11 = some (.int .u64 18446744073709551615)∧look e 12 = some (.bool false)∧look e 13 = some (.int .u64 (z.2:Nat))∧look e 99 = some (.osl 0 s.length 0 s.length 1)∧look e 100 = some (.int .i64 s.length)∧look e 101 = some (.int .i64 (z.1:Nat))) (fun z=>s.length - z.1) (0,0) (by simp) ?_
   rintro ⟨i,n⟩ e H' ⟨hi,hn,hp,rfl,h1,h8,h9,h10,h11,h12,h13,h99,h100,h101⟩
   simp only at hi hn hp h13 h101
   by_cases hlt:i < s.length
   ·have hlt':(i:Int) < (s.length:Int):=by omega
    have hw:IntKind.i64.wrap ((i:Int)+1) = ((i+1:Nat):Int):=by rw [wrap_i64] <;> omega
    have hc:=lower_ev s[i]
    have hclt:=s[i].toNat_lt
    rw [List.drop_eq_getElem_cons hlt,puGo] at hp
    unfold dval at hp
    by_cases hd:48≤s[i].toNat∧s[i].toNat≤57
    ·rw [if_pos hd] at hp
     have g1:(48:Int)≤(s[i].toNat:Int):=by omega
     have g2:(s[i].toNat:Int)≤57:=by omega
     have g3:¬ (s[i].toNat:Int) = 95:=by omega
     obtain ⟨d,hdd⟩:∃ d,d = s[i].toNat - 48:=⟨_,rfl⟩
     have dw:IntKind.u8.wrap ((s[i].toNat:Int) - 48) = (d:Int):=by rw [wrap_u8] <;> omega
     rw [← hdd] at hp
     simp only at hp
     have hd16:d < 16:=by omega
     have wd:IntKind.u64.wrap (d:Int) = (d:Int):=by rw [wrap_u64];omega
     by_cases hbd:10≤d
     ·have hbd':(10:Int)≤(d:Int):=by omega
      rw [if_pos hbd] at hp
      simp [h1,h8,h9,h10,h11,h12,h13,h99,h100,h101,hlt',ofBytes_at hlt,g1,g2,g3,dw,hbd']
      exact ⟨by rw [hpu];exact hp.symm,0,rfl⟩
     ·have hbd':¬ (10:Int)≤(d:Int):=by omega
      rw [if_neg hbd] at hp
      by_cases hcut:1844674407370955162≤n
      ·have hcut':(1844674407370955162:Int)≤(n:Int):=by omega
       rw [if_pos (by omega)] at hp
       simp [h1,h8,h9,h10,h11,h12,h13,h99,h100,h101,hlt',ofBytes_at hlt,g1,g2,g3,dw,hbd',hcut']
       exact ⟨by rw [hpu];exact hp.symm,18446744073709551615,rfl⟩
      ·have hcut':¬ (1844674407370955162:Int)≤(n:Int):=by omega
       obtain ⟨m,hm⟩:∃ m,m = n * 10:=⟨_,rfl⟩
       have hm64:m < 18446744073709551616:=by omega
       have wm:IntKind.u64.wrap ((n:Int) * 10) = (m:Int):=by rw [wrap_u64] <;> omega
       rw [← hm] at hp
       by_cases hov:18446744073709551616≤m+d
       ·rw [if_pos hov] at hp
        have hx:=wrap_over hm64 (by omega) hov
        generalize hX:IntKind.u64.wrap ((m:Int)+(d:Int)) = X at hx
        simp [h1,h8,h9,h10,h11,h12,h13,h99,h100,h101,hlt',ofBytes_at hlt,g1,g2,g3,dw,hbd',hcut',wd,wm,hX,hx]
        exact ⟨by rw [hpu];exact hp.symm,18446744073709551615,rfl⟩
       ·rw [if_neg hov] at hp
        obtain ⟨q,hq⟩:∃ q,q = m+d:=⟨_,rfl⟩
        have wq:IntKind.u64.wrap ((m:Int)+(d:Int)) = (q:Int):=by rw [wrap_u64] <;> omega
        have hx1:¬ (q:Int) < (m:Int):=by omega
        have hx2:¬ (18446744073709551615:Int) < (q:Int):=by omega
        rw [← hq] at hp
        simp [h1,h8,h9,h10,h11,h12,h13,h99,h100,h101,hlt',ofBytes_at hlt,g1,g2,g3,dw,hbd',hcut',wd,wm,wq,hx1,hx2,hw]
        exact ⟨i+1,by omega,by omega,q,by omega,hp,rfl,by simp⟩
    ·rw [if_neg hd] at hp
     by_cases h48:s[i].toNat < 48
     ·have lw:=low_lt h48
      rw [if_neg (by omega)] at hp
      have g1:¬ (48:Int)≤(s[i].toNat:Int):=by omega
      have g3:¬ (s[i].toNat:Int) = 95:=by omega
      have f1:¬ (97:Int)≤((s[i] ||| 32).toNat:Int):=by omega
      generalize (s[i] ||| 32).toNat = lc at *
      simp only at hp
      simp [h1,h8,h9,h10,h11,h12,h13,h99,h100,h101,hlt',ofBytes_at hlt,g1,g3,hc,f1]
      exact ⟨by rw [hpu];exact hp.symm,0,rfl⟩
     ·have g1:(48:Int)≤(s[i].toNat:Int):=by omega
      have g2:¬ (s[i].toNat:Int)≤57:=by omega
      by_cases g95:s[i].toNat = 95
      ·have lw:=low_95 g95
       rw [if_neg (by omega)] at hp
       have g3:(s[i].toNat:Int) = 95:=by omega
       have f1:(97:Int)≤((s[i] ||| 32).toNat:Int):=by omega
       have f2:¬ ((s[i] ||| 32).toNat:Int)≤122:=by omega
       generalize (s[i] ||| 32).toNat = lc at *
       rw [g3] at hc
       simp only at hp
       simp [h1,h8,h9,h10,h11,h12,h13,h99,h100,h101,hlt',ofBytes_at hlt,g3,hc,f1,f2]
       exact ⟨by rw [hpu];exact hp.symm,0,rfl⟩
      ·have g3:¬ (s[i].toNat:Int) = 95:=by omega
       have lw256:=(s[i] ||| 32).toNat_lt
       generalize (s[i] ||| 32).toNat = lc at *
       by_cases f:97≤lc∧lc≤122
       ·rw [if_pos f] at hp
        have f1:(97:Int)≤(lc:Int):=by omega
        have f2:(lc:Int)≤122:=by omega
        obtain ⟨d0,hd0⟩:∃ d,d = lc - 97:=⟨_,rfl⟩
        obtain ⟨d,hdd⟩:∃ d,d = d0+10:=⟨_,rfl⟩
        have dw1:IntKind.u8.wrap ((lc:Int) - 97) = (d0:Int):=by rw [wrap_u8] <;> omega
        have dw2:IntKind.u8.wrap ((d0:Int)+10) = (d:Int):=by rw [wrap_u8] <;> omega
        rw [← hd0,← hdd] at hp
        simp only at hp
        have hd16:d < 36:=by omega
        have wd:IntKind.u64.wrap (d:Int) = (d:Int):=by rw [wrap_u64];omega
        by_cases hbd:10≤d
        ·have hbd':(10:Int)≤(d:Int):=by omega
         rw [if_pos hbd] at hp
         simp [h1,h8,h9,h10,h11,h12,h13,h99,h100,h101,hlt',ofBytes_at hlt,g1,g2,g3,hc,f1,f2,dw1,dw2,hbd']
         exact ⟨by rw [hpu];exact hp.symm,0,rfl⟩
        ·have hbd':¬ (10:Int)≤(d:Int):=by omega
         rw [if_neg hbd] at hp
         by_cases hcut:1844674407370955162≤n
         ·have hcut':(1844674407370955162:Int)≤(n:Int):=by omega
          rw [if_pos (by omega)] at hp
          simp [h1,h8,h9,h10,h11,h12,h13,h99,h100,h101,hlt',ofBytes_at hlt,g1,g2,g3,hc,f1,f2,dw1,dw2,hbd',hcut']
          exact ⟨by rw [hpu];exact hp.symm,18446744073709551615,rfl⟩
         ·have hcut':¬ (1844674407370955162:Int)≤(n:Int):=by omega
          obtain ⟨m,hm⟩:∃ m,m = n * 10:=⟨_,rfl⟩
          have hm64:m < 18446744073709551616:=by omega
          have wm:IntKind.u64.wrap ((n:Int) * 10) = (m:Int):=by rw [wrap_u64] <;> omega
          rw [← hm] at hp
          by_cases hov:18446744073709551616≤m+d
          ·rw [if_pos hov] at hp
           have hx:=wrap_over hm64 (by omega) hov
           generalize hX:IntKind.u64.wrap ((m:Int)+(d:Int)) = X at hx
           simp [h1,h8,h9,h10,h11,h12,h13,h99,h100,h101,hlt',ofBytes_at hlt,g1,g2,g3,hc,f1,f2,dw1,dw2,hbd',hcut',wd,wm,hX,hx]
           exact ⟨by rw [hpu];exact hp.symm,18446744073709551615,rfl⟩
          ·rw [if_neg hov] at hp
           obtain ⟨q,hq⟩:∃ q,q = m+d:=⟨_,rfl⟩
           have wq:IntKind.u64.wrap ((m:Int)+(d:Int)) = (q:Int):=by rw [wrap_u64] <;> omega
           have hx1:¬ (q:Int) < (m:Int):=by omega
           have hx2:¬ (18446744073709551615:Int) < (q:Int):=by omega
           rw [← hq] at hp
           simp [h1,h8,h9,h10,h11,h12,h13,h99,h100,h101,hlt',ofBytes_at hlt,g1,g2,g3,hc,f1,f2,dw1,dw2,hbd',hcut',wd,wm,wq,hx1,hx2,hw]
           exact ⟨i+1,by omega,by omega,q,by omega,hp,rfl,by simp⟩
       ·rw [if_neg f] at hp
        by_cases f3:97≤lc
        ·have f1:(97:Int)≤(lc:Int):=by omega
         have f2:¬ (lc:Int)≤122:=by omega
         simp only at hp
         simp [h1,h8,h9,h10,h11,h12,h13,h99,h100,h101,hlt',ofBytes_at hlt,g1,g2,g3,hc,f1,f2]
         exact ⟨by rw [hpu];exact hp.symm,0,rfl⟩
        ·have f1:¬ (97:Int)≤(lc:Int):=by omega
         simp only at hp
         simp [h1,h8,h9,h10,h11,h12,h13,h99,h100,h101,hlt',ofBytes_at hlt,g1,g2,g3,hc,f1]
         exact ⟨by rw [hpu];exact hp.symm,0,rfl⟩
   ·have hlt':¬ (i:Int) < (s.length:Int):=by omega
    rw [List.drop_eq_nil_of_le (by omega),puGo] at hp
    simp [h1,h8,h9,h10,h11,h12,h13,h99,h100,h101,hlt']
    exact ⟨n,by rw [hpu];exact hp.symm,rfl⟩
  ·simp [Tryz.f157,h0,hmx]
   refine Run.loopThen (fun (z:Nat × Nat) e H'=>z.1≤s.length∧z.2 < 18446744073709551616∧puGo 16 (s.drop z.1) z.2 = puGo 16 s 0∧H' = [some (ofBytes s)]∧look e 1 = some (.int .i64 16)∧look e 8 = some (.bool false)∧look e 9 = some (.str s)∧look e 10 = some (.int .u64 1152921504606846976)∧look e 11 = some (.int .u64 18446744073709551615)∧look e 12 = some (.bool false)∧look e 13 = some (.int .u64 (z.2:Nat))∧look e 99 = some (.osl 0 s.length 0 s.length 1)∧look e 100 = some (.int .i64 s.length)∧look e 101 = some (.int .i64 (z.1:Nat))) (fun z=>s.length - z.1) (0,0) (by simp) ?_
   rintro ⟨i,n⟩ e H' ⟨hi,hn,hp,rfl,h1,h8,h9,h10,h11,h12,h13,h99,h100,h101⟩
   simp only at hi hn hp h13 h101
   by_cases hlt:i < s.length
   ·have hlt':(i:Int) < (s.length:Int):=by omega
    have hw:IntKind.i64.wrap ((i:Int)+1) = ((i+1:Nat):Int):=by rw [wrap_i64] <;> omega
    have hc:=lower_ev s[i]
    have hclt:=s[i].toNat_lt
    rw [List.drop_eq_getElem_cons hlt,puGo] at hp
    unfold dval at hp
    by_cases hd:48≤s[i].toNat∧s[i].toNat≤57
    ·rw [if_pos hd] at hp
     have g1:(48:Int)≤(s[i].toNat:Int):=by omega
     have g2:(s[i].toNat:Int)≤57:=by omega
     have g3:¬ (s[i].toNat:Int) = 95:=by omega
     obtain ⟨d,hdd⟩:∃ d,d = s[i].toNat - 48:=⟨_,rfl⟩
     have dw:IntKind.u8.wrap ((s[i].toNat:Int) - 48) = (d:Int):=by rw [wrap_u8] <;> omega
     rw [← hdd] at hp
     simp only at hp
     have hd16:d < 16:=by omega
     have wd:IntKind.u64.wrap (d:Int) = (d:Int):=by rw [wrap_u64];omega
     by_cases hbd:16≤d
     ·have hbd':(16:Int)≤(d:Int):=by omega
      rw [if_pos hbd] at hp
      simp [h1,h8,h9,h10,h11,h12,h13,h99,h100,h101,hlt',ofBytes_at hlt,g1,g2,g3,dw,hbd']
      exact ⟨by rw [hpu];exact hp.symm,0,rfl⟩
     ·have hbd':¬ (16:Int)≤(d:Int):=by omega
      rw [if_neg hbd] at hp
      by_cases hcut:1152921504606846976≤n
      ·have hcut':(1152921504606846976:Int)≤(n:Int):=by omega
       rw [if_pos (by omega)] at hp
       simp [h1,h8,h9,h10,h11,h12,h13,h99,h100,h101,hlt',ofBytes_at hlt,g1,g2,g3,dw,hbd',hcut']
       exact ⟨by rw [hpu];exact hp.symm,18446744073709551615,rfl⟩
      ·have hcut':¬ (1152921504606846976:Int)≤(n:Int):=by omega
       obtain ⟨m,hm⟩:∃ m,m = n * 16:=⟨_,rfl⟩
       have hm64:m < 18446744073709551616:=by omega
       have wm:IntKind.u64.wrap ((n:Int) * 16) = (m:Int):=by rw [wrap_u64] <;> omega
       rw [← hm] at hp
       by_cases hov:18446744073709551616≤m+d
       ·rw [if_pos hov] at hp
        have hx:=wrap_over hm64 (by omega) hov
        generalize hX:IntKind.u64.wrap ((m:Int)+(d:Int)) = X at hx
        simp [h1,h8,h9,h10,h11,h12,h13,h99,h100,h101,hlt',ofBytes_at hlt,g1,g2,g3,dw,hbd',hcut',wd,wm,hX,hx]
        exact ⟨by rw [hpu];exact hp.symm,18446744073709551615,rfl⟩
       ·rw [if_neg hov] at hp
        obtain ⟨q,hq⟩:∃ q,q = m+d:=⟨_,rfl⟩
        have wq:IntKind.u64.wrap ((m:Int)+(d:Int)) = (q:Int):=by rw [wrap_u64] <;> omega
        have hx1:¬ (q:Int) < (m:Int):=by omega
        have hx2:¬ (18446744073709551615:Int) < (q:Int):=by omega
        rw [← hq] at hp
        simp [h1,h8,h9,h10,h11,h12,h13,h99,h100,h101,hlt',ofBytes_at hlt,g1,g2,g3,dw,hbd',hcut',wd,wm,wq,hx1,hx2,hw]
        exact ⟨i+1,by omega,by omega,q,by omega,hp,rfl,by simp⟩
    ·rw [if_neg hd] at hp
     by_cases h48:s[i].toNat < 48
     ·have lw:=low_lt h48
      rw [if_neg (by omega)] at hp
      have g1:¬ (48:Int)≤(s[i].toNat:Int):=by omega
      have g3:¬ (s[i].toNat:Int) = 95:=by omega
      have f1:¬ (97:Int)≤((s[i] ||| 32).toNat:Int):=by omega
      generalize (s[i] ||| 32).toNat = lc at *
      simp only at hp
      simp [h1,h8,h9,h10,h11,h12,h13,h99,h100,h101,hlt',ofBytes_at hlt,g1,g3,hc,f1]
      exact ⟨by rw [hpu];exact hp.symm,0,rfl⟩
     ·have g1:(48:Int)≤(s[i].toNat:Int):=by omega
      have g2:¬ (s[i].toNat:Int)≤57:=by omega
      by_cases g95:s[i].toNat = 95
      ·have lw:=low_95 g95
       rw [if_neg (by omega)] at hp
       have g3:(s[i].toNat:Int) = 95:=by omega
       have f1:(97:Int)≤((s[i] ||| 32).toNat:Int):=by omega
       have f2:¬ ((s[i] ||| 32).toNat:Int)≤122:=by omega
       generalize (s[i] ||| 32).toNat = lc at *
       rw [g3] at hc
       simp only at hp
       simp [h1,h8,h9,h10,h11,h12,h13,h99,h100,h101,hlt',ofBytes_at hlt,g3,hc,f1,f2]
       exact ⟨by rw [hpu];exact hp.symm,0,rfl⟩
      ·have g3:¬ (s[i].toNat:Int) = 95:=by omega
       have lw256:=(s[i] ||| 32).toNat_lt
       generalize (s[i] ||| 32).toNat = lc at *
       by_cases f:97≤lc∧lc≤122
       ·rw [if_pos f] at hp
        have f1:(97:Int)≤(lc:Int):=by omega
        have f2:(lc:Int)≤122:=by omega
        obtain ⟨d0,hd0⟩:∃ d,d = lc - 97:=⟨_,rfl⟩
        obtain ⟨d,hdd⟩:∃ d,d = d0+10:=⟨_,rfl⟩
        have dw1:IntKind.u8.wrap ((lc:Int) - 97) = (d0:Int):=by rw [wrap_u8] <;> omega
        have dw2:IntKind.u8.wrap ((d0:Int)+10) = (d:Int):=by rw [wrap_u8] <;> omega
        rw [← hd0,← hdd] at hp
        simp only at hp
        have hd16:d < 36:=by omega
        have wd:IntKind.u64.wrap (d:Int) = (d:Int):=by rw [wrap_u64];omega
        by_cases hbd:16≤d
        ·have hbd':(16:Int)≤(d:Int):=by omega
         rw [if_pos hbd] at hp
         simp [h1,h8,h9,h10,h11,h12,h13,h99,h100,h101,hlt',ofBytes_at hlt,g1,g2,g3,hc,f1,f2,dw1,dw2,hbd']
         exact ⟨by rw [hpu];exact hp.symm,0,rfl⟩
        ·have hbd':¬ (16:Int)≤(d:Int):=by omega
         rw [if_neg hbd] at hp
         by_cases hcut:1152921504606846976≤n
         ·have hcut':(1152921504606846976:Int)≤(n:Int):=by omega
          rw [if_pos (by omega)] at hp
          simp [h1,h8,h9,h10,h11,h12,h13,h99,h100,h101,hlt',ofBytes_at hlt,g1,g2,g3,hc,f1,f2,dw1,dw2,hbd',hcut']
          exact ⟨by rw [hpu];exact hp.symm,18446744073709551615,rfl⟩
         ·have hcut':¬ (1152921504606846976:Int)≤(n:Int):=by omega
          obtain ⟨m,hm⟩:∃ m,m = n * 16:=⟨_,rfl⟩
          have hm64:m < 18446744073709551616:=by omega
          have wm:IntKind.u64.wrap ((n:Int) * 16) = (m:Int):=by rw [wrap_u64] <;> omega
          rw [← hm] at hp
          by_cases hov:18446744073709551616≤m+d
          ·rw [if_pos hov] at hp
           have hx:=wrap_over hm64 (by omega) hov
           generalize hX:IntKind.u64.wrap ((m:Int)+(d:Int)) = X at hx
           simp [h1,h8,h9,h10,h11,h12,h13,h99,h100,h101,hlt',ofBytes_at hlt,g1,g2,g3,hc,f1,f2,dw1,dw2,hbd',hcut',wd,wm,hX,hx]
           exact ⟨by rw [hpu];exact hp.symm,18446744073709551615,rfl⟩
          ·rw [if_neg hov] at hp
           obtain ⟨q,hq⟩:∃ q,q = m+d:=⟨_,rfl⟩
           have wq:IntKind.u64.wrap ((m:Int)+(d:Int)) = (q:Int):=by rw [wrap_u64] <;> omega
           have hx1:¬ (q:Int) < (m:Int):=by omega
           have hx2:¬ (18446744073709551615:Int) < (q:Int):=by omega
           rw [← hq] at hp
           simp [h1,h8,h9,h10,h11,h12,h13,h99,h100,h101,hlt',ofBytes_at hlt,g1,g2,g3,hc,f1,f2,dw1,dw2,hbd',hcut',wd,wm,wq,hx1,hx2,hw]
           exact ⟨i+1,by omega,by omega,q,by omega,hp,rfl,by simp⟩
       ·rw [if_neg f] at hp
        by_cases f3:97≤lc
        ·have f1:(97:Int)≤(lc:Int):=by omega
         have f2:¬ (lc:Int)≤122:=by omega
         simp only at hp
         simp [h1,h8,h9,h10,h11,h12,h13,h99,h100,h101,hlt',ofBytes_at hlt,g1,g2,g3,hc,f1,f2]
         exact ⟨by rw [hpu];exact hp.symm,0,rfl⟩
        ·have f1:¬ (97:Int)≤(lc:Int):=by omega
         simp only at hp
         simp [h1,h8,h9,h10,h11,h12,h13,h99,h100,h101,hlt',ofBytes_at hlt,g1,g2,g3,hc,f1]
         exact ⟨by rw [hpu];exact hp.symm,0,rfl⟩
   ·have hlt':¬ (i:Int) < (s.length:Int):=by omega
    rw [List.drop_eq_nil_of_le (by omega),puGo] at hp
    simp [h1,h8,h9,h10,h11,h12,h13,h99,h100,h101,hlt']
    exact ⟨n,by rw [hpu];exact hp.symm,rfl⟩
end Go.Ev.S
namespace Go.Ev.S
open Go Go.Proofs Go.Ev
theorem clone_ev [MaxL] [TxtC] (s:List UInt8) (h:s.length≤281474976710656):call cx 215 [.str s] [] = some (.str s,[]):=by
 refine call_con ?_
 rw [co215,conClone,if_pos h]
theorem syntax_ev [MaxL] [TxtC] (f s:List UInt8) (h:s.length≤281474976710656):∃ d,call cx 185 [.str f,.str s] [] = some (.vptr d,[]):=by
 have hc:=clone_ev s h
 suffices hh:∃ r,call cx 185 [.str f,.str s] [] = some r∧∃ d,r = (.vptr d,[]) by
  obtain ⟨r,h1,d,rfl⟩:=hh
  exact ⟨d,h1⟩
 refine call_runE (fun r=>∃ d,r = (D.vptr d,[])) Tryz.func185 rfl ⟨rfl,rfl⟩ ?_
 simp [Tryz.f185,hc]
theorem range_ev [MaxL] [TxtC] (f s:List UInt8) (h:s.length≤281474976710656):∃ d,call cx 186 [.str f,.str s] [] = some (.vptr d,[]):=by
 have hc:=clone_ev s h
 suffices hh:∃ r,call cx 186 [.str f,.str s] [] = some r∧∃ d,r = (.vptr d,[]) by
  obtain ⟨r,h1,d,rfl⟩:=hh
  exact ⟨d,h1⟩
 refine call_runE (fun r=>∃ d,r = (D.vptr d,[])) Tryz.func186 rfl ⟨rfl,rfl⟩ ?_
 simp [Tryz.f186,hc]
theorem toerr_ev [MaxL] [TxtC] (f s:List UInt8) (h:s.length≤281474976710656) (b c:Int) (hc:c = 1∨c = 2):∃ d,call cx 158 [.str f,.str s,.int .i64 b,.int .i64 64,.iface 230 (.int .i64 c)] [] = some (.iface 232 (.vptr d),[]):=by
 obtain ⟨d1,h1⟩:=syntax_ev f s h
 obtain ⟨d2,h2⟩:=range_ev f s h
 suffices hh:∃ r,call cx 158 [.str f,.str s,.int .i64 b,.int .i64 64,.iface 230 (.int .i64 c)] [] = some r∧∃ d,r = (.iface 232 (.vptr d),[]) by
  obtain ⟨r,h1,d,rfl⟩:=hh
  exact ⟨d,h1⟩
 refine call_runE (fun r=>∃ d,r = (D.iface 232 (.vptr d),[])) Tryz.func158 rfl ⟨rfl,rfl⟩ ?_
 rcases hc with rfl | rfl
 ·simp [Tryz.f158,h2]
 ·simp [Tryz.f158,h1]
theorem pu_ev [MaxL] [TxtC] (b:Nat) (hb:b = 10∨b = 16) (s:List UInt8) (hs:s.length≤281474976710656) :
  (∃ n,pu b s = some n∧call cx 128 [.str s,.int .i64 b,.int .i64 64] [] = some (.tup [.int .u64 n,.nili],[])) ∨
  (pu b s = none∧∃ (x:Nat) (d:List D),call cx 128 [.str s,.int .i64 b,.int .i64 64] [] = some (.tup [.int .u64 x,.iface 232 (.vptr d)],[])):=by
 rcases pui_ev b hb s (by omega) with ⟨n,h1,h2⟩ | ⟨h1,x,c,hc,h2⟩
 ·refine .inl ⟨n,h1,?_⟩
  refine call_run Tryz.func128 rfl ⟨rfl,rfl⟩ ?_
  simp [Tryz.f128,h2]
 ·obtain ⟨d,hd⟩:=toerr_ev [80,97,114,115,101,85,105,110,116] s hs b c hc
  refine .inr ⟨h1,x,d,?_⟩
  refine call_run Tryz.func128 rfl ⟨rfl,rfl⟩ ?_
  simp [Tryz.f128,h2,hd]
end Go.Ev.S
namespace Go.Ev.S
open Go Go.Proofs Go.Ev
end Go.Ev.S
namespace Go.Ev.S
open Go Go.Proofs Go.Ev
def trimL (p s:List UInt8):List UInt8:=if pre p s then s.drop p.length else s
theorem trim_len (p s:List UInt8):(trimL p s).length≤s.length:=by
 unfold trimL
 split <;> simp
theorem cut_len (sep s:List UInt8):(cutL sep s).1.length≤s.length∧(cutL sep s).2.1.length≤s.length:=by
 unfold cutL
 split
 ·simp
 ·simp
  omega
end Go.Ev.S
namespace Go.Ev.S
open Go Go.Proofs Go.Ev
def lineP (line rest:List UInt8):Option (Nat × List UInt8):=match pu 10 (trimL line (cutL crlf rest).1) with
 | none=>none
 | some v=>some (v,(cutL crlf rest).2.1)
def numbersP (s b:List UInt8):Option (Nat × Nat × Nat):=if pre b s then
 match lineP epochL (s.drop b.length) with
 | none=>none
 | some (x,r1)=>match lineP numberL r1 with
  | none=>none
  | some (y,r2)=>match lineP lengthL r2 with
   | none=>none
   | some (z,_)=>if b ++ numsL x y z = s then some (x,y,z) else none
 else none
theorem hline_ev [MaxL] [TxtC] (rest line:List UInt8) (hr:rest.length < 100000) (hl:line.length < 100) :
  ∃ a f,call cx 127 [.str rest,.str [13,10]] [] = some (.tup [.str a,.str (cutL crlf rest).2.1,.bool f],[])∧call cx 129 [.str a,.str line] [] = some (.str (trimL line a),[]) ∧
   ((∃ v,lineP line rest = some (v,(cutL crlf rest).2.1)∧v < 18446744073709551616∧call cx 128 [.str (trimL line a),.int .i64 10,.int .i64 64] [] = some (.tup [.int .u64 (v:Nat),.nili],[])) ∨
   (lineP line rest = none∧∃ (x:Nat) (d:List D),call cx 128 [.str (trimL line a),.int .i64 10,.int .i64 64] [] = some (.tup [.int .u64 x,.iface 232 (.vptr d)],[]))):=by
 have h1:=cut_ev rest crlf (by omega) (by decide)
 have hc:=cut_len crlf rest
 have h2:=trim_ev (cutL crlf rest).1 line (by omega) (by omega)
 refine ⟨(cutL crlf rest).1,(cutL crlf rest).2.2,h1,h2,?_⟩
 unfold lineP
 have ht:=trim_len line (cutL crlf rest).1
 rcases pu_ev 10 (.inl rfl) (trimL line (cutL crlf rest).1) (by omega) with ⟨v,e1,e2⟩ | ⟨e1,x,d,e2⟩
 ·refine .inl ⟨v,by rw [e1],?_,e2⟩
  unfold pu at e1
  split at e1
  ·cases e1
  ·exact puGo_lt 10 _ _ _ (by decide) e1
 ·exact .inr ⟨by rw [e1],x,d,e2⟩
def numI (r0:List UInt8):Nat→Nat→Nat→Nat→List UInt8→Prop
 | 0,x,y,z,r=>x = 0∧y = 0∧z = 0∧r = r0
 | 1,x,y,z,r=>lineP epochL r0 = some (x,r)∧y = 0∧z = 0
 | 2,x,y,z,r=>z = 0∧∃ r1,lineP epochL r0 = some (x,r1)∧lineP numberL r1 = some (y,r)
 | _,x,y,z,r=>∃ r1 r2,lineP epochL r0 = some (x,r1)∧lineP numberL r1 = some (y,r2)∧lineP lengthL r2 = some (z,r)
set_option maxHeartbeats 2000000 in
theorem numbers_ev [MaxL] [TxtC] (s b:List UInt8) (hs:s.length < 100000) (hb:b.length≤1000) :
  (∃ x y z,numbersP s b = some (x,y,z)∧call cx 84 [.str s,.str b] [] = some (.tup [.agg [.int .u64 (x:Nat),.int .u64 (y:Nat),.int .u64 (z:Nat)],.bool true],[])) ∨
  (numbersP s b = none∧∃ x y z:Nat,call cx 84 [.str s,.str b] [] = some (.tup [.agg [.int .u64 x,.int .u64 y,.int .u64 z],.bool false],[])):=by
 suffices h:∃ r,call cx 84 [.str s,.str b] [] = some r∧((∃ x y z:Nat,numbersP s b = some (x,y,z)∧r = (.tup [.agg [.int .u64 x,.int .u64 y,.int .u64 z],.bool true],[]))∨(numbersP s b = none∧∃ x y z:Nat,r = (.tup [.agg [.int .u64 x,.int .u64 y,.int .u64 z],.bool false],[]))) by
  obtain ⟨r,h1,⟨x,y,z,h2,rfl⟩ | ⟨h2,x,y,z,rfl⟩⟩:=h
  ·exact .inl ⟨x,y,z,h2,h1⟩
  ·exact .inr ⟨h2,x,y,z,h1⟩
 refine call_runE (fun r=>(∃ x y z:Nat,numbersP s b = some (x,y,z)∧r = (D.tup [.agg [.int .u64 x,.int .u64 y,.int .u64 z],.bool true],[]))∨(numbersP s b = none∧∃ x y z:Nat,r = (D.tup [.agg [.int .u64 x,.int .u64 y,.int .u64 z],.bool false],[]))) Tryz.func84 rfl ⟨rfl,rfl⟩ ?_
 have h0:=cutpre_ev s b (by omega) (by omega)
 cases hp:pre b s with
 | false =>
  rw [hp] at h0
  simp [Tryz.f84,h0,numbersP,hp]
  exact ⟨0,rfl⟩
 | true =>
  rw [hp,if_pos rfl] at h0
  have hN:numbersP s b = match lineP epochL (s.drop b.length) with
    | none=>none
    | some (x,r1)=>match lineP numberL r1 with
     | none=>none
     | some (y,r2)=>match lineP lengthL r2 with
      | none=>none
      | some (z,_)=>if b ++ numsL x y z = s then some (x,y,z) else none:=by rw [numbersP,if_pos hp]
  obtain ⟨r0,hr0⟩:∃ r,r = s.drop b.length:=⟨_,rfl⟩
  rw [← hr0] at hN h0
  have hr0l:r0.length≤s.length:=by rw [hr0];simp
  simp [Tryz.f84,h0]
  refine Run.loopThen (fun (q:Nat × Nat × Nat × Nat × List UInt8) e H'=>q.1≤3∧q.2.2.2.2.length≤s.length∧q.2.1 < 18446744073709551616∧q.2.2.1 < 18446744073709551616∧q.2.2.2.1 < 18446744073709551616∧numI r0 q.1 q.2.1 q.2.2.1 q.2.2.2.1 q.2.2.2.2 ∧
   H' = [some [.int .u64 0,.int .u64 0,.int .u64 0],some [.int .u64 (q.2.1:Nat),.int .u64 (q.2.2.1:Nat),.int .u64 (q.2.2.2.1:Nat)],some [.str epochL,.str numberL,.str lengthL]] ∧
   look e 0 = some (.str s)∧look e 1 = some (.str b)∧look e 4 = some (.optr 0 3 0)∧look e 6 = some (.optr 1 3 0)∧look e 7 = some (.str q.2.2.2.2)∧look e 25 = some (.osl 2 3 0 3 1)∧look e 26 = some (.int .i64 3)∧look e 27 = some (.int .i64 (q.1:Nat))) (fun q=>3 - q.1) (0,0,0,0,r0) ?_ ?_
  ·simp [numI,hr0l,epochL,numberL,lengthL]
  rintro ⟨i,x,y,z,r⟩ e H' ⟨hi,hrl,hx,hy,hz,hI,rfl,k0,k1,k4,k6,k7,k25,k26,k27⟩
  simp only at hi hrl hx hy hz hI k7 k27
  have hcut:=cut_len crlf r
  have:i = 0∨i = 1∨i = 2∨i = 3:=by omega
  rcases this with rfl | rfl | rfl | rfl
  ·obtain ⟨rfl,rfl,rfl,rfl⟩:=hI
   obtain ⟨a,f,c1,c2,⟨v,c3,hv,c4⟩ | ⟨c3,xx,d,c4⟩⟩:=hline_ev r epochL (by omega) (by decide)
   ·simp [k0,k1,k4,k6,k7,k25,k26,k27,c1,c2,c4]
    exact ⟨1,by omega,by omega,v,0,0,_,by omega,hv,by omega,by omega,⟨c3,rfl,rfl⟩,⟨rfl,rfl,rfl⟩,rfl,rfl⟩
   ·rw [c3] at hN
    simp [k0,k1,k4,k6,k7,k25,k26,k27,c1,c2,c4]
    exact ⟨hN,0,rfl⟩
  ·obtain ⟨hI1,rfl,rfl⟩:=hI
   obtain ⟨a,f,c1,c2,⟨v,c3,hv,c4⟩ | ⟨c3,xx,d,c4⟩⟩:=hline_ev r numberL (by omega) (by decide)
   ·simp [k0,k1,k4,k6,k7,k25,k26,k27,c1,c2,c4]
    exact ⟨2,by omega,by omega,x,v,0,_,by omega,hx,hv,by omega,⟨rfl,_,hI1,c3⟩,⟨rfl,rfl,rfl⟩,rfl,rfl⟩
   ·rw [hI1] at hN
    simp only [c3] at hN
    simp [k0,k1,k4,k6,k7,k25,k26,k27,c1,c2,c4]
    exact ⟨hN,⟨x,rfl⟩,0,rfl⟩
  ·obtain ⟨rfl,r1,hI1,hI2⟩:=hI
   obtain ⟨a,f,c1,c2,⟨v,c3,hv,c4⟩ | ⟨c3,xx,d,c4⟩⟩:=hline_ev r lengthL (by omega) (by decide)
   ·simp [k0,k1,k4,k6,k7,k25,k26,k27,c1,c2,c4]
    exact ⟨3,by omega,by omega,x,y,v,_,by omega,hx,hy,hv,⟨_,_,hI1,hI2,c3⟩,⟨rfl,rfl,rfl⟩,rfl,rfl⟩
   ·rw [hI1] at hN
    simp only [hI2,c3] at hN
    simp [k0,k1,k4,k6,k7,k25,k26,k27,c1,c2,c4]
    exact ⟨hN,⟨x,rfl⟩,⟨y,rfl⟩,0,rfl⟩
  ·obtain ⟨r1,r2,hI1,hI2,hI3⟩:=hI
   rw [hI1] at hN
   simp only [hI2,hI3] at hN
   have hh:=head_ev b hb x y z hx hy hz
   by_cases he:b ++ numsL x y z = s
   ·rw [if_pos he] at hN
    rw [he] at hh
    simp [k0,k1,k4,k6,k7,k25,k26,k27,hh]
    exact ⟨x,y,z,hN,rfl,rfl,rfl⟩
   ·rw [if_neg he] at hN
    have he':(b ++ numsL x y z == s) = false:=by simpa using he
    generalize b ++ numsL x y z = w at *
    simp [k0,k1,k4,k6,k7,k25,k26,k27,hh,he']
    exact ⟨hN,⟨x,rfl⟩,⟨y,rfl⟩,z,rfl⟩
end Go.Ev.S
namespace Go.Ev.S
open Go Go.Proofs Go.Ev
def stopL:List UInt8:=[13,10,13,10]
def readB (s:List UInt8) (body:List UInt8):List (List UInt8)→Nat→Msg × Int
 | [],_=>(.zero,20)
 | b :: l,k=>match numbersP s b with
  | none=>readB s body l (k+1)
  | some (x,y,z)=>if 65536 < z then (.zero,21) else if body.length < z then (.zero,22) else if z < body.length then (.zero,21) else (⟨k,x,y,.of body⟩,0)
def readP (b:List UInt8) (l:List (List UInt8)):Msg × Int:=if idxN stopL b 0 = -1 then (.zero,22) else readB (b.take ((idxN stopL b 0).toNat+4)) (b.drop ((idxN stopL b 0).toNat+4)) l 0
theorem hbidx_ev [MaxL] [TxtC] (b:Sl UInt8) (hb:b.l.length≤100000):call cx 83 [(.vsl b.nil (ofBytes b.l) b.l.length),.vsl false [.int .u8 13,.int .u8 10,.int .u8 13,.int .u8 10] 4] [] = some (.int .i64 (idxN stopL b.l 0),[]):=by
 refine call_con ?_
 have e:[D.int .u8 13,.int .u8 10,.int .u8 13,.int .u8 10] = ofBytes stopL:=rfl
 rw [co83,e]
 simp only [conBIdx,bytesR_of]
 rw [if_pos ⟨trivial,rfl,by decide,by omega,by decide⟩]
structure StrE where
 s:List UInt8
instance:Enc StrE:=⟨1,fun p=>[.str p.s],fun _=>rfl,fun _=>rfl⟩
set_option maxHeartbeats 2000000 in
theorem hread_ev [MaxL] [TxtC] (b:Sl UInt8) (hb:b.l.length≤90000) (l:List (List UInt8)) (hl:l.length≤3) (hl2:∀ x∈l,x.length≤1000) :
  call cx 48 [(.vsl b.nil (ofBytes b.l) b.l.length),.vsl false (l.map D.str) l.length] [] = some (.tup [.agg (Enc.cells (readP b.l l).1),.int .i64 (readP b.l l).2],[]):=by
 have hi:=hbidx_ev b (by omega)
 refine call_run Tryz.func48 rfl ⟨rfl,rfl⟩ ?_
 unfold readP
 rcases idx_cases stopL b.l 0 with ⟨i,h1,h2,-⟩ | h1
 ·rw [h1] at hi
  rw [h1,if_neg (by omega)]
  have e0:((0+i:Nat):Int).toNat = i:=by omega
  rw [e0]
  have h2':i+4≤b.l.length:=h2
  rw [Nat.zero_add] at hi
  have hi0:¬ (i:Int) < 0:=by omega
  obtain ⟨j,hj⟩:∃ j,j = i+4:=⟨_,rfl⟩
  have hw:IntKind.i64.wrap ((i:Int)+4) = (j:Int):=by rw [wrap_i64] <;> omega
  have g1:(j:Int)≤(b.l.length:Int):=by omega
  have g2:j≤b.l.length:=by omega
  rw [← hj]
  have t1:List.take j (ofBytes b.l) = ofBytes (b.l.take j):=ofBytes_take _ _
  have t2:List.drop j (ofBytes b.l) = ofBytes (b.l.drop j):=ofBytes_drop _ _
  have hsl:(b.l.take j).length = j:=by rw [List.length_take];omega
  have hbl:(b.l.drop j).length = b.l.length - j:=List.length_drop ..
  have hbn:b.nil = false:=by
   cases hn:b.nil with
   | false=>rfl
   | true=>have:=b.h hn;rw [this] at g2;simp at g2;omega
  generalize b.l.take j = s at *
  generalize hbd:b.l.drop j = body at *
  have hbl2:body.length≤90000:=by omega
  have t3:List.take (b.l.length - j) (ofBytes body) = ofBytes body:=List.take_of_length_le (by simp;omega)
  rw [hbn] at hi
  simp [Tryz.f48,hi,hi0,hw,g1,t1,t2,t3,hbn,hsl]
  generalize b.l.length - j = bl at *
  have wb:IntKind.u64.wrap (bl:Int) = (bl:Int):=by rw [wrap_u64];omega
  have ex:∀ k x,l[k]? = some x→(l.map D.str).drop k = .str x :: (l.map D.str).drop (k+1):=fun k x hk=>by
   have hlt:k < l.length:=(List.getElem?_eq_some_iff.1 hk).1
   rw [List.drop_eq_getElem_cons (by simpa using hlt)]
   congr 1
   rw [List.getElem?_eq_getElem hlt] at hk
   simp [Option.some.inj hk]
  refine Run.loopThen (fun (k:Nat) e H'=>k≤l.length∧readB s body (l.drop k) k = readB s body l 0 ∧
   ((H' = [some [.int .i64 0,.int .u64 0,.int .u64 0,.vsl true [] 0],some [.int .u8 13,.int .u8 10,.int .u8 13,.int .u8 10]])∨∃ w,H' = [some [.int .i64 0,.int .u64 0,.int .u64 0,.vsl true [] 0],some [.int .u8 13,.int .u8 10,.int .u8 13,.int .u8 10],w]) ∧
   look e 4 = some (.optr 0 4 0)∧look e 8 = some (.str s)∧look e 9 = some (.vsl false (ofBytes body) bl)∧look e 35 = some (.vsl false (l.map D.str) l.length)∧look e 36 = some (.int .i64 l.length)∧look e 37 = some (.int .i64 k)) (fun k=>l.length - k) 0 ?_ ?_
  ·simp
  rintro k e H' ⟨hk,hr,hH,k4,k8,k9,k35,k36,k37⟩
  by_cases hlt:k < l.length
  ·have hlt':(k:Int) < (l.length:Int):=by omega
   have hx:=ex k l[k] (List.getElem?_eq_getElem hlt)
   have hw2:IntKind.i64.wrap ((k:Int)+1) = ((k+1:Nat):Int):=by rw [wrap_i64] <;> omega
   rw [List.drop_eq_getElem_cons hlt,readB] at hr
   have hcl:=bytesclone_ev (.of body) (by simp;omega)
   simp at hcl
   rw [hbl] at hcl
   rcases numbers_ev s l[k] (by omega) (hl2 _ (List.getElem_mem hlt)) with ⟨x,y,z,n1,n2⟩ | ⟨n1,x,y,z,n2⟩
   ·rw [n1] at hr
    simp only at hr
    rw [← hr,hbl]
    by_cases z1:65536 < z
    ·have z1':(65536:Int) < (z:Int):=by omega
     rcases hH with rfl | ⟨w,rfl⟩ <;> simp [k4,k8,k9,k35,k36,k37,hlt',hx,n2,z1,z1']
     ·rfl
     ·rfl
    ·have z1':¬ (65536:Int) < (z:Int):=by omega
     by_cases z2:bl < z
     ·have z2':(bl:Int) < (z:Int):=by omega
      rcases hH with rfl | ⟨w,rfl⟩ <;> simp [k4,k8,k9,k35,k36,k37,hlt',hx,n2,z1,z1',z2,z2',wb]
      ·rfl
      ·rfl
     ·have z2':¬ (bl:Int) < (z:Int):=by omega
      by_cases z3:z < bl
      ·have z3':(z:Int) < (bl:Int):=by omega
       rcases hH with rfl | ⟨w,rfl⟩ <;> simp [k4,k8,k9,k35,k36,k37,hlt',hx,n2,z1,z1',z2,z2',z3,z3',wb]
       ·rfl
       ·rfl
      ·have z3':¬ (z:Int) < (bl:Int):=by omega
       rcases hH with rfl | ⟨w,rfl⟩ <;> simp [k4,k8,k9,k35,k36,k37,hlt',hx,n2,z1,z1',z2,z2',z3,z3',wb,hcl]
       ·simp [Msg.cells,hbl]
       ·simp [Msg.cells,hbl]
   ·rw [n1] at hr
    simp only at hr
    rcases hH with rfl | ⟨w,rfl⟩ <;> simp [k4,k8,k9,k35,k36,k37,hlt',hx,n2,hw2]
    ·exact ⟨k+1,by omega,by omega,hr,by simp⟩
    ·exact ⟨k+1,by omega,by omega,hr,by simp⟩
  ·have hlt':¬ (k:Int) < (l.length:Int):=by omega
   rw [List.drop_eq_nil_of_le (by omega),readB] at hr
   rw [← hr]
   rcases hH with rfl | ⟨w,rfl⟩ <;> simp [k4,k8,k9,k35,k36,k37,hlt']
   ·rfl
   ·rfl
 ·rw [h1] at hi
  simp [Tryz.f48,hi,h1,Msg.cells,Msg.zero]
end Go.Ev.S
namespace Go.Ev.S
open Go Go.Proofs Go.Ev
theorem readB_kind (s body:List UInt8):∀ (l:List (List UInt8)) (k:Nat),(readB s body l k).2 = 0→∃ i x y z b,i < l.length∧l[i]? = some b∧numbersP s b = some (x,y,z)∧z = body.length∧body.length≤65536∧readB s body l k = (⟨((k+i:Nat):Int),x,y,.of body⟩,0)
 | [],k,h=>by simp [readB] at h
 | b :: l,k,h=>by
  unfold readB at h ⊢
  cases hn:numbersP s b with
  | none =>
   rw [hn] at h
   obtain ⟨i,x,y,z,b',h1,h2,h3,h4,h5,h6⟩:=readB_kind s body l (k+1) h
   exact ⟨i+1,x,y,z,b',by simp;omega,by simpa using h2,h3,h4,h5,by simp only;rw [h6];congr 2;congr 1;omega⟩
  | some v =>
   obtain ⟨x,y,z⟩:=v
   rw [hn] at h
   simp only at h ⊢
   by_cases h1:65536 < z
   ·rw [if_pos h1] at h;simp at h
   ·rw [if_neg h1] at h ⊢
    by_cases h2:body.length < z
    ·rw [if_pos h2] at h;simp at h
    ·rw [if_neg h2] at h ⊢
     by_cases h3:z < body.length
     ·rw [if_pos h3] at h;simp at h
     ·rw [if_neg h3] at h ⊢
      exact ⟨0,x,y,z,b,by simp,by simp,hn,by omega,by omega,by simp⟩
theorem readP_kind {b:List UInt8} {l:List (List UInt8)} (h:(readP b l).2 = 0):∃ i x y,i < l.length∧readP b l = (⟨(i:Int),x,y,(readP b l).1.body⟩,0)∧(readP b l).1.epoch = x∧(readP b l).1.number = y:=by
 unfold readP at h ⊢
 split at h
 ·simp at h
 ·rename_i hh
  rw [if_neg hh]
  obtain ⟨i,x,y,z,b',h1,h2,h3,h4,h5,h6⟩:=readB_kind _ _ l 0 h
  rw [h6,Nat.zero_add]
  exact ⟨i,x,y,h1,rfl,rfl,rfl⟩
def pathOf (k:Int):List UInt8:=if k = 0 then helloL else batchL
def statOf (k:Int):Int:=if k = 0 then 200 else if k = 1 then 400 else 409
def rqL:List (List UInt8):=[beginL helloL,beginL batchL]
def rsL:List (List UInt8):=[statusL 200,statusL 400,statusL 409]
def rdRq (b:List UInt8):Rq × Int:=if (readP b rqL).2 = 0 then (⟨pathOf (readP b rqL).1.kind,(readP b rqL).1.epoch,(readP b rqL).1.number,(readP b rqL).1.body⟩,0) else (⟨[],0,0,.none⟩,(readP b rqL).2)
def rdRs (b:List UInt8):Rs × Int:=if (readP b rsL).2 = 0 then (⟨statOf (readP b rsL).1.kind,(readP b rsL).1.epoch,(readP b rsL).1.number,(readP b rsL).1.body⟩,0) else (⟨0,0,0,.none⟩,(readP b rsL).2)
theorem rdrq_ev [MaxL] [TxtC] (b:Sl UInt8) (hb:b.l.length≤90000):call cx 22 [(.vsl b.nil (ofBytes b.l) b.l.length)] [] = some (.tup [.agg (Enc.cells (rdRq b.l).1),.int .i64 (rdRq b.l).2],[]):=by
 have h:=hread_ev b hb rqL (by decide) (by decide)
 have h1:=begin_ev helloL (by decide)
 have h2:=begin_ev batchL (by decide)
 refine call_run Tryz.func22 rfl ⟨rfl,rfl⟩ ?_
 unfold rdRq
 have e1:List.map D.str rqL = [.str (beginL helloL),.str (beginL batchL)]:=rfl
 have e2:rqL.length = 2:=rfl
 have p1:[47,104,101,108,108,111] = helloL:=rfl
 have p2:[47,98,97,116,99,104] = batchL:=rfl
 rw [e1,e2] at h
 generalize hm:readP b.l rqL = m at *
 by_cases hz:m.2 = 0
 ·obtain ⟨i,x,y,hi,hr,q1,q2⟩:=readP_kind (b:=b.l) (l:=rqL) (by rw [hm];exact hz)
  rw [hm] at hr q1 q2
  obtain ⟨⟨k,x',y',bd⟩,c⟩:=m
  simp only [Prod.mk.injEq,Msg.mk.injEq] at hr hz q1 q2
  obtain ⟨⟨rfl,rfl,rfl,-⟩,rfl⟩:=hr
  have:i = 0∨i = 1:=by rw [e2] at hi;omega
  simp [Msg.cells] at h
  rcases this with rfl | rfl
  ·simp [Tryz.f22,p1,p2,h1,h2,h,pathOf,Rq.cells]
  ·simp [Tryz.f22,p1,p2,h1,h2,h,pathOf,Rq.cells]
 ·simp [Tryz.f22,p1,p2,h1,h2,h,hz,Rq.cells]
theorem rdrs_ev [MaxL] [TxtC] (b:Sl UInt8) (hb:b.l.length≤90000):call cx 21 [(.vsl b.nil (ofBytes b.l) b.l.length)] [] = some (.tup [.agg (Enc.cells (rdRs b.l).1),.int .i64 (rdRs b.l).2],[]):=by
 have h:=hread_ev b hb rsL (by decide) (by decide)
 have h1:=status_ev 200
 have h2:=status_ev 400
 have h3:=status_ev 409
 refine call_run Tryz.func21 rfl ⟨rfl,rfl⟩ ?_
 unfold rdRs
 have e1:List.map D.str rsL = [.str (statusL 200),.str (statusL 400),.str (statusL 409)]:=rfl
 have e2:rsL.length = 3:=rfl
 rw [e1,e2] at h
 generalize hm:readP b.l rsL = m at *
 by_cases hz:m.2 = 0
 ·obtain ⟨i,x,y,hi,hr,q1,q2⟩:=readP_kind (b:=b.l) (l:=rsL) (by rw [hm];exact hz)
  rw [hm] at hr q1 q2
  obtain ⟨⟨k,x',y',bd⟩,c⟩:=m
  simp only [Prod.mk.injEq,Msg.mk.injEq] at hr hz q1 q2
  obtain ⟨⟨rfl,rfl,rfl,-⟩,rfl⟩:=hr
  have:i = 0∨i = 1∨i = 2:=by rw [e2] at hi;omega
  simp [Msg.cells] at h
  rcases this with rfl | rfl | rfl
  ·simp [Tryz.f21,h1,h2,h3,h,statOf,Rs.cells]
  ·simp [Tryz.f21,h1,h2,h3,h,statOf,Rs.cells]
  ·simp [Tryz.f21,h1,h2,h3,h,statOf,Rs.cells]
 ·simp [Tryz.f21,h1,h2,h3,h,hz,Rs.cells]
end Go.Ev.S
namespace Go.Ev.S
open Go Go.Proofs Go.Ev
def numP (s:List UInt8):Option Nat:=if s = []∨20 < s.length∨(s.head? = some 48∧1 < s.length) then none else puGo 10 s 0
end Go.Ev.S
namespace Go.Ev.S
open Go Go.Proofs Go.Ev
theorem dval_dig {k:Nat} (h:k < 10):dval (UInt8.ofNat (48+k)) = some k:=by
 have e:(UInt8.ofNat (48+k)).toNat = 48+k:=UInt8.toNat_ofNat_of_lt' (show 48+k < 256 by omega)
 unfold dval
 rw [if_pos (by rw [e];omega),e]
 congr 1
 omega
theorem puGo_append (b:Nat):∀ (l r:List UInt8) (n:Nat),puGo b (l ++ r) n = match puGo b l n with
  | none=>none
  | some m=>puGo b r m
 | [],r,n=>by simp [puGo]
 | c :: l,r,n=>by
  simp only [List.cons_append,puGo]
  cases dval c with
  | none=>rfl
  | some d =>
   simp only
   split
   ·rfl
   ·split
    ·rfl
    ·exact puGo_append b l r _
theorem puGo_decF:∀ (f v:Nat),v < 10 ^ f→1≤f→v < 18446744073709551616→puGo 10 (decF f v) 0 = some v
 | f+1,v,h,_,h64=>by
  rw [decF]
  by_cases hv:v < 10
  ·rw [if_pos hv]
   simp only [puGo,dval_dig hv]
   rw [if_neg (by omega),if_neg (by omega)]
   congr 1
   omega
  ·rw [if_neg hv,puGo_append]
   have hf:1≤f:=by
    rcases f with _ | f
    ·simp at h;omega
    ·omega
   rw [puGo_decF f (v / 10) (by rw [Nat.pow_succ] at h;omega) hf (by omega)]
   simp only [puGo,dval_dig (Nat.mod_lt v (by decide:10 > 0))]
   rw [if_neg (by omega),if_neg (by omega)]
   congr 1
   omega
theorem decF_head:∀ (f v:Nat),v < 10 ^ f→(decF f v).head? = some 48→v = 0∧(decF f v).length≤1
 | 0,v,_,h=>by simp [decF] at h
 | f+1,v,hv,h=>by
  rw [decF] at h ⊢
  by_cases h10:v < 10
  ·rw [if_pos h10] at h ⊢
   simp only [List.head?_cons,Option.some.injEq] at h
   have:=congrArg UInt8.toNat h
   rw [UInt8.toNat_ofNat_of_lt' (show 48+v < 256 by omega)] at this
   simp at this
   exact ⟨by omega,by simp⟩
  ·rw [if_neg h10] at h
   exfalso
   rcases f with _ | f
   ·simp at hv;omega
   ·have hp:v / 10 < 10 ^ (f+1):=by rw [Nat.pow_succ] at hv;omega
    have hne:decF (f+1) (v / 10)≠[]:=by
     rw [decF]
     split <;> simp
    have h':(decF (f+1) (v / 10)).head? = some 48:=by
     obtain ⟨a,l,hal⟩:=List.exists_cons_of_ne_nil hne
     rw [hal] at h ⊢
     exact h
    have:=(decF_head (f+1) (v / 10) hp h').1
    omega
theorem num_dec {v:Nat} (h:v < 18446744073709551616):numP (dec v) = some v:=by
 have h1:=dec_pos v
 have h2:=dec_len v
 have h3:=decF_head 20 v (Nat.lt_trans h (by decide))
 unfold numP
 rw [if_neg]
 ·exact puGo_decF 20 v (Nat.lt_trans h (by decide)) (by decide) h
 ·rintro (e | e | ⟨e1,e2⟩)
  ·rw [e] at h1;simp at h1
  ·omega
  ·have:=(h3 e1).2
   unfold dec at e2
   omega
end Go.Ev.S
namespace Go.Ev.S
open Go Go.Proofs Go.Ev
theorem turn_at [MaxL] [TxtC] {x r:Int} {k:Nat} (hk:k < 32) (e:rolI x k = r) {kk:Int} (hkk:kk = k):call cx 223 [.int .u32 x,.int .u64 kk] [] = some (.int .u32 r,[]):=by
 rw [hkk,← e]
 have hw2:IntKind.u64.wrap (32 - (k:Int)) = ((32 - k:Nat):Int):=by rw [wrap_u64] <;> omega
 have m1:min k 32 = k:=by omega
 have hn:¬ (k:Int) < 0:=by omega
 refine call_run Tryz.func223 rfl ⟨rfl,rfl⟩ ?_
 unfold rolI
 obtain ⟨j,hj⟩:∃ j,j = 32 - k:=⟨_,rfl⟩
 rw [← hj] at hw2 ⊢
 have m2:min j 32 = j:=by omega
 have hn2:¬ (j:Int) < 0:=by omega
 simp [Tryz.f223,hw2,IntKind.bits,m1,m2,hn,hn2]
theorem bits32:2 ^ IntKind.u32.bits = 4294967296:=by simp only [IntKind.bits]
theorem word_step (x y:Nat) (hy:y < 256) (hx:x * 256+y < 4294967296):orI .u32 ((x:Int) * 256) (y:Int) = ((x * 256+y:Nat):Int):=by
 have e3:x * 256 < 2 ^ IntKind.u32.bits:=Nat.lt_of_lt_of_eq (Nat.lt_of_le_of_lt (Nat.le_add_right _ _) hx) bits32.symm
 have e4:y < 2 ^ IntKind.u32.bits:=Nat.lt_of_lt_of_eq (Nat.lt_of_lt_of_le hy (by decide)) bits32.symm
 have e1:(x:Int) * 256 = ((x * 256:Nat):Int):=by omega
 rw [e1,orI_nat rfl e3 e4,or_shl x y hy]
set_option maxHeartbeats 1000000 in
theorem word_ev [MaxL] [TxtC] (nl:Bool) (l:List UInt8) (hnl:nl = true→l = []) (a:Nat) (ha:a < 5611686018427387904) (_:l.length < 4611686018427387904) {at_:Int} (hat:at_ = a):call cx 222 [.vsl nl (ofBytes l) l.length,.int .i64 at_] [] = some (.int .u32 (wordL l a:Nat),[]):=by
 subst hat
 refine call_run Tryz.func222 rfl ⟨rfl,rfl⟩ ?_
 simp [Tryz.f222]
 refine Run.loopThen (fun (k:Nat) e H=>k≤4∧H = []∧look e 0 = some (.vsl nl (ofBytes l) l.length)∧look e 1 = some (.int .i64 a)∧look e 5 = some (.int .u32 (leN ((l.drop (a+k)).take (4 - k)):Nat))∧look e 6 = some (.int .i64 ((k:Int) - 1))) (fun k=>k) 4 (by simp [leN]) ?_
 rintro k e H ⟨hk,rfl,h0,h1,h5,h6⟩
 cases k with
 | zero =>
  simp [h0,h1,h5,h6]
  rfl
 | succ j =>
  have hj:(0:Int)≤(j:Int):=by omega
  have e1:((j+1:Nat):Int) - 1 = (j:Int):=by omega
  rw [e1] at h6
  have hwk:IntKind.i64.wrap ((j:Int) - 1) = (j:Int) - 1:=by rw [wrap_i64];omega
  have hwj:IntKind.i64.wrap ((a:Int)+(j:Int)) = ((a+j:Nat):Int):=by rw [wrap_i64] <;> omega
  have hp8:(2:Int) ^ min 8 IntKind.u32.bits = 256:=by decide
  have hn8:leN ((l.drop (a+(j+1))).take (4 - (j+1))) < 256 ^ 3:=by
   refine Nat.lt_of_lt_of_le (leN_lt _) (Nat.pow_le_pow_right (by decide) ?_)
   rw [List.length_take]
   omega
  obtain ⟨v,hv⟩:∃ v,leN ((l.drop (a+(j+1))).take (4 - (j+1))) = v:=⟨_,rfl⟩
  rw [hv] at h5 hn8
  have hwv:IntKind.u32.wrap ((v:Int) * 256) = (v:Int) * 256:=by rw [wrap_u32] <;> omega
  by_cases hlt:a+j < l.length
  ·have hlt':((a+j:Nat):Int) < (l.length:Int):=by omega
   have hnn:nl = false:=by
    cases hq:nl with
    | false=>rfl
    | true=>rw [hnl hq] at hlt;simp at hlt
   have hd:(l.drop (a+j)).take (4 - j) = l[a+j] :: (l.drop (a+(j+1))).take (4 - (j+1)):=by
    rw [List.drop_eq_getElem_cons hlt,show 4 - j = (4 - (j+1))+1 by omega,List.take_succ_cons,Nat.add_assoc]
   have hb:=l[a+j].toNat_lt
   have hst:=word_step v l[a+j].toNat hb (by omega)
   have hwu:IntKind.u32.wrap (l[a+j].toNat:Int) = (l[a+j].toNat:Int):=by rw [wrap_u32];omega
   have g1:(0:Int)≤(a:Int)+(j:Int):=by omega
   have g2:(a:Int)+(j:Int) < (l.length:Int):=by omega
   have g3:((a:Int)+(j:Int)).toNat = a+j:=by omega
   have hat:=ofBytes_at hlt
   simp [h0,h1,h5,h6,hj,hwj,hwk,hwu,hnn,g1,g2,g3,hat,hp8,hwv,hst]
   exact ⟨j,by omega,by omega,by rw [hd,leN,hv];omega,rfl⟩
  ·have hlt':¬ ((a+j:Nat):Int) < (l.length:Int):=by omega
   have g2:¬ (a:Int)+(j:Int) < (l.length:Int):=by omega
   have hv0:v = 0:=by
    rw [← hv,List.drop_eq_nil_of_le (by omega)]
    simp [leN]
   subst hv0
   simp [h0,h1,h5,h6,hj,hwj,hwk,g2,hp8]
   exact ⟨j,by omega,by omega,by rw [List.drop_eq_nil_of_le (by omega)];simp [leN],rfl⟩
theorem wordL_drop (l:List UInt8) (a k:Nat):wordL (l.drop a) k = wordL l (a+k):=by
 unfold wordL
 rw [List.drop_drop]
set_option maxHeartbeats 4000000 in
set_option maxRecDepth 4000 in
theorem rlookup_ev [MaxL] [TxtC] (s:Sl UInt8) (hs:s.l.length < 4611686018427387904):call cx 194 [(.vsl s.nil (ofBytes s.l) s.l.length)] [] = some (.int .u64 (lookN s.l),[]):=by
 refine call_run Tryz.func194 rfl ⟨rfl,rfl⟩ ?_
 have hN:lookN s.l = lookR s.l (add32 3735928559 (IntKind.u32.wrap (s.l.length:Nat)),add32 3735928559 (IntKind.u32.wrap (s.l.length:Nat)),add32 3735928559 (IntKind.u32.wrap (s.l.length:Nat))):=rfl
 obtain ⟨n,hn⟩:∃ n,IntKind.u32.wrap (3735928559+IntKind.u32.wrap (s.l.length:Nat)) = n:=⟨_,rfl⟩
 have hn2:add32 3735928559 (IntKind.u32.wrap (s.l.length:Nat)) = n:=hn
 rw [hn2] at hN
 clear hn2
 have hp64:(2:Int) ^ min 32 IntKind.u64.bits = 4294967296:=by decide
 generalize lookN s.l = res at *
 by_cases h0:s.l.length = 0
 ·have h0':(s.l.length:Int) = 0:=by omega
  rw [lookR_nil h0] at hN
  subst hN
  rw [h0] at hn
  replace hn:IntKind.u32.wrap (3735928559+IntKind.u32.wrap (0:Int)) = n:=hn
  have hn0:n = 3735928559:=by rw [← hn];decide
  subst hn0
  simp [Tryz.f194,h0,outT,hp64]
 have h0':¬ (s.l.length:Int) = 0:=by omega
 simp [Tryz.f194,hn,h0]
 refine Run.loopThen (fun (q:Nat × Int × Int × Int) e H'=>q.1 < s.l.length∧lookR (s.l.drop q.1) q.2 = res∧look e 0 = some (.vsl s.nil (ofBytes s.l) s.l.length)∧look e 3 = some (.int .u32 q.2.1)∧look e 4 = some (.int .u32 q.2.2.1)∧look e 5 = some (.int .u32 q.2.2.2)∧look e 6 = some (.int .i64 q.1)∧H' = []) (fun q=>s.l.length - q.1) (0,n,n,n) ?_ ?_
 ·simp [hN]
  omega
 rintro ⟨at_,x,y,z⟩ e H' ⟨hat,hR,k0,k3,k4,k5,k6,rfl⟩
 simp only at hat hR k3 k4 k5 k6
 have hsub:IntKind.i64.wrap ((s.l.length:Int) - (at_:Int)) = ((s.l.length - at_:Nat):Int):=by rw [wrap_i64] <;> omega
 have hdl:(s.l.drop at_).length = s.l.length - at_:=List.length_drop
 by_cases h12:12 < s.l.length - at_
 ·have h12':(12:Int) < ((s.l.length - at_:Nat):Int):=by omega
  rw [lookR_more (by omega),List.drop_drop] at hR
  have w0:=word_ev s.nil s.l s.h (at_+0) (by omega) hs (at_:=(at_:Int)) (by omega)
  obtain ⟨x0,p0⟩:∃ v,add32 x (wordL s.l (at_+0):Nat) = v:=⟨_,rfl⟩
  have w4:=word_ev s.nil s.l s.h (at_+4) (by omega) hs (at_:=(at_:Int)+4) (by omega)
  obtain ⟨y0,p4⟩:∃ v,add32 y (wordL s.l (at_+4):Nat) = v:=⟨_,rfl⟩
  have w8:=word_ev s.nil s.l s.h (at_+8) (by omega) hs (at_:=(at_:Int)+8) (by omega)
  obtain ⟨z0,p8⟩:∃ v,add32 z (wordL s.l (at_+8):Nat) = v:=⟨_,rfl⟩
  have ha:addT (s.l.drop at_) (x,y,z) = (x0,y0,z0):=by simp only [addT,wordL_drop,p0,p4,p8]
  have c0:IntKind.u32.wrap (x+(wordL s.l (at_+0):Nat)) = x0:=p0
  generalize wordL s.l (at_+0) = u0 at *
  have c4:IntKind.u32.wrap (y+(wordL s.l (at_+4):Nat)) = y0:=p4
  generalize wordL s.l (at_+4) = u4 at *
  have c8:IntKind.u32.wrap (z+(wordL s.l (at_+8):Nat)) = z0:=p8
  generalize wordL s.l (at_+8) = u8 at *
  clear p0 p4 p8
  have i4:IntKind.i64.wrap ((at_:Int)+4) = (at_:Int)+4:=by rw [wrap_i64] <;> omega
  have i8:IntKind.i64.wrap ((at_:Int)+8) = (at_:Int)+8:=by rw [wrap_i64] <;> omega
  rw [ha] at hR
  obtain ⟨a1,h1⟩:∃ v,sub32 x0 z0 = v:=⟨_,rfl⟩
  have e0:IntKind.u32.wrap (x0 - z0) = a1:=h1
  obtain ⟨r0,q0⟩:∃ v,rolI z0 4 = v:=⟨_,rfl⟩
  have e1:=turn_at (by omega) q0 (kk:=4) rfl
  obtain ⟨x1,f0⟩:∃ v,xorI .u32 a1 r0 = v:=⟨_,rfl⟩
  have h2:xorI .u32 a1 (rolI z0 4) = x1:=by rw [q0];exact f0
  obtain ⟨z1,h3⟩:∃ v,add32 z0 y0 = v:=⟨_,rfl⟩
  have e2:IntKind.u32.wrap (z0+y0) = z1:=h3
  obtain ⟨a2,h4⟩:∃ v,sub32 y0 x1 = v:=⟨_,rfl⟩
  have e3:IntKind.u32.wrap (y0 - x1) = a2:=h4
  obtain ⟨r1,q1⟩:∃ v,rolI x1 6 = v:=⟨_,rfl⟩
  have e4:=turn_at (by omega) q1 (kk:=6) rfl
  obtain ⟨y1,f1⟩:∃ v,xorI .u32 a2 r1 = v:=⟨_,rfl⟩
  have h5:xorI .u32 a2 (rolI x1 6) = y1:=by rw [q1];exact f1
  obtain ⟨x2,h6⟩:∃ v,add32 x1 z1 = v:=⟨_,rfl⟩
  have e5:IntKind.u32.wrap (x1+z1) = x2:=h6
  obtain ⟨a3,h7⟩:∃ v,sub32 z1 y1 = v:=⟨_,rfl⟩
  have e6:IntKind.u32.wrap (z1 - y1) = a3:=h7
  obtain ⟨r2,q2⟩:∃ v,rolI y1 8 = v:=⟨_,rfl⟩
  have e7:=turn_at (by omega) q2 (kk:=8) rfl
  obtain ⟨z2,f2⟩:∃ v,xorI .u32 a3 r2 = v:=⟨_,rfl⟩
  have h8:xorI .u32 a3 (rolI y1 8) = z2:=by rw [q2];exact f2
  obtain ⟨y2,h9⟩:∃ v,add32 y1 x2 = v:=⟨_,rfl⟩
  have e8:IntKind.u32.wrap (y1+x2) = y2:=h9
  obtain ⟨a4,g1⟩:∃ v,sub32 x2 z2 = v:=⟨_,rfl⟩
  have e9:IntKind.u32.wrap (x2 - z2) = a4:=g1
  obtain ⟨r3,q3⟩:∃ v,rolI z2 16 = v:=⟨_,rfl⟩
  have e10:=turn_at (by omega) q3 (kk:=16) rfl
  obtain ⟨x3,f3⟩:∃ v,xorI .u32 a4 r3 = v:=⟨_,rfl⟩
  have g2:xorI .u32 a4 (rolI z2 16) = x3:=by rw [q3];exact f3
  obtain ⟨z3,g3⟩:∃ v,add32 z2 y2 = v:=⟨_,rfl⟩
  have e11:IntKind.u32.wrap (z2+y2) = z3:=g3
  obtain ⟨a5,g4⟩:∃ v,sub32 y2 x3 = v:=⟨_,rfl⟩
  have e12:IntKind.u32.wrap (y2 - x3) = a5:=g4
  obtain ⟨r4,q4⟩:∃ v,rolI x3 19 = v:=⟨_,rfl⟩
  have e13:=turn_at (by omega) q4 (kk:=19) rfl
  obtain ⟨y3,f4⟩:∃ v,xorI .u32 a5 r4 = v:=⟨_,rfl⟩
  have g5:xorI .u32 a5 (rolI x3 19) = y3:=by rw [q4];exact f4
  obtain ⟨x4,g6⟩:∃ v,add32 x3 z3 = v:=⟨_,rfl⟩
  have e14:IntKind.u32.wrap (x3+z3) = x4:=g6
  obtain ⟨a6,g7⟩:∃ v,sub32 z3 y3 = v:=⟨_,rfl⟩
  have e15:IntKind.u32.wrap (z3 - y3) = a6:=g7
  obtain ⟨r5,q5⟩:∃ v,rolI y3 4 = v:=⟨_,rfl⟩
  have e16:=turn_at (by omega) q5 (kk:=4) rfl
  obtain ⟨z4,f5⟩:∃ v,xorI .u32 a6 r5 = v:=⟨_,rfl⟩
  have g8:xorI .u32 a6 (rolI y3 4) = z4:=by rw [q5];exact f5
  obtain ⟨y4,g9⟩:∃ v,add32 y3 x4 = v:=⟨_,rfl⟩
  have e17:IntKind.u32.wrap (y3+x4) = y4:=g9
  have hm:=mix_at h1 h2 h3 h4 h5 h6 h7 h8 h9 g1 g2 g3 g4 g5 g6 g7 g8 g9
  rw [hm] at hR
  clear g9 g8 g7 g6 g5 g4 g3 g2 g1 h9 h8 h7 h6 h5 h4 h3 h2 h1 hm q0 q1 q2 q3 q4 q5
  have i12:IntKind.i64.wrap ((at_:Int)+12) = ((at_+12:Nat):Int):=by rw [wrap_i64] <;> omega
  clear ha hN
  generalize hjj:s.l.length - at_ = j at *
  simp [k0,k3,k4,k5,k6,hsub,h12',i12,w0,w4,w8,c0,c4,c8,i4,i8,e0,e1,f0,e2,e3,e4,f1,e5,e6,e7,f2,e8,e9,e10,f3,e11,e12,e13,f4,e14,e15,e16,f5,e17]
  exact ⟨at_+12,by omega,by omega,_,_,_,hR,by omega,rfl,rfl,by omega⟩
 ·have h12':¬ (12:Int) < ((s.l.length - at_:Nat):Int):=by omega
  have w0:=word_ev s.nil s.l s.h (at_+0) (by omega) hs (at_:=(at_:Int)) (by omega)
  obtain ⟨x0,p0⟩:∃ v,add32 x (wordL s.l (at_+0):Nat) = v:=⟨_,rfl⟩
  have w4:=word_ev s.nil s.l s.h (at_+4) (by omega) hs (at_:=(at_:Int)+4) (by omega)
  obtain ⟨y0,p4⟩:∃ v,add32 y (wordL s.l (at_+4):Nat) = v:=⟨_,rfl⟩
  have w8:=word_ev s.nil s.l s.h (at_+8) (by omega) hs (at_:=(at_:Int)+8) (by omega)
  obtain ⟨z0,p8⟩:∃ v,add32 z (wordL s.l (at_+8):Nat) = v:=⟨_,rfl⟩
  have ha:addT (s.l.drop at_) (x,y,z) = (x0,y0,z0):=by simp only [addT,wordL_drop,p0,p4,p8]
  have c0:IntKind.u32.wrap (x+(wordL s.l (at_+0):Nat)) = x0:=p0
  generalize wordL s.l (at_+0) = u0 at *
  have c4:IntKind.u32.wrap (y+(wordL s.l (at_+4):Nat)) = y0:=p4
  generalize wordL s.l (at_+4) = u4 at *
  have c8:IntKind.u32.wrap (z+(wordL s.l (at_+8):Nat)) = z0:=p8
  generalize wordL s.l (at_+8) = u8 at *
  clear p0 p4 p8
  have i4:IntKind.i64.wrap ((at_:Int)+4) = (at_:Int)+4:=by rw [wrap_i64] <;> omega
  have i8:IntKind.i64.wrap ((at_:Int)+8) = (at_:Int)+8:=by rw [wrap_i64] <;> omega
  obtain ⟨a1,h1⟩:∃ v,xorI .u32 z0 y0 = v:=⟨_,rfl⟩
  obtain ⟨r0,q0⟩:∃ v,rolI y0 14 = v:=⟨_,rfl⟩
  have e1:=turn_at (by omega) q0 (kk:=14) rfl
  obtain ⟨z1,f0⟩:∃ v,sub32 a1 r0 = v:=⟨_,rfl⟩
  have d0:IntKind.u32.wrap (a1 - r0) = z1:=f0
  have h2:sub32 a1 (rolI y0 14) = z1:=by rw [q0];exact f0
  obtain ⟨a2,h3⟩:∃ v,xorI .u32 x0 z1 = v:=⟨_,rfl⟩
  obtain ⟨r1,q1⟩:∃ v,rolI z1 11 = v:=⟨_,rfl⟩
  have e3:=turn_at (by omega) q1 (kk:=11) rfl
  obtain ⟨x1,f1⟩:∃ v,sub32 a2 r1 = v:=⟨_,rfl⟩
  have d1:IntKind.u32.wrap (a2 - r1) = x1:=f1
  have h4:sub32 a2 (rolI z1 11) = x1:=by rw [q1];exact f1
  obtain ⟨a3,h5⟩:∃ v,xorI .u32 y0 x1 = v:=⟨_,rfl⟩
  obtain ⟨r2,q2⟩:∃ v,rolI x1 25 = v:=⟨_,rfl⟩
  have e5:=turn_at (by omega) q2 (kk:=25) rfl
  obtain ⟨y1,f2⟩:∃ v,sub32 a3 r2 = v:=⟨_,rfl⟩
  have d2:IntKind.u32.wrap (a3 - r2) = y1:=f2
  have h6:sub32 a3 (rolI x1 25) = y1:=by rw [q2];exact f2
  obtain ⟨a4,h7⟩:∃ v,xorI .u32 z1 y1 = v:=⟨_,rfl⟩
  obtain ⟨r3,q3⟩:∃ v,rolI y1 16 = v:=⟨_,rfl⟩
  have e7:=turn_at (by omega) q3 (kk:=16) rfl
  obtain ⟨z2,f3⟩:∃ v,sub32 a4 r3 = v:=⟨_,rfl⟩
  have d3:IntKind.u32.wrap (a4 - r3) = z2:=f3
  have h8:sub32 a4 (rolI y1 16) = z2:=by rw [q3];exact f3
  obtain ⟨a5,g1⟩:∃ v,xorI .u32 x1 z2 = v:=⟨_,rfl⟩
  obtain ⟨r4,q4⟩:∃ v,rolI z2 4 = v:=⟨_,rfl⟩
  have e9:=turn_at (by omega) q4 (kk:=4) rfl
  obtain ⟨x2,f4⟩:∃ v,sub32 a5 r4 = v:=⟨_,rfl⟩
  have d4:IntKind.u32.wrap (a5 - r4) = x2:=f4
  have g2:sub32 a5 (rolI z2 4) = x2:=by rw [q4];exact f4
  obtain ⟨a6,g3⟩:∃ v,xorI .u32 y1 x2 = v:=⟨_,rfl⟩
  obtain ⟨r5,q5⟩:∃ v,rolI x2 14 = v:=⟨_,rfl⟩
  have e11:=turn_at (by omega) q5 (kk:=14) rfl
  obtain ⟨y2,f5⟩:∃ v,sub32 a6 r5 = v:=⟨_,rfl⟩
  have d5:IntKind.u32.wrap (a6 - r5) = y2:=f5
  have g4:sub32 a6 (rolI x2 14) = y2:=by rw [q5];exact f5
  obtain ⟨a7,g5⟩:∃ v,xorI .u32 z2 y2 = v:=⟨_,rfl⟩
  obtain ⟨r6,q6⟩:∃ v,rolI y2 24 = v:=⟨_,rfl⟩
  have e13:=turn_at (by omega) q6 (kk:=24) rfl
  obtain ⟨z3,f6⟩:∃ v,sub32 a7 r6 = v:=⟨_,rfl⟩
  have d6:IntKind.u32.wrap (a7 - r6) = z3:=f6
  have g6:sub32 a7 (rolI y2 24) = z3:=by rw [q6];exact f6
  have hn:=fin_at h1 h2 h3 h4 h5 h6 h7 h8 g1 g2 g3 g4 g5 g6
  clear g6 g4 g2 h8 h6 h4 h2 f0 q0 f1 q1 f2 q2 f3 q3 f4 q4 f5 q5 f6 q6
  rw [lookR_end (by omega) (by omega) (x:=x2) (y:=y2) (z:=z3) (by rw [ha];exact hn)] at hR
  subst hR
  clear ha hn
  generalize hjj:s.l.length - at_ = j at *
  simp [k0,k3,k4,k5,k6,hsub,h12',outT,hp64,w0,w4,w8,c0,c4,c8,i4,i8,h1,e1,d0,h3,e3,d1,h5,e5,d2,h7,e7,d3,g1,e9,d4,g3,e11,d5,g5,e13,d6]
end Go.Ev.S
namespace Go.Ev
open Go Go.Proofs
def fxN:Nat→Nat→List UInt8
 | 0,_=>[]
 | n+1,v=>fxN n (v / 16) ++ [hexc (v % 16)]
theorem fxN_len:∀ (n v:Nat),(fxN n v).length = n
 | 0,_=>rfl
 | n+1,v=>by rw [fxN,List.length_append,fxN_len n];rfl
theorem fxN_zero:∀ (n:Nat),fxN n 0 = List.replicate n 48
 | 0=>rfl
 | n+1=>by
  rw [fxN,Nat.zero_div,fxN_zero n,Nat.zero_mod]
  have:hexc 0 = 48:=by decide
  rw [this,List.replicate_succ']
theorem fxN_hexF:∀ (f n v:Nat),v < 16 ^ f→1≤f→f≤n→List.replicate (n - (hexF f v).length) 48 ++ hexF f v = fxN n v
 | 0,_,_,_,h,_=>by omega
 | f+1,0,_,_,_,h=>by omega
 | f+1,n+1,v,h,_,hn=>by
  rw [hexF,fxN]
  by_cases hv:v < 16
  ·rw [if_pos hv,show v / 16 = 0 by omega,fxN_zero,Nat.mod_eq_of_lt hv]
   rfl
  ·rw [if_neg hv]
   have hf:1≤f:=by
    rcases f with _ | f
    ·simp at h;omega
    ·omega
   have ih:=fxN_hexF f n (v / 16) (by rw [Nat.pow_succ] at h;omega) hf (by omega)
   have hl:n+1 - (hexF f (v / 16) ++ [hexc (v % 16)]).length = n - (hexF f (v / 16)).length:=by
    rw [List.length_append]
    simp
   rw [hl,← List.append_assoc,ih]
theorem fixed_fxN {v:Nat} (h:v < 18446744073709551616):fixed v = fxN 16 v:=fxN_hexF 16 16 v (by omega) (by omega) (by omega)
def strip0:List UInt8→List UInt8
 | []=>[]
 | [c]=>[c]
 | c :: d :: l=>if c = 48 then strip0 (d :: l) else c :: d :: l
theorem hexF_head:∀ (f v:Nat),v < 16 ^ f→1≤f→∃ k l,hexF f v = hexc k :: l∧k < 16∧(k = 0→l = [])
 | 0,_,_,h=>by omega
 | f+1,v,h,_=>by
  rw [hexF]
  by_cases hv:v < 16
  ·rw [if_pos hv]
   exact ⟨v,[],rfl,hv,fun _=>rfl⟩
  ·rw [if_neg hv]
   have hf:1≤f:=by
    rcases f with _ | f
    ·simp at h;omega
    ·omega
   obtain ⟨k,l,e,hk,h0⟩:=hexF_head f (v / 16) (by rw [Nat.pow_succ] at h;omega) hf
   refine ⟨k,l ++ [hexc (v % 16)],by rw [e];rfl,hk,fun hk0=>?_⟩
   exfalso
   have hl:=h0 hk0
   rw [hl,hk0] at e
   have:∀ (f w:Nat),1≤f→hexF f w = [hexc 0]→w = 0∨16≤w∨0 < w:=by intro _ w _ _;omega
   have h16:1≤v / 16:=by omega
   have hz:∀ (f w:Nat),1≤w→w < 16 ^ f→hexF f w≠[hexc 0]:=by
    intro f w hw hlt
    rcases f with _ | f
    ·simp at hlt;omega
    ·rw [hexF]
     by_cases hw16:w < 16
     ·rw [if_pos hw16]
      intro e
      have e1:=List.head_eq_of_cons_eq e
      have hinj:∀ a,a < 16→hexc a = hexc 0→a = 0:=by decide
      exact absurd (hinj w hw16 e1) (by omega)
     ·rw [if_neg hw16]
      intro e
      have e1:=congrArg List.length e
      simp at e1
      have hp:0 < (hexF f (w / 16)).length:=by
       rcases f with _ | f
       ·simp at hlt;omega
       ·rw [hexF];split <;> simp
      rw [e1] at hp
      simp at hp
   exact hz f (v / 16) h16 (by rw [Nat.pow_succ] at h;omega) e
theorem strip0_rep {l:List UInt8} (h:l≠[]):∀ n,strip0 (List.replicate n 48 ++ l) = strip0 l
 | 0=>rfl
 | n+1=>by
  have ih:=strip0_rep h n
  rw [List.replicate_succ,List.cons_append]
  cases hq:List.replicate n (48:UInt8) ++ l with
  | nil=>simp at hq;exact absurd hq.2 h
  | cons d r =>
   rw [hq] at ih
   rw [strip0,if_pos rfl,ih]
theorem strip0_fixed {v:Nat} (h:v < 18446744073709551616):strip0 (fxN 16 v) = hx v:=by
 rw [← fixed_fxN h]
 unfold fixed
 have hp:=hx_pos v
 rw [strip0_rep (by intro e;rw [e] at hp;simp at hp)]
 obtain ⟨k,l,e,hk,h0⟩:=hexF_head 16 v (by omega) (by omega)
 have e':hx v = hexc k :: l:=e
 rw [e']
 cases l with
 | nil=>rfl
 | cons d r =>
  rw [strip0,if_neg]
  intro hc
  have hinj:∀ a,a < 16→hexc a = 48→a = 0:=by decide
  have:=h0 (hinj k hk hc)
  cases this
end Go.Ev
namespace Go.Ev.S
open Go Go.Proofs Go.Ev
theorem dig_cut (k:Nat) (h:k < 16):List.take 1 (List.drop k digL) = [hexc k]:=by
 have:∀ k,k < 16→List.take 1 (List.drop k digL) = [hexc k]:=by decide
 exact this k h
set_option maxHeartbeats 2000000 in
theorem rhex_ev [MaxL] [TxtC] (l:List UInt8) (hl:l.length = 16):call cx 133 [.agg (ofBytes l)] [] = some (.str (hexs l),[]):=by
 refine call_run Tryz.func133 rfl ⟨rfl,rfl⟩ ?_
 simp [Tryz.f133,hl]
 refine Run.loopThen (fun (k:Nat) e H'=>k≤16∧look e 1 = some (.optr 0 16 0)∧look e 3 = some (.str (hexs (l.take k)))∧look e 4 = some (.int .i64 k)∧H' = [some (ofBytes l)]) (fun k=>16 - k) 0 ?_ ?_
 ·simp [hexs]
 rintro k e H' ⟨hk,k1,k3,k4,rfl⟩
 by_cases hlt:k < 16
 ·have hlt':(k:Int) < 16:=by omega
  have hkl:k < l.length:=by omega
  have hw:IntKind.i64.wrap ((k:Int)+1) = ((k+1:Nat):Int):=by rw [wrap_i64] <;> omega
  have hat:=ofBytes_at hkl
  have hsn:=hexs_take hkl
  have hb:=l[k].toNat_lt
  have hlen:(hexs (l.take k)).length = 2 * k:=by rw [hexs_len,List.length_take];omega
  generalize l[k] = b at *
  have d1:=dig_cut (b.toNat / 16) (by omega)
  have d2:=dig_cut (b.toNat % 16) (by omega)
  generalize hexc (b.toNat / 16) = c1 at *
  generalize hexc (b.toNat % 16) = c2 at *
  obtain ⟨m1,hm1⟩:∃ m,m = b.toNat / 16:=⟨_,rfl⟩
  obtain ⟨m2,hm2⟩:∃ m,m = b.toNat % 16:=⟨_,rfl⟩
  rw [← hm1] at d1
  rw [← hm2] at d2
  have q1:IntKind.u8.wrap ((b.toNat:Int) / 16) = (m1:Int):=by rw [wrap_u8] <;> omega
  have q2:(b.toNat:Int).tmod 16 = (m2:Int):=by rw [hm2];exact (Int.ofNat_tmod b.toNat 16).symm
  have w1:IntKind.u8.wrap ((m1:Int)+1) = ((m1+1:Nat):Int):=by rw [wrap_u8] <;> omega
  have w2:IntKind.u8.wrap ((m2:Int)+1) = ((m2+1:Nat):Int):=by rw [wrap_u8] <;> omega
  have t1:m1≤15:=by omega
  have t2:m2≤15:=by omega
  have n1:((m1:Int)+1).toNat = m1+1:=by omega
  have n2:((m2:Int)+1).toNat = m2+1:=by omega
  have u1:(m1:Int)+1≤16:=by omega
  have u2:(m2:Int)+1≤16:=by omega
  have v1:(0:Int)≤(m1:Int)+1:=by omega
  have v2:(0:Int)≤(m2:Int)+1:=by omega
  have y1:(m1:Int)≤(m1:Int)+1:=by omega
  have y2:(m2:Int)≤(m2:Int)+1:=by omega
  simp only [digL] at d1 d2
  generalize hexs (l.take k) = X at *
  have x1:X.length+1≤4611686018427387904:=by omega
  have x2:X.length+1+1≤4611686018427387904:=by omega
  simp [k1,k3,k4,hlt',hw,hat,hl,q1,q2,w1,w2,d1,d2,n1,n2,u1,u2,v1,v2,x1,x2,y1,y2]
  exact ⟨k+1,by omega,by omega,by rw [hsn],by omega⟩
 ·have hlt':¬ (k:Int) < 16:=by omega
  have hke:k = 16:=by omega
  subst hke
  have htk:l.take 16 = l:=List.take_of_length_le (by omega)
  rw [htk] at k3
  simp [k1,k3,k4]
end Go.Ev.S
namespace Go.Ev.S
open Go Go.Proofs Go.Ev
set_option maxHeartbeats 2000000 in
theorem rfixed_ev [MaxL] [TxtC] (v:Nat) (hv:v < 18446744073709551616):call cx 193 [.int .u64 v] [] = some (.str (fxN 16 v),[]):=by
 refine call_run Tryz.func193 rfl ⟨rfl,rfl⟩ ?_
 obtain ⟨r,hr⟩:∃ r,fxN 16 v = r:=⟨_,rfl⟩
 rw [hr]
 simp [Tryz.f193]
 refine Run.loopThen (fun (q:Nat × Nat × List UInt8) e H'=>q.1≤16∧q.2.1 < 18446744073709551616∧q.2.2.length = q.1∧fxN (16 - q.1) q.2.1 ++ q.2.2 = r∧look e 0 = some (.int .u64 (q.2.1:Nat))∧look e 3 = some (.str q.2.2)∧look e 4 = some (.int .i64 (q.1:Nat))∧H' = []) (fun q=>16 - q.1) (0,v,[]) ?_ ?_
 ·simp [hr,hv]
 rintro ⟨k,u,w⟩ e H' ⟨hk,hu,hwl,hR,k0,k3,k4,rfl⟩
 simp only at hk hu hwl hR k0 k3 k4
 by_cases hlt:k < 16
 ·have hlt':(k:Int) < 16:=by omega
  have hw:IntKind.i64.wrap ((k:Int)+1) = ((k+1:Nat):Int):=by rw [wrap_i64] <;> omega
  obtain ⟨m,hm⟩:∃ m,16 - k = m+1:=⟨15 - k,by omega⟩
  rw [hm,fxN] at hR
  have d1:=dig_cut (u % 16) (by omega)
  generalize hexc (u % 16) = c1 at *
  obtain ⟨m1,hm1⟩:∃ m1,m1 = u % 16:=⟨_,rfl⟩
  rw [← hm1] at d1
  have q2:(u:Int).tmod 16 = (m1:Int):=by rw [hm1];exact (Int.ofNat_tmod u 16).symm
  obtain ⟨u',hu'⟩:∃ u',u' = u / 16:=⟨_,rfl⟩
  rw [← hu'] at hR
  have q1:IntKind.u64.wrap ((u:Int) / 16) = (u':Int):=by rw [wrap_u64] <;> omega
  have w1:IntKind.u64.wrap ((m1:Int)+1) = (m1:Int)+1:=by rw [wrap_u64];omega
  have t1:m1≤15:=by omega
  have n1:((m1:Int)+1).toNat = m1+1:=by omega
  have u1:(m1:Int)+1≤16:=by omega
  have v1:(0:Int)≤(m1:Int)+1:=by omega
  have y1:(m1:Int)≤(m1:Int)+1:=by omega
  have x1:1+w.length≤4611686018427387904:=by omega
  have x2:w.length+1≤4611686018427387904:=by omega
  simp only [digL] at d1
  simp [k0,k3,k4,hlt',hw,q1,q2,w1,d1,n1,u1,v1,y1,x1]
  exact ⟨k+1,by omega,by omega,u',by omega,c1 :: w,by simp [hwl],by rw [show 16 - (k+1) = m by omega,← hR];simp,rfl,rfl,by omega⟩
 ·have hlt':¬ (k:Int) < 16:=by omega
  have hke:k = 16:=by omega
  subst hke
  simp only [Nat.sub_self,fxN,List.nil_append] at hR
  subst hR
  simp [k0,k3,k4]
theorem rsmall_ev [MaxL] [TxtC] (v:Nat) (hv:v < 18446744073709551616):call cx 162 [.int .u64 v] [] = some (.str (hx v),[]):=by
 have h:=rfixed_ev v hv
 have hr:=strip0_fixed hv
 have hl:=fxN_len 16 v
 generalize hx v = r at *
 generalize fxN 16 v = s at *
 refine call_run Tryz.func162 rfl ⟨rfl,rfl⟩ ?_
 simp [Tryz.f162,h]
 refine Run.loopThen (fun (w:List UInt8) e H'=>strip0 w = r∧look e 3 = some (.str w)∧H' = []) (fun w=>w.length) s ?_ ?_
 ·simp [hr]
 rintro w e H' ⟨hR,k3,rfl⟩
 match w,hR,k3 with
 | [],hR,k3 =>
  rw [strip0] at hR
  subst hR
  simp [k3]
 | [c],hR,k3 =>
  rw [strip0] at hR
  subst hR
  simp [k3]
 | c :: d :: l,hR,k3 =>
  rw [strip0] at hR
  have hl1:(1:Int) < (l.length:Int)+1+1:=by omega
  by_cases hc:c = 48
  ·rw [if_pos hc] at hR
   subst hc
   have hl2:(1:Int)≤(l.length:Int)+1+1:=by omega
   simp [k3,hl1,hl2]
   exact hR
  ·rw [if_neg hc] at hR
   subst hR
   have hc2:¬ (c.toNat:Int) = 48:=by
    intro h
    exact hc (UInt8.toNat.inj (by show c.toNat = 48;omega))
   simp [k3,hl1,hc2]
set_option maxHeartbeats 2000000 in
theorem rshow_ev [MaxL] [TxtC] (c:Cur) (h:CurOk c):call cx 134 [.agg (Enc.cells c)] [] = some (.str (showL c),[]):=by
 obtain ⟨w1,w2,w3,w4⟩:=h
 unfold isU64 at w1 w2 w3 w4
 have e1:((c.n.toNat:Nat):Int) = c.n:=by omega
 have e2:((c.mono.toNat:Nat):Int) = c.mono:=by omega
 have e3:((c.real.toNat:Nat):Int) = c.real:=by omega
 have e4:((c.xor.toNat:Nat):Int) = c.xor:=by omega
 have h1:=rhex_ev c.seq.l c.seq.h
 have h2:=rsmall_ev c.n.toNat (by omega)
 have h3:=rhex_ev c.boot.l c.boot.h
 have h4:=rsmall_ev c.mono.toNat (by omega)
 have h5:=rsmall_ev c.real.toNat (by omega)
 have h6:=rsmall_ev c.xor.toNat (by omega)
 rw [e1] at h2
 rw [e2] at h4
 rw [e3] at h5
 rw [e4] at h6
 have l1:=hexs_len c.seq.l
 have l2:=hx_len c.n.toNat
 have l3:=hexs_len c.boot.l
 have l4:=hx_len c.mono.toNat
 have l5:=hx_len c.real.toNat
 have l6:=hx_len c.xor.toNat
 rw [c.seq.h] at l1
 rw [c.boot.h] at l3
 unfold showL
 generalize hexs c.seq.l = a1 at *
 generalize hx c.n.toNat = a2 at *
 generalize hexs c.boot.l = a3 at *
 generalize hx c.mono.toNat = a4 at *
 generalize hx c.real.toNat = a5 at *
 generalize hx c.xor.toNat = a6 at *
 clear e1 e2 e3 e4 w1 w2 w3 w4
 obtain ⟨s1,es1⟩:∃ s,s = kS ++ a1:=⟨_,rfl⟩
 have ls1:s1.length = kS.length+a1.length:=by rw [es1,List.length_append]
 obtain ⟨s2,es2⟩:∃ s,s = s1 ++ kI:=⟨_,rfl⟩
 have ls2:s2.length = s1.length+kI.length:=by rw [es2,List.length_append]
 obtain ⟨s3,es3⟩:∃ s,s = s2 ++ a2:=⟨_,rfl⟩
 have ls3:s3.length = s2.length+a2.length:=by rw [es3,List.length_append]
 obtain ⟨s4,es4⟩:∃ s,s = s3 ++ kB:=⟨_,rfl⟩
 have ls4:s4.length = s3.length+kB.length:=by rw [es4,List.length_append]
 obtain ⟨s5,es5⟩:∃ s,s = s4 ++ a3:=⟨_,rfl⟩
 have ls5:s5.length = s4.length+a3.length:=by rw [es5,List.length_append]
 obtain ⟨s6,es6⟩:∃ s,s = s5 ++ kM:=⟨_,rfl⟩
 have ls6:s6.length = s5.length+kM.length:=by rw [es6,List.length_append]
 obtain ⟨s7,es7⟩:∃ s,s = s6 ++ a4:=⟨_,rfl⟩
 have ls7:s7.length = s6.length+a4.length:=by rw [es7,List.length_append]
 obtain ⟨s8,es8⟩:∃ s,s = s7 ++ kT:=⟨_,rfl⟩
 have ls8:s8.length = s7.length+kT.length:=by rw [es8,List.length_append]
 obtain ⟨s9,es9⟩:∃ s,s = s8 ++ a5:=⟨_,rfl⟩
 have ls9:s9.length = s8.length+a5.length:=by rw [es9,List.length_append]
 obtain ⟨s10,es10⟩:∃ s,s = s9 ++ kX:=⟨_,rfl⟩
 have ls10:s10.length = s9.length+kX.length:=by rw [es10,List.length_append]
 obtain ⟨s11,es11⟩:∃ s,s = s10 ++ a6:=⟨_,rfl⟩
 have ls11:s11.length = s10.length+a6.length:=by rw [es11,List.length_append]
 simp only [kS,kI,kB,kM,kT,kX,List.length_cons,List.length_nil] at ls1 ls2 ls3 ls4 ls5 ls6 ls7 ls8 ls9 ls10 ls11
 have cs1:=cat_of es1 (by (try simp only [kS,List.length_cons,List.length_nil]);omega)
 have cs2:=cat_of es2 (by (try simp only [kI,List.length_cons,List.length_nil]);omega)
 have cs3:=cat_of es3 (by (try simp only [kS,kI,kB,kM,kT,kX,List.length_cons,List.length_nil]);omega)
 have cs4:=cat_of es4 (by (try simp only [kB,List.length_cons,List.length_nil]);omega)
 have cs5:=cat_of es5 (by (try simp only [kS,kI,kB,kM,kT,kX,List.length_cons,List.length_nil]);omega)
 have cs6:=cat_of es6 (by (try simp only [kM,List.length_cons,List.length_nil]);omega)
 have cs7:=cat_of es7 (by (try simp only [kS,kI,kB,kM,kT,kX,List.length_cons,List.length_nil]);omega)
 have cs8:=cat_of es8 (by (try simp only [kT,List.length_cons,List.length_nil]);omega)
 have cs9:=cat_of es9 (by (try simp only [kS,kI,kB,kM,kT,kX,List.length_cons,List.length_nil]);omega)
 have cs10:=cat_of es10 (by (try simp only [kX,List.length_cons,List.length_nil]);omega)
 have cs11:=cat_of es11 (by (try simp only [kS,kI,kB,kM,kT,kX,List.length_cons,List.length_nil]);omega)
 simp only [kS,kI,kB,kM,kT,kX] at cs1 cs2 cs3 cs4 cs5 cs6 cs7 cs8 cs9 cs10 cs11
 have hfin:kS ++ (a1 ++ (kI ++ (a2 ++ (kB ++ (a3 ++ (kM ++ (a4 ++ (kT ++ (a5 ++ (kX ++ a6)))))))))) = s11:=by
  simp [es11,es10,es9,es8,es7,es6,es5,es4,es3,es2,es1]
 rw [hfin]
 clear hfin es1 es2 es3 es4 es5 es6 es7 es8 es9 es10 es11 ls1 ls2 ls3 ls4 ls5 ls6 ls7 ls8 ls9 ls10 ls11 l1 l2 l3 l4 l5 l6
 refine call_run Tryz.func134 rfl ⟨rfl,rfl⟩ ?_
 simp [Tryz.f134,h1,h2,h3,h4,h5,h6,-strD,cs1,cs2,cs3,cs4,cs5,cs6,cs7,cs8,cs9,cs10,cs11]
end Go.Ev.S
namespace Go.Ev.S
open Go Go.Proofs Go.Ev
set_option maxHeartbeats 1000000 in
theorem rxor_ev [MaxL] [TxtC] (s:Sl Pr) (hn:s.l.length < 1000000) (hb:∀ p∈s.l,PrB p):call cx 163 [(.vsl s.nil (encs s.l) s.l.length)] [] = some (.int .u64 (xorP (s.l.map payL) 0),[]):=by
 refine call_run Tryz.func163 rfl ⟨rfl,rfl⟩ ?_
 obtain ⟨r,hr⟩:∃ r,xorP (s.l.map payL) 0 = r:=⟨_,rfl⟩
 rw [hr]
 simp [Tryz.f163]
 refine Run.loopThen (fun (q:Nat × Int) e H'=>q.1≤s.l.length∧xorP ((s.l.map payL).drop q.1) q.2 = r∧look e 0 = some (.vsl s.nil (encs s.l) s.l.length)∧look e 3 = some (.int .u64 q.2)∧look e 4 = some (.int .i64 (q.1:Nat))∧H' = []) (fun q=>s.l.length - q.1) (0,0) ?_ ?_
 ·simp [hr]
 rintro ⟨k,v⟩ e H' ⟨hk,hR,k0,k3,k4,rfl⟩
 simp only at hk hR k3 k4
 by_cases hlt:k < s.l.length
 ·have hlt':(k:Int) < (s.l.length:Int):=by omega
  have hw:IntKind.i64.wrap ((k:Int)+1) = ((k+1:Nat):Int):=by rw [wrap_i64] <;> omega
  rw [← List.map_drop,List.drop_eq_getElem_cons hlt,List.map_cons,xorP,List.map_drop] at hR
  have hpb:=hb s.l[k] (List.getElem_mem hlt)
  have hp:=pay_ev s.l[k] hpb.1 hpb.2
  have hpl:=payL_len hpb
  have hl:=rlookup_ev (.of (payL s.l[k])) (by show (payL s.l[k]).length < _;omega)
  replace hl:call cx 194 [.vsl false (ofBytes (payL s.l[k])) (payL s.l[k]).length] [] = some (.int .u64 (lookN (payL s.l[k])),[]):=hl
  generalize payL s.l[k] = b at *
  generalize lookN b = z at *
  simp [k0,k3,k4,hlt',hlt,hw,Sl.nn hlt,hp,hl]
  exact ⟨k+1,by omega,by omega,_,hR,rfl,by omega⟩
 ·have hlt':¬ (k:Int) < (s.l.length:Int):=by omega
  rw [List.drop_eq_nil_of_le (by simp;omega),xorP] at hR
  subst hR
  simp [k0,k3,k4,hlt']
theorem rcof_ev [MaxL] [TxtC] (q:ID) (r:Rec) (hn:r.fields.l.length < 1000000) (hb:∀ p∈r.fields.l,PrB p):call cx 135 [.agg (ofBytes q.l),.agg (Enc.cells r)] [] = some (.agg (Enc.cells (cOfP q r)),[]):=by
 have hx:=rxor_ev r.fields hn hb
 have hL:Enc.cells r = [.int .u64 r.seq,.int .u64 r.real,.int .u64 r.mono] ++ (ofBytes r.boot.l ++ [(.vsl r.fields.nil (encs r.fields.l) r.fields.l.length)]):=Rec.cells r
 have hC:Enc.cells (cOfP q r) = ofBytes q.l ++ ([.int .u64 r.seq] ++ (ofBytes r.boot.l ++ [.int .u64 r.mono,.int .u64 r.real,.int .u64 (xorP (r.fields.l.map payL) 0)])):=rfl
 rw [hL,hC]
 generalize xorP (r.fields.l.map payL) 0 = z at *
 refine call_run Tryz.func135 rfl ⟨rfl,rfl⟩ ?_
 simp [Tryz.f135,hx,List.drop_append,List.take_append,drop_bytes]
theorem low_ev [MaxL] [TxtC] (v:Nat) (hv:v < 18446744073709551616):call cx 87 [.int .u64 v,.int .i64 8] [] = some (.vsl false (ofBytes (leB 8 v)) 8,[]):=by
 refine call_run Tryz.func87 rfl ⟨rfl,rfl⟩ ?_
 simp [Tryz.f87]
 refine Run.loopThen (fun (i:Nat) e H=>i≤8∧(∃ d,look e 5 = some d∧Buf d H (leB i v))∧look e 0 = some (.int .u64 (v / 256 ^ i:Nat))∧look e 1 = some (.int .i64 8)∧look e 6 = some (.int .i64 i)) (fun i=>8 - i) 0 ?_ ?_
 ·simp [leB,Buf]
 rintro i e H ⟨hi,⟨d,h5,hbuf⟩,h0,h1,h6⟩
 by_cases hlt:i < 8
 ·have hlt':(i:Int) < 8:=by omega
  have hw:IntKind.i64.wrap ((i:Int)+1) = ((i+1:Nat):Int):=by rw [wrap_i64] <;> omega
  have hsn:=leB_snoc i v
  have hl:(leB i v).length≤8:=by simp;omega
  have hq:v / 256 ^ i < 18446744073709551616:=Nat.lt_of_le_of_lt (Nat.div_le_self _ _) hv
  have hnx:v / 256 ^ (i+1) = v / 256 ^ i / 256:=by rw [Nat.pow_succ,Nat.div_div_eq_div_mul]
  generalize v / 256 ^ i = x at *
  have ht1:(x:Int).tmod 256 = ((x % 256:Nat):Int):=by
   rw [Int.tmod_eq_emod_of_nonneg (Int.natCast_nonneg _)];rfl
  have ht2:(x:Int).tdiv 256 = ((x / 256:Nat):Int):=by
   rw [Int.tdiv_eq_ediv_of_nonneg (Int.natCast_nonneg _)];rfl
  have hx256:x % 256 < 256:=Nat.mod_lt _ (by decide)
  have hw1:IntKind.u8.wrap ((x % 256:Nat):Int) = ((UInt8.ofNat (x % 256)).toNat:Int):=by
   rw [UInt8.toNat_ofNat_of_lt' hx256]
   clear hv hq
   generalize x % 256 = y at *
   rw [wrap_u8]
   omega
  have hw2:IntKind.u64.wrap ((x / 256:Nat):Int) = ((x / 256:Nat):Int):=by
   have:x / 256 < 18446744073709551616:=Nat.lt_of_le_of_lt (Nat.div_le_self _ _) hq
   clear hv hq
   generalize x / 256 = y at *
   rw [wrap_u64]
   omega
  generalize UInt8.ofNat (x % 256) = c at *
  clear hv hq
  generalize leB i v = l at *
  have hmx:l.length+1≤140737488355328:=Nat.le_trans (Nat.add_le_add_right hl 1) (by decide)
  rcases hbuf with ⟨rfl,rfl,rfl⟩ | ⟨rfl,rfl⟩
  ·simp [h5,h0,h1,h6,hlt',hw,ht1,ht2,hw1,hw2,maxBytes,-Int.natCast_emod,-Int.natCast_ediv]
   clear hmx
   exact ⟨i+1,by omega,by omega,.inr (by simp [hsn,ofBytes]),by rw [hnx],rfl⟩
  ·simp [h5,h0,h1,h6,hlt',hw,ht1,ht2,hw1,hw2,maxBytes,hmx,-Int.natCast_emod,-Int.natCast_ediv]
   clear hmx
   exact ⟨i+1,by omega,by omega,.inr (by simp [hsn,ofBytes]),by rw [hnx],rfl⟩
 ·have hlt':¬ (i:Int) < 8:=by omega
  have h8:i = 8:=by omega
  subst h8
  have hl:(leB 8 v).length = 8:=leB_len 8 v
  generalize leB 8 v = l at *
  rcases hbuf with ⟨rfl,rfl,rfl⟩ | ⟨rfl,rfl⟩
  ·simp at hl
  ·simp [h5,h0,h1,h6,hl,List.take_of_length_le]
end Go.Ev.S
namespace Go.Ev.S
open Go Go.Proofs Go.Ev
theorem nums1_ev [MaxL] [TxtC] (a:Nat) (ha:a < 18446744073709551616):call cx 115 [.vsl false [.int .u64 a] 1] [] = some (.vsl false (ofBytes (leB 8 a)) 8,[]):=by
 have h1:=low_ev a ha
 clear ha
 refine call_run Tryz.func115 rfl ⟨rfl,rfl⟩ ?_
 simp [Tryz.f115]
 iterate 2
  refine run_unroll ?_
  simp [h1,List.take_of_length_le,maxBytes]
theorem rdec_ev [MaxL] [TxtC] (v:Nat) (hv:v < 18446744073709551616):call cx 106 [.int .u64 v] [] = some (.str (dec v),[]):=by
 have h:=fu_ev v hv
 refine call_run Tryz.func106 rfl ⟨rfl,rfl⟩ ?_
 simp [Tryz.f106,h]
theorem rplain_ev [MaxL] [TxtC] (s:List UInt8) (_:s.length < 1000000):call cx 136 [.str s] [] = some (.bool (plainV s),[]):=by
 refine call_run Tryz.func136 rfl ⟨rfl,rfl⟩ ?_
 unfold plainV
 obtain ⟨r,hr⟩:∃ r,s.all plainC = r:=⟨_,rfl⟩
 rw [hr]
 simp [Tryz.f136]
 refine Run.loopThen (fun (k:Nat) e H'=>k≤s.length∧(s.drop k).all plainC = r∧look e 0 = some (.str s)∧look e 3 = some (.int .i64 k)∧H' = []) (fun k=>s.length - k) 0 ?_ ?_
 ·simpa using hr
 rintro k e H' ⟨hk,hR,k0,k3,rfl⟩
 by_cases hlt:k < s.length
 ·have hlt':(k:Int) < (s.length:Int):=by omega
  have hw:IntKind.i64.wrap ((k:Int)+1) = ((k+1:Nat):Int):=by rw [wrap_i64] <;> omega
  have hat:s[k]? = some s[k]:=List.getElem?_eq_getElem hlt
  rw [List.drop_eq_getElem_cons hlt,List.all_cons] at hR
  generalize s[k] = c at *
  by_cases h2:c.toNat = 9
  ·have h2':(c.toNat:Int) = 9:=by omega
   have hc:plainC c = true:=by simp [plainC,h2]
   rw [hc,Bool.true_and] at hR
   simp [k0,k3,hlt',hat,hw,h2]
   exact ⟨k+1,by omega,by omega,by simpa using hR,by omega⟩
  ·have h2':¬ (c.toNat:Int) = 9:=by omega
   by_cases h1:c.toNat < 32
   ·have h1':(c.toNat:Int) < 32:=by omega
    have hc:plainC c = false:=by simp [plainC,h1,h2]
    rw [hc,Bool.false_and] at hR
    subst hR
    simp [k0,k3,hlt',hat,h1',h2']
   ·have h1':¬ (c.toNat:Int) < 32:=by omega
    have hc:plainC c = true:=by simp [plainC,h1]
    rw [hc,Bool.true_and] at hR
    simp [k0,k3,hlt',hat,hw,h1',h2']
    exact ⟨k+1,by omega,by omega,by simpa using hR,by omega⟩
 ·have hlt':¬ (k:Int) < (s.length:Int):=by omega
  rw [List.drop_eq_nil_of_le (by omega)] at hR
  have:r = true:=hR.symm
  subst this
  simp [k0,k3,hlt']
def nameG:List UInt8→Nat→Bool
 | [],_=>true
 | c :: l,k=>(nameC c && (decide (0 < k) || !digC c)) && nameG l (k+1)
theorem nameG_pos:∀ (l:List UInt8) (k:Nat),0 < k→nameG l k = l.all nameC
 | [],_,_=>rfl
 | c :: l,k,h=>by rw [nameG,nameG_pos l (k+1) (by omega)];simp [h]
theorem nameOk_G (s:List UInt8):nameOk s = (nameG s 0 && (decide (1≤s.length) && decide (s.length≤64))):=by
 cases s with
 | nil=>rfl
 | cons c l =>
  rw [nameOk,nameG,nameG_pos l 1 (by omega),List.all_cons]
  simp
  cases nameC c <;> cases digC c <;> cases l.all nameC <;> simp
set_option maxHeartbeats 4000000 in
theorem rname_evX [MaxL] [TxtC] (s:List UInt8) (_:s.length≤9223372036854775807):call cx 161 [.str s] [] = some (.bool (nameOk s),[]):=by
 refine call_run Tryz.func161 rfl ⟨rfl,rfl⟩ ?_
 rw [nameOk_G]
 obtain ⟨r,hr⟩:∃ r,(nameG s 0 && (decide (1≤s.length) && decide (s.length≤64))) = r:=⟨_,rfl⟩
 rw [hr]
 simp [Tryz.f161]
 refine Run.loopThen (fun (k:Nat) e H'=>k≤s.length∧(nameG (s.drop k) k && (decide (1≤s.length) && decide (s.length≤64))) = r∧look e 0 = some (.str s)∧look e 3 = some (.int .i64 k)∧H' = []) (fun k=>s.length - k) 0 ?_ ?_
 ·simpa using hr
 rintro k e H' ⟨hk,hR,k0,k3,rfl⟩
 by_cases hlt:k < s.length
 ·have hlt':(k:Int) < (s.length:Int):=by omega
  have hw:IntKind.i64.wrap ((k:Int)+1) = ((k+1:Nat):Int):=by rw [wrap_i64] <;> omega
  have hat:s[k]? = some s[k]:=List.getElem?_eq_getElem hlt
  rw [List.drop_eq_getElem_cons hlt,nameG] at hR
  generalize s[k] = c at *
  have hnx:(nameC c && (decide (0 < k) || !digC c)) = true→∃ j:Nat,s.length - j < s.length - k∧j≤s.length∧(nameG (s.drop j) j && (decide (1≤s.length) && decide (s.length≤64))) = r∧(j:Int) = (k:Int)+1:=fun h=>⟨k+1,by omega,by omega,by rw [h,Bool.true_and] at hR;exact hR,by omega⟩
  have hno:(nameC c && (decide (0 < k) || !digC c)) = false→r = false:=fun h=>by rw [h,Bool.false_and,Bool.false_and] at hR;exact hR.symm
  cases hb:(nameC c && (decide (0 < k) || !digC c)) with
  | true =>
   obtain ⟨j,j1,j2,j3,j4⟩:=hnx hb
   simp [nameC,digC] at hb
   by_cases h1:(48:Int)≤(c.toNat:Int) <;> by_cases h2:(c.toNat:Int)≤57 <;> rcases (show ((k = 0) = True∧(0 < k) = False)∨((k = 0) = False∧(0 < k) = True) by by_cases hk0:k = 0;exact .inl ⟨eq_true hk0,eq_false (by omega)⟩;exact .inr ⟨eq_false hk0,eq_true (by omega)⟩) with ⟨h3,h3'⟩ | ⟨h3,h3'⟩ <;> by_cases h4:(65:Int)≤(c.toNat:Int) <;> by_cases h5:(c.toNat:Int)≤90 <;> by_cases h6:(c.toNat:Int) = 95 <;> try (exfalso;simp at h3;omega)
   all_goals simp [k0,k3,hlt',hat,hw,h1,h2,h3',h4,h5,h6]
   all_goals exact ⟨j,j1,j2,j3,by omega⟩
  | false =>
   have:=hno hb
   subst this
   simp [nameC,digC] at hb
   by_cases h1:(48:Int)≤(c.toNat:Int) <;> by_cases h2:(c.toNat:Int)≤57 <;> rcases (show ((k = 0) = True∧(0 < k) = False)∨((k = 0) = False∧(0 < k) = True) by by_cases hk0:k = 0;exact .inl ⟨eq_true hk0,eq_false (by omega)⟩;exact .inr ⟨eq_false hk0,eq_true (by omega)⟩) with ⟨h3,h3'⟩ | ⟨h3,h3'⟩ <;> by_cases h4:(65:Int)≤(c.toNat:Int) <;> by_cases h5:(c.toNat:Int)≤90 <;> by_cases h6:(c.toNat:Int) = 95 <;> try (exfalso;simp at h3;omega)
   all_goals simp [k0,k3,hlt',hat,h1,h2,h3',h4,h5,h6]
 ·have hlt':¬ (k:Int) < (s.length:Int):=by omega
  rw [List.drop_eq_nil_of_le (by omega),nameG,Bool.true_and] at hR
  by_cases h1:1≤s.length
  ·have h1':(1:Int)≤(s.length:Int):=by omega
   by_cases h2:s.length≤64
   ·have h2':(s.length:Int)≤64:=by omega
    simp only [h1,h2,decide_true,Bool.and_self] at hR
    subst hR
    simp [k0,k3,hlt',h1',h2']
   ·have h2':¬ (s.length:Int)≤64:=by omega
    simp only [h1,h2,decide_true,decide_false,Bool.and_false] at hR
    subst hR
    simp [k0,k3,hlt',h1',h2']
  ·have h1':¬ (1:Int)≤(s.length:Int):=by omega
   simp only [h1,decide_false,Bool.false_and] at hR
   subst hR
   simp [k0,k3,hlt',h1']
theorem rname_ev [MaxL] [TxtC] (s:List UInt8) (hs:s.length < 1000000):call cx 161 [.str s] [] = some (.bool (nameOk s),[]):=rname_evX s (by omega)
theorem rright1_evX [MaxL] [TxtC] (p:Pr) (hb:p.name.length≤9223372036854775807):call cx 132 [.agg (Enc.cells p)] [] = some (.bool (prOk p),[]):=by
 have h:=rname_evX p.name hb
 refine call_run Tryz.func132 rfl ⟨rfl,rfl⟩ ?_
 unfold prOk
 cases hn:nameOk p.name with
 | false =>
  rw [hn] at h
  simp [Tryz.f132,h,Pr.cells]
 | true =>
  rw [hn] at h
  by_cases h2:p.value.length≤256
  ·have h2':(p.value.length:Int)≤256:=by omega
   simp [Tryz.f132,h,Pr.cells,h2,h2']
  ·have h2':¬ (p.value.length:Int)≤256:=by omega
   simp [Tryz.f132,h,Pr.cells,h2,h2']
end Go.Ev.S
namespace Go.Ev.S
open Go Go.Proofs Go.Ev
set_option maxHeartbeats 4000000 in
theorem rright_gap [MaxL] [TxtC] (it:It) (hg:it.gap = true):call cx 88 [.agg (Enc.cells it)] [] = some (.bool (gapOk it),[]):=by
 refine call_run Tryz.func88 rfl ⟨rfl,rfl⟩ ?_
 unfold gapOk
 have ht17:List.take 17 (ofBytes it.rc.boot.l ++ [(.vsl it.rc.fields.nil (encs it.rc.fields.l) it.rc.fields.l.length)]) = ofBytes it.rc.boot.l ++ [(.vsl it.rc.fields.nil (encs it.rc.fields.l) it.rc.fields.l.length)]:=List.take_of_length_le (by simp)

 rcases Classical.em (¬ (1≤it.fr)) with hfr | hfr
 ·simp [Tryz.f88,hg,hfr,ht17]
 replace hfr:=Classical.not_not.1 hfr
 rcases Classical.em (¬ (it.fr≤it.til)) with htil | htil
 ·simp [Tryz.f88,hg,hfr,htil,ht17]
 replace htil:=Classical.not_not.1 htil
 rcases Classical.em (¬ (it.rc.seq = 0)) with hseq | hseq
 ·simp [Tryz.f88,hg,hfr,htil,hseq,ht17]
 replace hseq:=Classical.not_not.1 hseq
 rcases Classical.em (¬ (it.rc.real = 0)) with hreal | hreal
 ·simp [Tryz.f88,hg,hfr,htil,hseq,hreal,ht17]
 replace hreal:=Classical.not_not.1 hreal
 rcases Classical.em (¬ (it.rc.mono = 0)) with hmono | hmono
 ·simp [Tryz.f88,hg,hfr,htil,hseq,hreal,hmono,ht17]
 replace hmono:=Classical.not_not.1 hmono
 have he:=cellsEq16 it.rc.boot ID.zero
 replace he:cellsEq [.i,.i,.i,.i,.i,.i,.i,.i,.i,.i,.i,.i,.i,.i,.i,.i] (ofBytes it.rc.boot.l) [.int .u8 0,.int .u8 0,.int .u8 0,.int .u8 0,.int .u8 0,.int .u8 0,.int .u8 0,.int .u8 0,.int .u8 0,.int .u8 0,.int .u8 0,.int .u8 0,.int .u8 0,.int .u8 0,.int .u8 0,.int .u8 0] = some (it.rc.boot == ID.zero):=he
 rcases Classical.em (¬ (it.rc.boot = ID.zero)) with hboot | hboot
 ·have hbe:(it.rc.boot == ID.zero) = false:=beq_eq_false_iff_ne.2 hboot
  rw [hbe] at he
  simp [Tryz.f88,hg,hfr,htil,hseq,hreal,hmono,hboot,he,ht17,List.drop_append]
 replace hboot:=Classical.not_not.1 hboot
 have hbe:(it.rc.boot == ID.zero) = true:=by rw [hboot];simp
 rw [hbe] at he
 have hbd:decide (it.rc.boot = ID.zero) = true:=decide_eq_true hboot
 clear hbe hboot
 by_cases hlen:it.rc.fields.l.length = 0
 ·have hlen':(it.rc.fields.l.length:Int) = 0:=by omega
  have hld:decide (it.rc.fields.l.length = 0) = true:=decide_eq_true hlen
  simp [-decide_eq_true_eq,Tryz.f88,hg,hfr,htil,hseq,hreal,hmono,hbd,he,hlen',ht17,List.drop_append]
  exact List.length_eq_zero_iff.1 hlen
 ·have hlen':¬ (it.rc.fields.l.length:Int) = 0:=by omega
  simp [Tryz.f88,hg,hfr,htil,hseq,hreal,hmono,hbd,hlen,he,ht17,List.drop_append]
set_option maxHeartbeats 4000000 in
theorem rright_recX [MaxL] [TxtC] (it:It) (hi:it.Ok) (hg:it.gap = false) (hb:∀ p∈it.rc.fields.l,p.name.length≤9223372036854775807) (hn:it.rc.fields.l.length < 1000000):call cx 88 [.agg (Enc.cells it)] [] = some (.bool (recOk it),[]):=by
 refine call_run Tryz.func88 rfl ⟨rfl,rfl⟩ ?_
 have hsq:=hi.rc.seq
 unfold isU64 at hsq
 obtain ⟨R,hR0⟩:∃ R,R = (decide (it.fr = 0) && decide (it.til = 0) && decide (it.rc.seq≠0) && decide (1≤it.rc.fields.l.length) && decide (it.rc.fields.l.length≤16)):=⟨_,rfl⟩
 have hrec:recOk it = (R && it.rc.fields.l.all prOk):=by unfold recOk;rw [hR0]
 rw [hrec]
 have ht17:List.take 17 (ofBytes it.rc.boot.l ++ [(.vsl it.rc.fields.nil (encs it.rc.fields.l) it.rc.fields.l.length)]) = ofBytes it.rc.boot.l ++ [(.vsl it.rc.fields.nil (encs it.rc.fields.l) it.rc.fields.l.length)]:=List.take_of_length_le (by simp)
 obtain ⟨r,hr⟩:∃ r,(R && it.rc.fields.l.all prOk) = r:=⟨_,rfl⟩
 rw [hr]
 obtain ⟨cit,hcit⟩:∃ l,l = Enc.cells it:=⟨_,rfl⟩
 simp [Tryz.f88,hg,ht17]
 refine Run.loopThen (fun (k:Nat) e H'=>k≤it.rc.fields.l.length∧(R && (it.rc.fields.l.drop k).all prOk) = r∧look e 1 = some (.optr 0 39 0)∧look e 3 = some (.optr 1 20 0)∧look e 4 = some (.int .i64 k)∧H' = [some (Enc.cells it),some (.int .u64 it.rc.seq :: .int .u64 it.rc.real :: .int .u64 it.rc.mono :: (ofBytes it.rc.boot.l ++ [(.vsl it.rc.fields.nil (encs it.rc.fields.l) it.rc.fields.l.length)]))]) (fun k=>it.rc.fields.l.length - k) 0 ?_ ?_
 ·simpa using hr
 rintro k e H' ⟨hk,hR,k1,k3,k4,rfl⟩
 by_cases hlt:k < it.rc.fields.l.length
 ·have hlt':(k:Int) < (it.rc.fields.l.length:Int):=by omega
  have hw:IntKind.i64.wrap ((k:Int)+1) = ((k+1:Nat):Int):=by rw [wrap_i64] <;> omega
  rw [List.drop_eq_getElem_cons hlt,List.all_cons] at hR
  have hf:=rright1_evX it.rc.fields.l[k] (hb _ (List.getElem_mem hlt))
  have hnn:=Sl.nn hlt
  cases hp:prOk it.rc.fields.l[k] with
  | true =>
   rw [hp] at hf
   rw [hp,Bool.true_and] at hR
   simp [k1,k3,k4,hlt,hlt',hw,hnn,hf]
   exact ⟨k+1,by omega,by omega,by simpa using hR,by omega⟩
  | false =>
   rw [hp] at hf
   rw [hp,Bool.false_and,Bool.and_false] at hR
   subst hR
   simp [k1,k3,k4,hlt,hlt',hnn,hf]
 ·have hlt':¬ (k:Int) < (it.rc.fields.l.length:Int):=by omega
  rw [List.drop_eq_nil_of_le (by omega)] at hR
  have hr2:r = R:=by rw [← hR];simp
  subst hr2
  rw [hR0]
  by_cases hfr:it.fr = 0
  ·by_cases htil:it.til = 0
   ·by_cases hseq:it.rc.seq = 0
    ·simp [k1,k3,k4,hlt',hfr,htil,hseq]
    ·have hs1:1≤it.rc.seq:=by omega
     by_cases h1:1≤it.rc.fields.l.length
     ·have h1':(1:Int)≤(it.rc.fields.l.length:Int):=by omega
      by_cases h2:it.rc.fields.l.length≤16
      ·have h2':(it.rc.fields.l.length:Int)≤16:=by omega
       simp [-decide_eq_true_eq,k1,k3,k4,hlt',hfr,htil,hseq,hs1,h1',h2',decide_eq_true h1,decide_eq_true h2]
      ·have h2':¬ (it.rc.fields.l.length:Int)≤16:=by omega
       simp [-decide_eq_true_eq,k1,k3,k4,hlt',hfr,htil,hseq,hs1,h1',h2',decide_eq_true h1,decide_eq_false h2]
     ·have h1':¬ (1:Int)≤(it.rc.fields.l.length:Int):=by omega
      simp [-decide_eq_true_eq,k1,k3,k4,hlt',hfr,htil,hseq,hs1,h1',decide_eq_false h1]
   ·simp [k1,k3,k4,hlt',hfr,htil]
  ·simp [k1,k3,k4,hlt',hfr]
theorem rright_evX [MaxL] [TxtC] (it:It) (hi:it.Ok) (hb:∀ p∈it.rc.fields.l,p.name.length≤9223372036854775807) (hn:it.rc.fields.l.length < 1000000):call cx 88 [.agg (Enc.cells it)] [] = some (.bool (itOk it),[]):=by
 unfold itOk
 cases hg:it.gap with
 | true=>rw [if_pos rfl];exact rright_gap it hg
 | false=>rw [if_neg (by decide)];exact rright_recX it hi hg hb hn
theorem rright_ev [MaxL] [TxtC] (it:It) (hi:it.Ok) (hb:∀ p∈it.rc.fields.l,PrB p) (hn:it.rc.fields.l.length < 1000000):call cx 88 [.agg (Enc.cells it)] [] = some (.bool (itOk it),[]):=rright_evX it hi (fun p hp=>by have:=(hb p hp).1;omega) hn
end Go.Ev.S
namespace Go.Ev.S
open Go Go.Proofs Go.Ev
set_option maxHeartbeats 4000000 in
set_option maxRecDepth 4000 in
theorem rtext_bad [MaxL] (it:It) (hi:it.Ok) (hb:∀ p∈it.rc.fields.l,PrB p) (hn:it.rc.fields.l.length < 1000000) (ho:itOk it = false):call cx 89 [.agg (Enc.cells it)] [] = some (.vsl true [] 0,[]):=by
 have hw:=rright_ev it hi hb hn
 rw [ho] at hw
 refine call_run Tryz.func89 rfl ⟨rfl,rfl⟩ ?_
 simp [Tryz.f89,hw]
set_option maxHeartbeats 4000000 in
set_option maxRecDepth 4000 in
theorem rtext_gap [MaxL] (it:It) (hi:it.Ok) (hg:it.gap = true) (hb:∀ p∈it.rc.fields.l,PrB p) (hn:it.rc.fields.l.length < 1000000) (ho:itOk it = true):call cx 89 [.agg (Enc.cells it)] [] = some (.vsl false (ofBytes (textG it)) (textG it).length,[]):=by
 have hw:=rright_ev it hi hb hn
 rw [ho] at hw
 have hr1:=hi.fr
 have hr2:=hi.til
 unfold isU64 at hr1 hr2
 have n1:=rdec_ev it.fr.toNat (by omega)
 have n2:=rdec_ev it.til.toNat (by omega)
 have e1:((it.fr.toNat:Nat):Int) = it.fr:=by omega
 have e2:((it.til.toNat:Nat):Int) = it.til:=by omega
 rw [e1] at n1
 rw [e2] at n2
 have x1:=rhex_ev it.id.l it.id.h
 have l4:=hexs_len it.id.l
 rw [it.id.h] at l4
 have d1:=dec_len it.fr.toNat
 have d2:=dec_len it.til.toNat
 unfold textG kGap kId
 generalize dec it.fr.toNat = s1 at *
 generalize dec it.til.toNat = s2 at *
 generalize hexs it.id.l = s4 at *
 have ht17:List.take 17 (ofBytes it.rc.boot.l ++ [(.vsl it.rc.fields.nil (encs it.rc.fields.l) it.rc.fields.l.length)]) = ofBytes it.rc.boot.l ++ [(.vsl it.rc.fields.nil (encs it.rc.fields.l) it.rc.fields.l.length)]:=List.take_of_length_le (by simp)
 refine call_run Tryz.func89 rfl ⟨rfl,rfl⟩ ?_
 have c0:6+s1.length≤4611686018427387904:=by omega
 have c1:s1.length≤4611686018427387897:=by omega
 simp [Tryz.f89,hw,hg,n1,n2,c0,c1,ht17]
 iterate
  refine ite_run (by omega) ?_
  try simp [x1]
end Go.Ev.S
namespace Go.Ev.S
open Go Go.Proofs Go.Ev
set_option maxHeartbeats 8000000 in
set_option maxRecDepth 8000 in
theorem rtext_rec [MaxL] (it:It) (hi:it.Ok) (hg:it.gap = false) (ho:itOk it = true):call cx 89 [.agg (Enc.cells it)] [] = some (.vsl false (ofBytes (textR it)) (textR it).length,[]):=by
 have hr:recOk it = true:=by
  unfold itOk at ho
  rwa [hg,if_neg (by decide)] at ho
 obtain ⟨hn,hb,hpl⟩:=prOk_b hr
 have hw:=rright_ev it hi hb (by omega)
 rw [ho] at hw
 have hbd:=bodyL_le it.rc.fields.l 400 hpl
 have hof:=rcof_ev it.id it.rc (by omega) hb
 have hsh:=rshow_ev (cOfP it.id it.rc) (cOfP_ok it.id it.rc hi.rc)
 have hr1:=hi.rc.real
 have hr2:=hi.rc.mono
 have hr3:=hi.rc.seq
 unfold isU64 at hr1 hr2 hr3
 have n1:=rdec_ev it.rc.real.toNat (by omega)
 have n2:=rdec_ev it.rc.mono.toNat (by omega)
 have n3:=rdec_ev it.rc.seq.toNat (by omega)
 have e1:((it.rc.real.toNat:Nat):Int) = it.rc.real:=by omega
 have e2:((it.rc.mono.toNat:Nat):Int) = it.rc.mono:=by omega
 have e3:((it.rc.seq.toNat:Nat):Int) = it.rc.seq:=by omega
 rw [e1] at n1
 rw [e2] at n2
 rw [e3] at n3
 have x1:=rhex_ev it.id.l it.id.h
 have x2:=rhex_ev it.rc.boot.l it.rc.boot.h
 have l0:=(showL_len (cOfP it.id it.rc)).2
 have l4:=hexs_len it.id.l
 have l5:=hexs_len it.rc.boot.l
 rw [it.id.h] at l4
 rw [it.rc.boot.h] at l5
 have d1:=dec_len it.rc.real.toNat
 have d2:=dec_len it.rc.mono.toNat
 have d3:=dec_len it.rc.seq.toNat
 obtain ⟨S0,hS0⟩:∃ S0,S0 = headL (sixL it):=⟨_,rfl⟩
 have hS0l:S0.length≤1806:=by
  rw [hS0]
  exact headL_le (sixL it) (sixL_le it hi)
 have hT:textR it = S0 ++ bodyL it.rc.fields.l ++ [10]:=by rw [hS0];rfl
 rw [hT]
 simp only [headL,sixL,kPlace,kReal,kMono,kSeq,kId,kBoot,List.map_cons,List.map_nil,List.flatten_cons,List.flatten_nil,List.append_assoc,List.cons_append,List.nil_append,List.append_nil] at hS0
 generalize showL (cOfP it.id it.rc) = s0 at *
 generalize dec it.rc.real.toNat = s1 at *
 generalize dec it.rc.mono.toNat = s2 at *
 generalize dec it.rc.seq.toNat = s3 at *
 generalize hexs it.id.l = s4 at *
 generalize hexs it.rc.boot.l = s5 at *
 have ht17:List.take 17 (ofBytes it.rc.boot.l ++ [(.vsl it.rc.fields.nil (encs it.rc.fields.l) it.rc.fields.l.length)]) = ofBytes it.rc.boot.l ++ [(.vsl it.rc.fields.nil (encs it.rc.fields.l) it.rc.fields.l.length)]:=List.take_of_length_le (by simp)
 have hb16:List.take 16 (ofBytes it.rc.boot.l ++ [(.vsl it.rc.fields.nil (encs it.rc.fields.l) it.rc.fields.l.length)]) = ofBytes it.rc.boot.l:=List.take_left' (by simp)
 rw [Rec.cells] at hof
 simp only [List.cons_append,List.nil_append] at hof
 refine call_run Tryz.func89 rfl ⟨rfl,rfl⟩ ?_
 have c0:s0.length≤4611686018427387895:=by omega
 simp [Tryz.f89,hw,hg,hof,hsh,ht17]
 iterate 20
  try refine ite_run (by omega) ?_
  try simp [n1,n2,n3,x1,x2,hb16,List.drop_append]
 rw [← hS0]
 clear hS0 n1 n2 n3 x1 x2 hof hsh c0 l0 d1 d2 d3 l4 l5
 obtain ⟨F,hF⟩:∃ F,F = it.rc.fields:=⟨_,rfl⟩
 rw [← hF] at hn hb hpl hbd ht17 hb16 ⊢
 obtain ⟨X,hX⟩:∃ X:List D,X = .int .u64 it.rc.seq :: .int .u64 it.rc.real :: .int .u64 it.rc.mono :: ofBytes it.rc.boot.l:=⟨_,rfl⟩
 have hXl:X.length = 19:=by rw [hX];simp [it.rc.boot.h]
 have hXf:idFree.idFreeL X = true:=by rw [hX];simp [idFree]
 have hE:D.int .u64 it.rc.seq :: .int .u64 it.rc.real :: .int .u64 it.rc.mono :: (ofBytes it.rc.boot.l ++ [(.vsl F.nil (encs F.l) F.l.length)]) = X ++ [(.vsl F.nil (encs F.l) F.l.length)]:=by rw [hX];rfl
 rw [hE]
 have hXd:List.drop 19 X = []:=List.drop_eq_nil_of_le (by omega)
 have hXc:∀ n,(∀ x,x∈X→closed n x = true) = True:=fun n=>eq_true (by
  have:=closedL_free n X hXf
  rw [closedL_all] at this
  exact List.all_eq_true.1 this)
 clear hE hX hF
 refine Run.loopThen (fun (k:Nat) e H'=>k≤F.l.length∧(H' = [some (Enc.cells it),some (X ++ [(.vsl F.nil (encs F.l) F.l.length)])]∨∃ p:Pr,H' = [some (Enc.cells it),some (X ++ [(.vsl F.nil (encs F.l) F.l.length)]),some [.str p.name,.str p.value]])∧look e 3 = some (.optr 1 20 0)∧look e 4 = some (.str (S0 ++ bodyL (F.l.take k)))∧look e 5 = some (.int .i64 k)) (fun k=>F.l.length - k) 0 ?_ ?_
 ·exact ⟨by omega,.inl rfl,by simp,by simp [bodyL],by simp⟩
 rintro k e H' ⟨hk,hH,k3,k4,k5⟩
 by_cases hlt:k < F.l.length
 ·have hlt':(k:Int) < (F.l.length:Int):=by omega
  have hw1:IntKind.i64.wrap ((k:Int)+1) = ((k+1:Nat):Int):=by rw [wrap_i64] <;> omega
  have hnn:=Sl.nn hlt
  have hpb:=hb _ (List.getElem_mem hlt)
  have hpl1:=hpl _ (List.getElem_mem hlt)
  have hp:=rplain_ev F.l[k].value hpb.2
  have hbs:=bodyL_snoc hlt
  have hbk:=bodyL_le (F.l.take k) 400 (fun p hp=>hpl p (List.mem_of_mem_take hp))
  have hlk:(F.l.take k).length≤16:=by simp;omega
  have hkl:(bodyL (F.l.take k)).length≤6400:=by
   have:(F.l.take k).length * 400≤16 * 400:=Nat.mul_le_mul_right _ hlk
   omega
  unfold pairL at hbs hpl1
  have hvl:=hpb.2
  have hnu:=nums1_ev F.l[k].value.length (by omega)
  obtain ⟨p,hp0⟩:∃ p,F.l[k] = p:=⟨_,rfl⟩
  rw [hp0] at hpb hpl1 hp hbs hvl hnu
  have hl8:=leB_len 8 p.value.length
  generalize leB 8 p.value.length = l8 at *
  have hwv:IntKind.u64.wrap (p.value.length:Int) = (p.value.length:Int):=by rw [wrap_u64] <;> omega
  generalize bodyL (F.l.take k) = B at *
  have hpn:=hpb.1
  have c2:S0.length+(B.length+p.name.length)≤4611686018427387904:=by omega
  cases hpv:plainV p.value with
  | true =>
   rw [hpv] at hp hpl1 hbs
   simp only [if_true] at hpl1 hbs
   simp only [List.length_append,List.length_cons,List.length_nil] at hpl1
   rcases hH with rfl | ⟨q,rfl⟩
   ·simp [k3,k4,k5,hlt',hlt,hnn,hp0,Pr.cells,hp,hXl]
    iterate 8
     try refine ite_run (by omega) ?_
     try simp [hw1]
    exact ⟨k+1,by omega,by omega,⟨p,rfl,rfl⟩,by rw [← hbs];simp,rfl⟩
   ·simp [k3,k4,k5,hlt',hlt,hnn,hp0,Pr.cells,hp,hXl,hXc]
    iterate 8
     try refine ite_run (by omega) ?_
     try simp [hw1]
    exact ⟨k+1,by omega,by omega,⟨p,rfl,rfl⟩,by rw [← hbs];simp,rfl⟩
  | false =>
   rw [hpv] at hp hpl1 hbs
   simp only [Bool.false_eq_true,if_false] at hpl1 hbs
   simp only [List.length_append,List.length_cons,List.length_nil] at hpl1
   have e0:S0.length+B.length+p.name.length≤4611686018427387904:=by omega
   have e1:S0.length+(B.length+p.name.length)≤4611686018427387903:=by omega
   have e2:S0.length+(B.length+(p.name.length+1))≤4611686018427387896:=by omega
   have e3:S0.length+(B.length+(p.name.length+9))+p.value.length≤4611686018427387904:=by omega
   have e4:S0.length+(B.length+(p.name.length+(8+p.value.length+1)))≤4611686018427387903:=by omega
   rcases hH with rfl | ⟨q,rfl⟩
   ·simp [k3,k4,k5,hlt',hlt,hw1,hnn,hp0,Pr.cells,hp,hnu,hl8,hwv,hXl,e0,e1,e2,e3,e4]
    iterate 8
     try refine ite_run (by omega) ?_
     try simp [k3,k4,k5,hlt',hlt,hw1,hnn,hp0,Pr.cells,hp,hnu,hl8,hwv,hXl,hXd,hXc,List.drop_append,e0,e1,e2,e3,e4]
    exact ⟨k+1,by omega,by omega,⟨p,rfl,rfl⟩,by rw [← hbs];simp,rfl⟩
   ·simp [k3,k4,k5,hlt',hlt,hw1,hnn,hp0,Pr.cells,hp,hnu,hl8,hwv,hXl,hXc,e0,e1,e2,e3,e4]
    iterate 8
     try refine ite_run (by omega) ?_
     try simp [k3,k4,k5,hlt',hlt,hw1,hnn,hp0,Pr.cells,hp,hnu,hl8,hwv,hXl,hXd,hXc,List.drop_append,e0,e1,e2,e3,e4]
    exact ⟨k+1,by omega,by omega,⟨p,rfl,rfl⟩,by rw [← hbs];simp,rfl⟩
 ·have hlt':¬ (k:Int) < (F.l.length:Int):=by omega
  have hke:k = F.l.length:=by omega
  subst hke
  rw [List.take_length] at k4
  have c1:S0.length+(bodyL F.l).length≤4611686018427387903:=by omega
  rcases hH with rfl | ⟨q,rfl⟩
  ·simp [k3,k4,k5,hlt',hXl,c1]
  ·simp [k3,k4,k5,hlt',hXl,hXc,c1]
end Go.Ev.S
namespace Go.Ev.S
open Go Go.Proofs Go.Ev Go.RowKit
end Go.Ev.S
namespace Go.Ev.S
open Go Go.Proofs Go.Ev
end Go.Ev.S
namespace Go.Ev
open Go Go.Proofs
mutual
theorem noZ_free:∀ (d:D),idFree d = true→noZ d = true
 | .agg cs,h=>by simp only [idFree] at h;simp only [noZ];exact noZL_free cs h
 | .tup cs,h=>by simp only [idFree] at h;simp only [noZ];exact noZL_free cs h
 | .fn _ cs,h=>by simp only [idFree] at h;simp only [noZ];exact noZL_free cs h
 | .iface _ d,h=>by simp only [idFree] at h;simp only [noZ];exact noZ_free d h
 | .optr ..,h=>by simp [idFree] at h
 | .osl ..,h=>by simp [idFree] at h
 | .bool _,_=>rfl
 | .int _ _,_=>rfl
 | .str _,_=>rfl
 | .nilp,_=>rfl
 | .nilf,_=>rfl
 | .nili,_=>rfl
 | .vptr _,_=>rfl
 | .vsl ..,_=>rfl
 | .raw _,_=>rfl
theorem noZL_free:∀ (l:List D),idFree.idFreeL l = true→noZ.noZL l = true
 | [],_=>rfl
 | d :: l,h=>by
  simp only [idFree.idFreeL,Bool.and_eq_true] at h
  simp only [noZ.noZL,noZ_free d h.1,noZL_free l h.2,Bool.and_self]
end
@[simp] theorem noZL_append (a b:List D):noZ.noZL (a ++ b) = (noZ.noZL a && noZ.noZL b):=by
 induction a with
 | nil=>simp [noZ.noZL]
 | cons d l ih=>simp [noZ.noZL,ih,Bool.and_assoc]
@[simp] theorem noZL_of (l:List UInt8):noZ.noZL (ofBytes l) = true:=noZL_free _ (by simp)
@[simp] theorem noZL_cells {α:Type} [Enc α] (a:α):noZ.noZL (Enc.cells a) = true:=noZL_free _ (cells_idFreeL a)
@[simp] theorem noZL_encs {α:Type} [Enc α] (l:List α):noZ.noZL (encs l) = true:=noZL_free _ (encs_idFreeL l)
end Go.Ev
namespace Go.Ev.S
open Go Go.Proofs Go.Ev
end Go.Ev.S
namespace Go.Ev.S
open Go Go.Proofs Go.Ev
def Rec.zero:Rec:=⟨0,0,0,ID.zero,.none⟩
end Go.Ev.S
namespace Go.Ev.S
open Go Go.Proofs Go.Ev
end Go.Ev.S
namespace Go.Ev.S
open Go Go.Proofs Go.Ev
def It.zero:It:=⟨ID.zero,false,0,0,Rec.zero⟩
theorem u64_zero:isU64 0:=by unfold isU64;decide
theorem Rec.zero_ok:Rec.zero.Ok:=⟨u64_zero,u64_zero,u64_zero⟩
end Go.Ev.S
namespace Go.Ev.S
open Go Go.Proofs Go.Ev
end Go.Ev.S
namespace Go.Ev.S
open Go Go.Proofs Go.Ev
end Go.Ev.S
namespace Go.Ev.S
open Go Go.Proofs Go.Ev
end Go.Ev.S
namespace Go.Ev.S
open Go Go.Proofs Go.Ev
end Go.Ev.S
namespace Go.Ev.S
open Go Go.Proofs Go.Ev
end Go.Ev.S
namespace Go.Ev.S
open Go Go.Proofs Go.Ev
theorem rtext_ev [MaxL] (it:It) (hi:it.Ok) (hb:∀ p∈it.rc.fields.l,PrB p) (hn:it.rc.fields.l.length < 1000000):call cx 89 [.agg (Enc.cells it)] [] = some (textD it,[]):=by
 unfold textD textL
 cases ho:itOk it with
 | false=>exact rtext_bad it hi hb hn ho
 | true =>
  cases hg:it.gap with
  | true=>exact rtext_gap it hi hg hb hn ho
  | false=>exact rtext_rec it hi hg ho
theorem It.zero_ok:It.zero.Ok:=⟨u64_zero,u64_zero,Rec.zero_ok⟩
structure ReadQ (b:List UInt8) (q:It × Nat × Bool):Prop where
 ok:q.1.Ok
 bs:∀ p∈q.1.rc.fields.l,p.name.length≤b.length∧p.value.length≤b.length
 n:q.1.rc.fields.l.length≤17
 le:q.2.1≤b.length
end Go.Ev.S
namespace Go.Ev.S
open Go Go.Proofs Go.Ev
theorem pu_dec {v:Nat} (h:v < 18446744073709551616):pu 10 (dec v) = some v:=by
 have hn:=num_dec h
 have hp:=dec_pos v
 unfold numP at hn
 split at hn
 ·cases hn
 ·unfold pu
  rw [if_neg (by intro e;rw [e] at hp;simp at hp)]
  exact hn
end Go.Ev.S
namespace Go.Ev.S
open Go Go.Proofs Go.Ev
theorem decF_ne:∀ (f v:Nat),∀ x∈decF f v,x≠13
 | 0,_=>by simp [decF]
 | f+1,v=>by
  have key:∀ k,k < 10→UInt8.ofNat (48+k)≠13:=fun k hk e=>by
   have:=congrArg UInt8.toNat e
   rw [UInt8.toNat_ofNat_of_lt' (show 48+k < 256 by omega)] at this
   simp at this
   omega
  rw [decF]
  split
  ·intro x hx
   rw [List.mem_singleton.1 hx]
   exact key v (by assumption)
  ·intro x hx
   rcases List.mem_append.1 hx with h | h
   ·exact decF_ne f _ x h
   ·rw [List.mem_singleton.1 h]
    exact key _ (Nat.mod_lt _ (by decide))
theorem dec_ne (v:Nat):∀ x∈dec v,x≠13:=decF_ne 20 v
theorem idx_skip {sep:List UInt8} {a:UInt8} (hs:sep.head? = some a):∀ (A B:List UInt8) (n:Nat),(∀ x∈A,x≠a)→idxN sep (A ++ B) n = idxN sep B (n+A.length)
 | [],B,n,_=>by simp
 | x :: A,B,n,h=>by
  have hx:x≠a:=h x (by simp)
  obtain ⟨sep',rfl⟩:∃ l,sep = a :: l:=by
   cases sep with
   | nil=>simp at hs
   | cons y l=>simp at hs;subst hs;exact ⟨l,rfl⟩
  rw [List.cons_append,idxN]
  have:((a :: sep').isPrefixOf (x :: (A ++ B))) = false:=by
   simp only [List.isPrefixOf,Bool.and_eq_false_iff]
   left
   simpa using Ne.symm hx
  rw [this,if_neg (by decide),idx_skip hs A B (n+1) fun y hy=>h y (by simp [hy])]
  congr 1
  simp
  omega
theorem idx_hit (sep B:List UInt8) (n:Nat) (h:sep≠[]):idxN sep (sep ++ B) n = (n:Int):=by
 have hp:sep.isPrefixOf (sep ++ B) = true:=by simp
 cases sep with
 | nil=>exact absurd rfl h
 | cons a l=>rw [List.cons_append,idxN,← List.cons_append,if_pos hp]
theorem idx_crlf (c:UInt8) (B:List UInt8) (n:Nat) (h:c≠13):idxN stopL (crlf ++ (c :: B)) n = idxN stopL (c :: B) (n+2):=by
 have hc:(13 == c) = false:=by simpa using Ne.symm h
 show idxN stopL (13 :: 10 :: c :: B) n = _
 rw [idxN,if_neg (by simp [stopL,List.isPrefixOf,hc]),idxN,if_neg (by simp [stopL,List.isPrefixOf])]
theorem cut_crlf (A B:List UInt8) (h:∀ x∈A,x≠13):cutL crlf (A ++ (crlf ++ B)) = (A,B,true):=by
 have hi:idxN crlf (A ++ (crlf ++ B)) 0 = (A.length:Int):=by
  rw [idx_skip (a:=13) rfl A _ 0 h,Nat.zero_add]
  exact idx_hit crlf B _ (by decide)
 unfold cutL
 rw [hi,if_neg (by omega)]
 have e:((A.length:Nat):Int).toNat = A.length:=by omega
 rw [e]
 have e2:List.drop (A.length+crlf.length) (A ++ (crlf ++ B)) = B:=by
  rw [← List.append_assoc,← List.length_append]
  exact List.drop_left
 rw [e2,List.take_left]
theorem trim_pre (p s:List UInt8):trimL p (p ++ s) = s:=by
 unfold trimL pre
 simp
theorem line_dec (line:List UInt8) (hl:∀ x∈line,x≠13) {D:List UInt8} (hD:∀ x∈D,x≠13) (B:List UInt8):lineP line (line ++ (D ++ (crlf ++ B))) = match pu 10 D with
  | none=>none
  | some v=>some (v,B):=by
 unfold lineP
 rw [← List.append_assoc,cut_crlf (line ++ D) B (fun x hx=>by
  rcases List.mem_append.1 hx with h | h
  ·exact hl x h
  ·exact hD x h)]
 simp only [trim_pre] <;> cases pu 10 D <;> rfl
def numsD (e n:Nat) (D:List UInt8):List UInt8:=epochL ++ (dec e ++ (crlf ++ (numberL ++ (dec n ++ (crlf ++ (lengthL ++ (D ++ (crlf ++ crlf))))))))
theorem numsD_dec (e n l:Nat):numsD e n (dec l) = numsL e n l:=rfl
theorem numbers_D (b:List UInt8) (e n:Nat) (he:e < 18446744073709551616) (hn:n < 18446744073709551616) (D:List UInt8) (hD:∀ x∈D,x≠13) :
  numbersP (b ++ numsD e n D) b = match pu 10 D with
   | none=>none
   | some v=>if dec v = D then some (e,n,v) else none:=by
 have hpre:pre b (b ++ numsD e n D) = true:=by unfold pre;simp
 have e1:lineP epochL (numsD e n D) = some (e,numberL ++ (dec n ++ (crlf ++ (lengthL ++ (D ++ (crlf ++ crlf)))))):=by
  unfold numsD
  rw [line_dec epochL (by decide) (dec_ne e),pu_dec he]
 have e2:lineP numberL (numberL ++ (dec n ++ (crlf ++ (lengthL ++ (D ++ (crlf ++ crlf)))))) = some (n,lengthL ++ (D ++ (crlf ++ crlf))):=by
  rw [line_dec numberL (by decide) (dec_ne n),pu_dec hn]
 have e3:lineP lengthL (lengthL ++ (D ++ (crlf ++ crlf))) = match pu 10 D with
   | none=>none
   | some v=>some (v,crlf):=line_dec lengthL (by decide) hD crlf
 rw [numbersP,if_pos hpre,List.drop_left,e1]
 simp only [e2,e3]
 cases hp:pu 10 D with
 | none=>rfl
 | some v =>
  simp only
  have:(b ++ numsL e n v = b ++ numsD e n D)↔dec v = D:=by
   rw [← numsD_dec]
   unfold numsD
   simp
  simp [this]
theorem numbers_nums (b:List UInt8) (e n l:Nat) (he:e < 18446744073709551616) (hn:n < 18446744073709551616) (hl:l < 18446744073709551616):numbersP (b ++ numsL e n l) b = some (e,n,l):=by
 rw [← numsD_dec,numbers_D b e n he hn (dec l) (dec_ne l),pu_dec hl]
 simp
theorem numbers_pre {s b:List UInt8} (h:pre b s = false):numbersP s b = none:=by
 rw [numbersP,h,if_neg (by decide)]
theorem idx_nums (e n:Nat) (D:List UInt8) (hD:∀ x∈D,x≠13) (body:List UInt8) (k:Nat):idxN stopL (numsD e n D ++ body) k = ((k+(numsD e n D).length - 4:Nat):Int):=by
 unfold numsD
 simp only [List.append_assoc]
 rw [idx_skip (a:=13) rfl epochL _ _ (by decide),idx_skip (a:=13) rfl (dec e) _ _ (dec_ne e)]
 show idxN stopL (crlf ++ (88 :: ([45,78,117,109,98,101,114,58,32] ++ (dec n ++ (crlf ++ (lengthL ++ (D ++ (crlf ++ (crlf ++ body))))))))) _ = _
 rw [idx_crlf 88 _ _ (by decide)]
 show idxN stopL (numberL ++ (dec n ++ (crlf ++ (lengthL ++ (D ++ (crlf ++ (crlf ++ body))))))) _ = _
 rw [idx_skip (a:=13) rfl numberL _ _ (by decide),idx_skip (a:=13) rfl (dec n) _ _ (dec_ne n)]
 show idxN stopL (crlf ++ (67 :: ([111,110,116,101,110,116,45,76,101,110,103,116,104,58,32] ++ (D ++ (crlf ++ (crlf ++ body)))))) _ = _
 rw [idx_crlf 67 _ _ (by decide)]
 show idxN stopL (lengthL ++ (D ++ (crlf ++ (crlf ++ body)))) _ = _
 rw [idx_skip (a:=13) rfl lengthL _ _ (by decide),idx_skip (a:=13) rfl D _ _ hD]
 show idxN stopL (stopL ++ body) _ = _
 rw [idx_hit stopL body _ (by decide)]
 congr 1
 simp only [List.length_append,crlf,List.length_cons,List.length_nil]
 omega
def Beg (b:List UInt8):Prop:= ∀ (R:List UInt8) (k:Nat),idxN stopL (b ++ (88 :: R)) k = idxN stopL (88 :: R) (k+b.length)
theorem beg_begin (p:List UInt8) (hp:∀ x∈p,x≠13):Beg (beginL p):=by
 intro R k
 unfold beginL
 simp only [List.append_assoc]
 rw [idx_skip (a:=13) rfl postL _ _ (by decide),idx_skip (a:=13) rfl p _ _ hp,idx_skip (a:=13) rfl httpL _ _ (by decide)]
 show idxN stopL (crlf ++ (72 :: ([111,115,116,58,32,114,101,99,101,105,118,101,114] ++ (crlf ++ (ctypeL ++ (crlf ++ (88 :: R))))))) _ = _
 rw [idx_crlf 72 _ _ (by decide)]
 show idxN stopL (hostL ++ (crlf ++ (ctypeL ++ (crlf ++ (88 :: R))))) _ = _
 rw [idx_skip (a:=13) rfl hostL _ _ (by decide)]
 show idxN stopL (crlf ++ (67 :: ([111,110,116,101,110,116,45,84,121,112,101,58,32,97,112,112,108,105,99,97,116,105,111,110,47,118,110,100,46,102,100,111,46,106,111,117,114,110,97,108] ++ (crlf ++ (88 :: R))))) _ = _
 rw [idx_crlf 67 _ _ (by decide)]
 show idxN stopL (ctypeL ++ (crlf ++ (88 :: R))) _ = _
 rw [idx_skip (a:=13) rfl ctypeL _ _ (by decide),idx_crlf 88 _ _ (by decide)]
 congr 1
 simp only [List.length_append,crlf,hostL,ctypeL,List.length_cons,List.length_nil]
 omega
theorem beg_status (n:Int):Beg (statusL n):=by
 intro R k
 unfold statusL
 have h:∀ x∈(if n = 400 then badStr else if n = 409 then conStr else okStr),x≠13:=by
  split
  ·decide
  ·split <;> decide
 generalize (if n = 400 then badStr else if n = 409 then conStr else okStr) = w at *
 simp only [List.append_assoc]
 rw [idx_skip (a:=13) rfl [72,84,84,80,47,49,46,49,32] _ _ (by decide),idx_skip (a:=13) rfl w _ _ h]
 show idxN stopL (crlf ++ (88 :: R)) _ = _
 rw [idx_crlf 88 _ _ (by decide)]
 congr 1
 simp only [List.length_append,List.length_cons,List.length_nil]
 omega
theorem idx_head {b:List UInt8} (hb:Beg b) (e n:Nat) (D:List UInt8) (hD:∀ x∈D,x≠13) (body:List UInt8):idxN stopL (b ++ (numsD e n D ++ body)) 0 = ((b.length+(numsD e n D).length - 4:Nat):Int):=by
 have h:=hb ((numsD e n D ++ body).tail) 0
 have e1:88 :: (numsD e n D ++ body).tail = numsD e n D ++ body:=by
  unfold numsD epochL
  rfl
 rw [e1,Nat.zero_add] at h
 rw [h,idx_nums e n D hD body]
theorem numsD_len (e n:Nat) (D:List UInt8):4≤(numsD e n D).length:=by
 simp only [numsD,List.length_append,epochL,List.length_cons,List.length_nil]
 omega
theorem readP_head {b:List UInt8} (hb:Beg b) (e n:Nat) (D:List UInt8) (hD:∀ x∈D,x≠13) (body:List UInt8) (l:List (List UInt8)):readP (b ++ (numsD e n D ++ body)) l = readB (b ++ numsD e n D) body l 0:=by
 have hi:=idx_head hb e n D hD body
 have h4:=numsD_len e n D
 unfold readP
 rw [hi,if_neg (by omega)]
 have e1:((b.length+(numsD e n D).length - 4:Nat):Int).toNat+4 = (b ++ numsD e n D).length:=by
  rw [List.length_append]
  omega
 rw [e1,← List.append_assoc,List.take_left,List.drop_left]
end Go.Ev.S
namespace Go.Ev.S
open Go Go.Proofs Go.Ev
theorem pre_ne {b c:List UInt8} (X:List UInt8) (i:Nat) (hb:i < b.length) (hc:i < c.length) (h:b[i]?≠c[i]?):pre b (c ++ X) = false:=by
 unfold pre
 rw [beq_eq_false_iff_ne]
 intro e
 have:(List.take b.length (c ++ X))[i]? = b[i]?:=by rw [e]
 rw [List.getElem?_take_of_lt hb,List.getElem?_append_left hc] at this
 exact h this.symm
theorem hello_batch (X:List UInt8):pre (beginL helloL) (beginL batchL ++ X) = false:=pre_ne X 6 (by decide) (by decide) (by decide)
theorem status_ne (s t:Int) (hs:s = 200∨s = 400∨s = 409) (ht:t = 200∨t = 400∨t = 409) (hne:s≠t) (X:List UInt8):pre (statusL s) (statusL t ++ X) = false:=by
 rcases hs with rfl | rfl | rfl <;> rcases ht with rfl | rfl | rfl <;> first | exact absurd rfl hne | exact pre_ne X 9 (by decide) (by decide) (by decide) | exact pre_ne X 11 (by decide) (by decide) (by decide)
def gotB (k:Nat) (x y z:Nat) (body:List UInt8):Msg × Int:=if 65536 < z then (.zero,21) else if body.length < z then (.zero,22) else if z < body.length then (.zero,21) else (⟨k,x,y,.of body⟩,0)
theorem readB_cons (s body b:List UInt8) (l:List (List UInt8)) (k:Nat):readB s body (b :: l) k = match numbersP s b with
  | none=>readB s body l (k+1)
  | some (x,y,z)=>gotB k x y z body:=rfl
theorem gotB_ok (k x y:Nat) (body:List UInt8) (h:body.length≤65536):gotB k x y body.length body = (⟨k,x,y,.of body⟩,0):=by
 unfold gotB
 rw [if_neg (by omega),if_neg (by omega),if_neg (by omega)]
section
variable (e n:Nat) (he:e < 18446744073709551616) (hn:n < 18446744073709551616) (body:List UInt8) (hb:body.length≤65536)
include he hn hb
theorem rdRq_back (p:List UInt8) (hp:p = helloL∨p = batchL):rdRq (beginL p ++ (numsL e n body.length ++ body)) = (⟨p,e,n,.of body⟩,0):=by
 have hr:readP (beginL p ++ (numsL e n body.length ++ body)) rqL = (⟨if p = helloL then 0 else 1,e,n,.of body⟩,0):=by
  rw [← numsD_dec,readP_head (beg_begin p (by rcases hp with rfl | rfl <;> decide)) e n _ (dec_ne _) body,numsD_dec]
  unfold rqL
  rw [readB_cons]
  rcases hp with rfl | rfl
  ·rw [numbers_nums _ e n _ he hn (by omega)]
   simp only [gotB_ok 0 e n body hb,if_true]
   rfl
  ·rw [numbers_pre (hello_batch _)]
   simp only [readB_cons,numbers_nums (beginL batchL) e n body.length he hn (by omega),gotB_ok 1 e n body hb]
   rw [if_neg (by decide)]
   rfl
 unfold rdRq
 rw [hr,if_pos rfl]
 simp only
 rcases hp with rfl | rfl
 ·rw [if_pos rfl];rfl
 ·rw [if_neg (by decide)];rfl
theorem rdRs_back (s:Int) (hs:s = 200∨s = 400∨s = 409):rdRs (statusL s ++ (numsL e n body.length ++ body)) = (⟨s,e,n,.of body⟩,0):=by
 have hr:readP (statusL s ++ (numsL e n body.length ++ body)) rsL = (⟨if s = 200 then 0 else if s = 400 then 1 else 2,e,n,.of body⟩,0):=by
  rw [← numsD_dec,readP_head (beg_status s) e n _ (dec_ne _) body,numsD_dec]
  unfold rsL
  rw [readB_cons]
  rcases hs with rfl | rfl | rfl
  ·rw [numbers_nums _ e n _ he hn (by omega)]
   simp only [gotB_ok 0 e n body hb,if_true]
   rfl
  ·rw [numbers_pre (status_ne 200 400 (by simp) (by simp) (by decide) _)]
   simp only [readB_cons,numbers_nums (statusL 400) e n body.length he hn (by omega),gotB_ok 1 e n body hb]
   rw [if_neg (by decide),if_pos trivial]
   rfl
  ·rw [numbers_pre (status_ne 200 409 (by simp) (by simp) (by decide) _)]
   simp only [readB_cons,numbers_pre (status_ne 400 409 (by simp) (by simp) (by decide) _),numbers_nums (statusL 409) e n body.length he hn (by omega),gotB_ok 2 e n body hb]
   rw [if_neg (by decide),if_neg (by decide)]
   rfl
 unfold rdRs
 rw [hr,if_pos rfl]
 simp only
 rcases hs with rfl | rfl | rfl
 ·rw [if_pos rfl];rfl
 ·rw [if_neg (by decide),if_pos rfl];rfl
 ·rw [if_neg (by decide),if_neg (by decide)];rfl
end
end Go.Ev.S
namespace Go.Ev.S
open Go Go.Proofs Go.Ev
theorem putrq_eq (p:List UInt8) (hp:p = helloL∨p = batchL) (e n:Int) (b:Sl UInt8) (hb:b.l.length≤65536):putRq ⟨p,e,n,b⟩ = .of (beginL p ++ (numsL e.toNat n.toNat b.l.length ++ b.l)):=by
 have h1:(p == helloL || p == batchL) = true:=by rcases hp with rfl | rfl <;> decide
 unfold putRq putH
 simp only [h1,if_true]
 rw [if_neg (by omega)]
theorem putrs_eq (s:Int) (hs:s = 200∨s = 400∨s = 409) (e n:Int) (b:Sl UInt8) (hb:b.l.length≤65536):putRs ⟨s,e,n,b⟩ = .of (statusL s ++ (numsL e.toNat n.toNat b.l.length ++ b.l)):=by
 unfold putRs putH
 simp only [hs,if_true]
 rw [if_neg (by omega)]
theorem rq_len (p:List UInt8) (hp:p = helloL∨p = batchL) (e n:Nat) (b:List UInt8):(beginL p ++ (numsL e n b.length ++ b)).length≤300+b.length:=by
 have h1:=nums_len e n b.length
 have h2:(beginL p).length = 81:=by rcases hp with rfl | rfl <;> decide
 simp only [List.length_append]
 omega
theorem rs_len (s:Int) (e n:Nat) (b:List UInt8):(statusL s ++ (numsL e n b.length ++ b)).length≤300+b.length:=by
 have h1:=nums_len e n b.length
 have h2:=status_len s
 simp only [List.length_append]
 omega
end Go.Ev.S
namespace Go.Ev.S
open Go Go.Proofs Go.Ev
def find? {α:Type} (p:α→Bool):List α→Int→Int
 | [],_=>-1
 | m :: l,i=>if p m then i else find? p l (i+1)

def getM (l:List Mk) (id:ID):Mk:=(l.find? fun m=>m.id == id).getD ⟨id,0,0,0⟩
theorem getM_id (l:List Mk) (id:ID):(getM l id).id = id:=by
 unfold getM
 cases h:l.find? (fun m=>m.id == id) with
 | none=>rfl
 | some m=>simpa using List.find?_some h
theorem getM_ok {l:List Mk} (hl:∀ m∈l,m.Ok) (id:ID):(getM l id).Ok:=by
 unfold getM
 cases h:l.find? (fun m=>m.id == id) with
 | none=>exact ⟨by simp [isU64],by simp [isU64],by simp [isU64]⟩
 | some m=>exact hl m (List.mem_of_find?_eq_some h)
end Go.Ev.S
namespace Go.Ev.S
open Go Go.Proofs Go.Ev
theorem compare_ev [MaxL] [TxtC] (x y:Sl UInt8):call cx 67 [(.vsl x.nil (ofBytes x.l) x.l.length),(.vsl y.nil (ofBytes y.l) y.l.length)] [] = some (.int .i64 (cmpB x.l y.l),[]):=by
 have h:call cx 105 [(.vsl x.nil (ofBytes x.l) x.l.length),(.vsl y.nil (ofBytes y.l) y.l.length)] [] = some (.int .i64 (cmpB x.l y.l),[]):=by
  rw [call_ext (X:=cx) (f:=105) rfl Tryz.func105 rfl,ex105,cmpExt_bytes x.nil y.nil x.l y.l x.h y.h]
  rfl
 refine call_run Tryz.func67 rfl ⟨rfl,rfl⟩ ?_
 simp [Tryz.f67,h]
theorem compare_id [MaxL] [TxtC] (x y:ID):call cx 67 [.vsl false (ofBytes x.l) 16,.vsl false (ofBytes y.l) 16] [] = some (.int .i64 (cmpB x.l y.l),[]):=by
 have h:=compare_ev (.of x.l) (.of y.l)
 simpa using h
def risesM:List Mk→Bool
 | a :: b :: l=>decide (cmpB a.id.l b.id.l < 0) && risesM (b :: l)
 | _=>true
def rightM (l:List Mk):Bool:=decide (l.length≤4) && risesM l

theorem right_ev [MaxL] [TxtC] (s:Sl Mk) (hn:s.l.length < 4611686018427387904) :
  call cx 62 [(.vsl s.nil (encs s.l) s.l.length)] [] = some (.bool (rightM s.l),[]):=by
 refine call_run Tryz.func62 rfl ⟨rfl,rfl⟩ ?_
 by_cases h4:s.l.length≤4
 ·have h4':¬ (4:Int) < (s.l.length:Int):=by omega
  simp [Tryz.f62,h4',rightM,h4]
  refine Run.loopThen (fun (i:Nat) e H=>1≤i∧(i≤s.l.length∨i = 1)∧H = []∧look e 0 = some (.vsl s.nil (encs s.l) s.l.length)∧look e 3 = some (.int .i64 i)∧risesM s.l = risesM (s.l.drop (i - 1))) (fun i=>s.l.length - i) 1 (by simp) ?_
  rintro i e H ⟨hi,hil,rfl,h0,h3,hr⟩
  by_cases hlt:i < s.l.length
  ·obtain ⟨k,hk⟩:∃ k,k+1 = i:=⟨i - 1,by omega⟩
   have hlt':(i:Int) < (s.l.length:Int):=by omega
   have hkl:k < s.l.length:=by omega
   have hkl':(k:Int) < (s.l.length:Int):=by omega
   have hw:IntKind.i64.wrap ((i:Int) - 1) = (k:Int):=by rw [wrap_i64] <;> omega
   have hw2:IntKind.i64.wrap ((i:Int)+1) = ((i+1:Nat):Int):=by rw [wrap_i64] <;> omega
   have hc:=compare_id s.l[k].id s.l[i].id
   have hr2:risesM s.l = (decide (cmpB s.l[k].id.l s.l[i].id.l < 0) && risesM (s.l.drop i)):=by
    have e1:i - 1 = k:=by omega
    have e2:s.l.drop k = s.l[k] :: s.l[i] :: s.l.drop (i+1):=by
     rw [List.drop_eq_getElem_cons hkl]
     congr 1
     rw [hk,List.drop_eq_getElem_cons hlt]
    rw [hr,e1,e2,risesM,List.drop_eq_getElem_cons hlt]
   have h16:∀ k,(16≤19+k) = True:=fun k=>eq_true (by omega)
   have ht:∀ (m:Mk) (r:List D),(Enc.cells m ++ r).take 16 = ofBytes m.id.l:=fun m r=>by simp [Mk.cells]
   by_cases hcm:cmpB s.l[k].id.l s.l[i].id.l < 0
   ·have hcm':¬ 0≤cmpB s.l[k].id.l s.l[i].id.l:=by omega
    rw [decide_eq_true hcm,Bool.true_and] at hr2
    simp [h0,h3,hlt',hw,hkl',Sl.nn hlt,h16,hlt,hkl,ht,hc,hcm',hw2]
    exact ⟨i+1,by omega,by omega,.inl (by omega),rfl,by simpa using hr2⟩
   ·have hcm':0≤cmpB s.l[k].id.l s.l[i].id.l:=by omega
    rw [decide_eq_false hcm,Bool.false_and] at hr2
    simp [h0,h3,hlt',hw,hkl',Sl.nn hlt,h16,hlt,hkl,ht,hc,hcm',hr2]
  ·have hlt':¬ (i:Int) < (s.l.length:Int):=by omega
   have hr2:risesM s.l = true:=by
    rw [hr]
    have:(s.l.drop (i - 1)).length≤1:=by rw [List.length_drop];omega
    match s.l.drop (i - 1),this with
    | [],_=>rfl
    | [a],_=>rfl
   simp [h0,h3,hlt',hr2]
 ·have h4':(4:Int) < (s.l.length:Int):=by omega
  simp [Tryz.f62,h4',rightM,h4]
theorem rightM_le {l:List Mk} (h:rightM l = true):l.length≤4:=by
 rw [rightM,Bool.and_eq_true] at h
 exact of_decide_eq_true h.1
end Go.Ev.S
namespace Go.Ev.S
open Go Go.Proofs Go.Ev
end Go.Ev.S
namespace Go.Ev.S
open Go Go.Proofs Go.Ev
theorem mclone_ev [MaxL] [TxtC] (s:Sl Mk) (hn:s.l.length≤3000000000) :
  call cx 44 [(.vsl s.nil (encs s.l) s.l.length)] [] = if s.nil then some (.vsl true [] 0,[]) else some (.osl 0 (s.l.length * 19) 0 s.l.length 19,[some (encs s.l)]):=by
 have h40:s.l.length * 40≤140737488355328:=by omega
 have hmx:s.l.length≤140737488355328:=by omega
 obtain ⟨nil,l,hnil⟩:=s
 simp only at hn h40 hmx ⊢
 cases nil with
 | true =>
  have hl0:=hnil rfl
  subst hl0
  rw [if_pos rfl]
  refine call_run Tryz.func44 rfl ⟨rfl,rfl⟩ ?_
  simp [Tryz.f44]
 | false =>
  rw [if_neg (by decide)]
  refine call_run Tryz.func44 rfl ⟨rfl,rfl⟩ ?_
  simp [Tryz.f44,h40,hmx,maxBytes]

def u64max:Int:=18446744073709551615
end Go.Ev.S
namespace Go.Ev.S
open Go Go.Proofs Go.Ev
def goesM (m:Mk) (it:It):Bool :=
 if it.gap then !(decide (it.fr≤m.seq) || decide (it.til < it.fr)) else !decide (it.rc.seq≤m.seq)
end Go.Ev.S
namespace Go.Ev.S
open Go Go.Proofs Go.Ev
def resS {α:Type} (c:Int) (s:Sl α):Sl α:=if c = 0 then s else .none
end Go.Ev.S
namespace Go.Ev.S
open Go Go.Proofs Go.Ev
def mkB (m:Mk):List UInt8:=m.id.l ++ (leB 8 m.seq.toNat ++ (leB 8 m.lost.toNat ++ leB 8 m.over.toNat))
def mksB (l:List Mk):List UInt8:=UInt8.ofNat l.length :: l.flatMap mkB
theorem mkB_len (m:Mk):(mkB m).length = 40:=by simp [mkB]
theorem mkBs_len (l:List Mk):(l.flatMap mkB).length = l.length * 40:=by
 induction l with
 | nil=>rfl
 | cons a l ih=>rw [List.flatMap_cons,List.length_append,ih,mkB_len,List.length_cons];omega
theorem leadd8 [MaxL] [TxtC] (l:List UInt8) (v:Nat) (hn:l.length≤140737488355000) :
  call cx 63 [.vsl false (ofBytes l) l.length,.int .i64 8,.int .u64 v] [] = some (.osl 0 (l.length+8) 0 (l.length+8) 1,[some (ofBytes (l ++ leB 8 v))]):=by
 obtain ⟨d,H,hb,hc⟩:=leadd_ev (.of l) 8 v (by simpa using hn)
 have e:leAdd l 8 v = l ++ leB 8 v:=by simp [leAdd,szOk]
 simp only [Sl.of_l,Sl.of_nil] at hb hc
 rw [e] at hb
 rcases hb with ⟨rfl,h,rfl⟩ | ⟨rfl,rfl⟩
 ·have:=congrArg List.length h
  simp at this
 ·rw [hc]
  simp
def bytesS (l:List Mk):Sl UInt8:=if rightM l then .of (mksB l) else .none
def BytesC (l:List Mk) (i:Nat) (X:List UInt8):Prop:=X = UInt8.ofNat l.length :: (l.take i).flatMap mkB
set_option maxRecDepth 4000 in
set_option maxHeartbeats 2000000 in
theorem bytes_ev [MaxL] [TxtC] (s:Sl Mk) (hn:s.l.length < 4611686018427387904) (hok:∀ m∈s.l,m.Ok) :
  call cx 66 [(.vsl s.nil (encs s.l) s.l.length)] [] = some ((.vsl (bytesS s.l).nil (ofBytes (bytesS s.l).l) (bytesS s.l).l.length),[]):=by
 have hr:=right_ev s hn
 refine call_run Tryz.func66 rfl ⟨rfl,rfl⟩ ?_
 cases h:rightM s.l with
 | false =>
  rw [h] at hr
  simp [Tryz.f66,hr,bytesS,h,ofBytes]
 | true =>
  rw [h] at hr
  have hl:=rightM_le h
  have hw8:IntKind.u8.wrap (s.l.length:Int) = (s.l.length:Int):=by rw [wrap_u8];omega
  simp [Tryz.f66,hr,bytesS,h,hw8]
  refine Run.loopThen (fun (i:Nat) e H=>i≤s.l.length∧∃ X:List UInt8,BytesC s.l i X∧H = [some (ofBytes X)]∧look e 3 = some (.osl 0 X.length 0 X.length 1)∧look e 15 = some (.vsl s.nil (encs s.l) s.l.length)∧look e 16 = some (.int .i64 s.l.length)∧look e 17 = some (.int .i64 i)) (fun i=>s.l.length - i) 0 ?_ ?_
  ·refine ⟨by omega,[UInt8.ofNat s.l.length],by simp [BytesC],?_⟩
   simp [ofBytes]
   omega
  rintro i e H ⟨hi,X,hX,rfl,h3,h15,h16,h17⟩
  by_cases hlt:i < s.l.length
  ·have hlt':(i:Int) < (s.l.length:Int):=by omega
   have hw:IntKind.i64.wrap ((i:Int)+1) = ((i+1:Nat):Int):=by rw [wrap_i64] <;> omega
   have hl40:=mkBs_len (s.l.take i)
   rw [List.length_take,Nat.min_eq_left hi] at hl40
   have hsn:BytesC s.l (i+1) (X ++ mkB s.l[i]):=by
    unfold BytesC at *
    rw [hX,List.take_succ_eq_append_getElem hlt,List.flatMap_append];simp
   have hXl:X.length≤200:=by rw [hX,List.length_cons,hl40];omega
   clear hX hl40
   have hm:=hok _ (List.getElem_mem hlt)
   obtain ⟨⟨m0,m1,m2,m3⟩,hme⟩:∃ m,s.l[i] = m:=⟨_,rfl⟩
   rw [hme] at hsn hm
   obtain ⟨a1,rfl⟩:∃ k:Nat,m1 = k:=⟨m1.toNat,by have:=hm.seq;simp [isU64] at this;omega⟩
   obtain ⟨a2,rfl⟩:∃ k:Nat,m2 = k:=⟨m2.toNat,by have:=hm.lost;simp [isU64] at this;omega⟩
   obtain ⟨a3,rfl⟩:∃ k:Nat,m3 = k:=⟨m3.toNat,by have:=hm.over;simp [isU64] at this;omega⟩
   have hb:X.length+16≤140737488355328:=by omega
   simp [h3,h15,h16,h17,hlt',hlt,Sl.nn hlt,hme,maxBytes,hb]
   clear h3 h15 h16 h17 e
   have d1:=leadd8 (X ++ m0.l) a1 (by simp;omega)
   have d2:=leadd8 (X ++ m0.l ++ leB 8 a1) a2 (by simp;omega)
   have d3:=leadd8 (X ++ m0.l ++ leB 8 a1 ++ leB 8 a2) a3 (by simp;omega)
   simp [ofBytes_append,Nat.add_assoc] at d1 d2 d3
   iterate 4
    refine run_unroll ?_
    simp [d1,d2,d3,hw,List.take_of_length_le]
   exact ⟨i+1,by omega,by omega,_,hsn,by simp [mkB,ofBytes_append],by simp [mkB],rfl⟩
  ·have hlt':¬ (i:Int) < (s.l.length:Int):=by omega
   have hit:s.l.take i = s.l:=List.take_of_length_le (by omega)
   have hXe:X = mksB s.l:=by rw [hX,hit];rfl
   simp [h3,h15,h16,h17,hlt',hXe]
end Go.Ev.S
namespace Go.Ev.S
open Go Go.Proofs Go.Ev
theorem order_ev [MaxL] [TxtC] (a b:Int):call cx 82 [.int .u64 a,.int .u64 b] [] = some (.int .i64 (if a < b then -1 else if b < a then 1 else 0),[]):=by
 refine call_run Tryz.func82 rfl ⟨rfl,rfl⟩ ?_
 by_cases h1:a < b
 ·simp [Tryz.f82,h1]
 ·by_cases h2:b < a
  ·simp [Tryz.f82,h1,h2]
  ·simp [Tryz.f82,h1,h2]
theorem cmpB_step:∀ {x y:List UInt8} {i:Nat} (hx:i < x.length) (hy:i < y.length),cmpB (x.drop i) (y.drop i) = if x[i] = y[i] then cmpB (x.drop (i+1)) (y.drop (i+1)) else if x[i] < y[i] then -1 else 1:=by
 intro x y i hx hy
 rw [List.drop_eq_getElem_cons hx,List.drop_eq_getElem_cons hy,cmpB]
set_option maxHeartbeats 1000000 in
theorem ids_ev [MaxL] [TxtC] (x y:ID):call cx 47 [.agg (ofBytes x.l),.agg (ofBytes y.l)] [] = some (.int .i64 (cmpB x.l y.l),[]):=by
 refine call_run Tryz.func47 rfl ⟨rfl,rfl⟩ ?_
 simp [Tryz.f47]
 refine Run.loopThen (fun (i:Nat) e H=>i≤16∧H = [some (ofBytes x.l),some (ofBytes y.l)]∧look e 2 = some (.optr 0 16 0)∧look e 3 = some (.optr 1 16 0)∧look e 5 = some (.int .i64 i)∧cmpB x.l y.l = cmpB (x.l.drop i) (y.l.drop i)) (fun i=>16 - i) 0 (by simp) ?_
 rintro i e H ⟨hi,rfl,h2,h3,h5,hr⟩
 by_cases hlt:i < 16
 ·have hlt':(i:Int) < 16:=by omega
  have hx:i < x.l.length:=by simp;omega
  have hy:i < y.l.length:=by simp;omega
  have hw:IntKind.i64.wrap ((i:Int)+1) = ((i+1:Nat):Int):=by rw [wrap_i64] <;> omega
  have hwx:IntKind.u64.wrap (x.l[i].toNat:Int) = (x.l[i].toNat:Int):=by rw [wrap_u64];have:=x.l[i].toNat_lt;omega
  have hwy:IntKind.u64.wrap (y.l[i].toNat:Int) = (y.l[i].toNat:Int):=by rw [wrap_u64];have:=y.l[i].toNat_lt;omega
  have ho:=order_ev (x.l[i].toNat:Int) (y.l[i].toNat:Int)
  rw [cmpB_step hx hy] at hr
  by_cases he:x.l[i] = y.l[i]
  ·rw [if_pos he] at hr
   simp [h2,h3,h5,hlt',ofBytes_at hx,ofBytes_at hy,he,hw]
   exact ⟨i+1,by omega,by omega,rfl,hr⟩
  ·have hne:¬ ((x.l[i].toNat:Int) = (y.l[i].toNat:Int)):=by
    intro h
    exact he (UInt8.toNat_inj.1 (by omega))
   have hne':¬ (x.l[i].toNat = y.l[i].toNat):=fun h=>he (UInt8.toNat_inj.1 h)
   rw [if_neg he] at hr
   have ho':(if (x.l[i].toNat:Int) < (y.l[i].toNat:Int) then (-1:Int) else if (y.l[i].toNat:Int) < (x.l[i].toNat:Int) then 1 else 0) = cmpB x.l y.l:=by
    rw [hr]
    by_cases hl:x.l[i] < y.l[i]
    ·have:x.l[i].toNat < y.l[i].toNat:=hl
     rw [if_pos hl,if_pos (by omega)]
    ·have:¬ x.l[i].toNat < y.l[i].toNat:=hl
     rw [if_neg hl,if_neg (by omega),if_pos (by omega)]
   rw [ho'] at ho
   simp [h2,h3,h5,hlt',ofBytes_at hx,ofBytes_at hy,hne,hwx,hwy,ho]
 ·have hlt':¬ (i:Int) < 16:=by omega
  have h16:i = 16:=by omega
  subst h16
  have e1:x.l.drop 16 = []:=List.drop_eq_nil_of_le (by simp)
  have e2:y.l.drop 16 = []:=List.drop_eq_nil_of_le (by simp)
  rw [e1,e2,cmpB] at hr
  simp [h2,h3,h5,hr]

set_option maxHeartbeats 1000000 in
theorem rmright_ev [MaxL] [TxtC] (s:Sl Mk) (hn:s.l.length < 4611686018427387904) :
  call cx 20 [(.vsl s.nil (encs s.l) s.l.length)] [] = some (.bool (rightM s.l),[]):=by
 refine call_run Tryz.func20 rfl ⟨rfl,rfl⟩ ?_
 simp [Tryz.f20]
 refine Run.loopThen (fun (i:Nat) e H=>1≤i∧(i≤s.l.length∨i = 1)∧H = []∧look e 0 = some (.vsl s.nil (encs s.l) s.l.length)∧look e 3 = some (.int .i64 i)∧risesM s.l = risesM (s.l.drop (i - 1))) (fun i=>s.l.length - i) 1 (by simp) ?_
 rintro i e H ⟨hi,hil,rfl,h0,h3,hr⟩
 by_cases hlt:i < s.l.length
 ·obtain ⟨k,hk⟩:∃ k,k+1 = i:=⟨i - 1,by omega⟩
  have hlt':(i:Int) < (s.l.length:Int):=by omega
  have hkl:k < s.l.length:=by omega
  have hkl':(k:Int) < (s.l.length:Int):=by omega
  have hw:IntKind.i64.wrap ((i:Int) - 1) = (k:Int):=by rw [wrap_i64] <;> omega
  have hw2:IntKind.i64.wrap ((i:Int)+1) = ((i+1:Nat):Int):=by rw [wrap_i64] <;> omega
  have hc:=ids_ev s.l[k].id s.l[i].id
  have hr2:risesM s.l = (decide (cmpB s.l[k].id.l s.l[i].id.l < 0) && risesM (s.l.drop i)):=by
   have e1:i - 1 = k:=by omega
   have e2:s.l.drop k = s.l[k] :: s.l[i] :: s.l.drop (i+1):=by
    rw [List.drop_eq_getElem_cons hkl]
    congr 1
    rw [hk,List.drop_eq_getElem_cons hlt]
   rw [hr,e1,e2,risesM,List.drop_eq_getElem_cons hlt]
  have h16:∀ k,(16≤19+k) = True:=fun k=>eq_true (by omega)
  by_cases hcm:cmpB s.l[k].id.l s.l[i].id.l < 0
  ·have hcm':¬ 0≤cmpB s.l[k].id.l s.l[i].id.l:=by omega
   rw [decide_eq_true hcm,Bool.true_and] at hr2
   simp [h0,h3,hlt',hw,hkl',Sl.nn hlt,h16,hlt,hkl,hc,hcm',hw2]
   exact ⟨i+1,by omega,by omega,.inl (by omega),rfl,by simpa using hr2⟩
  ·have hcm':0≤cmpB s.l[k].id.l s.l[i].id.l:=by omega
   rw [decide_eq_false hcm,Bool.false_and] at hr2
   simp [h0,h3,hlt',hw,hkl',Sl.nn hlt,h16,hlt,hkl,hc,hcm',hr2,rightM]
 ·have hlt':¬ (i:Int) < (s.l.length:Int):=by omega
  have hr2:risesM s.l = true:=by
   rw [hr]
   have:(s.l.drop (i - 1)).length≤1:=by rw [List.length_drop];omega
   match s.l.drop (i - 1),this with
   | [],_=>rfl
   | [a],_=>rfl
  by_cases h4:s.l.length≤4
  ·have h4':(s.l.length:Int)≤4:=by omega
   simp [h0,h3,hlt',hr2,h4,h4',rightM]
  ·have h4':¬ (s.l.length:Int)≤4:=by omega
   simp [h0,h3,hlt',hr2,h4,h4',rightM]
end Go.Ev.S
namespace Go.Ev.S
open Go Go.Proofs Go.Ev
end Go.Ev.S
namespace Go.Ev.S
open Go Go.Proofs Go.Ev
theorem mnumber_ev [MaxL] [TxtC] (n b:Int):call cx 24 [.int .i64 n,.int .i64 b] [] = some (.int .i64 (if b < 1 then 0 else (IntKind.i64.wrap (n.tmod b+b)).tmod b),[]):=by
 refine call_run Tryz.func24 rfl ⟨rfl,rfl⟩ ?_
 by_cases h1:b < 1
 ·simp [Tryz.f24,h1]
 ·have h2:b≠0:=by omega
  simp [Tryz.f24,h1,h2]
theorem num_ev [MaxL] [TxtC] (n:Int) (b:Nat) (hb:1≤b) (hb2:b≤1000000):∃ x:Nat,x < b∧call cx 24 [.int .i64 n,.int .i64 b] [] = some (.int .i64 x,[]):=by
 have h1:n.tmod b < b:=Int.tmod_lt_of_pos _ (by omega)
 have h2:-(b:Int) < n.tmod b:=by
  have:=Int.tmod_lt_of_pos (-n) (show (0:Int) < b by omega)
  rw [Int.neg_tmod] at this
  omega
 have h:=mnumber_ev n b
 rw [if_neg (by omega)] at h
 generalize n.tmod b = x at *
 have hw:IntKind.i64.wrap (x+b) = x+b:=by rw [wrap_i64];omega
 rw [hw] at h
 have h3:0≤x+b:=by omega
 have h4:=Int.tmod_nonneg (b:Int) h3
 have h5:=Int.tmod_lt_of_pos (x+b) (show (0:Int) < b by omega)
 refine ⟨((x+b).tmod b).toNat,by omega,?_⟩
 rw [h]
 congr 3
 omega
end Go.Ev.S
namespace Go.Ev.S
open Go Go.Proofs Go.Ev
def seqD (nil:Bool) (zs:List Int) (k:Nat):List D:=[.vsl nil (intsK .i64 zs) zs.length,.int .i64 k]
theorem intsK_at {k:IntKind} {l:List Int} {i:Nat} (h:i < l.length):(intsK k l).drop i = .int k l[i] :: intsK k (l.drop (i+1)):=by
 unfold intsK
 rw [← List.map_drop,List.drop_eq_getElem_cons h]
 rfl
@[simp] theorem intsK_len (k:IntKind) (l:List Int):(intsK k l).length = l.length:=by simp [intsK]
theorem seqD_free (nil:Bool) (zs:List Int) (k:Nat):(∀ x,x∈seqD nil zs k→idFree x = true) = True:=eq_true (by
 unfold seqD
 simp)
theorem seqD_len (nil:Bool) (zs:List Int) (k:Nat):(seqD nil zs k).length = 2:=rfl
theorem seqD_cl (nil:Bool) (zs:List Int) (k n:Nat):(∀ x,x∈seqD nil zs k→closed n x = true) = True:=eq_true (by
 unfold seqD
 simp)
theorem more_ev [MaxL] [TxtC] (nil:Bool) (zs:List Int) (k:Nat):call cx 58 [.optr 0 2 0] [some (seqD nil zs k)] = some (.bool (decide (k < zs.length)),[some (seqD nil zs k)]):=by
 refine call_run Tryz.func58 rfl ⟨rfl,rfl⟩ ?_
 unfold seqD
 by_cases h:k < zs.length
 ·have h':(k:Int) < (zs.length:Int):=by omega
  simp [Tryz.f58,h,h']
 ·have h':¬ (k:Int) < (zs.length:Int):=by omega
  simp [Tryz.f58,h,h']
theorem numI_ev [MaxL] [TxtC] (n b:Int) (hb:1≤b) (hb2:b≤1000000):∃ x:Nat,(x:Int) < b∧call cx 24 [.int .i64 n,.int .i64 b] [] = some (.int .i64 x,[]):=by
 obtain ⟨x,h1,h2⟩:=num_ev n b.toNat (by omega) (by omega)
 rw [show ((b.toNat:Nat):Int) = b by omega] at h2
 exact ⟨x,by omega,h2⟩
theorem n_ev [MaxL] [TxtC] (nil:Bool) (zs:List Int) (hnil:nil = true→zs = []) (hz:zs.length≤1000000) (k:Nat) (b:Int) (hb:1≤b) (hb2:b≤1000000) :
  ∃ x k':Nat,(x:Int) < b∧(k < zs.length→k < k')∧call cx 59 [.optr 0 2 0,.int .i64 b] [some (seqD nil zs k)] = some (.int .i64 x,[some (seqD nil zs k')]):=by
 unfold seqD
 by_cases hlt:k < zs.length
 ·have hnf:nil = false:=by
   cases nil with
   | false=>rfl
   | true=>rw [hnil rfl] at hlt;simp at hlt
  subst hnf
  have hlt':¬ (zs.length:Int)≤(k:Int):=by omega
  have hlt2:(k:Int) < (zs.length:Int):=by omega
  have hw:IntKind.i64.wrap ((k:Int)+1) = ((k+1:Nat):Int):=by rw [wrap_i64] <;> omega
  have hw2:IntKind.i64.wrap (((k+1:Nat):Int) - 1) = (k:Int):=by rw [wrap_i64] <;> omega
  have hw3:IntKind.i64.wrap (k:Int) = (k:Int):=by rw [wrap_i64];omega
  obtain ⟨x,hx,hn⟩:=numI_ev zs[k] b hb hb2
  refine ⟨x,k+1,hx,fun _=>Nat.lt_succ_self k,?_⟩
  refine call_run Tryz.func59 rfl ⟨rfl,rfl⟩ ?_
  simp [Tryz.f59,hlt',hw,hlt2,hw3,intsK_at hlt,hn]
 ·have hlt':(zs.length:Int)≤(k:Int):=by omega
  refine ⟨0,k,by omega,fun h=>absurd h hlt,?_⟩
  refine call_run Tryz.func59 rfl ⟨rfl,rfl⟩ ?_
  simp [Tryz.f59,hlt']
def namesL:List (List UInt8):=[[65],[66],[77,69,83,83,65,71,69],[95,80,73,68],[88,95,49],[80,82,73,79,82,73,84,89]]
def valuesL:List (List UInt8):=[[],[48],[49],[50,50],[97,61,98],[111,110,101,10,116,119,111],[0,255],[116,97,98,9,104,101,114,101],[108,111,110,103,32,108,111,110,103,32,108,111,110,103,32,108,111,110,103,32,108,111,110,103,32,108,111,110,103,32,108,111,110,103],[126,127,128]]
def strD (l:List (List UInt8)):List D:=l.map D.str
theorem strD_at {l:List (List UInt8)} {i:Nat} (h:i < l.length):(strD l).drop i = .str l[i] :: strD (l.drop (i+1)):=by
 unfold strD
 rw [← List.map_drop,List.drop_eq_getElem_cons h]
 rfl
theorem names_ev [MaxL] [TxtC]:call cx 164 [] [] = some (.vsl false (strD namesL) 6,[]):=by
 refine call_some.2 ⟨60,?_⟩
 kernel_rfl
theorem values_ev [MaxL] [TxtC]:call cx 165 [] [] = some (.vsl false (strD valuesL) 10,[]):=by
 refine call_some.2 ⟨60,?_⟩
 kernel_rfl
def mkOk (p:Pr):Bool:=prOk p && (decide (p.name.length≤8) && decide (p.value.length≤36))
theorem mkOk_ok {p:Pr} (h:mkOk p = true):prOk p = true:=by
 unfold mkOk at h
 rw [Bool.and_eq_true] at h
 exact h.1
theorem mkOk_len {p:Pr} (h:mkOk p = true):p.name.length≤8∧p.value.length≤36:=by
 unfold mkOk at h
 simp only [Bool.and_eq_true,decide_eq_true_eq] at h
 exact h.2
theorem pairs_ok:∀ n∈namesL,∀ v∈valuesL,mkOk ⟨n,v⟩ = true:=by decide
set_option maxHeartbeats 1000000 in
theorem mpair_ev [MaxL] [TxtC] (nil:Bool) (zs:List Int) (hnil:nil = true→zs = []) (hz:zs.length≤1000000) (k:Nat) :
  ∃ (p:Pr) (k':Nat),mkOk p = true∧call cx 139 [.optr 0 2 0] [some (seqD nil zs k)] = some (.agg (Enc.cells p),[some (seqD nil zs k')]):=by
 obtain ⟨x,k1,hx,-,h1⟩:=n_ev nil zs hnil hz k 6 (by decide) (by decide)
 obtain ⟨y,k2,hy,-,h2⟩:=n_ev nil zs hnil hz k1 10 (by decide) (by decide)
 have hx':x < namesL.length:=by show x < 6;omega
 have hy':y < valuesL.length:=by show y < 10;omega
 have g1:=names_ev
 have g2:=values_ev
 refine ⟨⟨namesL[x],valuesL[y]⟩,k2,pairs_ok _ (List.getElem_mem hx') _ (List.getElem_mem hy'),?_⟩
 have a1:=strD_at hx'
 have a2:=strD_at hy'
 generalize namesL[x] = n at *
 generalize valuesL[y] = v at *
 generalize strD namesL = N at *
 generalize strD valuesL = V at *
 refine call_run Tryz.func139 rfl ⟨rfl,rfl⟩ ?_
 unfold seqD at h1 h2 ⊢
 simp [Tryz.f139,h1,h2,g1,g2,a1,a2,hx,hy,Pr.cells]
def idN (j:Nat):ID:=⟨[94,0,0,0,0,0,0,0,0,0,0,0,0,0,0,UInt8.ofNat j],rfl⟩
theorem mid_small [MaxL] [TxtC] {j:Nat} (hj:j < 5):call cx 60 [.int .i64 j] [] = some (.agg (ofBytes (idN j).l),[]):=by
 have h:j = 0∨j = 1∨j = 2∨j = 3∨j = 4:=by omega
 refine call_some.2 ⟨60,?_⟩
 rcases h with rfl | rfl | rfl | rfl | rfl <;> kernel_rfl
end Go.Ev.S
namespace Go.Ev.S
open Go Go.Proofs Go.Ev
theorem nameOk_len {n:List UInt8} (h:nameOk n = true):n.length≤64:=by
 unfold nameOk at h
 split at h
 ·cases h
 ·simp only [Bool.and_eq_true,decide_eq_true_eq] at h
  exact h.1.1
theorem prOk_len {p:Pr} (h:prOk p = true):nameOk p.name = true∧p.name.length≤64∧p.value.length≤256:=by
 unfold prOk at h
 simp only [Bool.and_eq_true,decide_eq_true_eq] at h
 exact ⟨h.1,nameOk_len h.1,h.2⟩
theorem join_ev [MaxL] [TxtC] (p:Pr) (h:prOk p = true):call cx 137 [.agg (Enc.cells p)] [] = some (.tup [.vsl false (ofBytes (payL p)) (payL p).length,.int .i64 0],[]):=by
 obtain ⟨hn,hn2,hv⟩:=prOk_len h
 have hnm:=rname_ev p.name (by omega)
 rw [hn] at hnm
 have hp:=pay_ev p (by omega) (by omega)
 have hv':¬ (256:Int) < (p.value.length:Int):=by omega
 refine call_run Tryz.func137 rfl ⟨rfl,rfl⟩ ?_
 rw [Pr.cells] at hp ⊢
 have hl:(payL p).length≤321:=by unfold payL;simp;omega
 have hne:(payL p).length≠0:=by unfold payL;simp
 generalize payL p = w at *
 have hm:w.length≤140737488355328:=by omega
 simp [Tryz.f137,hnm,hp,hv']
theorem loopJ {X:Cx} {f nt n0:Nat} {Q:Ex→Env→Heap→Prop} {fs:List Fr} {c:Code} {σ:Type} (I:σ→Env→Heap→Prop) (m:σ→Nat) (s:σ) (J:Ex→Env→Heap→Prop) {e:Env} {H:Heap} (h0:I s e H)
  (step:∀ s e H,I s e H→Run X f nt n0 (fun ex e' H'=>match ex with | .normal=>∃ s',m s' < m s∧I s' e' H' | ex=>J ex e' H') [] (code X f nt n0 c e H))
  (done:∀ ex e H,J ex e H→Run X f nt n0 Q fs (some (ex,e,H))):Run X f nt n0 Q fs (code X f nt n0 (.loop c) e H):=by
 refine Run.loopThen I m s h0 fun s e H hi=>Run.mono (step s e H hi) fun ex e H hq=>?_
 rw [run_nil]
 cases ex with
 | normal=>exact hq
 | _=>exact done _ _ _ hq
def LsM (L:List Pr) (d:D) (H:Heap):Prop :=
 ∃ n k t,n = L.length * 2∧k = L.length∧((d = .osl 1 n 0 k 2∧H = [some t,some (encs L)])∨(d = .osl 0 n 0 k 2∧H = [some (encs L),some t])∨(d = .osl 0 n 0 k 2∧H = [some (encs L)]))
def LsH (out:List Pr) (d:D) (H:Heap):Prop :=
 (out = []∧d = .vsl true [] 0∧H = [])∨(out≠[]∧LsM out d H)
def LsQ (q:D × Heap):Prop:= ∃ out:List Pr,1≤out.length∧out.length≤4∧(∀ p∈out,mkOk p = true)∧q = (.tup [.vsl false (encs out) out.length,.int .i64 0],[])
set_option maxHeartbeats 4000000 in
theorem list_ev [MaxL] [TxtC] (l:List Pr) (h1:1≤l.length) (h4:l.length≤4) (hok:∀ p∈l,mkOk p = true):∃ q,call cx 93 [.vsl false (encs l) l.length] [] = some q∧LsQ q:=by
 refine call_runE (X:=cx) (f:=93) (args:=[.vsl false (encs l) l.length]) (H:=[]) LsQ Tryz.func93 rfl ⟨rfl,rfl⟩ ?_
 have hz:¬ l.length = 0:=by omega
 simp [Tryz.f93,hz]
 refine Run.loopThen (fun (q:Nat × List Pr) e H'=>q.1≤l.length∧q.2.length≤q.1∧(1≤q.1→1≤q.2.length)∧(∀ p∈q.2,mkOk p = true)∧look e 0 = some (.vsl false (encs l) l.length)∧look e 5 = some (.int .i64 (q.1:Nat))∧∃ d,look e 4 = some d∧LsH q.2 d H') (fun q=>l.length - q.1) (0,[]) ?_ ?_
 ·exact ⟨by simp,by simp,by simp,by simp,by simp,by simp,_,by simp,.inl ⟨rfl,rfl,rfl⟩⟩
 rintro ⟨i,out⟩ e H' ⟨hi,ho,ho1,hp,k0,k5,d,k4,hH⟩
 simp only at hi ho ho1 hp k5 hH
 by_cases hlt:i < l.length
 ·have hlt':(i:Int) < (l.length:Int):=by omega
  have hj:=join_ev l[i] (mkOk_ok (hok _ (List.getElem_mem hlt)))
  have hpl:=hok _ (List.getElem_mem hlt)
  obtain ⟨-,hb1,hb2⟩:=prOk_len (mkOk_ok hpl)
  have hw5:IntKind.i64.wrap ((i:Int)+1) = ((i+1:Nat):Int):=by rw [wrap_i64] <;> omega
  rw [Pr.cells] at hj
  rcases hH with ⟨rfl,rfl,rfl⟩ | ⟨hne,n,k,t,hn,hk,hH⟩
  ·simp [k0,k4,k5,hlt,hlt',hj,Pr.cells]
   refine run_unroll ?_
   simp [maxBytes]
   refine run_unroll ?_
   simp [hlt,hlt',Pr.cells,hw5]
   exact ⟨i+1,by omega,by omega,[l[i]],by simp,fun _=>by simp,by simp [hpl],by simp,.inr ⟨by simp,2,1,_,rfl,rfl,.inl ⟨rfl,rfl⟩⟩⟩
  have htk:List.take n (encs out) = encs out:=List.take_of_length_le (by simp;omega)
  have hlk:out.length = k:=hk.symm
  have hkn:k * 2 = n:=by omega
  have hm1:(k+1) * 32≤140737488355328:=by omega
  have hm2:k+1≤140737488355328:=by omega
  have hwk:IntKind.i64.wrap (k:Int) = (k:Int):=by rw [wrap_i64];omega
  rcases hH with ⟨rfl,rfl⟩ | ⟨rfl,rfl⟩ | ⟨rfl,rfl⟩
  all_goals
   simp [k0,k4,k5,hlt,hlt',hj,Pr.cells]
   refine loopJ (fun (z:Nat) e H'=>z≤k∧look e 0 = some (.vsl false (encs l) l.length)∧look e 4 = some (.osl 0 n 0 k 2)∧look e 5 = some (.int .i64 (i:Nat))∧look e 8 = some (.int .i64 (z:Nat))∧H' = [some (encs out)]) (fun z=>k - z) 0
    (fun ex e H'=>ex = .exit 2∧∃ z,z≤k∧look e 0 = some (.vsl false (encs l) l.length)∧look e 4 = some (.osl 0 n 0 k 2)∧look e 5 = some (.int .i64 (i:Nat))∧look e 8 = some (.int .i64 (z:Nat))∧H' = [some (encs out)]) ⟨Nat.zero_le _,by simp,by simp,by simp,by simp,rfl⟩ ?_ ?_
   ·clear k0 k4 k5
    rintro z e H' ⟨hz,k0,k4,k5,k8,rfl⟩
    have hwz:IntKind.i64.wrap ((z:Int)+1) = ((z+1:Nat):Int):=by rw [wrap_i64] <;> omega
    by_cases hzl:z < k
    ·have hzo:z < out.length:=by omega
     obtain ⟨-,c1,c2⟩:=prOk_len (mkOk_ok (hp _ (List.getElem_mem hzo)))
     have p1:=pay_ev out[z] (by omega) (by omega)
     have p2:=pay_ev l[i] (by omega) (by omega)
     rw [Pr.cells] at p1 p2
     generalize payL out[z] = w1 at *
     generalize payL l[i] = w2 at *
     cases hb:Op.bytesLess w1 w2 with
     | true =>
      simp [k0,k4,k5,k8,hzl,hlt,hlt',Pr.cells,p1,p2,hb,hwz,hlk,hkn]
      exact ⟨z+1,by omega,by omega,rfl⟩
     | false =>
      simp [k0,k4,k5,k8,hzl,hlt,hlt',Pr.cells,p1,p2,hb,hlk,hkn]
      exact ⟨z,hz,rfl⟩
    ·simp [k0,k4,k5,k8,hzl]
     exact ⟨z,hz,rfl⟩
   ·clear k0 k4 k5
    rintro ex e H' ⟨rfl,z,hz,k0,k4,k5,k8,rfl⟩
    have hcase:(∃ h:z < out.length,out[z].name = l[i].name∧out[z].value = l[i].value)∨(∃ h:z < out.length,¬ out[z].name = l[i].name)∨(∃ h:z < out.length,out[z].name = l[i].name∧¬ out[z].value = l[i].value)∨¬ z < k:=by
     by_cases h:z < out.length
     ·by_cases h1:out[z].name = l[i].name
      ·by_cases h2:out[z].value = l[i].value
       ·exact .inl ⟨h,h1,h2⟩
       ·exact .inr (.inr (.inl ⟨h,h1,h2⟩))
      ·exact .inr (.inl ⟨h,h1⟩)
     ·exact .inr (.inr (.inr (by omega)))
    have hcon:=fun (h:z < out.length)=>(show z < k by omega)
    rcases hcase with ⟨hzo,e1,e2⟩ | ⟨hzo,e1⟩ | ⟨hzo,e1,e2⟩ | hzl
    ·simp [k0,k4,k5,k8,hcon hzo,hlt,hlt',Pr.cells,e1,e2,hlk,hkn,hw5]
     exact ⟨i+1,by omega,by omega,out,by omega,fun _=>by omega,hp,by simp,.inr ⟨hne,n,k,t,hn,hk,.inr (.inr ⟨rfl,rfl⟩)⟩⟩
    all_goals
     first
      | simp [k0,k4,k5,k8,hcon hzo,hlt,hlt',Pr.cells,e1,e2,hlk,hkn,hwk,hm1,hm2,maxBytes]
      | simp [k0,k4,k5,k8,hcon hzo,hlt,hlt',Pr.cells,e1,hlk,hkn,hwk,hm1,hm2,maxBytes]
      | simp [k0,k4,k5,k8,hzl,hlk,hkn,hwk,hm1,hm2,maxBytes]
     refine loopJ (fun (q:Nat × List Pr) e H'=>z≤q.1∧q.1≤k∧q.2.length = k+1∧(∀ x (h:x < q.2.length),x≠q.1→mkOk q.2[x] = true)∧look e 0 = some (.vsl false (encs l) l.length)∧look e 4 = some (.osl 0 (n+2) 0 (k+1) 2)∧look e 5 = some (.int .i64 (i:Nat))∧look e 8 = some (.int .i64 (z:Nat))∧look e 9 = some (.int .i64 (q.1:Nat))∧H' = [some (encs q.2),some [.str [],.str []]]) (fun q=>q.1 - z) (k,out ++ [⟨[],[]⟩])
      (fun ex e H'=>ex = .exit 4∧∃ L:List Pr,L.length = k+1∧(∀ x (h:x < L.length),x≠z→mkOk L[x] = true)∧look e 0 = some (.vsl false (encs l) l.length)∧look e 4 = some (.osl 0 (n+2) 0 (k+1) 2)∧look e 5 = some (.int .i64 (i:Nat))∧look e 8 = some (.int .i64 (z:Nat))∧H' = [some (encs L),some [.str [],.str []]]) ?_ ?_ ?_
     ·refine ⟨hz,Nat.le_refl _,by simp [hlk],fun x h hx=>?_,by simp,by simp,by simp,by simp,by simp,by rw [encs_snoc];rfl⟩
      have hxo:x < out.length:=by simp at h;omega
      simp only [List.getElem_append_left hxo]
      exact hp _ (List.getElem_mem hxo)
     ·clear k0 k4 k5 k8
      rintro ⟨j,L⟩ e H' ⟨hzj,hjk,hLl,hLp,k0,k4,k5,k8,k9,rfl⟩
      simp only at hzj hjk hLl hLp k9
      by_cases hj2:z < j
      ·obtain ⟨a,rfl⟩:∃ a,j = a+1:=⟨j - 1,by omega⟩
       have hwa:IntKind.i64.wrap (((a+1:Nat):Int) - 1) = (a:Int):=by rw [wrap_i64] <;> omega
       have hwb:IntKind.i64.wrap ((a:Int)+1 - 1) = (a:Int):=by rw [wrap_i64] <;> omega
       have hwc:IntKind.i64.wrap (a:Int) = (a:Int):=by rw [wrap_i64];omega
       have hak:a < k:=by omega
       have ha1:(a:Int) < (k:Int)+1:=by omega
       have hza:(z:Int) < (a:Int)+1:=by omega
       have hza2:z < a+1:=hj2
       have h0a:(0:Int)≤(a:Int)+1:=by omega
       have ha2n:(a+1) * 2≤n:=by omega
       have ha2:a < L.length:=by omega
       have ha3:a+1 < L.length:=by omega
       have hLn:L.length * 2 = n+2:=by omega
       simp [k0,k4,k5,k8,k9,hwc,hak,ha1,ha2,ha3,hLn,hza,h0a,ha2n]
       refine ⟨a,by omega,by omega,by omega,_,by simp [hLl],fun x h hx=>?_,rfl,rfl⟩
       rw [List.getElem_set]
       split
       ·exact hLp a ha2 (by omega)
       ·exact hLp x (by simpa using h) (by omega)
      ·simp [k0,k4,k5,k8,k9,hj2]
       exact ⟨L,hLl,fun x h hx=>hLp x h (by omega),rfl⟩
     ·clear k0 k4 k5 k8
      rintro ex e H' ⟨rfl,L,hLl,hLp,k0,k4,k5,k8,rfl⟩
      have hzl2:z < L.length:=by omega
      have hz1:(z:Int) < (k:Int)+1:=by omega
      have hz2:z * 2≤n:=by omega
      have hLn:L.length * 2 = n+2:=by omega
      simp [k0,k4,k5,k8,hzl2,hlt,hlt',hw5,hz1,hz2,hLn]
      refine ⟨i+1,by omega,by omega,L.set z l[i],by simp [hLl];omega,fun _=>by simp [hLl],fun p hp=>?_,by simp,.inr ⟨fun h=>?_,n+2,k+1,_,by simp [hLn],by simp [hLl],.inr (.inl ⟨rfl,rfl⟩)⟩⟩
      ·obtain ⟨x,hx,rfl⟩:=List.mem_iff_getElem.1 hp
       rw [List.getElem_set]
       split
       ·exact hpl
       ·exact hLp x (by simpa using hx) (by omega)
      ·have:=congrArg List.length h
       simp [hLl] at this
 ·have hlt':¬ (i:Int) < (l.length:Int):=by omega
  have ho2:=ho1 (by omega)
  rcases hH with ⟨rfl,rfl,rfl⟩ | ⟨hne,n,k,t,hn,hk,hH⟩
  ·simp at ho2
  have h16:¬ (16:Int) < (k:Int):=by omega
  have htk:List.take n (encs out) = encs out:=List.take_of_length_le (by simp;omega)
  have hlk:out.length = k:=hk.symm
  have hkn:k * 2 = n:=by omega
  rcases hH with ⟨rfl,rfl⟩ | ⟨rfl,rfl⟩ | ⟨rfl,rfl⟩
  all_goals
   simp [k0,k4,k5,hlt',h16,htk,hlk,hkn]
   exact ⟨out,by omega,by omega,hp,by rw [hlk]⟩
end Go.Ev.S
namespace Go.Ev.S
open Go Go.Proofs Go.Ev
def GrowH {α:Type} [Enc α] (S:List D) (sz:Nat) (l:List α) (d:D) (H:Heap):Prop :=
 (l = []∧d = .vsl true [] 0∧H = [some S])∨(l≠[]∧∃ n k t,n = l.length * sz∧k = l.length∧((d = .osl 2 n 0 k sz∧H = [some S,some t,some (encs l)])∨(d = .osl 1 n 0 k sz∧H = [some S,some (encs l),some t])))
def PrsQ (nil:Bool) (zs:List Int) (q:D × Heap):Prop:= ∃ (l:List Pr) (k':Nat),1≤l.length∧l.length≤4∧(∀ p∈l,mkOk p = true)∧q = (.vsl false (encs l) l.length,[some (seqD nil zs k')])
set_option maxHeartbeats 1000000 in
theorem mpairs_ev [MaxL] [TxtC] (nil:Bool) (zs:List Int) (hnil:nil = true→zs = []) (hz:zs.length≤1000000) (k:Nat) :
  ∃ q,call cx 94 [.optr 0 2 0,.int .i64 4] [some (seqD nil zs k)] = some q∧PrsQ nil zs q:=by
 obtain ⟨x,k1,hx,-,h1⟩:=n_ev nil zs hnil hz k 4 (by decide) (by decide)
 refine call_runE (X:=cx) (f:=94) (args:=[.optr 0 2 0,.int .i64 4]) (H:=[some (seqD nil zs k)]) (PrsQ nil zs) Tryz.func94 rfl ⟨rfl,rfl⟩ ?_
 have hw:IntKind.i64.wrap ((x:Int)+1) = ((x+1:Nat):Int):=by rw [wrap_i64] <;> omega
 have sf:=seqD_free nil zs
 have sl:=seqD_len nil zs
 have sc:=seqD_cl nil zs
 simp [Tryz.f94,h1,sf]
 refine Run.loopThen (fun (q:List Pr × Nat × Nat) e H'=>q.1.length+q.2.1 = x+1∧(∀ p∈q.1,mkOk p = true)∧look e 0 = some (.optr 0 2 0)∧look e 6 = some (.int .i64 (q.2.1:Nat))∧∃ d,look e 5 = some d∧GrowH (seqD nil zs q.2.2) 2 q.1 d H') (fun q=>q.2.1) ([],x+1,k1) ?_ ?_
 ·exact ⟨by simp,by simp,by simp,by simp [hw],_,by simp,.inl ⟨rfl,rfl,rfl⟩⟩
 rintro ⟨l,i,k2⟩ e H' ⟨hi,hok,k0,k6,d,k5,hH⟩
 simp only at hi hok k6 hH
 obtain ⟨p,k3,hp,h2⟩:=mpair_ev nil zs hnil hz k2
 rcases hH with ⟨rfl,rfl,rfl⟩ | ⟨hne,n,m,t,hn,hm,hH⟩
 ·have hi0:0 < i:=by simp at hi;omega
  have hw2:IntKind.i64.wrap ((i:Int) - 1) = ((i - 1:Nat):Int):=by rw [wrap_i64] <;> (simp at hi;omega)
  simp [k0,k5,k6,hi0,h2,sf,sc,hw2,Pr.cells,maxBytes]
  exact ⟨[p],i - 1,by omega,by simp at hi ⊢;omega,by simp [hp],rfl,k3,.inr ⟨by simp,2,1,_,rfl,rfl,.inl ⟨rfl,rfl⟩⟩⟩
 ·have hm1:(m+1) * 32≤140737488355328:=by omega
  have hm2:m+1≤140737488355328:=by omega
  have hlk:l.length = m:=hm.symm
  have hkn:m * 2 = n:=by omega
  have htk:List.take n (encs l) = encs l:=List.take_of_length_le (by simp;omega)
  by_cases hi0:0 < i
  ·have hw2:IntKind.i64.wrap ((i:Int) - 1) = ((i - 1:Nat):Int):=by rw [wrap_i64] <;> omega
   rcases hH with ⟨rfl,rfl⟩ | ⟨rfl,rfl⟩
   all_goals
    simp [k0,k5,k6,hi0,h2,sf,sc,hw2,Pr.cells,maxBytes,hlk,hkn,hm1,hm2]
    refine ⟨l ++ [p],i - 1,by omega,by simp;omega,fun q hq=>?_,rfl,k3,.inr ⟨by simp,n+2,m+1,_,by simp;omega,by simp [hlk],.inr ⟨rfl,by rw [encs_snoc];rfl⟩⟩⟩
    rcases List.mem_append.1 hq with h | h
    ·exact hok q h
    ·rw [List.mem_singleton.1 h];exact hp
  ·have hie:l.isEmpty = false:=by simpa using hne
   have hl1:1≤l.length:=by
    cases l with
    | nil=>exact absurd rfl hne
    | cons=>simp
   rcases hH with ⟨rfl,rfl⟩ | ⟨rfl,rfl⟩
   all_goals
    simp [k0,k5,k6,hi0,sc,hlk,hkn,htk]
    exact ⟨l,k2,hl1,by omega,hok,by rw [hlk]⟩
end Go.Ev.S
namespace Go.Ev.S
open Go Go.Proofs Go.Ev
def RecR (n:Nat) (r:Rec):Prop:=r.seq = n∧r.Ok∧1≤r.fields.l.length∧r.fields.l.length≤4∧∀ p∈r.fields.l,mkOk p = true
theorem u64_of {n:Nat} (h:n < 18446744073709551616):isU64 (n:Int):=by
 unfold isU64
 omega
set_option maxHeartbeats 1000000 in
theorem mrec_ev [MaxL] [TxtC] (nil:Bool) (zs:List Int) (hnil:nil = true→zs = []) (hz:zs.length≤1000000) (k:Nat) (n:Nat) (hn:n < 18446744073709551616) :
  ∃ (r:Rec) (k':Nat),RecR n r∧call cx 61 [.optr 0 2 0,.int .u64 n] [some (seqD nil zs k)] = some (.agg (Enc.cells r),[some (seqD nil zs k')]):=by
 obtain ⟨q,h1,l,k1,hl1,hl4,hp,rfl⟩:=mpairs_ev nil zs hnil hz k
 obtain ⟨q,h2,out,ho1,ho4,hop,rfl⟩:=list_ev l hl1 hl4 hp
 obtain ⟨x,k2,hx,-,h3⟩:=n_ev nil zs hnil hz k1 40 (by decide) (by decide)
 obtain ⟨y,k3,hy,-,h4⟩:=n_ev nil zs hnil hz k2 9 (by decide) (by decide)
 obtain ⟨z,k4,hz3,-,h5⟩:=n_ev nil zs hnil hz k3 3 (by decide) (by decide)
 have h6:=mid_small (j:=z) (by omega)
 refine ⟨⟨n,x,y,idN z,.of out⟩,k4,⟨rfl,⟨u64_of hn,u64_of (by omega),u64_of (by omega)⟩,ho1,ho4,hop⟩,?_⟩
 have sf:=seqD_free nil zs
 have sl:=seqD_len nil zs
 have sc:=seqD_cl nil zs
 have hx64:IntKind.u64.wrap (x:Int) = (x:Int):=by rw [wrap_u64];omega
 have hy64:IntKind.u64.wrap (y:Int) = (y:Int):=by rw [wrap_u64];omega
 have hi:=(idN z).h
 generalize idN z = iz at *
 have ht:List.take 16 (ofBytes iz.l) = ofBytes iz.l:=List.take_of_length_le (by simp)
 have hd:List.drop 17 (ofBytes iz.l ++ [D.vsl true [] 0]) = []:=List.drop_eq_nil_of_le (by simp)
 refine call_run Tryz.func61 rfl ⟨rfl,rfl⟩ ?_
 simp [Tryz.f61,h1,h2,h3,h4,h5,h6,sf,sc,hx64,hy64,Rec.cells,hi,hd,List.take_append]

end Go.Ev.S
namespace Go.Ev.S
open Go Go.Proofs Go.Ev
def MadeI (it:It):Prop:=it.Ok∧itOk it = true∧it.rc.fields.l.length≤4∧∀ p∈it.rc.fields.l,mkOk p = true
theorem u64_zero':isU64 0:=by unfold isU64;decide
def recZ:Rec:=⟨0,0,0,ID.zero,.none⟩
theorem made_gap (q:ID) {n t:Nat} (h1:1≤n) (h2:n≤t) (h3:t < 18446744073709551616):MadeI ⟨q,true,n,t,recZ⟩:=by
 refine ⟨⟨u64_of (by omega),u64_of (by omega),⟨u64_zero',u64_zero',u64_zero'⟩⟩,?_,Nat.zero_le _,fun p hp=>by cases hp⟩
 unfold itOk gapOk
 simp [recZ,Sl.none]
 omega
theorem made_rec (q:ID) {n:Nat} {r:Rec} (h1:1≤n) (h:RecR n r):MadeI ⟨q,false,0,0,r⟩:=by
 obtain ⟨a,b,c,d,e⟩:=h
 refine ⟨⟨u64_zero',u64_zero',b⟩,?_,d,e⟩
 unfold itOk recOk
 simp [a]
 exact ⟨⟨⟨by omega,c⟩,by omega⟩,fun p hp=>mkOk_ok (e p hp)⟩
theorem intsK_set {k:IntKind} {l:List Int} {i:Nat} {v:Int} (h:i < l.length):setRange (intsK k l) i [.int k v] = intsK k (l.set i v):=by
 have hi:i < (intsK k l).length:=by simpa using h
 have e:(intsK k l).set i (.int k v) = intsK k (l.set i v):=by unfold intsK;rw [List.map_set]
 rw [← e,List.set_eq_take_append_cons_drop,if_pos hi]
 unfold setRange
 simp
theorem gap_cells (q:ID) (n t:Int):Enc.cells (⟨q,true,n,t,recZ⟩:It) = ofBytes q.l ++ [.bool true,.int .u64 n,.int .u64 t,.int .u64 0,.int .u64 0,.int .u64 0,.int .u8 0,.int .u8 0,.int .u8 0,.int .u8 0,.int .u8 0,.int .u8 0,.int .u8 0,.int .u8 0,.int .u8 0,.int .u8 0,.int .u8 0,.int .u8 0,.int .u8 0,.int .u8 0,.int .u8 0,.int .u8 0,.vsl true [] 0]:=by
 rw [It.cells]
 rfl
theorem rec_cells (q:ID) (r:Rec):Enc.cells (⟨q,false,0,0,r⟩:It) = ofBytes q.l ++ (.bool false :: .int .u64 0 :: .int .u64 0 :: Enc.cells r):=by
 rw [It.cells,Rec.cells]
 rfl
theorem rec_noZ (r:Rec):noZ.noZL (Enc.cells r) = true:=by
 rw [Rec.cells]
 simp
def ItsH (S:List D) (out:List It) (last:List Int) (d5 d6:D) (H:Heap):Prop :=
 (out = []∧d5 = .vsl true [] 0∧d6 = .optr 1 3 0∧H = [some S,some (intsK .u64 last)]) ∨
 (out≠[]∧∃ n m t,n = out.length * 39∧m = out.length∧((d5 = .osl 3 n 0 m 39∧d6 = .optr 1 3 0∧H = [some S,some (intsK .u64 last),some t,some (encs out)])∨(d5 = .osl 1 n 0 m 39∧d6 = .optr 2 3 0∧H = [some S,some (encs out),some (intsK .u64 last),some t])))
def ItsQ (nil:Bool) (zs:List Int) (most:Nat) (q:D × Heap):Prop:= ∃ (out:List It) (k':Nat),out.length≤most∧(∀ it∈out,MadeI it) ∧
 ((out = []∧q = (.vsl true [] 0,[some (seqD nil zs k')]))∨(out≠[]∧∃ n m,n = out.length * 39∧m = out.length∧q = (.osl 1 n 0 m 39,[some (seqD nil zs k'),some (encs out)])))
set_option maxHeartbeats 4000000 in
theorem items_ev [MaxL] [TxtC] (nil:Bool) (zs:List Int) (hnil:nil = true→zs = []) (hz:zs.length≤1000000) (k:Nat) (most:Nat) (hmost:most≤100) :
  ∃ q,call cx 30 [.optr 0 2 0,.int .i64 most] [some (seqD nil zs k)] = some q∧ItsQ nil zs most q:=by
 refine call_runE (X:=cx) (f:=30) (args:=[.optr 0 2 0,.int .i64 most]) (H:=[some (seqD nil zs k)]) (ItsQ nil zs most) Tryz.func30 rfl ⟨rfl,rfl⟩ ?_
 have sf:=seqD_free nil zs
 have sl:=seqD_len nil zs
 have sc:=seqD_cl nil zs
 simp [Tryz.f30]
 refine Run.loopThen (fun (q:List It × List Int × Nat) e H'=>q.1.length≤most∧(∀ it∈q.1,MadeI it)∧q.2.1.length = 3∧(∀ v∈q.2.1,0≤v∧v≤q.1.length * 6)∧look e 0 = some (.optr 0 2 0)∧look e 1 = some (.int .i64 most)∧∃ d5 d6,look e 5 = some d5∧look e 6 = some d6∧ItsH (seqD nil zs q.2.2) q.1 q.2.1 d5 d6 H') (fun q=>most - q.1.length) ([],[0,0,0],k) ?_ ?_
 ·exact ⟨by simp,by simp,by simp,by simp,by simp,by simp,_,_,by simp,by simp,.inl ⟨rfl,rfl,rfl,rfl⟩⟩
 rintro ⟨out,last,k1⟩ e H' ⟨ho,hmade,hl3,hlast,k0,k1',d5,d6,k5,k6,hH⟩
 simp only at ho hmade hl3 hlast hH
 have hmo:=more_ev nil zs k1
 have hlf:(∀ x,x∈intsK .u64 last→idFree x = true) = True:=eq_true (by simp [intsK])
 have hlc:∀ n,(∀ x,x∈intsK .u64 last→closed n x = true) = True:=fun n=>eq_true (by simp [intsK])
 obtain ⟨x1,k2,hx1,-,c1⟩:=n_ev nil zs hnil hz k1 3 (by decide) (by decide)
 obtain ⟨x2,k3,hx2,-,c2⟩:=n_ev nil zs hnil hz k2 3 (by decide) (by decide)
 obtain ⟨x3,k4,hx3,-,c3⟩:=n_ev nil zs hnil hz k3 4 (by decide) (by decide)
 obtain ⟨x4,k5',hx4,-,c4⟩:=n_ev nil zs hnil hz k4 4 (by decide) (by decide)
 have hid:=mid_small (j:=x1) (by omega)
 have hx1l:x1 < last.length:=by omega
 have hat:=intsK_at (k:=.u64) hx1l
 have hx1i:(x1:Int) < 3:=hx1
 have hxn:x1 < 3:=by omega
 have hxn2:x1+1≤3:=by omega
 obtain ⟨hv0,hv1⟩:=hlast _ (List.getElem_mem hx1l)
 obtain ⟨v,hv⟩:∃ v:Nat,last[x1] = (v:Int):=⟨last[x1].toNat,by omega⟩
 rw [hv] at hat hv0 hv1
 have w1:IntKind.u64.wrap ((v:Int)+1) = (v:Int)+1:=by rw [wrap_u64];omega
 have w2:IntKind.u64.wrap (x2:Int) = (x2:Int):=by rw [wrap_u64];omega
 have w3:IntKind.u64.wrap ((v:Int)+1+(x2:Int)) = (v:Int)+1+(x2:Int):=by rw [wrap_u64];omega
 have w4:IntKind.u64.wrap (x4:Int) = (x4:Int):=by rw [wrap_u64];omega
 have w5:IntKind.u64.wrap ((v:Int)+1+(x2:Int)+(x4:Int)) = (v:Int)+1+(x2:Int)+(x4:Int):=by rw [wrap_u64];omega
 obtain ⟨r,k6',hr,c6⟩:=mrec_ev nil zs hnil hz k4 (v+1+x2) (by omega)
 rw [show ((v+1+x2:Nat):Int) = (v:Int)+1+x2 by omega] at c6
 have hq:=(idN x1).h
 have hgm:=made_gap (idN x1) (n:=v+1+x2) (t:=v+1+x2+x4) (by omega) (by omega) (by omega)
 have hrm:=made_rec (idN x1) (n:=v+1+x2) (by omega) hr
 rw [show ((v+1+x2:Nat):Int) = (v:Int)+1+x2 by omega] at hgm
 rw [show ((v+1+x2+x4:Nat):Int) = (v:Int)+1+x2+x4 by omega] at hgm
 generalize idN x1 = iq at *
 have hq16:List.take 16 (ofBytes iq.l) = ofBytes iq.l:=List.take_of_length_le (by simp)
 have hq39:List.take 39 (ofBytes iq.l) = ofBytes iq.l:=List.take_of_length_le (by simp)
 have hset1:=fun x=>intsK_set (k:=.u64) (v:=x) hx1l
 have hlast1:∀ x:Int,0≤x→x≤(out.length+1:Nat) * 6→∀ y∈last.set x1 x,0≤y∧y≤(out.length+1:Nat) * 6:=by
  intro x h1 h2 y hy
  rcases List.mem_or_eq_of_mem_set hy with h | rfl
  ·have:=hlast y h
   omega
  ·exact ⟨h1,h2⟩
 have hrz:=rec_noZ r
 by_cases h0:out.length < most
 case neg =>
  rcases hH with ⟨rfl,rfl,rfl,rfl⟩ | ⟨hne,n,m,t,hn,hm,hH⟩
  ·have h00:¬ 0 < most:=h0
   simp [k0,k1',k5,k6,sc,hlf,h00]
   exact ⟨[],k1,by simp,by simp,.inl ⟨rfl,rfl⟩⟩
  have h00:¬ m < most:=by omega
  have hkn:m * 39 = n:=by omega
  have hlk:out.length = m:=hm.symm
  have htk:List.take n (encs out) = encs out:=List.take_of_length_le (by simp;omega)
  rcases hH with ⟨rfl,rfl,rfl⟩ | ⟨rfl,rfl,rfl⟩
  all_goals
   simp [k0,k1',k5,k6,sc,hlf,h00,hlk]
   exact ⟨out,k1,by omega,hmade,.inr ⟨hne,n,m,by omega,by omega,rfl⟩⟩
 cases hmm:decide (k1 < zs.length) with
 | false =>
  rw [hmm] at hmo
  rcases hH with ⟨rfl,rfl,rfl,rfl⟩ | ⟨hne,n,m,t,hn,hm,hH⟩
  ·have h00:0 < most:=h0
   simp [k0,k1',k5,k6,hmo,sf,sc,hlf,h00]
   exact ⟨[],k1,by simp,by simp,.inl ⟨rfl,rfl⟩⟩
  have h00:m < most:=by omega
  have hkn:m * 39 = n:=by omega
  have hlk:out.length = m:=hm.symm
  have htk:List.take n (encs out) = encs out:=List.take_of_length_le (by simp;omega)
  rcases hH with ⟨rfl,rfl,rfl⟩ | ⟨rfl,rfl,rfl⟩
  all_goals
   simp [k0,k1',k5,k6,hmo,sf,sc,hlf,h00,hlk]
   exact ⟨out,k1,by omega,hmade,.inr ⟨hne,n,m,by omega,by omega,rfl⟩⟩
 | true =>
  rw [hmm] at hmo
  rcases hH with ⟨rfl,rfl,rfl,rfl⟩ | ⟨hne,n,m,t,hn,hm,hH⟩
  ·have h00:0 < most:=h0
   by_cases h3:x3 = 0
   ·subst h3
    simp [k0,k1',k5,k6,hmo,sf,sc,hlf,hl3,h00,c1,c2,c3,c4,hat,hx1i,hxn2,w1,w2,w3,w4,w5,hid,maxBytes,hq,hq39,List.take_append,List.drop_append,drop_bytes,hset1]
    refine ⟨[⟨iq,true,(v:Int)+1+x2,(v:Int)+1+x2+x4,recZ⟩],by simp;omega,by simp;omega,by simpa using hgm,last.set x1 ((v:Int)+1+x2+x4),by simp [hl3],hlast1 _ (by omega) (by simp at hv1 ⊢;omega),k5',.inr ⟨by simp,39,1,_,rfl,rfl,.inl ⟨rfl,rfl,by rw [encs_one,gap_cells]⟩⟩⟩
   ·have h3':¬ (x3:Int) = 0:=by omega
    simp [k0,k1',k5,k6,hmo,sf,sc,hlf,hl3,h00,c1,c2,c3,h3,c6,hrz,hat,hx1i,hxn2,w1,w2,w3,hid,maxBytes,hq,hq39,List.take_append,List.drop_append,drop_bytes,hset1]
    refine ⟨[⟨iq,false,0,0,r⟩],by simp;omega,by simp;omega,by simpa using hrm,last.set x1 ((v:Int)+1+x2),by simp [hl3],hlast1 _ (by omega) (by simp at hv1 ⊢;omega),k6',.inr ⟨by simp,39,1,_,rfl,rfl,.inl ⟨rfl,rfl,by rw [encs_one,rec_cells]⟩⟩⟩
  have h00:m < most:=by omega
  have hkn:m * 39 = n:=by omega
  have hlk:out.length = m:=hm.symm
  have htk:List.take n (encs out) = encs out:=List.take_of_length_le (by simp;omega)
  have hm1:(m+1) * 104≤140737488355328:=by omega
  have hm2:m+1≤140737488355328:=by omega
  rcases hH with ⟨rfl,rfl,rfl⟩ | ⟨rfl,rfl,rfl⟩
  all_goals
   by_cases h3:x3 = 0
   ·subst h3
    simp [k0,k1',k5,k6,hmo,sf,sc,hlf,hl3,h00,hkn,hlk,hm1,hm2,c1,c2,c3,c4,hat,hx1i,hxn2,w1,w2,w3,w4,w5,hid,maxBytes,hq,hq39,List.take_append,List.drop_append,drop_bytes,hset1]
    refine ⟨out ++ [⟨iq,true,(v:Int)+1+x2,(v:Int)+1+x2+x4,recZ⟩],by simp;omega,by simp;omega,fun it h=>?_,last.set x1 ((v:Int)+1+x2+x4),by simp [hl3],by simpa using hlast1 _ (by omega) (by simp at hv1 ⊢;omega),k5',.inr ⟨by simp,n+39,m+1,_,by simp;omega,by simp [hlk],.inr ⟨rfl,rfl,by rw [encs_snoc,gap_cells]⟩⟩⟩
    rcases List.mem_append.1 h with h | h
    ·exact hmade it h
    ·rw [List.mem_singleton.1 h];exact hgm
   ·have h3':¬ (x3:Int) = 0:=by omega
    simp [k0,k1',k5,k6,hmo,sf,sc,hlf,hl3,h00,hkn,hlk,hm1,hm2,c1,c2,c3,h3,c6,hrz,hat,hx1i,hxn2,w1,w2,w3,hid,maxBytes,hq,hq39,List.take_append,List.drop_append,drop_bytes,hset1]
    refine ⟨out ++ [⟨iq,false,0,0,r⟩],by simp;omega,by simp;omega,fun it h=>?_,last.set x1 ((v:Int)+1+x2),by simp [hl3],by simpa using hlast1 _ (by omega) (by simp at hv1 ⊢;omega),k6',.inr ⟨by simp,n+39,m+1,_,by simp;omega,by simp [hlk],.inr ⟨rfl,rfl,by rw [encs_snoc,rec_cells]⟩⟩⟩
    rcases List.mem_append.1 h with h | h
    ·exact hmade it h
    ·rw [List.mem_singleton.1 h];exact hrm
end Go.Ev.S
namespace Go.Ev.S
open Go Go.Proofs Go.Ev
theorem idN_lt:∀ j < 4,∀ i < j,cmpB (idN i).l (idN j).l < 0:=by decide
structure FewN (i:Nat) (l:List Mk):Prop where
 rises:risesM l = true
 ok:∀ m∈l,m.Ok
 id:∀ m∈l,∃ j,j < i∧m.id = idN j
 len:l.length≤i
theorem rises_snocN:∀ {l:List Mk} {m:Mk},risesM l = true→(∀ x∈l,cmpB x.id.l m.id.l < 0)→risesM (l ++ [m]) = true
 | [],_,_,_=>rfl
 | [a],m,_,h=>by simp [risesM,h a (List.mem_cons_self ..)]
 | a :: b :: l,m,hr,h=>by
  simp only [risesM,Bool.and_eq_true] at hr
  have:=rises_snocN (l:=b :: l) hr.2 fun x hx=>h x (List.mem_cons_of_mem _ hx)
  simp only [List.cons_append,risesM,Bool.and_eq_true] at this ⊢
  exact ⟨hr.1,this⟩
theorem FewN.same {i:Nat} {l:List Mk} (h:FewN i l):FewN (i+1) l :=
 ⟨h.rises,h.ok,fun m hm=>by obtain ⟨j,h1,h2⟩:=h.id m hm;exact ⟨j,by omega,h2⟩,by have:=h.len;omega⟩
theorem FewN.add {i:Nat} {l:List Mk} (h:FewN i l) (hi:i < 4) {a b c:Nat} (ha:a < 1000) (hb:b < 1000) (hc:c < 1000):FewN (i+1) (l ++ [⟨idN i,a,b,c⟩]):=by
 refine ⟨rises_snocN h.rises fun x hx=>?_,fun m hm=>?_,fun m hm=>?_,by have:=h.len;simp;omega⟩
 ·obtain ⟨j,h1,h2⟩:=h.id x hx
  rw [h2]
  exact idN_lt i hi j h1
 ·rcases List.mem_append.1 hm with h' | h'
  ·exact h.ok m h'
  ·rw [List.mem_singleton.1 h']
   exact ⟨by simp only [isU64];omega,by simp only [isU64];omega,by simp only [isU64];omega⟩
 ·rcases List.mem_append.1 hm with h' | h'
  ·obtain ⟨j,h1,h2⟩:=h.id m h'
   exact ⟨j,by omega,h2⟩
  ·rw [List.mem_singleton.1 h']
   exact ⟨i,by omega,rfl⟩
def GrowM (S:List D) (l:List Mk) (d:D) (H:Heap):Prop :=
 (l = []∧d = .vsl true [] 0∧H = [some S])∨(l≠[]∧∃ n k t,n = l.length * 19∧k = l.length∧((d = .osl 2 n 0 k 19∧H = [some S,some t,some (encs l)])∨(d = .osl 1 n 0 k 19∧H = [some S,some (encs l),some t])∨(d = .osl 1 n 0 k 19∧H = [some S,some (encs l)])))
def MksQ (nil:Bool) (zs:List Int) (q:D × Heap):Prop:= ∃ (l:List Mk) (k':Nat),FewN 4 l∧q = ((.vsl ((⟨l.isEmpty,l,fun h=>by simpa using h⟩:Sl Mk)).nil (encs ((⟨l.isEmpty,l,fun h=>by simpa using h⟩:Sl Mk)).l) ((⟨l.isEmpty,l,fun h=>by simpa using h⟩:Sl Mk)).l.length),[some (seqD nil zs k')])
set_option maxHeartbeats 2000000 in
theorem mmarks_ev [MaxL] [TxtC] (nil:Bool) (zs:List Int) (hnil:nil = true→zs = []) (hz:zs.length≤1000000) (k:Nat) :
  ∃ q,call cx 54 [.optr 0 2 0] [some (seqD nil zs k)] = some q∧MksQ nil zs q:=by
 refine call_runE (X:=cx) (f:=54) (args:=[.optr 0 2 0]) (H:=[some (seqD nil zs k)]) (MksQ nil zs) Tryz.func54 rfl ⟨rfl,rfl⟩ ?_
 have sf:=seqD_free nil zs
 have sl:=seqD_len nil zs
 have sc:=seqD_cl nil zs
 simp [Tryz.f54]
 refine Run.loopThen (fun (q:List Mk × Nat × Nat) e H'=>q.2.1≤4∧FewN q.2.1 q.1∧look e 0 = some (.optr 0 2 0)∧look e 4 = some (.int .i64 (q.2.1:Nat))∧∃ d,look e 3 = some d∧GrowM (seqD nil zs q.2.2) q.1 d H') (fun q=>4 - q.2.1) ([],0,k) ?_ ?_
 ·exact ⟨by simp,⟨rfl,by simp,by simp,by simp⟩,by simp,by simp,_,by simp,.inl ⟨rfl,rfl,rfl⟩⟩
 rintro ⟨l,i,k1⟩ e H' ⟨hi,hf,k0,k4,d,k3,hH⟩
 simp only at hi hf k4 hH
 have hlen:=hf.len
 obtain ⟨x,k2,hx,-,c1⟩:=n_ev nil zs hnil hz k1 2 (by decide) (by decide)
 obtain ⟨a,k5,ha,-,c2⟩:=n_ev nil zs hnil hz k2 9 (by decide) (by decide)
 obtain ⟨b,k6,hb,-,c3⟩:=n_ev nil zs hnil hz k5 9 (by decide) (by decide)
 obtain ⟨c,k7,hc,-,c4⟩:=n_ev nil zs hnil hz k6 9 (by decide) (by decide)
 have hw:IntKind.i64.wrap ((i:Int)+1) = ((i+1:Nat):Int):=by rw [wrap_i64] <;> omega
 have wa:IntKind.u64.wrap (a:Int) = (a:Int):=by rw [wrap_u64];omega
 have wb:IntKind.u64.wrap (b:Int) = (b:Int):=by rw [wrap_u64];omega
 have wc:IntKind.u64.wrap (c:Int) = (c:Int):=by rw [wrap_u64];omega
 rcases hH with ⟨rfl,rfl,rfl⟩ | ⟨hne,n,m,t,hn,hm,hH⟩
 ·by_cases h4:i < 4
  ·have h4i:(i:Int) < 4:=by omega
   have hid:=mid_small (j:=i) (by omega)
   have hadd:=hf.add h4 (a:=a) (b:=b) (c:=c) (by omega) (by omega) (by omega)
   have hsame:=hf.same
   generalize idN i = q at *
   have hq:=q.h
   have hq16:List.take 16 (ofBytes q.l) = ofBytes q.l:=List.take_of_length_le (by simp)
   by_cases hx1:x = 1
   ·subst hx1
    simp [k0,k3,k4,h4i,c1,c2,c3,c4,hid,sf,sc,hw,wa,wb,wc,hq,maxBytes,List.take_append,List.drop_append,drop_bytes]
    exact ⟨[⟨q,a,b,c⟩],i+1,by omega,by omega,hadd,by simp,k7,.inr ⟨by simp,19,1,_,rfl,rfl,.inl ⟨rfl,by rw [encs_one];rfl⟩⟩⟩
   ·have hx1':¬ (x:Int) = 1:=by omega
    simp [k0,k3,k4,h4i,c1,hx1',sf,sc,hw]
    exact ⟨[],i+1,by omega,by omega,hsame,by simp,k2,.inl ⟨rfl,rfl,rfl⟩⟩
  ·have h4i:¬ (i:Int) < 4:=by omega
   simp [k0,k3,k4,h4i,sc]
   have hi4:i = 4:=by omega
   subst hi4
   exact ⟨[],k1,hf,rfl⟩
 ·have hlk:l.length = m:=hm.symm
  have hkn:m * 19 = n:=by omega
  have htk:List.take n (encs l) = encs l:=List.take_of_length_le (by simp;omega)
  have hm1:(m+1) * 40≤140737488355328:=by omega
  have hm2:m+1≤140737488355328:=by omega
  by_cases h4:i < 4
  ·have h4i:(i:Int) < 4:=by omega
   have hid:=mid_small (j:=i) (by omega)
   have hadd:=hf.add h4 (a:=a) (b:=b) (c:=c) (by omega) (by omega) (by omega)
   have hsame:=hf.same
   generalize idN i = q at *
   have hq:=q.h
   have hq16:List.take 16 (ofBytes q.l) = ofBytes q.l:=List.take_of_length_le (by simp)
   rcases hH with ⟨rfl,rfl⟩ | ⟨rfl,rfl⟩ | ⟨rfl,rfl⟩
   all_goals
    by_cases hx1:x = 1
    ·subst hx1
     simp [k0,k3,k4,h4i,c1,c2,c3,c4,hid,sf,sc,hw,wa,wb,wc,hq,maxBytes,List.take_append,List.drop_append,drop_bytes,hlk,hkn,hm1,hm2]
     exact ⟨l ++ [⟨q,a,b,c⟩],i+1,by omega,by omega,hadd,by simp,k7,.inr ⟨by simp,n+19,m+1,_,by simp;omega,by simp [hlk],.inr (.inl ⟨rfl,by rw [encs_snoc];rfl⟩)⟩⟩
    ·have hx1':¬ (x:Int) = 1:=by omega
     simp [k0,k3,k4,h4i,c1,hx1',sf,sc,hw]
     exact ⟨l,i+1,by omega,by omega,hsame,by simp,k2,.inr ⟨hne,n,m,[],hn,hm,.inr (.inr ⟨rfl,rfl⟩)⟩⟩
  ·have h4i:¬ (i:Int) < 4:=by omega
   have hie:l.isEmpty = false:=by simpa using hne
   rcases hH with ⟨rfl,rfl⟩ | ⟨rfl,rfl⟩ | ⟨rfl,rfl⟩
   all_goals
    simp [k0,k3,k4,h4i,sc,hlk,hkn,htk]
    have hi4:i = 4:=by omega
    subst hi4
    exact ⟨l,k1,hf,by simp [hie,hlk]⟩
end Go.Ev.S
namespace Go.Ev
open Go Go.Proofs
structure I6 where
 v:Int
instance:Enc I6:=⟨1,fun x=>[.int .i64 x.v],fun _=>rfl,fun _=>rfl⟩
theorem I6.cells (x:I6):Enc.cells x = [.int .i64 x.v]:=rfl
@[simp] theorem I6.size:Enc.size I6 = 1:=rfl
@[simp] theorem I6.cl (a:I6):(Enc.cells a).length = 1:=Enc.len a
@[simp] theorem I6.ct (a:I6) (r:List D):(Enc.cells a ++ r).take 1 = Enc.cells a:=cells_take rfl a r
@[simp] theorem I6.ct' (a:I6):(Enc.cells a).take 1 = Enc.cells a:=cells_take' rfl a
@[simp] theorem I6.cd (a:I6) (r:List D):(Enc.cells a ++ r).drop 1 = r:=cells_drop rfl a r
@[simp] theorem I6.el (l:List I6):(encs l).length = l.length * 1:=encs_len' rfl l
@[simp] theorem I6.ed (l:List I6) (i:Nat):(encs l).drop (i * 1) = encs (l.drop i):=encs_drop rfl l i
@[simp] theorem I6.et (l:List I6) (i:Nat):(encs l).take (i * 1) = encs (l.take i):=encs_take rfl l i
@[simp high] theorem I6.ea {l:List I6} {i:Nat} (h:i < l.length):(encs l).drop (i * 1) = Enc.cells l[i] ++ encs (l.drop (i+1)):=encs_at rfl h
@[simp high] theorem I6.es (m:I6) {l:List I6} {j:Nat} (h:j < l.length):setRange (encs l) (j * 1) (Enc.cells m) = encs (l.set j m):=encs_set rfl m l h
theorem encs_I6 (l:List I6):encs l = intsK .i64 (l.map (·.v)):=by
 unfold intsK
 induction l with
 | nil=>rfl
 | cons a l ih=>rw [encs_cons,ih];rfl
structure DoI where
 kind:Int
 epoch:Int
 number:Int
 ln:Sl I6
 ats:Sl I6
 byv:Int
 b:Sl UInt8
instance:Enc DoI:=⟨7,fun m=>(.int .i64 m.kind :: (.int .i64 m.epoch :: (.int .i64 m.number :: ((.vsl m.ln.nil (encs m.ln.l) m.ln.l.length) :: ((.vsl m.ats.nil (encs m.ats.l) m.ats.l.length) :: (.int .u8 m.byv :: ((.vsl m.b.nil (ofBytes m.b.l) m.b.l.length) :: ([]:List D)))))))),fun m=>by simp,fun m=>by simp [idFree]⟩
theorem DoI.cells (m:DoI):Enc.cells m = (.int .i64 m.kind :: (.int .i64 m.epoch :: (.int .i64 m.number :: ((.vsl m.ln.nil (encs m.ln.l) m.ln.l.length) :: ((.vsl m.ats.nil (encs m.ats.l) m.ats.l.length) :: (.int .u8 m.byv :: ((.vsl m.b.nil (ofBytes m.b.l) m.b.l.length) :: ([]:List D)))))))):=rfl
@[simp] theorem DoI.size:Enc.size DoI = 7:=rfl
@[simp] theorem DoI.cl (a:DoI):(Enc.cells a).length = 7:=Enc.len a
@[simp] theorem DoI.ct (a:DoI) (r:List D):(Enc.cells a ++ r).take 7 = Enc.cells a:=cells_take rfl a r
@[simp] theorem DoI.ct' (a:DoI):(Enc.cells a).take 7 = Enc.cells a:=cells_take' rfl a
@[simp] theorem DoI.cd (a:DoI) (r:List D):(Enc.cells a ++ r).drop 7 = r:=cells_drop rfl a r
@[simp] theorem DoI.el (l:List DoI):(encs l).length = l.length * 7:=encs_len' rfl l
@[simp] theorem DoI.ed (l:List DoI) (i:Nat):(encs l).drop (i * 7) = encs (l.drop i):=encs_drop rfl l i
@[simp] theorem DoI.et (l:List DoI) (i:Nat):(encs l).take (i * 7) = encs (l.take i):=encs_take rfl l i
@[simp high] theorem DoI.ea {l:List DoI} {i:Nat} (h:i < l.length):(encs l).drop (i * 7) = Enc.cells l[i] ++ encs (l.drop (i+1)):=encs_at rfl h
@[simp high] theorem DoI.es (m:DoI) {l:List DoI} {j:Nat} (h:j < l.length):setRange (encs l) (j * 7) (Enc.cells m) = encs (l.set j m):=encs_set rfl m l h
@[simp] theorem DoI.g0 (m:DoI) (h):(Enc.cells m)[0]'h = .int .i64 m.kind:=by simp [DoI.cells]
@[simp] theorem DoI.q0 (m:DoI):(Enc.cells m)[0]? = some (.int .i64 m.kind):=by simp [DoI.cells]
@[simp] theorem DoI.s0 (m:DoI) (x:Int):setRange (Enc.cells m) 0 [.int .i64 x] = Enc.cells { m with kind:=x }:=by simp [DoI.cells]
@[simp] theorem DoI.d1 (m:DoI):(Enc.cells m).drop 1 = (.int .i64 m.epoch :: (.int .i64 m.number :: ((.vsl m.ln.nil (encs m.ln.l) m.ln.l.length) :: ((.vsl m.ats.nil (encs m.ats.l) m.ats.l.length) :: (.int .u8 m.byv :: ((.vsl m.b.nil (ofBytes m.b.l) m.b.l.length) :: ([]:List D))))))):=by simp [DoI.cells]
@[simp] theorem DoI.d1' (m:DoI) (r:List D):(Enc.cells m ++ r).drop 1 = (.int .i64 m.epoch :: (.int .i64 m.number :: ((.vsl m.ln.nil (encs m.ln.l) m.ln.l.length) :: ((.vsl m.ats.nil (encs m.ats.l) m.ats.l.length) :: (.int .u8 m.byv :: ((.vsl m.b.nil (ofBytes m.b.l) m.b.l.length) :: ([]:List D))))))) ++ r:=by simp [DoI.cells]
@[simp] theorem DoI.g1 (m:DoI) (h):(Enc.cells m)[1]'h = .int .i64 m.epoch:=by simp [DoI.cells]
@[simp] theorem DoI.q1 (m:DoI):(Enc.cells m)[1]? = some (.int .i64 m.epoch):=by simp [DoI.cells]
@[simp] theorem DoI.s1 (m:DoI) (x:Int):setRange (Enc.cells m) 1 [.int .i64 x] = Enc.cells { m with epoch:=x }:=by simp [DoI.cells]
@[simp] theorem DoI.d2 (m:DoI):(Enc.cells m).drop 2 = (.int .i64 m.number :: ((.vsl m.ln.nil (encs m.ln.l) m.ln.l.length) :: ((.vsl m.ats.nil (encs m.ats.l) m.ats.l.length) :: (.int .u8 m.byv :: ((.vsl m.b.nil (ofBytes m.b.l) m.b.l.length) :: ([]:List D)))))):=by simp [DoI.cells]
@[simp] theorem DoI.d2' (m:DoI) (r:List D):(Enc.cells m ++ r).drop 2 = (.int .i64 m.number :: ((.vsl m.ln.nil (encs m.ln.l) m.ln.l.length) :: ((.vsl m.ats.nil (encs m.ats.l) m.ats.l.length) :: (.int .u8 m.byv :: ((.vsl m.b.nil (ofBytes m.b.l) m.b.l.length) :: ([]:List D)))))) ++ r:=by simp [DoI.cells]
@[simp] theorem DoI.g2 (m:DoI) (h):(Enc.cells m)[2]'h = .int .i64 m.number:=by simp [DoI.cells]
@[simp] theorem DoI.q2 (m:DoI):(Enc.cells m)[2]? = some (.int .i64 m.number):=by simp [DoI.cells]
@[simp] theorem DoI.s2 (m:DoI) (x:Int):setRange (Enc.cells m) 2 [.int .i64 x] = Enc.cells { m with number:=x }:=by simp [DoI.cells]
@[simp] theorem DoI.d3 (m:DoI):(Enc.cells m).drop 3 = ((.vsl m.ln.nil (encs m.ln.l) m.ln.l.length) :: ((.vsl m.ats.nil (encs m.ats.l) m.ats.l.length) :: (.int .u8 m.byv :: ((.vsl m.b.nil (ofBytes m.b.l) m.b.l.length) :: ([]:List D))))):=by simp [DoI.cells]
@[simp] theorem DoI.d3' (m:DoI) (r:List D):(Enc.cells m ++ r).drop 3 = ((.vsl m.ln.nil (encs m.ln.l) m.ln.l.length) :: ((.vsl m.ats.nil (encs m.ats.l) m.ats.l.length) :: (.int .u8 m.byv :: ((.vsl m.b.nil (ofBytes m.b.l) m.b.l.length) :: ([]:List D))))) ++ r:=by simp [DoI.cells]
@[simp] theorem DoI.g3 (m:DoI) (h):(Enc.cells m)[3]'h = (.vsl m.ln.nil (encs m.ln.l) m.ln.l.length):=by simp [DoI.cells]
@[simp] theorem DoI.q3 (m:DoI):(Enc.cells m)[3]? = some ((.vsl m.ln.nil (encs m.ln.l) m.ln.l.length)):=by simp [DoI.cells]
@[simp] theorem DoI.s3 (m:DoI) (x:Sl I6):setRange (Enc.cells m) 3 [(.vsl x.nil (encs x.l) x.l.length)] = Enc.cells { m with ln:=x }:=by simp [DoI.cells]
@[simp] theorem DoI.d4 (m:DoI):(Enc.cells m).drop 4 = ((.vsl m.ats.nil (encs m.ats.l) m.ats.l.length) :: (.int .u8 m.byv :: ((.vsl m.b.nil (ofBytes m.b.l) m.b.l.length) :: ([]:List D)))):=by simp [DoI.cells]
@[simp] theorem DoI.d4' (m:DoI) (r:List D):(Enc.cells m ++ r).drop 4 = ((.vsl m.ats.nil (encs m.ats.l) m.ats.l.length) :: (.int .u8 m.byv :: ((.vsl m.b.nil (ofBytes m.b.l) m.b.l.length) :: ([]:List D)))) ++ r:=by simp [DoI.cells]
@[simp] theorem DoI.g4 (m:DoI) (h):(Enc.cells m)[4]'h = (.vsl m.ats.nil (encs m.ats.l) m.ats.l.length):=by simp [DoI.cells]
@[simp] theorem DoI.q4 (m:DoI):(Enc.cells m)[4]? = some ((.vsl m.ats.nil (encs m.ats.l) m.ats.l.length)):=by simp [DoI.cells]
@[simp] theorem DoI.s4 (m:DoI) (x:Sl I6):setRange (Enc.cells m) 4 [(.vsl x.nil (encs x.l) x.l.length)] = Enc.cells { m with ats:=x }:=by simp [DoI.cells]
@[simp] theorem DoI.d5 (m:DoI):(Enc.cells m).drop 5 = (.int .u8 m.byv :: ((.vsl m.b.nil (ofBytes m.b.l) m.b.l.length) :: ([]:List D))):=by simp [DoI.cells]
@[simp] theorem DoI.d5' (m:DoI) (r:List D):(Enc.cells m ++ r).drop 5 = (.int .u8 m.byv :: ((.vsl m.b.nil (ofBytes m.b.l) m.b.l.length) :: ([]:List D))) ++ r:=by simp [DoI.cells]
@[simp] theorem DoI.g5 (m:DoI) (h):(Enc.cells m)[5]'h = .int .u8 m.byv:=by simp [DoI.cells]
@[simp] theorem DoI.q5 (m:DoI):(Enc.cells m)[5]? = some (.int .u8 m.byv):=by simp [DoI.cells]
@[simp] theorem DoI.s5 (m:DoI) (x:Int):setRange (Enc.cells m) 5 [.int .u8 x] = Enc.cells { m with byv:=x }:=by simp [DoI.cells]
@[simp] theorem DoI.d6 (m:DoI):(Enc.cells m).drop 6 = ((.vsl m.b.nil (ofBytes m.b.l) m.b.l.length) :: ([]:List D)):=by simp [DoI.cells]
@[simp] theorem DoI.d6' (m:DoI) (r:List D):(Enc.cells m ++ r).drop 6 = ((.vsl m.b.nil (ofBytes m.b.l) m.b.l.length) :: ([]:List D)) ++ r:=by simp [DoI.cells]
@[simp] theorem DoI.g6 (m:DoI) (h):(Enc.cells m)[6]'h = (.vsl m.b.nil (ofBytes m.b.l) m.b.l.length):=by simp [DoI.cells]
@[simp] theorem DoI.q6 (m:DoI):(Enc.cells m)[6]? = some ((.vsl m.b.nil (ofBytes m.b.l) m.b.l.length)):=by simp [DoI.cells]
@[simp] theorem DoI.s6 (m:DoI) (x:Sl UInt8):setRange (Enc.cells m) 6 [(.vsl x.nil (ofBytes x.l) x.l.length)] = Enc.cells { m with b:=x }:=by simp [DoI.cells]
structure RcP where
 epoch:Int
 last:Int
 items:Sl It
 marks:Sl Mk
instance:Enc RcP:=⟨4,fun m=>(.int .u64 m.epoch :: (.int .u64 m.last :: ((.vsl m.items.nil (encs m.items.l) m.items.l.length) :: ((.vsl m.marks.nil (encs m.marks.l) m.marks.l.length) :: ([]:List D))))),fun m=>by simp,fun m=>by simp [idFree]⟩
theorem RcP.cells (m:RcP):Enc.cells m = (.int .u64 m.epoch :: (.int .u64 m.last :: ((.vsl m.items.nil (encs m.items.l) m.items.l.length) :: ((.vsl m.marks.nil (encs m.marks.l) m.marks.l.length) :: ([]:List D))))):=rfl
@[simp] theorem RcP.size:Enc.size RcP = 4:=rfl
@[simp] theorem RcP.cl (a:RcP):(Enc.cells a).length = 4:=Enc.len a
@[simp] theorem RcP.ct (a:RcP) (r:List D):(Enc.cells a ++ r).take 4 = Enc.cells a:=cells_take rfl a r
@[simp] theorem RcP.ct' (a:RcP):(Enc.cells a).take 4 = Enc.cells a:=cells_take' rfl a
@[simp] theorem RcP.cd (a:RcP) (r:List D):(Enc.cells a ++ r).drop 4 = r:=cells_drop rfl a r
@[simp] theorem RcP.el (l:List RcP):(encs l).length = l.length * 4:=encs_len' rfl l
@[simp] theorem RcP.ed (l:List RcP) (i:Nat):(encs l).drop (i * 4) = encs (l.drop i):=encs_drop rfl l i
@[simp] theorem RcP.et (l:List RcP) (i:Nat):(encs l).take (i * 4) = encs (l.take i):=encs_take rfl l i
@[simp high] theorem RcP.ea {l:List RcP} {i:Nat} (h:i < l.length):(encs l).drop (i * 4) = Enc.cells l[i] ++ encs (l.drop (i+1)):=encs_at rfl h
@[simp high] theorem RcP.es (m:RcP) {l:List RcP} {j:Nat} (h:j < l.length):setRange (encs l) (j * 4) (Enc.cells m) = encs (l.set j m):=encs_set rfl m l h
@[simp] theorem RcP.g0 (m:RcP) (h):(Enc.cells m)[0]'h = .int .u64 m.epoch:=by simp [RcP.cells]
@[simp] theorem RcP.q0 (m:RcP):(Enc.cells m)[0]? = some (.int .u64 m.epoch):=by simp [RcP.cells]
@[simp] theorem RcP.s0 (m:RcP) (x:Int):setRange (Enc.cells m) 0 [.int .u64 x] = Enc.cells { m with epoch:=x }:=by simp [RcP.cells]
@[simp] theorem RcP.d1 (m:RcP):(Enc.cells m).drop 1 = (.int .u64 m.last :: ((.vsl m.items.nil (encs m.items.l) m.items.l.length) :: ((.vsl m.marks.nil (encs m.marks.l) m.marks.l.length) :: ([]:List D)))):=by simp [RcP.cells]
@[simp] theorem RcP.d1' (m:RcP) (r:List D):(Enc.cells m ++ r).drop 1 = (.int .u64 m.last :: ((.vsl m.items.nil (encs m.items.l) m.items.l.length) :: ((.vsl m.marks.nil (encs m.marks.l) m.marks.l.length) :: ([]:List D)))) ++ r:=by simp [RcP.cells]
@[simp] theorem RcP.g1 (m:RcP) (h):(Enc.cells m)[1]'h = .int .u64 m.last:=by simp [RcP.cells]
@[simp] theorem RcP.q1 (m:RcP):(Enc.cells m)[1]? = some (.int .u64 m.last):=by simp [RcP.cells]
@[simp] theorem RcP.s1 (m:RcP) (x:Int):setRange (Enc.cells m) 1 [.int .u64 x] = Enc.cells { m with last:=x }:=by simp [RcP.cells]
@[simp] theorem RcP.d2 (m:RcP):(Enc.cells m).drop 2 = ((.vsl m.items.nil (encs m.items.l) m.items.l.length) :: ((.vsl m.marks.nil (encs m.marks.l) m.marks.l.length) :: ([]:List D))):=by simp [RcP.cells]
@[simp] theorem RcP.d2' (m:RcP) (r:List D):(Enc.cells m ++ r).drop 2 = ((.vsl m.items.nil (encs m.items.l) m.items.l.length) :: ((.vsl m.marks.nil (encs m.marks.l) m.marks.l.length) :: ([]:List D))) ++ r:=by simp [RcP.cells]
@[simp] theorem RcP.g2 (m:RcP) (h):(Enc.cells m)[2]'h = (.vsl m.items.nil (encs m.items.l) m.items.l.length):=by simp [RcP.cells]
@[simp] theorem RcP.q2 (m:RcP):(Enc.cells m)[2]? = some ((.vsl m.items.nil (encs m.items.l) m.items.l.length)):=by simp [RcP.cells]
@[simp] theorem RcP.s2 (m:RcP) (x:Sl It):setRange (Enc.cells m) 2 [(.vsl x.nil (encs x.l) x.l.length)] = Enc.cells { m with items:=x }:=by simp [RcP.cells]
@[simp] theorem RcP.d3 (m:RcP):(Enc.cells m).drop 3 = ((.vsl m.marks.nil (encs m.marks.l) m.marks.l.length) :: ([]:List D)):=by simp [RcP.cells]
@[simp] theorem RcP.d3' (m:RcP) (r:List D):(Enc.cells m ++ r).drop 3 = ((.vsl m.marks.nil (encs m.marks.l) m.marks.l.length) :: ([]:List D)) ++ r:=by simp [RcP.cells]
@[simp] theorem RcP.g3 (m:RcP) (h):(Enc.cells m)[3]'h = (.vsl m.marks.nil (encs m.marks.l) m.marks.l.length):=by simp [RcP.cells]
@[simp] theorem RcP.q3 (m:RcP):(Enc.cells m)[3]? = some ((.vsl m.marks.nil (encs m.marks.l) m.marks.l.length)):=by simp [RcP.cells]
@[simp] theorem RcP.s3 (m:RcP) (x:Sl Mk):setRange (Enc.cells m) 3 [(.vsl x.nil (encs x.l) x.l.length)] = Enc.cells { m with marks:=x }:=by simp [RcP.cells]
structure RcD where
 epoch:Int
 last:Int
 marks:Sl Mk
 items:Sl It
instance:Enc RcD:=⟨4,fun m=>(.int .u64 m.epoch :: (.int .u64 m.last :: ((.vsl m.marks.nil (encs m.marks.l) m.marks.l.length) :: ((.vsl m.items.nil (encs m.items.l) m.items.l.length) :: ([]:List D))))),fun m=>by simp,fun m=>by simp [idFree]⟩
theorem RcD.cells (m:RcD):Enc.cells m = (.int .u64 m.epoch :: (.int .u64 m.last :: ((.vsl m.marks.nil (encs m.marks.l) m.marks.l.length) :: ((.vsl m.items.nil (encs m.items.l) m.items.l.length) :: ([]:List D))))):=rfl
@[simp] theorem RcD.size:Enc.size RcD = 4:=rfl
@[simp] theorem RcD.cl (a:RcD):(Enc.cells a).length = 4:=Enc.len a
@[simp] theorem RcD.ct (a:RcD) (r:List D):(Enc.cells a ++ r).take 4 = Enc.cells a:=cells_take rfl a r
@[simp] theorem RcD.ct' (a:RcD):(Enc.cells a).take 4 = Enc.cells a:=cells_take' rfl a
@[simp] theorem RcD.cd (a:RcD) (r:List D):(Enc.cells a ++ r).drop 4 = r:=cells_drop rfl a r
@[simp] theorem RcD.el (l:List RcD):(encs l).length = l.length * 4:=encs_len' rfl l
@[simp] theorem RcD.ed (l:List RcD) (i:Nat):(encs l).drop (i * 4) = encs (l.drop i):=encs_drop rfl l i
@[simp] theorem RcD.et (l:List RcD) (i:Nat):(encs l).take (i * 4) = encs (l.take i):=encs_take rfl l i
@[simp high] theorem RcD.ea {l:List RcD} {i:Nat} (h:i < l.length):(encs l).drop (i * 4) = Enc.cells l[i] ++ encs (l.drop (i+1)):=encs_at rfl h
@[simp high] theorem RcD.es (m:RcD) {l:List RcD} {j:Nat} (h:j < l.length):setRange (encs l) (j * 4) (Enc.cells m) = encs (l.set j m):=encs_set rfl m l h
@[simp] theorem RcD.g0 (m:RcD) (h):(Enc.cells m)[0]'h = .int .u64 m.epoch:=by simp [RcD.cells]
@[simp] theorem RcD.q0 (m:RcD):(Enc.cells m)[0]? = some (.int .u64 m.epoch):=by simp [RcD.cells]
@[simp] theorem RcD.s0 (m:RcD) (x:Int):setRange (Enc.cells m) 0 [.int .u64 x] = Enc.cells { m with epoch:=x }:=by simp [RcD.cells]
@[simp] theorem RcD.d1 (m:RcD):(Enc.cells m).drop 1 = (.int .u64 m.last :: ((.vsl m.marks.nil (encs m.marks.l) m.marks.l.length) :: ((.vsl m.items.nil (encs m.items.l) m.items.l.length) :: ([]:List D)))):=by simp [RcD.cells]
@[simp] theorem RcD.d1' (m:RcD) (r:List D):(Enc.cells m ++ r).drop 1 = (.int .u64 m.last :: ((.vsl m.marks.nil (encs m.marks.l) m.marks.l.length) :: ((.vsl m.items.nil (encs m.items.l) m.items.l.length) :: ([]:List D)))) ++ r:=by simp [RcD.cells]
@[simp] theorem RcD.g1 (m:RcD) (h):(Enc.cells m)[1]'h = .int .u64 m.last:=by simp [RcD.cells]
@[simp] theorem RcD.q1 (m:RcD):(Enc.cells m)[1]? = some (.int .u64 m.last):=by simp [RcD.cells]
@[simp] theorem RcD.s1 (m:RcD) (x:Int):setRange (Enc.cells m) 1 [.int .u64 x] = Enc.cells { m with last:=x }:=by simp [RcD.cells]
@[simp] theorem RcD.d2 (m:RcD):(Enc.cells m).drop 2 = ((.vsl m.marks.nil (encs m.marks.l) m.marks.l.length) :: ((.vsl m.items.nil (encs m.items.l) m.items.l.length) :: ([]:List D))):=by simp [RcD.cells]
@[simp] theorem RcD.d2' (m:RcD) (r:List D):(Enc.cells m ++ r).drop 2 = ((.vsl m.marks.nil (encs m.marks.l) m.marks.l.length) :: ((.vsl m.items.nil (encs m.items.l) m.items.l.length) :: ([]:List D))) ++ r:=by simp [RcD.cells]
@[simp] theorem RcD.g2 (m:RcD) (h):(Enc.cells m)[2]'h = (.vsl m.marks.nil (encs m.marks.l) m.marks.l.length):=by simp [RcD.cells]
@[simp] theorem RcD.q2 (m:RcD):(Enc.cells m)[2]? = some ((.vsl m.marks.nil (encs m.marks.l) m.marks.l.length)):=by simp [RcD.cells]
@[simp] theorem RcD.s2 (m:RcD) (x:Sl Mk):setRange (Enc.cells m) 2 [(.vsl x.nil (encs x.l) x.l.length)] = Enc.cells { m with marks:=x }:=by simp [RcD.cells]
@[simp] theorem RcD.d3 (m:RcD):(Enc.cells m).drop 3 = ((.vsl m.items.nil (encs m.items.l) m.items.l.length) :: ([]:List D)):=by simp [RcD.cells]
@[simp] theorem RcD.d3' (m:RcD) (r:List D):(Enc.cells m ++ r).drop 3 = ((.vsl m.items.nil (encs m.items.l) m.items.l.length) :: ([]:List D)) ++ r:=by simp [RcD.cells]
@[simp] theorem RcD.g3 (m:RcD) (h):(Enc.cells m)[3]'h = (.vsl m.items.nil (encs m.items.l) m.items.l.length):=by simp [RcD.cells]
@[simp] theorem RcD.q3 (m:RcD):(Enc.cells m)[3]? = some ((.vsl m.items.nil (encs m.items.l) m.items.l.length)):=by simp [RcD.cells]
@[simp] theorem RcD.s3 (m:RcD) (x:Sl It):setRange (Enc.cells m) 3 [(.vsl x.nil (encs x.l) x.l.length)] = Enc.cells { m with items:=x }:=by simp [RcD.cells]
end Go.Ev
namespace Go.Ev.S
open Go Go.Proofs Go.Ev
theorem k10:(∀ x∈kPlace,x≠10)∧(∀ x∈kReal,x≠10)∧(∀ x∈kMono,x≠10)∧(∀ x∈kSeq,x≠10)∧(∀ x∈kId,x≠10)∧(∀ x∈kBoot,x≠10)∧∀ x∈kGap,x≠10:=by decide
theorem rec_is {it:It} (hi:it.Ok) (ho:itOk it = true) (hg:it.gap = false):(it.rc.real.toNat < 18446744073709551616∧it.rc.mono.toNat < 18446744073709551616∧it.rc.seq.toNat < 18446744073709551616)∧(((it.rc.real.toNat:Nat):Int) = it.rc.real∧((it.rc.mono.toNat:Nat):Int) = it.rc.mono∧((it.rc.seq.toNat:Nat):Int) = it.rc.seq)∧it.fr = 0∧it.til = 0∧1≤it.rc.fields.l.length∧it.rc.fields.l.length≤16∧(∀ p∈it.rc.fields.l,prOk p = true)∧recOk it = true:=by
 have h1:=hi.rc.seq
 have h2:=hi.rc.real
 have h3:=hi.rc.mono
 unfold isU64 at h1 h2 h3
 unfold itOk at ho
 rw [hg,if_neg (by decide)] at ho
 have ho':=ho
 unfold recOk at ho
 simp only [Bool.and_eq_true,decide_eq_true_eq,List.all_eq_true] at ho
 obtain ⟨⟨⟨⟨⟨a1,a2⟩,a3⟩,a4⟩,a5⟩,a6⟩:=ho
 exact ⟨⟨by omega,by omega,by omega⟩,⟨by omega,by omega,by omega⟩,a1,a2,a4,a5,a6,ho'⟩
theorem textL_len {it:It} (hi:it.Ok) (ho:itOk it = true):(textL it).length≤10000∧1≤(textL it).length:=by
 unfold textL
 cases hg:it.gap with
 | true =>
  rw [if_pos rfl]
  have l1:=dec_len it.fr.toNat
  have l2:=dec_len it.til.toNat
  have l3:=hexs_len it.id.l
  rw [it.id.h] at l3
  unfold textG kGap kId
  simp
  omega
 | false =>
  rw [if_neg (by decide)]
  obtain ⟨-,-,-,-,-,-,-,h⟩:=rec_is hi ho hg
  obtain ⟨b1,-,b3⟩:=prOk_b h
  have h1:=headL_le (sixL it) (sixL_le it hi)
  have h2:=bodyL_le it.rc.fields.l 400 b3
  have h3:(sixL it).length = 6:=rfl
  rw [h3] at h1
  unfold textR
  simp only [List.length_append,List.length_cons,List.length_nil]
  have h4:it.rc.fields.l.length * 400≤16 * 400:=Nat.mul_le_mul_right _ b1
  omega
end Go.Ev.S
namespace Go.Ev.S
open Go Go.Proofs Go.Ev
end Go.Ev.S
namespace Go.Ev.S
open Go Go.Proofs Go.Ev
end Go.Ev.S
namespace Go.Ev.S
open Go Go.Proofs Go.Ev
end Go.Ev.S
namespace Go.Ev.S
open Go Go.Proofs Go.Ev
end Go.Ev.S
namespace Go.Ev.S
open Go Go.Proofs Go.Ev
end Go.Ev.S
namespace Go.Ev
open Go Go.Proofs
theorem of32 (s:BitVec 32):BitVec.ofInt IntKind.u32.bits (s.toNat:Int) = s:=by
 show BitVec.ofInt 32 (s.toNat:Int) = s
 rw [BitVec.ofInt_natCast,BitVec.ofNat_toNat]
 simp
theorem wrap32 (s:BitVec 32):IntKind.u32.wrap (s.toNat:Int) = (s.toNat:Int):=by
 have:=s.isLt
 rw [wrap_u32]
 omega
theorem xor32 (s t:BitVec 32):xorI .u32 (s.toNat:Int) (t.toNat:Int) = ((s ^^^ t).toNat:Int):=by
 unfold xorI
 rw [of32,of32]
 exact wrap32 _
theorem half32 (s:BitVec 32):(s.toNat:Int).fdiv 2 = ((s >>> 1).toNat:Int):=by
 rw [BitVec.toNat_ushiftRight,Nat.shiftRight_eq_div_pow,Int.fdiv_eq_ediv_of_nonneg _ (by decide)]
 omega
theorem poly32 (s:BitVec 32):xorI .u32 (s.toNat:Int) 2197175160 = ((s ^^^ 2197175160#32).toNat:Int):=xor32 s 2197175160#32
theorem byte32 (s:BitVec 32) (c:UInt8):xorI .u32 (s.toNat:Int) (c.toNat:Int) = ((s ^^^ BitVec.ofNat 32 c.toNat).toNat:Int):=by
 have h:=xor32 s (BitVec.ofNat 32 c.toNat)
 have hc:=c.toNat_lt
 have e:(BitVec.ofNat 32 c.toNat).toNat = c.toNat:=by
  rw [BitVec.toNat_ofNat]
  exact Nat.mod_eq_of_lt (by omega)
 rw [e] at h
 exact h
def crcBit (s:BitVec 32):BitVec 32:=if s.toNat % 2 = 1 then (s >>> 1) ^^^ 2197175160#32 else s >>> 1
def crcN:Nat→BitVec 32→BitVec 32
 | 0,s=>s
 | n+1,s=>crcN n (crcBit s)
def crcByte (s:BitVec 32) (c:UInt8):BitVec 32:=crcN 8 (s ^^^ BitVec.ofNat 32 c.toNat)
def crcGo (s:BitVec 32) (l:List UInt8):BitVec 32:=l.foldl crcByte s
def crcM (s:BitVec 32) (l:List UInt8):BitVec 32:= ~~~ crcGo (~~~ s) l
theorem not32 (s:BitVec 32):IntKind.u32.wrap ((BitVec.ofInt IntKind.u32.bits 4294967295 ^^^ BitVec.ofInt IntKind.u32.bits (s.toNat:Int)).toNat:Int) = ((~~~ s).toNat:Int):=by
 rw [of32]
 have e:(BitVec.ofInt 32 4294967295 ^^^ s) = ~~~ s:=by
  rw [show BitVec.ofInt 32 4294967295 = BitVec.allOnes 32 from by decide,BitVec.allOnes_xor]
 have h:=wrap32 (~~~ s)
 rw [← e] at h ⊢
 exact h
end Go.Ev
namespace Go.Ev.S
open Go Go.Proofs Go.Ev
theorem drop_u8 {l:List UInt8} {i:Nat} (h:i < l.length):(ofBytes l).drop i = .int .u8 l[i].toNat :: ofBytes (l.drop (i+1)):=by
 unfold ofBytes
 rw [← List.map_drop,List.drop_eq_getElem_cons h]
 rfl
end Go.Ev.S
namespace Go.Ev
open Go Go.Proofs
def sealB (b:List UInt8):List UInt8:=b ++ leB 4 (crcM 0#32 b).toNat
theorem sealB_len (b:List UInt8):(sealB b).length = b.length+4:=by simp [sealB]
theorem xor8 {a b:Nat} (ha:a < 256) (hb:b < 256):xorI .u8 (a:Int) (b:Int) = ((a ^^^ b:Nat):Int):=by
 have h:a ^^^ b < 2 ^ 8:=Nat.xor_lt_two_pow (n:=8) ha hb
 unfold xorI
 show IntKind.u8.wrap ((BitVec.ofInt 8 (a:Int) ^^^ BitVec.ofInt 8 (b:Int)).toNat:Int) = _
 rw [BitVec.ofInt_natCast,BitVec.ofInt_natCast,BitVec.toNat_xor,BitVec.toNat_ofNat,BitVec.toNat_ofNat,Nat.mod_eq_of_lt ha,Nat.mod_eq_of_lt hb,wrap_u8]
 omega
end Go.Ev
namespace Go.Ev.S
open Go Go.Proofs Go.Ev
def kSign:List UInt8:=[68,66,65,84]
def itB (it:It):List UInt8:=leB 4 (textL it).length ++ textL it
def rawB (l:List It) (m:List Mk):List UInt8:=kSign ++ (leB 2 l.length ++ (l.flatMap itB ++ mksB m))
def putOk (l:List It) (m:List Mk):Bool:=decide (l.length≤64) && (rightM m && l.all itOk)
def putS (l:List It) (m:List Mk):Sl UInt8:=if putOk l m && decide ((sealB (rawB l m)).length≤65536) then .of (sealB (rawB l m)) else .none
theorem mksB_len (l:List Mk):(mksB l).length = 1+l.length * 40:=by
 unfold mksB
 rw [List.length_cons,mkBs_len,Nat.add_comm]
theorem itB_len (it:It):(itB it).length = 4+(textL it).length:=by simp [itB]
end Go.Ev.S
namespace Go.Ev.S
open Go Go.Proofs Go.Ev
set_option maxRecDepth 100000 in
theorem first_ev30 [MaxL]:call cx 8 [] [] = some (.bool true,[]):=call_some.2 ⟨900,by kernel_rfl⟩
theorem new_ev [MaxL]:call cx 9 [] [] = some (.optr 0 4 0,[some [.int .u64 0,.int .u64 0,.vsl true [] 0,.vsl true [] 0]]):=by
 refine call_run Tryz.func9 rfl ⟨rfl,rfl⟩ ?_
 simp [Tryz.f9]
theorem epoch_ev [MaxL] (ep la:Int) (d e:D) (_:idFree d = true) (_:idFree e = true) (hcd:∀ n,closed n d = true) (hce:∀ n,closed n e = true):call cx 18 [.optr 0 4 0] [some [.int .u64 ep,.int .u64 la,d,e]] = some (.int .u64 ep,[some [.int .u64 ep,.int .u64 la,d,e]]):=by
 refine call_run Tryz.func18 rfl ⟨rfl,rfl⟩ ?_
 simp [Tryz.f18,hcd,hce]
theorem rlast_ev [MaxL] (ep la:Int) (d e:D) (_:idFree d = true) (_:idFree e = true) (hcd:∀ n,closed n d = true) (hce:∀ n,closed n e = true):call cx 23 [.optr 0 4 0] [some [.int .u64 ep,.int .u64 la,d,e]] = some (.int .u64 la,[some [.int .u64 ep,.int .u64 la,d,e]]):=by
 refine call_run Tryz.func23 rfl ⟨rfl,rfl⟩ ?_
 simp [Tryz.f23,hcd,hce]
theorem marks0_ev [MaxL] (ep la:Int) (d:D) (_:idFree d = true) (hcd:∀ n,closed n d = true):call cx 17 [.optr 0 4 0] [some [.int .u64 ep,.int .u64 la,d,.vsl true [] 0]] = some (.vsl true [] 0,[some [.int .u64 ep,.int .u64 la,d,.vsl true [] 0]]):=by
 have h1:=mclone_ev .none (by simp)
 simp at h1
 refine call_run Tryz.func17 rfl ⟨rfl,rfl⟩ ?_
 simp [Tryz.f17,hcd,h1]
theorem iclone0_ev [MaxL]:call cx 40 [.vsl true [] 0] [] = some (.vsl true [] 0,[]):=by
 refine call_run Tryz.func40 rfl ⟨rfl,rfl⟩ ?_
 simp [Tryz.f40]
theorem items0_ev [MaxL] (ep la:Int) (e:D) (_:idFree e = true) (hce:∀ n,closed n e = true):call cx 14 [.optr 0 4 0] [some [.int .u64 ep,.int .u64 la,.vsl true [] 0,e]] = some (.vsl true [] 0,[some [.int .u64 ep,.int .u64 la,.vsl true [] 0,e]]):=by
 have h1:=iclone0_ev
 refine call_run Tryz.func14 rfl ⟨rfl,rfl⟩ ?_
 simp [Tryz.f14,h1]
 refine run_loop1 ?_
 simp [hce]
theorem hello_ev [MaxL] (ep la:Int) (d:D) (_:idFree d = true) (hcd:∀ n,closed n d = true) (mk:Sl Mk) (hn:mk.l.length < 4611686018427387904) (hok:∀ m∈mk.l,m.Ok) (e n:Int) (o:Sl UInt8) (ho:o.l.length = 0):call cx 35 [.optr 0 4 0,.agg [.str helloL,.int .u64 e,.int .u64 n,(.vsl o.nil (ofBytes o.l) o.l.length)]] [some [.int .u64 ep,.int .u64 la,d,(.vsl mk.nil (encs mk.l) mk.l.length)]] =
  some (.tup [.int .i64 200,(.vsl (bytesS mk.l).nil (ofBytes (bytesS mk.l).l) (bytesS mk.l).l.length)],[some (if ep < e then [.int .u64 e,.int .u64 0,d,(.vsl mk.nil (encs mk.l) mk.l.length)] else [.int .u64 ep,.int .u64 la,d,(.vsl mk.nil (encs mk.l) mk.l.length)])]):=by
 have h1:=bytes_ev mk hn hok
 refine call_run Tryz.func35 rfl ⟨rfl,rfl⟩ ?_
 by_cases h:ep < e
 ·simp [Tryz.f35,hcd,h1,h,ho]
 ·simp [Tryz.f35,hcd,h1,h,ho]
theorem hear_less [MaxL] (ep la:Int) (d e:D) (_:idFree d = true) (_:idFree e = true) (hcd:∀ n,closed n d = true) (hce:∀ n,closed n e = true) (b:Sl UInt8) (hb:b.l.length≤90000) (p:List UInt8) (x n:Int) (o:Sl UInt8) (hr:rdRq b.l = (⟨p,x,n,o⟩,0)) (hlt:x < ep) (hep:isU64 ep) (hnn:isU64 n) :
  call cx 12 [.optr 0 4 0,(.vsl b.nil (ofBytes b.l) b.l.length)] [some [.int .u64 ep,.int .u64 la,d,e]] = some ((.vsl (putRs ⟨409,ep,n,.none⟩).nil (ofBytes (putRs ⟨409,ep,n,.none⟩).l) (putRs ⟨409,ep,n,.none⟩).l.length),[some [.int .u64 ep,.int .u64 la,d,e]]):=by
 have h1:=rdrq_ev b hb
 rw [hr] at h1
 have h2:=putrs_ev ⟨409,ep,n,.none⟩ hep hnn (by simp)
 simp only [Rq.cells,Rs.cells] at h1 h2
 try simp at h1 h2
 refine call_run Tryz.func12 rfl ⟨rfl,rfl⟩ ?_
 generalize putRs ⟨409,ep,n,.none⟩ = z at *
 simp [Tryz.f12,hcd,hce,h1,h2,hlt]
theorem hear_hello [MaxL] (ep la:Int) (d:D) (hd:idFree d = true) (hcd:∀ n,closed n d = true) (mk:Sl Mk) (hmn:mk.l.length < 4611686018427387904) (hok:∀ m∈mk.l,m.Ok) (b:Sl UInt8) (hb:b.l.length≤90000) (x n:Int) (o:Sl UInt8) (ho:o.l.length = 0) (hr:rdRq b.l = (⟨helloL,x,n,o⟩,0)) (hlt:ep < x) (hx:isU64 x) (hnn:isU64 n) :
  call cx 12 [.optr 0 4 0,(.vsl b.nil (ofBytes b.l) b.l.length)] [some [.int .u64 ep,.int .u64 la,d,(.vsl mk.nil (encs mk.l) mk.l.length)]] = some ((.vsl (putRs ⟨200,x,n,bytesS mk.l⟩).nil (ofBytes (putRs ⟨200,x,n,bytesS mk.l⟩).l) (putRs ⟨200,x,n,bytesS mk.l⟩).l.length),[some [.int .u64 x,.int .u64 0,d,(.vsl mk.nil (encs mk.l) mk.l.length)]]):=by
 have h1:=rdrq_ev b hb
 rw [hr] at h1
 have hl:(bytesS mk.l).l.length≤100000:=by
  unfold bytesS
  split
  ·rename_i h
   have:=rightM_le h
   rw [Sl.of_l,mksB_len]
   omega
  ·simp
 have h2:=putrs_ev ⟨200,x,n,bytesS mk.l⟩ hx hnn hl
 have h3:=hello_ev ep la d hd hcd mk hmn hok x n o ho
 rw [if_pos hlt] at h3
 simp only [Rq.cells,Rs.cells] at h1 h2
 try simp at h1 h2
 refine call_run Tryz.func12 rfl ⟨rfl,rfl⟩ ?_
 generalize putRs ⟨200,x,n,bytesS mk.l⟩ = z at *
 generalize bytesS mk.l = w at *
 have hnl:¬ x < ep:=by omega
 have hs:(helloL == [47,104,101,108,108,111]) = true:=by decide
 simp [Tryz.f12,hd,hcd,h1,h2,h3,hnl,hs]
end Go.Ev.S
namespace Go.Ev.S
open Go Go.Proofs Go.Ev
def hasM (l:List Mk) (id:ID):Bool:=l.any fun m=>m.id == id
set_option maxHeartbeats 1000000 in
theorem rmget_ev [MaxL] [TxtC] (s:Sl Mk) (hn:s.l.length < 4611686018427387904) (id:ID) :
  call cx 43 [(.vsl s.nil (encs s.l) s.l.length),.agg (ofBytes id.l)] [] = some (.tup [.agg (Enc.cells (getM s.l id)),.bool (hasM s.l id)],[]):=by
 refine call_run Tryz.func43 rfl ⟨rfl,rfl⟩ ?_
 simp [Tryz.f43]
 refine Run.loopThen (fun (i:Nat) e H=>i≤s.l.length∧(∃ z:Mk,H = [some (ofBytes id.l),some (Enc.cells z)])∧look e 0 = some (.vsl s.nil (encs s.l) s.l.length)∧look e 3 = some (.optr 0 16 0)∧look e 4 = some (.optr 1 19 0)∧look e 6 = some (.int .i64 i)∧getM s.l id = getM (s.l.drop i) id∧hasM s.l id = hasM (s.l.drop i) id) (fun i=>s.l.length - i) 0 ?_ ?_
 ·simp
  exact ⟨⟨ID.zero,0,0,0⟩,by simp [Mk.cells,ID.zero,ofBytes]⟩
 rintro i e H ⟨hi,⟨z,rfl⟩,h0,h3,h4,h6,hr,hr2⟩
 by_cases hlt:i < s.l.length
 ·have hlt':(i:Int) < (s.l.length:Int):=by omega
  have hw:IntKind.i64.wrap ((i:Int)+1) = ((i+1:Nat):Int):=by rw [wrap_i64] <;> omega
  rw [List.drop_eq_getElem_cons hlt] at hr hr2
  have h16:∀ k,(16≤19+k) = True:=fun k=>eq_true (by omega)
  cases he:s.l[i].id == id with
  | true =>
   simp only [getM,List.find?_cons,he,Option.getD_some] at hr
   simp only [hasM,List.any_cons,he,Bool.true_or] at hr2
   simp [h0,h3,h4,h6,hlt',hlt,Sl.nn hlt,h16,he,getM,hasM,hr,hr2]
  | false =>
   simp only [getM,List.find?_cons,he] at hr
   simp only [hasM,List.any_cons,he,Bool.false_or] at hr2
   simp [h0,h3,h4,h6,hlt',hlt,Sl.nn hlt,h16,he,hw,-List.any_eq_true]
   exact ⟨i+1,by omega,by omega,⟨z,rfl⟩,rfl,hr,hr2⟩
 ·have hlt':¬ (i:Int) < (s.l.length:Int):=by omega
  have hd:s.l.drop i = []:=List.drop_eq_nil_of_le (by omega)
  rw [hd] at hr hr2
  have e1:getM [] id = ⟨id,0,0,0⟩:=rfl
  have e2:hasM [] id = false:=rfl
  rw [e1] at hr
  rw [e2] at hr2
  simp [h0,h3,h4,h6,hlt',hr,hr2,List.take_of_length_le,Mk.cells,List.take_append,List.drop_append,drop_bytes]

end Go.Ev.S
namespace Go.Ev.S
open Go Go.Proofs Go.Ev
theorem nums3_ev [MaxL] [TxtC] (a b c:Nat) (ha:a < 18446744073709551616) (hb:b < 18446744073709551616) (hc:c < 18446744073709551616) :
  call cx 115 [.vsl false [.int .u64 a,.int .u64 b,.int .u64 c] 3] [] = some (.vsl false (ofBytes (leB 8 a ++ (leB 8 b ++ leB 8 c))) 24,[]):=by
 have h1:=low_ev a ha
 have h2:=low_ev b hb
 have h3:=low_ev c hc
 clear ha hb hc
 refine call_run Tryz.func115 rfl ⟨rfl,rfl⟩ ?_
 simp [Tryz.f115]
 iterate 4
  refine run_unroll ?_
  simp [h1,h2,h3,List.take_of_length_le,maxBytes]
 simp [ofBytes_append]
set_option maxRecDepth 4000 in
set_option maxHeartbeats 2000000 in
theorem rmbytes_ev [MaxL] [TxtC] (s:Sl Mk) (hn:s.l.length < 4611686018427387904) (hok:∀ m∈s.l,m.Ok) :
  call cx 79 [(.vsl s.nil (encs s.l) s.l.length)] [] = some ((.vsl (bytesS s.l).nil (ofBytes (bytesS s.l).l) (bytesS s.l).l.length),[]):=by
 have hr:=rmright_ev s hn
 refine call_run Tryz.func79 rfl ⟨rfl,rfl⟩ ?_
 cases h:rightM s.l with
 | false =>
  rw [h] at hr
  simp [Tryz.f79,hr,bytesS,h,ofBytes]
 | true =>
  rw [h] at hr
  have hl:=rightM_le h
  clear hn
  have hw8:IntKind.u8.wrap (s.l.length:Int) = (s.l.length:Int):=by rw [wrap_u8];omega
  simp [Tryz.f79,hr,bytesS,h,hw8]
  refine Run.loopThen (fun (i:Nat) e H=>i≤s.l.length∧∃ X:List UInt8,BytesC s.l i X∧H = [some (ofBytes X)]∧look e 3 = some (.osl 0 X.length 0 X.length 1)∧look e 0 = some (.vsl s.nil (encs s.l) s.l.length)∧look e 4 = some (.int .i64 i)) (fun i=>s.l.length - i) 0 ?_ ?_
  ·refine ⟨by omega,[UInt8.ofNat s.l.length],by simp [BytesC],?_⟩
   simp [ofBytes]
   omega
  rintro i e H ⟨hi,X,hX,rfl,h3,h0,h4⟩
  by_cases hlt:i < s.l.length
  ·have hlt':(i:Int) < (s.l.length:Int):=by omega
   have hw:IntKind.i64.wrap ((i:Int)+1) = ((i+1:Nat):Int):=by rw [wrap_i64] <;> omega
   have h16:∀ k,(16≤19+k) = True:=fun k=>eq_true (by omega)
   have hl40:=mkBs_len (s.l.take i)
   rw [List.length_take,Nat.min_eq_left hi] at hl40
   have hsn:BytesC s.l (i+1) (X ++ mkB s.l[i]):=by
    unfold BytesC at *
    rw [hX,List.take_succ_eq_append_getElem hlt,List.flatMap_append];simp
   have hXl:X.length≤200:=by rw [hX,List.length_cons,hl40];omega
   clear hX hl40
   have hm:=hok _ (List.getElem_mem hlt)
   obtain ⟨⟨m0,m1,m2,m3⟩,hme⟩:∃ m,s.l[i] = m:=⟨_,rfl⟩
   rw [hme] at hsn hm
   obtain ⟨a1,rfl⟩:∃ k:Nat,m1 = k:=⟨m1.toNat,by have:=hm.seq;simp [isU64] at this;omega⟩
   obtain ⟨a2,rfl⟩:∃ k:Nat,m2 = k:=⟨m2.toNat,by have:=hm.lost;simp [isU64] at this;omega⟩
   obtain ⟨a3,rfl⟩:∃ k:Nat,m3 = k:=⟨m3.toNat,by have:=hm.over;simp [isU64] at this;omega⟩
   have hN:=nums3_ev a1 a2 a3 (by have:=hm.seq;simp [isU64] at this;omega) (by have:=hm.lost;simp [isU64] at this;omega) (by have:=hm.over;simp [isU64] at this;omega)
   have hb1:X.length+16≤140737488355328:=Nat.le_trans (Nat.add_le_add_right hXl 16) (by decide)
   have hb2:X.length+16+24≤140737488355328:=Nat.le_trans (Nat.add_le_add_right hXl 40) (by decide)
   have hb3:X.length+40≤140737488355328:=hb2
   simp [h3,h0,h4,hlt',hlt,Sl.nn hlt,hme,maxBytes,hb1,hb2,hN,hw,h16,List.take_of_length_le,Nat.add_assoc]
   clear hb1 hb2 hb3
   exact ⟨i+1,by omega,by omega,_,hsn,by simp [mkB,ofBytes_append],by simp [mkB],rfl⟩
  ·have hlt':¬ (i:Int) < (s.l.length:Int):=by omega
   have hit:s.l.take i = s.l:=List.take_of_length_le (by omega)
   have hXe:X = mksB s.l:=by rw [hX,hit];rfl
   simp [h3,h0,h4,hlt',hXe]
end Go.Ev.S
namespace Go.Ev.S
open Go Go.Proofs Go.Ev
end Go.Ev.S
namespace Go.Ev.S
open Go Go.Proofs Go.Ev
theorem bnd40 {n:Nat} (h:n≤1000):n * 40≤140737488355328∧n≤140737488355328:=by omega
end Go.Ev.S
namespace Go.Ev.S
open Go Go.Proofs Go.Ev
def rsetGo (m:Mk):List Mk→Bool→List Mk × Bool
 | [],i=>([],i)
 | x :: l,i=>let c:=cmpB x.id.l m.id.l
  let r:=rsetGo m l (i || decide (0≤c))
  ((if !i && decide (0≤c) then [m] else []) ++ (if c≠0 then [x] else []) ++ r.1,r.2)
def rsetL (l:List Mk) (m:Mk):List Mk:=(rsetGo m l false).1 ++ (if (rsetGo m l false).2 then [] else [m])
def rsetC (l:List Mk) (m:Mk):Int:=if rightM l then (if !hasM l m.id && decide (4≤l.length) then 15 else 0) else 1
theorem rsetGo_len (m:Mk):∀ (l:List Mk) (i:Bool),(rsetGo m l i).1.length≤2 * l.length
 | [],_=>by simp [rsetGo]
 | x :: l,i=>by
  have:=rsetGo_len m l (i || decide (0≤cmpB x.id.l m.id.l))
  simp only [rsetGo,List.length_append,List.length_cons]
  have h1:(if (!i && decide (0≤cmpB x.id.l m.id.l)) = true then [m] else []).length≤1:=by split <;> simp
  have h2:(if cmpB x.id.l m.id.l≠0 then [x] else []).length≤1:=by split <;> simp
  omega
theorem rsetGo_app (m:Mk):∀ (a b:List Mk) (i:Bool),rsetGo m (a ++ b) i = ((rsetGo m a i).1 ++ (rsetGo m b (rsetGo m a i).2).1,(rsetGo m b (rsetGo m a i).2).2)
 | [],b,i=>by simp [rsetGo]
 | x :: a,b,i=>by
  simp only [List.cons_append,rsetGo,rsetGo_app m a b,List.append_assoc]
def RS (m:Mk) (g:List Mk) (d:D) (H:Heap):Prop:=(d = .vsl true [] 0∧g = []∧H = [some (Enc.cells m)])∨(d = .osl 1 (g.length * 19) 0 g.length 19∧H = [some (Enc.cells m),some (encs g)]∧g≠[])
theorem RS.app {m:Mk} {g:List Mk} {n k:Nat} {cs:List D} (hne:g≠[]) (hn:n = g.length * 19) (hk:k = g.length) (hc:cs = encs g):RS m g (.osl 1 n 0 k 19) [some (Enc.cells m),some cs]:=by
 subst hn;subst hk;subst hc
 exact .inr ⟨rfl,rfl,hne⟩
theorem RS.nil {m:Mk}:RS m [] (.vsl true [] 0) [some (Enc.cells m)]:=.inl ⟨rfl,rfl,rfl⟩
theorem rsetGo_ne (m:Mk):∀ (l:List Mk),(rsetGo m l false).2 = true→(rsetGo m l false).1≠[]
 | [],h=>by simp [rsetGo] at h
 | x :: l,h=>by
  simp only [rsetGo]
  by_cases hc:0≤cmpB x.id.l m.id.l
  ·simp [hc]
  ·have h0:¬ cmpB x.id.l m.id.l = 0:=fun h0=>hc (by rw [h0];decide)
   simp [h0]
theorem tri (c:Int):(c < 0∧¬ 0≤c∧¬ c = 0)∨(c = 0∧0≤c)∨(0≤c∧¬ c = 0):=by omega
noncomputable def LSet:Code:=cAt [1,1,1,1,1,1,0,1,0,0] (stripC (bodyOf Tryz.f46))
set_option maxRecDepth 4000 in
set_option maxHeartbeats 2000000 in
theorem rset_loop [MaxL] [TxtC] (s:Sl Mk) (hl4:s.l.length≤4) (m:Mk) (e:Env) (h0:look e 0 = some (.vsl s.nil (encs s.l) s.l.length)) (h3:look e 3 = some (.optr 0 19 0)) (h10:look e 10 = some (.int .i64 0)) (h9:look e 9 = some (.bool false)) (h8:look e 8 = some (.vsl true [] 0)) :
  Run cx 46 69 0 (fun ex e H=>ex = .exit 0∧look e 3 = some (.optr 0 19 0)∧look e 9 = some (.bool (rsetGo m s.l false).2)∧∃ d,look e 8 = some d∧RS m (rsetGo m s.l false).1 d H) [] (code cx 46 69 0 (.loop LSet) e [some (Enc.cells m)]):=by
 refine Run.loopThen (fun (i:Nat) e H=>i≤s.l.length∧look e 0 = some (.vsl s.nil (encs s.l) s.l.length)∧look e 3 = some (.optr 0 19 0)∧look e 10 = some (.int .i64 i)∧look e 9 = some (.bool (rsetGo m (s.l.take i) false).2) ∧
  (∃ d,look e 8 = some d∧RS m (rsetGo m (s.l.take i) false).1 d H)) (fun i=>s.l.length - i) 0 ?_ ?_
 ·simp [rsetGo,h0,h3,h10,h9,h8,RS.nil]
 clear h0 h3 h10 h9 h8 e
 rintro i e H ⟨hi,h0,h3,h10,h9,d,h8,hst⟩
 by_cases hlt:i < s.l.length
 ·have hlt':(i:Int) < (s.l.length:Int):=by omega
  have hw:IntKind.i64.wrap ((i:Int)+1) = ((i+1:Nat):Int):=by rw [wrap_i64] <;> omega
  have h16:∀ k,(16≤19+k) = True:=fun k=>eq_true (by omega)
  have hc:=ids_ev s.l[i].id m.id
  have hgl:=rsetGo_len m (s.l.take i) false
  rw [List.length_take,Nat.min_eq_left hi] at hgl
  have hsn:rsetGo m (s.l.take (i+1)) false = ((rsetGo m (s.l.take i) false).1 ++ (rsetGo m [s.l[i]] (rsetGo m (s.l.take i) false).2).1,(rsetGo m [s.l[i]] (rsetGo m (s.l.take i) false).2).2):=by
   rw [List.take_succ_eq_append_getElem hlt,rsetGo_app]
  generalize rsetGo m (s.l.take i) false = g at *
  obtain ⟨g1,g2⟩:=g
  simp only at h9 hst hgl hsn
  have hb0:g1.length≤100:=by omega
  have hb1:g1.length * 40+40≤140737488355328∧g1.length+1≤140737488355328:=by have:=bnd40 (n:=g1.length+1) (by omega);rwa [Nat.add_mul] at this
  have hb3:g1.length * 40+80≤140737488355328∧g1.length+2≤140737488355328:=by have:=bnd40 (n:=g1.length+2) (Nat.le_trans (Nat.add_le_add_right hb0 2) (by decide));rwa [Nat.add_mul] at this
  clear hb0
  simp only [rsetGo,List.append_nil] at hsn
  have hcc:(cmpB s.l[i].id.l m.id.l < 0∧¬ 0≤cmpB s.l[i].id.l m.id.l∧¬ cmpB s.l[i].id.l m.id.l = 0)∨(cmpB s.l[i].id.l m.id.l = 0∧0≤cmpB s.l[i].id.l m.id.l)∨(0≤cmpB s.l[i].id.l m.id.l∧¬ cmpB s.l[i].id.l m.id.l = 0):=tri _
  generalize cmpB s.l[i].id.l m.id.l = c at *
  simp only [LSet,cAt,bodyOf,Tryz.f46,Option.getD,stripC,stripL,stripOp]
  cases g2 <;> rcases hcc with ⟨c1,c2,c3⟩ | ⟨rfl,c1⟩ | ⟨c1,c2⟩ <;> rcases hst with ⟨rfl,rfl,rfl⟩ | ⟨rfl,rfl,hne⟩ <;>
   first
    | simp [h0,h3,h10,h9,h8,hlt',hlt,Sl.nn hlt,h16,hc,c2,c3,hw,hb1,maxBytes,Nat.add_mul]
    | simp [h0,h3,h10,h9,h8,hlt',hlt,Sl.nn hlt,h16,hc,c1,c2,hw,hb1,hb3,maxBytes,Nat.add_assoc,Nat.add_mul]
    | simp [h0,h3,h10,h9,h8,hlt',hlt,Sl.nn hlt,h16,hc,hw,hb1,maxBytes,Nat.add_mul]
  all_goals
   clear hb1 hb3
   refine ⟨i+1,by omega,by omega,rfl,?_,?_⟩
   ·first | (rw [hsn];done) | (rw [hsn];simp [c2];done) | (rw [hsn];simp [c1];done) | (rw [hsn];simp;done)
   ·rw [hsn]
    first
     | exact RS.nil
     | (refine RS.app ?_ ?_ ?_ ?_ <;> first | simp [c2,c3,encs_append,Nat.add_mul,encs_cons] | simp [c1,c2,encs_append,Nat.add_mul,encs_cons] | simp [encs_append,Nat.add_mul,encs_cons,hne] | simp [encs_cons])
 ·have hlt':¬ (i:Int) < (s.l.length:Int):=by omega
  have hit:s.l.take i = s.l:=List.take_of_length_le (by omega)
  rw [hit] at h9 hst
  simp only [LSet,cAt,bodyOf,Tryz.f46,Option.getD,stripC,stripL,stripOp]
  simp [h0,h3,h10,h9,h8,hlt']
  exact hst
set_option maxRecDepth 4000 in
set_option maxHeartbeats 1000000 in
theorem rset_ev [MaxL] [TxtC] (s:Sl Mk) (hn:s.l.length < 4611686018427387904) (m:Mk) :
  call cx 46 [(.vsl s.nil (encs s.l) s.l.length),.agg (Enc.cells m)] [] = some (.tup [(.vsl (resS (rsetC s.l m) (.of (rsetL s.l m))).nil (encs (resS (rsetC s.l m) (.of (rsetL s.l m))).l) (resS (rsetC s.l m) (.of (rsetL s.l m))).l.length),.int .i64 (rsetC s.l m)],[]):=by
 have hr:=rmright_ev s hn
 have hg:=rmget_ev s hn m.id
 refine call_run Tryz.func46 rfl ⟨rfl,rfl⟩ ?_
 cases h1:rightM s.l with
 | false =>
  rw [h1] at hr
  simp [Tryz.f46,hr,rsetC,h1,resS]
 | true =>
  rw [h1] at hr
  have hl4:=rightM_le h1
  by_cases hfull:hasM s.l m.id = false∧4≤s.l.length
  ·obtain ⟨h2,h3⟩:=hfull
   have h3':(4:Int)≤(s.l.length:Int):=by clear hn;omega
   rw [h2] at hg
   simp [Tryz.f46,hr,hg,rsetC,h1,h2,h3,h3',resS]
  ·have hc0:rsetC s.l m = 0:=by
    unfold rsetC
    rw [h1,if_pos rfl,if_neg]
    simp only [Bool.and_eq_true,Bool.not_eq_true',decide_eq_true_eq]
    exact hfull
   rw [hc0]
   have hb2:hasM s.l m.id = false→¬ (4:Int)≤(s.l.length:Int):=fun h h4=>hfull ⟨h,by clear hn;omega⟩
   have hlp:=rset_loop s hl4 m
   simp only [LSet,cAt,bodyOf,Tryz.f46,Option.getD,stripC,stripL,stripOp] at hlp
   have hgl:=rsetGo_len m s.l false
   have hb1:(rsetGo m s.l false).1.length * 40+40≤140737488355328∧(rsetGo m s.l false).1.length+1≤140737488355328:=by have:=bnd40 (n:=(rsetGo m s.l false).1.length+1) (by clear hn;omega);rwa [Nat.add_mul] at this
   have hne0:=rsetGo_ne m s.l
   cases hb:hasM s.l m.id
   ·have hb2':=hb2 hb
    rw [hb] at hg
    simp [Tryz.f46,hr,hg,hb2',resS]
    refine Run.mono (hlp _ ?_ ?_ ?_ ?_ ?_) ?_
    iterate 5 simp
    rintro ex e H ⟨rfl,h3,h9,d,h8,hst⟩
    unfold rsetL
    rcases hst with ⟨rfl,hz,rfl⟩ | ⟨rfl,rfl,hne⟩ <;> cases hg2:(rsetGo m s.l false).2 <;> simp [h3,h9,h8,hg2,maxBytes,hb1,Nat.add_mul,← encs_snoc,List.take_of_length_le]
    ·rw [hz];simp [encs_one]
    ·exact hne0 hg2 hz
   ·rw [hb] at hg
    simp [Tryz.f46,hr,hg,resS]
    refine Run.mono (hlp _ ?_ ?_ ?_ ?_ ?_) ?_
    iterate 5 simp
    rintro ex e H ⟨rfl,h3,h9,d,h8,hst⟩
    unfold rsetL
    rcases hst with ⟨rfl,hz,rfl⟩ | ⟨rfl,rfl,hne⟩ <;> cases hg2:(rsetGo m s.l false).2 <;> simp [h3,h9,h8,hg2,maxBytes,hb1,Nat.add_mul,← encs_snoc,List.take_of_length_le]
    ·rw [hz];simp [encs_one]
    ·exact hne0 hg2 hz
end Go.Ev.S
namespace Go.Ev.S
open Go Go.Proofs Go.Ev
def rmoreM (v n:Int):Int:=if IntKind.u64.wrap (u64max - n) < v then u64max else IntKind.u64.wrap (v+n)
theorem rmore_ev [MaxL] [TxtC] (v n:Int):call cx 45 [.int .u64 v,.int .u64 n] [] = some (.int .u64 (rmoreM v n),[]):=by
 refine call_run Tryz.func45 rfl ⟨rfl,rfl⟩ ?_
 by_cases h:IntKind.u64.wrap (18446744073709551615 - n) < v
 ·simp [Tryz.f45,h,rmoreM,u64max]
 ·simp [Tryz.f45,h,rmoreM,u64max]
def rstepM (m:Mk) (it:It) (over:Bool):Mk :=
 if it.gap then { m with seq:=it.til,lost:=rmoreM m.lost (rmoreM (IntKind.u64.wrap (it.til - it.fr)) 1) }
 else { m with seq:=it.rc.seq,over:=if over then rmoreM m.over 1 else m.over }
def rtakeL (l:List Mk) (it:It) (over:Bool):List Mk:=rsetL l (rstepM (getM l it.id) it over)
def rtakeC (l:List Mk) (it:It) (over:Bool):Int :=
 let c:=rsetC l (rstepM (getM l it.id) it over)
 if c≠0 then c else if goesM (getM l it.id) it then 0 else 13
set_option maxRecDepth 4000 in
set_option maxHeartbeats 2000000 in
theorem rtake_ev [MaxL] [TxtC] (s:Sl Mk) (hn:s.l.length < 4611686018427387904) (it:It) (over:Bool) :
  call cx 19 [(.vsl s.nil (encs s.l) s.l.length),.agg (Enc.cells it),.bool over] [] = some (.tup [(.vsl (resS (rtakeC s.l it over) (.of (rtakeL s.l it over))).nil (encs (resS (rtakeC s.l it over) (.of (rtakeL s.l it over))).l) (resS (rtakeC s.l it over) (.of (rtakeL s.l it over))).l.length),.int .i64 (rtakeC s.l it over)],[]):=by
 have hge:=rmget_ev s hn it.id
 have hgid:=getM_id s.l it.id
 have hse:=rset_ev s hn (rstepM (getM s.l it.id) it over)
 refine call_run Tryz.func19 rfl ⟨rfl,rfl⟩ ?_
 unfold rtakeC rtakeL
 generalize getM s.l it.id = g at *
 have hm1:=rmore_ev (IntKind.u64.wrap (it.til - it.fr)) 1
 have hm2:=rmore_ev g.lost (rmoreM (IntKind.u64.wrap (it.til - it.fr)) 1)
 have hm3:=rmore_ev g.over 1
 have key:∀ (st:Mk) (hst:rstepM g it over = st),∀ c (hc:rsetC s.l st = c),∀ d (hd:rsetL s.l st = d),True:=fun _ _ _ _ _ _=>trivial
 cases hgap:it.gap with
 | true =>
  have hst:rstepM g it over = { g with seq:=it.til,lost:=rmoreM g.lost (rmoreM (IntKind.u64.wrap (it.til - it.fr)) 1) }:=by simp [rstepM,hgap]
  rw [hst] at hse ⊢
  generalize rsetC s.l { g with seq:=it.til,lost:=rmoreM g.lost (rmoreM (IntKind.u64.wrap (it.til - it.fr)) 1) } = c at *
  generalize rsetL s.l { g with seq:=it.til,lost:=rmoreM g.lost (rmoreM (IntKind.u64.wrap (it.til - it.fr)) 1) } = d at *
  by_cases hc:c = 0
  ·subst hc
   by_cases h1:it.fr≤g.seq
   ·simp [Tryz.f19,hge,hgap,hm1,hm2,hse,h1,goesM,resS]
   ·by_cases h2:it.til < it.fr
    ·simp [Tryz.f19,hge,hgap,hm1,hm2,hse,h1,h2,goesM,resS]
    ·simp [Tryz.f19,hge,hgap,hm1,hm2,hse,h1,h2,goesM,resS]
  ·simp [Tryz.f19,hge,hgap,hm1,hm2,hse,hc,resS]
 | false =>
  have hst:rstepM g it over = { g with seq:=it.rc.seq,over:=if over then rmoreM g.over 1 else g.over }:=by simp [rstepM,hgap]
  rw [hst] at hse ⊢
  cases over with
  | false =>
   simp only [Bool.false_eq_true,if_false] at hse ⊢
   generalize rsetC s.l { g with seq:=it.rc.seq,over:=g.over } = c at *
   generalize rsetL s.l { g with seq:=it.rc.seq,over:=g.over } = d at *
   by_cases hc:c = 0
   ·subst hc
    by_cases h1:it.rc.seq≤g.seq
    ·simp [Tryz.f19,hge,hgap,hse,h1,goesM,resS]
    ·simp [Tryz.f19,hge,hgap,hse,h1,goesM,resS]
   ·simp [Tryz.f19,hge,hgap,hse,hc,resS]
  | true =>
   simp only [if_true] at hse ⊢
   generalize rsetC s.l { g with seq:=it.rc.seq,over:=rmoreM g.over 1 } = c at *
   generalize rsetL s.l { g with seq:=it.rc.seq,over:=rmoreM g.over 1 } = d at *
   by_cases hc:c = 0
   ·subst hc
    by_cases h1:it.rc.seq≤g.seq
    ·simp [Tryz.f19,hge,hgap,hm3,hse,h1,goesM,resS]
    ·simp [Tryz.f19,hge,hgap,hm3,hse,h1,goesM,resS]
   ·simp [Tryz.f19,hge,hgap,hm3,hse,hc,resS]
end Go.Ev.S
namespace Go.Ev.S
open Go Go.Proofs Go.Ev
end Go.Ev.S
namespace Go.Ev.S
open Go Go.Proofs Go.Ev
def ItsB (l:List It):Prop:= ∀ x∈l,x.Ok∧x.rc.fields.l.length < 1000000∧∀ p∈x.rc.fields.l,PrB p
theorem flat_len {l:List It} (h:ItsB l) (ho:∀ x∈l,itOk x = true):(l.flatMap itB).length≤l.length * 10004:=by
 induction l with
 | nil=>simp
 | cons a l ih =>
  have h1:=ih (fun x hx=>h x (List.mem_cons_of_mem _ hx)) fun x hx=>ho x (List.mem_cons_of_mem _ hx)
  have h2:=(textL_len (h a (List.mem_cons_self ..)).1 (ho a (List.mem_cons_self ..))).1
  rw [List.flatMap_cons,List.length_append,itB_len,List.length_cons,Nat.add_mul]
  omega
theorem putS_none {l:List It} {m:List Mk} (h:putOk l m = false):putS l m = .none:=by unfold putS;rw [h];rfl
def PutC (s:List It) (i:Nat) (X:List UInt8):Prop:=X = (kSign ++ leB 2 s.length) ++ (s.take i).flatMap itB
end Go.Ev.S
namespace Go.Ev.S
open Go Go.Proofs Go.Ev
set_option maxHeartbeats 2000000 in
theorem rmoreS_ev [MaxL] [TxtC] (s:BitVec 32) (b:Sl UInt8) (hn:b.l.length < 4611686018427387904):call cx 91 [.int .u32 s.toNat,(.vsl b.nil (ofBytes b.l) b.l.length)] [] = some (.int .u32 ((crcM s b.l).toNat:Nat),[]):=by
 refine call_run Tryz.func91 rfl ⟨rfl,rfl⟩ ?_
 have hun:∀ v:BitVec 32,unD .xor (.int .u32 (v.toNat:Int)) = some (.int .u32 ((~~~ v).toNat:Int)):=fun v=>congrArg (fun x=>some (D.int .u32 x)) (not32 v)
 have h0:=hun s
 unfold crcM
 obtain ⟨g,hg⟩:∃ g,crcGo (~~~ s) b.l = g:=⟨_,rfl⟩
 rw [hg]
 have h1:=hun g
 generalize ((~~~ g).toNat:Int) = r at *
 generalize ~~~ s = s0 at *
 clear hun
 simp [-unD,Tryz.f91,h0]
 refine Run.loopThen (fun (q:Nat × BitVec 32) e H'=>q.1≤b.l.length∧crcGo q.2 (b.l.drop q.1) = g∧look e 0 = some (.int .u32 (q.2.toNat:Int))∧look e 1 = some (.vsl b.nil (ofBytes b.l) b.l.length)∧look e 5 = some (.int .i64 (q.1:Nat))∧H' = []) (fun q=>b.l.length - q.1) (0,s0) ⟨Nat.zero_le _,by simpa using hg,by simp,by simp,by simp,rfl⟩ ?_
 rintro ⟨i,v⟩ e H' ⟨hi,hR,k0,k1,k5,rfl⟩
 simp only at hi hR k0 k5
 by_cases hlt:i < b.l.length
 ·have hlt':(i:Int) < (b.l.length:Int):=by omega
  have hw:IntKind.i64.wrap ((i:Int)+1) = ((i+1:Nat):Int):=by rw [wrap_i64] <;> omega
  have hd:=drop_u8 hlt
  have hb:=byte32 v b.l[i]
  rw [List.drop_eq_getElem_cons hlt] at hR
  generalize b.l[i] = c at *
  replace hR:crcGo (crcN 8 (v ^^^ BitVec.ofNat 32 c.toNat)) (b.l.drop (i+1)) = g:=hR
  generalize v ^^^ BitVec.ofNat 32 c.toNat = w at *
  have hwc:IntKind.u32.wrap (c.toNat:Int) = (c.toNat:Int):=by have:=c.toNat_lt;rw [wrap_u32];omega
  simp [-unD,k0,k1,k5,hlt',Sl.nn hlt,hd,hwc,hb]
  refine loopJ (fun (q:Nat × BitVec 32) e H'=>q.1≤8∧crcN (8 - q.1) q.2 = crcN 8 w∧look e 0 = some (.int .u32 (q.2.toNat:Int))∧look e 1 = some (.vsl false (ofBytes b.l) b.l.length)∧look e 5 = some (.int .i64 (i:Nat))∧look e 6 = some (.int .i64 (q.1:Nat))∧H' = []) (fun q=>8 - q.1) (0,w)
   (fun ex e H'=>ex = .exit 2∧look e 0 = some (.int .u32 ((crcN 8 w).toNat:Int))∧look e 1 = some (.vsl false (ofBytes b.l) b.l.length)∧look e 5 = some (.int .i64 (i:Nat))∧H' = []) ⟨Nat.zero_le _,rfl,by simp,by simp,by simp,by simp,rfl⟩ ?_ ?_
  ·clear k0 k1 k5
   rintro ⟨j,u⟩ e H' ⟨hj,hu,k0,k1,k5,k6,rfl⟩
   simp only at hj hu k0 k6
   by_cases hj8:j < 8
   ·have hji:(j:Int) < 8:=by omega
    have hwj:IntKind.i64.wrap ((j:Int)+1) = ((j+1:Nat):Int):=by rw [wrap_i64] <;> omega
    have hb1:(u.toNat:Int).tmod 2 = ((u.toNat % 2:Nat):Int):=by rw [Int.tmod_eq_emod_of_nonneg (Int.natCast_nonneg _)];rfl
    have hwm:IntKind.u32.wrap ((u.toNat % 2:Nat):Int) = ((u.toNat % 2:Nat):Int):=by rw [wrap_u32];omega
    have hb2:=half32 u
    rw [show (2:Int) = 2 ^ min 1 IntKind.u32.bits from rfl] at hb2
    have hb3:=poly32 (u >>> 1)
    have hst:crcN (8 - (j+1)) (crcBit u) = crcN 8 w:=by
     rw [← hu,show 8 - j = (8 - (j+1))+1 by omega]
     rfl
    unfold crcBit at hst
    generalize u >>> 1 = h at *
    by_cases hp:u.toNat % 2 = 1
    ·rw [hp] at hb1 hwm
     rw [if_pos hp] at hst
     generalize h ^^^ 2197175160#32 = y at *
     simp [-unD,k0,k1,k5,k6,hji,hwj,hb1]
     exact ⟨j+1,by omega,by omega,y,hst,by rw [hb2,hb3],rfl⟩
    ·have hp0:u.toNat % 2 = 0:=by omega
     rw [hp0] at hb1 hwm
     rw [if_neg hp] at hst
     simp [-unD,k0,k1,k5,k6,hji,hwj,hb1]
     exact ⟨j+1,by omega,by omega,h,hst,hb2,rfl⟩
   ·have hji:¬ (j:Int) < 8:=by omega
    have hj0:8 - j = 0:=by omega
    rw [hj0] at hu
    replace hu:u = crcN 8 w:=hu
    simp [-unD,k0,k1,k5,k6,hji,hu]
  ·clear k0 k1 k5
   rintro ex e H' ⟨rfl,k0,k1,k5,rfl⟩
   generalize crcN 8 w = z at *
   simp [-unD,k0,k1,k5,hw]
   exact ⟨i+1,by omega,by omega,z,hR,rfl,rfl⟩
 ·have hlt':¬ (i:Int) < (b.l.length:Int):=by omega
  rw [List.drop_eq_nil_of_le (by omega)] at hR
  replace hR:v = g:=hR
  subst hR
  simp [-unD,k0,k1,k5,hlt',h1]
theorem lowN_ev [MaxL] [TxtC] (v n:Nat) (hn1:1≤n) (hn8:n≤8) (hv:v < 18446744073709551616):call cx 87 [.int .u64 v,.int .i64 n] [] = some (.vsl false (ofBytes (leB n v)) n,[]):=by
 refine call_run Tryz.func87 rfl ⟨rfl,rfl⟩ ?_
 simp [Tryz.f87]
 refine Run.loopThen (fun (i:Nat) e H=>i≤n∧(∃ d,look e 5 = some d∧Buf d H (leB i v))∧look e 0 = some (.int .u64 (v / 256 ^ i:Nat))∧look e 1 = some (.int .i64 n)∧look e 6 = some (.int .i64 i)) (fun i=>n - i) 0 ?_ ?_
 ·simp [leB,Buf]
 rintro i e H ⟨hi,⟨d,h5,hbuf⟩,h0,h1,h6⟩
 by_cases hlt:i < n
 ·have hlt':(i:Int) < (n:Int):=by omega
  have hw:IntKind.i64.wrap ((i:Int)+1) = ((i+1:Nat):Int):=by rw [wrap_i64] <;> omega
  have hsn:=leB_snoc i v
  have hl:(leB i v).length≤8:=by simp;omega
  have hq:v / 256 ^ i < 18446744073709551616:=Nat.lt_of_le_of_lt (Nat.div_le_self _ _) hv
  have hnx:v / 256 ^ (i+1) = v / 256 ^ i / 256:=by rw [Nat.pow_succ,Nat.div_div_eq_div_mul]
  generalize v / 256 ^ i = x at *
  have ht1:(x:Int).tmod 256 = ((x % 256:Nat):Int):=by
   rw [Int.tmod_eq_emod_of_nonneg (Int.natCast_nonneg _)];rfl
  have ht2:(x:Int).tdiv 256 = ((x / 256:Nat):Int):=by
   rw [Int.tdiv_eq_ediv_of_nonneg (Int.natCast_nonneg _)];rfl
  have hx256:x % 256 < 256:=Nat.mod_lt _ (by decide)
  have hw1:IntKind.u8.wrap ((x % 256:Nat):Int) = ((UInt8.ofNat (x % 256)).toNat:Int):=by
   rw [UInt8.toNat_ofNat_of_lt' hx256]
   clear hv hq
   generalize x % 256 = y at *
   rw [wrap_u8]
   omega
  have hw2:IntKind.u64.wrap ((x / 256:Nat):Int) = ((x / 256:Nat):Int):=by
   have:x / 256 < 18446744073709551616:=Nat.lt_of_le_of_lt (Nat.div_le_self _ _) hq
   clear hv hq
   generalize x / 256 = y at *
   rw [wrap_u64]
   omega
  generalize UInt8.ofNat (x % 256) = c at *
  clear hv hq
  generalize leB i v = l at *
  have hmx:l.length+1≤140737488355328:=Nat.le_trans (Nat.add_le_add_right hl 1) (by decide)
  rcases hbuf with ⟨rfl,rfl,rfl⟩ | ⟨rfl,rfl⟩
  ·simp [h5,h0,h1,h6,hlt',hw,ht1,ht2,hw1,hw2,maxBytes,-Int.natCast_emod,-Int.natCast_ediv]
   clear hmx
   exact ⟨i+1,by omega,by omega,.inr (by simp [hsn,ofBytes]),by rw [hnx],rfl⟩
  ·simp [h5,h0,h1,h6,hlt',hw,ht1,ht2,hw1,hw2,maxBytes,hmx,-Int.natCast_emod,-Int.natCast_ediv]
   clear hmx
   exact ⟨i+1,by omega,by omega,.inr (by simp [hsn,ofBytes]),by rw [hnx],rfl⟩
 ·have hlt':¬ (i:Int) < (n:Int):=by omega
  have h8:i = n:=by omega
  subst h8
  have hl:(leB i v).length = i:=leB_len i v
  generalize leB i v = l at *
  rcases hbuf with ⟨rfl,rfl,rfl⟩ | ⟨rfl,rfl⟩
  ·simp at hl;omega
  ·simp [h5,h0,h1,h6,hl,List.take_of_length_le]
theorem rseal_ev [MaxL] [TxtC] (b:Sl UInt8) (hn:b.l.length≤140737488354000):call cx 56 [(.vsl b.nil (ofBytes b.l) b.l.length)] [] = some ((.vsl ((.of (sealB b.l):Sl UInt8)).nil (ofBytes ((.of (sealB b.l):Sl UInt8)).l) ((.of (sealB b.l):Sl UInt8)).l.length),[]):=by
 have h1:=rmoreS_ev 0#32 b (by omega)
 have h2:=lowN_ev (crcM 0#32 b.l).toNat 4 (by decide) (by decide) (Nat.lt_trans (crcM 0#32 b.l).isLt (by decide))
 have hw:IntKind.u64.wrap ((crcM 0#32 b.l).toNat:Int) = ((crcM 0#32 b.l).toNat:Int):=by
  have:=(crcM 0#32 b.l).isLt
  rw [wrap_u64]
  omega
 have e:sealB b.l = b.l ++ leB 4 (crcM 0#32 b.l).toNat:=rfl
 rw [e]
 simp only [BitVec.toNat_ofNat] at h1
 generalize (crcM 0#32 b.l).toNat = v at *
 have hl4:(leB 4 v).length = 4:=leB_len 4 v
 generalize leB 4 v = z at *
 have h3:call cx 90 [(.vsl b.nil (ofBytes b.l) b.l.length),.int .i64 4,.int .u64 v] [] = some ((.vsl ((.of (b.l ++ z):Sl UInt8)).nil (ofBytes ((.of (b.l ++ z):Sl UInt8)).l) ((.of (b.l ++ z):Sl UInt8)).l.length),[]):=by
  refine call_run Tryz.func90 rfl ⟨rfl,rfl⟩ ?_
  have hm1:b.l.length≤140737488355328:=by omega
  have hm2:b.l.length+4≤140737488355328:=by omega
  have htk:List.take (b.l.length+4) (ofBytes b.l ++ ofBytes z) = ofBytes b.l ++ ofBytes z:=List.take_of_length_le (by simp [hl4])
  replace h2:call cx 87 [.int .u64 v,.int .i64 4] [] = some (.vsl false (ofBytes z) 4,[]):=h2
  simp [Tryz.f90,h2,maxBytes,hm1,hm2,hl4,ofBytes_append,htk]
 refine call_run Tryz.func56 rfl ⟨rfl,rfl⟩ ?_
 replace h1:call cx 91 [.int .u32 0,(.vsl b.nil (ofBytes b.l) b.l.length)] [] = some (.int .u32 v,[]):=h1
 simp [Tryz.f56,h1,h3,hw]
end Go.Ev.S
namespace Go.Ev.S
open Go Go.Proofs Go.Ev
end Go.Ev.S
namespace Go.Ev.S
open Go Go.Proofs Go.Ev
def PutR (X:List UInt8) (d:D) (H:Heap):Prop:= ∃ n,n = X.length∧d = .osl 0 n 0 n 1∧H = [some (ofBytes X)]
set_option maxHeartbeats 4000000 in
theorem rput_ev [MaxL] (s:Sl It) (m:Sl Mk) (hs:ItsB s.l) (hm:∀ x∈m.l,x.Ok) (hmn:m.l.length < 4611686018427387904):call cx 55 [(.vsl s.nil (encs s.l) s.l.length),(.vsl m.nil (encs m.l) m.l.length)] [] = some ((.vsl (putS s.l m.l).nil (ofBytes (putS s.l m.l).l) (putS s.l m.l).l.length),[]):=by
 have hr:=rmright_ev m hmn
 refine call_run Tryz.func55 rfl ⟨rfl,rfl⟩ ?_
 by_cases h64:s.l.length≤64
 case neg =>
  have h64':(64:Int) < (s.l.length:Int):=by omega
  have hp:putOk s.l m.l = false:=by unfold putOk;rw [decide_eq_false h64,Bool.false_and]
  rw [putS_none hp]
  simp [Tryz.f55,h64',Sl.none]
 have h64':¬ (64:Int) < (s.l.length:Int):=by omega
 cases hrm:rightM m.l with
 | false =>
  rw [hrm] at hr
  have hp:putOk s.l m.l = false:=by unfold putOk;rw [hrm,Bool.false_and,Bool.and_false]
  rw [putS_none hp]
  simp [Tryz.f55,h64',hr,Sl.none]
 | true =>
 rw [hrm] at hr
 have hw0:IntKind.u64.wrap (s.l.length:Int) = (s.l.length:Int):=by rw [wrap_u64];omega
 have h0:=lowN_ev s.l.length 2 (by decide) (by decide) (by omega)
 replace h0:call cx 87 [.int .u64 (s.l.length:Nat),.int .i64 2] [] = some (.vsl false (ofBytes (leB 2 s.l.length)) 2,[]):=h0
 have h0l:(leB 2 s.l.length).length = 2:=leB_len _ _
 have hsg:ofBytes (kSign ++ leB 2 s.l.length) = .int .u8 68 :: .int .u8 66 :: .int .u8 65 :: .int .u8 84 :: ofBytes (leB 2 s.l.length):=by rw [ofBytes_append];rfl
 have hsl:(kSign ++ leB 2 s.l.length).length = 6:=by rw [List.length_append,h0l];rfl
 have hC0:PutC s.l 0 (kSign ++ leB 2 s.l.length):=by simp [PutC]
 generalize kSign ++ leB 2 s.l.length = X0 at *
 generalize leB 2 s.l.length = z0 at *
 have htz:List.take 2 (ofBytes z0) = ofBytes z0:=List.take_of_length_le (by simp [h0l])
 simp [Tryz.f55,h64',hr,hw0,h0,maxBytes,h0l]
 refine Run.loopThen (fun (q:Nat × List UInt8) e H=>q.1≤s.l.length∧PutC s.l q.1 q.2∧(∀ x∈s.l.take q.1,itOk x = true)∧(∃ d,look e 5 = some d∧PutR q.2 d H)∧look e 1 = some (.vsl m.nil (encs m.l) m.l.length)∧look e 0 = some (.vsl s.nil (encs s.l) s.l.length)∧look e 6 = some (.int .i64 (q.1:Nat))) (fun q=>s.l.length - q.1) (0,X0) ?_ ?_
 ·exact ⟨Nat.zero_le _,hC0,by simp,⟨_,by simp,6,hsl.symm,rfl,by rw [← hsg]⟩,by simp,by simp,by simp⟩
 rintro ⟨i,X⟩ e H ⟨hi,hX,hok,⟨d,k5,n,hn,rfl,rfl⟩,k1,k0,k6⟩
 simp only at hi hX hok hn k6
 have hnX:X.length = n:=hn.symm
 have htX:List.take n (ofBytes X) = ofBytes X:=List.take_of_length_le (by simp;omega)
 have hfl:=flat_len (l:=s.l.take i) (fun x hx=>hs x (List.mem_of_mem_take hx)) hok
 have hXl:X.length≤700000:=by
  rw [List.length_take] at hfl
  have:min i s.l.length * 10004≤64 * 10004:=Nat.mul_le_mul_right _ (by omega)
  unfold PutC at hX
  rw [hX,List.length_append,List.length_append,leB_len]
  show 4+2+_≤_
  omega
 by_cases hlt:i < s.l.length
 ·have hlt':(i:Int) < (s.l.length:Int):=by omega
  have hw:IntKind.i64.wrap ((i:Int)+1) = ((i+1:Nat):Int):=by rw [wrap_i64] <;> omega
  obtain ⟨x1,x2,x3⟩:=hs s.l[i] (List.getElem_mem hlt)
  have t0:=rright_ev s.l[i] x1 x3 x2
  have t1:=rtext_ev s.l[i] x1 x3 x2
  have hea:List.drop (i * 39) (encs s.l) = Enc.cells s.l[i] ++ encs (s.l.drop (i+1)):=It.ea hlt
  have htake:s.l.take (i+1) = s.l.take i ++ [s.l[i]]:=List.take_succ_eq_append_getElem hlt
  cases ho:itOk s.l[i] with
  | false =>
   have hp:putOk s.l m.l = false:=by
    unfold putOk
    have:s.l.all itOk = false:=by
     cases h:s.l.all itOk with
     | false=>rfl
     | true=>rw [List.all_eq_true] at h;rw [h _ (List.getElem_mem hlt)] at ho;cases ho
    rw [this,Bool.and_false,Bool.and_false]
   rw [putS_none hp]
   rw [ho] at t0
   generalize s.l[i] = x at *
   simp [-It.ea,k5,k1,k0,k6,hlt',Sl.nn hlt,hea,t0,Sl.none]
  | true =>
   rw [ho] at t0
   unfold textD at t1
   rw [ho,if_pos rfl] at t1
   obtain ⟨tl1,tl2⟩:=textL_len x1 ho
   have hX2:PutC s.l (i+1) (X ++ leB 4 (textL s.l[i]).length ++ textL s.l[i]):=by
    unfold PutC at *
    rw [hX,htake,List.flatMap_append]
    simp [itB]
   have hok2:∀ x∈s.l.take (i+1),itOk x = true:=by
    intro x hx
    rw [htake] at hx
    rcases List.mem_append.1 hx with h | h
    ·exact hok x h
    ·rw [List.mem_singleton.1 h];exact ho
   have a1:=lowN_ev (textL s.l[i]).length 4 (by decide) (by decide) (by omega)
   replace a1:call cx 87 [.int .u64 ((textL s.l[i]).length:Nat),.int .i64 4] [] = some (.vsl false (ofBytes (leB 4 (textL s.l[i]).length)) 4,[]):=a1
   have hw4:IntKind.u64.wrap ((textL s.l[i]).length:Int) = ((textL s.l[i]).length:Int):=by rw [wrap_u64];omega
   generalize textL s.l[i] = t at *
   generalize s.l[i] = x at *
   have hl4:(leB 4 t.length).length = 4:=leB_len _ _
   generalize leB 4 t.length = z at *
   have htz4:List.take 4 (ofBytes z) = ofBytes z:=List.take_of_length_le (by simp [hl4])
   have hb1:n+4≤140737488355328:=by omega
   have hb2:n+4+t.length≤140737488355328:=by omega
   simp [-It.ea,k5,k1,k0,k6,hlt',Sl.nn hlt,hea,t0,t1,hw,hw4,maxBytes,a1,hb1,hb2,hnX,hl4]
   exact ⟨i+1,by omega,by omega,_,hX2,hok2,⟨n+4+t.length,by rw [List.length_append,List.length_append,hnX,hl4],rfl,by rw [ofBytes_append,ofBytes_append,List.append_assoc]⟩,by omega⟩
 ·have hlt':¬ (i:Int) < (s.l.length:Int):=by omega
  have hit:s.l.take i = s.l:=List.take_of_length_le (by omega)
  rw [hit] at hok
  have hall:s.l.all itOk = true:=List.all_eq_true.2 hok
  have hp:putOk s.l m.l = true:=by unfold putOk;rw [decide_eq_true h64,hrm,hall];rfl
  have hb:=rmbytes_ev m hmn hm
  have hbS:bytesS m.l = .of (mksB m.l):=by unfold bytesS;rw [hrm];rfl
  rw [hbS] at hb
  have hraw:X ++ mksB m.l = rawB s.l m.l:=by unfold PutC at hX;rw [hX,hit];unfold rawB;simp
  have hml:(mksB m.l).length≤161:=by rw [mksB_len];have:=rightM_le hrm;omega
  have hc:=rseal_ev (.of (X ++ mksB m.l)) (by simp;omega)
  have hS:putS s.l m.l = if (sealB (X ++ mksB m.l)).length≤65536 then .of (sealB (X ++ mksB m.l)) else .none:=by
   unfold putS
   rw [hp,hraw,Bool.true_and]
   by_cases h:(sealB (rawB s.l m.l)).length≤65536
   ·rw [decide_eq_true h,if_pos rfl,if_pos h]
   ·rw [decide_eq_false h,if_neg (by decide),if_neg h]
  rw [hS]
  simp only [Sl.of_l,Sl.of_nil] at hc hb
  generalize mksB m.l = y at *
  have hsl:=sealB_len (X ++ y)
  generalize sealB (X ++ y) = z at *
  rw [ofBytes_append,List.length_append,hnX] at hc
  have hmn2:n+y.length≤140737488355328:=by omega
  have htk:List.take (n+y.length) (ofBytes X ++ ofBytes y) = ofBytes X ++ ofBytes y:=List.take_of_length_le (by simp;omega)
  by_cases h6:z.length≤65536
  ·have h6':¬ (65536:Int) < (z.length:Int):=by omega
   rw [if_pos h6]
   simp [k5,k1,k0,k6,hlt',hb,hc,maxBytes,h6',htk,hmn2,hnX]
  ·have h6':(65536:Int) < (z.length:Int):=by omega
   rw [if_neg h6]
   simp [k5,k1,k0,k6,hlt',hb,hc,maxBytes,h6',htk,hmn2,hnX,Sl.none]
end Go.Ev.S
