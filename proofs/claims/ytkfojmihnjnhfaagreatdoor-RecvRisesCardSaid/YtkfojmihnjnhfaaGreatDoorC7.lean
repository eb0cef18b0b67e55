import Derived.Test.YtkfojmihnjnhfaaGreatDoorC6
namespace Go.Ev.S
open Go Go.Proofs Go.Ev
theorem qi9 [MaxL] [TxtC] (v:Nat) (hv:v < 18446744073709551616):call cx 130 [.int .u64 v] [] = some (.str (qD v),[]):=by
 have h:=qis v hv;refine qq Tryz.func130 rfl ⟨rfl,rfl⟩ ?_;simp [Tryz.f130,h]
theorem qm7 [MaxL] [TxtC] (b:List UInt8) (hb:b.length≤1000) (e n l:Nat) (he:e < 18446744073709551616) (hn:n < 18446744073709551616) (hl:l < 18446744073709551616) :
  call cx 86 [.str b,.int .u64 e,.int .u64 n,.int .u64 l] [] = some (.str (b ++ vD e n l),[]):=by
 have h1:=qi9 e he;have h2:=qi9 n hn;have h3:=qi9 l hl;have l1:=kL e;have l2:=kL n;have l3:=kL l;unfold vD;generalize qD e = x at *;generalize qD n = y at *;generalize qD l = z at *;clear he hn hl;obtain ⟨s1,es1⟩:∃ s,s = b ++ epochL:=⟨_,rfl⟩;have ls1:s1.length = b.length+epochL.length:=by rw [es1,qC]
 obtain ⟨s2,es2⟩:∃ s,s = s1 ++ x:=⟨_,rfl⟩;have ls2:s2.length = s1.length+x.length:=by rw [es2,qC]
 obtain ⟨s3,es3⟩:∃ s,s = s2 ++ crlf:=⟨_,rfl⟩;have ls3:s3.length = s2.length+crlf.length:=by rw [es3,qC]
 obtain ⟨s4,es4⟩:∃ s,s = s3 ++ numberL:=⟨_,rfl⟩;have ls4:s4.length = s3.length+numberL.length:=by rw [es4,qC]
 obtain ⟨s5,es5⟩:∃ s,s = s4 ++ y:=⟨_,rfl⟩;have ls5:s5.length = s4.length+y.length:=by rw [es5,qC]
 obtain ⟨s6,es6⟩:∃ s,s = s5 ++ crlf:=⟨_,rfl⟩;have ls6:s6.length = s5.length+crlf.length:=by rw [es6,qC]
 obtain ⟨s7,es7⟩:∃ s,s = s6 ++ lengthL:=⟨_,rfl⟩;have ls7:s7.length = s6.length+lengthL.length:=by rw [es7,qC]
 obtain ⟨s8,es8⟩:∃ s,s = s7 ++ z:=⟨_,rfl⟩;have ls8:s8.length = s7.length+z.length:=by rw [es8,qC]
 obtain ⟨s9,es9⟩:∃ s,s = s8 ++ crlf:=⟨_,rfl⟩;have ls9:s9.length = s8.length+crlf.length:=by rw [es9,qC]
 obtain ⟨s10,es10⟩:∃ s,s = s9 ++ crlf:=⟨_,rfl⟩;have ls10:s10.length = s9.length+crlf.length:=by rw [es10,qC]
 simp only [epochL,numberL,lengthL,crlf,qH,zb] at ls1 ls2 ls3 ls4 ls5 ls6 ls7 ls8 ls9 ls10;have cs1:=jk es1 (by (try simp only [epochL,qH,zb]);omega);have cs2:=jk es2 (by (try simp only [epochL,numberL,lengthL,crlf,qH,zb]);omega);have cs3:=jk es3 (by (try simp only [crlf,qH,zb]);omega);have cs4:=jk es4 (by (try simp only [numberL,qH,zb]);omega);have cs5:=jk es5 (by (try simp only [epochL,numberL,lengthL,crlf,qH,zb]);omega);have cs6:=jk es6 (by (try simp only [crlf,qH,zb]);omega);have cs7:=jk es7 (by (try simp only [lengthL,qH,zb]);omega);have cs8:=jk es8 (by (try simp only [epochL,numberL,lengthL,crlf,qH,zb]);omega);have cs9:=jk es9 (by (try simp only [crlf,qH,zb]);omega);have cs10:=jk es10 (by (try simp only [crlf,qH,zb]);omega);simp only [epochL,numberL,lengthL,crlf] at cs1 cs2 cs3 cs4 cs5 cs6 cs7 cs8 cs9 cs10
 have QP:b ++ (epochL ++ (x ++ (crlf ++ (numberL ++ (y ++ (crlf ++ (lengthL ++ (z ++ (crlf ++ crlf))))))))) = s10:=by
  simp [es10,es9,es8,es7,es6,es5,es4,es3,es2,es1]
 rw [QP];clear QP es1 es2 es3 es4 es5 es6 es7 es8 es9 es10 ls1 ls2 ls3 ls4 ls5 ls6 ls7 ls8 ls9 ls10 l1 l2 l3 hb;refine qq Tryz.func86 rfl ⟨rfl,rfl⟩ ?_;simp [Tryz.f86,h1,h2,h3,-Go.Ev.strD,cs1,cs2,cs3,cs4,cs5,cs6,cs7,cs8,cs9,cs10]
def XV (b:List UInt8) (e n:Nat) (body:List UInt8):Sl UInt8:=if 65536 < body.length then .none else .of (b ++ (vD e n body.length ++ body))
theorem qsn [MaxL] [TxtC] (b:List UInt8) (hb:b.length≤1000) (e n:Nat) (he:e < 18446744073709551616) (hn:n < 18446744073709551616) (body:Sl UInt8) (hl:body.l.length≤100000) :
  call cx 52 [.str b,.int .u64 e,.int .u64 n,(.vsl body.nil (qd body.l) body.l.length)] [] = some ((.vsl (XV b e n body.l).nil (qd (XV b e n body.l).l) (XV b e n body.l).l.length),[]):=by
 refine qq Tryz.func52 rfl ⟨rfl,rfl⟩ ?_;unfold XV;by_cases h:65536 < body.l.length
 ·have h':(65536:Int) < (body.l.length:Int):=by omega
  simp [Tryz.f52,h,h']
 ·have h':¬ (65536:Int) < (body.l.length:Int):=by omega
  have h1:=qm7 b hb e n body.l.length he hn (by omega);have hw:IntKind.u64.wrap (body.l.length:Int) = (body.l.length:Int):=by rw [qS];omega
  have hx:=qfv e n body.l.length;generalize vD e n body.l.length = x at *;have hm:b.length+(x.length+body.l.length)≤qF:=by unfold qF;omega
  simp [Tryz.f52,h,h',h1,hw,hm,V6,qu,V0]
def postL:List UInt8:=[80,79,83,84,32]
def httpL:List UInt8:=[32,72,84,84,80,47,49,46,49]
def hostL:List UInt8:=[72,111,115,116,58,32,114,101,99,101,105,118,101,114]
def ctypeL:List UInt8:=[67,111,110,116,101,110,116,45,84,121,112,101,58,32,97,112,112,108,105,99,97,116,105,111,110,47,118,110,100,46,102,100,111,46,106,111,117,114,110,97,108]
def jU (p:List UInt8):List UInt8:=postL ++ (p ++ (httpL ++ (crlf ++ (hostL ++ (crlf ++ (ctypeL ++ crlf))))))
theorem q07 (p:List UInt8):(jU p).length = p.length+75:=by
 simp [jU,postL,httpL,hostL,ctypeL,crlf]
theorem qo6 [MaxL] [TxtC] (p:List UInt8) (hp:p.length≤100):call cx 50 [.str p] [] = some (.str (jU p),[]):=by
 obtain ⟨s1,es1⟩:∃ s,s = postL ++ p:=⟨_,rfl⟩;have ls1:s1.length = postL.length+p.length:=by rw [es1,qC]
 obtain ⟨s2,es2⟩:∃ s,s = s1 ++ httpL:=⟨_,rfl⟩;have ls2:s2.length = s1.length+httpL.length:=by rw [es2,qC]
 obtain ⟨s3,es3⟩:∃ s,s = s2 ++ crlf:=⟨_,rfl⟩;have ls3:s3.length = s2.length+crlf.length:=by rw [es3,qC]
 obtain ⟨s4,es4⟩:∃ s,s = s3 ++ hostL:=⟨_,rfl⟩;have ls4:s4.length = s3.length+hostL.length:=by rw [es4,qC]
 obtain ⟨s5,es5⟩:∃ s,s = s4 ++ crlf:=⟨_,rfl⟩;have ls5:s5.length = s4.length+crlf.length:=by rw [es5,qC]
 obtain ⟨s6,es6⟩:∃ s,s = s5 ++ ctypeL:=⟨_,rfl⟩;have ls6:s6.length = s5.length+ctypeL.length:=by rw [es6,qC]
 obtain ⟨s7,es7⟩:∃ s,s = s6 ++ crlf:=⟨_,rfl⟩;have ls7:s7.length = s6.length+crlf.length:=by rw [es7,qC]
 simp only [postL,httpL,hostL,ctypeL,crlf,qH,zb] at ls1 ls2 ls3 ls4 ls5 ls6 ls7;have cs1:=jk es1 (by (try simp only [postL,qH,zb]);omega);have cs2:=jk es2 (by (try simp only [httpL,qH,zb]);omega);have cs3:=jk es3 (by (try simp only [crlf,qH,zb]);omega);have cs4:=jk es4 (by (try simp only [hostL,qH,zb]);omega);have cs5:=jk es5 (by (try simp only [crlf,qH,zb]);omega);have cs6:=jk es6 (by (try simp only [ctypeL,qH,zb]);omega);have cs7:=jk es7 (by (try simp only [crlf,qH,zb]);omega);simp only [postL,httpL,hostL,ctypeL,crlf] at cs1 cs2 cs3 cs4 cs5 cs6 cs7
 have QP:jU p = s7:=by
  simp [jU,es7,es6,es5,es4,es3,es2,es1]
 rw [QP];clear QP es1 es2 es3 es4 es5 es6 es7 ls1 ls2 ls3 ls4 ls5 ls6 ls7 hp;refine qq Tryz.func50 rfl ⟨rfl,rfl⟩ ?_;simp [Tryz.f50,-Go.Ev.strD,cs1,cs2,cs3,cs4,cs5,cs6,cs7]
def qh5:List UInt8:=[50,48,48,32,79,75]
def qiV:List UInt8:=[52,48,48,32,66,97,100,32,82,101,113,117,101,115,116]
def qiD:List UInt8:=[52,48,57,32,67,111,110,102,108,105,99,116]
def JW (n:Int):List UInt8:=[72,84,84,80,47,49,46,49,32] ++ ((if n = 400 then qiV else if n = 409 then qiD else qh5) ++ [13,10])
theorem qpX [MaxL] [TxtC] (n:Int):call cx 49 [.int .i64 n] [] = some (.str (JW n),[]):=by
 refine qq Tryz.func49 rfl ⟨rfl,rfl⟩ ?_;unfold JW;by_cases h1:n = 400
 ·simp [Tryz.f49,h1,qiV]
 ·by_cases h2:n = 409
  ·simp [Tryz.f49,h2,qiD]
  ·simp [Tryz.f49,h1,h2,qh5]
def jJ:List UInt8:=[47,104,101,108,108,111]
def js:List UInt8:=[47,98,97,116,99,104]
def qcB (r:Rq):Sl UInt8:=if r.path == jJ || r.path == js then XV (jU r.path) r.epoch.toNat r.number.toNat r.body.l else .none
def Qz (r:Rs):Sl UInt8:=if r.status = 200∨r.status = 400∨r.status = 409 then XV (JW r.status) r.epoch.toNat r.number.toNat r.body.l else .none
theorem qjG (n:Int):(JW n).length≤30:=by
 unfold JW;split
 ·decide
 ·split <;> decide
theorem qdE [MaxL] [TxtC] (r:Rs) (he:qy r.epoch) (hn:qy r.number) (hb:r.body.l.length≤100000):call cx 34 [.agg (Enc.cells r)] [] = some ((.vsl (Qz r).nil (qd (Qz r).l) (Qz r).l.length),[]):=by
 have h2:=qpX r.status;have h3:=qsn (JW r.status) (by have:=qjG r.status;omega) r.epoch.toNat r.number.toNat (by unfold qy at he;omega) (by unfold qy at hn;omega) r.body hb;have e1:((r.epoch.toNat:Nat):Int) = r.epoch:=by unfold qy at he;omega
 have e2:((r.number.toNat:Nat):Int) = r.number:=by unfold qy at hn;omega
 rw [e1,e2] at h3;refine qq Tryz.func34 rfl ⟨rfl,rfl⟩ ?_;unfold Qz;generalize XV (JW r.status) r.epoch.toNat r.number.toNat r.body.l = x at *;by_cases a1:r.status = 200
 ·rw [a1] at h2 h3;simp [Tryz.f34,Rs.cells,a1,h2,h3]
 ·by_cases a2:r.status = 400
  ·rw [a2] at h2 h3;simp [Tryz.f34,Rs.cells,a2,h2,h3]
  ·by_cases a3:r.status = 409
   ·rw [a3] at h2 h3;simp [Tryz.f34,Rs.cells,a3,h2,h3]
   ·simp [Tryz.f34,Rs.cells,a1,a2,a3]
def kV (line rest:List UInt8):Option (Nat × List UInt8):=match pu 10 (ve line (jL crlf rest).1) with
 | none=>none
 | some v=>some (v,(jL crlf rest).2.1)
def vY (s b:List UInt8):Option (Nat × Nat × Nat):=if pre b s then
 match kV epochL (s.drop b.length) with
 | none=>none
 | some (x,r1)=>match kV numberL r1 with
  | none=>none
  | some (y,r2)=>match kV lengthL r2 with
   | none=>none
   | some (z,_)=>if b ++ vD x y z = s then some (x,y,z) else none
 else none
theorem qig [MaxL] [TxtC] (rest line:List UInt8) (hr:rest.length < 100000) (hl:line.length < 100) :
  ∃ a f,call cx 127 [.str rest,.str [13,10]] [] = some (.tup [.str a,.str (jL crlf rest).2.1,.bool f],[])∧call cx 129 [.str a,.str line] [] = some (.str (ve line a),[]) ∧
   ((∃ v,kV line rest = some (v,(jL crlf rest).2.1)∧v < 18446744073709551616∧call cx 128 [.str (ve line a),.int .i64 10,.int .i64 64] [] = some (.tup [.int .u64 (v:Nat),.nili],[])) ∨
   (kV line rest = none∧∃ (x:Nat) (d:List D),call cx 128 [.str (ve line a),.int .i64 10,.int .i64 64] [] = some (.tup [.int .u64 x,.iface 232 (.vptr d)],[]))):=by
 have h1:=qnU rest crlf (by omega) (by decide);have hc:=qel crlf rest;have h2:=qjx (jL crlf rest).1 line (by omega) (by omega);refine ⟨(jL crlf rest).1,(jL crlf rest).2.2,h1,h2,?_⟩;unfold kV;have ht:=qeL line (jL crlf rest).1;rcases qhs 10 (.inl rfl) (ve line (jL crlf rest).1) (by omega) with ⟨v,e1,e2⟩ | ⟨e1,x,d,e2⟩
 ·refine .inl ⟨v,by rw [e1],?_,e2⟩;unfold pu at e1;split at e1
  ·cases e1
  ·exact qcC 10 _ _ _ (by decide) e1
 ·exact .inr ⟨by rw [e1],x,d,e2⟩
def ql1 (r0:List UInt8):Nat→Nat→Nat→Nat→List UInt8→Prop
 | 0,x,y,z,r=>x = 0∧y = 0∧z = 0∧r = r0
 | 1,x,y,z,r=>kV epochL r0 = some (x,r)∧y = 0∧z = 0
 | 2,x,y,z,r=>z = 0∧∃ r1,kV epochL r0 = some (x,r1)∧kV numberL r1 = some (y,r)
 | _,x,y,z,r=>∃ r1 r2,kV epochL r0 = some (x,r1)∧kV numberL r1 = some (y,r2)∧kV lengthL r2 = some (z,r)
set_option maxHeartbeats 2000000 in
theorem qtp [MaxL] [TxtC] (s b:List UInt8) (hs:s.length < 100000) (hb:b.length≤1000) :
  (∃ x y z,vY s b = some (x,y,z)∧call cx 84 [.str s,.str b] [] = some (.tup [.agg [.int .u64 (x:Nat),.int .u64 (y:Nat),.int .u64 (z:Nat)],.bool true],[])) ∨
  (vY s b = none∧∃ x y z:Nat,call cx 84 [.str s,.str b] [] = some (.tup [.agg [.int .u64 x,.int .u64 y,.int .u64 z],.bool false],[])):=by
 suffices h:∃ r,call cx 84 [.str s,.str b] [] = some r∧((∃ x y z:Nat,vY s b = some (x,y,z)∧r = (.tup [.agg [.int .u64 x,.int .u64 y,.int .u64 z],.bool true],[]))∨(vY s b = none∧∃ x y z:Nat,r = (.tup [.agg [.int .u64 x,.int .u64 y,.int .u64 z],.bool false],[]))) by
  obtain ⟨r,h1,⟨x,y,z,h2,rfl⟩ | ⟨h2,x,y,z,rfl⟩⟩:=h
  ·exact .inl ⟨x,y,z,h2,h1⟩
  ·exact .inr ⟨h2,x,y,z,h1⟩
 refine vB (fun r=>(∃ x y z:Nat,vY s b = some (x,y,z)∧r = (D.tup [.agg [.int .u64 x,.int .u64 y,.int .u64 z],.bool true],[]))∨(vY s b = none∧∃ x y z:Nat,r = (D.tup [.agg [.int .u64 x,.int .u64 y,.int .u64 z],.bool false],[]))) Tryz.func84 rfl ⟨rfl,rfl⟩ ?_;have h0:=qzi s b (by omega) (by omega);cases hp:pre b s with
 | false =>
  rw [hp] at h0;simp [Tryz.f84,h0,vY,hp];exact ⟨0,rfl⟩
 | true =>
  rw [hp,if_pos rfl] at h0
  have hN:vY s b = match kV epochL (s.drop b.length) with
    | none=>none
    | some (x,r1)=>match kV numberL r1 with
     | none=>none
     | some (y,r2)=>match kV lengthL r2 with
      | none=>none
      | some (z,_)=>if b ++ vD x y z = s then some (x,y,z) else none:=by rw [vY,if_pos hp]
  obtain ⟨r0,hr0⟩:∃ r,r = s.drop b.length:=⟨_,rfl⟩;rw [← hr0] at hN h0;have hr0l:r0.length≤s.length:=by rw [hr0];simp
  simp [Tryz.f84,h0]
  refine Run.loopThen (fun (q:Nat × Nat × Nat × Nat × List UInt8) e H'=>q.1≤3∧q.2.2.2.2.length≤s.length∧q.2.1 < 18446744073709551616∧q.2.2.1 < 18446744073709551616∧q.2.2.2.1 < 18446744073709551616∧ql1 r0 q.1 q.2.1 q.2.2.1 q.2.2.2.1 q.2.2.2.2 ∧
   H' = [some [.int .u64 0,.int .u64 0,.int .u64 0],some [.int .u64 (q.2.1:Nat),.int .u64 (q.2.2.1:Nat),.int .u64 (q.2.2.2.1:Nat)],some [.str epochL,.str numberL,.str lengthL]] ∧
   qf e 0 = some (.str s)∧qf e 1 = some (.str b)∧qf e 4 = some (.optr 0 3 0)∧qf e 6 = some (.optr 1 3 0)∧qf e 7 = some (.str q.2.2.2.2)∧qf e 25 = some (.osl 2 3 0 3 1)∧qf e 26 = some (.int .i64 3)∧qf e 27 = some (.int .i64 (q.1:Nat))) (fun q=>3 - q.1) (0,0,0,0,r0) ?_ ?_
  ·simp [ql1,hr0l,epochL,numberL,lengthL]
  rintro ⟨i,x,y,z,r⟩ e H' ⟨hi,hrl,hx,hy,hz,hI,rfl,k0,k1,k4,k6,k7,k25,k26,k27⟩;simp only at hi hrl hx hy hz hI k7 k27;have hcut:=qel crlf r;have:i = 0∨i = 1∨i = 2∨i = 3:=by omega
  rcases this with rfl | rfl | rfl | rfl
  ·obtain ⟨rfl,rfl,rfl,rfl⟩:=hI;obtain ⟨a,f,c1,c2,⟨v,c3,hv,c4⟩ | ⟨c3,xx,d,c4⟩⟩:=qig r epochL (by omega) (by decide)
   ·simp [k0,k1,k4,k6,k7,k25,k26,k27,c1,c2,c4];exact ⟨1,by omega,by omega,v,0,0,_,by omega,hv,by omega,by omega,⟨c3,rfl,rfl⟩,⟨rfl,rfl,rfl⟩,rfl,rfl⟩
   ·rw [c3] at hN;simp [k0,k1,k4,k6,k7,k25,k26,k27,c1,c2,c4];exact ⟨hN,0,rfl⟩
  ·obtain ⟨Vt,rfl,rfl⟩:=hI;obtain ⟨a,f,c1,c2,⟨v,c3,hv,c4⟩ | ⟨c3,xx,d,c4⟩⟩:=qig r numberL (by omega) (by decide)
   ·simp [k0,k1,k4,k6,k7,k25,k26,k27,c1,c2,c4];exact ⟨2,by omega,by omega,x,v,0,_,by omega,hx,hv,by omega,⟨rfl,_,Vt,c3⟩,⟨rfl,rfl,rfl⟩,rfl,rfl⟩
   ·rw [Vt] at hN;simp only [c3] at hN;simp [k0,k1,k4,k6,k7,k25,k26,k27,c1,c2,c4];exact ⟨hN,⟨x,rfl⟩,0,rfl⟩
  ·obtain ⟨rfl,r1,Vt,hI2⟩:=hI;obtain ⟨a,f,c1,c2,⟨v,c3,hv,c4⟩ | ⟨c3,xx,d,c4⟩⟩:=qig r lengthL (by omega) (by decide)
   ·simp [k0,k1,k4,k6,k7,k25,k26,k27,c1,c2,c4];exact ⟨3,by omega,by omega,x,y,v,_,by omega,hx,hy,hv,⟨_,_,Vt,hI2,c3⟩,⟨rfl,rfl,rfl⟩,rfl,rfl⟩
   ·rw [Vt] at hN;simp only [hI2,c3] at hN;simp [k0,k1,k4,k6,k7,k25,k26,k27,c1,c2,c4];exact ⟨hN,⟨x,rfl⟩,⟨y,rfl⟩,0,rfl⟩
  ·obtain ⟨r1,r2,Vt,hI2,hI3⟩:=hI;rw [Vt] at hN;simp only [hI2,hI3] at hN;have hh:=qm7 b hb x y z hx hy hz;by_cases he:b ++ vD x y z = s
   ·rw [if_pos he] at hN;rw [he] at hh;simp [k0,k1,k4,k6,k7,k25,k26,k27,hh];exact ⟨x,y,z,hN,rfl,rfl,rfl⟩
   ·rw [if_neg he] at hN;have XC:(b ++ vD x y z == s) = false:=(by simpa using he);generalize b ++ vD x y z = w at *;simp [k0,k1,k4,k6,k7,k25,k26,k27,hh,XC];exact ⟨hN,⟨x,rfl⟩,⟨y,rfl⟩,z,rfl⟩
def stopL:List UInt8:=[13,10,13,10]
def Je (s:List UInt8) (body:List UInt8):List (List UInt8)→Nat→Msg × Int
 | [],_=>(.zero,20)
 | b :: l,k=>match vY s b with
  | none=>Je s body l (k+1)
  | some (x,y,z)=>if 65536 < z then (.zero,21) else if body.length < z then (.zero,22) else if z < body.length then (.zero,21) else (⟨k,x,y,.of body⟩,0)
def vM (b:List UInt8) (l:List (List UInt8)):Msg × Int:=if jj stopL b 0 = -1 then (.zero,22) else Je (b.take ((jj stopL b 0).toNat+4)) (b.drop ((jj stopL b 0).toNat+4)) l 0
theorem qxT [MaxL] [TxtC] (b:Sl UInt8) (hb:b.l.length≤100000):call cx 83 [(.vsl b.nil (qd b.l) b.l.length),.vsl false [.int .u8 13,.int .u8 10,.int .u8 13,.int .u8 10] 4] [] = some (.int .i64 (jj stopL b.l 0),[]):=by
 refine Yu ?_;have e:[D.int .u8 13,.int .u8 10,.int .u8 13,.int .u8 10] = qd stopL:=rfl;rw [qiH,e];simp only [qcT,qgr];rw [if_pos ⟨trivial,rfl,by decide,by omega,by decide⟩]
structure StrE where
 s:List UInt8
instance:Enc StrE:=⟨1,fun p=>[.str p.s],fun _=>rfl,fun _=>rfl⟩
set_option maxHeartbeats 2000000 in
theorem qxH [MaxL] [TxtC] (b:Sl UInt8) (hb:b.l.length≤90000) (l:List (List UInt8)) (hl:l.length≤3) (jr:∀ x∈l,x.length≤1000) :
  call cx 48 [(.vsl b.nil (qd b.l) b.l.length),.vsl false (l.map D.str) l.length] [] = some (.tup [.agg (Enc.cells (vM b.l l).1),.int .i64 (vM b.l l).2],[]):=by
 have hi:=qxT b (by omega);refine qq Tryz.func48 rfl ⟨rfl,rfl⟩ ?_;unfold vM;rcases qcJ stopL b.l 0 with ⟨i,h1,h2,-⟩ | h1
 ·rw [h1] at hi;rw [h1,if_neg (by omega)];have e0:((0+i:Nat):Int).toNat = i:=by omega
  rw [e0];have Qf:i+4≤b.l.length:=h2;rw [vT] at hi;have VJ:¬ (i:Int) < 0:=by omega
  obtain ⟨j,hj⟩:∃ j,j = i+4:=⟨_,rfl⟩;have hw:IntKind.i64.wrap ((i:Int)+4) = (j:Int):=by rw [wrap_i64] <;> omega
  have g1:(j:Int)≤(b.l.length:Int):=by omega
  have g2:j≤b.l.length:=by omega
  rw [← hj];have t1:List.take j (qd b.l) = qd (b.l.take j):=kr _ _;have t2:List.drop j (qd b.l) = qd (b.l.drop j):=Zb _ _;have hsl:(b.l.take j).length = j:=by rw [jn];omega
  have Zk:(b.l.drop j).length = b.l.length - j:=jQ ..
  have hbn:b.nil = false:=by
   cases hn:b.nil with
   | false=>rfl
   | true=>have:=b.h hn;rw [this] at g2;simp at g2;omega
  generalize b.l.take j = s at *;generalize zL:b.l.drop j = body at *;have hbl2:body.length≤90000:=by omega
  have t3:List.take (b.l.length - j) (qd body) = qd body:=qu (by simp;omega);rw [hbn] at hi;simp [Tryz.f48,hi,VJ,hw,g1,t1,t2,t3,hbn,hsl];generalize b.l.length - j = bl at *;have wb:IntKind.u64.wrap (bl:Int) = (bl:Int):=by rw [qS];omega
  have ex:∀ k x,l[k]? = some x→(l.map D.str).drop k = .str x :: (l.map D.str).drop (k+1):=fun k x hk=>by
   have qh:k < l.length:=(List.getElem?_eq_some_iff.1 hk).1;rw [zo (by simpa using qh)];congr 1;rw [zg qh] at hk;simp [qaz hk]
  refine Run.loopThen (fun (k:Nat) e H'=>k≤l.length∧Je s body (l.drop k) k = Je s body l 0 ∧
   ((H' = [some [.int .i64 0,.int .u64 0,.int .u64 0,.vsl true [] 0],some [.int .u8 13,.int .u8 10,.int .u8 13,.int .u8 10]])∨∃ w,H' = [some [.int .i64 0,.int .u64 0,.int .u64 0,.vsl true [] 0],some [.int .u8 13,.int .u8 10,.int .u8 13,.int .u8 10],w]) ∧
   qf e 4 = some (.optr 0 4 0)∧qf e 8 = some (.str s)∧qf e 9 = some (.vsl false (qd body) bl)∧qf e 35 = some (.vsl false (l.map D.str) l.length)∧qf e 36 = some (.int .i64 l.length)∧qf e 37 = some (.int .i64 k)) (fun k=>l.length - k) 0 ?_ ?_
  ·simp
  rintro k e H' ⟨hk,hr,hH,k4,k8,k9,k35,k36,k37⟩;by_cases qh:k < l.length
  ·have qk:(k:Int) < (l.length:Int):=(by omega);have hx:=ex k l[k] (zg qh);have zt:IntKind.i64.wrap ((k:Int)+1) = ((k+1:Nat):Int):=(by rw [wrap_i64] <;> omega);rw [zo qh,Je] at hr;have j9:=qiQ (.of body) (by simp;omega);simp at j9;rw [Zk] at j9;rcases qtp s l[k] (by omega) (jr _ (vk qh)) with ⟨x,y,z,n1,n2⟩ | ⟨n1,x,y,z,n2⟩
   ·rw [n1] at hr;simp only at hr;rw [← hr,Zk];by_cases z1:65536 < z
    ·have z1':(65536:Int) < (z:Int):=(by omega);rcases hH with rfl | ⟨w,rfl⟩ <;> simp [k4,k8,k9,k35,k36,k37,qk,hx,n2,z1,z1']
     ·rfl
     ·rfl
    ·have z1':¬ (65536:Int) < (z:Int):=(by omega);by_cases z2:bl < z
     ·have z2':(bl:Int) < (z:Int):=(by omega);rcases hH with rfl | ⟨w,rfl⟩ <;> simp [k4,k8,k9,k35,k36,k37,qk,hx,n2,z1,z1',z2,z2',wb]
      ·rfl
      ·rfl
     ·have z2':¬ (bl:Int) < (z:Int):=(by omega);by_cases z3:z < bl
      ·have z3':(z:Int) < (bl:Int):=(by omega);rcases hH with rfl | ⟨w,rfl⟩ <;> simp [k4,k8,k9,k35,k36,k37,qk,hx,n2,z1,z1',z2,z2',z3,z3',wb]
       ·rfl
       ·rfl
      ·have z3':¬ (z:Int) < (bl:Int):=(by omega);rcases hH with rfl | ⟨w,rfl⟩ <;> simp [k4,k8,k9,k35,k36,k37,qk,hx,n2,z1,z1',z2,z2',z3,z3',wb,j9]
       ·simp [Msg.cells,Zk]
       ·simp [Msg.cells,Zk]
   ·rw [n1] at hr;simp only at hr;rcases hH with rfl | ⟨w,rfl⟩ <;> simp [k4,k8,k9,k35,k36,k37,qk,hx,n2,zt]
    ·exact ⟨k+1,by omega,by omega,hr,by simp⟩
    ·exact ⟨k+1,by omega,by omega,hr,by simp⟩
  ·have qk:¬ (k:Int) < (l.length:Int):=(by omega);rw [zZ (by omega),Je] at hr;rw [← hr];rcases hH with rfl | ⟨w,rfl⟩ <;> simp [k4,k8,k9,k35,k36,k37,qk]
   ·rfl
   ·rfl
 ·rw [h1] at hi;simp [Tryz.f48,hi,h1,Msg.cells,Msg.zero]
theorem qkM (s body:List UInt8):∀ (l:List (List UInt8)) (k:Nat),(Je s body l k).2 = 0→∃ i x y z b,i < l.length∧l[i]? = some b∧vY s b = some (x,y,z)∧z = body.length∧body.length≤65536∧Je s body l k = (⟨((k+i:Nat):Int),x,y,.of body⟩,0)
 | [],k,h=>by simp [Je] at h
 | b :: l,k,h=>by
  unfold Je at h ⊢;cases hn:vY s b with
  | none =>
   rw [hn] at h;obtain ⟨i,x,y,z,b',h1,h2,h3,h4,h5,h6⟩:=qkM s body l (k+1) h;exact ⟨i+1,x,y,z,b',by simp;omega,by simpa using h2,h3,h4,h5,by simp only;rw [h6];congr 2;congr 1;omega⟩
  | some v =>
   obtain ⟨x,y,z⟩:=v;rw [hn] at h;simp only at h ⊢;by_cases h1:65536 < z
   ·rw [if_pos h1] at h;simp at h
   ·rw [if_neg h1] at h ⊢;by_cases h2:body.length < z
    ·rw [if_pos h2] at h;simp at h
    ·rw [if_neg h2] at h ⊢;by_cases h3:z < body.length
     ·rw [if_pos h3] at h;simp at h
     ·rw [if_neg h3] at h ⊢;exact ⟨0,x,y,z,b,by simp,by simp,hn,by omega,by omega,by simp⟩
theorem qrX {b:List UInt8} {l:List (List UInt8)} (h:(vM b l).2 = 0):∃ i x y,i < l.length∧vM b l = (⟨(i:Int),x,y,(vM b l).1.body⟩,0)∧(vM b l).1.epoch = x∧(vM b l).1.number = y:=by
 unfold vM at h ⊢;split at h
 ·simp at h
 ·rename_i hh;rw [if_neg hh];obtain ⟨i,x,y,z,b',h1,h2,h3,h4,h5,h6⟩:=qkM _ _ l 0 h;rw [h6,vT];exact ⟨i,x,y,h1,rfl,rfl,rfl⟩
def qaH (k:Int):List UInt8:=if k = 0 then jJ else js
def rqL:List (List UInt8):=[jU jJ,jU js]
def vN (b:List UInt8):Rq × Int:=if (vM b rqL).2 = 0 then (⟨qaH (vM b rqL).1.kind,(vM b rqL).1.epoch,(vM b rqL).1.number,(vM b rqL).1.body⟩,0) else (⟨[],0,0,.none⟩,(vM b rqL).2)
theorem qkO [MaxL] [TxtC] (b:Sl UInt8) (hb:b.l.length≤90000):call cx 22 [(.vsl b.nil (qd b.l) b.l.length)] [] = some (.tup [.agg (Enc.cells (vN b.l).1),.int .i64 (vN b.l).2],[]):=by
 have h:=qxH b hb rqL (by decide) (by decide);have h1:=qo6 jJ (by decide);have h2:=qo6 js (by decide);refine qq Tryz.func22 rfl ⟨rfl,rfl⟩ ?_;unfold vN;have e1:List.map D.str rqL = [.str (jU jJ),.str (jU js)]:=rfl;have e2:rqL.length = 2:=rfl;have p1:[47,104,101,108,108,111] = jJ:=rfl;have p2:[47,98,97,116,99,104] = js:=rfl;rw [e1,e2] at h;generalize hm:vM b.l rqL = m at *;by_cases hz:m.2 = 0
 ·obtain ⟨i,x,y,hi,hr,q1,q2⟩:=qrX (b:=b.l) (l:=rqL) (by rw [hm];exact hz);rw [hm] at hr q1 q2;obtain ⟨⟨k,x',y',bd⟩,c⟩:=m;simp only [qM,Msg.mk.injEq] at hr hz q1 q2;obtain ⟨⟨rfl,rfl,rfl,-⟩,rfl⟩:=hr;have:i = 0∨i = 1:=by rw [e2] at hi;omega
  simp [Msg.cells] at h;rcases this with rfl | rfl
  ·simp [Tryz.f22,p1,p2,h1,h2,h,qaH,Rq.cells]
  ·simp [Tryz.f22,p1,p2,h1,h2,h,qaH,Rq.cells]
 ·simp [Tryz.f22,p1,p2,h1,h2,h,hz,Rq.cells]
theorem qnN:∀ (f v:Nat),∀ x∈km f v,x≠13
 | 0,_=>by simp [km]
 | f+1,v=>by
  have key:∀ k,k < 10→UInt8.ofNat (48+k)≠13:=fun k hk e=>by
   have:=congrArg UInt8.toNat e;rw [VR (show 48+k < 256 by omega)] at this;simp at this;omega
  rw [km];split
  ·intro x hx;rw [List.mem_singleton.1 hx];exact key v (by assumption)
  ·intro x hx;rcases List.mem_append.1 hx with h | h
   ·exact qnN f _ x h
   ·rw [List.mem_singleton.1 h];exact key _ (JU _ (by decide))
theorem qgi (v:Nat):∀ x∈qD v,x≠13:=qnN 20 v
theorem qml {sep:List UInt8} {a:UInt8} (hs:sep.head? = some a):∀ (A B:List UInt8) (n:Nat),(∀ x∈A,x≠a)→jj sep (A ++ B) n = jj sep B (n+A.length)
 | [],B,n,_=>by simp
 | x :: A,B,n,h=>by
  have hx:x≠a:=h x (by simp)
  obtain ⟨sep',rfl⟩:∃ l,sep = a :: l:=by
   cases sep with
   | nil=>simp at hs
   | cons y l=>simp at hs;subst hs;exact ⟨l,rfl⟩
  rw [vU,jj]
  have:((a :: sep').isPrefixOf (x :: (A ++ B))) = false:=by
   simp only [List.isPrefixOf,Bool.and_eq_false_iff];left;simpa using Ne.symm hx
  rw [this,if_neg (by decide),qml hs A B (n+1) fun y hy=>h y (by simp [hy])];congr 1;simp;omega
theorem qxx (sep B:List UInt8) (n:Nat) (h:sep≠[]):jj sep (sep ++ B) n = (n:Int):=by
 have hp:sep.isPrefixOf (sep ++ B) = true:=by simp
 cases sep with
 | nil=>exact absurd rfl h
 | cons a l=>rw [vU,jj,← vU,if_pos hp]
theorem qzl (A B:List UInt8) (h:∀ x∈A,x≠13):jL crlf (A ++ (crlf ++ B)) = (A,B,true):=by
 have hi:jj crlf (A ++ (crlf ++ B)) 0 = (A.length:Int):=by
  rw [qml (a:=13) rfl A _ 0 h,vT];exact qxx crlf B _ (by decide)
 unfold jL;rw [hi,if_neg (by omega)];have e:((A.length:Nat):Int).toNat = A.length:=by omega
 rw [e]
 have e2:List.drop (A.length+crlf.length) (A ++ (crlf ++ B)) = B:=by
  rw [← ko,← qC];exact List.drop_left
 rw [e2,List.take_left]
theorem qpu (p s:List UInt8):ve p (p ++ s) = s:=by
 unfold ve pre;simp
theorem qhK (line:List UInt8) (hl:∀ x∈line,x≠13) {D:List UInt8} (hD:∀ x∈D,x≠13) (B:List UInt8):kV line (line ++ (D ++ (crlf ++ B))) = match pu 10 D with
  | none=>none
  | some v=>some (v,B):=by
 unfold kV
 rw [← ko,qzl (line ++ D) B (fun x hx=>by
  rcases List.mem_append.1 hx with h | h
  ·exact hl x h
  ·exact hD x h)]
 simp only [qpu] <;> cases pu 10 D <;> rfl
def qbW (e n:Nat) (D:List UInt8):List UInt8:=epochL ++ (qD e ++ (crlf ++ (numberL ++ (qD n ++ (crlf ++ (lengthL ++ (D ++ (crlf ++ crlf))))))))
theorem qlx (e n l:Nat):qbW e n (qD l) = vD e n l:=rfl
theorem qtq (b:List UInt8) (e n:Nat) (he:e < 18446744073709551616) (hn:n < 18446744073709551616) (D:List UInt8) (hD:∀ x∈D,x≠13) :
  vY (b ++ qbW e n D) b = match pu 10 D with
   | none=>none
   | some v=>if qD v = D then some (e,n,v) else none:=by
 have hpre:pre b (b ++ qbW e n D) = true:=by unfold pre;simp
 have e1:kV epochL (qbW e n D) = some (e,numberL ++ (qD n ++ (crlf ++ (lengthL ++ (D ++ (crlf ++ crlf)))))):=by
  unfold qbW;rw [qhK epochL (by decide) (qgi e),qaE he]
 have e2:kV numberL (numberL ++ (qD n ++ (crlf ++ (lengthL ++ (D ++ (crlf ++ crlf)))))) = some (n,lengthL ++ (D ++ (crlf ++ crlf))):=by
  rw [qhK numberL (by decide) (qgi n),qaE hn]
 have e3:kV lengthL (lengthL ++ (D ++ (crlf ++ crlf))) = match pu 10 D with
   | none=>none
   | some v=>some (v,crlf):=qhK lengthL (by decide) hD crlf
 rw [vY,if_pos hpre,List.drop_left,e1];simp only [e2,e3];cases hp:pu 10 D with
 | none=>rfl
 | some v =>
  simp only
  have:(b ++ vD e n v = b ++ qbW e n D)↔qD v = D:=by
   rw [← qlx];unfold qbW;simp
  simp [this]
theorem qtm (b:List UInt8) (e n l:Nat) (he:e < 18446744073709551616) (hn:n < 18446744073709551616) (hl:l < 18446744073709551616):vY (b ++ vD e n l) b = some (e,n,l):=by
 rw [← qlx,qtq b e n he hn (qD l) (qgi l),qaE hl];simp
theorem qly {s b:List UInt8} (h:pre b s = false):vY s b = none:=by
 rw [vY,h,if_neg (by decide)]
theorem qlz {s b:List UInt8} {x y z:Nat} (h:vY s b = some (x,y,z)):s = b ++ vD x y z:=by
 unfold vY at h;split at h
 ·split at h
  ·cases h
  ·split at h
   ·cases h
   ·split at h
    ·cases h
    ·split at h
     ·rename_i he;injection h with h;injection h with h1 h;injection h with h2 h3;subst h1;subst h2;subst h3;exact he.symm
     ·cases h
 ·cases h
theorem qsu {b c:List UInt8} (X:List UInt8) (i:Nat) (hb:i < b.length) (hc:i < c.length) (h:b[i]?≠c[i]?):pre b (c ++ X) = false:=by
 unfold pre;rw [beq_eq_false_iff_ne];intro e;have:(List.take b.length (c ++ X))[i]? = b[i]?:=by rw [e]
 rw [List.getElem?_take_of_lt hb,ZW hc] at this;exact h this.symm
theorem q09 (X:List UInt8):pre (jU js) (jU jJ ++ X) = false:=qsu X 6 (by decide) (by decide) (by decide)
def qci (k:Nat) (x y z:Nat) (body:List UInt8):Msg × Int:=if 65536 < z then (.zero,21) else if body.length < z then (.zero,22) else if z < body.length then (.zero,21) else (⟨k,x,y,.of body⟩,0)
theorem qho (s body b:List UInt8) (l:List (List UInt8)) (k:Nat):Je s body (b :: l) k = match vY s b with
  | none=>Je s body l (k+1)
  | some (x,y,z)=>qci k x y z body:=rfl
section
variable (e n:Nat) (he:e < 18446744073709551616) (hn:n < 18446744073709551616) (body:List UInt8) (hb:body.length≤65536)
include he hn hb
end
end Go.Ev.S
namespace Go.Ev.S
open Go Go.Proofs Go.Ev
theorem qsi (p:List UInt8) (hp:p = jJ∨p = js) (e n:Int) (b:Sl UInt8) (hb:b.l.length≤65536):qcB ⟨p,e,n,b⟩ = .of (jU p ++ (vD e.toNat n.toNat b.l.length ++ b.l)):=by
 have h1:(p == jJ || p == js) = true:=by rcases hp with rfl | rfl <;> decide
 unfold qcB XV;simp only [h1,if_true];rw [if_neg (by omega)]
theorem qrj (p:List UInt8) (hp:p = jJ∨p = js) (e n:Nat) (b:List UInt8):(jU p ++ (vD e n b.length ++ b)).length≤300+b.length:=by
 have h1:=qfv e n b.length;have h2:(jU p).length = 81:=by rcases hp with rfl | rfl <;> decide
 simp only [qC];omega
theorem qo7 (s:RSt) (q:Rq):(jt s q).2.ep = s.ep:=by
 unfold jt qau
 repeat' split
 all_goals rfl
theorem q0B (s:RSt) (q:Rq):∃ l,(jt s q).2.its = s.its ++ l:=by
 unfold jt qau
 repeat' split
 all_goals first | exact ⟨[],(Z2 _).symm⟩ | exact ⟨_,rfl⟩
def HearQ (s':RSt) (x:Sl UInt8) (r:D × qi):Prop:= ∃ d' T',VS s'.its d' T'∧r = ((.vsl x.nil (qd x.l) x.l.length),some (s'.A d') :: T')
theorem HearQ.mk {s':RSt} {x:Sl UInt8} {d':D} {T':qi} (hs:VS s'.its d' T'):HearQ s' x ((.vsl x.nil (qd x.l) x.l.length),some (s'.A d') :: T'):=⟨d',T',hs,rfl⟩
set_option maxHeartbeats 8000000 in
set_option maxRecDepth 8000 in
theorem qxO [MaxL] (s:RSt) (hm:s.mks.l.length≤1000000) (hL:s.its.length≤1000000000) (d:D) (T:qi) (zW:VS s.its d T) (b:Sl UInt8) (hb:b.l.length≤90000) (e n:Int) (o:Sl UInt8) (hr:vN b.l = (⟨js,e,n,o⟩,0)) (hge:¬ e < s.ep) (hep:qy s.ep) (hnn:qy n) (ho:o.l.length < 1000000) :
  ∃ r,call cx 12 [.optr 0 4 0,(.vsl b.nil (qd b.l) b.l.length)] (some (s.A d) :: T) = some r∧HearQ (jt s ⟨js,e,n,o⟩).2 (Qz ⟨(jt s ⟨js,e,n,o⟩).1,s.ep,n,.none⟩) r:=by
 have h1:=qkO b hb;rw [hr] at h1;obtain ⟨r0,hc,d',T',YL,rfl⟩:=qse s ⟨js,e,n,o⟩ ho hm hL d T zW;have h2:=qdE ⟨(jt s ⟨js,e,n,o⟩).1,s.ep,n,.none⟩ hep hnn (by simp);have Yh:=qo7 s ⟨js,e,n,o⟩;have X6:=q0B s ⟨js,e,n,o⟩;generalize jt s ⟨js,e,n,o⟩ = R at *;obtain ⟨c,s'⟩:=R;simp only at hc YL h2 Yh X6 ⊢;obtain ⟨ep,la,its,mk⟩:=s;obtain ⟨ep',la',its',mk'⟩:=s';simp only at hm hL zW hge hep YL h2 Yh X6 ⊢;subst Yh;simp only [Rq.cells,Rs.cells,RSt.A] at h1 h2 hc;generalize hz:Qz ⟨c,ep',n,.none⟩ = z at *;replace h2:call cx 34 [.agg [.int .i64 c,.int .u64 ep',.int .u64 n,.vsl true [] 0]] [] = some ((.vsl z.nil (qd z.l) z.l.length),[]):=by simpa using h2
 have hs:(js == [47,104,101,108,108,111]) = false:=by decide
 have hls:(qd o.l).length = o.l.length:=by simp
 rcases zW with ⟨rfl,rfl,rfl⟩ | ⟨qr,n1,k1,zM,hk1,rfl,rfl⟩
 ·rcases YL with ⟨rfl,rfl,rfl⟩ | ⟨hne2,n2,k2,vP,hk2,rfl,rfl⟩
  ·refine vB (X:=cx) (f:=12) (args:=[.optr 0 4 0,(.vsl b.nil (qd b.l) b.l.length)]) (H:=[some [.int .u64 ep',.int .u64 la,.vsl true [] 0,(.vsl mk.nil (qg mk.l) mk.l.length)]]) (HearQ ⟨ep',la',[],mk'⟩ z) Tryz.func12 rfl ⟨rfl,rfl⟩ ?_;replace hc:call cx 36 [.optr 0 4 0,.agg [.str js,.int .u64 e,.int .u64 n,(.vsl o.nil (qd o.l) o.l.length)]] [some [.int .u64 ep',.int .u64 la,.vsl true [] 0,(.vsl mk.nil (qg mk.l) mk.l.length)]] = some (.int .i64 c,[some [.int .u64 ep',.int .u64 la',.vsl true [] 0,(.vsl mk'.nil (qg mk'.l) mk'.l.length)]]):=hc;simp [Tryz.f12,h1,hc,h2,hge,hs,qbT,qcc];exact HearQ.mk (.inl ⟨rfl,rfl,rfl⟩)
  ·refine vB (X:=cx) (f:=12) (args:=[.optr 0 4 0,(.vsl b.nil (qd b.l) b.l.length)]) (H:=[some [.int .u64 ep',.int .u64 la,.vsl true [] 0,(.vsl mk.nil (qg mk.l) mk.l.length)]]) (HearQ ⟨ep',la',its',mk'⟩ z) Tryz.func12 rfl ⟨rfl,rfl⟩ ?_;replace hc:call cx 36 [.optr 0 4 0,.agg [.str js,.int .u64 e,.int .u64 n,(.vsl o.nil (qd o.l) o.l.length)]] [some [.int .u64 ep',.int .u64 la,.vsl true [] 0,(.vsl mk.nil (qg mk.l) mk.l.length)]] = some (.int .i64 c,[some [.int .u64 ep',.int .u64 la',.osl 1 n2 0 k2 39,(.vsl mk'.nil (qg mk'.l) mk'.l.length)],some (qg its')]):=hc;simp [Tryz.f12,h1,hc,h2,hge,hs,qbT,qcc];exact HearQ.mk (.inr ⟨hne2,n2,k2,vP,hk2,rfl,rfl⟩)
 ·rcases YL with ⟨rfl,rfl,rfl⟩ | ⟨hne2,n2,k2,vP,hk2,rfl,rfl⟩
  ·obtain ⟨l,hl⟩:=X6;exact absurd (List.append_eq_nil_iff.1 hl.symm).1 qr
  ·refine vB (X:=cx) (f:=12) (args:=[.optr 0 4 0,(.vsl b.nil (qd b.l) b.l.length)]) (H:=[some [.int .u64 ep',.int .u64 la,.osl 1 n1 0 k1 39,(.vsl mk.nil (qg mk.l) mk.l.length)],some (qg its)]) (HearQ ⟨ep',la',its',mk'⟩ z) Tryz.func12 rfl ⟨rfl,rfl⟩ ?_;replace hc:call cx 36 [.optr 0 4 0,.agg [.str js,.int .u64 e,.int .u64 n,(.vsl o.nil (qd o.l) o.l.length)]] [some [.int .u64 ep',.int .u64 la,.osl 1 n1 0 k1 39,(.vsl mk.nil (qg mk.l) mk.l.length)],some (qg its)] = some (.int .i64 c,[some [.int .u64 ep',.int .u64 la',.osl 1 n2 0 k2 39,(.vsl mk'.nil (qg mk'.l) mk'.l.length)],some (qg its')]):=hc;simp [Tryz.f12,h1,hc,h2,hge,hs,qbT,qcc];exact HearQ.mk (.inr ⟨hne2,n2,k2,vP,hk2,rfl,rfl⟩)
theorem qkU (b:Nat):∀ (s:List UInt8) (n v:Nat),n < 18446744073709551616→jv b s n = some v→v < 18446744073709551616
 | [],n,v,hn,h=>by
  unfold jv at h;injection h with h;omega
 | c :: l,n,v,hn,h=>by
  unfold jv at h;split at h
  ·cases h
  ·split at h
   ·cases h
   ·split at h
    ·cases h
    ·exact qkU b l _ v (by omega) h
theorem qxI {s:List UInt8} {v:Nat} (h:pu 10 s = some v):v < 18446744073709551616:=by
 unfold pu at h;split at h
 ·cases h
 ·exact qkU 10 s 0 v (by decide) h
theorem qlS {l s r:List UInt8} {v:Nat} (h:kV l s = some (v,r)):v < 18446744073709551616:=by
 unfold kV at h;split at h
 ·cases h
 ·rename_i hp;injection h with h;injection h with h1 h2;rw [← h1];exact qxI hp
theorem qto {s b:List UInt8} {x y z:Nat} (h:vY s b = some (x,y,z)):x < 18446744073709551616∧y < 18446744073709551616:=by
 unfold vY at h;split at h
 ·split at h
  ·cases h
  ·rename_i h1;split at h
   ·cases h
   ·rename_i h2;split at h
    ·cases h
    ·split at h
     ·injection h with h;injection h with e1 h;injection h with e2 e3;rw [← e1,← e2];exact ⟨qlS h1,qlS h2⟩
     ·cases h
 ·cases h
theorem qxY {k x y z:Nat} {body:List UInt8} (h:(qci k x y z body).2 = 0):z = body.length∧z≤65536∧qci k x y z body = (⟨k,x,y,.of body⟩,0):=by
 unfold qci at h ⊢;split at h
 ·cases h
 ·split at h
  ·cases h
  ·split at h
   ·cases h
   ·rw [if_neg (by assumption),if_neg (by assumption),if_neg (by assumption)];exact ⟨by omega,by omega,rfl⟩
theorem qkN (s body:List UInt8):∀ (l:List (List UInt8)) (k:Nat),(Je s body l k).2 = 0 →
  ∃ (i:Nat) (b:List UInt8) (x y:Nat),l[i]? = some b∧Je s body l k = (⟨(k+i:Nat),x,y,.of body⟩,0)∧s = b ++ vD x y body.length∧x < 18446744073709551616∧y < 18446744073709551616∧body.length≤65536
 | [],k,h=>by
  unfold Je at h;cases h
 | b :: l,k,h=>by
  rw [qho] at h ⊢;cases hn:vY s b with
  | none =>
   simp only [hn] at h ⊢;obtain ⟨i,b',x,y,h1,h2,h3⟩:=qkN s body l (k+1) h;exact ⟨i+1,b',x,y,by simpa using h1,by rw [h2,show k+1+i = k+(i+1) by omega],h3⟩
  | some t =>
   obtain ⟨x,y,z⟩:=t;simp only [hn] at h ⊢;obtain ⟨h1,h2,h3⟩:=qxY h;have h4:=qlz hn;have h5:=qto hn;exact ⟨0,b,x,y,rfl,h3,by rw [h4,h1],h5.1,h5.2,by omega⟩
theorem qrY {b:List UInt8} {l:List (List UInt8)} (h:(vM b l).2 = 0) :
  ∃ (i:Nat) (c:List UInt8) (x y:Nat) (body:List UInt8),l[i]? = some c∧vM b l = (⟨(i:Nat),x,y,.of body⟩,0)∧b = c ++ (vD x y body.length ++ body)∧x < 18446744073709551616∧y < 18446744073709551616∧body.length≤65536:=by
 unfold vM at h ⊢;split at h
 ·cases h
 ·rename_i hi;rw [if_neg hi];generalize (jj stopL b 0).toNat+4 = j at *;obtain ⟨i,c,x,y,h1,h2,h3,h4⟩:=qkN _ _ _ _ h;refine ⟨i,c,x,y,b.drop j,h1,by rw [h2,vT],?_,h4⟩;rw [← ko,← h3,V1]
theorem qdB {b:List UInt8} (h:(vN b).2 = 0):∃ (p:List UInt8) (x y:Nat) (body:List UInt8),(p = jJ∨p = js)∧(vN b).1 = ⟨p,x,y,.of body⟩∧b = jU p ++ (vD x y body.length ++ body)∧x < 18446744073709551616∧y < 18446744073709551616∧body.length≤65536:=by
 have hr:(vM b rqL).2 = 0:=by
  unfold vN at h;split at h
  ·assumption
  ·rename_i hn;exact absurd h hn
 obtain ⟨i,c,x,y,body,h1,h2,h3,h4⟩:=qrY hr;refine ⟨qaH i,x,y,body,?_,?_,?_,h4⟩
 ·unfold qaH;split <;> simp
 ·unfold vN;rw [if_pos hr,h2]
 ·rw [h3]
  match i,h1 with
  | 0,h1=>injection h1 with h1;rw [← h1];rfl
  | 1,h1=>injection h1 with h1;rw [← h1];rfl
  | i+2,h1=>simp [rqL] at h1
theorem qhR {n:Nat} {r:List UInt8} (h:n≤r.length):qG n (leN (r.take n)) = r.take n:=by
 have:=qhS (r.take n)
 rwa [jn,Nat.min_eq_left h] at this
theorem qtE (r:List UInt8):(Jg r).Ok:=by
 have h:∀ l:List UInt8,leN (l.take 8) < 18446744073709551616:=fun l=>by
  have h1:=Xz (l.take 8);have h2:(l.take 8).length≤8:=by rw [jn];omega
  exact jM h1 (kn (Y2 (by decide) h2) (by decide))
 refine ⟨?_,?_,?_⟩ <;> simp only [Jg,qy]
 ·have:=h (r.drop 16);omega
 ·have:=h (r.drop 24);omega
 ·have:=h (r.drop 32);omega
theorem qtF {r:List UInt8} (h:40≤r.length):V9 (Jg r) = r.take 40:=by
 have e:∀ n,n+8≤r.length→qG 8 (leN ((r.drop n).take 8)) = (r.drop n).take 8:=fun n hn=>qhR (by rw [jQ];omega)
 have hi:(ID.mk' (r.take 16)).l = r.take 16:=by
  unfold ID.mk';rw [dif_pos (by rw [jn];omega)]
 unfold V9 Jg;simp only [Int.toNat_natCast];rw [e 16 (by omega),e 24 (by omega),e 32 (by omega),hi];have s:∀ (a b:Nat) (l:List UInt8),l.take (a+b) = l.take a ++ (l.drop a).take b:=fun a b l=>List.take_add;rw [show (40:Nat) = 16+(8+(8+8)) from rfl,s,s,s,kC,kC]
theorem qrw {out:List Mk} {m:Mk} (hr:zB out = true) (hl:Ki out m.id.l = false):zB (out ++ [m]) = true:=by
 induction out with
 | nil=>rfl
 | cons a o ih =>
  cases o with
  | nil =>
   have:qx a.id.l m.id.l < 0:=by
    simp [Ki] at hl;omega
   simp [zB,this]
  | cons b o =>
   simp only [vU,zB,qR] at hr ih ⊢;refine ⟨hr.1,ih hr.2 ?_⟩;unfold Ki at hl ⊢;rw [List.getLast?_cons_cons] at hl;exact hl
theorem qhn:∀ (k:Nat) (r:List UInt8) (out o:List Mk),zB out = true→(∀ m∈out,m.Ok)→J6 k r out = (o,0)→∃ l,o = out ++ l∧l.length = k∧40 * k≤r.length∧l.flatMap V9 = r.take (40 * k)∧zB o = true∧∀ m∈o,m.Ok
 | 0,r,out,o,hr,hok,h=>by
  rw [J6,qM] at h;obtain ⟨rfl,-⟩:=h;exact ⟨[],by simp,rfl,by omega,by simp,hr,hok⟩
 | k+1,r,out,o,hr,hok,h=>by
  rw [J6] at h;split at h
  ·cases h
  ·split at h
   ·cases h
   ·split at h
    ·cases h
    ·rename_i zY hl Qe
     have Qa:(Jg r).id.l = r.take 16:=by
      unfold Jg ID.mk';simp only;rw [dif_pos (by rw [jn];omega)]
     have kZ:Ki out (Jg r).id.l = false:=by rw [Qa];simpa using hl
     obtain ⟨l,e1,e2,e3,e4,e5,e6⟩:=qhn k (r.drop 40) (out ++ [Jg r]) o (qrw hr kZ) (fun m hm=>by
      rcases List.mem_append.1 hm with h' | h'
      ·exact hok m h'
      ·rw [List.mem_singleton.1 h'];exact qtE r) h
     rw [jQ] at e3;refine ⟨Jg r :: l,by rw [e1,ko];rfl,by rw [qH,e2],by omega,?_,e5,e6⟩;rw [List.flatMap_cons,e4,qtF (by omega),show 40 * (k+1) = 40+40 * k by omega,List.take_add]
theorem qsb {b:List UInt8} {l:List Mk} (h:vf b = (l,0)) (hn:¬ Go.Ev.readN (l,0) < (b.length:Int)):jE l = true∧JB l = b∧∀ m∈l,m.Ok:=by
 cases b with
 | nil=>cases h
 | cons c r =>
  unfold vf at h;simp only at h;split at h
  ·cases h
  ·rename_i h4;obtain ⟨l',e1,e2,e3,e4,e5,e6⟩:=qhn c.toNat r [] l rfl (fun m hm=>by cases hm) h;rw [ZU] at e1;subst e1;unfold Go.Ev.readN at hn;rw [qH] at hn;simp only [if_true] at hn;refine ⟨?_,?_,e6⟩
   ·unfold jE;rw [e5,Bool.and_true,decide_eq_true_eq];omega
   ·unfold JB;rw [e4,e2,qu (by omega)];simp
theorem qsX {t:List UInt8} (h:Jd t = true) (hl:(zF (jp t)).length = t.length):zK (jp t) = true∧zF (jp t) = t:=by
 unfold Jd at h;rw [qR] at h;refine ⟨h.1,?_⟩;have:=qhu h.2;rw [hl,List.drop_length,Z2] at this;exact this.symm
structure GotI (x:It):Prop where
 ok:x.Ok
 is:zK x = true
 b:(∀ p∈x.rc.fields.l,Qv p)∧x.rc.fields.l.length < 1000000
theorem qmN:∀ (k:Nat) (r:List UInt8) (out o:List It) (m:List Mk),r.length < 1000000→Zz k r out = (o,m,0)→∃ l,o = out ++ l∧l.length = k∧(∀ x∈l,GotI x)∧r = l.flatMap YG ++ JB m∧jE m = true∧∀ x∈m,x.Ok
 | 0,r,out,o,m,hb,h=>by
  rw [Zz] at h;split at h
  ·rename_i h0;split at h
   ·cases h
   ·rename_i hn;simp only [qM] at h;obtain ⟨rfl,rfl,-⟩:=h;have hm:vf r = ((vf r).1,0):=Prod.ext rfl h0;rw [hm] at hn;obtain ⟨e1,e2,e3⟩:=qsb hm hn;exact ⟨[],by simp,rfl,by simp,by simpa using e2.symm,e1,e3⟩
  ·rename_i h0;simp only [qM] at h;exact absurd h.2.2 h0
 | k+1,r,out,o,m,hb,h=>by
  rw [Zz] at h;split at h
  ·cases h
  ·rename_i zf;split at h
   ·rename_i hok;obtain ⟨n,hn⟩:∃ n,leN (r.take 4) = n:=⟨_,rfl⟩;rw [hn] at h hok zf;have vR:((r.drop 4).take n).length = n:=(by rw [jn,jQ];omega);obtain ⟨t1,t2⟩:=qsX hok.1 (by rw [hok.2,vR]);have hq:=qfD ((r.drop 4).take n);have ZA:=qmc ((r.drop 4).take n) (by omega);obtain ⟨l,e1,e2,e3,e4,e5,e6⟩:=qmN k (r.drop (4+n)) _ o m (by rw [jQ];omega) h;refine ⟨jp ((r.drop 4).take n) :: l,by rw [e1,ko];rfl,by rw [qH,e2],fun x hx=>?_,?_,e5,e6⟩
    ·rcases List.mem_cons.1 hx with rfl | hx
     ·exact ⟨hq,t1,ZA⟩
     ·exact e3 x hx
    ·have hi:YG (jp ((r.drop 4).take n)) = r.take (4+n):=by
      unfold YG;rw [t2,vR,List.take_add,← hn,qhR (by omega)]
     rw [List.flatMap_cons,hi,ko,← e4,V1]
   ·cases h
theorem qyb {x:List UInt8} {l:List It} {m:List Mk} (hx:x.length < 1000000) (h:qaj x = (l,m,0)):J8 l m = true∧qaB l m = x∧(∀ y∈l,GotI y)∧∀ y∈m,y.Ok:=by
 unfold qaj at h;split at h
 ·cases h
 ·split at h
  ·rename_i h4 hp;split at h
   ·cases h
   ·rename_i h6;split at h
    ·cases h
    ·rename_i VM;obtain ⟨l',e1,e2,e3,e4,e5,e6⟩:=qmN _ _ [] l m (by rw [jQ];omega) h;rw [ZU] at e1;subst e1;have hk:=qhu hp;refine ⟨?_,?_,e3,e6⟩
     ·unfold J8;simp only [qR,decide_eq_true_eq,Y3];exact ⟨by omega,e5,fun y hy=>(e3 y hy).is⟩
     ·unfold qaB;have jr:qG 2 l.length = (x.drop 4).take 2:=(by rw [e2,qhR (by rw [jQ];omega)]);rw [jr,← e4,show (6:Nat) = 4+2 from rfl,← kC,V1];exact hk.symm
  ·cases h
theorem qqx {b:List UInt8} (h4:4≤b.length) (h:XQ b = true):Qk (b.take (b.length - 4)) = b:=by
 unfold XQ at h;rw [decide_eq_true_eq] at h
 have e:qG 4 (leN (b.drop (b.length - 4))) = b.drop (b.length - 4):=by
  have:=qhS (b.drop (b.length - 4))
  rwa [jQ,show b.length - (b.length - 4) = 4 by omega] at this
 unfold Qk;rw [← h,e,V1]
theorem qfV {b:List UInt8} {l:List It} {m:List Mk} (hb:b.length≤65536) (h:vK b = (l,m,0)):Ke l m = .of b∧(∀ y∈l,GotI y)∧(∀ y∈m,y.Ok)∧l.length≤64∧m.length≤4:=by
 unfold vK at h;split at h
 ·cases h
 ·split at h
  ·rename_i h4 hs;obtain ⟨h1,h2,h3,h5⟩:=qyb (by rw [jn];omega) h;have hp:=qsm h1;refine ⟨?_,h3,h5,hp.1,XU hp.2.1⟩;unfold Ke;rw [h1,h2,qqx (by omega) hs,decide_eq_true hb];rfl
  ·cases h
def zO (l:List Mk) (id:ID):Bool:=l.any fun m=>m.id == id
set_option maxHeartbeats 1000000 in
theorem qfg [MaxL] [TxtC] (s:Sl Mk) (hn:s.l.length < 4611686018427387904) (id:ID) :
  call cx 43 [(.vsl s.nil (qg s.l) s.l.length),.agg (qd id.l)] [] = some (.tup [.agg (Enc.cells (zJ s.l id)),.bool (zO s.l id)],[]):=by
 refine qq Tryz.func43 rfl ⟨rfl,rfl⟩ ?_;simp [Tryz.f43];refine Run.loopThen (fun (i:Nat) e H=>i≤s.l.length∧(∃ z:Mk,H = [some (qd id.l),some (Enc.cells z)])∧qf e 0 = some (.vsl s.nil (qg s.l) s.l.length)∧qf e 3 = some (.optr 0 16 0)∧qf e 4 = some (.optr 1 19 0)∧qf e 6 = some (.int .i64 i)∧zJ s.l id = zJ (s.l.drop i) id∧zO s.l id = zO (s.l.drop i) id) (fun i=>s.l.length - i) 0 ?_ ?_
 ·simp;exact ⟨⟨ID.zero,0,0,0⟩,by simp [Mk.cells,ID.zero,qd]⟩
 rintro i e H ⟨hi,⟨z,rfl⟩,h0,h3,h4,h6,hr,zQ⟩;by_cases qh:i < s.l.length
 ·have qk:(i:Int) < (s.l.length:Int):=by omega
  have hw:IntKind.i64.wrap ((i:Int)+1) = ((i+1:Nat):Int):=by rw [wrap_i64] <;> omega
  rw [zo qh] at hr zQ;have zY:∀ k,(16≤19+k) = True:=fun k=>eq_true (by omega);cases he:s.l[i].id == id with
  | true =>
   simp only [zJ,List.find?_cons,he,Ju] at hr;simp only [zO,List.any_cons,he,Bool.true_or] at zQ;simp [h0,h3,h4,h6,qk,qh,Sl.nn qh,zY,he,zJ,zO,hr,zQ]
  | false =>
   simp only [zJ,List.find?_cons,he] at hr;simp only [zO,List.any_cons,he,Bool.false_or] at zQ;simp [h0,h3,h4,h6,qk,qh,Sl.nn qh,zY,he,hw,-List.any_eq_true];exact ⟨i+1,by omega,by omega,⟨z,rfl⟩,rfl,hr,zQ⟩
 ·have qk:¬ (i:Int) < (s.l.length:Int):=by omega
  have hd:s.l.drop i = []:=zZ (by omega);rw [hd] at hr zQ;have e1:zJ [] id = ⟨id,0,0,0⟩:=rfl;have e2:zO [] id = false:=rfl;rw [e1] at hr;rw [e2] at zQ;simp [h0,h3,h4,h6,qk,hr,zQ,qu,Mk.cells,zV,qA,zA]
set_option maxHeartbeats 1000000 in
theorem qfi [MaxL] [TxtC] (a b:Sl Mk) (ha:a.l.length < 4611686018427387904) (hb:b.l.length < 4611686018427387904) :
  call cx 16 [(.vsl a.nil (qg a.l) a.l.length),(.vsl b.nil (qg b.l) b.l.length)] [] = some (.bool (vZ a.l b.l),[]):=by
 refine qq Tryz.func16 rfl ⟨rfl,rfl⟩ ?_;simp [Tryz.f16];refine Run.loopThen (fun (i:Nat) e H=>i≤a.l.length∧H = []∧qf e 0 = some (.vsl a.nil (qg a.l) a.l.length)∧qf e 1 = some (.vsl b.nil (qg b.l) b.l.length)∧qf e 5 = some (.int .i64 i)∧vZ a.l b.l = vZ (a.l.drop i) b.l) (fun i=>a.l.length - i) 0 (by simp) ?_;rintro i e H ⟨hi,rfl,h0,h1,h5,hr⟩;by_cases qh:i < a.l.length
 ·have qk:(i:Int) < (a.l.length:Int):=by omega
  have hw:IntKind.i64.wrap ((i:Int)+1) = ((i+1:Nat):Int):=by rw [wrap_i64] <;> omega
  have hg:=qfg b hb a.l[i].id;have zY:∀ k,(16≤19+k) = True:=fun k=>eq_true (by omega);unfold vZ at hr ⊢;rw [qoG _ qh] at hr;by_cases hs:(zJ b.l a.l[i].id).seq < a.l[i].seq
  ·have kY:¬ a.l[i].seq≤(zJ b.l a.l[i].id).seq:=(by omega);simp only [kY,decide_false,ZX] at hr;simp [h0,h1,h5,qk,qh,Sl.nn qh,hg,hs,hr,zY]
  ·have kY:a.l[i].seq≤(zJ b.l a.l[i].id).seq:=(by omega);simp only [kY,decide_true,vV] at hr;simp [h0,h1,h5,qk,qh,Sl.nn qh,hg,hs,hw,zY];exact ⟨i+1,by omega,by omega,rfl,hr⟩
 ·have qk:¬ (i:Int) < (a.l.length:Int):=by omega
  have hd:a.l.drop i = []:=zZ (by omega);rw [hd] at hr;have he:vZ [] b.l = true:=rfl;rw [he] at hr;simp [h0,h1,h5,qk,hr]
theorem qtj [MaxL] [TxtC] (a b c:Nat) (ha:a < 18446744073709551616) (hb:b < 18446744073709551616) (hc:c < 18446744073709551616) :
  call cx 115 [.vsl false [.int .u64 a,.int .u64 b,.int .u64 c] 3] [] = some (.vsl false (qd (qG 8 a ++ (qG 8 b ++ qG 8 c))) 24,[]):=by
 have h1:=qf3 a ha;have h2:=qf3 b hb;have h3:=qf3 c hc;clear ha hb hc;refine qq Tryz.func115 rfl ⟨rfl,rfl⟩ ?_;simp [Tryz.f115]
 iterate 4
  refine Xn ?_;simp [h1,h2,h3,qu,qF]
 simp [V6]
set_option maxRecDepth 4000 in
set_option maxHeartbeats 2000000 in
theorem qkt [MaxL] [TxtC] (s:Sl Mk) (hn:s.l.length < 4611686018427387904) (hok:∀ m∈s.l,m.Ok) :
  call cx 79 [(.vsl s.nil (qg s.l) s.l.length)] [] = some ((.vsl (Qi s.l).nil (qd (Qi s.l).l) (Qi s.l).l.length),[]):=by
 have hr:=qff s hn;refine qq Tryz.func79 rfl ⟨rfl,rfl⟩ ?_;cases h:jE s.l with
 | false =>
  rw [h] at hr;simp [Tryz.f79,hr,Qi,h,qd]
 | true =>
  rw [h] at hr;have hl:=XU h;clear hn;have hw8:IntKind.u8.wrap (s.l.length:Int) = (s.l.length:Int):=by rw [QE];omega
  simp [Tryz.f79,hr,Qi,h,hw8];refine Run.loopThen (fun (i:Nat) e H=>i≤s.l.length∧∃ X:List UInt8,qbF s.l i X∧H = [some (qd X)]∧qf e 3 = some (.osl 0 X.length 0 X.length 1)∧qf e 0 = some (.vsl s.nil (qg s.l) s.l.length)∧qf e 4 = some (.int .i64 i)) (fun i=>s.l.length - i) 0 ?_ ?_
  ·refine ⟨by omega,[UInt8.ofNat s.l.length],by simp [qbF],?_⟩;simp [qd];omega
  rintro i e H ⟨hi,X,hX,rfl,h3,h0,h4⟩;by_cases qh:i < s.l.length
  ·have qk:(i:Int) < (s.l.length:Int):=(by omega);have hw:IntKind.i64.wrap ((i:Int)+1) = ((i+1:Nat):Int):=(by rw [wrap_i64] <;> omega);have zY:∀ k,(16≤19+k) = True:=fun k=>eq_true (by omega);have hl40:=qhD (s.l.take i);rw [jn,Nat.min_eq_left hi] at hl40
   have jG:qbF s.l (i+1) (X ++ V9 s.l[i]):=by
    unfold qbF at *;rw [hX,qbC qh,List.flatMap_append];simp
   have jA:X.length≤200:=(by rw [hX,qH,hl40];omega);clear hX hl40;have hm:=hok _ (vk qh);obtain ⟨⟨m0,m1,m2,m3⟩,hme⟩:∃ m,s.l[i] = m:=⟨_,rfl⟩;rw [hme] at jG hm;obtain ⟨a1,rfl⟩:∃ k:Nat,m1 = k:=⟨m1.toNat,by have:=hm.seq;simp [qy] at this;omega⟩;obtain ⟨a2,rfl⟩:∃ k:Nat,m2 = k:=⟨m2.toNat,by have:=hm.lost;simp [qy] at this;omega⟩;obtain ⟨a3,rfl⟩:∃ k:Nat,m3 = k:=⟨m3.toNat,by have:=hm.over;simp [qy] at this;omega⟩;have hN:=qtj a1 a2 a3 (by have:=hm.seq;simp [qy] at this;omega) (by have:=hm.lost;simp [qy] at this;omega) (by have:=hm.over;simp [qy] at this;omega);have hb1:X.length+16≤140737488355328:=kn (Nat.add_le_add_right jA 16) (by decide);have zy:X.length+16+24≤140737488355328:=kn (Nat.add_le_add_right jA 40) (by decide);have ZH:X.length+40≤140737488355328:=zy;simp [h3,h0,h4,qk,qh,Sl.nn qh,hme,qF,hb1,zy,hN,hw,zY,qu,V0];clear hb1 zy ZH;exact ⟨i+1,by omega,by omega,_,jG,by simp [V9,V6],by simp [V9],rfl⟩
  ·have qk:¬ (i:Int) < (s.l.length:Int):=(by omega);have vG:s.l.take i = s.l:=qu (by omega);have hXe:X = JB s.l:=(by rw [hX,vG];rfl);simp [h3,h0,h4,qk,hXe]
theorem qgu {n:Nat} (h:n≤1000):n * 40≤140737488355328∧n≤140737488355328:=by omega
theorem qqv {A Z:List D} {k:Nat} {x:D} (hA:A[k]? = some x) (_:k < Z.length):qE (A.take k ++ Z.drop k) k [x] = A.take (k+1) ++ Z.drop (k+1):=by
 have hk:k < A.length:=(List.getElem?_eq_some_iff.1 hA).1;have hx:A[k] = x:=by rw [zg hk] at hA;exact qaz hA
 have hl:(A.take k).length = k:=by rw [jn];omega
 unfold qE;rw [List.take_left' hl,qbC hk,hx,List.length_singleton,qA,hl,List.drop_of_length_le (by omega:(A.take k).length≤k+1),ZU];congr 1;rw [kC];congr 1;omega
def z19:List D:=[.int .u8 0,.int .u8 0,.int .u8 0,.int .u8 0,.int .u8 0,.int .u8 0,.int .u8 0,.int .u8 0,.int .u8 0,.int .u8 0,.int .u8 0,.int .u8 0,.int .u8 0,.int .u8 0,.int .u8 0,.int .u8 0,.int .u64 0,.int .u64 0,.int .u64 0]
def qaI (R:List UInt8) (k:Nat):List D:=(qd R).take k ++ z19.drop k
theorem qsI {R:List UInt8} {k:Nat} (h:k≤16) (hR:16≤R.length):(qaI R k).length = 19:=by
 simp [qaI,z19,jn];omega
theorem qsH {R:List UInt8} {k:Nat} (h:k < 16) (hR:16≤R.length):qE (qaI R k) k [.int .u8 ((R[k]'(by omega)).toNat:Int)] = qaI R (k+1) :=
 qqv (by rw [zg (by simp;omega),qlv]) (by simp [z19];omega)
set_option maxRecDepth 4000 in
set_option maxHeartbeats 4000000 in
theorem qrt [MaxL] (s:Sl UInt8) (hn:s.l.length < 4611686018427387904) :
  call cx 119 [(.vsl s.nil (qd s.l) s.l.length)] [] = some (.tup [(.vsl (Sl.grown (vf s.l).1).nil (qg (Sl.grown (vf s.l).1).l) (Sl.grown (vf s.l).1).l.length),.int .i64 (readN (vf s.l)),.int .i64 (vf s.l).2],[]):=by
 refine qq Tryz.func119 rfl ⟨rfl,rfl⟩ ?_;obtain ⟨nil,l,qQ⟩:=s;simp only at hn ⊢;cases l with
 | nil=>simp [Tryz.f119,vf,readN,Sl.grown]
 | cons c r =>
  simp only [qH] at hn
  have Ks:nil = false:=by
   cases nil with
   | false=>rfl
   | true=>simpa using qQ rfl
  subst Ks;have qr:¬ ((r.length:Int)+1 = 0):=by omega
  have kc:(0:Int) < (r.length:Int)+1:=by omega
  by_cases h4:4 < c.toNat
  ·have ZM:(4:Int) < (c.toNat:Int):=(by omega);simp [Tryz.f119,vf,readN,Sl.grown,qr,kc,YD,h4,ZM]
  ·have ZM:¬ (4:Int) < (c.toNat:Int):=(by omega);have KR:IntKind.i64.wrap (c.toNat:Int) = (c.toNat:Int):=(by rw [wrap_i64];omega);simp [Tryz.f119,qr,kc,YD,ZM];have hB:qd (c :: r) = .int .u8 (c.toNat:Int) :: qd r:=rfl
   refine Run.loopThen (fun (i:Nat) e H=>i≤c.toNat∧∃ (d:D) (out:List Mk),BufE 19 d H out∧out.length = i∧40 * i≤r.length∧qf e 0 = some (.vsl false (qd (c :: r)) (r.length+1))∧qf e 5 = some d∧qf e 6 = some (.int .i64 (1+40 * (i:Int)))∧qf e 7 = some (.int .i64 i) ∧
    vf (c :: r) = J6 (c.toNat - i) (r.drop (40 * i)) out) (fun i=>c.toNat - i) 0 ?_ ?_
   ·refine ⟨by omega,.vsl true [] 0,[],.inl ⟨rfl,rfl,rfl⟩,rfl,by omega,?_⟩;simp [vf,h4,YD]
   ·rintro i e H ⟨hi,d,out,Zy,zl,hir,h0,h5,h6,h7,hr⟩;by_cases qh:i < c.toNat
    ·have qk:(i:Int) < (c.toNat:Int):=(by omega);have Ye:IntKind.i64.wrap ((r.length:Int)+1 - (1+40 * (i:Int))) = ((r.length - 40 * i:Nat):Int):=(by rw [wrap_i64] <;> omega);have hk:c.toNat - i = (c.toNat - (i+1))+1:=(by omega);rw [hk,J6] at hr;have vR:(r.drop (40 * i)).length = r.length - 40 * i:=jQ;by_cases zY:r.length - 40 * i < 16
     ·rw [vR,if_pos zY] at hr;have YQ:((r.length - 40 * i:Nat):Int) < 16:=(by omega);simp [h0,h5,h6,h7,qk,kc,hB,KR,Ye,YQ,hr,readN,Sl.grown]
     ·have YQ:¬ ((r.length - 40 * i:Nat):Int) < 16:=(by omega);rw [vR,if_neg zY] at hr;generalize hR:r.drop (40 * i) = R at *;obtain ⟨id,Qa⟩:∃ id:ID,id.l = R.take 16:=⟨ID.mk' (R.take 16),ID.mk'_l (by rw [jn];omega)⟩;have hidm:ID.mk' (R.take 16) = id:=ID.ext' (by rw [ID.mk'_l (by rw [jn];omega),Qa]);rw [← Qa] at hr;have QQ:(r.drop (40 * (i+1))) = R.drop 40:=(by rw [← hR,kC];congr 1);have Vs:R.length = r.length - 40 * i:=vR;simp [h0,h5,h6,h7,qk,kc,hB,KR,Ye,YQ]
      have h40i:∀ k,k < R.length→(qd (c :: r)).drop (40 * i+1+k) = .int .u8 ((R[k]?.getD 0).toNat:Int) :: qd (R.drop (k+1)):=fun k hk=>by
       rw [Zb,show 40 * i+1+k = (40 * i+k)+1 by omega,List.drop_succ_cons,← kC,hR,zo hk,YD,zg hk];rfl
      clear h0 h5 h6 h7 e
      refine Run.loopThen (fun (k:Nat) e H'=>k≤16∧H' = H ++ [some (qaI R k)]∧qf e 0 = some (.vsl false (qd (c :: r)) (r.length+1))∧qf e 5 = some d∧qf e 6 = some (.int .i64 (1+40 * (i:Int)))∧qf e 7 = some (.int .i64 i) ∧
       qf e 8 = some (.optr H.length 19 0)∧qf e 9 = some (.int .i64 k)) (fun k=>16 - k) 0 ?_ ?_
      ·simp [qaI,z19,hB]
      rintro k e H' ⟨hk16,rfl,h0,h5,h6,h7,h8,h9⟩;by_cases hklt:k < 16
      ·have hklt':(k:Int) < 16:=(by omega);have g1:IntKind.i64.wrap (1+40 * (i:Int)+(k:Int)) = ((40 * i+1+k:Nat):Int):=(by rw [wrap_i64] <;> omega);have g2:((40 * i+1+k:Nat):Int) < (r.length:Int)+1:=(by omega);have g3:IntKind.i64.wrap ((k:Int)+1) = ((k+1:Nat):Int):=(by rw [wrap_i64] <;> omega);have g4:(0:Int)≤((40 * i+1+k:Nat):Int):=(by omega);have g5:((40 * i+1+k:Nat):Int).toNat = 40 * i+1+k:=(by omega);have hkR:k < R.length:=(by omega);have hst:=qsH hklt (R:=R) (by omega);have v6:=qsI (k:=k) (R:=R) (by omega) (by omega);have hg:=h40i k hkR;rw [zg hkR,Ju] at hg;have hk19:k+1≤19:=(by omega);generalize hX:40 * i+1+k = X at *;simp [h0,h5,h6,h7,h8,h9,hklt',g1,g2,g3,g4,g5,hg,v6,hk19,hst];exact ⟨k+1,by omega,by omega,rfl,rfl⟩
      ·have hke:k = 16:=(by omega);have hklt':¬ (k:Int) < 16:=by omega
       have hP:qaI R k = Enc.cells (⟨id,0,0,0⟩:Mk):=by
        rw [hke];simp only [qaI,z19,Mk.cells,Qa,kr];rfl
       rw [hP];rw [← Vs] at hr
       have hlast0:i = 0→Ki out id.l = false:=fun h=>by
        have:out = []:=VV (by omega);subst this;rfl
       have hlastk:∀ k (hk:k < out.length),k+1 = i→Ki out id.l = decide (0≤qx out[k].id.l id.l):=fun k hk vF=>by
        unfold Ki
        have:out.getLast? = some out[k]:=by
         rw [List.getLast?_eq_getElem?,zg (by omega)];congr 2;omega
        rw [this]
       have qK:IntKind.i64.wrap ((i:Int)+1) = ((i+1:Nat):Int):=(by rw [wrap_i64] <;> omega);have KT:IntKind.i64.wrap (1+40 * (i:Int)+16) = ((40 * i+17:Nat):Int):=(by rw [wrap_i64] <;> omega);have hq24:IntKind.i64.wrap (((40 * i+17:Nat):Int)+24) = 1+40 * (((i+1:Nat):Int)):=(by rw [wrap_i64] <;> omega);have hq8:IntKind.i64.wrap (((40 * i+17:Nat):Int)+8) = ((40 * i+25:Nat):Int):=(by rw [wrap_i64] <;> omega);have hq6:IntKind.i64.wrap (((40 * i+17:Nat):Int)+16) = ((40 * i+33:Nat):Int):=(by rw [wrap_i64] <;> omega);have hqr:IntKind.i64.wrap ((r.length:Int)+1 - ((40 * i+17:Nat):Int)) = ((R.length:Int) - 16):=by rw [wrap_i64] <;> omega
       have fin40:Ki out id.l = false→¬ R.length < 40→∃ a1 a2 a3:Nat,Jg R = ⟨id,a1,a2,a3⟩∧call cx 117 [.vsl false (qd (c :: r)) (r.length+1),.int .i64 ((40 * i+17:Nat):Int),.int .i64 8] [] = some (.tup [.int .u64 a1,.bool true],[]) ∧
         call cx 117 [.vsl false (qd (c :: r)) (r.length+1),.int .i64 ((40 * i+25:Nat):Int),.int .i64 8] [] = some (.tup [.int .u64 a2,.bool true],[])∧call cx 117 [.vsl false (qd (c :: r)) (r.length+1),.int .i64 ((40 * i+33:Nat):Int),.int .i64 8] [] = some (.tup [.int .u64 a3,.bool true],[]) ∧
         vf (c :: r) = J6 (c.toNat - (i+1)) (r.drop (40 * (i+1))) (out ++ [⟨id,a1,a2,a3⟩]):=by
        intro v7 Qe;rw [v7] at hr;simp only [vC,if_false] at hr;rw [if_neg Qe] at hr;have hmk:Jg R = ⟨id,leN ((R.drop 16).take 8),leN ((R.drop 24).take 8),leN ((R.drop 32).take 8)⟩:=by unfold Jg;rw [hidm]
        have q:∀ a,a+8≤40→call cx 117 [.vsl false (qd (c :: r)) (r.length+1),.int .i64 ((40 * i+1+a:Nat):Int),.int .i64 8] [] = some (.tup [.int .u64 (leN ((R.drop a).take 8)),.bool true],[]):=fun a ha=>by
         have:=qk3 (.of (c :: r)) (40 * i+1+a) (by simp;omega) (by simp;omega);simp only [Sl.of_l,Sl.of_nil,qH] at this;rw [this,show 40 * i+1+a = (40 * i+a)+1 by omega,List.drop_succ_cons,← kC,hR]
        exact ⟨_,_,_,hmk,q 16 (by omega),q 24 (by omega),q 32 (by omega),by rw [hr,QQ,hmk]⟩
       have hc19:=qgu (n:=out.length+1) (by have:=c.toNat_lt;omega);generalize hX17:40 * i+17 = X17 at *;generalize hX25:40 * i+25 = X25 at *;generalize hX33:40 * i+33 = X33 at *;rcases Nat.eq_zero_or_pos i with VJ | hipos
       ·have hi0':¬ 0 < i:=(by omega);have v7:=hlast0 VJ;by_cases Qe:R.length < 40
        ·have JM:(R.length:Int) - 16 < 24:=(by omega);rw [v7,if_pos Qe] at hr;simp only [vC,if_false] at hr
         rcases Zy with ⟨rfl,rfl,rfl⟩ | ⟨rfl,rfl,Kt⟩ <;>
          simp [h0,h5,h6,h7,h8,h9,hklt',KT,hqr,hi0',JM,hr,readN,Sl.grown]
        ·have JM:¬ (R.length:Int) - 16 < 24:=(by omega);obtain ⟨a1,a2,a3,q1,q2,q3,q4,q5⟩:=fin40 v7 Qe;clear hr;rcases Zy with ⟨rfl,rfl,rfl⟩ | ⟨rfl,rfl,Kt⟩
         ·simp [h0,h5,h6,h7,h8,h9,hklt',KT,hq24,hq8,hq6,hqr,hi0',JM,q2,q3,q4,qK,qF];clear hc19;exact ⟨i+1,by omega,by omega,_,_,.one _,by simp at zl;simp [← zl],by omega,rfl,rfl,rfl,rfl,q5⟩
         ·exact absurd (VV (by omega)) Kt
       ·obtain ⟨k',vF⟩:∃ k,k+1 = i:=⟨i - 1,by omega⟩;have X8:k' < out.length:=(by omega);have hko':(k':Int) < (out.length:Int):=(by omega);have vy:IntKind.i64.wrap ((i:Int) - 1) = (k':Int):=(by rw [wrap_i64] <;> omega);have v7:=hlastk k' X8 vF;have ZF:=qic out[k'].id id;have h19:k' * 19+16≤out.length * 19:=(by omega);have h16k:∀ k,(16≤19+k) = True:=fun k=>eq_true (by omega);rcases Zy with ⟨rfl,rfl,rfl⟩ | ⟨rfl,rfl,Kt⟩
        ·simp at X8
        ·by_cases hge:0≤qx out[k'].id.l id.l
         ·rw [v7,decide_eq_true hge] at hr;simp only [if_true] at hr;simp [h0,h5,h6,h7,h8,h9,hklt',hipos,vy,X8,hko',ZF,hge,h16k,hr,readN,Sl.grown]
         ·rw [decide_eq_false hge] at v7;by_cases Qe:R.length < 40
          ·have JM:(R.length:Int) - 16 < 24:=(by omega);rw [v7,if_pos Qe] at hr;simp only [vC,if_false] at hr;simp [h0,h5,h6,h7,h8,h9,hklt',KT,hqr,hipos,vy,X8,hko',ZF,hge,h16k,JM,hr,readN,Sl.grown]
          ·have JM:¬ (R.length:Int) - 16 < 24:=(by omega);obtain ⟨a1,a2,a3,q1,q2,q3,q4,q5⟩:=fin40 v7 Qe;clear hr;simp [h0,h5,h6,h7,h8,h9,hklt',KT,hq24,hq8,hq6,hqr,hipos,vy,X8,hko',ZF,hge,h16k,JM,q2,q3,q4,qK,qF,hc19];clear hc19;exact ⟨i+1,by omega,by omega,_,_,.snoc _ _,by simp [zl],by omega,rfl,rfl,rfl,rfl,q5⟩
    ·have qk:¬ (i:Int) < (c.toNat:Int):=(by omega);have hk:c.toNat - i = 0:=(by omega);rw [hk,J6] at hr;rcases Zy with ⟨rfl,rfl,rfl⟩ | ⟨rfl,rfl,Kt⟩
     ·simp [h0,h5,h6,h7,qk,kc,hB,KR,hr,readN,Sl.grown];simp at zl;omega
     ·simp [h0,h5,h6,h7,qk,kc,hB,KR,hr,readN,Sl.grown,Kt,zl,qu]
def ji (m:Mk):List Mk→Bool→List Mk × Bool
 | [],i=>([],i)
 | x :: l,i=>let c:=qx x.id.l m.id.l
  let r:=ji m l (i || decide (0≤c))
  ((if !i && decide (0≤c) then [m] else []) ++ (if c≠0 then [x] else []) ++ r.1,r.2)
def Zo (l:List Mk) (m:Mk):List Mk:=(ji m l false).1 ++ (if (ji m l false).2 then [] else [m])
def J4 (l:List Mk) (m:Mk):Int:=if jE l then (if !zO l m.id && decide (4≤l.length) then 15 else 0) else 1
theorem qfc (m:Mk):∀ (l:List Mk) (i:Bool),(ji m l i).1.length≤2 * l.length
 | [],_=>by simp [ji]
 | x :: l,i=>by
  have:=qfc m l (i || decide (0≤qx x.id.l m.id.l));simp only [ji,qC,qH];have h1:(if (!i && decide (0≤qx x.id.l m.id.l)) = true then [m] else []).length≤1:=by split <;> simp
  have h2:(if qx x.id.l m.id.l≠0 then [x] else []).length≤1:=by split <;> simp
  omega
theorem qkh (m:Mk):∀ (a b:List Mk) (i:Bool),ji m (a ++ b) i = ((ji m a i).1 ++ (ji m b (ji m a i).2).1,(ji m b (ji m a i).2).2)
 | [],b,i=>by simp [ji]
 | x :: a,b,i=>by
  simp only [vU,ji,qkh m a b,ko]
def RS (m:Mk) (g:List Mk) (d:D) (H:qi):Prop:=(d = .vsl true [] 0∧g = []∧H = [some (Enc.cells m)])∨(d = .osl 1 (g.length * 19) 0 g.length 19∧H = [some (Enc.cells m),some (qg g)]∧g≠[])
theorem RS.app {m:Mk} {g:List Mk} {n k:Nat} {cs:List D} (qr:g≠[]) (hn:n = g.length * 19) (hk:k = g.length) (hc:cs = qg g):RS m g (.osl 1 n 0 k 19) [some (Enc.cells m),some cs]:=by
 subst hn;subst hk;subst hc;exact .inr ⟨rfl,rfl,qr⟩
theorem RS.nil {m:Mk}:RS m [] (.vsl true [] 0) [some (Enc.cells m)]:=.inl ⟨rfl,rfl,rfl⟩
theorem qqY (m:Mk):∀ (l:List Mk),(ji m l false).2 = true→(ji m l false).1≠[]
 | [],h=>by simp [ji] at h
 | x :: l,h=>by
  simp only [ji];by_cases hc:0≤qx x.id.l m.id.l
  ·simp [hc]
  ·have h0:¬ qx x.id.l m.id.l = 0:=fun h0=>hc (by rw [h0];decide);simp [h0]
theorem tri (c:Int):(c < 0∧¬ 0≤c∧¬ c = 0)∨(c = 0∧0≤c)∨(0≤c∧¬ c = 0):=by omega
noncomputable def qgz:Code:=zE [1,1,1,1,1,1,0,1,0,0] (vX (qV Tryz.f46))
set_option maxRecDepth 4000 in
set_option maxHeartbeats 2000000 in
theorem qqW [MaxL] [TxtC] (s:Sl Mk) (zN:s.l.length≤4) (m:Mk) (e:qp) (h0:qf e 0 = some (.vsl s.nil (qg s.l) s.l.length)) (h3:qf e 3 = some (.optr 0 19 0)) (jc:qf e 10 = some (.int .i64 0)) (h9:qf e 9 = some (.bool false)) (h8:qf e 8 = some (.vsl true [] 0)) :
  Run cx 46 69 0 (fun ex e H=>ex = .exit 0∧qf e 3 = some (.optr 0 19 0)∧qf e 9 = some (.bool (ji m s.l false).2)∧∃ d,qf e 8 = some d∧RS m (ji m s.l false).1 d H) [] (code cx 46 69 0 (.loop qgz) e [some (Enc.cells m)]):=by
 refine Run.loopThen (fun (i:Nat) e H=>i≤s.l.length∧qf e 0 = some (.vsl s.nil (qg s.l) s.l.length)∧qf e 3 = some (.optr 0 19 0)∧qf e 10 = some (.int .i64 i)∧qf e 9 = some (.bool (ji m (s.l.take i) false).2) ∧
  (∃ d,qf e 8 = some d∧RS m (ji m (s.l.take i) false).1 d H)) (fun i=>s.l.length - i) 0 ?_ ?_
 ·simp [ji,h0,h3,jc,h9,h8,RS.nil]
 clear h0 h3 jc h9 h8 e;rintro i e H ⟨hi,h0,h3,jc,h9,d,h8,hst⟩;by_cases qh:i < s.l.length
 ·have qk:(i:Int) < (s.l.length:Int):=by omega
  have hw:IntKind.i64.wrap ((i:Int)+1) = ((i+1:Nat):Int):=by rw [wrap_i64] <;> omega
  have zY:∀ k,(16≤19+k) = True:=fun k=>eq_true (by omega);have hc:=qic s.l[i].id m.id;have kg:=qfc m (s.l.take i) false;rw [jn,Nat.min_eq_left hi] at kg
  have jG:ji m (s.l.take (i+1)) false = ((ji m (s.l.take i) false).1 ++ (ji m [s.l[i]] (ji m (s.l.take i) false).2).1,(ji m [s.l[i]] (ji m (s.l.take i) false).2).2):=by
   rw [qbC qh,qkh]
  generalize ji m (s.l.take i) false = g at *;obtain ⟨g1,g2⟩:=g;simp only at h9 hst kg jG;have Kv:g1.length≤100:=by omega
  have hb1:g1.length * 40+40≤140737488355328∧g1.length+1≤140737488355328:=by have:=qgu (n:=g1.length+1) (by omega);rwa [vL] at this
  have ZH:g1.length * 40+80≤140737488355328∧g1.length+2≤140737488355328:=by have:=qgu (n:=g1.length+2) (kn (Nat.add_le_add_right Kv 2) (by decide));rwa [vL] at this
  clear Kv;simp only [ji,Z2] at jG;have Vp:(qx s.l[i].id.l m.id.l < 0∧¬ 0≤qx s.l[i].id.l m.id.l∧¬ qx s.l[i].id.l m.id.l = 0)∨(qx s.l[i].id.l m.id.l = 0∧0≤qx s.l[i].id.l m.id.l)∨(0≤qx s.l[i].id.l m.id.l∧¬ qx s.l[i].id.l m.id.l = 0):=tri _;generalize qx s.l[i].id.l m.id.l = c at *;simp only [qgz,zE,qV,Tryz.f46,Option.getD,vX,kP,Y5]
  cases g2 <;> rcases Vp with ⟨c1,c2,c3⟩ | ⟨rfl,c1⟩ | ⟨c1,c2⟩ <;> rcases hst with ⟨rfl,rfl,rfl⟩ | ⟨rfl,rfl,qr⟩ <;>
   first
    | simp [h0,h3,jc,h9,h8,qk,qh,Sl.nn qh,zY,hc,c2,c3,hw,hb1,qF,vL]
    | simp [h0,h3,jc,h9,h8,qk,qh,Sl.nn qh,zY,hc,c1,c2,hw,hb1,ZH,qF,V0,vL]
    | simp [h0,h3,jc,h9,h8,qk,qh,Sl.nn qh,zY,hc,hw,hb1,qF,vL]
  all_goals
   clear hb1 ZH;refine ⟨i+1,by omega,by omega,rfl,?_,?_⟩
   ·first | (rw [jG];done) | (rw [jG];simp [c2];done) | (rw [jG];simp [c1];done) | (rw [jG];simp;done)
   ·rw [jG]
    first
     | exact RS.nil
     | (refine RS.app ?_ ?_ ?_ ?_ <;> first | simp [c2,c3,qap,vL,ZN] | simp [c1,c2,qap,vL,ZN] | simp [qap,vL,ZN,qr] | simp [ZN])
 ·have qk:¬ (i:Int) < (s.l.length:Int):=by omega
  have vG:s.l.take i = s.l:=qu (by omega);rw [vG] at h9 hst;simp only [qgz,zE,qV,Tryz.f46,Option.getD,vX,kP,Y5];simp [h0,h3,jc,h9,h8,qk];exact hst
set_option maxRecDepth 4000 in
set_option maxHeartbeats 1000000 in
theorem qqX [MaxL] [TxtC] (s:Sl Mk) (hn:s.l.length < 4611686018427387904) (m:Mk) :
  call cx 46 [(.vsl s.nil (qg s.l) s.l.length),.agg (Enc.cells m)] [] = some (.tup [(.vsl (kQ (J4 s.l m) (.of (Zo s.l m))).nil (qg (kQ (J4 s.l m) (.of (Zo s.l m))).l) (kQ (J4 s.l m) (.of (Zo s.l m))).l.length),.int .i64 (J4 s.l m)],[]):=by
 have hr:=qff s hn;have hg:=qfg s hn m.id;refine qq Tryz.func46 rfl ⟨rfl,rfl⟩ ?_;cases h1:jE s.l with
 | false =>
  rw [h1] at hr;simp [Tryz.f46,hr,J4,h1,kQ]
 | true =>
  rw [h1] at hr;have zN:=XU h1;by_cases Qb:zO s.l m.id = false∧4≤s.l.length
  ·obtain ⟨h2,h3⟩:=Qb;have h3':(4:Int)≤(s.l.length:Int):=(by clear hn;omega);rw [h2] at hg;simp [Tryz.f46,hr,hg,J4,h1,h2,h3,h3',kQ]
  ·have Yo:J4 s.l m = 0:=by
    unfold J4;rw [h1,if_pos rfl,if_neg];simp only [qR,Bool.not_eq_true',decide_eq_true_eq];exact Qb
   rw [Yo];have zy:zO s.l m.id = false→¬ (4:Int)≤(s.l.length:Int):=fun h h4=>Qb ⟨h,by clear hn;omega⟩;have X7:=qqW s zN m;simp only [qgz,zE,qV,Tryz.f46,Option.getD,vX,kP,Y5] at X7;have kg:=qfc m s.l false;have hb1:(ji m s.l false).1.length * 40+40≤140737488355328∧(ji m s.l false).1.length+1≤140737488355328:=(by have:=qgu (n:=(ji m s.l false).1.length+1) (by clear hn;omega);rwa [vL] at this);have Kt:=qqY m s.l;cases hb:zO s.l m.id
   ·have qaa:=zy hb;rw [hb] at hg;simp [Tryz.f46,hr,hg,qaa,kQ];refine Run.mono (X7 _ ?_ ?_ ?_ ?_ ?_) ?_
    iterate 5 simp
    rintro ex e H ⟨rfl,h3,h9,d,h8,hst⟩;unfold Zo;rcases hst with ⟨rfl,hz,rfl⟩ | ⟨rfl,rfl,qr⟩ <;> cases YX:(ji m s.l false).2 <;> simp [h3,h9,h8,YX,qF,hb1,vL,← Z0,qu]
    ·rw [hz];simp [Xb]
    ·exact Kt YX hz
   ·rw [hb] at hg;simp [Tryz.f46,hr,hg,kQ];refine Run.mono (X7 _ ?_ ?_ ?_ ?_ ?_) ?_
    iterate 5 simp
    rintro ex e H ⟨rfl,h3,h9,d,h8,hst⟩;unfold Zo;rcases hst with ⟨rfl,hz,rfl⟩ | ⟨rfl,rfl,qr⟩ <;> cases YX:(ji m s.l false).2 <;> simp [h3,h9,h8,YX,qF,hb1,vL,← Z0,qu]
    ·rw [hz];simp [Xb]
    ·exact Kt YX hz
def QI (v n:Int):Int:=if IntKind.u64.wrap (kO - n) < v then kO else IntKind.u64.wrap (v+n)
theorem qhb [MaxL] [TxtC] (v n:Int):call cx 45 [.int .u64 v,.int .u64 n] [] = some (.int .u64 (QI v n),[]):=by
 refine qq Tryz.func45 rfl ⟨rfl,rfl⟩ ?_;by_cases h:IntKind.u64.wrap (18446744073709551615 - n) < v
 ·simp [Tryz.f45,h,QI,kO]
 ·simp [Tryz.f45,h,QI,kO]
def J3 (m:Mk) (it:It) (over:Bool):Mk :=
 if it.gap then { m with seq:=it.til,lost:=QI m.lost (QI (IntKind.u64.wrap (it.til - it.fr)) 1) }
 else { m with seq:=it.rc.seq,over:=if over then QI m.over 1 else m.over }
def XT (l:List Mk) (it:It) (over:Bool):List Mk:=Zo l (J3 (zJ l it.id) it over)
def Y6 (l:List Mk) (it:It) (over:Bool):Int :=
 let c:=J4 l (J3 (zJ l it.id) it over)
 if c≠0 then c else if Qt (zJ l it.id) it then 0 else 13
set_option maxRecDepth 4000 in
set_option maxHeartbeats 2000000 in
theorem qgW [MaxL] [TxtC] (s:Sl Mk) (hn:s.l.length < 4611686018427387904) (it:It) (over:Bool) :
  call cx 19 [(.vsl s.nil (qg s.l) s.l.length),.agg (Enc.cells it),.bool over] [] = some (.tup [(.vsl (kQ (Y6 s.l it over) (.of (XT s.l it over))).nil (qg (kQ (Y6 s.l it over) (.of (XT s.l it over))).l) (kQ (Y6 s.l it over) (.of (XT s.l it over))).l.length),.int .i64 (Y6 s.l it over)],[]):=by
 have hge:=qfg s hn it.id;have YW:=qeb s.l it.id;have Jj:=qqX s hn (J3 (zJ s.l it.id) it over);refine qq Tryz.func19 rfl ⟨rfl,rfl⟩ ?_;unfold Y6 XT;generalize zJ s.l it.id = g at *;have zX:=qhb (IntKind.u64.wrap (it.til - it.fr)) 1;have zx:=qhb g.lost (QI (IntKind.u64.wrap (it.til - it.fr)) 1);have Jm:=qhb g.over 1;have key:∀ (st:Mk) (hst:J3 g it over = st),∀ c (hc:J4 s.l st = c),∀ d (hd:Zo s.l st = d),True:=fun _ _ _ _ _ _=>trivial;cases vQ:it.gap with
 | true =>
  have hst:J3 g it over = { g with seq:=it.til,lost:=QI g.lost (QI (IntKind.u64.wrap (it.til - it.fr)) 1) }:=by simp [J3,vQ]
  rw [hst] at Jj ⊢;generalize J4 s.l { g with seq:=it.til,lost:=QI g.lost (QI (IntKind.u64.wrap (it.til - it.fr)) 1) } = c at *;generalize Zo s.l { g with seq:=it.til,lost:=QI g.lost (QI (IntKind.u64.wrap (it.til - it.fr)) 1) } = d at *;by_cases hc:c = 0
  ·subst hc;by_cases h1:it.fr≤g.seq
   ·simp [Tryz.f19,hge,vQ,zX,zx,Jj,h1,Qt,kQ]
   ·by_cases h2:it.til < it.fr
    ·simp [Tryz.f19,hge,vQ,zX,zx,Jj,h1,h2,Qt,kQ]
    ·simp [Tryz.f19,hge,vQ,zX,zx,Jj,h1,h2,Qt,kQ]
  ·simp [Tryz.f19,hge,vQ,zX,zx,Jj,hc,kQ]
 | false =>
  have hst:J3 g it over = { g with seq:=it.rc.seq,over:=if over then QI g.over 1 else g.over }:=by simp [J3,vQ]
  rw [hst] at Jj ⊢;cases over with
  | false =>
   simp only [vC,if_false] at Jj ⊢;generalize J4 s.l { g with seq:=it.rc.seq,over:=g.over } = c at *;generalize Zo s.l { g with seq:=it.rc.seq,over:=g.over } = d at *;by_cases hc:c = 0
   ·subst hc;by_cases h1:it.rc.seq≤g.seq
    ·simp [Tryz.f19,hge,vQ,Jj,h1,Qt,kQ]
    ·simp [Tryz.f19,hge,vQ,Jj,h1,Qt,kQ]
   ·simp [Tryz.f19,hge,vQ,Jj,hc,kQ]
  | true =>
   simp only [if_true] at Jj ⊢;generalize J4 s.l { g with seq:=it.rc.seq,over:=QI g.over 1 } = c at *;generalize Zo s.l { g with seq:=it.rc.seq,over:=QI g.over 1 } = d at *;by_cases hc:c = 0
   ·subst hc;by_cases h1:it.rc.seq≤g.seq
    ·simp [Tryz.f19,hge,vQ,Jm,Jj,h1,Qt,kQ]
    ·simp [Tryz.f19,hge,vQ,Jm,Jj,h1,Qt,kQ]
   ·simp [Tryz.f19,hge,vQ,Jm,Jj,hc,kQ]
def qde (l:List It):Prop:= ∀ x∈l,x.Ok∧x.rc.fields.l.length < 1000000∧∀ p∈x.rc.fields.l,Qv p
theorem qyx {l:List It} (h:qde l) (ho:∀ x∈l,zK x = true):(l.flatMap YG).length≤l.length * 10004:=by
 induction l with
 | nil=>simp
 | cons a l ih =>
  have h1:=ih (fun x hx=>h x (vu _ hx)) fun x hx=>ho x (vu _ hx);have h2:=(qgD (h a (kA ..)).1 (ho a (kA ..))).1;rw [List.flatMap_cons,qC,qxm,qH,vL];omega
theorem qhq {l:List It} {m:List Mk} (h:J8 l m = false):Ke l m = .none:=by unfold Ke;rw [h];rfl
def qcs (s:List It) (i:Nat) (X:List UInt8):Prop:=X = (Kj ++ qG 2 s.length) ++ (s.take i).flatMap YG
set_option maxHeartbeats 2000000 in
theorem qks [MaxL] [TxtC] (s:BitVec 32) (b:Sl UInt8) (hn:b.l.length < 4611686018427387904):call cx 91 [.int .u32 s.toNat,(.vsl b.nil (qd b.l) b.l.length)] [] = some (.int .u32 ((QB s b.l).toNat:Nat),[]):=by
 refine qq Tryz.func91 rfl ⟨rfl,rfl⟩ ?_;have Yf:∀ v:BitVec 32,QW .xor (.int .u32 (v.toNat:Int)) = some (.int .u32 ((~~~ v).toNat:Int)):=fun v=>congrArg (fun x=>some (D.int .u32 x)) (ql2 v);have h0:=Yf s;unfold QB;obtain ⟨g,hg⟩:∃ g,qco (~~~ s) b.l = g:=⟨_,rfl⟩;rw [hg];have h1:=Yf g;generalize ((~~~ g).toNat:Int) = r at *;generalize ~~~ s = s0 at *;clear Yf;simp [-QW,Tryz.f91,h0];refine Run.loopThen (fun (q:Nat × BitVec 32) e H'=>q.1≤b.l.length∧qco q.2 (b.l.drop q.1) = g∧qf e 0 = some (.int .u32 (q.2.toNat:Int))∧qf e 1 = some (.vsl b.nil (qd b.l) b.l.length)∧qf e 5 = some (.int .i64 (q.1:Nat))∧H' = []) (fun q=>b.l.length - q.1) (0,s0) ⟨jg _,by simpa using hg,by simp,by simp,by simp,rfl⟩ ?_;rintro ⟨i,v⟩ e H' ⟨hi,hR,k0,k1,k5,rfl⟩;simp only at hi hR k0 k5;by_cases qh:i < b.l.length
 ·have qk:(i:Int) < (b.l.length:Int):=by omega
  have hw:IntKind.i64.wrap ((i:Int)+1) = ((i+1:Nat):Int):=by rw [wrap_i64] <;> omega
  have hd:=qnB qh;have hb:=qoy v b.l[i];rw [zo qh] at hR;generalize b.l[i] = c at *;replace hR:qco (ZO 8 (v ^^^ BitVec.ofNat 32 c.toNat)) (b.l.drop (i+1)) = g:=hR;generalize v ^^^ BitVec.ofNat 32 c.toNat = w at *;have KR:IntKind.u32.wrap (c.toNat:Int) = (c.toNat:Int):=by have:=c.toNat_lt;rw [KI];omega
  simp [-QW,k0,k1,k5,qk,Sl.nn qh,hd,KR,hb]
  refine qf4 (fun (q:Nat × BitVec 32) e H'=>q.1≤8∧ZO (8 - q.1) q.2 = ZO 8 w∧qf e 0 = some (.int .u32 (q.2.toNat:Int))∧qf e 1 = some (.vsl false (qd b.l) b.l.length)∧qf e 5 = some (.int .i64 (i:Nat))∧qf e 6 = some (.int .i64 (q.1:Nat))∧H' = []) (fun q=>8 - q.1) (0,w)
   (fun ex e H'=>ex = .exit 2∧qf e 0 = some (.int .u32 ((ZO 8 w).toNat:Int))∧qf e 1 = some (.vsl false (qd b.l) b.l.length)∧qf e 5 = some (.int .i64 (i:Nat))∧H' = []) ⟨jg _,rfl,by simp,by simp,by simp,by simp,rfl⟩ ?_ ?_
  ·clear k0 k1 k5;rintro ⟨j,u⟩ e H' ⟨hj,hu,k0,k1,k5,k6,rfl⟩;simp only at hj hu k0 k6;by_cases hj8:j < 8
   ·have Q9:(j:Int) < 8:=(by omega);have Z9:IntKind.i64.wrap ((j:Int)+1) = ((j+1:Nat):Int):=(by rw [wrap_i64] <;> omega);have hb1:(u.toNat:Int).tmod 2 = ((u.toNat % 2:Nat):Int):=(by rw [Int.tmod_eq_emod_of_nonneg (Int.natCast_nonneg _)];rfl);have Qp:IntKind.u32.wrap ((u.toNat % 2:Nat):Int) = ((u.toNat % 2:Nat):Int):=(by rw [KI];omega);have zy:=qmC u;rw [show (2:Int) = 2 ^ min 1 IntKind.u32.bits from rfl] at zy;have ZH:=qla (u >>> 1)
    have hst:ZO (8 - (j+1)) (qem u) = ZO 8 w:=by
     rw [← hu,show 8 - j = (8 - (j+1))+1 by omega];rfl
    unfold qem at hst;generalize u >>> 1 = h at *;by_cases hp:u.toNat % 2 = 1
    ·rw [hp] at hb1 Qp;rw [if_pos hp] at hst;generalize h ^^^ 2197175160#32 = y at *;simp [-QW,k0,k1,k5,k6,Q9,Z9,hb1];exact ⟨j+1,by omega,by omega,y,hst,by rw [zy,ZH],rfl⟩
    ·have hp0:u.toNat % 2 = 0:=(by omega);rw [hp0] at hb1 Qp;rw [if_neg hp] at hst;simp [-QW,k0,k1,k5,k6,Q9,Z9,hb1];exact ⟨j+1,by omega,by omega,h,hst,zy,rfl⟩
   ·have Q9:¬ (j:Int) < 8:=(by omega);have hj0:8 - j = 0:=(by omega);rw [hj0] at hu;replace hu:u = ZO 8 w:=hu;simp [-QW,k0,k1,k5,k6,Q9,hu]
  ·clear k0 k1 k5;rintro ex e H' ⟨rfl,k0,k1,k5,rfl⟩;generalize ZO 8 w = z at *;simp [-QW,k0,k1,k5,hw];exact ⟨i+1,by omega,by omega,z,hR,rfl,rfl⟩
 ·have qk:¬ (i:Int) < (b.l.length:Int):=by omega
  rw [zZ (by omega)] at hR;replace hR:v = g:=hR;subst hR;simp [-QW,k0,k1,k5,qk,h1]
theorem qhI [MaxL] [TxtC] (v n:Nat) (zM:1≤n) (VD:n≤8) (hv:v < 18446744073709551616):call cx 87 [.int .u64 v,.int .i64 n] [] = some (.vsl false (qd (qG n v)) n,[]):=by
 refine qq Tryz.func87 rfl ⟨rfl,rfl⟩ ?_;simp [Tryz.f87];refine Run.loopThen (fun (i:Nat) e H=>i≤n∧(∃ d,qf e 5 = some d∧Buf d H (qG i v))∧qf e 0 = some (.int .u64 (v / 256 ^ i:Nat))∧qf e 1 = some (.int .i64 n)∧qf e 6 = some (.int .i64 i)) (fun i=>n - i) 0 ?_ ?_
 ·simp [qG,Buf]
 rintro i e H ⟨hi,⟨d,h5,Zy⟩,h0,h1,h6⟩;by_cases qh:i < n
 ·have qk:(i:Int) < (n:Int):=by omega
  have hw:IntKind.i64.wrap ((i:Int)+1) = ((i+1:Nat):Int):=by rw [wrap_i64] <;> omega
  have jG:=qfC i v;have hl:(qG i v).length≤8:=by simp;omega
  have hq:v / 256 ^ i < 18446744073709551616:=Nat.lt_of_le_of_lt (Nat.div_le_self _ _) hv;have hnx:v / 256 ^ (i+1) = v / 256 ^ i / 256:=by rw [XJ,Nat.div_div_eq_div_mul]
  generalize v / 256 ^ i = x at *
  have ht1:(x:Int).tmod 256 = ((x % 256:Nat):Int):=by
   rw [Int.tmod_eq_emod_of_nonneg (Int.natCast_nonneg _)];rfl
  have Ze:(x:Int).tdiv 256 = ((x / 256:Nat):Int):=by
   rw [Int.tdiv_eq_ediv_of_nonneg (Int.natCast_nonneg _)];rfl
  have hx256:x % 256 < 256:=JU _ (by decide)
  have qK:IntKind.u8.wrap ((x % 256:Nat):Int) = ((UInt8.ofNat (x % 256)).toNat:Int):=by
   rw [VR hx256];clear hv hq;generalize x % 256 = y at *;rw [QE];omega
  have zt:IntKind.u64.wrap ((x / 256:Nat):Int) = ((x / 256:Nat):Int):=by
   have:x / 256 < 18446744073709551616:=Nat.lt_of_le_of_lt (Nat.div_le_self _ _) hq;clear hv hq;generalize x / 256 = y at *;rw [qS];omega
  generalize UInt8.ofNat (x % 256) = c at *;clear hv hq;generalize qG i v = l at *;have vm:l.length+1≤140737488355328:=kn (Nat.add_le_add_right hl 1) (by decide);rcases Zy with ⟨rfl,rfl,rfl⟩ | ⟨rfl,rfl⟩
  ·simp [h5,h0,h1,h6,qk,hw,ht1,Ze,qK,zt,qF,-Int.natCast_emod,-Int.natCast_ediv];clear vm;exact ⟨i+1,by omega,by omega,.inr (by simp [jG,qd]),by rw [hnx],rfl⟩
  ·simp [h5,h0,h1,h6,qk,hw,ht1,Ze,qK,zt,qF,vm,-Int.natCast_emod,-Int.natCast_ediv];clear vm;exact ⟨i+1,by omega,by omega,.inr (by simp [jG,qd]),by rw [hnx],rfl⟩
 ·have qk:¬ (i:Int) < (n:Int):=by omega
  have h8:i = n:=by omega
  subst h8;have hl:(qG i v).length = i:=X1 i v;generalize qG i v = l at *;rcases Zy with ⟨rfl,rfl,rfl⟩ | ⟨rfl,rfl⟩
  ·simp at hl;omega
  ·simp [h5,h0,h1,h6,hl,qu]
theorem qki [MaxL] [TxtC] (b:Sl UInt8) (hn:b.l.length≤140737488354000):call cx 56 [(.vsl b.nil (qd b.l) b.l.length)] [] = some ((.vsl ((.of (Qk b.l):Sl UInt8)).nil (qd ((.of (Qk b.l):Sl UInt8)).l) ((.of (Qk b.l):Sl UInt8)).l.length),[]):=by
 have h1:=qks 0#32 b (by omega);have h2:=qhI (QB 0#32 b.l).toNat 4 (by decide) (by decide) (Nat.lt_trans (QB 0#32 b.l).isLt (by decide))
 have hw:IntKind.u64.wrap ((QB 0#32 b.l).toNat:Int) = ((QB 0#32 b.l).toNat:Int):=by
  have:=(QB 0#32 b.l).isLt;rw [qS];omega
 have e:Qk b.l = b.l ++ qG 4 (QB 0#32 b.l).toNat:=rfl;rw [e];simp only [qdg] at h1;generalize (QB 0#32 b.l).toNat = v at *;have zN:(qG 4 v).length = 4:=X1 4 v;generalize qG 4 v = z at *
 have h3:call cx 90 [(.vsl b.nil (qd b.l) b.l.length),.int .i64 4,.int .u64 v] [] = some ((.vsl ((.of (b.l ++ z):Sl UInt8)).nil (qd ((.of (b.l ++ z):Sl UInt8)).l) ((.of (b.l ++ z):Sl UInt8)).l.length),[]):=by
  refine qq Tryz.func90 rfl ⟨rfl,rfl⟩ ?_;have zX:b.l.length≤140737488355328:=by omega
  have zx:b.l.length+4≤140737488355328:=by omega
  have qw:List.take (b.l.length+4) (qd b.l ++ qd z) = qd b.l ++ qd z:=qu (by simp [zN]);replace h2:call cx 87 [.int .u64 v,.int .i64 4] [] = some (.vsl false (qd z) 4,[]):=h2;simp [Tryz.f90,h2,qF,zX,zx,zN,V6,qw]
 refine qq Tryz.func56 rfl ⟨rfl,rfl⟩ ?_;replace h1:call cx 91 [.int .u32 0,(.vsl b.nil (qd b.l) b.l.length)] [] = some (.int .u32 v,[]):=h1;simp [Tryz.f56,h1,h3,hw]
set_option maxHeartbeats 1000000 in
theorem qr9 [MaxL] (s:Sl UInt8) (a:Nat) (h:a+2≤s.l.length) (_:s.l.length < 4611686018427387904) :
  call cx 117 [(.vsl s.nil (qd s.l) s.l.length),.int .i64 a,.int .i64 2] [] = some (.tup [.int .u64 (leN ((s.l.drop a).take 2)),.bool true],[]):=by
 have hnn:s.nil = false:=Sl.nn (i:=a) (by omega);have g0:¬ (a:Int) < 0:=by omega
 have g1:¬ (s.l.length:Int) < (a:Int):=by omega
 have hw:IntKind.i64.wrap ((s.l.length:Int) - (a:Int)) = (s.l.length:Int) - (a:Int):=by rw [wrap_i64];omega
 have g2:¬ (s.l.length:Int) - (a:Int) < 2:=by omega
 refine qq Tryz.func117 rfl ⟨rfl,rfl⟩ ?_;simp [Tryz.f117,hnn,g0,g1,hw,g2];refine Run.loopThen (fun (i:Nat) e H=>i≤2∧H = []∧qf e 0 = some (.vsl s.nil (qd s.l) s.l.length)∧qf e 1 = some (.int .i64 a)∧qf e 8 = some (.int .u64 (leN ((s.l.drop (a+i)).take (2 - i)):Nat))∧qf e 9 = some (.int .i64 ((i:Int) - 1))) (fun i=>i) 2 (by simp [leN,hnn]) ?_;rintro i e H ⟨hi,rfl,h0,h1,h8,h9⟩;cases i with
 | zero=>simp [h0,h1,h8,h9]
 | succ j =>
  have hj:(0:Int)≤(j:Int):=by omega
  have Z9:IntKind.i64.wrap ((a:Int)+(j:Int)) = ((a+j:Nat):Int):=by rw [wrap_i64] <;> omega
  have vy:IntKind.i64.wrap ((j:Int) - 1) = (j:Int) - 1:=by rw [wrap_i64];omega
  have qh:a+j < s.l.length:=by omega
  have e1:((j+1:Nat):Int) - 1 = (j:Int):=by omega
  rw [e1] at h9
  have hd:(s.l.drop (a+j)).take (2 - j) = s.l[a+j] :: (s.l.drop (a+(j+1))).take (2 - (j+1)):=by
   rw [zo qh,show 2 - j = (2 - (j+1))+1 by omega,qe6,V0]
  have VD:leN ((s.l.drop (a+(j+1))).take (2 - (j+1))) < 256 ^ 7:=by
   refine jM (Xz _) (Y2 (by decide) ?_);rw [jn];omega
  have hst:=qhB (leN ((s.l.drop (a+(j+1))).take (2 - (j+1)))) s.l[a+j].toNat s.l[a+j].toNat_lt VD;have vx:IntKind.u64.wrap (s.l[a+j].toNat:Int) = (s.l[a+j].toNat:Int):=by rw [qS];have:=s.l[a+j].toNat_lt;omega
  have g1:(0:Int)≤(a:Int)+(j:Int):=by omega
  have g2:(a:Int)+(j:Int) < (s.l.length:Int):=by omega
  have g3:((a:Int)+(j:Int)).toNat = a+j:=by omega
  simp [h0,h1,h8,h9,hj,Z9,vy,vx,hnn,g1,g2,g3,jo qh,-Nat.reduceSubDiff];rw [hst];clear VD hst vx;exact ⟨j,by omega,by omega,by rw [hd,leN,Nat.mul_comm,Nat.add_comm],rfl⟩
theorem qr8 [MaxL] (s:Sl UInt8) (a:Nat) (ha:a≤s.l.length) (h:s.l.length < a+2) (_:s.l.length < 4611686018427387904) :
  call cx 117 [(.vsl s.nil (qd s.l) s.l.length),.int .i64 a,.int .i64 2] [] = some (.tup [.int .u64 0,.bool false],[]):=by
 have g0:¬ (a:Int) < 0:=by omega
 have g1:¬ (s.l.length:Int) < (a:Int):=by omega
 have hw:IntKind.i64.wrap ((s.l.length:Int) - (a:Int)) = (s.l.length:Int) - (a:Int):=by rw [wrap_i64];omega
 have g2:(s.l.length:Int) - (a:Int) < 2:=by omega
 refine qq Tryz.func117 rfl ⟨rfl,rfl⟩ ?_;simp [Tryz.f117,g0,g1,hw,g2]
set_option maxHeartbeats 1000000 in
theorem qk4 [MaxL] (s:Sl UInt8) (a:Nat) (h:a+4≤s.l.length) (_:s.l.length < 4611686018427387904) :
  call cx 117 [(.vsl s.nil (qd s.l) s.l.length),.int .i64 a,.int .i64 4] [] = some (.tup [.int .u64 (leN ((s.l.drop a).take 4)),.bool true],[]):=by
 have hnn:s.nil = false:=Sl.nn (i:=a) (by omega);have g0:¬ (a:Int) < 0:=by omega
 have g1:¬ (s.l.length:Int) < (a:Int):=by omega
 have hw:IntKind.i64.wrap ((s.l.length:Int) - (a:Int)) = (s.l.length:Int) - (a:Int):=by rw [wrap_i64];omega
 have g2:¬ (s.l.length:Int) - (a:Int) < 4:=by omega
 refine qq Tryz.func117 rfl ⟨rfl,rfl⟩ ?_;simp [Tryz.f117,hnn,g0,g1,hw,g2];refine Run.loopThen (fun (i:Nat) e H=>i≤4∧H = []∧qf e 0 = some (.vsl s.nil (qd s.l) s.l.length)∧qf e 1 = some (.int .i64 a)∧qf e 8 = some (.int .u64 (leN ((s.l.drop (a+i)).take (4 - i)):Nat))∧qf e 9 = some (.int .i64 ((i:Int) - 1))) (fun i=>i) 4 (by simp [leN,hnn]) ?_;rintro i e H ⟨hi,rfl,h0,h1,h8,h9⟩;cases i with
 | zero=>simp [h0,h1,h8,h9]
 | succ j =>
  have hj:(0:Int)≤(j:Int):=by omega
  have Z9:IntKind.i64.wrap ((a:Int)+(j:Int)) = ((a+j:Nat):Int):=by rw [wrap_i64] <;> omega
  have vy:IntKind.i64.wrap ((j:Int) - 1) = (j:Int) - 1:=by rw [wrap_i64];omega
  have qh:a+j < s.l.length:=by omega
  have e1:((j+1:Nat):Int) - 1 = (j:Int):=by omega
  rw [e1] at h9
  have hd:(s.l.drop (a+j)).take (4 - j) = s.l[a+j] :: (s.l.drop (a+(j+1))).take (4 - (j+1)):=by
   rw [zo qh,show 4 - j = (4 - (j+1))+1 by omega,qe6,V0]
  have VD:leN ((s.l.drop (a+(j+1))).take (4 - (j+1))) < 256 ^ 7:=by
   refine jM (Xz _) (Y2 (by decide) ?_);rw [jn];omega
  have hst:=qhB (leN ((s.l.drop (a+(j+1))).take (4 - (j+1)))) s.l[a+j].toNat s.l[a+j].toNat_lt VD;have vx:IntKind.u64.wrap (s.l[a+j].toNat:Int) = (s.l[a+j].toNat:Int):=by rw [qS];have:=s.l[a+j].toNat_lt;omega
  have g1:(0:Int)≤(a:Int)+(j:Int):=by omega
  have g2:(a:Int)+(j:Int) < (s.l.length:Int):=by omega
  have g3:((a:Int)+(j:Int)).toNat = a+j:=by omega
  simp [h0,h1,h8,h9,hj,Z9,vy,vx,hnn,g1,g2,g3,jo qh,-Nat.reduceSubDiff];rw [hst];clear VD hst vx;exact ⟨j,by omega,by omega,by rw [hd,leN,Nat.mul_comm,Nat.add_comm],rfl⟩
theorem qr7 [MaxL] (s:Sl UInt8) (a:Nat) (ha:a≤s.l.length) (h:s.l.length < a+4) (_:s.l.length < 4611686018427387904) :
  call cx 117 [(.vsl s.nil (qd s.l) s.l.length),.int .i64 a,.int .i64 4] [] = some (.tup [.int .u64 0,.bool false],[]):=by
 have g0:¬ (a:Int) < 0:=by omega
 have g1:¬ (s.l.length:Int) < (a:Int):=by omega
 have hw:IntKind.i64.wrap ((s.l.length:Int) - (a:Int)) = (s.l.length:Int) - (a:Int):=by rw [wrap_i64];omega
 have g2:(s.l.length:Int) - (a:Int) < 4:=by omega
 refine qq Tryz.func117 rfl ⟨rfl,rfl⟩ ?_;simp [Tryz.f117,g0,g1,hw,g2]
theorem qrs [MaxL] (b:Sl UInt8) (hn:b.l.length≤140737488354000):call cx 116 [(.vsl b.nil (qd b.l) b.l.length)] [] = some (qcE b.l,[]):=by
 refine qq Tryz.func116 rfl ⟨rfl,rfl⟩ ?_;unfold qcE;by_cases h4:b.l.length < 4
 ·rw [if_pos h4];have qh:(b.l.length:Int) < 4:=by omega
  simp [Tryz.f116,qh]
 rw [if_neg h4];obtain ⟨n,ZC⟩:∃ n,b.l.length - 4 = n:=⟨_,rfl⟩;have qK:IntKind.i64.wrap ((b.l.length:Int) - 4) = (n:Int):=by rw [wrap_i64] <;> omega
 have qh:¬ (b.l.length:Int) < 4:=by omega
 have hnn:b.nil = false:=Sl.nn (i:=0) (by omega);have hg:=qk4 b n (by omega) (by omega);rw [qu (by rw [jQ];omega)] at hg;have h1:=qks 0#32 (.of (b.l.take n)) (by simp;omega);have hw:=qju (QB 0#32 (b.l.take n));have JH:(0:Int)≤(n:Int):=by omega
 have qY:n≤b.l.length:=by omega
 have jq:(b.l.take n).length = n:=by rw [jn];omega
 have qw:List.take n (qd b.l) = qd (b.l.take n):=kr _ _;have hs:XQ b.l = decide (leN (b.l.drop n) = (QB 0#32 (b.l.take n)).toNat):=by unfold XQ;rw [ZC]
 rw [hs,ZC];simp only [Sl.of_l,Sl.of_nil,jq] at h1 hw;rw [hnn] at hg;generalize leN (b.l.drop n) = v at *;generalize QB 0#32 (b.l.take n) = c at *;generalize b.l.take n = y at *;replace h1:call cx 91 [.int .u32 0,.vsl false (qd y) n] [] = some (.int .u32 (c.toNat:Nat),[]):=h1;have hcond:((v:Int) = (c.toNat:Int)) = (v = c.toNat):=propext ⟨fun h=>Int.ofNat.inj h,fun h=>congrArg _ h⟩;by_cases hv:v = c.toNat
 ·subst hv;simp [Tryz.f116,qh,qK,hnn,hg,h1,hw,JH,qY,qw,jq]
 ·rw [decide_eq_false hv];simp [Tryz.f116,qh,qK,hnn,hg,h1,hw,JH,qY,qw,hcond,hv]
def q1j (X:List UInt8) (d:D) (H:qi):Prop:= ∃ n,n = X.length∧d = .osl 0 n 0 n 1∧H = [some (qd X)]
set_option maxHeartbeats 4000000 in
theorem qrm [MaxL] (s:Sl It) (m:Sl Mk) (hs:qde s.l) (hm:∀ x∈m.l,x.Ok) (hmn:m.l.length < 4611686018427387904):call cx 55 [(.vsl s.nil (qg s.l) s.l.length),(.vsl m.nil (qg m.l) m.l.length)] [] = some ((.vsl (Ke s.l m.l).nil (qd (Ke s.l m.l).l) (Ke s.l m.l).l.length),[]):=by
 have hr:=qff m hmn;refine qq Tryz.func55 rfl ⟨rfl,rfl⟩ ?_;by_cases VM:s.l.length≤64
 case neg =>
  have ZL:(64:Int) < (s.l.length:Int):=by omega
  have hp:J8 s.l m.l = false:=by unfold J8;rw [decide_eq_false VM,ZX]
  rw [qhq hp];simp [Tryz.f55,ZL,Sl.none]
 have ZL:¬ (64:Int) < (s.l.length:Int):=by omega
 cases Kq:jE m.l with
 | false =>
  rw [Kq] at hr;have hp:J8 s.l m.l = false:=by unfold J8;rw [Kq,ZX,Bool.and_false]
  rw [qhq hp];simp [Tryz.f55,ZL,hr,Sl.none]
 | true =>
 rw [Kq] at hr;have hw0:IntKind.u64.wrap (s.l.length:Int) = (s.l.length:Int):=by rw [qS];omega
 have h0:=qhI s.l.length 2 (by decide) (by decide) (by omega);replace h0:call cx 87 [.int .u64 (s.l.length:Nat),.int .i64 2] [] = some (.vsl false (qd (qG 2 s.l.length)) 2,[]):=h0;have h0l:(qG 2 s.l.length).length = 2:=X1 _ _;have hsg:qd (Kj ++ qG 2 s.l.length) = .int .u8 68 :: .int .u8 66 :: .int .u8 65 :: .int .u8 84 :: qd (qG 2 s.l.length):=by rw [V6];rfl
 have hsl:(Kj ++ qG 2 s.l.length).length = 6:=by rw [qC,h0l];rfl
 have hC0:qcs s.l 0 (Kj ++ qG 2 s.l.length):=by simp [qcs]
 generalize Kj ++ qG 2 s.l.length = X0 at *;generalize qG 2 s.l.length = z0 at *;have htz:List.take 2 (qd z0) = qd z0:=qu (by simp [h0l]);simp [Tryz.f55,ZL,hr,hw0,h0,qF,h0l];refine Run.loopThen (fun (q:Nat × List UInt8) e H=>q.1≤s.l.length∧qcs s.l q.1 q.2∧(∀ x∈s.l.take q.1,zK x = true)∧(∃ d,qf e 5 = some d∧q1j q.2 d H)∧qf e 1 = some (.vsl m.nil (qg m.l) m.l.length)∧qf e 0 = some (.vsl s.nil (qg s.l) s.l.length)∧qf e 6 = some (.int .i64 (q.1:Nat))) (fun q=>s.l.length - q.1) (0,X0) ?_ ?_
 ·exact ⟨jg _,hC0,by simp,⟨_,by simp,6,hsl.symm,rfl,by rw [← hsg]⟩,by simp,by simp,by simp⟩
 rintro ⟨i,X⟩ e H ⟨hi,hX,hok,⟨d,k5,n,hn,rfl,rfl⟩,k1,k0,k6⟩;simp only at hi hX hok hn k6;have hnX:X.length = n:=hn.symm;have htX:List.take n (qd X) = qd X:=qu (by simp;omega);have hfl:=qyx (l:=s.l.take i) (fun x hx=>hs x (Jw hx)) hok
 have jA:X.length≤700000:=by
  rw [jn] at hfl;have:min i s.l.length * 10004≤64 * 10004:=qbA _ (by omega);unfold qcs at hX;rw [hX,qC,qC,X1];show 4+2+_≤_;omega
 by_cases qh:i < s.l.length
 ·have qk:(i:Int) < (s.l.length:Int):=by omega
  have hw:IntKind.i64.wrap ((i:Int)+1) = ((i+1:Nat):Int):=by rw [wrap_i64] <;> omega
  obtain ⟨x1,x2,x3⟩:=hs s.l[i] (vk qh);have t0:=qd1 s.l[i] x1 x3 x2;have t1:=qkc s.l[i] x1 x3 x2;have jZ:List.drop (i * 39) (qg s.l) = Enc.cells s.l[i] ++ qg (s.l.drop (i+1)):=It.ea qh;have htake:s.l.take (i+1) = s.l.take i ++ [s.l[i]]:=qbC qh;cases ho:zK s.l[i] with
  | false =>
   have hp:J8 s.l m.l = false:=by
    unfold J8
    have:s.l.all zK = false:=by
     cases h:s.l.all zK with
     | false=>rfl
     | true=>rw [Y3] at h;rw [h _ (vk qh)] at ho;cases ho
    rw [this,Bool.and_false,Bool.and_false]
   rw [qhq hp];rw [ho] at t0;generalize s.l[i] = x at *;simp [-It.ea,k5,k1,k0,k6,qk,Sl.nn qh,jZ,t0,Sl.none]
  | true =>
   rw [ho] at t0;unfold qbK at t1;rw [ho,if_pos rfl] at t1;obtain ⟨tl1,tl2⟩:=qgD x1 ho
   have hX2:qcs s.l (i+1) (X ++ qG 4 (zF s.l[i]).length ++ zF s.l[i]):=by
    unfold qcs at *;rw [hX,htake,List.flatMap_append];simp [YG]
   have hok2:∀ x∈s.l.take (i+1),zK x = true:=by
    intro x hx;rw [htake] at hx;rcases List.mem_append.1 hx with h | h
    ·exact hok x h
    ·rw [List.mem_singleton.1 h];exact ho
   have a1:=qhI (zF s.l[i]).length 4 (by decide) (by decide) (by omega);replace a1:call cx 87 [.int .u64 ((zF s.l[i]).length:Nat),.int .i64 4] [] = some (.vsl false (qd (qG 4 (zF s.l[i]).length)) 4,[]):=a1;have Zd:IntKind.u64.wrap ((zF s.l[i]).length:Int) = ((zF s.l[i]).length:Int):=(by rw [qS];omega);generalize zF s.l[i] = t at *;generalize s.l[i] = x at *;have zN:(qG 4 t.length).length = 4:=X1 _ _;generalize qG 4 t.length = z at *;have htz4:List.take 4 (qd z) = qd z:=qu (by simp [zN]);have hb1:n+4≤140737488355328:=(by omega);have zy:n+4+t.length≤140737488355328:=(by omega);simp [-It.ea,k5,k1,k0,k6,qk,Sl.nn qh,jZ,t0,t1,hw,Zd,qF,a1,hb1,zy,hnX,zN];exact ⟨i+1,by omega,by omega,_,hX2,hok2,⟨n+4+t.length,by rw [qC,qC,hnX,zN],rfl,by rw [V6,V6,ko]⟩,by omega⟩
 ·have qk:¬ (i:Int) < (s.l.length:Int):=by omega
  have vG:s.l.take i = s.l:=qu (by omega);rw [vG] at hok;have vc:s.l.all zK = true:=List.all_eq_true.2 hok;have hp:J8 s.l m.l = true:=by unfold J8;rw [decide_eq_true VM,Kq,vc];rfl
  have hb:=qkt m hmn hm;have hbS:Qi m.l = .of (JB m.l):=by unfold Qi;rw [Kq];rfl
  rw [hbS] at hb;have hraw:X ++ JB m.l = qaB s.l m.l:=by unfold qcs at hX;rw [hX,vG];unfold qaB;simp
  have hml:(JB m.l).length≤161:=by rw [ql8];have:=XU Kq;omega
  have hc:=qki (.of (X ++ JB m.l)) (by simp;omega)
  have hS:Ke s.l m.l = if (Qk (X ++ JB m.l)).length≤65536 then .of (Qk (X ++ JB m.l)) else .none:=by
   unfold Ke;rw [hp,hraw,vV];by_cases h:(Qk (qaB s.l m.l)).length≤65536
   ·rw [decide_eq_true h,if_pos rfl,if_pos h]
   ·rw [decide_eq_false h,if_neg (by decide),if_neg h]
  rw [hS];simp only [Sl.of_l,Sl.of_nil] at hc hb;generalize JB m.l = y at *;have hsl:=qbN (X ++ y);generalize Qk (X ++ y) = z at *;rw [V6,qC,hnX] at hc;have hmn2:n+y.length≤140737488355328:=by omega
  have qw:List.take (n+y.length) (qd X ++ qd y) = qd X ++ qd y:=qu (by simp;omega);by_cases h6:z.length≤65536
  ·have h6':¬ (65536:Int) < (z.length:Int):=(by omega);rw [if_pos h6];simp [k5,k1,k0,k6,qk,hb,hc,qF,h6',qw,hmn2,hnX]
  ·have h6':(65536:Int) < (z.length:Int):=(by omega);rw [if_neg h6];simp [k5,k1,k0,k6,qk,hb,hc,qF,h6',qw,hmn2,hnX,Sl.none]
theorem qtJ [MaxL] (s:Sl UInt8) (h2:s.l.length≤1000000):call cx 92 [(.vsl s.nil (qd s.l) s.l.length)] [] = some (.osl 0 s.l.length 0 s.l.length 1,[some (qd s.l)]):=by
 have hm:s.l.length≤140737488355328:=by omega
 refine qq Tryz.func92 rfl ⟨rfl,rfl⟩ ?_;simp [Tryz.f92,qF,hm]
theorem qtg {o:List UInt8} {j:Nat} (h:j < o.length) {x:Nat} (hx:x < 256):List.take j (qd o) ++ D.int .u8 (x:Int) :: List.drop (j+1) (qd o) = qd (o.set j (UInt8.ofNat x)):=by
 rw [List.set_eq_take_append_cons_drop,if_pos h,V6,YD,kr,Zb,VR hx]
def qoL (b:List UInt8) (q:D × qi):Prop:= ∃ o:List UInt8,o.length = b.length∧q = (.vsl false (qd o) o.length,[])
set_option maxHeartbeats 2000000 in
theorem qpZ [MaxL] (b:Sl UInt8) (hb:b.l.length≤100000) (nil:Bool) (zs:List Int) (qQ:nil = true→zs = []) (hz:zs.length≤1000000) (y:UInt8):∃ q,call cx 57 [(.vsl b.nil (qd b.l) b.l.length),.vsl nil (jb .i64 zs) zs.length,.int .u8 y.toNat] [] = some q∧qoL b.l q:=by
 refine vB (X:=cx) (f:=57) (args:=[(.vsl b.nil (qd b.l) b.l.length),.vsl nil (jb .i64 zs) zs.length,.int .u8 y.toNat]) (H:=[]) (qoL b.l) Tryz.func57 rfl ⟨rfl,rfl⟩ ?_;have c1:=qtJ b (by omega);simp [Tryz.f57,c1];refine Run.loopThen (fun (q:Nat × List UInt8) e H'=>q.1≤zs.length∧q.2.length = b.l.length∧H' = [some (qd q.2)]∧qf e 1 = some (.vsl nil (jb .i64 zs) zs.length)∧qf e 2 = some (.int .u8 (y.toNat:Nat))∧qf e 7 = some (.osl 0 b.l.length 0 b.l.length 1)∧qf e 8 = some (.int .i64 (q.1:Nat))) (fun q=>zs.length - q.1) (0,b.l) ⟨jg _,rfl,by simp,by simp,by simp,by simp,by simp⟩ ?_;rintro ⟨k,o⟩ e H' ⟨hk,ho,rfl,k1,k2,k7,k8⟩;simp only at hk ho k8;by_cases qh:k < zs.length
 ·have qk:(k:Int) < (zs.length:Int):=by omega
  have Ks:nil = false:=by
   cases nil with
   | false=>rfl
   | true=>rw [qQ rfl] at qh;exact absurd qh (Nat.not_lt_zero _)
  have hw:IntKind.i64.wrap ((k:Int)+1) = ((k+1:Nat):Int):=by rw [wrap_i64] <;> omega
  have qU:=qhW (k:=.i64) qh;by_cases h0:0 < b.l.length
  ·obtain ⟨j,hj,c2⟩:=ql0 zs[k] b.l.length (by omega) (by omega);have hjo:j < o.length:=(by omega);have hx:=qpa (a:=o[j].toNat) (b:=y.toNat) (UInt8.toNat_lt _) (UInt8.toNat_lt _);have hat2:=jo hjo;have hjb:j < b.l.length:=(by omega);have hj1:j+1≤b.l.length:=(by omega);have hput:=qtg hjo (x:=o[j].toNat ^^^ y.toNat) (Nat.xor_lt_two_pow (n:=8) (UInt8.toNat_lt _) (UInt8.toNat_lt _));simp [k1,k2,k7,k8,qk,hw,qU,Ks,h0,c2,hx,hat2,hjb,ho,hj1,hput];exact ⟨k+1,by omega,by omega,_,by simp [ho],rfl,by omega⟩
  ·have jH:b.l.length = 0:=(by omega);have ho0:o = []:=VV (by omega);subst ho0;simp [k1,k2,k7,k8,qk,jH];exact ⟨[],by rw [jH];rfl,rfl⟩
 ·have qk:¬ (k:Int) < (zs.length:Int):=by omega
  have qw:List.take b.l.length (qd o) = qd o:=qu (by simp [ho]);simp [k1,k2,k7,k8,qk,qw,ho];exact ⟨o,ho,by rw [ho]⟩
theorem qa3 (z:Int):qy (IntKind.u64.wrap z):=by
 simp only [IntKind.wrap,IntKind.signed,IntKind.bits];simp;unfold qy;omega
def Jv (f:List Mk):Prop:= ∀ m∈f,m.Ok
theorem qkr (v n:Int):qy (QI v n):=by
 unfold QI;split
 ·unfold kO qy;decide
 ·exact qa3 _
theorem qkd {m:Mk} {x:It} (hm:m.Ok) (hx:x.Ok) (o:Bool):(J3 m x o).Ok:=by
 unfold J3;split
 ·exact ⟨hx.til,qkr _ _,hm.over⟩
 ·refine ⟨hx.rc.seq,hm.lost,?_⟩;simp only;split
  ·exact qkr _ _
  ·exact hm.over
theorem qkg (m:Mk):∀ (l:List Mk) (i:Bool) (y:Mk),y∈(ji m l i).1→y = m∨y∈l
 | [],i,y,h=>by simp [ji] at h
 | a :: l,i,y,h=>by
  have ih:=qkg m l;simp only [ji,qbD] at h;rcases h with (h | h) | h
  ·split at h
   ·exact .inl (List.mem_singleton.1 h)
   ·cases h
  ·split at h
   ·exact .inr (List.mem_cons.2 (.inl (List.mem_singleton.1 h)))
   ·cases h
  ·rcases ih _ _ h with h | h
   ·exact .inl h
   ·exact .inr (vu _ h)
theorem qdz {f:List Mk} {x:It} (hf:Jv f) (hx:x.Ok) (o:Bool):Jv (XT f x o):=by
 intro y hy;unfold XT Zo at hy;rcases List.mem_append.1 hy with h | h
 ·rcases qkg _ _ _ _ h with rfl | h
  ·exact qkd (qio hf x.id) hx o
  ·exact hf y h
 ·split at h
  ·cases h
  ·rw [List.mem_singleton.1 h];exact qkd (qio hf x.id) hx o
theorem qqQ {f:List Mk} {x:It} {o:Bool} (h:Y6 f x o = 0):(XT f x o).length≤9:=by
 have hr:jE f = true:=by
  cases hc:jE f with
  | true=>rfl
  | false =>
   unfold Y6 J4 at h;simp [hc] at h
 have h4:=XU hr;unfold XT Zo;have:=qfc (J3 (zJ f x.id) x o) f false;rw [qC];split <;> simp <;> omega
theorem qsl (l:List It) (m:List Mk):(Ke l m).l.length≤65536:=by
 unfold Ke;split
 ·rename_i h;rw [qR,decide_eq_true_eq] at h;simpa using h.2
 ·simp
@[simp] theorem It.s17 (m:It) (x:Int):qE (Enc.cells m) 17 [.int .u64 x] = Enc.cells { m with fr:=x }:=by simp [qE,It.cells,zV,qA,zA,qu]
@[simp] theorem It.s18 (m:It) (x:Int):qE (Enc.cells m) 18 [.int .u64 x] = Enc.cells { m with til:=x }:=by simp [qE,It.cells,zV,qA,zA,qu]
@[simp] theorem It.s19 (m:It) (x:Int):qE (Enc.cells m) 19 [.int .u64 x] = Enc.cells { m with rc:={ m.rc with seq:=x } }:=by simp [qE,It.cells,zV,qA,zA,qu]
def JC (it:It) (n:Int):It:=if it.gap then { it with fr:=IntKind.u64.wrap (it.fr+n),til:=IntKind.u64.wrap (it.til+n) } else { it with rc:={ it.rc with seq:=IntKind.u64.wrap (it.rc.seq+n) } }
theorem qul [MaxL] (it:It) (n:Int):call cx 53 [.agg (Enc.cells it),.int .u64 n] [] = some (.agg (Enc.cells (JC it n)),[]):=by
 refine qq Tryz.func53 rfl ⟨rfl,rfl⟩ ?_;unfold JC;cases hg:it.gap with
 | true =>
  simp [Tryz.f53,hg]
 | false =>
  simp [Tryz.f53,hg]
theorem qum {it:It} {n:Int} (h:it.Ok∧it.rc.fields.l.length < 1000000∧∀ p∈it.rc.fields.l,Qv p):(JC it n).Ok∧(JC it n).rc.fields.l.length < 1000000∧∀ p∈(JC it n).rc.fields.l,Qv p:=by
 obtain ⟨h1,h2,h3⟩:=h;unfold JC;split
 ·exact ⟨⟨qa3 _,qa3 _,h1.rc⟩,h2,h3⟩
 ·exact ⟨⟨h1.fr,h1.til,⟨qa3 _,h1.rc.real,h1.rc.mono⟩⟩,h2,h3⟩
def Ku (s:RSt) (e:Int):RSt:=if s.ep < e then ⟨e,0,s.its,s.mks⟩ else s
theorem qov (l:List Mk):(Qi l).l.length≤1000:=by
 unfold Qi;split
 ·rename_i h;have:=XU h;rw [Sl.of_l,ql8];omega
 ·simp
def vd (s:RSt) (q:Rq):Int × Sl UInt8 × RSt :=
 if q.epoch < s.ep then (409,.none,s)
 else if q.path = jJ then (if 0 < q.body.l.length then (400,.none,s) else (200,Qi s.mks.l,Ku s q.epoch))
 else ((jt s q).1,.none,(jt s q).2)
def kH (s:RSt) (b:List UInt8):Sl UInt8 × RSt :=
 if (vN b).2≠0 then (Qz ⟨400,0,0,.none⟩,s)
 else (Qz ⟨(vd s (vN b).1).1,(vd s (vN b).1).2.2.ep,(vN b).1.number,(vd s (vN b).1).2.1⟩,(vd s (vN b).1).2.2)
structure RInv (s:RSt) (n:Nat):Prop where
 ep:qy s.ep
 la:qy s.la
 ok:Jv s.mks.l
 len:s.mks.l.length≤4
 right:jE s.mks.l = true
 its:∀ x∈s.its,GotI x
 num:s.its.length≤n
theorem RInv.more {s:RSt} {n m:Nat} (h:RInv s n) (ZB:n≤m):RInv s m:=⟨h.ep,h.la,h.ok,h.len,h.right,h.its,kn h.num ZB⟩
theorem qr2:RInv ⟨0,0,[],.none⟩ 0:=⟨by constructor <;> decide,by constructor <;> decide,fun m hm=>(by cases hm),by simp,rfl,fun x hx=>(by cases hx),by simp⟩
theorem qyc {b:List UInt8} {l:List It} {m:List Mk} (hb:b.length≤65536) (h:vK b = (l,m,0)):jE m = true:=by
 have h1:=(qfV hb h).1;unfold Ke at h1;by_cases hc:(J8 l m && decide ((Qk (qaB l m)).length≤65536)) = true
 ·rw [qR] at hc;have:=hc.1;unfold J8 at this;simp only [qR] at this;exact this.2.1
 ·rw [if_neg hc] at h1;have:=congrArg Sl.nil h1;simp at this
theorem qiU (s:RSt) (q:Rq) (_:q.body.l.length≤65536):((jt s q).2 = s∧((jt s q).1 = 400∨(jt s q).1 = 409))∨((jt s q).2 = s∧(jt s q).1 = 200∧q.epoch≤s.ep∧q.number = s.la∧q.number≠0) ∨
  ∃ l m t,vK q.body.l = (l,m,0)∧vt l s.mks.l = some t∧vZ t m = true∧vZ s.mks.l m = true∧q.epoch≤s.ep∧q.number≠0∧jt s q = (200,⟨s.ep,q.number,s.its ++ l,Sl.grown m⟩):=by
 unfold jt;by_cases h1:s.ep < q.epoch
 ·rw [if_pos h1];exact .inl ⟨rfl,.inr rfl⟩
 rw [if_neg h1];by_cases h2:q.number = s.la∧q.number≠0
 ·rw [if_pos h2];exact .inr (.inl ⟨rfl,rfl,by omega,h2.1,h2.2⟩)
 rw [if_neg h2];by_cases h3:q.number≠IntKind.u64.wrap (s.la+1)∨q.number = 0
 ·rw [if_pos h3];exact .inl ⟨rfl,.inr rfl⟩
 rw [if_neg h3];obtain ⟨⟨l,m,c⟩,hg⟩:∃ g,g = vK q.body.l:=⟨_,rfl⟩;rw [← hg];unfold qau;simp only;by_cases hc:c = 0
 case neg =>
  rw [if_pos hc];exact .inl ⟨rfl,.inl rfl⟩
 subst hc;rw [if_neg (fun h=>h rfl)];cases hf:vt l s.mks.l with
 | none=>exact .inl ⟨rfl,.inl rfl⟩
 | some t =>
  simp only;by_cases hle:(vZ t m && vZ s.mks.l m) = true
  ·rw [if_pos hle];rw [qR] at hle;exact .inr (.inr ⟨l,m,t,rfl,hf,hle.1,hle.2,by omega,fun h=>h3 (.inr h),rfl⟩)
  ·rw [if_neg hle];exact .inl ⟨rfl,.inl rfl⟩
theorem q0C {s:RSt} {n:Nat} (h:RInv s n) (q:Rq) (hb:q.body.l.length≤65536) (hq:qy q.number):RInv (jt s q).2 (n+64):=by
 rcases qiU s q hb with ⟨h1,_⟩ | ⟨h1,_⟩ | ⟨l,m,t,hg,hf,zT,jr,_,_,h1⟩
 ·rw [h1];exact h.more (by omega)
 ·rw [h1];exact h.more (by omega)
 ·rw [h1];obtain ⟨h2,h3,h4,h5,h6⟩:=qfV hb hg;refine ⟨h.ep,hq,h4,h6,qyc hb hg,fun x hx=>?_,?_⟩
  ·rcases List.mem_append.1 hx with hx | hx
   ·exact h.its x hx
   ·exact h3 x hx
  ·have:=h.num;simp only [qC];omega
theorem qm5 {s:RSt} {n:Nat} (h:RInv s n) {e:Int} (he:qy e):RInv (Ku s e) n:=by
 unfold Ku;by_cases hc:s.ep < e
 ·rw [if_pos hc];exact ⟨he,by constructor <;> (simp only;decide),h.ok,h.len,h.right,h.its,h.num⟩
 ·rw [if_neg hc];exact h
theorem qoE {s:RSt} {n:Nat} (h:RInv s n) (q:Rq) (hb:q.body.l.length≤65536) (he:qy q.epoch) (hq:qy q.number):RInv (vd s q).2.2 (n+64):=by
 unfold vd
 repeat' split
 ·exact h.more (by omega)
 ·exact h.more (by omega)
 ·exact (qm5 h he).more (by omega)
 ·exact q0C h q hb hq
theorem qc2 {n:Nat} (h:n < 18446744073709551616):qy (n:Int):=⟨by omega,by omega⟩
theorem qxQ {s:RSt} {n:Nat} (h:RInv s n) (b:List UInt8):RInv (kH s b).2 (n+64):=by
 unfold kH;by_cases hc:(vN b).2 = 0
 ·rw [if_neg (fun h=>h hc)];obtain ⟨p,x,y,body,hp,hq,_,hx,hy,hl⟩:=qdB hc;rw [hq];exact qoE h _ (by simpa using hl) (qc2 hx) (qc2 hy)
 ·rw [if_pos hc];exact h.more (by omega)
theorem qqs [MaxL] (s:RSt) (hm:s.mks.l.length≤4) (hok:Jv s.mks.l) (d:D) (T:qi) (zW:VS s.its d T) (e n:Int) (o:Sl UInt8) :
  call cx 35 [.optr 0 4 0,.agg [.str jJ,.int .u64 e,.int .u64 n,(.vsl o.nil (qd o.l) o.l.length)]] (some (s.A d) :: T) = some (if 0 < o.l.length then .tup [.int .i64 400,.vsl true [] 0] else .tup [.int .i64 200,(.vsl (Qi s.mks.l).nil (qd (Qi s.mks.l).l) (Qi s.mks.l).l.length)],some ((if 0 < o.l.length then s else Ku s e).A d) :: T):=by
 have h1:=q0l s.mks (by omega) hok;obtain ⟨ep,la,its,mk⟩:=s;unfold Ku;simp only [RSt.A] at zW h1 hm ⊢;generalize Qi mk.l = z at *;obtain ⟨on,ho⟩:∃ on,o.l.length = on:=⟨_,rfl⟩;rcases zW with ⟨rfl,rfl,rfl⟩ | ⟨qr,n1,k1,zM,hk1,rfl,rfl⟩
 ·by_cases h0:0 < on
  ·have Qg:(0:Int) < (on:Int):=(by omega);rw [ho,if_pos h0,if_pos h0];refine qq Tryz.func35 rfl ⟨rfl,rfl⟩ ?_;simp [Tryz.f35,h0]
  ·have Qg:on = 0:=(by omega);rw [ho,if_neg h0,if_neg h0];refine qq Tryz.func35 rfl ⟨rfl,rfl⟩ ?_;by_cases h:ep < e
   ·simp [Tryz.f35,h1,h,Qg]
   ·simp [Tryz.f35,h1,h,Qg]
 ·by_cases h0:0 < on
  ·have Qg:(0:Int) < (on:Int):=(by omega);rw [ho,if_pos h0,if_pos h0];refine qq Tryz.func35 rfl ⟨rfl,rfl⟩ ?_;simp [Tryz.f35,h0]
  ·have Qg:on = 0:=(by omega);rw [ho,if_neg h0,if_neg h0];refine qq Tryz.func35 rfl ⟨rfl,rfl⟩ ?_;by_cases h:ep < e
   ·simp [Tryz.f35,h1,h,Qg]
   ·simp [Tryz.f35,h1,h,Qg]
set_option maxHeartbeats 2000000 in
theorem qxP [MaxL] {s:RSt} {N:Nat} (hI:RInv s N) (hN:N≤100000) (d:D) (T:qi) (zW:VS s.its d T) (b:Sl UInt8) (hb:b.l.length≤90000) :
  ∃ r,call cx 12 [.optr 0 4 0,(.vsl b.nil (qd b.l) b.l.length)] (some (s.A d) :: T) = some r∧HearQ (kH s b.l).2 (kH s b.l).1 r:=by
 have h1:=qkO b hb;have hm:=hI.len;have vG:=hI.num;by_cases hc:(vN b.l).2 = 0
 case neg =>
  have hS:kH s b.l = (Qz ⟨400,0,0,.none⟩,s):=by unfold kH;rw [if_pos hc]
  rw [hS];have h2:=qdE ⟨400,0,0,.none⟩ ⟨by simp,by simp⟩ ⟨by simp,by simp⟩ (by simp);generalize (vN b.l).2 = c at *;generalize (vN b.l).1 = q0 at *;obtain ⟨p,e,n,o⟩:=q0;obtain ⟨ep,la,its,mk⟩:=s;simp only [Rq.cells,Rs.cells,RSt.A] at h1 h2 zW ⊢
  try simp at h2
  generalize Qz ⟨400,0,0,.none⟩ = z at *;rcases zW with ⟨rfl,rfl,rfl⟩ | ⟨qr,n1,k1,zM,hk1,rfl,rfl⟩
  ·refine vB (X:=cx) (f:=12) (args:=[.optr 0 4 0,(.vsl b.nil (qd b.l) b.l.length)]) (H:=[some [.int .u64 ep,.int .u64 la,.vsl true [] 0,(.vsl mk.nil (qg mk.l) mk.l.length)]]) (HearQ ⟨ep,la,[],mk⟩ z) Tryz.func12 rfl ⟨rfl,rfl⟩ ?_;simp [Tryz.f12,h1,h2,hc];exact HearQ.mk (.inl ⟨rfl,rfl,rfl⟩)
  ·refine vB (X:=cx) (f:=12) (args:=[.optr 0 4 0,(.vsl b.nil (qd b.l) b.l.length)]) (H:=[some [.int .u64 ep,.int .u64 la,.osl 1 n1 0 k1 39,(.vsl mk.nil (qg mk.l) mk.l.length)],some (qg its)]) (HearQ ⟨ep,la,its,mk⟩ z) Tryz.func12 rfl ⟨rfl,rfl⟩ ?_;simp [Tryz.f12,h1,h2,hc];exact HearQ.mk (.inr ⟨qr,n1,k1,zM,hk1,rfl,rfl⟩)
 obtain ⟨p,x,y,body,hp,hq,_,hx,hy,hl⟩:=qdB hc
 have hS:kH s b.l = (Qz ⟨(vd s ⟨p,x,y,.of body⟩).1,(vd s ⟨p,x,y,.of body⟩).2.2.ep,y,(vd s ⟨p,x,y,.of body⟩).2.1⟩,(vd s ⟨p,x,y,.of body⟩).2.2):=by
  unfold kH;rw [if_neg (fun h=>h hc),hq]
 have ux:=qc2 hx;have uy:=qc2 hy;have hr:vN b.l = (⟨p,x,y,.of body⟩,0):=by rw [← hq,← hc]
 by_cases qh:(x:Int) < s.ep
 ·have hA:vd s ⟨p,x,y,.of body⟩ = (409,.none,s):=by unfold vd;rw [if_pos qh]
  rw [hA] at hS;simp only at hS;rw [hS];rw [hr] at h1;have h2:=qdE ⟨409,s.ep,y,.none⟩ hI.ep uy (by simp);obtain ⟨ep,la,its,mk⟩:=s;simp only [Rq.cells,Rs.cells,RSt.A] at h1 h2 zW qh ⊢
  try simp at h2
  generalize Qz ⟨409,ep,y,.none⟩ = z at *;obtain ⟨o,ho⟩:∃ o,o = Sl.of body:=⟨_,rfl⟩;rw [← ho] at h1;rcases zW with ⟨rfl,rfl,rfl⟩ | ⟨qr,n1,k1,zM,hk1,rfl,rfl⟩
  ·refine vB (X:=cx) (f:=12) (args:=[.optr 0 4 0,(.vsl b.nil (qd b.l) b.l.length)]) (H:=[some [.int .u64 ep,.int .u64 la,.vsl true [] 0,(.vsl mk.nil (qg mk.l) mk.l.length)]]) (HearQ ⟨ep,la,[],mk⟩ z) Tryz.func12 rfl ⟨rfl,rfl⟩ ?_;simp [Tryz.f12,h1,h2,qh];exact HearQ.mk (.inl ⟨rfl,rfl,rfl⟩)
  ·refine vB (X:=cx) (f:=12) (args:=[.optr 0 4 0,(.vsl b.nil (qd b.l) b.l.length)]) (H:=[some [.int .u64 ep,.int .u64 la,.osl 1 n1 0 k1 39,(.vsl mk.nil (qg mk.l) mk.l.length)],some (qg its)]) (HearQ ⟨ep,la,its,mk⟩ z) Tryz.func12 rfl ⟨rfl,rfl⟩ ?_;simp [Tryz.f12,h1,h2,qh];exact HearQ.mk (.inr ⟨qr,n1,k1,zM,hk1,rfl,rfl⟩)
 rcases hp with rfl | rfl
 case inr =>
  have hA:vd s ⟨js,x,y,.of body⟩ = ((jt s ⟨js,x,y,.of body⟩).1,.none,(jt s ⟨js,x,y,.of body⟩).2):=by
   unfold vd;rw [if_neg qh,if_neg (show ¬ js = jJ by decide)]
  rw [hA] at hS;rw [hS,qo7];exact qxO s (by omega) (by omega) d T zW b hb x y (.of body) hr qh hI.ep uy (by simp;omega)
 have hh:=qqs s hm hI.ok d T zW x y (.of body);have Zk:=qov s.mks.l;have hs:(jJ == [47,104,101,108,108,111]) = true:=by decide
 rw [hr] at h1;by_cases h0:0 < body.length
 ·have hA:vd s ⟨jJ,x,y,.of body⟩ = (400,.none,s):=by
   unfold vd;rw [if_neg qh,if_pos rfl,if_pos (by simpa using h0)]
  rw [hA] at hS;simp only at hS;rw [hS];have Qg:0 < (Sl.of body).l.length:=h0;rw [if_pos Qg,if_pos Qg] at hh;have h2:=qdE ⟨400,s.ep,y,.none⟩ hI.ep uy (by simp);obtain ⟨ep,la,its,mk⟩:=s;simp only [Rq.cells,Rs.cells,RSt.A] at h1 h2 hh zW qh ⊢
  try simp at h2
  generalize Qz ⟨400,ep,y,.none⟩ = z at *;obtain ⟨o,ho⟩:∃ o,o = Sl.of body:=⟨_,rfl⟩;rw [← ho] at h1 hh;rcases zW with ⟨rfl,rfl,rfl⟩ | ⟨qr,n1,k1,zM,hk1,rfl,rfl⟩
  ·refine vB (X:=cx) (f:=12) (args:=[.optr 0 4 0,(.vsl b.nil (qd b.l) b.l.length)]) (H:=[some [.int .u64 ep,.int .u64 la,.vsl true [] 0,(.vsl mk.nil (qg mk.l) mk.l.length)]]) (HearQ ⟨ep,la,[],mk⟩ z) Tryz.func12 rfl ⟨rfl,rfl⟩ ?_;simp [Tryz.f12,h1,h2,hh,qh,hs];exact HearQ.mk (.inl ⟨rfl,rfl,rfl⟩)
  ·refine vB (X:=cx) (f:=12) (args:=[.optr 0 4 0,(.vsl b.nil (qd b.l) b.l.length)]) (H:=[some [.int .u64 ep,.int .u64 la,.osl 1 n1 0 k1 39,(.vsl mk.nil (qg mk.l) mk.l.length)],some (qg its)]) (HearQ ⟨ep,la,its,mk⟩ z) Tryz.func12 rfl ⟨rfl,rfl⟩ ?_;simp [Tryz.f12,h1,h2,hh,qh,hs];exact HearQ.mk (.inr ⟨qr,n1,k1,zM,hk1,rfl,rfl⟩)
 have hA:vd s ⟨jJ,x,y,.of body⟩ = (200,Qi s.mks.l,Ku s x):=by
  unfold vd;rw [if_neg qh,if_pos rfl,if_neg (by simpa using h0)]
 rw [hA] at hS;simp only at hS;rw [hS];have Qg:¬ 0 < (Sl.of body).l.length:=h0;rw [if_neg Qg,if_neg Qg] at hh;have XA:=(qm5 hI ux).ep;have hii:(Ku s x).its = s.its:=by unfold Ku;split <;> rfl
 have h2:=qdE ⟨200,(Ku s x).ep,y,Qi s.mks.l⟩ XA uy (by simp only;omega);generalize Ku s x = s' at *;obtain ⟨ep,la,its,mk⟩:=s;obtain ⟨ep',la',its',mk'⟩:=s';simp only at hii;subst hii;simp only [Rq.cells,Rs.cells,RSt.A] at h1 h2 hh zW qh ⊢;generalize Qz ⟨200,ep',y,Qi mk.l⟩ = z at *;generalize Qi mk.l = w at *;obtain ⟨o,ho⟩:∃ o,o = Sl.of body:=⟨_,rfl⟩;rw [← ho] at h1 hh;rcases zW with ⟨rfl,rfl,rfl⟩ | ⟨qr,n1,k1,zM,hk1,rfl,rfl⟩
 ·refine vB (X:=cx) (f:=12) (args:=[.optr 0 4 0,(.vsl b.nil (qd b.l) b.l.length)]) (H:=[some [.int .u64 ep,.int .u64 la,.vsl true [] 0,(.vsl mk.nil (qg mk.l) mk.l.length)]]) (HearQ ⟨ep',la',[],mk'⟩ z) Tryz.func12 rfl ⟨rfl,rfl⟩ ?_;simp [Tryz.f12,h1,h2,hh,qh,hs];exact HearQ.mk (.inl ⟨rfl,rfl,rfl⟩)
 ·refine vB (X:=cx) (f:=12) (args:=[.optr 0 4 0,(.vsl b.nil (qd b.l) b.l.length)]) (H:=[some [.int .u64 ep,.int .u64 la,.osl 1 n1 0 k1 39,(.vsl mk.nil (qg mk.l) mk.l.length)],some (qg its')]) (HearQ ⟨ep',la',its',mk'⟩ z) Tryz.func12 rfl ⟨rfl,rfl⟩ ?_;simp [Tryz.f12,h1,h2,hh,qh,hs];exact HearQ.mk (.inr ⟨qr,n1,k1,zM,hk1,rfl,rfl⟩)
theorem qrh [MaxL] (s:Sl UInt8) (hs:s.l.length < 1000000):call cx 118 [(.vsl s.nil (qd s.l) s.l.length)] [] = some (.tup [.agg (Enc.cells (KK s.l)),.int .i64 (V5 s.l:Nat),.int .i64 (J7 s.l)],[]):=by
 have h:=qrg s hs
 rwa [qrS,qkK] at h
def q1q (out:List It) (d:D) (H:qi):Prop:=(out = []∧d = .vsl true [] 0∧H = [])∨(out≠[]∧∃ n k,n = out.length * 39∧k = out.length∧((∃ t u,d = .osl 2 n 0 k 39∧H = [some t,some u,some (qg out)])∨(∃ t u,d = .osl 0 n 0 k 39∧H = [some (qg out),some t,some u])))
theorem qrZ {b:List UInt8} {l:List Mk} (h:vf b = (l,0)):l.length≤4:=by
 cases b with
 | nil=>cases h
 | cons c r =>
  unfold vf at h;simp only at h;split at h
  ·cases h
  ·rename_i h4;obtain ⟨l',e1,e2,e3,e4,e5,e6⟩:=qhn c.toNat r [] l rfl (fun m hm=>by cases hm) h;rw [e1,ZU];omega
set_option maxHeartbeats 4000000 in
set_option maxRecDepth 4000 in
theorem qr5 [MaxL] (b:Sl UInt8) (hn:b.l.length < 1000000):call cx 80 [(.vsl b.nil (qd b.l) b.l.length)] [] = some (jh (vK b.l),[]):=by
 have je:=qrs b (by omega);refine qq Tryz.func80 rfl ⟨rfl,rfl⟩ ?_;unfold qcE at je;by_cases h4:b.l.length < 4
 ·have hg:vK b.l = ([],[],22):=by unfold vK;rw [if_pos h4]
  rw [if_pos h4] at je;rw [hg];simp [Tryz.f80,je,jh,Sl.grown]
 rw [if_neg h4] at je;cases hs:XQ b.l with
 | false =>
  have hg:vK b.l = ([],[],19):=by unfold vK;rw [if_neg h4,hs];rfl
  rw [hs,if_neg (by decide)] at je;rw [hg];simp [Tryz.f80,je,jh,Sl.grown]
 | true =>
 have hg:vK b.l = qaj (b.l.take (b.l.length - 4)):=by unfold vK;rw [if_neg h4,hs];rfl
 rw [hs,if_pos rfl] at je;rw [hg];have hxl:(b.l.take (b.l.length - 4)).length < 1000000:=by rw [jn];omega
 generalize b.l.take (b.l.length - 4) = x at *;simp only [Sl.of_l,Sl.of_nil] at je;clear hg hs h4;unfold qaj;by_cases hx4:x.length < 4
 ·have Kl:(x.length:Int) < 4:=by omega
  rw [if_pos hx4];simp [Tryz.f80,je,jh,Sl.grown,Kl]
 rw [if_neg hx4];have Kl:¬ (x.length:Int) < 4:=by omega
 have hx4n:4≤x.length:=by omega
 have hx4i:(4:Int)≤(x.length:Int):=by omega
 have qw:List.take 4 (qd x) = qd (x.take 4):=kr _ _;have htl4:(x.take 4).length = 4:=by rw [jn];omega
 have hpk:pre Kj x = true↔x.take 4 = [68,66,65,84]:=by
  unfold pre Kj;simp
 cases hp:pre Kj x with
 | false =>
  have qr:¬ x.take 4 = [68,66,65,84]:=fun h=>by rw [hpk.2 h] at hp;cases hp
  rw [if_neg (by decide)];generalize x.take 4 = x4 at *;simp [Tryz.f80,je,jh,Sl.grown,Kl,hx4i,qw,qr,htl4]
 | true =>
 have hsg:=hpk.1 hp;rw [if_pos rfl];by_cases hx6:x.length < 6
 ·rw [if_pos hx6];have jr:=qr8 (.of x) 4 (by rw [Sl.of_l];omega) (by rw [Sl.of_l];omega) (by rw [Sl.of_l];omega);replace jr:call cx 117 [.vsl false (qd x) x.length,.int .i64 4,.int .i64 2] [] = some (.tup [.int .u64 0,.bool false],[]):=jr;simp [Tryz.f80,je,jh,Sl.grown,Kl,hx4i,qw,hsg,jr]
 rw [if_neg hx6];have jr:=qr9 (.of x) 4 (by rw [Sl.of_l];omega) (by rw [Sl.of_l];omega);replace jr:call cx 117 [.vsl false (qd x) x.length,.int .i64 4,.int .i64 2] [] = some (.tup [.int .u64 (leN ((x.drop 4).take 2):Nat),.bool true],[]):=jr;generalize leN ((x.drop 4).take 2) = many at *;by_cases VM:64 < many
 ·rw [if_pos VM];have ZL:(64:Int) < (many:Int):=by omega
  simp [Tryz.f80,je,jh,Sl.grown,Kl,hx4i,qw,hsg,jr,ZL]
 rw [if_neg VM];have ZL:¬ (64:Int) < (many:Int):=by omega
 obtain ⟨G,hG⟩:∃ G,Zz many (x.drop 6) [] = G:=⟨_,rfl⟩;rw [hG];simp [Tryz.f80,je,Kl,hx4i,qw,hsg,jr,ZL];refine Run.loopThen (fun (q:Nat × Nat × List It) e H=>q.1≤many∧Zz (many - q.1) (x.drop q.2.1) q.2.2 = G∧q.2.2.length = q.1∧q.2.1≤x.length∧qf e 5 = some (.vsl false (qd x) x.length)∧(∃ d,qf e 9 = some d∧q1q q.2.2 d H)∧qf e 7 = some (.int .u64 (many:Nat))∧qf e 10 = some (.int .i64 (q.2.1:Nat))∧qf e 11 = some (.int .i64 (q.1:Nat))) (fun q=>many - q.1) (0,6,[]) ?_ ?_
 ·exact ⟨jg _,hG,rfl,(by omega:6≤x.length),by simp,⟨_,by simp,.inl ⟨rfl,rfl,rfl⟩⟩,by simp,by simp,by simp⟩
 rintro ⟨i,a,out⟩ e H ⟨hi,hR,ho,kx,k5,⟨d,k9,hH⟩,k7,k10,k11⟩;simp only at hi hR ho kx hH k10 k11
 have QS:(out = []∧d = .vsl true [] 0∧H = [])∨(∃ n k,n = out.length * 39∧k = out.length∧out≠[]∧List.take n (qg out) = qg out∧k * 39 = n∧k≤64∧((∃ t u,d = .osl 2 n 0 k 39∧H = [some t,some u,some (qg out)])∨(∃ t u,d = .osl 0 n 0 k 39∧H = [some (qg out),some t,some u]))):=by
  rcases hH with h | ⟨qr,n,k,hn,hk,h⟩
  ·exact .inl h
  ·exact .inr ⟨n,k,hn,hk,qr,qu (by simp;omega),by omega,by omega,h⟩
 clear hH;have Qp:IntKind.i64.wrap (many:Int) = (many:Int):=by rw [wrap_i64];omega
 by_cases qh:i < many
 ·have hw:IntKind.i64.wrap ((i:Int)+1) = ((i+1:Nat):Int):=by rw [wrap_i64] <;> omega
  rw [show many - i = (many - (i+1))+1 by omega,Zz] at hR;have vR:(x.drop a).length = x.length - a:=jQ ..;have hk:=qlX (x.drop a);by_cases hr4:(x.drop a).length < 4
  ·rw [if_pos (.inl hr4)] at hR;have zN:=qr7 (.of x) a (by rw [Sl.of_l];omega) (by rw [Sl.of_l];omega) (by rw [Sl.of_l];omega);simp only [Sl.of_l,Sl.of_nil] at zN;subst hR;rcases QS with ⟨rfl,rfl,rfl⟩ | ⟨nn,kk,hnn,hkk,qr,qaX,zh,Vj,⟨tt,uu,rfl,rfl⟩ | ⟨tt,uu,rfl,rfl⟩⟩
   ·simp [k5,k9,k7,k10,k11,Qp,qh,zN,jh,Sl.grown]
   all_goals
    have qZ:out.length = kk:=hkk.symm;simp [k5,k9,k7,k10,k11,Qp,qh,zN,jh,Sl.grown]
  have zN:=qk4 (.of x) a (by rw [Sl.of_l];omega) (by rw [Sl.of_l];omega);simp only [Sl.of_l,Sl.of_nil] at zN;obtain ⟨n,JI⟩:∃ n,leN ((x.drop a).take 4) = n:=⟨_,rfl⟩;rw [JI] at zN hR hk;have Q7:IntKind.i64.wrap ((x.length:Int) - (a:Int)) = ((x.length - a:Nat):Int):=by rw [wrap_i64] <;> omega
  have qaW:IntKind.i64.wrap (((x.length - a:Nat):Int) - 4) = ((x.length - a - 4:Nat):Int):=by rw [wrap_i64] <;> omega
  have vx:IntKind.u64.wrap ((x.length - a - 4:Nat):Int) = ((x.length - a - 4:Nat):Int):=by rw [qS] <;> omega
  by_cases hbig:(x.drop a).length - 4 < n
  ·rw [if_pos (.inr hbig)] at hR;have Qd:((x.length - a - 4:Nat):Int) < (n:Int):=(by omega);generalize x.length - a - 4 = c4 at *;generalize x.length - a = c0 at *;subst hR;rcases QS with ⟨rfl,rfl,rfl⟩ | ⟨nn,kk,hnn,hkk,qr,qaX,zh,Vj,⟨tt,uu,rfl,rfl⟩ | ⟨tt,uu,rfl,rfl⟩⟩
   ·simp [k5,k9,k7,k10,k11,Qp,qh,zN,Q7,qaW,vx,Qd,jh,Sl.grown]
   all_goals
    have qZ:out.length = kk:=hkk.symm;simp [k5,k9,k7,k10,k11,Qp,qh,zN,Q7,qaW,vx,Qd,jh,Sl.grown]
  rw [if_neg (by omega)] at hR;have Qd:¬ ((x.length - a - 4:Nat):Int) < (n:Int):=by omega
  have qY:a+4+n≤x.length:=by omega
  have w1:IntKind.i64.wrap ((a:Int)+4) = ((a+4:Nat):Int):=by rw [wrap_i64] <;> omega
  have w2:IntKind.i64.wrap (n:Int) = (n:Int):=by rw [wrap_i64];omega
  have w3:IntKind.i64.wrap (((a+4:Nat):Int)+(n:Int)) = ((a+4+n:Nat):Int):=by rw [wrap_i64] <;> omega
  obtain ⟨t,ht⟩:∃ t,((x.drop a).drop 4).take n = t:=⟨_,rfl⟩;have jq:t.length = n:=by rw [← ht,jn,jQ,jQ];omega
  rw [ht] at hR;have jd:=qrh (.of t) (by simp;omega);simp only [Sl.of_l,Sl.of_nil,jq] at jd;have Kn:List.take n (List.drop (a+4) (qd x)) = qd t:=by rw [Zb,kr,← kC,ht]
  have KW:(x.drop a).drop (4+n) = x.drop (a+4+n):=by rw [kC,V0]
  rw [KW] at hR;generalize x.length - a - 4 = c4 at *;generalize x.length - a = c0 at *;have q1:a+4≤a+4+n:=Nat.le_add_right _ _;have q5:a+4+n - (a+4) = n:=by omega
  generalize hb4:a+4+n = b4 at *;generalize ha4:a+4 = a4 at *;by_cases hok:Jd t = true∧(zF (jp t)).length = n
  ·rw [if_pos hok] at hR;have e1:KK t = jp t:=(by unfold KK;rw [if_pos hok.1]);have e2:V5 t = n:=(by unfold V5;rw [if_pos hok.1,hok.2]);have e3:J7 t = 0:=(by unfold J7;rw [if_pos hok.1]);rw [e1,e2,e3] at jd;generalize jp t = y at *;rcases QS with ⟨rfl,rfl,rfl⟩ | ⟨nn,kk,hnn,hkk,qr,qaX,zh,Vj,⟨tt,uu,rfl,rfl⟩ | ⟨tt,uu,rfl,rfl⟩⟩
   ·simp [k5,k9,k7,k10,k11,Qp,qh,zN,Q7,qaW,vx,Qd,w1,w2,w3,Kn,q1,q5,qY,jd,hw,qF];exact ⟨i+1,by omega,by omega,b4,[y],hR,by rw [← ho];rfl,qY,.inr ⟨by simp,39,1,rfl,rfl,.inl ⟨_,_,rfl,by rw [Xb]⟩⟩,rfl,by omega⟩
   all_goals
    have qZ:out.length = kk:=hkk.symm;have m1:(kk+1) * 104≤140737488355328:=(by omega);have m2:kk≤140737488355327:=(by omega);simp [qZ,zh,k5,k9,k7,k10,k11,Qp,qh,zN,Q7,qaW,vx,Qd,w1,w2,w3,Kn,q1,q5,qY,jd,hw,qF,m1,m2];exact ⟨i+1,by omega,by omega,b4,out ++ [y],hR,by simp [ho],qY,.inr ⟨by simp,nn+39,kk+1,by simp;omega,by simp [qZ],.inr ⟨_,_,rfl,by rw [Z0]⟩⟩,rfl,by omega⟩
  ·rw [if_neg hok] at hR;subst hR;cases YN:Jd t with
   | false =>
    have e1:J7 t = 20:=(by unfold J7;rw [YN];rfl);rw [e1] at jd;generalize KK t = y at *;generalize V5 t = z at *;rcases QS with ⟨rfl,rfl,rfl⟩ | ⟨nn,kk,hnn,hkk,qr,qaX,zh,Vj,⟨tt,uu,rfl,rfl⟩ | ⟨tt,uu,rfl,rfl⟩⟩
    ·simp [k5,k9,k7,k10,k11,Qp,qh,zN,Q7,qaW,vx,Qd,w1,w2,w3,Kn,q1,q5,qY,jd,jh,Sl.grown]
    all_goals
     have qZ:out.length = kk:=hkk.symm;simp [k5,k9,k7,k10,k11,Qp,qh,zN,Q7,qaW,vx,Qd,w1,w2,w3,Kn,q1,q5,qY,jd,jh,Sl.grown]
   | true =>
    have e1:J7 t = 0:=(by unfold J7;rw [YN];rfl);have e2:¬ (zF (jp t)).length = n:=fun h=>hok ⟨YN,h⟩;have e3:V5 t = (zF (jp t)).length:=(by unfold V5;rw [YN];rfl);rw [e1,e3] at jd;generalize KK t = y at *;generalize (zF (jp t)).length = z at *;have e2':¬ (z:Int) = (n:Int):=(by omega);rcases QS with ⟨rfl,rfl,rfl⟩ | ⟨nn,kk,hnn,hkk,qr,qaX,zh,Vj,⟨tt,uu,rfl,rfl⟩ | ⟨tt,uu,rfl,rfl⟩⟩
    ·simp [k5,k9,k7,k10,k11,Qp,qh,zN,Q7,qaW,vx,Qd,w1,w2,w3,Kn,q1,q5,qY,jd,e2',jh,Sl.grown]
    all_goals
     have qZ:out.length = kk:=hkk.symm;simp [k5,k9,k7,k10,k11,Qp,qh,zN,Q7,qaW,vx,Qd,w1,w2,w3,Kn,q1,q5,qY,jd,e2',jh,Sl.grown]
 ·have hk:many - i = 0:=by omega
  rw [hk,Zz] at hR;have hm:=qrt (.of (x.drop a)) (by simp;omega);simp only [Sl.of_l,Sl.of_nil] at hm;obtain ⟨q,hq⟩:∃ q,vf (x.drop a) = q:=⟨_,rfl⟩;rw [hq] at hm hR;have QQ:List.drop a (qd x) = qd (x.drop a):=Zb _ _;have vR:x.length - a = (x.drop a).length:=(jQ ..).symm;have hxa:(x.length:Int) = (a:Int)+((x.drop a).length:Int):=by omega
  generalize x.drop a = r at *;by_cases h0:q.2 = 0
  ·rw [if_pos h0] at hR;have hnn:0≤Go.Ev.readN q∧Go.Ev.readN q≤1+40 * (q.1.length:Int):=by unfold Go.Ev.readN;rw [if_pos h0];omega
   have hql:q.1.length≤4:=by
    obtain ⟨ql,qe⟩:=q;simp only at h0;subst h0;exact qrZ hq
   have vy:IntKind.i64.wrap ((a:Int)+Go.Ev.readN q) = (a:Int)+Go.Ev.readN q:=(by rw [wrap_i64];omega);by_cases hle:Go.Ev.readN q < (r.length:Int)
   ·have jz:(a:Int)+Go.Ev.readN q < (x.length:Int):=(by omega);rw [if_pos hle] at hR;subst hR;rcases QS with ⟨rfl,rfl,rfl⟩ | ⟨nn,kk,hnn',hkk,qr,qaX,zh,Vj,⟨tt,uu,rfl,rfl⟩ | ⟨tt,uu,rfl,rfl⟩⟩
    ·simp [k5,k9,k7,k10,k11,Qp,qh,kx,QQ,vR,hm,h0,vy,jz,jh,Sl.grown]
    all_goals
     have qZ:out.length = kk:=hkk.symm;simp [k5,k9,k7,k10,k11,Qp,qh,kx,QQ,vR,hm,h0,vy,jz,jh,Sl.grown]
   ·have jz:¬ (a:Int)+Go.Ev.readN q < (x.length:Int):=(by omega);rw [if_neg hle] at hR;subst hR;rcases QS with ⟨rfl,rfl,rfl⟩ | ⟨nn,kk,hnn',hkk,qr,qaX,zh,Vj,⟨tt,uu,rfl,rfl⟩ | ⟨tt,uu,rfl,rfl⟩⟩
    ·simp [k5,k9,k7,k10,k11,Qp,qh,kx,QQ,vR,hm,h0,vy,jz,jh,Sl.grown]
    all_goals
     have qZ:out.length = kk:=hkk.symm;simp [qZ,qaX,zh,k5,k9,k7,k10,k11,Qp,qh,kx,QQ,vR,hm,h0,vy,jz,jh,Sl.grown,qr]
  ·rw [if_neg h0] at hR;subst hR;rcases QS with ⟨rfl,rfl,rfl⟩ | ⟨nn,kk,hnn,hkk,qr,qaX,zh,Vj,⟨tt,uu,rfl,rfl⟩ | ⟨tt,uu,rfl,rfl⟩⟩
   ·simp [k5,k9,k7,k10,k11,Qp,qh,kx,QQ,vR,hm,h0,jh,Sl.grown]
   all_goals
    have qZ:out.length = kk:=hkk.symm;simp [k5,k9,k7,k10,k11,Qp,qh,kx,QQ,vR,hm,h0,jh,Sl.grown]
theorem qcW:∀ (x:List UInt8),qx x x = 0
 | []=>rfl
 | a :: x=>by simp [qx,qcW x]
theorem qcq:∀ (x y:List UInt8),qx y x = - qx x y
 | [],[]=>rfl
 | [],_ :: _=>rfl
 | _ :: _,[]=>rfl
 | a :: x,b :: y=>by
  simp only [qx];by_cases h:a = b
  ·subst h;simp [qcq x y]
  ·have h':¬ b = a:=fun e=>h e.symm;rw [if_neg h,if_neg h'];by_cases hl:a < b
   ·have:¬ b < a:=UInt8.not_lt.2 (UInt8.le_of_lt hl);rw [if_pos hl,if_neg this];rfl
   ·have:b < a:=UInt8.lt_of_le_of_ne (UInt8.not_lt.1 hl) h';rw [if_neg hl,if_pos this]
theorem qew:∀ {x y:List UInt8},qx x y = 0→x = y
 | [],[],_=>rfl
 | [],_ :: _,h=>by simp [qx] at h
 | _ :: _,[],h=>by simp [qx] at h
 | a :: x,b :: y,h=>by
  simp only [qx] at h;by_cases e:a = b
  ·rw [if_pos e] at h;rw [e,qew h]
  ·rw [if_neg e] at h;split at h <;> simp at h
theorem qev:∀ (x y:List UInt8),qx x y = -1∨qx x y = 0∨qx x y = 1
 | [],[]=>by simp [qx]
 | [],_ :: _=>by simp [qx]
 | _ :: _,[]=>by simp [qx]
 | a :: x,b :: y=>by
  simp only [qx];split
  ·exact qev x y
  ·split <;> simp
theorem qcV:∀ {x y z:List UInt8},qx x y < 0→qx y z < 0→qx x z < 0
 | [],[],_,h,_=>by simp [qx] at h
 | [],_ :: _,[],_,h=>by simp [qx] at h
 | [],_ :: _,_ :: _,_,_=>by simp [qx]
 | _ :: _,[],_,h,_=>by simp [qx] at h
 | _ :: _,_ :: _,[],_,h=>by simp [qx] at h
 | a :: x,b :: y,c :: z,h1,h2=>by
  simp only [qx] at h1 h2 ⊢;by_cases e1:a = b
  ·subst e1;rw [if_pos rfl] at h1;by_cases e2:a = c
   ·subst e2;rw [if_pos rfl] at h2 ⊢;exact qcV h1 h2
   ·rw [if_neg e2] at h2 ⊢;exact h2
  ·rw [if_neg e1] at h1
   have l1:a < b:=by
    by_cases l:a < b
    ·exact l
    ·rw [if_neg l] at h1;simp at h1
   by_cases e2:b = c
   ·subst e2;rw [if_neg e1,if_pos l1];decide
   ·rw [if_neg e2] at h2
    have l2:b < c:=by
     by_cases l:b < c
     ·exact l
     ·rw [if_neg l] at h2;simp at h2
    have l3:a < c:=UInt8.lt_trans l1 l2;rw [if_neg (UInt8.ne_of_lt l3),if_pos l3];decide
theorem qcL {a b:ID} (h:qx a.l b.l = 0):a = b:=ID.ext' (qew h)
def below (l:List Mk) (id:ID):Prop:= ∀ x∈l,qx x.id.l id.l < 0
theorem rises_cons {a:Mk} {l:List Mk}:zB (a :: l) = true↔(∀ x∈l,qx a.id.l x.id.l < 0)∧zB l = true:=by
 induction l generalizing a with
 | nil=>simp [zB]
 | cons b l ih =>
  simp only [zB,qR,decide_eq_true_eq,qa1,forall_eq_or_imp];constructor
  ·rintro ⟨h1,h2⟩;exact ⟨⟨h1,fun x hx=>qcV h1 ((ih.1 h2).1 x hx)⟩,h2⟩
  ·rintro ⟨⟨h1,_⟩,h2⟩;exact ⟨h1,h2⟩
theorem rises_append {a b:List Mk}:zB (a ++ b) = true↔zB a = true∧zB b = true∧∀ x∈a,∀ y∈b,qx x.id.l y.id.l < 0:=by
 induction a with
 | nil=>simp [zB]
 | cons x a ih =>
  rw [vU,rises_cons,rises_cons,ih];constructor
  ·rintro ⟨h1,h2,h3,h4⟩;refine ⟨⟨fun y hy=>h1 y (qcu _ hy),h2⟩,h3,fun y hy z hz=>?_⟩;rcases List.mem_cons.1 hy with rfl | hy
   ·exact h1 z (List.mem_append_right _ hz)
   ·exact h4 y hy z hz
  ·rintro ⟨⟨h1,h2⟩,h3,h4⟩;refine ⟨fun y hy=>?_,h2,h3,fun y hy z hz=>h4 y (vu _ hy) z hz⟩;rcases List.mem_append.1 hy with h | h
   ·exact h1 y h
   ·exact h4 x (kA ..) y h
def Qn (m:Mk):List Mk→List Mk
 | []=>[m]
 | x :: l=>if qx x.id.l m.id.l < 0 then x :: Qn m l else m :: x :: l
theorem qmi (m:Mk):∀ (l:List Mk),(Qn m l).length = l.length+1
 | []=>rfl
 | x :: l=>by
  unfold Qn;split
  ·simp [qmi m l]
  ·simp
theorem qhX (m:Mk):∀ (l:List Mk) (x:Mk),x∈Qn m l↔x = m∨x∈l
 | [],x=>by simp [Qn]
 | y :: l,x=>by
  unfold Qn;split
  ·simp only [qa1,qhX m l];constructor
   ·rintro (h | h | h)
    ·exact .inr (.inl h)
    ·exact .inl h
    ·exact .inr (.inr h)
   ·rintro (h | h | h)
    ·exact .inr (.inl h)
    ·exact .inl h
    ·exact .inr (.inr h)
  ·simp
theorem qmj {m:Mk}:∀ {l:List Mk},below l m.id→Qn m l = l ++ [m]
 | [],_=>rfl
 | x :: l,h=>by
  rw [Qn,if_pos (h x (kA ..)),qmj fun y hy=>h y (vu _ hy)];rfl
theorem qmh {m x:Mk}:∀ {l:List Mk},¬ qx x.id.l m.id.l < 0→Qn m (l ++ [x]) = Qn m l ++ [x]
 | [],h=>by simp [Qn,h]
 | y :: l,h=>by
  simp only [vU,Qn];split
  ·rw [qmh h];rfl
  ·rfl
theorem hasM_false {l:List Mk} {id:ID}:zO l id = false↔∀ x∈l,x.id≠id:=by
 simp [zO]
theorem getElem?_mid {α:Type} (a:List α) (x:α) (b:List α):(a ++ x :: b)[a.length]? = some x:=by
 rw [VU (qz _),Nat.sub_self];rfl
theorem qjM (m:Mk):∀ (n:Nat) (l t:List Mk),l.length = n→zB l = true→(∀ x∈l,x.id≠m.id)→JX n (l ++ m :: t) = Qn m l ++ t
 | 0,l,t,hl,_,_=>by
  have:l = []:=VV hl;subst this;rfl
 | n+1,l,t,hl,hr,qr=>by
  obtain ⟨l',x,rfl⟩:∃ l' x,l = l' ++ [x]:=⟨l.dropLast,l.getLast (by intro h;subst h;simp at hl),(List.dropLast_concat_getLast _).symm⟩;have kZ:l'.length = n:=by simpa using hl
  obtain ⟨r1,_,r2⟩:=rises_append.1 hr;have hx:=qr x (by simp)
  have e1:(l' ++ [x] ++ m :: t)[n+1]? = some m:=by
   rw [show n+1 = (l' ++ [x]).length by simp [kZ]];exact getElem?_mid _ _ _
  have e2:(l' ++ [x] ++ m :: t)[n]? = some x:=by
   rw [ko,← kZ];exact getElem?_mid l' x (m :: t)
  rw [JX,e1,e2];simp only;by_cases hc:qx m.id.l x.id.l < 0
  ·rw [if_pos hc]
   have hsw:swp (l' ++ [x] ++ m :: t) (n+1) = l' ++ m :: (x :: t):=by
    unfold swp;rw [e1,Nat.add_sub_cancel,e2];simp only;subst kZ;rw [ko,List.singleton_append,List.set_append_right _ _ (Nat.le_succ _),show l'.length+1 - l'.length = 1 by omega,List.set_append_right _ _ (qz _),Nat.sub_self];rfl
   have hxm:¬ qx x.id.l m.id.l < 0:=(by rw [qcq];omega);rw [hsw,qjM m n l' (x :: t) kZ r1 (fun y hy=>qr y (qcu _ hy)),qmh hxm];simp
  ·rw [if_neg hc]
   have hxm:qx x.id.l m.id.l < 0:=by
    rcases qev x.id.l m.id.l with h | h | h
    ·omega
    ·exact absurd (qcL h) hx
    ·rw [qcq] at hc;omega
   have hb:below (l' ++ [x]) m.id:=by
    intro y hy;rcases List.mem_append.1 hy with h | h
    ·exact qcV (r2 y h x (by simp)) hxm
    ·rw [List.mem_singleton.1 h];exact hxm
   rw [qmj hb];simp
theorem qqi {l:List Mk} {t:List Mk} (hr:zB l = true) {i:Nat} (hi:i < l.length):JX i (l ++ t) = l ++ t:=by
 cases i with
 | zero=>rfl
 | succ j =>
  have hj:j < l.length:=by omega
  rw [JX,ZW hi,ZW hj,zg hi,zg hj];simp only;rw [if_neg]
  have qh:qx l[j].id.l l[j+1].id.l < 0:=by
   have kb:l = l.take (j+1) ++ l.drop (j+1):=(V1 _ _).symm;rw [kb] at hr;refine (rises_append.1 hr).2.2 _ ?_ _ ?_
   ·rw [List.mem_take_iff_getElem];exact ⟨j,by omega,rfl⟩
   ·rw [zo hi];exact kA ..
  rw [qcq];omega
theorem qmk {l:List Mk} {m:Mk} (hr:zB l = true) (qr:∀ x∈l,x.id≠m.id):∀ (k i:Nat),k+i = l.length+1→1≤i→Zt k i (l ++ [m]) = if k = 0 then l ++ [m] else Qn m l
 | 0,i,_,_=>rfl
 | k+1,i,h,hi=>by
  rw [Zt,if_neg (by omega)];rcases ZS i l.length with qh | hge
  ·rw [qqi hr qh,qmk hr qr k (i+1) (by omega) (by omega),if_neg (by omega)]
  ·have:i = l.length:=(by omega);have hk:k = 0:=(by omega);subst hk;rw [Zt,qjM m i l [] this.symm hr qr];simp
theorem find?_neg {l:List Mk} {id:ID}:find? (fun m=>m.id == id) l 0 < 0↔zO l id = false:=by
 rcases find?_spec (fun m=>m.id == id) l 0 with ⟨i,m,h1,h2,h3,h4,h5⟩ | ⟨h1,h2⟩
 ·rw [h4];constructor
  ·intro h;omega
  ·intro h;have:=hasM_false.1 h m (qct h1);simp at h3;exact absurd h3 this
 ·rw [h1];constructor
  ·intro _;rw [hasM_false];intro x hx he;have:=List.find?_eq_none.1 h2 x hx;simp [he] at this
  ·intro _;decide
theorem qdG {l:List Mk} {m:Mk} (hr:zB l = true) (hh:zO l m.id = false):QJ l m = Qn m l:=by
 unfold QJ;rw [if_pos (find?_neg.2 hh)];cases l with
 | nil=>rfl
 | cons a l=>rw [qmk hr (hasM_false.1 hh) _ 1 rfl (qz _),if_neg (by simp)]
theorem qgY (m:Mk):∀ (l:List Mk),(∀ x∈l,qx x.id.l m.id.l≠0)→ji m l true = (l,true)
 | [],_=>rfl
 | x :: l,h=>by
  have ih:=qgY m l fun y hy=>h y (vu _ hy);have hx:=h x (kA ..);simp only [ji,Bool.true_or,ih,Bool.not_true,ZX,vC,if_false,ZU,ne_eq,hx,not_false_eq_true,if_true,List.singleton_append]
theorem qoK {m:Mk} {x:Mk} {l:List Mk} (hr:zB (x :: l) = true) (hx:0≤qx x.id.l m.id.l):∀ y∈l,qx y.id.l m.id.l≠0:=by
 intro y hy h0;have h1:=(rises_cons.1 hr).1 y hy;have:y.id = m.id:=qcL h0;rw [this] at h1;omega
theorem qkf {m:Mk}:∀ {l:List Mk},zB l = true→zO l m.id = false→Zo l m = Qn m l
 | [],_,_=>rfl
 | x :: l,hr,hh=>by
  have hx:qx x.id.l m.id.l≠0:=fun h=>hasM_false.1 hh x (kA ..) (qcL h);have YV:zO l m.id = false:=hasM_false.2 fun y hy=>hasM_false.1 hh y (vu _ hy);by_cases hc:qx x.id.l m.id.l < 0
  ·have Zx:¬ 0≤qx x.id.l m.id.l:=(by omega);have ih:=qkf (rises_cons.1 hr).2 YV;rw [Qn,if_pos hc,← ih];simp [Zo,ji,Zx,hx]
  ·have Zx:0≤qx x.id.l m.id.l:=(by omega);rw [Qn,if_neg hc];have:=qgY m l (qoK hr Zx);simp [Zo,ji,Zx,hx,this]
def Jc (m:Mk):List Mk→List Mk
 | []=>[]
 | x :: l=>if x.id == m.id then m :: l else x :: Jc m l
theorem qke {m:Mk}:∀ {l:List Mk},zB l = true→zO l m.id = true→Zo l m = Jc m l
 | [],_,h=>by simp [zO] at h
 | x :: l,hr,hh=>by
  by_cases he:x.id = m.id
  ·have h0:qx x.id.l m.id.l = 0:=(by rw [he];exact qcW _);have:=qgY m l (qoK hr (by omega));have hs:=qcW m.id.l;simp [Zo,ji,this,Jc,he,hs]
  ·have hx:qx x.id.l m.id.l≠0:=fun h=>he (qcL h);have YV:zO l m.id = true:=by simpa [zO,he] using hh
   have hc:qx x.id.l m.id.l < 0:=by
    obtain ⟨y,hy,hye⟩:∃ y∈l,y.id = m.id:=by simpa [zO] using YV
    rw [← hye];exact (rises_cons.1 hr).1 y hy
   have Zx:¬ 0≤qx x.id.l m.id.l:=(by omega);have ih:=qke (rises_cons.1 hr).2 YV;have hb:(x.id == m.id) = false:=(by simpa using he);rw [Jc,hb,← ih];simp [Zo,ji,Zx,hx]
theorem find?_set {m:Mk}:∀ {l:List Mk} (k:Nat),zO l m.id = true→∃ i,find? (fun x=>x.id == m.id) l k = ((k+i:Nat):Int)∧i < l.length∧l.set i m = Jc m l
 | [],_,h=>by simp [zO] at h
 | x :: l,k,h=>by
  cases he:x.id == m.id with
  | true=>exact ⟨0,by simp [find?,he],by simp,by simp [Jc,he]⟩
  | false =>
   have h':zO l m.id = true:=(by simpa [zO,he] using h);obtain ⟨i,h1,h2,h3⟩:=find?_set (k+1) h';refine ⟨i+1,?_,by simpa using h2,by simp [Jc,he,h3]⟩;simp only [find?,he,vC,if_false];have e:(k:Int)+1 = ((k+1:Nat):Int):=(by omega);rw [e,h1];omega
theorem qdF {l:List Mk} {m:Mk} (hh:zO l m.id = true):QJ l m = Jc m l:=by
 obtain ⟨i,h1,h2,h3⟩:=find?_set 0 hh;have QT:find? (fun x=>x.id == m.id) l 0 = (i:Int):=by simpa using h1
 unfold QJ;rw [QT,if_neg (by omega)];simpa using h3
theorem qsj {l:List Mk} {m:Mk} (hr:zB l = true):QJ l m = Zo l m:=by
 cases hh:zO l m.id with
 | true=>rw [qdF hh,qke hr hh]
 | false=>rw [qdG hr hh,qkf hr hh]
theorem qlF (l:List Mk) (m:Mk):Q3 l m.id = J4 l m:=by
 unfold Q3 J4;cases hr:jE l with
 | false=>simp
 | true =>
  have h4:=XU hr;simp only [Bool.true_eq_false,if_false,if_true];cases hh:zO l m.id with
  | true =>
   have:¬ find? (fun x=>x.id == m.id) l 0 < 0:=fun h=>by rw [find?_neg.1 h] at hh;cases hh
   simp [this]
  | false =>
   have:=find?_neg.2 hh;by_cases h:l.length = 4
   ·simp [this,h]
   ·have h':¬ 4≤l.length:=(by omega);simp [h,h']
theorem qd4 {l:List Mk} (h:jE l = true):zB l = true:=by
 rw [jE,qR] at h;exact h.2
theorem qr3 {l:List Mk} {id:ID} (h:Q3 l id = 0):jE l = true:=by
 unfold Q3 at h;cases hr:jE l with
 | true=>rfl
 | false=>rw [hr] at h;simp at h
theorem qjD (m:Mk) (it:It) (o:Bool):(VZ m it o).id = m.id:=by unfold VZ;split <;> rfl
theorem qqR (m:Mk) (it:It) (o:Bool):(J3 m it o).id = m.id:=by unfold J3;split <;> rfl
theorem qj3 (l:List Mk) (it:It) (o:Bool):QG l it = Y6 l it o:=by
 unfold QG Y6;have h:=qlF l (J3 (zJ l it.id) it o);rw [qqR,qeb] at h;rw [h]
theorem qhc {v n:Int} (hv:qy v) (hn:qy n):QI v n = if kO - n < v then kO else v+n:=by
 unfold qy at hv hn;have e:IntKind.u64.wrap (kO - n) = kO - n:=by rw [qS];unfold kO;omega
 unfold QI;rw [e];split
 ·rfl
 ·rw [qS];unfold kO at *;omega
theorem qpQ {m:Mk} {it:It} {o:Bool} (hm:m.Ok) (hi:it.Ok) (hg:Qt m it = true):VZ m it o = J3 m it o:=by
 have h1:=hm.seq;have h2:=hm.lost;have h3:=hm.over;have h4:=hi.fr;have h5:=hi.til;unfold VZ J3;unfold Qt at hg;cases vQ:it.gap with
 | true =>
  rw [vQ] at hg;simp only [if_true,Bool.not_eq_true',Bool.or_eq_false_iff,decide_eq_false_iff_not] at hg ⊢;unfold qy at h1 h2 h4 h5;have w1:IntKind.u64.wrap (it.til - it.fr) = it.til - it.fr:=by rw [qS];omega
  have w2:IntKind.u64.wrap (it.til - it.fr+1) = it.til - it.fr+1:=by rw [qS];omega
  have r1:QI (it.til - it.fr) 1 = it.til - it.fr+1:=by
   rw [qhc (by unfold qy;omega) (by unfold qy;omega),if_neg (by unfold kO;omega)]
  rw [w1,w2,r1,ql6 (by unfold qy;omega) (by unfold qy;omega),qhc (by unfold qy;omega) (by unfold qy;omega)];congr 1;unfold kO;split <;> split <;> omega
 | false =>
  simp only [vC,if_false];cases o with
  | false=>rfl
  | true =>
   simp only [if_true];rw [ql6 h3 (by unfold qy;omega),qhc h3 (by unfold qy;omega)];congr 1;unfold kO;split <;> split <;> omega
theorem qeN {l:List Mk} {it:It} (o:Bool) (hl:∀ m∈l,m.Ok) (hi:it.Ok) (hc:QG l it = 0):Z3 l it o = XT l it o:=by
 have hm0:Q3 l it.id = 0∧Qt (zJ l it.id) it = true:=by
  unfold QG at hc;by_cases h:Q3 l it.id = 0
  ·refine ⟨h,?_⟩;rw [if_neg (by simpa using h)] at hc;cases hg:Qt (zJ l it.id) it with
   | true=>rfl
   | false=>rw [hg] at hc;simp at hc
  ·rw [if_pos h] at hc;exact absurd hc h
 unfold Z3 XT;rw [qpQ (qio hl it.id) hi hm0.2,qsj (qd4 (qr3 hm0.1))]
theorem qkz {m:Mk}:∀ {l:List Mk},zB l = true→zO l m.id = false→zB (Qn m l) = true
 | [],_,_=>rfl
 | x :: l,hr,hh=>by
  have hx:qx x.id.l m.id.l≠0:=fun h=>hasM_false.1 hh x (kA ..) (qcL h);have YV:zO l m.id = false:=hasM_false.2 fun y hy=>hasM_false.1 hh y (vu _ hy);obtain ⟨r1,r2⟩:=rises_cons.1 hr;unfold Qn;split
  ·rename_i hc;refine rises_cons.2 ⟨fun y hy=>?_,qkz r2 YV⟩;rcases (qhX m l y).1 hy with rfl | hy
   ·exact hc
   ·exact r1 y hy
  ·rename_i hc
   have vm:qx m.id.l x.id.l < 0:=by
    rw [qcq];rcases qev x.id.l m.id.l with h | h | h <;> omega
   refine rises_cons.2 ⟨fun y hy=>?_,hr⟩;rcases List.mem_cons.1 hy with rfl | hy
   ·exact vm
   ·exact qcV vm (r1 y hy)
theorem qhj {m:Mk}:∀ {l:List Mk} {y:Mk},y∈Jc m l→y = m∨y∈l
 | [],y,h=>by simp [Jc] at h
 | x :: l,y,h=>by
  unfold Jc at h;split at h
  ·rcases List.mem_cons.1 h with h | h
   ·exact .inl h
   ·exact .inr (vu _ h)
  ·rcases List.mem_cons.1 h with h | h
   ·exact .inr (by rw [h];exact kA ..)
   ·rcases qhj h with h | h
    ·exact .inl h
    ·exact .inr (vu _ h)
theorem qkx {m:Mk}:∀ {l:List Mk},zB l = true→zO l m.id = true→zB (Jc m l) = true
 | [],_,_=>rfl
 | x :: l,hr,hh=>by
  obtain ⟨r1,r2⟩:=rises_cons.1 hr;unfold Jc;split
  ·rename_i he;have XC:x.id = m.id:=(by simpa using he);refine rises_cons.2 ⟨fun y hy=>?_,r2⟩;rw [← XC];exact r1 y hy
  ·rename_i he;have XC:¬ x.id = m.id:=(by simpa using he);have YV:zO l m.id = true:=(by simpa [zO,XC] using hh);refine rises_cons.2 ⟨fun y hy=>?_,qkx r2 YV⟩;rcases qhj hy with rfl | hy
   ·obtain ⟨z,hz,hze⟩:∃ z∈l,z.id = y.id:=by simpa [zO] using YV
    rw [← hze];exact r1 z hz
   ·exact r1 y hy
theorem qkB (m:Mk):∀ (l:List Mk),(Jc m l).length = l.length
 | []=>rfl
 | x :: l=>by
  unfold Jc;split
  ·rfl
  ·simp [qkB m l]
theorem qrx {l:List Mk} {m:Mk} (hr:zB l = true):zB (QJ l m) = true:=by
 cases hh:zO l m.id with
 | true=>rw [qdF hh];exact qkx hr hh
 | false=>rw [qdG hr hh];exact qkz hr hh
theorem qso {l:List Mk} {m:Mk} (hr:zB l = true):(QJ l m).length = if zO l m.id then l.length else l.length+1:=by
 cases hh:zO l m.id with
 | true=>rw [qdF hh,qkB];rfl
 | false=>rw [qdG hr hh,qmi];rfl
section
variable (e n z:Nat) (he:e < 18446744073709551616) (hn:n < 18446744073709551616) (hz:z < 18446744073709551616) (body:List UInt8)
include he hn hz
end
section
variable (e n:Nat) (he:e < 18446744073709551616) (hn:n < 18446744073709551616) (body:List UInt8) (hb:body.length≤65536)
include he hn hb
end
end Go.Ev.S
namespace Go.Ev.S
open Go Go.Proofs Go.Ev
def qcn (l:List Nat):List UInt8:=l.map fun k=>UInt8.ofNat (48+k)
def YE (n:Nat) (l:List Nat):Nat:=l.foldl (fun a k=>10 * a+k) n
theorem qzg (l:List Nat):∀ n f,1≤n→1≤f→(∀ k∈l,k < 10)→km (f+l.length) (YE n l) = km f n ++ qcn l:=by
 induction l with
 | nil=>intro n f _ _ _;simp [YE,qcn]
 | cons k l ih =>
  intro n f hn hf h;have hk:=h k (by simp);have h4:YE n (k :: l) = YE (10 * n+k) l:=rfl;have e:qcn (k :: l) = UInt8.ofNat (48+k) :: qcn l:=rfl;have e2:f+(k :: l).length = (f+1)+l.length:=by simp;omega
  rw [h4,e2,ih (10 * n+k) (f+1) (by omega) (by omega) (fun x hx=>h x (by simp [hx])),e];rw [km,if_neg (by omega)];have e3:(10 * n+k) / 10 = n:=by omega
  have e4:(10 * n+k) % 10 = k:=by omega
  rw [e3,e4,ko];rfl
section
variable (e n:Nat) (he:e < 18446744073709551616) (hn:n < 18446744073709551616)
include he hn
end
end Go.Ev.S
namespace Go.Ev.S
open Go Go.Proofs Go.Ev
theorem qyY {c:UInt8} {d:Nat} (h:Xd c = some d) (hd:d < 10):c = UInt8.ofNat (48+d):=by
 apply UInt8.toNat_inj.1;rw [VR (show 48+d < 256 by omega)];unfold Xd at h;split at h
 ·injection h with h;omega
 ·split at h
  ·injection h with h;omega
  ·cases h
theorem qss (s:List UInt8):∀ n v,jv 10 s n = some v→∃ l,s = qcn l∧(∀ k∈l,k < 10)∧v = YE n l:=by
 induction s with
 | nil =>
  intro n v h;simp only [jv,qs] at h;exact ⟨[],rfl,by simp,h.symm⟩
 | cons c s ih =>
  intro n v h;simp only [jv] at h;split at h
  ·cases h
  ·rename_i d hd;split at h
   ·cases h
   ·split at h
    ·cases h
    ·obtain ⟨l,h1,h2,h3⟩:=ih _ _ h;refine ⟨d :: l,?_,?_,?_⟩
     ·rw [h1,qyY hd (by omega)];rfl
     ·intro k hk;rcases List.mem_cons.1 hk with rfl | hk
      ·omega
      ·exact h2 k hk
     ·rw [h3,Nat.mul_comm n 10];rfl
theorem qfw {s:List UInt8} {v:Nat} (h:ja s = some v):v < 18446744073709551616∧s = qD v:=by
 unfold ja at h;split at h
 ·cases h
 ·rename_i hc;have qh:v < 18446744073709551616:=qcC 10 _ _ _ (by decide) h;obtain ⟨l,rfl,h2,rfl⟩:=qss _ _ _ h;refine ⟨qh,?_⟩;have zl:(qcn l).length = l.length:=by simp [qcn]
  rw [zl] at hc;rcases l with _ | ⟨k,l⟩
  ·exact absurd (.inl rfl) hc
  ·have hk:=h2 k (by simp);have e0:YE 0 (k :: l) = YE k l:=(by simp [YE]);rw [e0];rcases l with _ | ⟨j,l⟩
   ·unfold qD;rw [show YE k [] = k from rfl,km,if_pos hk];rfl
   ·have kv:1≤k:=by
     rcases Nat.eq_zero_or_pos k with rfl | hp
     ·exact absurd (.inr (.inr ⟨rfl,by simp⟩)) hc
     ·exact hp
    have hl:(j :: l).length≤19:=by
     have:¬ 20 < (k :: j :: l).length:=fun hh=>hc (.inr (.inl hh));simp at this ⊢;omega
    obtain ⟨f,hf⟩:∃ f,20 = (f+1)+(j :: l).length:=⟨19 - (j :: l).length,by omega⟩;unfold qD;rw [hf,qzg (j :: l) k (f+1) kv (by omega) (fun x hx=>h2 x (vu _ hx)),km,if_pos hk];rfl
def zS:List UInt8→List UInt8
 | []=>[]
 | c :: l=>if c = 13 then [] else c :: zS l
theorem qeF:∀ (s:List UInt8),(zS s).length≤s.length
 | []=>by simp [zS]
 | c :: l=>by
  unfold zS;split
  ·simp
  ·have:=qeF l;simp;exact this
theorem qdj:∀ (s:List UInt8),s.take (zS s).length = zS s
 | []=>by simp [zS]
 | c :: l=>by
  unfold zS;split
  ·simp
  ·have:=qdj l;simp [this]
theorem qjq:∀ (A B:List UInt8),(∀ x∈A,x≠13)→zS (A ++ (13 :: B)) = A
 | [],B,_=>by simp [zS]
 | c :: A,B,h=>by
  have hc:=h c (by simp);rw [vU,zS,if_neg hc,qjq A B fun x hx=>h x (by simp [hx])]
def Zs (name rest:List UInt8):Option (Nat × List UInt8):=if pre name rest then
  match ja (zS (rest.drop name.length)) with
  | none=>none
  | some v=>if ((rest.drop name.length).drop (zS (rest.drop name.length)).length).take 2 = crlf then some (v,(rest.drop name.length).drop ((zS (rest.drop name.length)).length+2)) else none
 else none
theorem qsv (a b:List UInt8):pre a (a ++ b) = true:=by unfold pre;simp
theorem qkY {a b:List UInt8} (h:pre a b = true):b = a ++ b.drop a.length:=by
 unfold pre at h;have h2:=beq_iff_eq.1 h
 conv=>lhs;rw [← V1 a.length b]
 rw [h2]
theorem qhL (name r:List UInt8) {v:Nat} (hv:v < 18446744073709551616):Zs name (name ++ (qD v ++ (crlf ++ r))) = some (v,r):=by
 unfold Zs;rw [qsv,if_pos rfl,List.drop_left];have h1:zS (qD v ++ (crlf ++ r)) = qD v:=qjq (qD v) (10 :: r) (qgi v);rw [h1,qbX hv];have d1:(qD v ++ (crlf ++ r)).drop (qD v).length = crlf ++ r:=List.drop_left
 have d2:(qD v ++ (crlf ++ r)).drop ((qD v).length+2) = r:=by
  rw [← kC,d1];rfl
 simp only [d1,d2];rw [if_pos (by rfl)]
theorem qhM {name rest r:List UInt8} {v:Nat} (h:Zs name rest = some (v,r)):v < 18446744073709551616∧rest = name ++ (qD v ++ (crlf ++ r)):=by
 unfold Zs at h;split at h
 ·rename_i hp;have hr:=qkY hp;generalize rest.drop name.length = t at *;split at h
  ·cases h
  ·rename_i v' hn;split at h
   ·rename_i hc;injection h with h;injection h with h1 h2;subst h1;obtain ⟨g1,g2⟩:=qfw hn;refine ⟨g1,?_⟩;rw [hr];congr 1;have e1:t = t.take (zS t).length ++ t.drop (zS t).length:=(V1 _ _).symm
    have e2:t.drop (zS t).length = crlf ++ r:=by
     rw [← V1 2 (t.drop (zS t).length),hc,← h2,kC]
    rw [qdj,g2] at e1;rw [e1,← g2,e2]
   ·cases h
 ·cases h
def Jz (s:List UInt8):Option (Nat × Nat × Nat):=match Zs epochL s with
 | none=>none
 | some (x,r1)=>match Zs numberL r1 with
  | none=>none
  | some (y,r2)=>match Zs lengthL r2 with
   | none=>none
   | some (z,r3)=>if r3 = crlf then some (x,y,z) else none
theorem qpx {x y z:Nat} (hx:x < 18446744073709551616) (hy:y < 18446744073709551616) (hz:z < 18446744073709551616):Jz (vD x y z) = some (x,y,z):=by
 unfold Jz vD;simp only [qhL _ _ hx,qhL _ _ hy,qhL _ _ hz,if_true]
theorem qgC {s:List UInt8} {x y z:Nat} (h:Jz s = some (x,y,z)):x < 18446744073709551616∧y < 18446744073709551616∧z < 18446744073709551616∧s = vD x y z:=by
 unfold Jz at h;split at h
 ·cases h
 ·rename_i x' r1 h1;split at h
  ·cases h
  ·rename_i y' r2 h2;split at h
   ·cases h
   ·rename_i z' r3 h3;split at h
    ·rename_i h4;injection h with h;injection h with e1 h;injection h with e2 e3;subst e1;subst e2;subst e3;subst h4;obtain ⟨a1,a2⟩:=qhM h1;obtain ⟨b1,b2⟩:=qhM h2;obtain ⟨c1,c2⟩:=qhM h3;exact ⟨a1,b1,c1,by rw [a2,b2,c2];rfl⟩
    ·cases h
theorem qhJ {name rest r:List UInt8} {v:Nat} (h:kV name rest = some (v,r)):v < 18446744073709551616:=by
 unfold kV at h;split at h
 ·cases h
 ·rename_i w hw;injection h with h;injection h with h1 _;subst h1;unfold pu at hw;split at hw
  ·cases hw
  ·exact qcC 10 _ _ _ (by decide) hw
theorem qtn {s b:List UInt8} {x y z:Nat} (h:vY s b = some (x,y,z)):x < 18446744073709551616∧y < 18446744073709551616∧z < 18446744073709551616:=by
 unfold vY at h;split at h
 ·split at h
  ·cases h
  ·rename_i h1;split at h
   ·cases h
   ·rename_i h2;split at h
    ·cases h
    ·rename_i h3;split at h
     ·injection h with h;injection h with e1 h;injection h with e2 e3;subst e1;subst e2;subst e3;exact ⟨qhJ h1,qhJ h2,qhJ h3⟩
     ·cases h
 ·cases h
theorem qtl (b t:List UInt8):vY (b ++ t) b = Jz t:=by
 cases h:Jz t with
 | some q =>
  obtain ⟨x,y,z⟩:=q;obtain ⟨h1,h2,h3,rfl⟩:=qgC h;exact qtm b x y z h1 h2 h3
 | none =>
  cases h':vY (b ++ t) b with
  | none=>rfl
  | some q =>
   obtain ⟨x,y,z⟩:=q;obtain ⟨h1,h2,h3⟩:=qtn h';have:=List.append_cancel_left (qlz h');rw [this,qpx h1 h2 h3] at h;cases h
def qa9 (s body:List UInt8):List (List UInt8)→Nat→Msg × Int
 | [],_=>(.zero,20)
 | b :: l,k=>if pre b s then match Jz (s.drop b.length) with
   | none=>(.zero,20)
   | some (x,y,z)=>qci k x y z body
  else qa9 s body l (k+1)
theorem qkL (s body:List UInt8):∀ (l:List (List UInt8)) (k:Nat),(∀ b∈l,pre b s = false)→Je s body l k = (.zero,20)
 | [],_,_=>rfl
 | b :: l,k,h=>by
  rw [qho,qly (h b (by simp))];exact qkL s body l (k+1) fun x hx=>h x (by simp [hx])
def qjc (l:List (List UInt8)):Prop:=l.Pairwise fun b c=>∀ X,pre c (b ++ X) = false
theorem qkH (s body:List UInt8):∀ (l:List (List UInt8)) (k:Nat),qjc l→qa9 s body l k = Je s body l k
 | [],_,_=>rfl
 | b :: l,k,h=>by
  have h:=List.pairwise_cons.1 h;rw [qho,qa9];cases hp:pre b s with
  | false =>
   rw [qly hp,if_neg (by decide)];exact qkH s body l (k+1) h.2
  | true =>
   rw [if_pos rfl];have e:=qkY hp;generalize s.drop b.length = t at *;subst e;rw [qtl];cases Jz t with
   | none=>exact (qkL _ _ l (k+1) fun c hc=>h.1 c hc t).symm
   | some q=>rfl
theorem qrk:qjc rqL:=by
 refine List.pairwise_cons.2 ⟨fun c hc=>?_,List.pairwise_cons.2 ⟨fun c hc=>(List.not_mem_nil hc).elim,.nil⟩⟩;rw [List.mem_singleton.1 hc];exact q09
def crn:List UInt8:=[13,10,88,45,78,117,109,98,101,114,58,32]
def crl:List UInt8:=[13,10,67,111,110,116,101,110,116,45,76,101,110,103,116,104,58,32]
def crcr:List UInt8:=[13,10,13,10]
theorem qko [MaxL] [TxtC] (e n l:Nat) (he:e < 18446744073709551616) (hn:n < 18446744073709551616) (hl:l < 9223372036854775808) :
  call cx 70 [.int .u64 e,.int .u64 n,.int .i64 l] [] = some (.str (vD e n l),[]):=by
 have h1:=qaA e he;have h2:=qaA n hn;have h3:=qaA l (by omega);have l1:=kL e;have l2:=kL n;have l3:=kL l;have hw:IntKind.u64.wrap (l:Int) = (l:Int):=by rw [qS];omega
 have QP:vD e n l = epochL ++ (qD e ++ (crn ++ (qD n ++ (crl ++ (qD l ++ crcr))))):=by
  simp [vD,crn,crl,crcr,crlf,numberL,lengthL]
 rw [QP];generalize qD e = x at *;generalize qD n = y at *;generalize qD l = z at *;clear he hn hl QP;obtain ⟨s1,es1⟩:∃ s,s = epochL ++ x:=⟨_,rfl⟩;have ls1:s1.length = epochL.length+x.length:=by rw [es1,qC]
 obtain ⟨s2,es2⟩:∃ s,s = s1 ++ crn:=⟨_,rfl⟩;have ls2:s2.length = s1.length+crn.length:=by rw [es2,qC]
 obtain ⟨s3,es3⟩:∃ s,s = s2 ++ y:=⟨_,rfl⟩;have ls3:s3.length = s2.length+y.length:=by rw [es3,qC]
 obtain ⟨s4,es4⟩:∃ s,s = s3 ++ crl:=⟨_,rfl⟩;have ls4:s4.length = s3.length+crl.length:=by rw [es4,qC]
 obtain ⟨s5,es5⟩:∃ s,s = s4 ++ z:=⟨_,rfl⟩;have ls5:s5.length = s4.length+z.length:=by rw [es5,qC]
 obtain ⟨s6,es6⟩:∃ s,s = s5 ++ crcr:=⟨_,rfl⟩;have ls6:s6.length = s5.length+crcr.length:=by rw [es6,qC]
 simp only [epochL,crn,crl,crcr,qH,zb] at ls1 ls2 ls3 ls4 ls5 ls6;have cs1:=jk es1 (by (try simp only [epochL,qH,zb]);omega);have cs2:=jk es2 (by (try simp only [crn,qH,zb]);omega);have cs3:=jk es3 (by (try simp only [epochL,crn,crl,crcr,qH,zb]);omega);have cs4:=jk es4 (by (try simp only [crl,qH,zb]);omega);have cs5:=jk es5 (by (try simp only [epochL,crn,crl,crcr,qH,zb]);omega);have cs6:=jk es6 (by (try simp only [crcr,qH,zb]);omega);simp only [epochL,crn,crl,crcr] at cs1 cs2 cs3 cs4 cs5 cs6
 have QP:epochL ++ (x ++ (crn ++ (y ++ (crl ++ (z ++ crcr))))) = s6:=by
  simp [es6,es5,es4,es3,es2,es1]
 rw [QP];clear QP es1 es2 es3 es4 es5 es6 ls1 ls2 ls3 ls4 ls5 ls6 l1 l2 l3;refine qq Tryz.func70 rfl ⟨rfl,rfl⟩ ?_;simp [Tryz.f70,h1,h2,h3,hw,-Go.Ev.strD,cs1,cs2,cs3,cs4,cs5,cs6]
def qfk:List UInt8:=httpL ++ (crlf ++ (hostL ++ (crlf ++ (ctypeL ++ crlf))))
theorem qgX [MaxL] [TxtC] (p:List UInt8) (hp:p.length≤100):call cx 69 [.str p] [] = some (.str (jU p),[]):=by
 have a1:Go.Ev.strD .add postL p = some (.str (postL ++ p)):=qjA (by simp [postL];omega)
 have a2:Go.Ev.strD .add (postL ++ p) qfk = some (.str (jU p)):=by
  rw [qjA (by simp [postL,qfk,httpL,hostL,ctypeL,crlf];omega)];simp [jU,qfk]
 simp only [postL,qfk,httpL,hostL,ctypeL,crlf,vU,ZU] at a1 a2;refine qq Tryz.func69 rfl ⟨rfl,rfl⟩ ?_;generalize jU p = w at *;generalize hq:(80 :: 79 :: 83 :: 84 :: 32 :: p:List UInt8) = q at *;simp [Tryz.f69,-Go.Ev.strD,a1,a2]
theorem qqS [MaxL] [TxtC] (n:Int):call cx 78 [.int .i64 n] [] = some (.str (if n = 200∨n = 400∨n = 409 then JW n else []),[]):=by
 refine qq Tryz.func78 rfl ⟨rfl,rfl⟩ ?_;by_cases h0:n = 200
 ·subst h0;simp [Tryz.f78,JW,qh5]
 ·by_cases h1:n = 400
  ·subst h1;simp [Tryz.f78,JW,qiV]
  ·by_cases h2:n = 409
   ·subst h2;simp [Tryz.f78,JW,qiD]
   ·simp [Tryz.f78,h0,h1,h2]
theorem qkk (b x body:List UInt8) (h:b.length+x.length+body.length≤200000):b.length+(x.length+body.length)≤qF:=by
 rw [← V0];exact kn h (by decide)
theorem qrl [MaxL] [TxtC] (r:Rq) (he:qy r.epoch) (hn:qy r.number) (hp:r.path.length≤100) (hb:r.body.l.length≤100000):call cx 33 [.agg (Enc.cells r)] [] = some ((.vsl (qcB r).nil (qd (qcB r).l) (qcB r).l.length),[]):=by
 obtain ⟨p,e,n,body⟩:=r;simp only at he hn hp hb;have e1:((e.toNat:Nat):Int) = e:=by unfold qy at he;omega
 have e2:((n.toNat:Nat):Int) = n:=by unfold qy at hn;omega
 refine qq Tryz.func33 rfl ⟨rfl,rfl⟩ ?_;have h1:(p == [47,104,101,108,108,111]) = (p == jJ):=rfl;have h2:(p == [47,98,97,116,99,104]) = (p == js):=rfl;unfold qcB;simp only;cases hc:(p == jJ || p == js) with
 | false =>
  rw [Bool.or_eq_false_iff] at hc;rw [hc.1] at h1;rw [hc.2] at h2;simp [Tryz.f33,Rq.cells,h1,h2]
 | true =>
  unfold XV;by_cases hl:65536 < body.l.length
  ·have kZ:(65536:Int) < (body.l.length:Int):=(by omega);cases hc1:p == jJ
   ·rw [hc1] at hc h1;rw [Bool.false_or] at hc;rw [hc] at h2;simp [Tryz.f33,Rq.cells,h1,h2,hl,kZ]
   ·rw [hc1] at h1;simp [Tryz.f33,Rq.cells,h1,hl,kZ]
  ·have kZ:¬ (65536:Int) < (body.l.length:Int):=(by omega);have a1:=qgX p hp;have a2:=qko e.toNat n.toNat body.l.length (by unfold qy at he;omega) (by unfold qy at hn;omega) (by omega);have l2:=qfv e.toNat n.toNat body.l.length;have l1:=q07 p;rw [e1,e2] at a2;generalize jU p = b at *;generalize vD e.toNat n.toNat body.l.length = x at *;have hm:=qkk b x body.l (by omega);have zf:b.length+x.length≤4611686018427387904:=(by omega);cases hc1:p == jJ
   ·rw [hc1] at hc h1;rw [Bool.false_or] at hc;rw [hc] at h2;simp [Tryz.f33,Rq.cells,h1,h2,hl,kZ,a1,a2,zf,hm,V6,qu,V0]
   ·rw [hc1] at h1;simp [Tryz.f33,Rq.cells,h1,hl,kZ,a1,a2,zf,hm,V6,qu,V0]
theorem qpW (n:Int):(JW n == []) = false:=by unfold JW;rfl
theorem qkj [MaxL] [TxtC] (r:Rs) (he:qy r.epoch) (hn:qy r.number) (hb:r.body.l.length≤100000):call cx 38 [.agg (Enc.cells r)] [] = some ((.vsl (Qz r).nil (qd (Qz r).l) (Qz r).l.length),[]):=by
 obtain ⟨s,e,n,body⟩:=r;simp only at he hn hb;have e1:((e.toNat:Nat):Int) = e:=by unfold qy at he;omega
 have e2:((n.toNat:Nat):Int) = n:=by unfold qy at hn;omega
 have a1:=qqS s;refine qq Tryz.func38 rfl ⟨rfl,rfl⟩ ?_;unfold Qz;simp only;by_cases hs:s = 200∨s = 400∨s = 409
 ·rw [if_pos hs] at a1 ⊢;unfold XV;have hnn:=qpW s;by_cases hl:65536 < body.l.length
  ·have kZ:(65536:Int) < (body.l.length:Int):=(by omega);generalize JW s = b at *;simp [Tryz.f38,Rs.cells,a1,hnn,hl,kZ]
  ·have kZ:¬ (65536:Int) < (body.l.length:Int):=(by omega);have a2:=qko e.toNat n.toNat body.l.length (by unfold qy at he;omega) (by unfold qy at hn;omega) (by omega);have l2:=qfv e.toNat n.toNat body.l.length;have l1:=qjG s;rw [e1,e2] at a2;generalize JW s = b at *;generalize vD e.toNat n.toNat body.l.length = x at *;have hm:=qkk b x body.l (by omega);have zf:b.length+x.length≤4611686018427387904:=(by omega);simp [Tryz.f38,Rs.cells,a1,a2,hl,kZ,zf,hnn,hm,V6,qu,V0]
 ·rw [if_neg hs] at a1 ⊢;simp [Tryz.f38,Rs.cells,a1]
theorem qr4 [MaxL] [TxtC] (b:Sl UInt8) (hb:b.l.length≤100000):call cx 74 [(.vsl b.nil (qd b.l) b.l.length)] [] = some (.tup (if jj stopL b.l 0 = -1 then [.int .i64 0,.bool false] else [.int .i64 (jj stopL b.l 0+4),.bool true]),[]):=by
 refine qq Tryz.func74 rfl ⟨rfl,rfl⟩ ?_;simp [Tryz.f74];refine Run.loopThen (fun (k:Nat) e H'=>k≤b.l.length∧jj stopL (b.l.drop k) k = jj stopL b.l 0∧H' = []∧qf e 0 = some (.vsl b.nil (qd b.l) b.l.length)∧qf e 4 = some (.int .i64 k)) (fun k=>b.l.length - k) 0 ?_ ?_
 ·simp
 rintro k e H' ⟨hk,hi,rfl,k0,k4⟩;obtain ⟨j,hj⟩:∃ j,j = k+4:=⟨_,rfl⟩;have hw:IntKind.i64.wrap ((k:Int)+4) = (j:Int):=by rw [wrap_i64] <;> omega
 have qK:IntKind.i64.wrap ((k:Int)+1) = ((k+1:Nat):Int):=by rw [wrap_i64] <;> omega
 by_cases qh:k+4≤b.l.length
 ·have qk:(j:Int)≤(b.l.length:Int):=by omega
  have vn:j≤b.l.length:=by omega
  have hkj:(k:Int)≤(j:Int):=by omega
  have hkj2:k≤j:=by omega
  have hnn:b.nil = false:=Sl.nn (s:=b) (i:=k) (by omega);have ht:List.take 4 (List.drop k (qd b.l)) = qd ((b.l.drop k).take 4):=by rw [Zb,kr]
  have hk4:j - k = 4:=by omega
  have hwl:((b.l.drop k).take 4).length = 4:=by simp;omega
  have hj4:(j:Int) = (k:Int)+4:=by omega
  rw [zo (by omega),jj,← zo (by omega)] at hi
  have hp:stopL.isPrefixOf (b.l.drop k) = ((b.l.drop k).take 4 == stopL):=by
   rw [Bool.eq_iff_iff,List.isPrefixOf_iff_prefix,beq_iff_eq,List.prefix_iff_eq_take];exact ⟨fun h=>h.symm,fun h=>h.symm⟩
  rw [hp] at hi;cases hq:((b.l.drop k).take 4 == stopL) with
  | true =>
   rw [hq,if_pos rfl] at hi;have ZA:((b.l.drop k).take 4 == [13,10,13,10]) = true:=hq;rw [← hi,if_neg (by omega),← hj4];generalize (b.l.drop k).take 4 = w at *;simp [k0,k4,hw,qk,hkj,hnn,ht,hk4,hwl,ZA]
  | false =>
   rw [hq,if_neg (by decide)] at hi;have ZA:((b.l.drop k).take 4 == [13,10,13,10]) = false:=hq;generalize (b.l.drop k).take 4 = w at *;simp [k0,k4,hw,qK,qk,hkj,hnn,ht,hk4,hwl,ZA];exact ⟨k+1,by omega,by omega,hi,by simp⟩
 ·have qk:¬ (j:Int)≤(b.l.length:Int):=by omega
  have vE:¬ j≤b.l.length:=by omega
  have hi2:jj stopL b.l 0 = -1:=by
   rw [← hi];rcases qcJ stopL (b.l.drop k) k with ⟨i,h1,h2,h3⟩ | h1
   ·have:stopL.length = 4:=rfl;rw [jQ] at h2;omega
   ·exact h1
  simp [k0,k4,hw,qk,hi2]
theorem qsd [MaxL] [TxtC] (b:Sl UInt8) (hb:b.l.length≤100000) (k z:Nat) (hk:k≤b.l.length) (hk1:1≤k) (hz:z < 18446744073709551616):call cx 77 [(.vsl b.nil (qd b.l) b.l.length),.int .i64 k,.int .u64 z] [] =
  some (.tup (if 65536 < z then [.vsl true [] 0,.int .i64 21] else if (b.l.drop k).length < z then [.vsl true [] 0,.int .i64 22] else if z < (b.l.drop k).length then [.vsl true [] 0,.int .i64 21] else [(.vsl (Sl.of (b.l.drop k)).nil (qd (Sl.of (b.l.drop k)).l) (Sl.of (b.l.drop k)).l.length),.int .i64 0]),[]):=by
 refine qq Tryz.func77 rfl ⟨rfl,rfl⟩ ?_;have qK:IntKind.i64.wrap ((b.l.length:Int) - (k:Int)) = ((b.l.length - k:Nat):Int):=by rw [wrap_i64] <;> omega
 have zt:IntKind.u64.wrap ((b.l.length - k:Nat):Int) = ((b.l.length - k:Nat):Int):=by rw [qS];omega
 have hd:(b.l.drop k).length = b.l.length - k:=by simp
 have hnn:b.nil = false:=Sl.nn (s:=b) (i:=0) (by omega);rw [hd];obtain ⟨j,hj⟩:∃ j,j = b.l.length - k:=⟨_,rfl⟩;rw [← hj] at qK zt hd ⊢;by_cases z1:65536 < z
 ·have z1':(65536:Int) < (z:Int):=by omega
  simp [Tryz.f77,z1,z1']
 ·have z1':¬ (65536:Int) < (z:Int):=by omega
  by_cases z2:j < z
  ·have z2':(j:Int) < (z:Int):=(by omega);simp [Tryz.f77,z1,z1',z2,z2',qK,zt]
  ·have z2':¬ (j:Int) < (z:Int):=(by omega);by_cases z3:z < j
   ·have z3':(z:Int) < (j:Int):=(by omega);simp [Tryz.f77,z1,z1',z2,z2',z3,z3',qK,zt]
   ·have z3':¬ (z:Int) < (j:Int):=(by omega);have VH:(k:Int)≤(b.l.length:Int):=by omega
    have ht:List.take j (List.drop k (qd b.l)) = qd (b.l.drop k):=by
     rw [Zb];exact qu (by simp;omega)
    have hm:j≤qF:=kn (show j≤100000 by omega) (by decide);simp [Tryz.f77,z1,z1',z2,z2',z3,z3',qK,zt,hnn,VH,← hj,ht,hm,hd]
theorem qeH:∀ (t:List UInt8) (k:Nat),k < (zS t).length→∃ c,t[k]? = some c∧c≠13
 | [],k,h=>by simp [zS] at h
 | c :: l,k,h=>by
  unfold zS at h;by_cases hc:c = 13
  ·rw [if_pos hc] at h;simp at h
  ·rw [if_neg hc] at h;cases k with
   | zero=>exact ⟨c,rfl,hc⟩
   | succ k=>exact qeH l k (by simpa using h)
theorem qeG:∀ (t:List UInt8),t[(zS t).length]? = none∨t[(zS t).length]? = some 13
 | []=>by simp [zS]
 | c :: l=>by
  unfold zS;by_cases hc:c = 13
  ·rw [if_pos hc];simp [hc]
  ·rw [if_neg hc];simpa using qeG l
def qj1 (r0:List UInt8):Nat→Nat→Nat→Nat→List UInt8→Prop
 | 0,x,y,z,r=>x = 0∧y = 0∧z = 0∧r = r0
 | 1,x,y,z,r=>Zs epochL r0 = some (x,r)∧y = 0∧z = 0
 | 2,x,y,z,r=>z = 0∧∃ r1,Zs epochL r0 = some (x,r1)∧Zs numberL r1 = some (y,r)
 | _,x,y,z,r=>∃ r1 r2,Zs epochL r0 = some (x,r1)∧Zs numberL r1 = some (y,r2)∧Zs lengthL r2 = some (z,r)
set_option maxHeartbeats 4000000 in
set_option maxRecDepth 4000 in
theorem qj0 [MaxL] [TxtC] (s:List UInt8) (hs:s.length < 1000000) :
  (∃ x y z,Jz s = some (x,y,z)∧call cx 76 [.str s] [] = some (.tup [.agg [.int .u64 (x:Nat),.int .u64 (y:Nat),.int .u64 (z:Nat)],.bool true],[])) ∨
  (Jz s = none∧∃ x y z:Nat,call cx 76 [.str s] [] = some (.tup [.agg [.int .u64 x,.int .u64 y,.int .u64 z],.bool false],[])):=by
 suffices h:∃ r,call cx 76 [.str s] [] = some r∧((∃ x y z:Nat,Jz s = some (x,y,z)∧r = (.tup [.agg [.int .u64 x,.int .u64 y,.int .u64 z],.bool true],[]))∨(Jz s = none∧∃ x y z:Nat,r = (.tup [.agg [.int .u64 x,.int .u64 y,.int .u64 z],.bool false],[]))) by
  obtain ⟨r,h1,⟨x,y,z,h2,rfl⟩ | ⟨h2,x,y,z,rfl⟩⟩:=h
  ·exact .inl ⟨x,y,z,h2,h1⟩
  ·exact .inr ⟨h2,x,y,z,h1⟩
 refine vB (fun r=>(∃ x y z:Nat,Jz s = some (x,y,z)∧r = (D.tup [.agg [.int .u64 x,.int .u64 y,.int .u64 z],.bool true],[]))∨(Jz s = none∧∃ x y z:Nat,r = (D.tup [.agg [.int .u64 x,.int .u64 y,.int .u64 z],.bool false],[]))) Tryz.func76 rfl ⟨rfl,rfl⟩ ?_
 have hN:Jz s = match Zs epochL s with
    | none=>none
    | some (x,r1)=>match Zs numberL r1 with
     | none=>none
     | some (y,r2)=>match Zs lengthL r2 with
      | none=>none
      | some (z,r3)=>if r3 = crlf then some (x,y,z) else none:=rfl
 generalize Jz s = res at *;obtain ⟨n,hn⟩:∃ n,n = s.length:=⟨_,rfl⟩;rw [← hn] at hs;simp [Tryz.f76]
 refine Run.loopThen (fun (q:Nat × Nat × Nat × Nat × List UInt8) e H'=>q.1≤3∧q.2.2.2.2.length≤n∧q.2.1 < 18446744073709551616∧q.2.2.1 < 18446744073709551616∧q.2.2.2.1 < 18446744073709551616∧qj1 s q.1 q.2.1 q.2.2.1 q.2.2.2.1 q.2.2.2.2 ∧
   H' = [some [.int .u64 0,.int .u64 0,.int .u64 0],some [.int .u64 (q.2.1:Nat),.int .u64 (q.2.2.1:Nat),.int .u64 (q.2.2.2.1:Nat)],some [.str epochL,.str numberL,.str lengthL]] ∧
   qf e 2 = some (.optr 0 3 0)∧qf e 4 = some (.optr 1 3 0)∧qf e 5 = some (.osl 2 3 0 3 1)∧qf e 6 = some (.str q.2.2.2.2)∧qf e 7 = some (.int .i64 (q.1:Nat))) (fun q=>3 - q.1) (0,0,0,0,s) ?_ ?_
 ·simp [qj1,hn,epochL,numberL,lengthL]
 rintro ⟨i,x,y,z,r⟩ e H' ⟨hi,hrl,hx,hy,hz,hI,rfl,k2,k4,k5,k6,k7⟩;simp only at hi hrl hx hy hz hI k6 k7;have:i = 0∨i = 1∨i = 2∨i = 3:=by omega
 rcases this with rfl | rfl | rfl | rfl
 ·obtain ⟨rfl,rfl,rfl,rfl⟩:=hI;have hb:=qdc r epochL (by omega) (by decide)
  have zj:Zs epochL r = if pre epochL r then
    match ja (zS (r.drop epochL.length)) with
    | none=>none
    | some v=>if ((r.drop epochL.length).drop (zS (r.drop epochL.length)).length).take 2 = crlf then some (v,(r.drop epochL.length).drop ((zS (r.drop epochL.length)).length+2)) else none
   else none:=rfl
  cases hp:pre epochL r with
  | false =>
   rw [hp,if_neg (by decide)] at hb zj;rw [zj] at hN;simp [k2,k4,k5,k6,k7,hb];exact ⟨hN,0,rfl⟩
  | true =>
   rw [hp,if_pos rfl] at hb zj;have jq:(r.drop epochL.length).length≤n:=(by simp;omega);generalize r.drop epochL.length = t at *;simp [k2,k4,k5,k6,k7,hb]
   refine Run.loopThen (fun (k:Nat) e H'=>k≤(zS t).length∧
     H' = [some [.int .u64 0,.int .u64 0,.int .u64 0],some [.int .u64 (0:Nat),.int .u64 (0:Nat),.int .u64 (0:Nat)],some [.str epochL,.str numberL,.str lengthL]] ∧
     qf e 2 = some (.optr 0 3 0)∧qf e 4 = some (.optr 1 3 0)∧qf e 5 = some (.osl 2 3 0 3 1)∧qf e 7 = some (.int .i64 (0:Nat))∧qf e 8 = some (.str t)∧qf e 10 = some (.int .i64 k)) (fun k=>(zS t).length - k) 0 ?_ ?_
   ·simp
   rintro k e1 H1 ⟨hk,rfl,j2,j4,j5,j7,j8,j10⟩;have hul:=qeF t;have qK:IntKind.i64.wrap ((k:Int)+1) = ((k+1:Nat):Int):=(by rw [wrap_i64] <;> omega);by_cases qh:k < (zS t).length
   ·have qk:(k:Int) < (t.length:Int):=(by omega);have vE:k < t.length:=(by omega);obtain ⟨c,hc1,kJ⟩:=qeH t k qh;have hc3:¬ (c.toNat:Int) = 13:=fun h=>kJ (UInt8.toNat_inj.1 (show c.toNat = 13 by omega));simp [j2,j4,j5,j7,j8,j10,qk,hc1,hc3,qK];exact ⟨k+1,by omega,by omega,rfl⟩
   ·have hke:k = (zS t).length:=(by omega);have zu:=qeG t;have qw:=qdj t;have vl:=qfe (zS t) (by omega);rw [← hke] at zj zu qw;rw [← qw] at vl zj;have zt:IntKind.i64.wrap ((k:Int)+2) = ((k+2:Nat):Int):=(by rw [wrap_i64] <;> omega);have ke:k≤t.length:=(by omega);have ku:(k:Int)≤(t.length:Int):=(by omega);have e2:k+2 - k = 2:=(by omega);obtain ⟨rest,X4⟩:∃ rest,rest = List.drop (k+2) t:=⟨_,rfl⟩;have QQ:List.take (t.length - (k+2)) (List.drop (k+2) t) = rest:=(by rw [X4];exact qu (by simp));have vR:rest.length≤n:=(by rw [X4];simp;omega);rw [← X4] at zj
    have t2l:k+2≤t.length∨(t.drop k).take 2≠crlf:=by
     by_cases h:k+2≤t.length
     ·exact .inl h
     ·refine .inr fun h2=>?_;have:=congrArg List.length h2;simp [crlf] at this;omega
    have htcr:((t.drop k).take 2 = crlf) = ((t.drop k).take 2 = [13,10]):=rfl;generalize Vr:(t.drop k).take 2 = t2 at *;have hl3b:=zj;cases hn:ja (List.take k t) with
    | none =>
     rw [hn] at vl zj;rw [zj] at hN;rcases zu with zu | zu
     ·have qk:¬ (k:Int) < (t.length:Int):=(by have:=List.getElem?_eq_none_iff.1 zu;omega);simp [j2,j4,j5,j7,j8,j10,qk,ku,vl];exact ⟨hN,0,rfl⟩
     ·have vE:k < t.length:=(List.getElem?_eq_some_iff.1 zu).1;have qk:(k:Int) < (t.length:Int):=(by omega);simp [j2,j4,j5,j7,j8,j10,qk,ku,zu,vl];exact ⟨hN,0,rfl⟩
    | some v =>
     have hv:=(qfw hn).1;rw [hn] at vl zj;simp only at vl zj;by_cases Jo:t2 = crlf
     ·rw [if_pos Jo] at zj;have hk2:k+2≤t.length:=t2l.resolve_right (fun h=>h Jo);have jY:¬ (t.length:Int) < ((k+2:Nat):Int):=(by omega);have Jn:((k+2:Nat):Int)≤(t.length:Int):=(by omega);have Ze:(t2 == [13,10]) = true:=beq_iff_eq.2 Jo;rw [zj] at hN;rcases zu with zu | zu
      ·have:=List.getElem?_eq_none_iff.1 zu;omega
      ·have vE:k < t.length:=(List.getElem?_eq_some_iff.1 zu).1;have qk:(k:Int) < (t.length:Int):=(by omega);obtain ⟨k3,kf⟩:∃ k3,k3 = k+2:=⟨_,rfl⟩;have hkk:k≤k3:=(by omega);rw [← kf] at zt hk2 jY Jn QQ e2;simp [j2,j4,j5,j7,j8,j10,qk,ku,zu,vl,hkk,zt,jY,Jn,e2,Vr,Ze,QQ];exact ⟨1,by omega,by omega,v,0,0,rest,by omega,hv,by omega,by omega,⟨zj,rfl,rfl⟩,⟨rfl,rfl,rfl⟩,rfl,rfl⟩
     ·rw [if_neg Jo] at zj;rw [zj] at hN;have Ze:(t2 == [13,10]) = false:=beq_eq_false_iff_ne.2 Jo;rcases zu with zu | zu
      ·have qk:¬ (k:Int) < (t.length:Int):=(by have:=List.getElem?_eq_none_iff.1 zu;omega);have jY:(t.length:Int) < ((k+2:Nat):Int):=(by omega);obtain ⟨k3,kf⟩:∃ k3,k3 = k+2:=⟨_,rfl⟩;rw [← kf] at zt jY;simp [j2,j4,j5,j7,j8,j10,qk,ku,vl,zt,jY];exact ⟨hN,0,rfl⟩
      ·have vE:k < t.length:=(List.getElem?_eq_some_iff.1 zu).1;have qk:(k:Int) < (t.length:Int):=(by omega);by_cases hk2:k+2≤t.length
       ·have jY:¬ (t.length:Int) < ((k+2:Nat):Int):=(by omega);have Jn:((k+2:Nat):Int)≤(t.length:Int):=(by omega);obtain ⟨k3,kf⟩:∃ k3,k3 = k+2:=⟨_,rfl⟩;have hkk:k≤k3:=(by omega);rw [← kf] at zt hk2 jY Jn e2;simp [j2,j4,j5,j7,j8,j10,qk,ku,zu,vl,hkk,zt,jY,Jn,e2,Vr,Ze];exact ⟨hN,0,rfl⟩
       ·have jY:(t.length:Int) < ((k+2:Nat):Int):=(by omega);obtain ⟨k3,kf⟩:∃ k3,k3 = k+2:=⟨_,rfl⟩;rw [← kf] at zt jY;simp [j2,j4,j5,j7,j8,j10,qk,ku,zu,vl,zt,jY];exact ⟨hN,0,rfl⟩
 ·obtain ⟨Vt,rfl,rfl⟩:=hI;rw [Vt] at hN;simp only at hN;have hb:=qdc r numberL (by omega) (by decide)
  have zj:Zs numberL r = if pre numberL r then
    match ja (zS (r.drop numberL.length)) with
    | none=>none
    | some v=>if ((r.drop numberL.length).drop (zS (r.drop numberL.length)).length).take 2 = crlf then some (v,(r.drop numberL.length).drop ((zS (r.drop numberL.length)).length+2)) else none
   else none:=rfl
  cases hp:pre numberL r with
  | false =>
   rw [hp,if_neg (by decide)] at hb zj;rw [zj] at hN;simp [k2,k4,k5,k6,k7,hb];exact ⟨hN,⟨x,rfl⟩,0,rfl⟩
  | true =>
   rw [hp,if_pos rfl] at hb zj;have jq:(r.drop numberL.length).length≤n:=(by simp;omega);generalize r.drop numberL.length = t at *;simp [k2,k4,k5,k6,k7,hb]
   refine Run.loopThen (fun (k:Nat) e H'=>k≤(zS t).length∧
     H' = [some [.int .u64 0,.int .u64 0,.int .u64 0],some [.int .u64 (x:Nat),.int .u64 (0:Nat),.int .u64 (0:Nat)],some [.str epochL,.str numberL,.str lengthL]] ∧
     qf e 2 = some (.optr 0 3 0)∧qf e 4 = some (.optr 1 3 0)∧qf e 5 = some (.osl 2 3 0 3 1)∧qf e 7 = some (.int .i64 (1:Nat))∧qf e 8 = some (.str t)∧qf e 10 = some (.int .i64 k)) (fun k=>(zS t).length - k) 0 ?_ ?_
   ·simp
   rintro k e1 H1 ⟨hk,rfl,j2,j4,j5,j7,j8,j10⟩;have hul:=qeF t;have qK:IntKind.i64.wrap ((k:Int)+1) = ((k+1:Nat):Int):=(by rw [wrap_i64] <;> omega);by_cases qh:k < (zS t).length
   ·have qk:(k:Int) < (t.length:Int):=(by omega);have vE:k < t.length:=(by omega);obtain ⟨c,hc1,kJ⟩:=qeH t k qh;have hc3:¬ (c.toNat:Int) = 13:=fun h=>kJ (UInt8.toNat_inj.1 (show c.toNat = 13 by omega));simp [j2,j4,j5,j7,j8,j10,qk,hc1,hc3,qK];exact ⟨k+1,by omega,by omega,rfl⟩
   ·have hke:k = (zS t).length:=(by omega);have zu:=qeG t;have qw:=qdj t;have vl:=qfe (zS t) (by omega);rw [← hke] at zj zu qw;rw [← qw] at vl zj;have zt:IntKind.i64.wrap ((k:Int)+2) = ((k+2:Nat):Int):=(by rw [wrap_i64] <;> omega);have ke:k≤t.length:=(by omega);have ku:(k:Int)≤(t.length:Int):=(by omega);have e2:k+2 - k = 2:=(by omega);obtain ⟨rest,X4⟩:∃ rest,rest = List.drop (k+2) t:=⟨_,rfl⟩;have QQ:List.take (t.length - (k+2)) (List.drop (k+2) t) = rest:=(by rw [X4];exact qu (by simp));have vR:rest.length≤n:=(by rw [X4];simp;omega);rw [← X4] at zj
    have t2l:k+2≤t.length∨(t.drop k).take 2≠crlf:=by
     by_cases h:k+2≤t.length
     ·exact .inl h
     ·refine .inr fun h2=>?_;have:=congrArg List.length h2;simp [crlf] at this;omega
    have htcr:((t.drop k).take 2 = crlf) = ((t.drop k).take 2 = [13,10]):=rfl;generalize Vr:(t.drop k).take 2 = t2 at *;have hl3b:=zj;cases hn:ja (List.take k t) with
    | none =>
     rw [hn] at vl zj;rw [zj] at hN;rcases zu with zu | zu
     ·have qk:¬ (k:Int) < (t.length:Int):=(by have:=List.getElem?_eq_none_iff.1 zu;omega);simp [j2,j4,j5,j7,j8,j10,qk,ku,vl];exact ⟨hN,⟨x,rfl⟩,0,rfl⟩
     ·have vE:k < t.length:=(List.getElem?_eq_some_iff.1 zu).1;have qk:(k:Int) < (t.length:Int):=(by omega);simp [j2,j4,j5,j7,j8,j10,qk,ku,zu,vl];exact ⟨hN,⟨x,rfl⟩,0,rfl⟩
    | some v =>
     have hv:=(qfw hn).1;rw [hn] at vl zj;simp only at vl zj;by_cases Jo:t2 = crlf
     ·rw [if_pos Jo] at zj;have hk2:k+2≤t.length:=t2l.resolve_right (fun h=>h Jo);have jY:¬ (t.length:Int) < ((k+2:Nat):Int):=(by omega);have Jn:((k+2:Nat):Int)≤(t.length:Int):=(by omega);have Ze:(t2 == [13,10]) = true:=beq_iff_eq.2 Jo;rw [zj] at hN;rcases zu with zu | zu
      ·have:=List.getElem?_eq_none_iff.1 zu;omega
      ·have vE:k < t.length:=(List.getElem?_eq_some_iff.1 zu).1;have qk:(k:Int) < (t.length:Int):=(by omega);obtain ⟨k3,kf⟩:∃ k3,k3 = k+2:=⟨_,rfl⟩;have hkk:k≤k3:=(by omega);rw [← kf] at zt hk2 jY Jn QQ e2;simp [j2,j4,j5,j7,j8,j10,qk,ku,zu,vl,hkk,zt,jY,Jn,e2,Vr,Ze,QQ];exact ⟨2,by omega,by omega,x,v,0,rest,by omega,hx,hv,by omega,⟨rfl,_,Vt,zj⟩,⟨rfl,rfl,rfl⟩,rfl,rfl⟩
     ·rw [if_neg Jo] at zj;rw [zj] at hN;have Ze:(t2 == [13,10]) = false:=beq_eq_false_iff_ne.2 Jo;rcases zu with zu | zu
      ·have qk:¬ (k:Int) < (t.length:Int):=(by have:=List.getElem?_eq_none_iff.1 zu;omega);have jY:(t.length:Int) < ((k+2:Nat):Int):=(by omega);obtain ⟨k3,kf⟩:∃ k3,k3 = k+2:=⟨_,rfl⟩;rw [← kf] at zt jY;simp [j2,j4,j5,j7,j8,j10,qk,ku,vl,zt,jY];exact ⟨hN,⟨x,rfl⟩,0,rfl⟩
      ·have vE:k < t.length:=(List.getElem?_eq_some_iff.1 zu).1;have qk:(k:Int) < (t.length:Int):=(by omega);by_cases hk2:k+2≤t.length
       ·have jY:¬ (t.length:Int) < ((k+2:Nat):Int):=(by omega);have Jn:((k+2:Nat):Int)≤(t.length:Int):=(by omega);obtain ⟨k3,kf⟩:∃ k3,k3 = k+2:=⟨_,rfl⟩;have hkk:k≤k3:=(by omega);rw [← kf] at zt hk2 jY Jn e2;simp [j2,j4,j5,j7,j8,j10,qk,ku,zu,vl,hkk,zt,jY,Jn,e2,Vr,Ze];exact ⟨hN,⟨x,rfl⟩,0,rfl⟩
       ·have jY:(t.length:Int) < ((k+2:Nat):Int):=(by omega);obtain ⟨k3,kf⟩:∃ k3,k3 = k+2:=⟨_,rfl⟩;rw [← kf] at zt jY;simp [j2,j4,j5,j7,j8,j10,qk,ku,zu,vl,zt,jY];exact ⟨hN,⟨x,rfl⟩,0,rfl⟩
 ·obtain ⟨rfl,r1,Vt,hI2⟩:=hI;rw [Vt] at hN;simp only [hI2] at hN;have hb:=qdc r lengthL (by omega) (by decide)
  have zj:Zs lengthL r = if pre lengthL r then
    match ja (zS (r.drop lengthL.length)) with
    | none=>none
    | some v=>if ((r.drop lengthL.length).drop (zS (r.drop lengthL.length)).length).take 2 = crlf then some (v,(r.drop lengthL.length).drop ((zS (r.drop lengthL.length)).length+2)) else none
   else none:=rfl
  cases hp:pre lengthL r with
  | false =>
   rw [hp,if_neg (by decide)] at hb zj;rw [zj] at hN;simp [k2,k4,k5,k6,k7,hb];exact ⟨hN,⟨x,rfl⟩,⟨y,rfl⟩,0,rfl⟩
  | true =>
   rw [hp,if_pos rfl] at hb zj;have jq:(r.drop lengthL.length).length≤n:=(by simp;omega);generalize r.drop lengthL.length = t at *;simp [k2,k4,k5,k6,k7,hb]
   refine Run.loopThen (fun (k:Nat) e H'=>k≤(zS t).length∧
     H' = [some [.int .u64 0,.int .u64 0,.int .u64 0],some [.int .u64 (x:Nat),.int .u64 (y:Nat),.int .u64 (0:Nat)],some [.str epochL,.str numberL,.str lengthL]] ∧
     qf e 2 = some (.optr 0 3 0)∧qf e 4 = some (.optr 1 3 0)∧qf e 5 = some (.osl 2 3 0 3 1)∧qf e 7 = some (.int .i64 (2:Nat))∧qf e 8 = some (.str t)∧qf e 10 = some (.int .i64 k)) (fun k=>(zS t).length - k) 0 ?_ ?_
   ·simp
   rintro k e1 H1 ⟨hk,rfl,j2,j4,j5,j7,j8,j10⟩;have hul:=qeF t;have qK:IntKind.i64.wrap ((k:Int)+1) = ((k+1:Nat):Int):=(by rw [wrap_i64] <;> omega);by_cases qh:k < (zS t).length
   ·have qk:(k:Int) < (t.length:Int):=(by omega);have vE:k < t.length:=(by omega);obtain ⟨c,hc1,kJ⟩:=qeH t k qh;have hc3:¬ (c.toNat:Int) = 13:=fun h=>kJ (UInt8.toNat_inj.1 (show c.toNat = 13 by omega));simp [j2,j4,j5,j7,j8,j10,qk,hc1,hc3,qK];exact ⟨k+1,by omega,by omega,rfl⟩
   ·have hke:k = (zS t).length:=(by omega);have zu:=qeG t;have qw:=qdj t;have vl:=qfe (zS t) (by omega);rw [← hke] at zj zu qw;rw [← qw] at vl zj;have zt:IntKind.i64.wrap ((k:Int)+2) = ((k+2:Nat):Int):=(by rw [wrap_i64] <;> omega);have ke:k≤t.length:=(by omega);have ku:(k:Int)≤(t.length:Int):=(by omega);have e2:k+2 - k = 2:=(by omega);obtain ⟨rest,X4⟩:∃ rest,rest = List.drop (k+2) t:=⟨_,rfl⟩;have QQ:List.take (t.length - (k+2)) (List.drop (k+2) t) = rest:=(by rw [X4];exact qu (by simp));have vR:rest.length≤n:=(by rw [X4];simp;omega);rw [← X4] at zj
    have t2l:k+2≤t.length∨(t.drop k).take 2≠crlf:=by
     by_cases h:k+2≤t.length
     ·exact .inl h
     ·refine .inr fun h2=>?_;have:=congrArg List.length h2;simp [crlf] at this;omega
    have htcr:((t.drop k).take 2 = crlf) = ((t.drop k).take 2 = [13,10]):=rfl;generalize Vr:(t.drop k).take 2 = t2 at *;have hl3b:=zj;cases hn:ja (List.take k t) with
    | none =>
     rw [hn] at vl zj;rw [zj] at hN;rcases zu with zu | zu
     ·have qk:¬ (k:Int) < (t.length:Int):=(by have:=List.getElem?_eq_none_iff.1 zu;omega);simp [j2,j4,j5,j7,j8,j10,qk,ku,vl];exact ⟨hN,⟨x,rfl⟩,⟨y,rfl⟩,0,rfl⟩
     ·have vE:k < t.length:=(List.getElem?_eq_some_iff.1 zu).1;have qk:(k:Int) < (t.length:Int):=(by omega);simp [j2,j4,j5,j7,j8,j10,qk,ku,zu,vl];exact ⟨hN,⟨x,rfl⟩,⟨y,rfl⟩,0,rfl⟩
    | some v =>
     have hv:=(qfw hn).1;rw [hn] at vl zj;simp only at vl zj;by_cases Jo:t2 = crlf
     ·rw [if_pos Jo] at zj;have hk2:k+2≤t.length:=t2l.resolve_right (fun h=>h Jo);have jY:¬ (t.length:Int) < ((k+2:Nat):Int):=(by omega);have Jn:((k+2:Nat):Int)≤(t.length:Int):=(by omega);have Ze:(t2 == [13,10]) = true:=beq_iff_eq.2 Jo;rw [zj] at hN;rcases zu with zu | zu
      ·have:=List.getElem?_eq_none_iff.1 zu;omega
      ·have vE:k < t.length:=(List.getElem?_eq_some_iff.1 zu).1;have qk:(k:Int) < (t.length:Int):=(by omega);obtain ⟨k3,kf⟩:∃ k3,k3 = k+2:=⟨_,rfl⟩;have hkk:k≤k3:=(by omega);rw [← kf] at zt hk2 jY Jn QQ e2;simp [j2,j4,j5,j7,j8,j10,qk,ku,zu,vl,hkk,zt,jY,Jn,e2,Vr,Ze,QQ];exact ⟨3,by omega,by omega,x,y,v,rest,by omega,hx,hy,hv,⟨_,_,Vt,hI2,zj⟩,⟨rfl,rfl,rfl⟩,rfl,rfl⟩
     ·rw [if_neg Jo] at zj;rw [zj] at hN;have Ze:(t2 == [13,10]) = false:=beq_eq_false_iff_ne.2 Jo;rcases zu with zu | zu
      ·have qk:¬ (k:Int) < (t.length:Int):=(by have:=List.getElem?_eq_none_iff.1 zu;omega);have jY:(t.length:Int) < ((k+2:Nat):Int):=(by omega);obtain ⟨k3,kf⟩:∃ k3,k3 = k+2:=⟨_,rfl⟩;rw [← kf] at zt jY;simp [j2,j4,j5,j7,j8,j10,qk,ku,vl,zt,jY];exact ⟨hN,⟨x,rfl⟩,⟨y,rfl⟩,0,rfl⟩
      ·have vE:k < t.length:=(List.getElem?_eq_some_iff.1 zu).1;have qk:(k:Int) < (t.length:Int):=(by omega);by_cases hk2:k+2≤t.length
       ·have jY:¬ (t.length:Int) < ((k+2:Nat):Int):=(by omega);have Jn:((k+2:Nat):Int)≤(t.length:Int):=(by omega);obtain ⟨k3,kf⟩:∃ k3,k3 = k+2:=⟨_,rfl⟩;have hkk:k≤k3:=(by omega);rw [← kf] at zt hk2 jY Jn e2;simp [j2,j4,j5,j7,j8,j10,qk,ku,zu,vl,hkk,zt,jY,Jn,e2,Vr,Ze];exact ⟨hN,⟨x,rfl⟩,⟨y,rfl⟩,0,rfl⟩
       ·have jY:(t.length:Int) < ((k+2:Nat):Int):=(by omega);obtain ⟨k3,kf⟩:∃ k3,k3 = k+2:=⟨_,rfl⟩;rw [← kf] at zt jY;simp [j2,j4,j5,j7,j8,j10,qk,ku,zu,vl,zt,jY];exact ⟨hN,⟨x,rfl⟩,⟨y,rfl⟩,0,rfl⟩
 ·obtain ⟨r1,r2,Vt,hI2,hI3⟩:=hI;rw [Vt] at hN;simp only [hI2,hI3] at hN;by_cases hr:r = crlf
  ·rw [if_pos hr] at hN;have zQ:(r == [13,10]) = true:=beq_iff_eq.2 hr;simp [k2,k4,k5,k6,k7,zQ];exact ⟨x,y,z,hN,rfl,rfl,rfl⟩
  ·rw [if_neg hr] at hN;have zQ:(r == [13,10]) = false:=beq_eq_false_iff_ne.2 hr;simp [k2,k4,k5,k6,k7,zQ];exact ⟨hN,⟨x,rfl⟩,⟨y,rfl⟩,z,rfl⟩
theorem qrW (b:List UInt8) {l:List (List UInt8)} (hl:qjc l):vM b l = if jj stopL b 0 = -1 then (.zero,22) else qa9 (b.take ((jj stopL b 0).toNat+4)) (b.drop ((jj stopL b 0).toNat+4)) l 0:=by
 rw [qkH _ _ _ _ hl];rfl
set_option maxHeartbeats 4000000 in
set_option maxRecDepth 4000 in
theorem qri [MaxL] [TxtC] (b:Sl UInt8) (hb:b.l.length≤90000):call cx 37 [(.vsl b.nil (qd b.l) b.l.length)] [] = some (.tup [.agg (Enc.cells (vN b.l).1),.int .i64 (vN b.l).2],[]):=by
 have hh:=qr4 b (by omega);have hP:=qrW b.l qrk;have jd:vN b.l = if (vM b.l rqL).2 = 0 then (⟨qaH (vM b.l rqL).1.kind,(vM b.l rqL).1.epoch,(vM b.l rqL).1.number,(vM b.l rqL).1.body⟩,0) else (⟨[],0,0,.none⟩,(vM b.l rqL).2):=rfl;generalize vM b.l rqL = m at *;generalize vN b.l = res at *;refine qq Tryz.func37 rfl ⟨rfl,rfl⟩ ?_;rcases qcJ stopL b.l 0 with ⟨i,h1,h2,h3⟩ | h1
 ·rw [vT] at h1;have h4:stopL.length = 4:=rfl;rw [h4] at h2;have h5:¬ ((i:Nat):Int) = -1:=by omega
  have h6:((i:Int)+4) = ((i+4:Nat):Int):=by omega
  have h7:((i:Nat):Int).toNat = i:=by omega
  rw [h1,if_neg h5,h6] at hh;rw [h1,if_neg h5,h7] at hP;obtain ⟨k,hk⟩:∃ k,k = i+4:=⟨_,rfl⟩;rw [← hk] at hh hP h2;have hk1:1≤k:=by omega
  have hbody:=fun z hz=>qsd b (by omega) k z h2 hk1 hz;have hnn:b.nil = false:=Sl.nn (s:=b) (i:=0) (by omega);have qw:List.take k (qd b.l) = qd (b.l.take k):=kr _ _;have hsl:(b.l.take k).length = k:=by rw [jn];omega
  have VH:(k:Int)≤(b.l.length:Int):=by omega
  generalize b.l.take k = s at *;generalize b.l.drop k = body at *;have hsl2:s.length < 1000000:=by omega
  clear h1 h5 h6 h7 hk h3;simp [Tryz.f37,hh]
  refine Run.loopThen (fun (j:Nat) e H'=>j≤2∧qa9 s body (rqL.drop j) j = m∧H' = [some [.str [],.int .u64 0,.int .u64 0,.vsl true [] 0],some [.str jJ,.str js]] ∧
   qf e 0 = some (.vsl b.nil (qd b.l) b.l.length)∧qf e 2 = some (.optr 0 4 0)∧qf e 4 = some (.int .i64 k)∧qf e 6 = some (.osl 1 2 0 2 1)∧qf e 7 = some (.int .i64 j)) (fun j=>2 - j) 0 ?_ ?_
  ·simp [hP,jJ,js]
  rintro j e H' ⟨hj,hm,rfl,k0,k2,k4,k6,k7⟩;rw [hnn] at k0 hbody;have VI:j = 0∨j = 1∨j = 2:=by omega
  rcases VI with rfl | rfl | rfl
  ·rw [show rqL.drop 0 = jU jJ :: rqL.drop 1 from rfl,qa9] at hm;have hst:=qgX jJ (by decide);have jK:=qdc s (jU jJ) hsl2 (by decide);cases hp:pre (jU jJ) s with
   | false =>
    rw [hp,if_neg (by decide)] at jK hm;generalize jU jJ = w at *;simp [k0,k2,k4,k6,k7,VH,qw,hst,jK,hsl];exact ⟨1,by omega,by omega,hm,by simp [hnn]⟩
   | true =>
    rw [hp,if_pos rfl] at jK hm;have jq:(s.drop (jU jJ).length).length≤s.length:=(by simp);generalize s.drop (jU jJ).length = t at *;generalize jU jJ = w at *;rcases qj0 t (by omega) with ⟨x,y,z,n1,n2⟩ | ⟨n1,x,y,z,n2⟩
    ·rw [n1] at hm;simp only at hm;have hz:=(qgC n1).2.2.1;have QR:=hbody z hz;unfold qci at hm;by_cases z1:65536 < z
     ·rw [if_pos z1] at QR hm;subst hm;rw [if_neg (by decide)] at jd;subst jd;simp [k0,k2,k4,k6,k7,VH,qw,hst,jK,hsl,n2,QR,Rq.cells]
     ·rw [if_neg z1] at QR hm;by_cases z2:body.length < z
      ·rw [if_pos z2] at QR hm;subst hm;rw [if_neg (by decide)] at jd;subst jd;simp [k0,k2,k4,k6,k7,VH,qw,hst,jK,hsl,n2,QR,Rq.cells]
      ·rw [if_neg z2] at QR hm;by_cases z3:z < body.length
       ·rw [if_pos z3] at QR hm;subst hm;rw [if_neg (by decide)] at jd;subst jd;simp [k0,k2,k4,k6,k7,VH,qw,hst,jK,hsl,n2,QR,Rq.cells]
       ·rw [if_neg z3] at QR hm;subst hm;rw [if_pos rfl] at jd;subst jd;simp [k0,k2,k4,k6,k7,VH,qw,hst,jK,hsl,n2,QR,Rq.cells,qaH]
        try rfl
    ·rw [n1] at hm;simp only at hm;subst hm;rw [if_neg (by decide)] at jd;subst jd;simp [k0,k2,k4,k6,k7,VH,qw,hst,jK,hsl,n2,Rq.cells]
  ·rw [show rqL.drop 1 = jU js :: rqL.drop 2 from rfl,qa9] at hm;have hst:=qgX js (by decide);have jK:=qdc s (jU js) hsl2 (by decide);cases hp:pre (jU js) s with
   | false =>
    rw [hp,if_neg (by decide)] at jK hm;generalize jU js = w at *;simp [k0,k2,k4,k6,k7,VH,qw,hst,jK,hsl];exact ⟨2,by omega,by omega,hm,by simp [hnn]⟩
   | true =>
    rw [hp,if_pos rfl] at jK hm;have jq:(s.drop (jU js).length).length≤s.length:=(by simp);generalize s.drop (jU js).length = t at *;generalize jU js = w at *;rcases qj0 t (by omega) with ⟨x,y,z,n1,n2⟩ | ⟨n1,x,y,z,n2⟩
    ·rw [n1] at hm;simp only at hm;have hz:=(qgC n1).2.2.1;have QR:=hbody z hz;unfold qci at hm;by_cases z1:65536 < z
     ·rw [if_pos z1] at QR hm;subst hm;rw [if_neg (by decide)] at jd;subst jd;simp [k0,k2,k4,k6,k7,VH,qw,hst,jK,hsl,n2,QR,Rq.cells]
     ·rw [if_neg z1] at QR hm;by_cases z2:body.length < z
      ·rw [if_pos z2] at QR hm;subst hm;rw [if_neg (by decide)] at jd;subst jd;simp [k0,k2,k4,k6,k7,VH,qw,hst,jK,hsl,n2,QR,Rq.cells]
      ·rw [if_neg z2] at QR hm;by_cases z3:z < body.length
       ·rw [if_pos z3] at QR hm;subst hm;rw [if_neg (by decide)] at jd;subst jd;simp [k0,k2,k4,k6,k7,VH,qw,hst,jK,hsl,n2,QR,Rq.cells]
       ·rw [if_neg z3] at QR hm;subst hm;rw [if_pos rfl] at jd;subst jd;simp [k0,k2,k4,k6,k7,VH,qw,hst,jK,hsl,n2,QR,Rq.cells,qaH]
        try rfl
    ·rw [n1] at hm;simp only at hm;subst hm;rw [if_neg (by decide)] at jd;subst jd;simp [k0,k2,k4,k6,k7,VH,qw,hst,jK,hsl,n2,Rq.cells]
  ·rw [show rqL.drop 2 = [] from rfl,qa9] at hm;subst hm;rw [if_neg (by decide)] at jd;subst jd;simp [k0,k2,k4,k6,k7,Rq.cells]
 ·rw [h1,if_pos rfl] at hh hP;subst hP;rw [if_neg (by decide)] at jd;subst jd;simp [Tryz.f37,hh,Rq.cells]
def RSt.B (s:RSt) (nl:Bool):List D:=[.int .u64 s.ep,.int .u64 s.la,(.vsl s.mks.nil (qg s.mks.l) s.mks.l.length),.vsl nl (qg s.its) s.its.length]
def AnsQ (s:RSt) (c:Int) (x:Sl UInt8) (r:D × qi):Prop:= ∃ nl,(nl = true→s.its = [])∧r = (.tup [.int .i64 c,(.vsl x.nil (qd x.l) x.l.length)],[some (s.B nl)])
theorem AnsQ.mk {s:RSt} {c:Int} {x:Sl UInt8} {nl:Bool} (h:nl = true→s.its = []):AnsQ s c x (.tup [.int .i64 c,(.vsl x.nil (qd x.l) x.l.length)],[some (s.B nl)]):=⟨nl,h,rfl⟩
set_option maxHeartbeats 8000000 in
set_option maxRecDepth 8000 in
theorem q0Q [MaxL] {s:RSt} {N:Nat} (hI:RInv s N) (hN:N≤100000) (nl:Bool) (qY:nl = true→s.its = []) (q:Rq) (hq:q.body.l.length≤65536) (hqe:qy q.epoch) (hqn:qy q.number) :
  ∃ r,call cx 39 [.optr 0 4 0,.agg (Enc.cells q)] [some (s.B nl)] = some r∧AnsQ (vd s q).2.2 (vd s q).1 (vd s q).2.1 r:=by
 have hm:=hI.len;have vG:=hI.num;have VF:=hI.la;have hok:=hI.ok;obtain ⟨ep,la,its,mk⟩:=s;obtain ⟨p,e,n,o⟩:=q;simp only at hq hqe hqn hm vG VF hok qY;have hg:=qr5 o (by omega);have Yp:=qkt mk (by omega) hok;obtain ⟨w1,qK⟩:∃ w1,IntKind.u64.wrap (la+1) = w1:=⟨_,rfl⟩;have Qp:la = 18446744073709551615→w1 = 0:=fun h=>by rw [← qK,h];decide
 have QM:la≠18446744073709551615→w1≠0:=fun h=>by
  obtain ⟨h1,h2⟩:=VF;have:w1 = la+1:=by rw [← qK,qS] <;> omega
  omega
 refine vB (X:=cx) (f:=39) (args:=[.optr 0 4 0,.agg [.str p,.int .u64 e,.int .u64 n,(.vsl o.nil (qd o.l) o.l.length)]]) (H:=[some [.int .u64 ep,.int .u64 la,(.vsl mk.nil (qg mk.l) mk.l.length),.vsl nl (qg its) its.length]]) (AnsQ (vd ⟨ep,la,its,mk⟩ ⟨p,e,n,o⟩).2.2 (vd ⟨ep,la,its,mk⟩ ⟨p,e,n,o⟩).1 (vd ⟨ep,la,its,mk⟩ ⟨p,e,n,o⟩).2.1) Tryz.func39 rfl ⟨rfl,rfl⟩ ?_;obtain ⟨⟨A1,A2,A3⟩,hA⟩:∃ A,A = vd ⟨ep,la,its,mk⟩ ⟨p,e,n,o⟩:=⟨_,rfl⟩;rw [← hA];unfold vd at hA;simp only at hA ⊢;by_cases c1:e < ep
 ·rw [if_pos c1] at hA;cases hA;simp [Tryz.f39,c1];exact AnsQ.mk (x:=.none) qY
 rw [if_neg c1] at hA;by_cases cp:p = jJ
 ·rw [if_pos cp] at hA;subst cp;have hs:(jJ == [47,104,101,108,108,111]) = true:=by decide
  by_cases c2:0 < o.l.length
  ·rw [if_pos c2] at hA;cases hA;simp [Tryz.f39,c1,hs,c2];exact AnsQ.mk (x:=.none) qY
  ·rw [if_neg c2] at hA;generalize Qi mk.l = z at *;unfold Ku at hA;simp only at hA;by_cases c3:ep < e
   ·rw [if_pos c3] at hA;cases hA;simp [Tryz.f39,c1,hs,c2,c3,Yp];exact AnsQ.mk qY
   ·rw [if_neg c3] at hA;cases hA;simp [Tryz.f39,c1,hs,c2,c3,Yp];exact AnsQ.mk qY
 rw [if_neg cp] at hA
 have hs:(p == [47,104,101,108,108,111]) = false:=by
  have:¬ p = [47,104,101,108,108,111]:=cp;simpa using this
 unfold jt at hA;simp only at hA;by_cases c2:ep < e
 ·rw [if_pos c2] at hA;cases hA;simp [Tryz.f39,c1,hs,c2];exact AnsQ.mk (x:=.none) qY
 rw [if_neg c2] at hA;by_cases c3:n = la∧n≠0
 ·rw [if_pos c3] at hA;cases hA;obtain ⟨rfl,c4⟩:=c3;simp [Tryz.f39,c1,hs,c2,c4];exact AnsQ.mk (x:=.none) qY
 rw [if_neg c3,qK] at hA;have c3':n = la→n = 0:=fun h=>qdf fun h0=>c3 ⟨h,h0⟩;by_cases c4:n≠w1∨n = 0
 ·rw [if_pos c4] at hA;cases hA;by_cases c5:la = 18446744073709551615
  ·have c6:¬ n = la:=fun h=>by have:=c3' h;omega
   subst c5;simp [Tryz.f39,c1,hs,c2,c6];exact AnsQ.mk (x:=.none) qY
  ·have:=QM c5
   have c6:¬ n = w1:=fun h=>by
    rcases c4 with h1 | h1
    ·exact h1 h
    ·omega
   by_cases c7:n = la
   ·have c8:=c3' c7;subst c7;subst c8;simp [Tryz.f39,c1,hs,c2];exact AnsQ.mk (x:=.none) qY
   ·simp [Tryz.f39,c1,hs,c2,c7,c5,c6,qK];exact AnsQ.mk (x:=.none) qY
 rw [if_neg c4] at hA;have c5:¬ la = 18446744073709551615:=fun h=>by have:=Qp h;omega
 have c6:n = w1:=qdf fun h=>c4 (.inl h);have c7:¬ n = 0:=fun h=>c4 (.inr h);have c8:¬ n = la:=fun h=>c7 (c3' h);unfold jh at hg;obtain ⟨⟨l,en,c⟩,hgp⟩:∃ g,g = vK o.l:=⟨_,rfl⟩;have kg:=qmK o.l;have Vl:=qmJ o.l
 have his:c = 0→(∀ y∈l,GotI y)∧(∀ y∈en,y.Ok):=fun h=>by
  obtain ⟨_,h2,h3,_,_⟩:=qfV hq (h ▸ hgp.symm);exact ⟨h2,h3⟩
 rw [← hgp] at hg kg Vl hA;unfold qau at hA;simp only at hg kg Vl hA;clear hgp;obtain ⟨lS,KV⟩:∃ lS,lS = Sl.grown l:=⟨_,rfl⟩;obtain ⟨E,hE⟩:∃ E,E = Sl.grown en:=⟨_,rfl⟩;have qbh:lS.l = l:=by rw [KV];rfl
 have ZK:E.l = en:=by rw [hE];rfl
 rw [← KV,← hE,qbh,ZK] at hg;rw [← hE] at hA;subst c6;by_cases hc:c = 0
 case neg =>
  rw [if_pos hc] at hA;cases hA;simp [Tryz.f39,c1,hs,c2,c8,c5,qK,hg,hc];exact AnsQ.mk (x:=.none) qY
 obtain ⟨kt,heo⟩:=his hc;rw [if_neg (fun h=>h hc)] at hA;simp [Tryz.f39,c1,hs,c2,c8,c5,qK,hg,hc]
 refine Run.loopThen (fun (k:Nat × Sl Mk) e' H=>k.1≤l.length∧k.2.l.length≤mk.l.length+k.1∧Jv k.2.l∧vt (l.drop k.1) k.2.l = vt l mk.l∧(H = [some [.int .u64 ep,.int .u64 la,(.vsl mk.nil (qg mk.l) mk.l.length),.vsl nl (qg its) its.length],some [.str p,.int .u64 e,.int .u64 n,(.vsl o.nil (qd o.l) o.l.length)]]∨∃ w,H = [some [.int .u64 ep,.int .u64 la,(.vsl mk.nil (qg mk.l) mk.l.length),.vsl nl (qg its) its.length],some [.str p,.int .u64 e,.int .u64 n,(.vsl o.nil (qd o.l) o.l.length)],w]) ∧
  qf e' 0 = some (.optr 0 4 0)∧qf e' 3 = some (.optr 1 4 0)∧qf e' 6 = some (.vsl lS.nil (qg l) l.length)∧qf e' 7 = some (.vsl E.nil (qg en) en.length)∧qf e' 9 = some (.vsl k.2.nil (qg k.2.l) k.2.l.length)∧qf e' 10 = some (.int .i64 k.1)) (fun k=>l.length - k.1) (0,mk) ?_ ?_
 ·simp [hok]
 rintro ⟨k,t⟩ e' H ⟨hk,jq,hto,hf,hH,k0,k3,k6,k7,k9,k10⟩;simp only at hk jq hto hf k9 k10;by_cases qh:k < l.length
 ·have qk:(k:Int) < (l.length:Int):=by omega
  have hw:IntKind.i64.wrap ((k:Int)+1) = ((k+1:Nat):Int):=by rw [wrap_i64] <;> omega
  have qQ:lS.nil = false:=Sl.nn (i:=k) (by rw [qbh];exact qh);have jZ:List.drop (k * 39) (qg l) = Enc.cells l[k] ++ qg (l.drop (k+1)):=It.ea qh;have qw:=qgW t (by omega) l[k] false;have JN:39≤39+(l.length - (k+1)) * 39:=by omega
  have Yd:(l[k]).Ok:=(kt _ (vk qh)).ok;rw [zo qh,vt] at hf;have htl2:=qeO t.l l[k] false;have htc:=qj3 t.l l[k] false;have htw:=qeN (l:=t.l) (it:=l[k]) false hto Yd;have hto2:=qdz (f:=t.l) (x:=l[k]) hto Yd false;generalize l[k] = x at *;rw [← htc] at qw;by_cases c9:QG t.l x = 0
  ·rw [if_pos c9] at hf;rw [c9] at qw;unfold kQ at qw;rw [if_pos rfl,← htw c9] at qw;rw [← htw c9] at hto2;rcases hH with rfl | ⟨w,rfl⟩
   ·simp [-It.ea,k0,k3,k6,k7,k9,k10,qk,hw,qQ,jZ,qw,JN];exact ⟨k+1,by omega,by omega,.of (Z3 t.l x false),by rw [Sl.of_l];omega,hto2,hf,⟨rfl,rfl,rfl⟩,by omega⟩
   ·simp [-It.ea,k0,k3,k6,k7,k9,k10,qk,hw,qQ,jZ,qw,JN];exact ⟨k+1,by omega,by omega,.of (Z3 t.l x false),by rw [Sl.of_l];omega,hto2,hf,⟨rfl,rfl,rfl⟩,by omega⟩
  ·rw [if_neg c9] at hf;rw [← hf] at hA;cases hA;unfold kQ at qw;rw [if_neg c9] at qw;rcases hH with rfl | ⟨w,rfl⟩
   ·simp [-It.ea,k0,k3,k6,k7,k9,k10,qk,qQ,jZ,qw,JN,c9];exact AnsQ.mk (x:=.none) qY
   ·simp [-It.ea,k0,k3,k6,k7,k9,k10,qk,qQ,jZ,qw,JN,c9];exact AnsQ.mk (x:=.none) qY
 ·have qk:¬ (k:Int) < (l.length:Int):=by omega
  rw [zZ (by omega),vt] at hf;rw [← hf] at hA;simp only at hA;have h1:=qfi t E (by omega) (by rw [ZK];omega);have h2:=qfi mk E (by omega) (by rw [ZK];omega);rw [ZK] at h1 h2;cases d1:vZ t.l en with
  | false =>
   rw [d1,ZX,if_neg (by decide)] at hA;cases hA;rw [d1] at h1;rcases hH with rfl | ⟨w,rfl⟩
   ·simp [k0,k3,k6,k7,k9,k10,qk,h1];exact AnsQ.mk (x:=.none) qY
   ·simp [k0,k3,k6,k7,k9,k10,qk,h1];exact AnsQ.mk (x:=.none) qY
  | true =>
   rw [d1] at h1;cases d2:vZ mk.l en with
   | false =>
    rw [d1,d2,vV,if_neg (by decide)] at hA;cases hA;rw [d2] at h2;rcases hH with rfl | ⟨w,rfl⟩
    ·simp [k0,k3,k6,k7,k9,k10,qk,h1,h2];exact AnsQ.mk (x:=.none) qY
    ·simp [k0,k3,k6,k7,k9,k10,qk,h1,h2];exact AnsQ.mk (x:=.none) qY
   | true =>
    rw [d1,d2,vV,if_pos rfl] at hA;cases hA;rw [d2] at h2;have hb1:(its.length+l.length) * 104≤140737488355328:=(by omega);have zy:its.length+l.length≤140737488355328:=(by omega);have hb4:its.length * 104≤140737488355328:=(by omega);have hb5:its.length≤140737488355328:=(by omega);have ZH:List.take (l.length * 39) (qg l) = qg l:=qu (by rw [It.el];omega);have hb6:List.take (its.length * 39) (qg its) = qg its:=qu (by rw [It.el];omega);have hb7:(its.length+l.length) * 39≤its.length * 39+l.length * 39:=(by omega);have hb8:List.take ((its.length+l.length) * 39) (qg its ++ qg l) = qg its ++ qg l:=qu (by rw [qC,It.el,It.el];omega);rcases hH with rfl | ⟨w,rfl⟩
    ·simp [k0,k3,k6,k7,k9,k10,qk,h1,h2,qF,hb1,zy,hb4,hb5,hb7,hb8];exact ⟨false,fun h=>(by cases h),by simp [RSt.B,qap,ZK]⟩
    ·simp [k0,k3,k6,k7,k9,k10,qk,h1,h2,qF,hb1,zy,hb4,hb5,hb7,hb8];exact ⟨false,fun h=>(by cases h),by simp [RSt.B,qap,ZK]⟩
def DHearQ (s:RSt) (x:Sl UInt8) (r:D × qi):Prop:= ∃ nl,(nl = true→s.its = [])∧r = ((.vsl x.nil (qd x.l) x.l.length),[some (s.B nl)])
theorem DHearQ.mk {s:RSt} {x:Sl UInt8} {nl:Bool} (h:nl = true→s.its = []):DHearQ s x ((.vsl x.nil (qd x.l) x.l.length),[some (s.B nl)]):=⟨nl,h,rfl⟩
theorem q0R (s:RSt) (q:Rq):(vd s q).2.1.l.length≤1000:=by
 unfold vd
 repeat' split
 ·simp
 ·simp
 ·exact qov _
 ·simp
set_option maxHeartbeats 2000000 in
theorem qze [MaxL] {s:RSt} {N:Nat} (hI:RInv s N) (hN:N≤90000) (nl:Bool) (qY:nl = true→s.its = []) (b:Sl UInt8) (hb:b.l.length≤90000) :
  ∃ r,call cx 13 [.optr 0 4 0,(.vsl b.nil (qd b.l) b.l.length)] [some (s.B nl)] = some r∧DHearQ (kH s b.l).2 (kH s b.l).1 r:=by
 have h1:=qri b hb;refine vB (X:=cx) (f:=13) (args:=[.optr 0 4 0,(.vsl b.nil (qd b.l) b.l.length)]) (H:=[some (s.B nl)]) (DHearQ (kH s b.l).2 (kH s b.l).1) Tryz.func13 rfl ⟨rfl,rfl⟩ ?_;by_cases hc:(vN b.l).2 = 0
 case neg =>
  have hS:kH s b.l = (Qz ⟨400,0,0,.none⟩,s):=by unfold kH;rw [if_pos hc]
  rw [hS];have h2:=qkj ⟨400,0,0,.none⟩ ⟨by simp,by simp⟩ ⟨by simp,by simp⟩ (by simp);generalize (vN b.l).2 = c at *;generalize (vN b.l).1 = q0 at *;obtain ⟨p,e,n,o⟩:=q0;simp only [Rq.cells,Rs.cells] at h1 h2 ⊢
  try simp at h2
  generalize Qz ⟨400,0,0,.none⟩ = z at *;obtain ⟨ep,la,its,mk⟩:=s;simp [Tryz.f13,RSt.B,h1,h2,hc];exact DHearQ.mk (s:=⟨ep,la,its,mk⟩) qY
 obtain ⟨p,x,y,body,hp,hq,_,hx,hy,hl⟩:=qdB hc;have ux:=qc2 hx;have uy:=qc2 hy
 have hS:kH s b.l = (Qz ⟨(vd s ⟨p,x,y,.of body⟩).1,(vd s ⟨p,x,y,.of body⟩).2.2.ep,y,(vd s ⟨p,x,y,.of body⟩).2.1⟩,(vd s ⟨p,x,y,.of body⟩).2.2):=by
  unfold kH;rw [if_neg (fun h=>h hc),hq]
 obtain ⟨r,ha,nl',hnl',rfl⟩:=q0Q hI (by omega) nl qY ⟨p,x,y,.of body⟩ (by simpa using hl) ux uy;have hI':=qoE hI ⟨p,x,y,.of body⟩ (by simpa using hl) ux uy;have Zk:=q0R s ⟨p,x,y,.of body⟩;rw [hS];generalize vd s ⟨p,x,y,.of body⟩ = R at *;obtain ⟨c,w,s'⟩:=R;simp only at ha hI' hnl' Zk ⊢;have h2:=qkj ⟨c,s'.ep,y,w⟩ hI'.ep uy (by simp only;omega);rw [hq,hc] at h1;simp only [Rq.cells,Rs.cells] at h1 h2 ha;generalize Qz ⟨c,s'.ep,y,w⟩ = z at *;obtain ⟨o,ho⟩:∃ o,o = Sl.of body:=⟨_,rfl⟩;rw [← ho] at h1 ha;obtain ⟨ep,la,its,mk⟩:=s;obtain ⟨ep',la',its',mk'⟩:=s';simp only [RSt.B] at ha h2 ⊢;simp [Tryz.f13,h1,h2,ha];exact DHearQ.mk (s:=⟨ep',la',its',mk'⟩) hnl'
def qoT (H:qi) (q:D × qi):Prop:= ∃ o:Sl UInt8,o.l.length≤65536∧q = ((.vsl o.nil (qd o.l) o.l.length),H)
theorem qtP {L:List It} (h:∀ x∈L,qe5 x):qde L:=fun x hx=>by
 obtain ⟨h1,h2,h3,h4⟩:=h x hx;refine ⟨h1,by omega,fun p hp=>?_⟩;have:=qtD (h4 p hp);exact ⟨by omega,by omega⟩
set_option maxHeartbeats 4000000 in
set_option maxRecDepth 8000 in
theorem q0A [MaxL] (kd ep nm:Int) (n1:Bool) (z1:List Int) (h1:n1 = true→z1 = []) (Yc:z1.length≤60) (n2:Bool) (z2:List Int) (h2:n2 = true→z2 = []) (Yb:z2.length≤4) (y:UInt8) (b:Sl UInt8) (ep0 la0:Int) (mk:Sl Mk) (hR:Jv mk.l) (hRn:mk.l.length≤1000000) (dI:D) (vi:∀ n,closed n dI = true) :
  ∃ q,call cx 29 [.agg [.int .i64 kd,.int .i64 ep,.int .i64 nm,.vsl n1 (jb .i64 z1) z1.length,.vsl n2 (jb .i64 z2) z2.length,.int .u8 y.toNat,(.vsl b.nil (qd b.l) b.l.length)],.optr 0 4 0] [some [.int .u64 ep0,.int .u64 la0,(.vsl mk.nil (qg mk.l) mk.l.length),dI]] = some q∧qoT [some [.int .u64 ep0,.int .u64 la0,(.vsl mk.nil (qg mk.l) mk.l.length),dI]] q:=by
 refine vB (X:=cx) (f:=29) (args:=[.agg [.int .i64 kd,.int .i64 ep,.int .i64 nm,.vsl n1 (jb .i64 z1) z1.length,.vsl n2 (jb .i64 z2) z2.length,.int .u8 y.toNat,(.vsl b.nil (qd b.l) b.l.length)],.optr 0 4 0]) (H:=[some [.int .u64 ep0,.int .u64 la0,(.vsl mk.nil (qg mk.l) mk.l.length),dI]]) (qoT [some [.int .u64 ep0,.int .u64 la0,(.vsl mk.nil (qg mk.l) mk.l.length),dI]]) Tryz.func29 rfl ⟨rfl,rfl⟩ ?_;have sf:=qdx n1 z1;have sl:=qdw n1 z1;have sc:=qdy n1 z1;obtain ⟨q,hq,L,k',hL4,hLm,zW⟩:=qxl n1 z1 h1 (by omega) 0 4 (by decide);have tailE:∀ (S:Sl It),qde S.l→∀ (E:Sl Mk),(∀ x∈E.l,x.Ok)→E.l.length≤1000000→∃ o:Sl UInt8,o.l.length≤65536∧call cx 55 [(.vsl S.nil (qg S.l) S.l.length),(.vsl E.nil (qg E.l) E.l.length)] [] = some ((.vsl o.nil (qd o.l) o.l.length),[]):=fun S hS E hE VL=>⟨Ke S.l E.l,qsl _ _,qrm S E hS hE (by omega)⟩
 have tail:∀ (o:Sl UInt8),o.l.length≤65536→∀ (nn:Nat),nn = o.l.length→4 < nn→0 < z2.length→∃ o2:List UInt8,o2.length≤65536∧call cx 57 [.vsl o.nil (qd (o.l.take (nn - 4))) (nn - 4),.vsl n2 (jb .i64 z2) z2.length,.int .u8 y.toNat] [] = some (.vsl false (qd o2) o2.length,[])∧o2.length = nn - 4∧call cx 56 [.vsl false (qd o2) o2.length] [] = some (.vsl false (qd (Qk o2)) (Qk o2).length,[]):=by
  intro o ho nn hnn h4 hz
  have Ks:o.nil = false:=by
   cases hn:o.nil with
   | false=>rfl
   | true=>have:=o.h hn;rw [this] at hnn;simp at hnn;omega
  have hl:(o.l.take (nn - 4)).length = nn - 4:=by rw [jn];omega
  obtain ⟨q2,c1,o2,ho2,rfl⟩:=qpZ (.of (o.l.take (nn - 4))) (by simp;omega) n2 z2 h2 (by omega) y;have c2:=qki (.of o2) (by simp at ho2 ⊢;omega);simp only [Sl.of_l,Sl.of_nil,hl] at c1 c2 ho2;refine ⟨o2,by omega,by rw [Ks];exact c1,ho2,c2⟩
 obtain ⟨m7,Q8⟩:∃ m7,kd.tmod 7 = m7:=⟨_,rfl⟩;obtain ⟨m4,VE⟩:∃ m4,kd.tmod 4 = m4:=⟨_,rfl⟩;rcases zW with ⟨rfl,rfl⟩ | ⟨qr,n,m,hn,hm,rfl⟩
 ·replace hq:call cx 30 [.optr 0 2 0,.int .i64 4] [some [.vsl n1 (jb .i64 z1) z1.length,.int .i64 0]] = some (.vsl true [] 0,[some (jD n1 z1 k')]):=hq;simp [Tryz.f29,hq,sf];refine qgU ?_;simp;by_cases c7:m7 = 0
  ·obtain ⟨qm,Jl,M,kz,hM,rfl⟩:=qhC n1 z1 h1 (by omega) k';replace Jl:call cx 54 [.optr 0 2 0] [some (jD n1 z1 k')] = some (.vsl M.isEmpty (qg M) M.length,[some (jD n1 z1 kz)]):=Jl;have hM4:=hM.len;obtain ⟨o,ho,hp⟩:=tailE .none (by intro x hx;simp at hx) ⟨M.isEmpty,M,fun h=>by simpa using h⟩ hM.ok (by simp only;omega);simp only [Sl.none_l,Sl.none_nil,qn7,zb] at hp;obtain ⟨nn,hnn⟩:∃ nn,nn = o.l.length:=⟨_,rfl⟩;rw [← hnn] at hp;by_cases c8:0 < z2.length
   ·have c8':(0:Int) < (z2.length:Int):=(by omega);by_cases c9:4 < nn
    ·have c9':(4:Int) < (nn:Int):=(by omega);obtain ⟨o2,t1,t2,t3,t4⟩:=tail o ho nn hnn c9 c8;have Zd:IntKind.i64.wrap ((nn:Int) - 4) = ((nn - 4:Nat):Int):=(by rw [wrap_i64] <;> omega);have ht:List.take (nn - 4) (qd o.l) = qd (o.l.take (nn - 4)):=kr _ _;have hle:((nn - 4:Nat):Int)≤(nn:Int):=(by omega);have hsl:=qbN o2;generalize Qk o2 = o3 at *;generalize o.l.take (nn - 4) = o4 at *;obtain ⟨n4,ZC⟩:∃ n4,n4 = nn - 4:=⟨_,rfl⟩;rw [← ZC] at *;simp [sf,vi,Q8,c7,Jl,hp,c8,c9',Zd,ht,hle,t2,t4,hnn.symm];exact ⟨.of o3,by rw [Sl.of_l];omega,rfl⟩
    ·have c9':¬ (4:Int) < (nn:Int):=(by omega);simp [sf,vi,Q8,c7,Jl,hp,c8,c9'];exact ⟨o,ho,by rw [← hnn]⟩
   ·have c8':¬ (0:Int) < (z2.length:Int):=(by omega);simp [sf,vi,Q8,c7,Jl,hp,c8];exact ⟨o,ho,by rw [← hnn]⟩
  ·obtain ⟨o,ho,hp⟩:=tailE .none (by intro x hx;simp at hx) mk hR hRn;simp only [Sl.none_l,Sl.none_nil,qn7,zb] at hp;obtain ⟨nn,hnn⟩:∃ nn,nn = o.l.length:=⟨_,rfl⟩;rw [← hnn] at hp;by_cases c8:0 < z2.length
   ·have c8':(0:Int) < (z2.length:Int):=(by omega);by_cases c9:4 < nn
    ·have c9':(4:Int) < (nn:Int):=(by omega);obtain ⟨o2,t1,t2,t3,t4⟩:=tail o ho nn hnn c9 c8;have Zd:IntKind.i64.wrap ((nn:Int) - 4) = ((nn - 4:Nat):Int):=(by rw [wrap_i64] <;> omega);have ht:List.take (nn - 4) (qd o.l) = qd (o.l.take (nn - 4)):=kr _ _;have hle:((nn - 4:Nat):Int)≤(nn:Int):=(by omega);have hsl:=qbN o2;generalize Qk o2 = o3 at *;generalize o.l.take (nn - 4) = o4 at *;obtain ⟨n4,ZC⟩:∃ n4,n4 = nn - 4:=⟨_,rfl⟩;rw [← ZC] at *;simp [vi,Q8,c7,hp,c8,c9',Zd,ht,hle,t2,t4,hnn.symm];exact ⟨.of o3,by rw [Sl.of_l];omega,rfl⟩
    ·have c9':¬ (4:Int) < (nn:Int):=(by omega);simp [vi,Q8,c7,hp,c8,c9'];exact ⟨o,ho,by rw [← hnn]⟩
   ·have c8':¬ (0:Int) < (z2.length:Int):=(by omega);simp [vi,Q8,c7,hp,c8];exact ⟨o,ho,by rw [← hnn]⟩
 ·replace hq:call cx 30 [.optr 0 2 0,.int .i64 4] [some [.vsl n1 (jb .i64 z1) z1.length,.int .i64 0]] = some (.osl 1 n 0 m 39,[some (jD n1 z1 k'),some (qg L)]):=hq;simp [Tryz.f29,hq,sf]
  refine Run.loopThen (fun (q:Nat × Sl Mk × List It) e H=>q.1≤m∧(Jv q.2.1.l∧q.2.1.l.length≤1000000)∧q.2.2.length = m∧qde q.2.2∧(H = [some [.int .u64 ep0,.int .u64 la0,(.vsl mk.nil (qg mk.l) mk.l.length),dI],some [.int .i64 kd,.int .i64 ep,.int .i64 nm,.vsl n1 (jb .i64 z1) z1.length,.vsl n2 (jb .i64 z2) z2.length,.int .u8 y.toNat,(.vsl b.nil (qd b.l) b.l.length)],some (jD n1 z1 k'),some (qg q.2.2)]∨∃ w,H = [some [.int .u64 ep0,.int .u64 la0,(.vsl mk.nil (qg mk.l) mk.l.length),dI],some [.int .i64 kd,.int .i64 ep,.int .i64 nm,.vsl n1 (jb .i64 z1) z1.length,.vsl n2 (jb .i64 z2) z2.length,.int .u8 y.toNat,(.vsl b.nil (qd b.l) b.l.length)],some (jD n1 z1 k'),some (qg q.2.2),w]) ∧
   qf e 1 = some (.optr 0 4 0)∧qf e 2 = some (.optr 1 7 0)∧qf e 5 = some (.optr 2 2 0)∧qf e 6 = some (.osl 3 n 0 m 39)∧qf e 7 = some (.vsl q.2.1.nil (qg q.2.1.l) q.2.1.l.length)∧qf e 8 = some (.int .i64 q.1)) (fun q=>m - q.1) (0,mk,L) ?_ ?_
  ·exact ⟨jg _,⟨hR,hRn⟩,hm.symm,qtP hLm,.inl rfl,by simp,by simp,by simp,by simp,by simp,by simp⟩
  rintro ⟨i,E,L'⟩ e H ⟨hi,⟨hE,VL⟩,vA,hB,hH,k1,k2,k5,k6,k7,k8⟩;simp only at hi hE VL vA hB hH k7 k8;have qY:n = L'.length * 39:=by omega
  by_cases qh:i < m
  ·have qk:(i:Int) < (m:Int):=(by omega);have hltL:i < L'.length:=(by omega);have hw:IntKind.i64.wrap ((i:Int)+1) = ((i+1:Nat):Int):=(by rw [wrap_i64] <;> omega);have hxB:=hB L'[i] (vk hltL);have jZ:List.drop (i * 39) (qg L') = Enc.cells L'[i] ++ qg (L'.drop (i+1)):=It.ea hltL;have hge:=qfg mk (by omega) L'[i].id;generalize zJ mk.l L'[i].id = g at *;generalize zO mk.l L'[i].id = gh at *;have hlat:=qul L'[i] g.seq;have hlB:=qum (n:=g.seq) hxB
   have qw:∀ x:It,x.Ok→∃ (c:Int) (E2:Sl Mk),call cx 19 [(.vsl E.nil (qg E.l) E.l.length),.agg (Enc.cells x),.bool false] [] = some (.tup [(.vsl E2.nil (qg E2.l) E2.l.length),.int .i64 c],[])∧(c = 0→Jv E2.l∧E2.l.length≤1000000):=fun x hx=>by
    refine ⟨_,_,qgW E (by omega) x false,fun hc=>?_⟩;unfold kQ;rw [if_pos hc,Sl.of_l];have:=qqQ hc;exact ⟨qdz hE hx false,by omega⟩
   have hi39:i * 39+39≤m * 39:=(by omega);have zY:16≤39+(m - (i+1)) * 39:=(by omega);by_cases c4:0 < m4
   ·have hset:qE (qg L') (i * 39) (Enc.cells (JC L'[i] g.seq)) = qg (L'.set i (JC L'[i] g.seq)):=It.es _ hltL;have hltS:i < (L'.set i (JC L'[i] g.seq)).length:=by rw [qcv];exact hltL
    have hea2:List.drop (i * 39) (qg (L'.set i (JC L'[i] g.seq))) = Enc.cells (JC L'[i] g.seq) ++ qg ((L'.set i (JC L'[i] g.seq)).drop (i+1)):=by
     rw [It.ea hltS,List.getElem_set_self]
    have hBS:qde (L'.set i (JC L'[i] g.seq)):=fun x hx=>by
     rcases qgy hx with h | rfl
     ·exact hB x h
     ·exact hlB
    have hLS:(L'.set i (JC L'[i] g.seq)).length = m:=(by rw [qcv];exact vA);obtain ⟨c,E2,ht,kJ⟩:=qw _ hlB.1;generalize hLL:L'.set i (JC L'[i] g.seq) = L2 at *;generalize JC L'[i] g.seq = x2 at *;generalize L'[i] = x at *;by_cases hc:c = 0
    ·rcases hH with rfl | ⟨w,rfl⟩
     ·simp [-It.ea,-It.es,k1,k2,k5,k6,k7,k8,qk,qY,vA,jZ,hge,VE,c4,hlat,hset,hea2,hLS,ht,hc,hw,hi39,zY];exact ⟨i+1,by omega,by omega,E2,kJ hc,L2,hLS,hBS,rfl,⟨rfl,rfl,rfl⟩,by omega⟩
     ·simp [-It.ea,-It.es,k1,k2,k5,k6,k7,k8,qk,sc,vi,qY,vA,jZ,hge,VE,c4,hlat,hset,hea2,hLS,ht,hc,hw,hi39,zY];exact ⟨i+1,by omega,by omega,E2,kJ hc,L2,hLS,hBS,rfl,⟨rfl,rfl,rfl⟩,by omega⟩
    ·rcases hH with rfl | ⟨w,rfl⟩
     ·simp [-It.ea,-It.es,k1,k2,k5,k6,k7,k8,qk,qY,vA,jZ,hge,VE,c4,hlat,hset,hea2,hLS,ht,hc,hw,hi39,zY];exact ⟨i+1,by omega,by omega,E,⟨hE,VL⟩,L2,hLS,hBS,rfl,⟨rfl,rfl,rfl⟩,by omega⟩
     ·simp [-It.ea,-It.es,k1,k2,k5,k6,k7,k8,qk,sc,vi,qY,vA,jZ,hge,VE,c4,hlat,hset,hea2,hLS,ht,hc,hw,hi39,zY];exact ⟨i+1,by omega,by omega,E,⟨hE,VL⟩,L2,hLS,hBS,rfl,⟨rfl,rfl,rfl⟩,by omega⟩
   ·obtain ⟨c,E2,ht,kJ⟩:=qw _ hxB.1;generalize L'[i] = x at *;by_cases hc:c = 0
    ·rcases hH with rfl | ⟨w,rfl⟩
     ·simp [-It.ea,k1,k2,k5,k6,k7,k8,qk,qY,vA,jZ,hge,VE,c4,ht,hc,hw,zY];exact ⟨i+1,by omega,by omega,E2,kJ hc,L',vA,hB,rfl,⟨rfl,rfl,rfl⟩,by omega⟩
     ·simp [-It.ea,k1,k2,k5,k6,k7,k8,qk,sc,vi,qY,vA,jZ,hge,VE,c4,ht,hc,hw,zY];exact ⟨i+1,by omega,by omega,E2,kJ hc,L',vA,hB,rfl,⟨rfl,rfl,rfl⟩,by omega⟩
    ·rcases hH with rfl | ⟨w,rfl⟩
     ·simp [-It.ea,k1,k2,k5,k6,k7,k8,qk,qY,vA,jZ,hge,VE,c4,ht,hc,hw,zY];exact ⟨i+1,by omega,by omega,E,⟨hE,VL⟩,L',vA,hB,rfl,⟨rfl,rfl,rfl⟩,by omega⟩
     ·simp [-It.ea,k1,k2,k5,k6,k7,k8,qk,sc,vi,qY,vA,jZ,hge,VE,c4,ht,hc,hw,zY];exact ⟨i+1,by omega,by omega,E,⟨hE,VL⟩,L',vA,hB,rfl,⟨rfl,rfl,rfl⟩,by omega⟩
  ·have qk:¬ (i:Int) < (m:Int):=(by omega);have vG:List.take (m * 39) (qg L') = qg L':=qu (by rw [It.el];omega);rcases hH with rfl | ⟨w,rfl⟩
   ·by_cases c7:m7 = 0
    ·obtain ⟨qm,Jl,M,kz,hM,rfl⟩:=qhC n1 z1 h1 (by omega) k';replace Jl:call cx 54 [.optr 0 2 0] [some (jD n1 z1 k')] = some (.vsl M.isEmpty (qg M) M.length,[some (jD n1 z1 kz)]):=Jl;have hM4:=hM.len;obtain ⟨o,ho,hp⟩:=tailE (.of L') (by rw [Sl.of_l];exact hB) ⟨M.isEmpty,M,fun h=>by simpa using h⟩ hM.ok (by simp only;omega);simp only [Sl.of_l,Sl.of_nil,vA] at hp;obtain ⟨nn,hnn⟩:∃ nn,nn = o.l.length:=⟨_,rfl⟩;rw [← hnn] at hp;by_cases c8:0 < z2.length
     ·have c8':(0:Int) < (z2.length:Int):=(by omega);by_cases c9:4 < nn
      ·have c9':(4:Int) < (nn:Int):=(by omega);obtain ⟨o2,t1,t2,t3,t4⟩:=tail o ho nn hnn c9 c8;have Zd:IntKind.i64.wrap ((nn:Int) - 4) = ((nn - 4:Nat):Int):=(by rw [wrap_i64] <;> omega);have ht:List.take (nn - 4) (qd o.l) = qd (o.l.take (nn - 4)):=kr _ _;have hle:((nn - 4:Nat):Int)≤(nn:Int):=(by omega);have hsl:=qbN o2;generalize Qk o2 = o3 at *;generalize o.l.take (nn - 4) = o4 at *;obtain ⟨n4,ZC⟩:∃ n4,n4 = nn - 4:=⟨_,rfl⟩;rw [← ZC] at *;simp [k1,k2,k5,k6,k7,k8,qk,sf,vi,qY,vA,vG,Q8,c7,Jl,hp,c8,c9',Zd,ht,hle,t2,t4,hnn.symm];exact ⟨.of o3,by rw [Sl.of_l];omega,rfl⟩
      ·have c9':¬ (4:Int) < (nn:Int):=(by omega);simp [k1,k2,k5,k6,k7,k8,qk,sf,vi,qY,vA,vG,Q8,c7,Jl,hp,c8,c9'];exact ⟨o,ho,by rw [← hnn]⟩
     ·have c8':¬ (0:Int) < (z2.length:Int):=(by omega);simp [k1,k2,k5,k6,k7,k8,qk,sf,vi,qY,vA,vG,Q8,c7,Jl,hp,c8];exact ⟨o,ho,by rw [← hnn]⟩
    ·obtain ⟨o,ho,hp⟩:=tailE (.of L') (by rw [Sl.of_l];exact hB) E hE VL;simp only [Sl.of_l,Sl.of_nil,vA] at hp;obtain ⟨nn,hnn⟩:∃ nn,nn = o.l.length:=⟨_,rfl⟩;rw [← hnn] at hp;by_cases c8:0 < z2.length
     ·have c8':(0:Int) < (z2.length:Int):=(by omega);by_cases c9:4 < nn
      ·have c9':(4:Int) < (nn:Int):=(by omega);obtain ⟨o2,t1,t2,t3,t4⟩:=tail o ho nn hnn c9 c8;have Zd:IntKind.i64.wrap ((nn:Int) - 4) = ((nn - 4:Nat):Int):=(by rw [wrap_i64] <;> omega);have ht:List.take (nn - 4) (qd o.l) = qd (o.l.take (nn - 4)):=kr _ _;have hle:((nn - 4:Nat):Int)≤(nn:Int):=(by omega);have hsl:=qbN o2;generalize Qk o2 = o3 at *;generalize o.l.take (nn - 4) = o4 at *;obtain ⟨n4,ZC⟩:∃ n4,n4 = nn - 4:=⟨_,rfl⟩;rw [← ZC] at *;simp [k1,k2,k5,k6,k7,k8,qk,vi,qY,vA,vG,Q8,c7,hp,c8,c9',Zd,ht,hle,t2,t4,hnn.symm];exact ⟨.of o3,by rw [Sl.of_l];omega,rfl⟩
      ·have c9':¬ (4:Int) < (nn:Int):=(by omega);simp [k1,k2,k5,k6,k7,k8,qk,vi,qY,vA,vG,Q8,c7,hp,c8,c9'];exact ⟨o,ho,by rw [← hnn]⟩
     ·have c8':¬ (0:Int) < (z2.length:Int):=(by omega);simp [k1,k2,k5,k6,k7,k8,qk,vi,qY,vA,vG,Q8,c7,hp,c8];exact ⟨o,ho,by rw [← hnn]⟩
   ·by_cases c7:m7 = 0
    ·obtain ⟨qm,Jl,M,kz,hM,rfl⟩:=qhC n1 z1 h1 (by omega) k';replace Jl:call cx 54 [.optr 0 2 0] [some (jD n1 z1 k')] = some (.vsl M.isEmpty (qg M) M.length,[some (jD n1 z1 kz)]):=Jl;have hM4:=hM.len;obtain ⟨o,ho,hp⟩:=tailE (.of L') (by rw [Sl.of_l];exact hB) ⟨M.isEmpty,M,fun h=>by simpa using h⟩ hM.ok (by simp only;omega);simp only [Sl.of_l,Sl.of_nil,vA] at hp;obtain ⟨nn,hnn⟩:∃ nn,nn = o.l.length:=⟨_,rfl⟩;rw [← hnn] at hp;by_cases c8:0 < z2.length
     ·have c8':(0:Int) < (z2.length:Int):=(by omega);by_cases c9:4 < nn
      ·have c9':(4:Int) < (nn:Int):=(by omega);obtain ⟨o2,t1,t2,t3,t4⟩:=tail o ho nn hnn c9 c8;have Zd:IntKind.i64.wrap ((nn:Int) - 4) = ((nn - 4:Nat):Int):=(by rw [wrap_i64] <;> omega);have ht:List.take (nn - 4) (qd o.l) = qd (o.l.take (nn - 4)):=kr _ _;have hle:((nn - 4:Nat):Int)≤(nn:Int):=(by omega);have hsl:=qbN o2;generalize Qk o2 = o3 at *;generalize o.l.take (nn - 4) = o4 at *;obtain ⟨n4,ZC⟩:∃ n4,n4 = nn - 4:=⟨_,rfl⟩;rw [← ZC] at *;simp [k1,k2,k5,k6,k7,k8,qk,sf,sc,vi,qY,vA,vG,Q8,c7,Jl,hp,c8,c9',Zd,ht,hle,t2,t4,hnn.symm];exact ⟨.of o3,by rw [Sl.of_l];omega,rfl⟩
      ·have c9':¬ (4:Int) < (nn:Int):=(by omega);simp [k1,k2,k5,k6,k7,k8,qk,sf,sc,vi,qY,vA,vG,Q8,c7,Jl,hp,c8,c9'];exact ⟨o,ho,by rw [← hnn]⟩
     ·have c8':¬ (0:Int) < (z2.length:Int):=(by omega);simp [k1,k2,k5,k6,k7,k8,qk,sf,sc,vi,qY,vA,vG,Q8,c7,Jl,hp,c8];exact ⟨o,ho,by rw [← hnn]⟩
    ·obtain ⟨o,ho,hp⟩:=tailE (.of L') (by rw [Sl.of_l];exact hB) E hE VL;simp only [Sl.of_l,Sl.of_nil,vA] at hp;obtain ⟨nn,hnn⟩:∃ nn,nn = o.l.length:=⟨_,rfl⟩;rw [← hnn] at hp;by_cases c8:0 < z2.length
     ·have c8':(0:Int) < (z2.length:Int):=(by omega);by_cases c9:4 < nn
      ·have c9':(4:Int) < (nn:Int):=(by omega);obtain ⟨o2,t1,t2,t3,t4⟩:=tail o ho nn hnn c9 c8;have Zd:IntKind.i64.wrap ((nn:Int) - 4) = ((nn - 4:Nat):Int):=(by rw [wrap_i64] <;> omega);have ht:List.take (nn - 4) (qd o.l) = qd (o.l.take (nn - 4)):=kr _ _;have hle:((nn - 4:Nat):Int)≤(nn:Int):=(by omega);have hsl:=qbN o2;generalize Qk o2 = o3 at *;generalize o.l.take (nn - 4) = o4 at *;obtain ⟨n4,ZC⟩:∃ n4,n4 = nn - 4:=⟨_,rfl⟩;rw [← ZC] at *;simp [k1,k2,k5,k6,k7,k8,qk,sc,vi,qY,vA,vG,Q8,c7,hp,c8,c9',Zd,ht,hle,t2,t4,hnn.symm];exact ⟨.of o3,by rw [Sl.of_l];omega,rfl⟩
      ·have c9':¬ (4:Int) < (nn:Int):=(by omega);simp [k1,k2,k5,k6,k7,k8,qk,sc,vi,qY,vA,vG,Q8,c7,hp,c8,c9'];exact ⟨o,ho,by rw [← hnn]⟩
     ·have c8':¬ (0:Int) < (z2.length:Int):=(by omega);simp [k1,k2,k5,k6,k7,k8,qk,sc,vi,qY,vA,vG,Q8,c7,hp,c8];exact ⟨o,ho,by rw [← hnn]⟩
theorem qha [MaxL] (p:List UInt8) (hp:p = jJ∨p = js) (e n:Int) (he:qy e) (hn:qy n) (o:Sl UInt8) (ho:o.l.length≤65536):∃ m:Sl UInt8,m.l.length≤70000∧call cx 33 [.agg [.str p,.int .u64 e,.int .u64 n,(.vsl o.nil (qd o.l) o.l.length)]] [] = some ((.vsl m.nil (qd m.l) m.l.length),[]):=by
 have h1:=qrl ⟨p,e,n,o⟩ he hn (by show p.length≤100;rcases hp with rfl | rfl <;> decide) (by show o.l.length≤_;omega);rw [qsi p hp e n o ho] at h1;have hl:=qrj p hp e.toNat n.toNat o.l;refine ⟨.of (jU p ++ (vD e.toNat n.toNat o.l.length ++ o.l)),by rw [Sl.of_l];omega,?_⟩;simpa [Rq.cells] using h1
def HdQ (e:qp):Prop:= ∃ (E N:Int) (p:List UInt8) (x:Sl UInt8),qy E∧qy N∧(p = jJ∨p = js)∧x.l.length≤65536∧qf e 1 = some (.optr 0 4 0)∧qf e 2 = some (.optr 1 7 0)∧qf e 5 = some (.int .u64 E)∧qf e 6 = some (.int .u64 N)∧qf e 7 = some (.vsl x.nil (qd x.l) x.l.length)∧qf e 8 = some (.str p)
set_option maxHeartbeats 16000000 in
set_option maxRecDepth 8000 in
theorem qxM [MaxL] (kd ep nm:Int) (n1:Bool) (z1:List Int) (h1:n1 = true→z1 = []) (Yc:z1.length≤60) (n2:Bool) (z2:List Int) (h2:n2 = true→z2 = []) (Yb:z2.length≤4) (y:UInt8) (b:Sl UInt8) (ZH:b.l.length≤300) (ep0 la0:Int) (hep:qy ep0) (mk:Sl Mk) (hR:Jv mk.l) (hRn:mk.l.length≤1000000) (dI:D) (vi:∀ n,closed n dI = true) (hfI:idFree dI = true) (hmv:mv [0] 2 dI = dI) :
  ∃ q,call cx 11 [.agg [.int .i64 kd,.int .i64 ep,.int .i64 nm,.vsl n1 (jb .i64 z1) z1.length,.vsl n2 (jb .i64 z2) z2.length,.int .u8 y.toNat,(.vsl b.nil (qd b.l) b.l.length)],.optr 0 4 0] [some [.int .u64 ep0,.int .u64 la0,(.vsl mk.nil (qg mk.l) mk.l.length),dI]] = some q∧∃ o:Sl UInt8,o.l.length≤70000∧q = ((.vsl o.nil (qd o.l) o.l.length),[some [.int .u64 ep0,.int .u64 la0,(.vsl mk.nil (qg mk.l) mk.l.length),dI]]):=by
 refine vB (X:=cx) (f:=11) (args:=[.agg [.int .i64 kd,.int .i64 ep,.int .i64 nm,.vsl n1 (jb .i64 z1) z1.length,.vsl n2 (jb .i64 z2) z2.length,.int .u8 y.toNat,(.vsl b.nil (qd b.l) b.l.length)],.optr 0 4 0]) (H:=[some [.int .u64 ep0,.int .u64 la0,(.vsl mk.nil (qg mk.l) mk.l.length),dI]]) (fun q=>∃ o:Sl UInt8,o.l.length≤70000∧q = ((.vsl o.nil (qd o.l) o.l.length),[some [.int .u64 ep0,.int .u64 la0,(.vsl mk.nil (qg mk.l) mk.l.length),dI]])) Tryz.func11 rfl ⟨rfl,rfl⟩ ?_;obtain ⟨a,ha,c1⟩:=qfx ep 3 (by omega) (by omega);obtain ⟨c,hc,c2⟩:=qfx nm 4 (by omega) (by omega);obtain ⟨k,hk,c3⟩:=qfx kd 9 (by omega) (by omega);replace c1:call cx 24 [.int .i64 ep,.int .i64 3] [] = some (.int .i64 a,[]):=c1;replace c2:call cx 24 [.int .i64 nm,.int .i64 4] [] = some (.int .i64 c,[]):=c2;replace c3:call cx 24 [.int .i64 kd,.int .i64 9] [] = some (.int .i64 k,[]):=c3;have wa:IntKind.u64.wrap (a:Int) = (a:Int):=by rw [qS] <;> omega
 have wc:IntKind.u64.wrap (c:Int) = (c:Int):=by rw [qS] <;> omega
 obtain ⟨E0,hE0⟩:∃ E,IntKind.u64.wrap (ep0+(a:Int)) = E:=⟨_,rfl⟩;obtain ⟨N0,hN0⟩:∃ N,IntKind.u64.wrap (la0+(c:Int)) = N:=⟨_,rfl⟩;obtain ⟨E1,hE1⟩:∃ E,IntKind.u64.wrap (ep0 - 1) = E:=⟨_,rfl⟩;obtain ⟨N1,hN1⟩:∃ N,IntKind.u64.wrap (la0+1) = N:=⟨_,rfl⟩;have uE0:qy E0:=hE0 ▸ qa3 _;have uN0:qy N0:=hN0 ▸ qa3 _;have uE1:qy E1:=hE1 ▸ qa3 _;have uN1:qy N1:=hN1 ▸ qa3 _;obtain ⟨m5,hm5⟩:∃ m,ep.tmod 5 = m:=⟨_,rfl⟩;obtain ⟨m3,Jm⟩:∃ m,ep.tmod 3 = m:=⟨_,rfl⟩;obtain ⟨m4,VE⟩:∃ m,kd.tmod 4 = m:=⟨_,rfl⟩;obtain ⟨n3,Vh⟩:∃ m,nm.tmod 3 = m:=⟨_,rfl⟩;obtain ⟨q,hq,o,ho,rfl⟩:=q0A kd ep nm n1 z1 h1 Yc n2 z2 h2 Yb y b ep0 la0 mk hR hRn dI vi;have hh:(jJ == [47,98,97,116,99,104]) = false:=by decide
 have hb:(js == [47,98,97,116,99,104]) = true:=by decide
 have h0:m5 = 0∧0 < ep0∨m5 = 0∧¬ 0 < ep0∨¬ m5 = 0∧True:=by
  by_cases h:m5 = 0
  ·by_cases h':0 < ep0
   ·exact .inl ⟨h,h'⟩
   ·exact .inr (.inl ⟨h,h'⟩)
  ·exact .inr (.inr ⟨h,trivial⟩)
 rcases h0 with ⟨d1,d2⟩ | ⟨d1,d2⟩ | ⟨d1,d2⟩
 all_goals
  simp [-qjZ,Tryz.f11,c1,c2,c3,wa,wc,hE0,hN0,hE1,hm5,d1,d2];refine Run.mono (R:=fun ex e' H'=>(ex = .ret∧qg0 cx true [ResultVar.tmp 4] 1 (fun q=>∃ o:Sl UInt8,o.l.length≤70000∧q = ((.vsl o.nil (qd o.l) o.l.length),[some [.int .u64 ep0,.int .u64 la0,(.vsl mk.nil (qg mk.l) mk.l.length),dI]])) .ret e' H')∨(ex = .normal∧H' = [some [.int .u64 ep0,.int .u64 la0,(.vsl mk.nil (qg mk.l) mk.l.length),dI],some [.int .i64 kd,.int .i64 ep,.int .i64 nm,.vsl n1 (jb .i64 z1) z1.length,.vsl n2 (jb .i64 z2) z2.length,.int .u8 y.toNat,(.vsl b.nil (qd b.l) b.l.length)]]∧HdQ e')) ?_ ?_
  ·by_cases k0:k = 0
   ·simp [vi,k0];exact ⟨_,_,⟨rfl,rfl⟩,b,by omega,rfl,rfl⟩
   by_cases k12:k = 1∨k = 2
   ·by_cases m0:m4 = 0
    ·rcases k12 with rfl | rfl
     ·simp [VE,m0];exact ⟨_,_,_,b,by assumption,by assumption,.inl rfl,by omega,rfl,rfl,rfl,rfl,rfl,rfl⟩
     ·simp [VE,m0];exact ⟨_,_,_,b,by assumption,by assumption,.inl rfl,by omega,rfl,rfl,rfl,rfl,rfl,rfl⟩
    ·rcases k12 with rfl | rfl
     ·simp [VE,m0];exact ⟨_,_,_,.none,by assumption,by assumption,.inl rfl,by simp,rfl,rfl,rfl,rfl,rfl,rfl⟩
     ·simp [VE,m0];exact ⟨_,_,_,.none,by assumption,by assumption,.inl rfl,by simp,rfl,rfl,rfl,rfl,rfl,rfl⟩
   ·have k1:¬ k = 1:=fun h=>k12 (.inl h);have k2:¬ k = 2:=fun h=>k12 (.inr h);have k0':¬ (k:Int) = 0:=(by omega);have k1':¬ (k:Int) = 1:=(by omega);have k2':¬ (k:Int) = 2:=(by omega);simp [hfI,k0,k1',k2',hq,hmv];exact ⟨_,_,_,o,by assumption,by assumption,.inr rfl,ho,rfl,rfl,rfl,rfl,rfl,rfl⟩
  rintro ex e' H' (⟨rfl,hf⟩ | ⟨rfl,rfl,E,N,p,x,uE,uN,hp,hx,l1,l2,l5,l6,l7,l8⟩)
  ·simp only [qgT,Ka];exact hf
  ·rcases hp with rfl | rfl
   ·by_cases q1:0 < n3
    ·obtain ⟨m,hm,c4⟩:=qha jJ (.inl rfl) E N1 uE uN1 x hx;by_cases q2:0 < m3
     ·simp [l1,l2,l5,l6,l7,l8,Vh,Jm,q1,q2,hN1,vi,c4,hh];exact ⟨m,hm,rfl,rfl,rfl⟩
     ·simp [l1,l2,l5,l6,l7,l8,Vh,Jm,q1,q2,hN1,vi,c4];exact ⟨m,hm,rfl,rfl,rfl⟩
    ·obtain ⟨m,hm,c4⟩:=qha jJ (.inl rfl) E N uE uN x hx;by_cases q2:0 < m3
     ·simp [l1,l2,l5,l6,l7,l8,Vh,Jm,q1,q2,vi,c4,hh];exact ⟨m,hm,rfl,rfl,rfl⟩
     ·simp [l1,l2,l5,l6,l7,l8,Vh,Jm,q1,q2,vi,c4];exact ⟨m,hm,rfl,rfl,rfl⟩
   ·obtain ⟨N2,uN2,hN2⟩:∃ N2,qy N2∧(if 0 < n3 then N1 else N) = N2:=⟨_,by split <;> assumption,rfl⟩;obtain ⟨E2,uE2,hE2⟩:∃ E2,qy E2∧(if 0 < m3 then ep0 else E) = E2:=⟨_,by split <;> assumption,rfl⟩;obtain ⟨m,hm,c4⟩:=qha js (.inr rfl) E2 N2 uE2 uN2 x hx;by_cases q1:0 < n3
    ·rw [if_pos q1] at hN2;by_cases q2:0 < m3
     ·rw [if_pos q2] at hE2;simp [l1,l2,l5,l6,l7,l8,Vh,Jm,q1,q2,hN1,vi,hN2,hE2,c4,hb];exact ⟨m,hm,rfl,rfl,rfl⟩
     ·rw [if_neg q2] at hE2;simp [l1,l2,l5,l6,l7,l8,Vh,Jm,q1,q2,hN1,vi,hN2,hE2,c4];exact ⟨m,hm,rfl,rfl,rfl⟩
    ·rw [if_neg q1] at hN2;by_cases q2:0 < m3
     ·rw [if_pos q2] at hE2;simp [l1,l2,l5,l6,l7,l8,Vh,Jm,q1,q2,vi,hN2,hE2,c4,hb];exact ⟨m,hm,rfl,rfl,rfl⟩
     ·rw [if_neg q2] at hE2;simp [l1,l2,l5,l6,l7,l8,Vh,Jm,q1,q2,vi,hN2,hE2,c4];exact ⟨m,hm,rfl,rfl,rfl⟩
theorem qtw [MaxL]:call cx 9 [] [] = some (.optr 0 4 0,[some [.int .u64 0,.int .u64 0,.vsl true [] 0,.vsl true [] 0]]):=by
 refine qq Tryz.func9 rfl ⟨rfl,rfl⟩ ?_;simp [Tryz.f9]
set_option maxRecDepth 100000 in
theorem qyz [MaxL]:call cx 8 [] [] = some (.bool true,[]):=call_some.2 ⟨900,by kernel_rfl⟩
theorem qqw [MaxL] (s:RSt) (d:D) (T:qi) (zW:VS s.its d T):call cx 18 [.optr 0 4 0] (some (s.A d) :: T) = some (.int .u64 s.ep,some (s.A d) :: T):=by
 obtain ⟨ep,la,its,mk⟩:=s;simp only [RSt.A] at zW ⊢;rcases zW with ⟨rfl,rfl,rfl⟩ | ⟨qr,n1,k1,zM,hk1,rfl,rfl⟩
 ·refine qq Tryz.func18 rfl ⟨rfl,rfl⟩ ?_;simp [Tryz.f18]
 ·refine qq Tryz.func18 rfl ⟨rfl,rfl⟩ ?_;simp [Tryz.f18]
theorem qqc [MaxL] (s:RSt) (hm:s.mks.l.length≤1000000) (d:D) (T:qi) (zW:VS s.its d T):call cx 17 [.optr 0 4 0] (some (s.A d) :: T) = some ((.vsl s.mks.nil (qg s.mks.l) s.mks.l.length),some (s.A d) :: T):=by
 have h1:=qlE s.mks (by omega);obtain ⟨ep,la,its,mk⟩:=s;simp only [RSt.A] at zW h1 hm ⊢;have ht:List.take (mk.l.length * 19) (qg mk.l) = qg mk.l:=qu (by simp);rcases zW with ⟨rfl,rfl,rfl⟩ | ⟨qr,n1,k1,zM,hk1,rfl,rfl⟩
 ·refine qq Tryz.func17 rfl ⟨rfl,rfl⟩ ?_;obtain ⟨nil,ml,qQ⟩:=mk;simp only at h1 ht;cases nil with
  | true =>
   have:=qQ rfl;subst this;rw [if_pos rfl] at h1;simp at h1;simp [Tryz.f17,h1]
  | false =>
   rw [if_neg (by decide)] at h1;simp [Tryz.f17,h1,ht]
 ·refine qq Tryz.func17 rfl ⟨rfl,rfl⟩ ?_;obtain ⟨nil,ml,qQ⟩:=mk;simp only at h1 ht;cases nil with
  | true =>
   have:=qQ rfl;subst this;rw [if_pos rfl] at h1;simp at h1;simp [Tryz.f17,h1]
  | false =>
   rw [if_neg (by decide)] at h1;simp [Tryz.f17,h1,ht]
theorem qsC [MaxL] (x:Sl Pr) (hx:x.l.length < 1000000):call cx 41 [(.vsl x.nil (qg x.l) x.l.length)] [] = some ((.vsl x.nil (qg x.l) x.l.length),[]):=by
 obtain ⟨nil,l,qQ⟩:=x;simp only at hx ⊢;have Qe:l.length * 32≤140737488355328:=by omega
 have vm:l.length≤140737488355328:=by omega
 have ht:List.take (l.length * 2) (qg l) = qg l:=qu (by simp);cases nil with
 | true =>
  have:=qQ rfl;subst this;refine qq Tryz.func41 rfl ⟨rfl,rfl⟩ ?_;simp [Tryz.f41]
 | false =>
  refine qq Tryz.func41 rfl ⟨rfl,rfl⟩ ?_;simp [Tryz.f41,Qe,vm,qF,ht]
theorem qx8 [MaxL] (a:List D) (ha:(∀ x,x∈a→closed 2 x = true) = True) (l:List It) (n k:Nat) (hn:n = l.length * 39) (hk:k = l.length) (hl:l.length≤1000000000):call cx 40 [.osl 1 n 0 k 39] [some a,some (qg l)] = some (.osl 2 n 0 k 39,[some a,some (qg l),some (qg l)]):=by
 subst hn;subst hk;have Qe:l.length * 104≤140737488355328:=by omega
 have vm:l.length≤140737488355328:=by omega
 have ht:List.take (l.length * 39) (qg l) = qg l:=qu (by simp);refine qq Tryz.func40 rfl ⟨rfl,rfl⟩ ?_;simp [Tryz.f40,Qe,vm,qF,ht,ha]
theorem qx9 [MaxL] (a:List D) (ha:(∀ x,x∈a→closed 1 x = true) = True):call cx 40 [.vsl true [] 0] [some a] = some (.vsl true [] 0,[some a]):=by
 refine qq Tryz.func40 rfl ⟨rfl,rfl⟩ ?_;simp [Tryz.f40,ha]
set_option maxHeartbeats 4000000 in
theorem qqh [MaxL] (s:RSt) (hL:s.its.length≤1000000000) (hf:∀ x∈s.its,x.rc.fields.l.length < 1000000) (d:D) (T:qi) (zW:VS s.its d T):call cx 14 [.optr 0 4 0] (some (s.A d) :: T) = some ((.vsl (Sl.grown s.its).nil (qg (Sl.grown s.its).l) (Sl.grown s.its).l.length),some (s.A d) :: T):=by
 obtain ⟨ep,la,its,mk⟩:=s;simp only [RSt.A] at zW hL hf ⊢;rcases zW with ⟨rfl,rfl,rfl⟩ | ⟨qr,n1,k1,zM,hk1,rfl,rfl⟩
 ·have h1:=qx9 [.int .u64 ep,.int .u64 la,.vsl true [] 0,(.vsl mk.nil (qg mk.l) mk.l.length)] (eq_true (by simp));refine qq Tryz.func14 rfl ⟨rfl,rfl⟩ ?_;simp [Tryz.f14,h1];refine qgU ?_;simp;rfl
 ·have h1:=qx8 [.int .u64 ep,.int .u64 la,.osl 1 n1 0 k1 39,(.vsl mk.nil (qg mk.l) mk.l.length)] (eq_true (by simp)) its n1 k1 zM hk1 hL;have qQ:(Sl.grown its).nil = false:=List.isEmpty_eq_false_iff.2 qr;have hle:(qg its).length = n1:=by rw [It.el,zM]
  have zh:k1 * 39 = n1:=by rw [hk1,zM]
  have ht:List.take n1 (qg its) = qg its:=qu (by omega);refine qq Tryz.func14 rfl ⟨rfl,rfl⟩ ?_;simp [Tryz.f14,h1];refine Run.loopThen (fun (i:Nat) e H=>i≤k1∧H = [some [.int .u64 ep,.int .u64 la,.osl 1 n1 0 k1 39,(.vsl mk.nil (qg mk.l) mk.l.length)],some (qg its),some (qg its)]∧qf e 3 = some (.osl 2 n1 0 k1 39)∧qf e 11 = some (.int .i64 k1)∧qf e 12 = some (.int .i64 i)) (fun i=>k1 - i) 0 ?_ ?_
  ·simp
  rintro i e H ⟨hi,rfl,k3,k11,k12⟩;by_cases qh:i < k1
  ·have qk:(i:Int) < (k1:Int):=(by omega);have hlL:i < its.length:=(by omega);have hw:IntKind.i64.wrap ((i:Int)+1) = ((i+1:Nat):Int):=(by rw [wrap_i64] <;> omega);have hx:=hf its[i] (vk hlL);have h2:=qsC its[i].rc.fields hx
   have jZ:List.drop (i * 39+38) (qg its) = (.vsl (its[i].rc.fields).nil (qg (its[i].rc.fields).l) (its[i].rc.fields).l.length) :: qg (its.drop (i+1)):=by
    rw [← kC,It.ea hlL,List.drop_append_of_le_length (by rw [It.cl];omega),It.d38];rfl
   have hset:qE (qg its) (i * 39+38) [(.vsl (its[i].rc.fields).nil (qg (its[i].rc.fields).l) (its[i].rc.fields).l.length)] = qg its:=by
    unfold qE
    have e1:List.drop (i * 39+38+([(.vsl (its[i].rc.fields).nil (qg (its[i].rc.fields).l) (its[i].rc.fields).l.length)]:List D).length) (qg its) = qg (its.drop (i+1)):=by
     show List.drop (i * 39+38+1) _ = _;rw [← kC,jZ];rfl
    rw [e1];have e2:([(.vsl (its[i].rc.fields).nil (qg (its[i].rc.fields).l) (its[i].rc.fields).l.length)]:List D) ++ qg (its.drop (i+1)) = List.drop (i * 39+38) (qg its):=(by rw [jZ];rfl);rw [ko,e2,V1]
   have hb:i * 39+38+1≤n1:=(by omega);generalize its[i] = x at *;simp [k3,k11,k12,qk,hw,h2,jZ,hset,hle,hb];exact ⟨i+1,by omega,by omega,by omega⟩
  ·have qk:¬ (i:Int) < (k1:Int):=(by omega);simp [k3,k11,k12,qk,hle,zh,ht,qQ,hk1.symm]
def Xm:List It→List It→Bool
 | [],[]=>true
 | x :: xs,y :: ys=>qc7 x y && Xm xs ys
 | _,_=>false
theorem qjT:∀ {x y:List It},Xm x y = true→x.length = y.length
 | [],[],_=>rfl
 | _ :: xs,_ :: ys,h=>by
  rw [Xm,qR] at h;rw [qH,qH,qjT h.2]
 | [],_ :: _,h=>by cases h
 | _ :: _,[],h=>by cases h
set_option maxHeartbeats 2000000 in
theorem qra [MaxL] (a b:Sl It) (ha:∀ x∈a.l,x.rc.fields.l.length < 1000000) (hb:∀ x∈b.l,x.rc.fields.l.length < 1000000) (han:a.l.length < 1000000):call cx 15 [(.vsl a.nil (qg a.l) a.l.length),(.vsl b.nil (qg b.l) b.l.length)] [] = some (.bool (Xm a.l b.l),[]):=by
 refine qq Tryz.func15 rfl ⟨rfl,rfl⟩ ?_;by_cases hl:a.l.length = b.l.length
 case neg =>
  have hf:Xm a.l b.l = false:=by
   cases h:Xm a.l b.l with
   | false=>rfl
   | true=>exact absurd (qjT h) hl
  have kZ:¬ (a.l.length:Int) = (b.l.length:Int):=by omega
  simp [Tryz.f15,kZ,hf]
 obtain ⟨r,hr⟩:∃ r,Xm a.l b.l = r:=⟨_,rfl⟩;rw [hr];simp [Tryz.f15,hl];refine Run.loopThen (fun (i:Nat) e H'=>i≤b.l.length∧Xm (a.l.drop i) (b.l.drop i) = r∧qf e 0 = some (.vsl a.nil (qg a.l) a.l.length)∧qf e 1 = some (.vsl b.nil (qg b.l) b.l.length)∧qf e 5 = some (.int .i64 (i:Nat))∧H' = []) (fun i=>b.l.length - i) 0 ⟨jg _,by simpa using hr,by simp [hl],by simp,by simp,rfl⟩ ?_;rintro i e H' ⟨hi,hR,k0,k1,k5,rfl⟩;by_cases qh:i < b.l.length
 ·have qk:(i:Int) < (b.l.length:Int):=by omega
  have VF:i < a.l.length:=by omega
  have hw:IntKind.i64.wrap ((i:Int)+1) = ((i+1:Nat):Int):=by rw [wrap_i64] <;> omega
  have hs:=qrv a.l[i] b.l[i] (ha _ (vk VF)) (hb _ (vk qh));rw [zo VF,zo qh,Xm] at hR;have jZ:List.drop (i * 39) (qg a.l) = Enc.cells a.l[i] ++ qg (a.l.drop (i+1)):=It.ea VF;have heb:List.drop (i * 39) (qg b.l) = Enc.cells b.l[i] ++ qg (b.l.drop (i+1)):=It.ea qh;have n1:=Sl.nn VF;have n2:=Sl.nn qh;generalize a.l[i] = x at *;generalize b.l[i] = y at *;cases hx:qc7 x y with
  | true =>
   rw [hx] at hs hR;simp [-It.ea,k0,k1,k5,hl,qk,n1,n2,jZ,heb,hs,hw];exact ⟨i+1,by omega,by omega,by simpa using hR,by omega⟩
  | false =>
   rw [hx] at hs hR;simp [-It.ea,k0,k1,k5,hl,qk,n1,n2,jZ,heb,hs,← hR]
 ·have hi2:i = b.l.length:=by omega
  rw [zZ (by omega),zZ (by omega)] at hR;replace hR:true = r:=hR;subst hR;simp [k0,k1,k5,hl,qh]
def Qh (l:List Mk) (id:ID):Option Mk:=l.find? fun m=>m.id == id
theorem qcj (l:List Mk) (id:ID):zJ l id = (Qh l id).getD ⟨id,0,0,0⟩:=rfl
theorem qyr (id:ID):Qh [] id = none:=rfl
theorem qam (a:Mk) (l:List Mk) (id:ID):Qh (a :: l) id = if a.id = id then some a else Qh l id:=by
 unfold Qh;rw [List.find?_cons];by_cases h:a.id = id
 ·simp [h]
 ·simp [h,beq_eq_false_iff_ne.2 h]
theorem qfU (l:List Mk) (id:ID):zO l id = (Qh l id).isSome:=by
 unfold zO Qh;rw [Bool.eq_iff_iff,List.find?_isSome,List.any_eq_true]
theorem fnd_none {l:List Mk} {id:ID}:Qh l id = none↔∀ x∈l,x.id≠id:=by
 rw [← hasM_false,qfU];cases Qh l id <;> simp
theorem qck {l:List Mk} {id:ID} {x:Mk} (h:Qh l id = some x):x∈l∧x.id = id:=by
 unfold Qh at h;exact ⟨List.mem_of_find?_eq_some h,by simpa using List.find?_some h⟩
theorem qog {a b:ID} (h:qx a.l b.l < 0):a≠b:=by
 rintro rfl;rw [qcW] at h;omega
theorem qys {l:List Mk} (hr:zB l = true) {x:Mk} (hx:x∈l):Qh l x.id = some x:=by
 induction l with
 | nil=>cases hx
 | cons a l ih =>
  obtain ⟨r1,r2⟩:=rises_cons.1 hr;rw [qam];rcases List.mem_cons.1 hx with rfl | h
  ·simp
  ·rw [if_neg (qog (r1 x h)),ih r2 h]
theorem qnc {m:Mk}:∀ {l:List Mk},(∀ x∈l,x.id≠m.id)→∀ id,Qh (Qn m l) id = if m.id = id then some m else Qh l id
 | [],_,id=>by simp [Qn,qam,qyr]
 | x :: l,h,id=>by
  unfold Qn;split
  ·rw [qam,qnc (fun y hy=>h y (vu _ hy)),qam];by_cases hx:x.id = id
   ·have:¬ m.id = id:=fun hm=>h x (kA ..) (by rw [hx,hm]);simp [hx,this]
   ·simp [hx]
  ·rw [qam]
theorem qnb {m:Mk}:∀ {l:List Mk},zO l m.id = true→∀ id,Qh (Jc m l) id = if m.id = id then some m else Qh l id
 | [],h,_=>by simp [zO] at h
 | x :: l,h,id=>by
  unfold Jc;by_cases hx:x.id = m.id
  ·rw [if_pos (by simpa using hx),qam,qam,hx];split <;> rfl
  ·have h':zO l m.id = true:=(by simpa [zO,hx] using h);rw [if_neg (by simpa using hx),qam,qnb h',qam];by_cases hi:x.id = id
   ·have:¬ m.id = id:=fun hm=>hx (by rw [hi,hm]);simp [hi,this]
   ·simp [hi]
theorem qyq {l:List Mk} {m:Mk} (hr:zB l = true) (id:ID):Qh (QJ l m) id = if m.id = id then some m else Qh l id:=by
 cases hh:zO l m.id with
 | true=>rw [qdF hh,qnb hh]
 | false=>rw [qdG hr hh,qnc (hasM_false.1 hh)]
def mx:Option Mk→Option Mk→Option Mk
 | none,o=>o
 | some x,none=>some x
 | some x,some y=>if y.seq≤x.seq then some x else some y
def qec (x:It):Int:=if x.gap then x.fr else x.rc.seq
def KO (x:It):Int:=if x.gap then x.til else x.rc.seq
def qoM (L:List It):Prop:= ∀ i j (hi:i < j) (hj:j < L.length),(L[i]'(by omega)).id = L[j].id→KO (L[i]'(by omega)) < qec L[j]
structure SeqR (L:List It):Prop where
 rise:qoM L
 num:∀ x∈L,∃ j,j < 3∧x.id = Ji j∧1≤qec x∧qec x≤KO x∧KO x≤L.length * 6
structure GoodL (L:List It) (last:List Int):Prop where
 rise:qoM L
 num:∀ x∈L,∃ j,j < 3∧x.id = Ji j∧1≤qec x∧qec x≤KO x∧∀ h:j < last.length,KO x≤last[j]
end Go.Ev.S
namespace Go.Ev
open Go Go.Proofs
end Go.Ev
namespace Go.Ev
structure Lim where
 count:Int
 bytes:Int
 hard:Int
instance:Enc Lim:=⟨3,fun m=>[.int .i64 m.count,.int .i64 m.bytes,.int .i64 m.hard],fun _=>rfl,fun _=>rfl⟩
@[simp] theorem Lim.cells (m:Lim):Enc.cells m = [.int .i64 m.count,.int .i64 m.bytes,.int .i64 m.hard]:=rfl
structure BatS where
 items:List It
 fin:List Mk
 used:Nat
 bytes:Nat
def BatS.none:BatS:=⟨[],[],0,0⟩
section
variable (tc:List Mk→It→Int) (tl:List Mk→It→Bool→List Mk) (hd:List Pr→Bool) (sz:It→Nat) (lim:Lim)
def qo8 (x:It):Bool:=x.gap || hd x.rc.fields.l
def qlm (x:It):Bool:=qo8 hd x && (!x.gap && decide (lim.hard < (sz x:Int)))
def qik (x:It):Bool:=qo8 hd x && !qlm hd sz lim x
def qpO (s:BatS) (x:It):Bool:=qik hd sz lim x && (decide ((s.items.length:Int) = lim.count) || (decide (0 < s.items.length) && decide (lim.bytes < (s.bytes:Int)+(sz x:Int))))
def qnj (l:List It) (f:List Mk):List Mk:=l.foldl (fun f x=>tl f x (qlm hd sz lim x)) f
def qpC (l:List It):Nat:=(l.map sz).sum
structure BldIs (l:List It) (s r:BatS) (n:Nat):Prop where
 le:n≤l.length
 used:r.used = s.used+n
 items:r.items = s.items ++ (l.take n).filter (qik hd sz lim)
 bytes:r.bytes = s.bytes+qpC sz ((l.take n).filter (qik hd sz lim))
 fin:r.fin = qnj tl hd sz lim (l.take n) s.fin
 stop:∀ h:n < l.length,qpO hd sz lim r l[n] = true∨tc r.fin l[n]≠0
 went:∀ k (_:k < n) (h:k < l.length),tc (qnj tl hd sz lim (l.take k) s.fin) l[k] = 0
end
end Go.Ev
namespace Go.Ev.S
open Go Go.Proofs Go.Ev
structure MarkI (f:List Mk) (S:List It):Prop where
 rises:zB f = true
 ids:∀ m∈f,∃ j,j < 3∧m.id = Ji j
 seq:∀ id,(zJ f id).seq = 0∨∃ x∈S,x.id = id∧KO x = (zJ f id).seq
 last:∀ x∈S,KO x≤(zJ f x.id).seq
theorem qyd {f:List Mk} {m:Mk} (hr:zB f = true) (id:ID):zJ (QJ f m) id = if m.id = id then m else zJ f id:=by
 rw [qcj,qyq hr,qcj];split <;> rfl
theorem qsk {f:List Mk} {m:Mk} (hr:zB f = true):∀ x∈QJ f m,x = m∨x∈f:=by
 intro x hx;cases h:zO f m.id with
 | true =>
  rw [qdF h] at hx;exact qhj hx
 | false =>
  rw [qdG hr h] at hx;exact (qhX m f x).1 hx
theorem qgH (m:Mk) (y:It) (o:Bool):(VZ m y o).seq = KO y:=by
 unfold VZ KO;split <;> rfl
section
variable (hd:List Pr→Bool) (sz:It→Nat) (lim:Lim)
end
end Go.Ev.S
