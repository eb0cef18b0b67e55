import Derived.Test.YtkfojmihnjnhfaaGreatDoorC5
import Derived.Shelf.Strings.BuilderF
import Derived.Test.YtkfojmihnjnhfaaGreatDoorProg
import Derived.Laws.RangeString
namespace Go.Ev
open Go Go.Proofs
structure Rq where
 path:List UInt8
 epoch:Int
 number:Int
 body:Sl UInt8
instance:Enc Rq:=⟨4,fun m=>(.str m.path :: (.int .u64 m.epoch :: (.int .u64 m.number :: ((.vsl m.body.nil (ofBytes m.body.l) m.body.l.length) :: ([]:List D))))),fun m=>by simp,fun m=>by simp [idFree]⟩
theorem Rq.cells (m:Rq):Enc.cells m = (.str m.path :: (.int .u64 m.epoch :: (.int .u64 m.number :: ((.vsl m.body.nil (ofBytes m.body.l) m.body.l.length) :: ([]:List D))))):=rfl
@[simp] theorem Rq.size:Enc.size Rq = 4:=rfl
@[simp] theorem Rq.cl (a:Rq):(Enc.cells a).length = 4:=Enc.len a
@[simp] theorem Rq.ct (a:Rq) (r:List D):(Enc.cells a ++ r).take 4 = Enc.cells a:=cells_take rfl a r
@[simp] theorem Rq.ct' (a:Rq):(Enc.cells a).take 4 = Enc.cells a:=cells_take' rfl a
@[simp] theorem Rq.cd (a:Rq) (r:List D):(Enc.cells a ++ r).drop 4 = r:=cells_drop rfl a r
@[simp] theorem Rq.el (l:List Rq):(encs l).length = l.length * 4:=encs_len' rfl l
@[simp] theorem Rq.ed (l:List Rq) (i:Nat):(encs l).drop (i * 4) = encs (l.drop i):=encs_drop rfl l i
@[simp] theorem Rq.et (l:List Rq) (i:Nat):(encs l).take (i * 4) = encs (l.take i):=encs_take rfl l i
@[simp high] theorem Rq.ea {l:List Rq} {i:Nat} (h:i < l.length):(encs l).drop (i * 4) = Enc.cells l[i] ++ encs (l.drop (i+1)):=encs_at rfl h
@[simp high] theorem Rq.es (m:Rq) {l:List Rq} {j:Nat} (h:j < l.length):setRange (encs l) (j * 4) (Enc.cells m) = encs (l.set j m):=encs_set rfl m l h
@[simp] theorem Rq.g0 (m:Rq) (h):(Enc.cells m)[0]'h = .str m.path:=by simp [Rq.cells]
@[simp] theorem Rq.q0 (m:Rq):(Enc.cells m)[0]? = some (.str m.path):=by simp [Rq.cells]
@[simp] theorem Rq.s0 (m:Rq) (x:List UInt8):setRange (Enc.cells m) 0 [.str x] = Enc.cells { m with path:=x }:=by simp [Rq.cells]
@[simp] theorem Rq.d1 (m:Rq):(Enc.cells m).drop 1 = (.int .u64 m.epoch :: (.int .u64 m.number :: ((.vsl m.body.nil (ofBytes m.body.l) m.body.l.length) :: ([]:List D)))):=by simp [Rq.cells]
@[simp] theorem Rq.d1' (m:Rq) (r:List D):(Enc.cells m ++ r).drop 1 = (.int .u64 m.epoch :: (.int .u64 m.number :: ((.vsl m.body.nil (ofBytes m.body.l) m.body.l.length) :: ([]:List D)))) ++ r:=by simp [Rq.cells]
@[simp] theorem Rq.g1 (m:Rq) (h):(Enc.cells m)[1]'h = .int .u64 m.epoch:=by simp [Rq.cells]
@[simp] theorem Rq.q1 (m:Rq):(Enc.cells m)[1]? = some (.int .u64 m.epoch):=by simp [Rq.cells]
@[simp] theorem Rq.s1 (m:Rq) (x:Int):setRange (Enc.cells m) 1 [.int .u64 x] = Enc.cells { m with epoch:=x }:=by simp [Rq.cells]
@[simp] theorem Rq.d2 (m:Rq):(Enc.cells m).drop 2 = (.int .u64 m.number :: ((.vsl m.body.nil (ofBytes m.body.l) m.body.l.length) :: ([]:List D))):=by simp [Rq.cells]
@[simp] theorem Rq.d2' (m:Rq) (r:List D):(Enc.cells m ++ r).drop 2 = (.int .u64 m.number :: ((.vsl m.body.nil (ofBytes m.body.l) m.body.l.length) :: ([]:List D))) ++ r:=by simp [Rq.cells]
@[simp] theorem Rq.g2 (m:Rq) (h):(Enc.cells m)[2]'h = .int .u64 m.number:=by simp [Rq.cells]
@[simp] theorem Rq.q2 (m:Rq):(Enc.cells m)[2]? = some (.int .u64 m.number):=by simp [Rq.cells]
@[simp] theorem Rq.s2 (m:Rq) (x:Int):setRange (Enc.cells m) 2 [.int .u64 x] = Enc.cells { m with number:=x }:=by simp [Rq.cells]
@[simp] theorem Rq.d3 (m:Rq):(Enc.cells m).drop 3 = ((.vsl m.body.nil (ofBytes m.body.l) m.body.l.length) :: ([]:List D)):=by simp [Rq.cells]
@[simp] theorem Rq.d3' (m:Rq) (r:List D):(Enc.cells m ++ r).drop 3 = ((.vsl m.body.nil (ofBytes m.body.l) m.body.l.length) :: ([]:List D)) ++ r:=by simp [Rq.cells]
@[simp] theorem Rq.g3 (m:Rq) (h):(Enc.cells m)[3]'h = (.vsl m.body.nil (ofBytes m.body.l) m.body.l.length):=by simp [Rq.cells]
@[simp] theorem Rq.q3 (m:Rq):(Enc.cells m)[3]? = some ((.vsl m.body.nil (ofBytes m.body.l) m.body.l.length)):=by simp [Rq.cells]
@[simp] theorem Rq.s3 (m:Rq) (x:Sl UInt8):setRange (Enc.cells m) 3 [(.vsl x.nil (ofBytes x.l) x.l.length)] = Enc.cells { m with body:=x }:=by simp [Rq.cells]
structure Msg where
 kind:Int
 epoch:Int
 number:Int
 body:Sl UInt8
instance:Enc Msg:=⟨4,fun m=>(.int .i64 m.kind :: (.int .u64 m.epoch :: (.int .u64 m.number :: ((.vsl m.body.nil (ofBytes m.body.l) m.body.l.length) :: ([]:List D))))),fun m=>by simp,fun m=>by simp [idFree]⟩
theorem Msg.cells (m:Msg):Enc.cells m = (.int .i64 m.kind :: (.int .u64 m.epoch :: (.int .u64 m.number :: ((.vsl m.body.nil (ofBytes m.body.l) m.body.l.length) :: ([]:List D))))):=rfl
@[simp] theorem Msg.size:Enc.size Msg = 4:=rfl
@[simp] theorem Msg.cl (a:Msg):(Enc.cells a).length = 4:=Enc.len a
@[simp] theorem Msg.ct (a:Msg) (r:List D):(Enc.cells a ++ r).take 4 = Enc.cells a:=cells_take rfl a r
@[simp] theorem Msg.ct' (a:Msg):(Enc.cells a).take 4 = Enc.cells a:=cells_take' rfl a
@[simp] theorem Msg.cd (a:Msg) (r:List D):(Enc.cells a ++ r).drop 4 = r:=cells_drop rfl a r
@[simp] theorem Msg.el (l:List Msg):(encs l).length = l.length * 4:=encs_len' rfl l
@[simp] theorem Msg.ed (l:List Msg) (i:Nat):(encs l).drop (i * 4) = encs (l.drop i):=encs_drop rfl l i
@[simp] theorem Msg.et (l:List Msg) (i:Nat):(encs l).take (i * 4) = encs (l.take i):=encs_take rfl l i
@[simp high] theorem Msg.ea {l:List Msg} {i:Nat} (h:i < l.length):(encs l).drop (i * 4) = Enc.cells l[i] ++ encs (l.drop (i+1)):=encs_at rfl h
@[simp high] theorem Msg.es (m:Msg) {l:List Msg} {j:Nat} (h:j < l.length):setRange (encs l) (j * 4) (Enc.cells m) = encs (l.set j m):=encs_set rfl m l h
@[simp] theorem Msg.g0 (m:Msg) (h):(Enc.cells m)[0]'h = .int .i64 m.kind:=by simp [Msg.cells]
@[simp] theorem Msg.q0 (m:Msg):(Enc.cells m)[0]? = some (.int .i64 m.kind):=by simp [Msg.cells]
@[simp] theorem Msg.s0 (m:Msg) (x:Int):setRange (Enc.cells m) 0 [.int .i64 x] = Enc.cells { m with kind:=x }:=by simp [Msg.cells]
@[simp] theorem Msg.d1 (m:Msg):(Enc.cells m).drop 1 = (.int .u64 m.epoch :: (.int .u64 m.number :: ((.vsl m.body.nil (ofBytes m.body.l) m.body.l.length) :: ([]:List D)))):=by simp [Msg.cells]
@[simp] theorem Msg.d1' (m:Msg) (r:List D):(Enc.cells m ++ r).drop 1 = (.int .u64 m.epoch :: (.int .u64 m.number :: ((.vsl m.body.nil (ofBytes m.body.l) m.body.l.length) :: ([]:List D)))) ++ r:=by simp [Msg.cells]
@[simp] theorem Msg.g1 (m:Msg) (h):(Enc.cells m)[1]'h = .int .u64 m.epoch:=by simp [Msg.cells]
@[simp] theorem Msg.q1 (m:Msg):(Enc.cells m)[1]? = some (.int .u64 m.epoch):=by simp [Msg.cells]
@[simp] theorem Msg.s1 (m:Msg) (x:Int):setRange (Enc.cells m) 1 [.int .u64 x] = Enc.cells { m with epoch:=x }:=by simp [Msg.cells]
@[simp] theorem Msg.d2 (m:Msg):(Enc.cells m).drop 2 = (.int .u64 m.number :: ((.vsl m.body.nil (ofBytes m.body.l) m.body.l.length) :: ([]:List D))):=by simp [Msg.cells]
@[simp] theorem Msg.d2' (m:Msg) (r:List D):(Enc.cells m ++ r).drop 2 = (.int .u64 m.number :: ((.vsl m.body.nil (ofBytes m.body.l) m.body.l.length) :: ([]:List D))) ++ r:=by simp [Msg.cells]
@[simp] theorem Msg.g2 (m:Msg) (h):(Enc.cells m)[2]'h = .int .u64 m.number:=by simp [Msg.cells]
@[simp] theorem Msg.q2 (m:Msg):(Enc.cells m)[2]? = some (.int .u64 m.number):=by simp [Msg.cells]
@[simp] theorem Msg.s2 (m:Msg) (x:Int):setRange (Enc.cells m) 2 [.int .u64 x] = Enc.cells { m with number:=x }:=by simp [Msg.cells]
@[simp] theorem Msg.d3 (m:Msg):(Enc.cells m).drop 3 = ((.vsl m.body.nil (ofBytes m.body.l) m.body.l.length) :: ([]:List D)):=by simp [Msg.cells]
@[simp] theorem Msg.d3' (m:Msg) (r:List D):(Enc.cells m ++ r).drop 3 = ((.vsl m.body.nil (ofBytes m.body.l) m.body.l.length) :: ([]:List D)) ++ r:=by simp [Msg.cells]
@[simp] theorem Msg.g3 (m:Msg) (h):(Enc.cells m)[3]'h = (.vsl m.body.nil (ofBytes m.body.l) m.body.l.length):=by simp [Msg.cells]
@[simp] theorem Msg.q3 (m:Msg):(Enc.cells m)[3]? = some ((.vsl m.body.nil (ofBytes m.body.l) m.body.l.length)):=by simp [Msg.cells]
@[simp] theorem Msg.s3 (m:Msg) (x:Sl UInt8):setRange (Enc.cells m) 3 [(.vsl x.nil (ofBytes x.l) x.l.length)] = Enc.cells { m with body:=x }:=by simp [Msg.cells]
structure Rs where
 status:Int
 epoch:Int
 number:Int
 body:Sl UInt8
instance:Enc Rs:=⟨4,fun m=>(.int .i64 m.status :: (.int .u64 m.epoch :: (.int .u64 m.number :: ((.vsl m.body.nil (ofBytes m.body.l) m.body.l.length) :: ([]:List D))))),fun m=>by simp,fun m=>by simp [idFree]⟩
theorem Rs.cells (m:Rs):Enc.cells m = (.int .i64 m.status :: (.int .u64 m.epoch :: (.int .u64 m.number :: ((.vsl m.body.nil (ofBytes m.body.l) m.body.l.length) :: ([]:List D))))):=rfl
@[simp] theorem Rs.size:Enc.size Rs = 4:=rfl
@[simp] theorem Rs.cl (a:Rs):(Enc.cells a).length = 4:=Enc.len a
@[simp] theorem Rs.ct (a:Rs) (r:List D):(Enc.cells a ++ r).take 4 = Enc.cells a:=cells_take rfl a r
@[simp] theorem Rs.ct' (a:Rs):(Enc.cells a).take 4 = Enc.cells a:=cells_take' rfl a
@[simp] theorem Rs.cd (a:Rs) (r:List D):(Enc.cells a ++ r).drop 4 = r:=cells_drop rfl a r
@[simp] theorem Rs.el (l:List Rs):(encs l).length = l.length * 4:=encs_len' rfl l
@[simp] theorem Rs.ed (l:List Rs) (i:Nat):(encs l).drop (i * 4) = encs (l.drop i):=encs_drop rfl l i
@[simp] theorem Rs.et (l:List Rs) (i:Nat):(encs l).take (i * 4) = encs (l.take i):=encs_take rfl l i
@[simp high] theorem Rs.ea {l:List Rs} {i:Nat} (h:i < l.length):(encs l).drop (i * 4) = Enc.cells l[i] ++ encs (l.drop (i+1)):=encs_at rfl h
@[simp high] theorem Rs.es (m:Rs) {l:List Rs} {j:Nat} (h:j < l.length):setRange (encs l) (j * 4) (Enc.cells m) = encs (l.set j m):=encs_set rfl m l h
@[simp] theorem Rs.g0 (m:Rs) (h):(Enc.cells m)[0]'h = .int .i64 m.status:=by simp [Rs.cells]
@[simp] theorem Rs.q0 (m:Rs):(Enc.cells m)[0]? = some (.int .i64 m.status):=by simp [Rs.cells]
@[simp] theorem Rs.s0 (m:Rs) (x:Int):setRange (Enc.cells m) 0 [.int .i64 x] = Enc.cells { m with status:=x }:=by simp [Rs.cells]
@[simp] theorem Rs.d1 (m:Rs):(Enc.cells m).drop 1 = (.int .u64 m.epoch :: (.int .u64 m.number :: ((.vsl m.body.nil (ofBytes m.body.l) m.body.l.length) :: ([]:List D)))):=by simp [Rs.cells]
@[simp] theorem Rs.d1' (m:Rs) (r:List D):(Enc.cells m ++ r).drop 1 = (.int .u64 m.epoch :: (.int .u64 m.number :: ((.vsl m.body.nil (ofBytes m.body.l) m.body.l.length) :: ([]:List D)))) ++ r:=by simp [Rs.cells]
@[simp] theorem Rs.g1 (m:Rs) (h):(Enc.cells m)[1]'h = .int .u64 m.epoch:=by simp [Rs.cells]
@[simp] theorem Rs.q1 (m:Rs):(Enc.cells m)[1]? = some (.int .u64 m.epoch):=by simp [Rs.cells]
@[simp] theorem Rs.s1 (m:Rs) (x:Int):setRange (Enc.cells m) 1 [.int .u64 x] = Enc.cells { m with epoch:=x }:=by simp [Rs.cells]
@[simp] theorem Rs.d2 (m:Rs):(Enc.cells m).drop 2 = (.int .u64 m.number :: ((.vsl m.body.nil (ofBytes m.body.l) m.body.l.length) :: ([]:List D))):=by simp [Rs.cells]
@[simp] theorem Rs.d2' (m:Rs) (r:List D):(Enc.cells m ++ r).drop 2 = (.int .u64 m.number :: ((.vsl m.body.nil (ofBytes m.body.l) m.body.l.length) :: ([]:List D))) ++ r:=by simp [Rs.cells]
@[simp] theorem Rs.g2 (m:Rs) (h):(Enc.cells m)[2]'h = .int .u64 m.number:=by simp [Rs.cells]
@[simp] theorem Rs.q2 (m:Rs):(Enc.cells m)[2]? = some (.int .u64 m.number):=by simp [Rs.cells]
@[simp] theorem Rs.s2 (m:Rs) (x:Int):setRange (Enc.cells m) 2 [.int .u64 x] = Enc.cells { m with number:=x }:=by simp [Rs.cells]
@[simp] theorem Rs.d3 (m:Rs):(Enc.cells m).drop 3 = ((.vsl m.body.nil (ofBytes m.body.l) m.body.l.length) :: ([]:List D)):=by simp [Rs.cells]
@[simp] theorem Rs.d3' (m:Rs) (r:List D):(Enc.cells m ++ r).drop 3 = ((.vsl m.body.nil (ofBytes m.body.l) m.body.l.length) :: ([]:List D)) ++ r:=by simp [Rs.cells]
@[simp] theorem Rs.g3 (m:Rs) (h):(Enc.cells m)[3]'h = (.vsl m.body.nil (ofBytes m.body.l) m.body.l.length):=by simp [Rs.cells]
@[simp] theorem Rs.q3 (m:Rs):(Enc.cells m)[3]? = some ((.vsl m.body.nil (ofBytes m.body.l) m.body.l.length)):=by simp [Rs.cells]
@[simp] theorem Rs.s3 (m:Rs) (x:Sl UInt8):setRange (Enc.cells m) 3 [(.vsl x.nil (ofBytes x.l) x.l.length)] = Enc.cells { m with body:=x }:=by simp [Rs.cells]
@[simp] theorem ofBytes_nil:ofBytes [] = []:=rfl
def Msg.zero:Msg:=⟨0,0,0,.none⟩
def crlf:List UInt8:=[13,10]
def epochL:List UInt8:=[88,45,69,112,111,99,104,58,32]
def numberL:List UInt8:=[88,45,78,117,109,98,101,114,58,32]
def lengthL:List UInt8:=[67,111,110,116,101,110,116,45,76,101,110,103,116,104,58,32]
def numsL (e n l:Nat):List UInt8:=epochL ++ (dec e ++ (crlf ++ (numberL ++ (dec n ++ (crlf ++ (lengthL ++ (dec l ++ (crlf ++ crlf))))))))
theorem decF_len:∀ (f v:Nat),(decF f v).length≤f
 | 0,_=>Nat.le_refl _
 | f+1,v=>by
  rw [decF]
  split
  ·simp
  ·have:=decF_len f (v / 10)
   simp
   omega
theorem dec_len (v:Nat):(dec v).length≤20:=decF_len 20 v
theorem dec_pos (v:Nat):0 < (dec v).length:=by
 unfold dec decF
 split <;> simp
theorem nums_len (e n l:Nat):(numsL e n l).length≤103:=by
 have h1:=dec_len e
 have h2:=dec_len n
 have h3:=dec_len l
 simp only [numsL,List.length_append,epochL,numberL,lengthL,crlf,List.length_cons,List.length_nil]
 omega
theorem cat_of {x y s:List UInt8} (e:s = x ++ y) (h:x.length+y.length≤100000):strD .add x y = some (.str s):=by
 simp only [strD,e]
 rw [if_pos (by omega)]
section
variable {H:Type} {enc:TypeId × Value→H} {P:Program} {W:World} {base n:Nat} {t e:TypeId} {v:Value} {d:DataW H} {ps:List MemPlace}
end
end Go.Ev
namespace Go.Ev.S
open Go Go.Proofs Go.Ev
theorem dec_ev [MaxL] [TxtC] (v:Nat) (hv:v < 18446744073709551616):call cx 130 [.int .u64 v] [] = some (.str (dec v),[]):=by
 have h:=fu_ev v hv
 refine call_run Tryz.func130 rfl ⟨rfl,rfl⟩ ?_
 simp [Tryz.f130,h]
theorem head_ev [MaxL] [TxtC] (b:List UInt8) (hb:b.length≤1000) (e n l:Nat) (he:e < 18446744073709551616) (hn:n < 18446744073709551616) (hl:l < 18446744073709551616) :
  call cx 86 [.str b,.int .u64 e,.int .u64 n,.int .u64 l] [] = some (.str (b ++ numsL e n l),[]):=by
 have h1:=dec_ev e he
 have h2:=dec_ev n hn
 have h3:=dec_ev l hl
 have l1:=dec_len e
 have l2:=dec_len n
 have l3:=dec_len l
 unfold numsL
 generalize dec e = x at *
 generalize dec n = y at *
 generalize dec l = z at *
 clear he hn hl
 obtain ⟨s1,es1⟩:∃ s,s = b ++ epochL:=⟨_,rfl⟩
 have ls1:s1.length = b.length+epochL.length:=by rw [es1,List.length_append]
 obtain ⟨s2,es2⟩:∃ s,s = s1 ++ x:=⟨_,rfl⟩
 have ls2:s2.length = s1.length+x.length:=by rw [es2,List.length_append]
 obtain ⟨s3,es3⟩:∃ s,s = s2 ++ crlf:=⟨_,rfl⟩
 have ls3:s3.length = s2.length+crlf.length:=by rw [es3,List.length_append]
 obtain ⟨s4,es4⟩:∃ s,s = s3 ++ numberL:=⟨_,rfl⟩
 have ls4:s4.length = s3.length+numberL.length:=by rw [es4,List.length_append]
 obtain ⟨s5,es5⟩:∃ s,s = s4 ++ y:=⟨_,rfl⟩
 have ls5:s5.length = s4.length+y.length:=by rw [es5,List.length_append]
 obtain ⟨s6,es6⟩:∃ s,s = s5 ++ crlf:=⟨_,rfl⟩
 have ls6:s6.length = s5.length+crlf.length:=by rw [es6,List.length_append]
 obtain ⟨s7,es7⟩:∃ s,s = s6 ++ lengthL:=⟨_,rfl⟩
 have ls7:s7.length = s6.length+lengthL.length:=by rw [es7,List.length_append]
 obtain ⟨s8,es8⟩:∃ s,s = s7 ++ z:=⟨_,rfl⟩
 have ls8:s8.length = s7.length+z.length:=by rw [es8,List.length_append]
 obtain ⟨s9,es9⟩:∃ s,s = s8 ++ crlf:=⟨_,rfl⟩
 have ls9:s9.length = s8.length+crlf.length:=by rw [es9,List.length_append]
 obtain ⟨s10,es10⟩:∃ s,s = s9 ++ crlf:=⟨_,rfl⟩
 have ls10:s10.length = s9.length+crlf.length:=by rw [es10,List.length_append]
 simp only [epochL,numberL,lengthL,crlf,List.length_cons,List.length_nil] at ls1 ls2 ls3 ls4 ls5 ls6 ls7 ls8 ls9 ls10
 have cs1:=cat_of es1 (by (try simp only [epochL,List.length_cons,List.length_nil]);omega)
 have cs2:=cat_of es2 (by (try simp only [epochL,numberL,lengthL,crlf,List.length_cons,List.length_nil]);omega)
 have cs3:=cat_of es3 (by (try simp only [crlf,List.length_cons,List.length_nil]);omega)
 have cs4:=cat_of es4 (by (try simp only [numberL,List.length_cons,List.length_nil]);omega)
 have cs5:=cat_of es5 (by (try simp only [epochL,numberL,lengthL,crlf,List.length_cons,List.length_nil]);omega)
 have cs6:=cat_of es6 (by (try simp only [crlf,List.length_cons,List.length_nil]);omega)
 have cs7:=cat_of es7 (by (try simp only [lengthL,List.length_cons,List.length_nil]);omega)
 have cs8:=cat_of es8 (by (try simp only [epochL,numberL,lengthL,crlf,List.length_cons,List.length_nil]);omega)
 have cs9:=cat_of es9 (by (try simp only [crlf,List.length_cons,List.length_nil]);omega)
 have cs10:=cat_of es10 (by (try simp only [crlf,List.length_cons,List.length_nil]);omega)
 simp only [epochL,numberL,lengthL,crlf] at cs1 cs2 cs3 cs4 cs5 cs6 cs7 cs8 cs9 cs10
 have hfin:b ++ (epochL ++ (x ++ (crlf ++ (numberL ++ (y ++ (crlf ++ (lengthL ++ (z ++ (crlf ++ crlf))))))))) = s10:=by
  simp [es10,es9,es8,es7,es6,es5,es4,es3,es2,es1]
 rw [hfin]
 clear hfin es1 es2 es3 es4 es5 es6 es7 es8 es9 es10 ls1 ls2 ls3 ls4 ls5 ls6 ls7 ls8 ls9 ls10 l1 l2 l3 hb
 refine call_run Tryz.func86 rfl ⟨rfl,rfl⟩ ?_
 simp [Tryz.f86,h1,h2,h3,-strD,cs1,cs2,cs3,cs4,cs5,cs6,cs7,cs8,cs9,cs10]
def putH (b:List UInt8) (e n:Nat) (body:List UInt8):Sl UInt8:=if 65536 < body.length then .none else .of (b ++ (numsL e n body.length ++ body))
theorem put_ev [MaxL] [TxtC] (b:List UInt8) (hb:b.length≤1000) (e n:Nat) (he:e < 18446744073709551616) (hn:n < 18446744073709551616) (body:Sl UInt8) (hl:body.l.length≤100000) :
  call cx 52 [.str b,.int .u64 e,.int .u64 n,(.vsl body.nil (ofBytes body.l) body.l.length)] [] = some ((.vsl (putH b e n body.l).nil (ofBytes (putH b e n body.l).l) (putH b e n body.l).l.length),[]):=by
 refine call_run Tryz.func52 rfl ⟨rfl,rfl⟩ ?_
 unfold putH
 by_cases h:65536 < body.l.length
 ·have h':(65536:Int) < (body.l.length:Int):=by omega
  simp [Tryz.f52,h,h']
 ·have h':¬ (65536:Int) < (body.l.length:Int):=by omega
  have h1:=head_ev b hb e n body.l.length he hn (by omega)
  have hw:IntKind.u64.wrap (body.l.length:Int) = (body.l.length:Int):=by rw [wrap_u64];omega
  have hx:=nums_len e n body.l.length
  generalize numsL e n body.l.length = x at *
  have hm:b.length+(x.length+body.l.length)≤maxBytes:=by unfold maxBytes;omega
  simp [Tryz.f52,h,h',h1,hw,hm,ofBytes_append,List.take_of_length_le,Nat.add_assoc]
def postL:List UInt8:=[80,79,83,84,32]
def httpL:List UInt8:=[32,72,84,84,80,47,49,46,49]
def hostL:List UInt8:=[72,111,115,116,58,32,114,101,99,101,105,118,101,114]
def ctypeL:List UInt8:=[67,111,110,116,101,110,116,45,84,121,112,101,58,32,97,112,112,108,105,99,97,116,105,111,110,47,118,110,100,46,102,100,111,46,106,111,117,114,110,97,108]
def beginL (p:List UInt8):List UInt8:=postL ++ (p ++ (httpL ++ (crlf ++ (hostL ++ (crlf ++ (ctypeL ++ crlf))))))
theorem begin_len (p:List UInt8):(beginL p).length = p.length+75:=by
 simp [beginL,postL,httpL,hostL,ctypeL,crlf]
theorem begin_ev [MaxL] [TxtC] (p:List UInt8) (hp:p.length≤100):call cx 50 [.str p] [] = some (.str (beginL p),[]):=by
 obtain ⟨s1,es1⟩:∃ s,s = postL ++ p:=⟨_,rfl⟩
 have ls1:s1.length = postL.length+p.length:=by rw [es1,List.length_append]
 obtain ⟨s2,es2⟩:∃ s,s = s1 ++ httpL:=⟨_,rfl⟩
 have ls2:s2.length = s1.length+httpL.length:=by rw [es2,List.length_append]
 obtain ⟨s3,es3⟩:∃ s,s = s2 ++ crlf:=⟨_,rfl⟩
 have ls3:s3.length = s2.length+crlf.length:=by rw [es3,List.length_append]
 obtain ⟨s4,es4⟩:∃ s,s = s3 ++ hostL:=⟨_,rfl⟩
 have ls4:s4.length = s3.length+hostL.length:=by rw [es4,List.length_append]
 obtain ⟨s5,es5⟩:∃ s,s = s4 ++ crlf:=⟨_,rfl⟩
 have ls5:s5.length = s4.length+crlf.length:=by rw [es5,List.length_append]
 obtain ⟨s6,es6⟩:∃ s,s = s5 ++ ctypeL:=⟨_,rfl⟩
 have ls6:s6.length = s5.length+ctypeL.length:=by rw [es6,List.length_append]
 obtain ⟨s7,es7⟩:∃ s,s = s6 ++ crlf:=⟨_,rfl⟩
 have ls7:s7.length = s6.length+crlf.length:=by rw [es7,List.length_append]
 simp only [postL,httpL,hostL,ctypeL,crlf,List.length_cons,List.length_nil] at ls1 ls2 ls3 ls4 ls5 ls6 ls7
 have cs1:=cat_of es1 (by (try simp only [postL,List.length_cons,List.length_nil]);omega)
 have cs2:=cat_of es2 (by (try simp only [httpL,List.length_cons,List.length_nil]);omega)
 have cs3:=cat_of es3 (by (try simp only [crlf,List.length_cons,List.length_nil]);omega)
 have cs4:=cat_of es4 (by (try simp only [hostL,List.length_cons,List.length_nil]);omega)
 have cs5:=cat_of es5 (by (try simp only [crlf,List.length_cons,List.length_nil]);omega)
 have cs6:=cat_of es6 (by (try simp only [ctypeL,List.length_cons,List.length_nil]);omega)
 have cs7:=cat_of es7 (by (try simp only [crlf,List.length_cons,List.length_nil]);omega)
 simp only [postL,httpL,hostL,ctypeL,crlf] at cs1 cs2 cs3 cs4 cs5 cs6 cs7
 have hfin:beginL p = s7:=by
  simp [beginL,es7,es6,es5,es4,es3,es2,es1]
 rw [hfin]
 clear hfin es1 es2 es3 es4 es5 es6 es7 ls1 ls2 ls3 ls4 ls5 ls6 ls7 hp
 refine call_run Tryz.func50 rfl ⟨rfl,rfl⟩ ?_
 simp [Tryz.f50,-strD,cs1,cs2,cs3,cs4,cs5,cs6,cs7]
def okStr:List UInt8:=[50,48,48,32,79,75]
def badStr:List UInt8:=[52,48,48,32,66,97,100,32,82,101,113,117,101,115,116]
def conStr:List UInt8:=[52,48,57,32,67,111,110,102,108,105,99,116]
def statusL (n:Int):List UInt8:=[72,84,84,80,47,49,46,49,32] ++ ((if n = 400 then badStr else if n = 409 then conStr else okStr) ++ [13,10])
theorem status_ev [MaxL] [TxtC] (n:Int):call cx 49 [.int .i64 n] [] = some (.str (statusL n),[]):=by
 refine call_run Tryz.func49 rfl ⟨rfl,rfl⟩ ?_
 unfold statusL
 by_cases h1:n = 400
 ·simp [Tryz.f49,h1,badStr]
 ·by_cases h2:n = 409
  ·simp [Tryz.f49,h2,conStr]
  ·simp [Tryz.f49,h1,h2,okStr]
def helloL:List UInt8:=[47,104,101,108,108,111]
def batchL:List UInt8:=[47,98,97,116,99,104]
theorem path_ev [MaxL] [TxtC] (s:List UInt8):call cx 51 [.str s] [] = some (.bool (s == helloL || s == batchL),[]):=by
 refine call_run Tryz.func51 rfl ⟨rfl,rfl⟩ ?_
 have h1:(s == [47,104,101,108,108,111]) = (s == helloL):=rfl
 have h2:(s == [47,98,97,116,99,104]) = (s == batchL):=rfl
 cases h:s == helloL
 ·rw [h] at h1
  cases h':s == batchL <;> rw [h'] at h2 <;> simp [Tryz.f51,h1,h2]
 ·rw [h] at h1
  simp [Tryz.f51,h1]
def putRq (r:Rq):Sl UInt8:=if r.path == helloL || r.path == batchL then putH (beginL r.path) r.epoch.toNat r.number.toNat r.body.l else .none
def putRs (r:Rs):Sl UInt8:=if r.status = 200∨r.status = 400∨r.status = 409 then putH (statusL r.status) r.epoch.toNat r.number.toNat r.body.l else .none
theorem putrq_ev [MaxL] [TxtC] (r:Rq) (he:isU64 r.epoch) (hn:isU64 r.number) (hp:r.path.length≤100) (hb:r.body.l.length≤100000):call cx 28 [.agg (Enc.cells r)] [] = some ((.vsl (putRq r).nil (ofBytes (putRq r).l) (putRq r).l.length),[]):=by
 have h1:=path_ev r.path
 have h2:=begin_ev r.path hp
 have h3:=put_ev (beginL r.path) (by rw [begin_len];omega) r.epoch.toNat r.number.toNat (by unfold isU64 at he;omega) (by unfold isU64 at hn;omega) r.body hb
 have e1:((r.epoch.toNat:Nat):Int) = r.epoch:=by unfold isU64 at he;omega
 have e2:((r.number.toNat:Nat):Int) = r.number:=by unfold isU64 at hn;omega
 rw [e1,e2] at h3
 refine call_run Tryz.func28 rfl ⟨rfl,rfl⟩ ?_
 unfold putRq
 generalize putH (beginL r.path) r.epoch.toNat r.number.toNat r.body.l = x at *
 cases h:(r.path == helloL || r.path == batchL)
 ·rw [h] at h1
  simp [Tryz.f28,Rq.cells,h1]
 ·rw [h] at h1
  simp [Tryz.f28,Rq.cells,h1,h2,h3]
theorem status_len (n:Int):(statusL n).length≤30:=by
 unfold statusL
 split
 ·decide
 ·split <;> decide
theorem putrs_ev [MaxL] [TxtC] (r:Rs) (he:isU64 r.epoch) (hn:isU64 r.number) (hb:r.body.l.length≤100000):call cx 34 [.agg (Enc.cells r)] [] = some ((.vsl (putRs r).nil (ofBytes (putRs r).l) (putRs r).l.length),[]):=by
 have h2:=status_ev r.status
 have h3:=put_ev (statusL r.status) (by have:=status_len r.status;omega) r.epoch.toNat r.number.toNat (by unfold isU64 at he;omega) (by unfold isU64 at hn;omega) r.body hb
 have e1:((r.epoch.toNat:Nat):Int) = r.epoch:=by unfold isU64 at he;omega
 have e2:((r.number.toNat:Nat):Int) = r.number:=by unfold isU64 at hn;omega
 rw [e1,e2] at h3
 refine call_run Tryz.func34 rfl ⟨rfl,rfl⟩ ?_
 unfold putRs
 generalize putH (statusL r.status) r.epoch.toNat r.number.toNat r.body.l = x at *
 by_cases a1:r.status = 200
 ·rw [a1] at h2 h3
  simp [Tryz.f34,Rs.cells,a1,h2,h3]
 ·by_cases a2:r.status = 400
  ·rw [a2] at h2 h3
   simp [Tryz.f34,Rs.cells,a2,h2,h3]
  ·by_cases a3:r.status = 409
   ·rw [a3] at h2 h3
    simp [Tryz.f34,Rs.cells,a3,h2,h3]
   ·simp [Tryz.f34,Rs.cells,a1,a2,a3]
end Go.Ev.S
namespace Go.Ev
open Go Go.Proofs
def hexc (k:Nat):UInt8:=if k < 10 then UInt8.ofNat (48+k) else UInt8.ofNat (87+k)
def hexF:Nat→Nat→List UInt8
 | 0,_=>[]
 | f+1,v=>if v < 16 then [hexc v] else hexF f (v / 16) ++ [hexc (v % 16)]
def hx (v:Nat):List UInt8:=hexF 16 v
def digL:List UInt8:=[48,49,50,51,52,53,54,55,56,57,97,98,99,100,101,102]
def dig36:List UInt8:=[48,49,50,51,52,53,54,55,56,57,97,98,99,100,101,102,103,104,105,106,107,108,109,110,111,112,113,114,115,116,117,118,119,120,121,122]
theorem dig36_at:∀ k,k < 16→dig36[k]? = some (hexc k):=by decide
theorem digL_at:∀ k,k < 16→digL[k]? = some (hexc k):=by decide
theorem hexF_len:∀ (f v:Nat),(hexF f v).length≤f
 | 0,_=>Nat.le_refl _
 | f+1,v=>by
  rw [hexF]
  split
  ·simp
  ·have:=hexF_len f (v / 16)
   simp
   omega
theorem hx_len (v:Nat):(hx v).length≤16:=hexF_len 16 v
theorem hx_pos (v:Nat):0 < (hx v).length:=by
 unfold hx hexF
 split <;> simp
def hexs:List UInt8→List UInt8
 | []=>[]
 | b :: l=>hexc (b.toNat / 16) :: hexc (b.toNat % 16) :: hexs l
theorem hexs_len:∀ (l:List UInt8),(hexs l).length = 2 * l.length
 | []=>rfl
 | b :: l=>by simp [hexs,hexs_len l];omega
theorem hexs_append:∀ (a b:List UInt8),hexs (a ++ b) = hexs a ++ hexs b
 | [],_=>rfl
 | x :: a,b=>by simp [hexs,hexs_append a b]
def fixed (v:Nat):List UInt8:=List.replicate (16 - (hx v).length) 48 ++ hx v
theorem and15_u64 {n:Nat} (h:n < 18446744073709551616):andI .u64 (n:Int) 15 = ((n % 16:Nat):Int):=by
 unfold andI
 have e:(BitVec.ofInt IntKind.u64.bits (n:Int) &&& BitVec.ofInt IntKind.u64.bits 15).toNat = n % 16:=by
  show (BitVec.ofInt 64 (n:Int) &&& BitVec.ofInt 64 ((15:Nat):Int)).toNat = n % 16
  rw [BitVec.ofInt_natCast,BitVec.ofInt_natCast,BitVec.toNat_and,BitVec.toNat_ofNat,BitVec.toNat_ofNat,Nat.mod_eq_of_lt (show n < 2 ^ 64 by omega)]
  exact Nat.and_two_pow_sub_one_eq_mod n 4
 rw [e,wrap_u64]
 omega
theorem and15_u8N:∀ n:Nat,n < 256→andI .u8 (n:Int) 15 = ((n % 16:Nat):Int):=by decide +kernel
theorem and15_u8 (b:UInt8):andI .u8 (b.toNat:Int) 15 = ((b.toNat % 16:Nat):Int):=and15_u8N b.toNat b.toNat_lt
theorem fdiv16 (n:Nat):Int.fdiv (n:Int) 16 = ((n / 16:Nat):Int):=by
 rw [Int.fdiv_eq_ediv_of_nonneg _ (by omega)]
 omega
theorem fill_behind (i:Nat) (s:List UInt8) (c:UInt8):setRange (List.replicate (i+1) (D.int .u8 0) ++ ofBytes s) i [.int .u8 c.toNat] = List.replicate i (.int .u8 0) ++ ofBytes (c :: s):=by
 unfold setRange
 have h:(List.replicate (i+1) (D.int .u8 0) ++ ofBytes s).drop (i+1) = ofBytes s:=List.drop_left' (by simp)
 have h2:(List.replicate (i+1) (D.int .u8 0) ++ ofBytes s).take i = List.replicate i (D.int .u8 0):=by
  rw [List.take_append_of_le_length (by simp),List.take_replicate]
  congr 1
  omega
 rw [h2,List.length_singleton,h]
 simp [ofBytes]
end Go.Ev
namespace Go.Ev.S
open Go Go.Proofs Go.Ev
theorem hexs_take {l:List UInt8} {k:Nat} (h:k < l.length):hexs (l.take (k+1)) = hexs (l.take k) ++ [hexc (l[k].toNat / 16),hexc (l[k].toNat % 16)]:=by
 rw [List.take_succ_eq_append_getElem h,hexs_append]
 rfl
set_option maxHeartbeats 2000000 in
theorem hex_ev [MaxL] [TxtC] (l:List UInt8) (hl:l.length = 16):call cx 98 [.agg (ofBytes l)] [] = some (.str (hexs l),[]):=by
 refine call_run Tryz.func98 rfl ⟨rfl,rfl⟩ ?_
 have ht:List.take 16 (ofBytes l) = ofBytes l:=List.take_of_length_le (by simp;omega)
 have hl2:16≤l.length:=by omega
 simp [Tryz.f98,ht,hl2]
 refine Run.loopThen (fun (k:Nat) e H'=>k≤16∧look e 6 = some (.agg (ofBytes l))∧look e 7 = some (.int .i64 k) ∧
   ((k = 0∧look e 3 = some (.vsl true [] 0)∧H' = [some (ofBytes l)]) ∨
   (∃ w,look e 3 = some (.osl 1 (hexs (l.take k)).length 0 (hexs (l.take k)).length 1)∧H' = [w,some (ofBytes (hexs (l.take k)))]) ∨
   (∃ w,look e 3 = some (.osl 0 (hexs (l.take k)).length 0 (hexs (l.take k)).length 1)∧H' = [some (ofBytes (hexs (l.take k))),w]))) (fun k=>16 - k) 0 ?_ ?_
 ·simp
 rintro k e H' ⟨hk,k6,k7,hH⟩
 by_cases hlt:k < 16
 ·have hlt':(k:Int) < 16:=by omega
  have hkl:k < l.length:=by omega
  have hw:IntKind.i64.wrap ((k:Int)+1) = ((k+1:Nat):Int):=by rw [wrap_i64] <;> omega
  have hat:=ofBytes_at hkl
  have hsn:=hexs_take hkl
  have hb:=l[k].toNat_lt
  have ha:=and15_u8 l[k]
  have hp4:(2:Int) ^ min 4 IntKind.u8.bits = 16:=by decide
  have hf:=fdiv16 l[k].toNat
  have d1:=digL_at (l[k].toNat / 16) (by omega)
  have d2:=digL_at (l[k].toNat % 16) (by omega)
  simp only [digL] at d1 d2
  have hget:(ofBytes l)[k]? = some (.int .u8 l[k].toNat):=by
   rw [List.getElem?_eq_getElem (by simpa using hkl),ofBytes_get]
  have hlen:(hexs (l.take k)).length = 2 * k:=by rw [hexs_len,List.length_take];omega
  generalize l[k] = b at *
  generalize hexc (b.toNat / 16) = c1 at *
  generalize hexc (b.toNat % 16) = c2 at *
  obtain ⟨m1,hm1⟩:∃ m,m = b.toNat / 16:=⟨_,rfl⟩
  obtain ⟨m2,hm2⟩:∃ m,m = b.toNat % 16:=⟨_,rfl⟩
  rw [← hm1] at hf d1
  rw [← hm2] at ha d2
  have hXl:(hexs (l.take (k+1))).length = (hexs (l.take k)).length+2:=by rw [hsn];simp
  have hap:ofBytes (hexs (l.take k)) ++ [.int .u8 c1.toNat,.int .u8 c2.toNat] = ofBytes (hexs (l.take (k+1))):=by rw [hsn];simp [ofBytes]
  have hmx:(hexs (l.take k)).length+2≤maxBytes:=Nat.le_trans (show _≤100 by omega) (by decide)
  rcases hH with ⟨rfl,k3,rfl⟩ | ⟨w,k3,rfl⟩ | ⟨w,k3,rfl⟩
  ·simp at hap hXl
   have hm2:2≤maxBytes:=by decide
   simp [k3,k6,k7,hget,ha,hp4,hf,d1,d2,hm2]
   exact ⟨1,by omega,by omega,by simp,by rw [hXl];simp [hexs],by rw [← hap];simp [hexs,ofBytes]⟩
  ·generalize hexs (l.take k) = X at *
   simp [k3,k6,k7,hlt',hw,hget,ha,hp4,hf,d1,d2,hap,hmx]
   exact ⟨k+1,by omega,by omega,by simp,by rw [hXl],rfl⟩
  ·generalize hexs (l.take k) = X at *
   simp [k3,k6,k7,hlt',hw,hget,ha,hp4,hf,d1,d2,hap,hmx]
   exact ⟨k+1,by omega,by omega,by simp,by rw [hXl],rfl⟩
 ·have hlt':¬ (k:Int) < 16:=by omega
  have hke:k = 16:=by omega
  subst hke
  have htk:l.take 16 = l:=List.take_of_length_le (by omega)
  rw [htk] at hH
  rcases hH with ⟨h,_⟩ | ⟨w,k3,rfl⟩ | ⟨w,k3,rfl⟩
  ·omega
  ·simp [k3,k6,k7]
  ·simp [k3,k6,k7]
end Go.Ev.S
namespace Go.Ev.S
open Go Go.Proofs Go.Ev
theorem pow2_ev [MaxL] [TxtC]:call cx 220 [.int .i64 16] [] = some (.bool true,[]):=call_some.2 ⟨60,by kernel_rfl⟩
theorem tz_ev [MaxL] [TxtC]:call cx 221 [.int .u64 16] [] = some (.int .i64 4,[]):=call_some.2 ⟨100,by kernel_rfl⟩
def HexI (v i u:Nat) (s:List UInt8):Prop:= ∃ g,1≤g∧g≤16∧i = 49+g∧s.length+g = 16∧u < 16 ^ g∧hexF g u ++ s = hx v
theorem hexI_step {v i u:Nat} {s:List UInt8} (h:HexI v i u s) (hu:16≤u):51≤i∧HexI v (i - 1) (u / 16) (hexc (u % 16) :: s):=by
 obtain ⟨g,h1,h2,rfl,h4,h5,h6⟩:=h
 obtain ⟨f,rfl⟩:∃ f,g = f+1:=⟨g - 1,by omega⟩
 have hf:1≤f:=by
  rcases f with _ | f
  ·simp at h5;omega
  ·omega
 refine ⟨by omega,f,hf,by omega,by omega,by simp;omega,by rw [Nat.pow_succ] at h5;omega,?_⟩
 rw [hexF,if_neg (by omega)] at h6
 simpa using h6
theorem hexI_end {v i u:Nat} {s:List UInt8} (h:HexI v i u s) (hu:u < 16):hexc u :: s = hx v∧50≤i∧i≤65∧i+s.length = 65:=by
 obtain ⟨g,h1,h2,rfl,h4,h5,h6⟩:=h
 obtain ⟨f,rfl⟩:∃ f,g = f+1:=⟨g - 1,by omega⟩
 rw [hexF,if_pos hu] at h6
 exact ⟨by simpa using h6,by omega,by omega,by omega⟩
theorem hexI_len {v i u:Nat} {s:List UInt8} (h:HexI v i u s):i+s.length = 65∧50≤i:=by
 obtain ⟨g,h1,h2,rfl,h4,h5,h6⟩:=h
 omega
theorem fill_of {i j:Nat} (hi:i = j+1) (s:List UInt8) (c:UInt8):setRange (List.replicate i (D.int .u8 0) ++ ofBytes s) j [.int .u8 c.toNat] = List.replicate j (.int .u8 0) ++ ofBytes (c :: s):=by
 rw [hi];exact fill_behind j s c
set_option maxHeartbeats 2000000 in
theorem fb16_ev [MaxL] [TxtC] (v:Nat) (hv:v < 18446744073709551616):call cx 192 [.vsl true [] 0,.int .u64 v,.int .i64 16,.bool false,.bool false] [] = some (.tup [.vsl true [] 0,.str (hx v)],[]):=by
 have h1:=pow2_ev
 have h2:=tz_ev
 have w16:IntKind.u64.wrap 16 = 16:=by decide
 have w15:IntKind.u64.wrap 15 = 15:=by decide
 have w4:IntKind.u64.wrap 4 = 4:=by decide
 refine call_run Tryz.func192 rfl ⟨rfl,rfl⟩ ?_
 simp [-List.reduceReplicate,Tryz.f192,h1,h2,w16,w15,w4]
 refine Run.loopThen (fun (q:Nat × Nat × List UInt8) e H'=>HexI v q.1 q.2.1 q.2.2∧q.2.1 < 18446744073709551616∧H' = [some (List.replicate q.1 (.int .u8 0) ++ ofBytes q.2.2)] ∧
   look e 0 = some (.vsl true [] 0)∧look e 1 = some (.int .u64 (q.2.1:Nat))∧look e 3 = some (.bool false)∧look e 4 = some (.bool false)∧look e 10 = some (.vsl true [] 0)∧look e 11 = some (.str [])∧look e 12 = some (.optr 0 65 0) ∧
   look e 13 = some (.int .i64 (q.1:Nat))∧look e 14 = some (.int .u64 4)∧look e 15 = some (.int .u64 16)∧look e 16 = some (.int .u64 15)) (fun q=>q.2.1) (65,v,[]) ?_ ?_
 ·refine ⟨⟨16,by omega,by omega,by omega,by simp,by omega,by simp [hx]⟩,hv,?_,?_⟩
  ·show [some (List.replicate 65 (D.int .u8 0))] = [some (List.replicate 65 (D.int .u8 0) ++ [])]
   rw [List.append_nil]
  ·simp
 rintro ⟨i,u,s⟩ e H' ⟨hI,hu,rfl,k0,k1,k3,k4,k10,k11,k12,k13,k14,k15,k16⟩
 simp only at hI hu k1 k13
 obtain ⟨hl,h50⟩:=hexI_len hI
 obtain ⟨j,hj⟩:∃ j,i = j+1:=⟨i - 1,by omega⟩
 have hw:IntKind.i64.wrap ((i:Int) - 1) = (j:Int):=by rw [wrap_i64] <;> omega
 have hj65:(j:Int) < 65:=by omega
 have hj1:j+1≤i+s.length:=by omega
 have hj64:j≤64:=by omega
 by_cases h16:16≤u
 ·have h16':(16:Int)≤(u:Int):=by omega
  obtain ⟨h51,hS⟩:=hexI_step hI h16
  have ha:=and15_u64 hu
  have hd:=dig36_at (u % 16) (Nat.mod_lt _ (by decide))
  simp only [dig36] at hd
  have hf:=fdiv16 u
  have hst:=fill_of hj s (hexc (u % 16))
  have e1:i - 1 = j:=by omega
  rw [e1] at hS
  have hu2:u / 16 < u:=by omega
  have hu3:u / 16 < 18446744073709551616:=by omega
  generalize u / 16 = u2 at *
  generalize hexc (u % 16) = c at *
  obtain ⟨m,hm⟩:∃ m,m = u % 16:=⟨_,rfl⟩
  rw [← hm] at ha hd
  simp [-setRange_eq,k0,k1,k3,k4,k10,k11,k12,k13,k14,k15,k16,h16',hw,hj65,hj64,hl,ha,hd,hst]
  have hp4:(2:Int) ^ min 4 IntKind.u64.bits = 16:=by decide
  exact ⟨j,u2,hu2,c :: s,hS,hu3,by simp [hp4,hf]⟩
 ·have h16':¬ (16:Int)≤(u:Int):=by omega
  obtain ⟨hE,_,_,_⟩:=hexI_end hI (by omega)
  have hd:=dig36_at u (by omega)
  simp only [dig36] at hd
  have hst:=fill_of hj s (hexc u)
  have hdr:List.take (65 - j) (List.drop j (List.replicate j (D.int .u8 0) ++ ofBytes (hexc u :: s))) = ofBytes (hx v):=by
   rw [List.drop_left' (by simp),hE]
   refine List.take_of_length_le ?_
   rw [← hE]
   simp
   omega
  have hj2:(j:Int)≤65:=by omega
  have hj3:j≤65:=by omega
  have hj4:j < 65:=by omega
  have hl3:j+(65 - j) = 65:=by omega
  have hl4:j+(hx v).length = 65:=by rw [← hE];simp;omega
  have hlh:(hx v).length = 65 - j:=by rw [← hE];simp;omega
  have hl2:j+(ofBytes (hexc u :: s)).length = 65:=by simp;omega
  simp only [hE] at hst hdr hl2
  generalize hexc u = c at *
  simp [-setRange_eq,k0,k1,k3,k4,k10,k11,k12,k13,k14,k15,k16,h16',hw,hj65,hj64,hl,hd,hst,hj2,hj4,hl3,hlh]
theorem fui16_ev [MaxL] [TxtC] (v:Nat) (hv:v < 18446744073709551616):call cx 160 [.int .u64 v,.int .i64 16] [] = some (.str (hx v),[]):=by
 have h:=fb16_ev v hv
 refine call_run Tryz.func160 rfl ⟨rfl,rfl⟩ ?_
 simp [Tryz.f160,h]
theorem fu16_ev [MaxL] [TxtC] (v:Nat) (hv:v < 18446744073709551616):call cx 131 [.int .u64 v,.int .i64 16] [] = some (.str (hx v),[]):=by
 have h:=fui16_ev v hv
 refine call_run Tryz.func131 rfl ⟨rfl,rfl⟩ ?_
 simp [Tryz.f131,h]
end Go.Ev.S
namespace Go.Ev
open Go Go.Proofs
def kS:List UInt8:=[115,61]
def kI:List UInt8:=[59,105,61]
def kB:List UInt8:=[59,98,61]
def kM:List UInt8:=[59,109,61]
def kT:List UInt8:=[59,116,61]
def kX:List UInt8:=[59,120,61]
def showL (c:Cur):List UInt8:=kS ++ (hexs c.seq.l ++ (kI ++ (hx c.n.toNat ++ (kB ++ (hexs c.boot.l ++ (kM ++ (hx c.mono.toNat ++ (kT ++ (hx c.real.toNat ++ (kX ++ hx c.xor.toNat))))))))))
theorem showL_len (c:Cur):80≤(showL c).length∧(showL c).length≤200:=by
 have h1:=hx_len c.n.toNat
 have h2:=hx_len c.mono.toNat
 have h3:=hx_len c.real.toNat
 have h4:=hx_len c.xor.toNat
 have g1:=hx_pos c.n.toNat
 have g2:=hx_pos c.mono.toNat
 have g3:=hx_pos c.real.toNat
 have g4:=hx_pos c.xor.toNat
 have i1:=hexs_len c.seq.l
 have i2:=hexs_len c.boot.l
 rw [c.seq.h] at i1
 rw [c.boot.h] at i2
 simp only [showL,List.length_append,kS,kI,kB,kM,kT,kX,List.length_cons,List.length_nil]
 omega
def Cur.zero:Cur:=⟨ID.zero,0,ID.zero,0,0,0⟩
def curEq (a b:Cur):Bool:=a.seq == b.seq && (a.n == b.n && (a.boot == b.boot && (a.mono == b.mono && (a.real == b.real && a.xor == b.xor))))
@[simp] theorem Cur.eq36 (a b:Cur):cellsEq [.i,.i,.i,.i,.i,.i,.i,.i,.i,.i,.i,.i,.i,.i,.i,.i,.i,.i,.i,.i,.i,.i,.i,.i,.i,.i,.i,.i,.i,.i,.i,.i,.i,.i,.i,.i] (Enc.cells a) (Enc.cells b) = some (curEq a b):=by
 have h1:=cellsEq16 a.seq b.seq
 have h2:=cellsEq16 a.boot b.boot
 rw [Cur.cells,Cur.cells]
 have e:([.i,.i,.i,.i,.i,.i,.i,.i,.i,.i,.i,.i,.i,.i,.i,.i,.i,.i,.i,.i,.i,.i,.i,.i,.i,.i,.i,.i,.i,.i,.i,.i,.i,.i,.i,.i]:List CK) = [.i,.i,.i,.i,.i,.i,.i,.i,.i,.i,.i,.i,.i,.i,.i,.i] ++ (.i :: ([.i,.i,.i,.i,.i,.i,.i,.i,.i,.i,.i,.i,.i,.i,.i,.i] ++ [.i,.i,.i])):=rfl
 rw [e,cellsEq_app _ _ _ _ _ _ (by simp) (by simp),h1]
 simp only [cellsEq,cellEq,if_true]
 rw [cellsEq_app _ _ _ _ _ _ (by simp) (by simp),h2]
 simp only [cellsEq,cellEq,if_true,Bool.and_true]
 rfl
end Go.Ev
namespace Go.Ev.S
open Go Go.Proofs Go.Ev
structure CurOk (c:Cur):Prop where
 n:isU64 c.n
 mono:isU64 c.mono
 real:isU64 c.real
 xor:isU64 c.xor
end Go.Ev.S
namespace Go.Ev.S
open Go Go.Proofs Go.Ev
theorem show1_ev [MaxL] [TxtC] (v:Nat) (hv:v < 18446744073709551616):call cx 141 [.int .u64 v] [] = some (.str (hx v),[]):=by
 have h:=fu16_ev v hv
 refine call_run Tryz.func141 rfl ⟨rfl,rfl⟩ ?_
 simp [Tryz.f141,h]
set_option maxHeartbeats 2000000 in
theorem show_ev [MaxL] [TxtC] (c:Cur) (h:CurOk c):call cx 99 [.agg (Enc.cells c)] [] = some (.str (showL c),[]):=by
 obtain ⟨w1,w2,w3,w4⟩:=h
 unfold isU64 at w1 w2 w3 w4
 have e1:((c.n.toNat:Nat):Int) = c.n:=by omega
 have e2:((c.mono.toNat:Nat):Int) = c.mono:=by omega
 have e3:((c.real.toNat:Nat):Int) = c.real:=by omega
 have e4:((c.xor.toNat:Nat):Int) = c.xor:=by omega
 have h1:=hex_ev c.seq.l c.seq.h
 have h2:=show1_ev c.n.toNat (by omega)
 have h3:=hex_ev c.boot.l c.boot.h
 have h4:=show1_ev c.mono.toNat (by omega)
 have h5:=show1_ev c.real.toNat (by omega)
 have h6:=show1_ev c.xor.toNat (by omega)
 rw [e1] at h2
 rw [e2] at h4
 rw [e3] at h5
 rw [e4] at h6
 have l1:=hexs_len c.seq.l
 have l2:=hx_len c.n.toNat
 have l3:=hexs_len c.boot.l
 have l4:=hx_len c.mono.toNat
 have l5:=hx_len c.real.toNat
 have l6:=hx_len c.xor.toNat
 rw [c.seq.h] at l1
 rw [c.boot.h] at l3
 unfold showL
 generalize hexs c.seq.l = a1 at *
 generalize hx c.n.toNat = a2 at *
 generalize hexs c.boot.l = a3 at *
 generalize hx c.mono.toNat = a4 at *
 generalize hx c.real.toNat = a5 at *
 generalize hx c.xor.toNat = a6 at *
 clear e1 e2 e3 e4 w1 w2 w3 w4
 obtain ⟨s1,es1⟩:∃ s,s = kS ++ a1:=⟨_,rfl⟩
 have ls1:s1.length = kS.length+a1.length:=by rw [es1,List.length_append]
 obtain ⟨s2,es2⟩:∃ s,s = s1 ++ kI:=⟨_,rfl⟩
 have ls2:s2.length = s1.length+kI.length:=by rw [es2,List.length_append]
 obtain ⟨s3,es3⟩:∃ s,s = s2 ++ a2:=⟨_,rfl⟩
 have ls3:s3.length = s2.length+a2.length:=by rw [es3,List.length_append]
 obtain ⟨s4,es4⟩:∃ s,s = s3 ++ kB:=⟨_,rfl⟩
 have ls4:s4.length = s3.length+kB.length:=by rw [es4,List.length_append]
 obtain ⟨s5,es5⟩:∃ s,s = s4 ++ a3:=⟨_,rfl⟩
 have ls5:s5.length = s4.length+a3.length:=by rw [es5,List.length_append]
 obtain ⟨s6,es6⟩:∃ s,s = s5 ++ kM:=⟨_,rfl⟩
 have ls6:s6.length = s5.length+kM.length:=by rw [es6,List.length_append]
 obtain ⟨s7,es7⟩:∃ s,s = s6 ++ a4:=⟨_,rfl⟩
 have ls7:s7.length = s6.length+a4.length:=by rw [es7,List.length_append]
 obtain ⟨s8,es8⟩:∃ s,s = s7 ++ kT:=⟨_,rfl⟩
 have ls8:s8.length = s7.length+kT.length:=by rw [es8,List.length_append]
 obtain ⟨s9,es9⟩:∃ s,s = s8 ++ a5:=⟨_,rfl⟩
 have ls9:s9.length = s8.length+a5.length:=by rw [es9,List.length_append]
 obtain ⟨s10,es10⟩:∃ s,s = s9 ++ kX:=⟨_,rfl⟩
 have ls10:s10.length = s9.length+kX.length:=by rw [es10,List.length_append]
 obtain ⟨s11,es11⟩:∃ s,s = s10 ++ a6:=⟨_,rfl⟩
 have ls11:s11.length = s10.length+a6.length:=by rw [es11,List.length_append]
 simp only [kS,kI,kB,kM,kT,kX,List.length_cons,List.length_nil] at ls1 ls2 ls3 ls4 ls5 ls6 ls7 ls8 ls9 ls10 ls11
 have cs1:=cat_of es1 (by (try simp only [kS,List.length_cons,List.length_nil]);omega)
 have cs2:=cat_of es2 (by (try simp only [kI,List.length_cons,List.length_nil]);omega)
 have cs3:=cat_of es3 (by (try simp only [kS,kI,kB,kM,kT,kX,List.length_cons,List.length_nil]);omega)
 have cs4:=cat_of es4 (by (try simp only [kB,List.length_cons,List.length_nil]);omega)
 have cs5:=cat_of es5 (by (try simp only [kS,kI,kB,kM,kT,kX,List.length_cons,List.length_nil]);omega)
 have cs6:=cat_of es6 (by (try simp only [kM,List.length_cons,List.length_nil]);omega)
 have cs7:=cat_of es7 (by (try simp only [kS,kI,kB,kM,kT,kX,List.length_cons,List.length_nil]);omega)
 have cs8:=cat_of es8 (by (try simp only [kT,List.length_cons,List.length_nil]);omega)
 have cs9:=cat_of es9 (by (try simp only [kS,kI,kB,kM,kT,kX,List.length_cons,List.length_nil]);omega)
 have cs10:=cat_of es10 (by (try simp only [kX,List.length_cons,List.length_nil]);omega)
 have cs11:=cat_of es11 (by (try simp only [kS,kI,kB,kM,kT,kX,List.length_cons,List.length_nil]);omega)
 simp only [kS,kI,kB,kM,kT,kX] at cs1 cs2 cs3 cs4 cs5 cs6 cs7 cs8 cs9 cs10 cs11
 have hfin:kS ++ (a1 ++ (kI ++ (a2 ++ (kB ++ (a3 ++ (kM ++ (a4 ++ (kT ++ (a5 ++ (kX ++ a6)))))))))) = s11:=by
  simp [es11,es10,es9,es8,es7,es6,es5,es4,es3,es2,es1]
 rw [hfin]
 clear hfin es1 es2 es3 es4 es5 es6 es7 es8 es9 es10 es11 ls1 ls2 ls3 ls4 ls5 ls6 ls7 ls8 ls9 ls10 ls11 l1 l2 l3 l4 l5 l6
 refine call_run Tryz.func99 rfl ⟨rfl,rfl⟩ ?_
 simp [Tryz.f99,h1,h2,h3,h4,h5,h6,-strD,cs1,cs2,cs3,cs4,cs5,cs6,cs7,cs8,cs9,cs10,cs11]
end Go.Ev.S
namespace Go.Ev.S
open Go Go.Proofs Go.Ev
def szOk (n:Int):Bool:=n == 1 || n == 2 || n == 4 || n == 8
theorem lesize_ev [MaxL] [TxtC] (n:Int):call cx 95 [.int .i64 n] [] = some (.bool (szOk n),[]):=by
 refine call_run Tryz.func95 rfl ⟨rfl,rfl⟩ ?_
 unfold szOk
 by_cases h1:n = 1
 ·subst h1;simp [Tryz.f95]
 ·by_cases h2:n = 2
  ·subst h2;simp [Tryz.f95]
  ·by_cases h3:n = 4
   ·subst h3;simp [Tryz.f95]
   ·simp [Tryz.f95,h1,h2,h3]
theorem szOk_le {n:Int} (h:szOk n = true):1≤n∧n≤8:=by
 simp [szOk] at h
 omega
def leGet (l:List UInt8) (at_ n:Int):Option Nat :=
 if szOk n = true∧0≤at_∧at_+n≤l.length then some (leN ((l.drop at_.toNat).take n.toNat)) else none
def optN (o:Option Nat):D:=.tup [.int .u64 ((o.getD 0:Nat):Int),.bool o.isSome]
theorem bits64:2 ^ IntKind.u64.bits = 18446744073709551616:=by simp only [IntKind.bits]
theorem leget_step (x y:Nat) (hy:y < 256) (hx:x * 256+y < 18446744073709551616) :
  orI .u64 (IntKind.u64.wrap ((x:Int) * 256)) (y:Int) = ((x * 256+y:Nat):Int):=by
 have e3:x * 256 < 2 ^ IntKind.u64.bits:=Nat.lt_of_lt_of_eq (Nat.lt_of_le_of_lt (Nat.le_add_right _ _) hx) bits64.symm
 have e4:y < 2 ^ IntKind.u64.bits:=Nat.lt_of_lt_of_eq (Nat.lt_of_lt_of_le hy (by decide)) bits64.symm
 have e1:IntKind.u64.wrap ((x:Int) * 256) = ((x * 256:Nat):Int):=by clear e3 e4;rw [wrap_u64] <;> omega
 rw [e1,orI_nat rfl e3 e4,or_shl x y hy]
set_option maxHeartbeats 1000000 in
theorem leget_ev [MaxL] [TxtC] (s:Sl UInt8) (at_ n:Int) (hat:-9223372036854775808≤at_∧at_ < 9223372036854775808) (hl:s.l.length < 4611686018427387904) :
  call cx 68 [(.vsl s.nil (ofBytes s.l) s.l.length),.int .i64 at_,.int .i64 n] [] = some (optN (leGet s.l at_ n),[]):=by
 have hs:=lesize_ev n
 refine call_run Tryz.func68 rfl ⟨rfl,rfl⟩ ?_
 cases hz:szOk n with
 | false =>
  rw [hz] at hs
  simp [Tryz.f68,hs,leGet,hz,optN]
 | true =>
  rw [hz] at hs
  have hb:=szOk_le hz
  by_cases h0:at_ < 0
  ·have h0':¬ 0≤at_:=by omega
   simp [Tryz.f68,hs,leGet,hz,optN,h0,h0']
  ·have h0':0≤at_:=by omega
   have hw:IntKind.i64.wrap ((s.l.length:Int) - n) = (s.l.length:Int) - n:=by rw [wrap_i64];omega
   by_cases hle:at_+n≤s.l.length
   ·have hle':¬ ((s.l.length:Int) - n < at_):=by omega
    obtain ⟨a,rfl⟩:∃ a:Nat,at_ = a:=⟨at_.toNat,by omega⟩
    obtain ⟨k,rfl⟩:∃ k:Nat,n = k:=⟨n.toNat,by omega⟩
    have hw1:IntKind.i64.wrap ((k:Int) - 1) = (k:Int) - 1:=by rw [wrap_i64];omega
    have hnn:s.nil = false:=Sl.nn (i:=a) (by omega)
    simp [Tryz.f68,hs,leGet,hz,optN,h0,h0',hw,hle,hle',hw1,hnn]
    refine Run.loopThen (fun (i:Nat) e H=>i≤k∧H = []∧look e 0 = some (.vsl s.nil (ofBytes s.l) s.l.length)∧look e 1 = some (.int .i64 a)∧look e 8 = some (.int .u64 (leN ((s.l.drop (a+i)).take (k - i)):Nat))∧look e 9 = some (.int .i64 ((i:Int) - 1))) (fun i=>i) k (by simp [leN,hnn]) ?_
    rintro i e H ⟨hi,rfl,h0,h1,h8,h9⟩
    cases i with
    | zero=>simp [h0,h1,h8,h9]
    | succ j =>
     have hj:(0:Int)≤(j:Int):=by omega
     have hwj:IntKind.i64.wrap ((a:Int)+(j:Int)) = ((a+j:Nat):Int):=by rw [wrap_i64] <;> omega
     have hwk:IntKind.i64.wrap ((j:Int) - 1) = (j:Int) - 1:=by rw [wrap_i64];omega
     have hlt:a+j < s.l.length:=by omega
     have hlt':((a+j:Nat):Int) < (s.l.length:Int):=by omega
     have e1:((j+1:Nat):Int) - 1 = (j:Int):=by omega
     rw [e1] at h9
     have hd:(s.l.drop (a+j)).take (k - j) = s.l[a+j] :: (s.l.drop (a+(j+1))).take (k - (j+1)):=by
      rw [List.drop_eq_getElem_cons hlt,show k - j = (k - (j+1))+1 by omega,List.take_succ_cons,Nat.add_assoc]
     have hn8:leN ((s.l.drop (a+(j+1))).take (k - (j+1))) < 256 ^ 7:=by
      refine Nat.lt_of_lt_of_le (leN_lt _) (Nat.pow_le_pow_right (by decide) ?_)
      rw [List.length_take]
      omega
     have hst:=leget_step (leN ((s.l.drop (a+(j+1))).take (k - (j+1)))) s.l[a+j].toNat s.l[a+j].toNat_lt (by have:=s.l[a+j].toNat_lt;omega)
     have hwu:IntKind.u64.wrap (s.l[a+j].toNat:Int) = (s.l[a+j].toNat:Int):=by rw [wrap_u64];have:=s.l[a+j].toNat_lt;omega
     have g1:(0:Int)≤(a:Int)+(j:Int):=by omega
     have g2:(a:Int)+(j:Int) < (s.l.length:Int):=by omega
     have g3:((a:Int)+(j:Int)).toNat = a+j:=by omega
     simp [h0,h1,h8,h9,hj,hwj,hwk,hwu,hnn,g1,g2,g3,ofBytes_at hlt,IntKind.bits]
     rw [hst]
     exact ⟨j,by omega,by omega,by rw [hd,leN,Nat.mul_comm,Nat.add_comm],rfl⟩
   ·have hle':(s.l.length:Int) - n < at_:=by omega
    simp [Tryz.f68,hs,leGet,hz,optN,h0,h0',hw,hle,hle']
end Go.Ev.S
namespace Go.Ev
open Go Go.Proofs
def rolI (x:Int) (k:Nat):Int:=orI .u32 (IntKind.u32.wrap (x * 2 ^ k)) (x.fdiv (2 ^ (32 - k)))
def add32 (a b:Int):Int:=IntKind.u32.wrap (a+b)
def sub32 (a b:Int):Int:=IntKind.u32.wrap (a - b)
def stpM (k:Nat):Int × Int × Int→Int × Int × Int
 | (a,b,c)=>(b,add32 c b,xorI .u32 (sub32 a c) (rolI c k))
def mixI (t:Int × Int × Int):Int × Int × Int:=stpM 4 (stpM 19 (stpM 16 (stpM 8 (stpM 6 (stpM 4 t)))))
def stpF (k:Nat):Int × Int × Int→Int × Int × Int
 | (p,q,r)=>(r,sub32 (xorI .u32 p q) (rolI q k),q)
def finI:Int × Int × Int→Int × Int × Int
 | (x,y,z)=>stpF 24 (stpF 14 (stpF 4 (stpF 16 (stpF 25 (stpF 11 (stpF 14 (z,y,x)))))))
theorem mix_at {x y z x1 z1 y1 x2 z2 y2 x3 z3 y3 x4 z4 y4 a1 a2 a3 a4 a5 a6:Int}
  (h1:sub32 x z = a1) (h2:xorI .u32 a1 (rolI z 4) = x1) (h3:add32 z y = z1)
  (h4:sub32 y x1 = a2) (h5:xorI .u32 a2 (rolI x1 6) = y1) (h6:add32 x1 z1 = x2)
  (h7:sub32 z1 y1 = a3) (h8:xorI .u32 a3 (rolI y1 8) = z2) (h9:add32 y1 x2 = y2)
  (g1:sub32 x2 z2 = a4) (g2:xorI .u32 a4 (rolI z2 16) = x3) (g3:add32 z2 y2 = z3)
  (g4:sub32 y2 x3 = a5) (g5:xorI .u32 a5 (rolI x3 19) = y3) (g6:add32 x3 z3 = x4)
  (g7:sub32 z3 y3 = a6) (g8:xorI .u32 a6 (rolI y3 4) = z4) (g9:add32 y3 x4 = y4):mixI (x,y,z) = (x4,y4,z4):=by
 unfold mixI
 have e1:stpM 4 (x,y,z) = (y,z1,x1):=by simp only [stpM,h1,h2,h3]
 have e2:stpM 6 (y,z1,x1) = (z1,x2,y1):=by simp only [stpM,h4,h5,h6]
 have e3:stpM 8 (z1,x2,y1) = (x2,y2,z2):=by simp only [stpM,h7,h8,h9]
 have e4:stpM 16 (x2,y2,z2) = (y2,z3,x3):=by simp only [stpM,g1,g2,g3]
 have e5:stpM 19 (y2,z3,x3) = (z3,x4,y3):=by simp only [stpM,g4,g5,g6]
 have e6:stpM 4 (z3,x4,y3) = (x4,y4,z4):=by simp only [stpM,g7,g8,g9]
 rw [e1,e2,e3,e4,e5,e6]
theorem fin_at {x y z a1 z1 a2 x1 a3 y1 a4 z2 a5 x2 a6 y2 a7 z3:Int}
  (h1:xorI .u32 z y = a1) (h2:sub32 a1 (rolI y 14) = z1)
  (h3:xorI .u32 x z1 = a2) (h4:sub32 a2 (rolI z1 11) = x1)
  (h5:xorI .u32 y x1 = a3) (h6:sub32 a3 (rolI x1 25) = y1)
  (h7:xorI .u32 z1 y1 = a4) (h8:sub32 a4 (rolI y1 16) = z2)
  (g1:xorI .u32 x1 z2 = a5) (g2:sub32 a5 (rolI z2 4) = x2)
  (g3:xorI .u32 y1 x2 = a6) (g4:sub32 a6 (rolI x2 14) = y2)
  (g5:xorI .u32 z2 y2 = a7) (g6:sub32 a7 (rolI y2 24) = z3):finI (x,y,z) = (x2,z3,y2):=by
 unfold finI
 have e1:stpF 14 (z,y,x) = (x,z1,y):=by simp only [stpF,h1,h2]
 have e2:stpF 11 (x,z1,y) = (y,x1,z1):=by simp only [stpF,h3,h4]
 have e3:stpF 25 (y,x1,z1) = (z1,y1,x1):=by simp only [stpF,h5,h6]
 have e4:stpF 16 (z1,y1,x1) = (x1,z2,y1):=by simp only [stpF,h7,h8]
 have e5:stpF 4 (x1,z2,y1) = (y1,x2,z2):=by simp only [stpF,g1,g2]
 have e6:stpF 14 (y1,x2,z2) = (z2,y2,x2):=by simp only [stpF,g3,g4]
 have e7:stpF 24 (z2,y2,x2) = (x2,z3,y2):=by simp only [stpF,g5,g6]
 simp only [e1,e2,e3,e4,e5,e6,e7]
def wordL (l:List UInt8) (a:Nat):Nat:=leN ((l.drop a).take 4)
theorem wordL_lt (l:List UInt8) (a:Nat):wordL l a < 4294967296:=by
 refine Nat.lt_of_lt_of_le (leN_lt _) ?_
 have:((l.drop a).take 4).length≤4:=by rw [List.length_take];omega
 exact Nat.le_trans (Nat.pow_le_pow_right (by decide) this) (by decide)
def addT (l:List UInt8):Int × Int × Int→Int × Int × Int
 | (x,y,z)=>(add32 x (wordL l 0:Nat),add32 y (wordL l 4:Nat),add32 z (wordL l 8:Nat))
def outT:Int × Int × Int→Int
 | (_,y,z)=>orI .u64 (IntKind.u64.wrap (IntKind.u64.wrap z * 4294967296)) (IntKind.u64.wrap y)
def lookR (l:List UInt8) (t:Int × Int × Int):Int :=
 if 12 < l.length then lookR (l.drop 12) (mixI (addT l t)) else if l.length = 0 then outT t else match finI (addT l t) with | (_,z,y)=>outT (0,y,z)
termination_by l.length
decreasing_by simp;omega
def lookN (l:List UInt8):Int:=lookR l (add32 3735928559 (IntKind.u32.wrap (l.length:Nat)),add32 3735928559 (IntKind.u32.wrap (l.length:Nat)),add32 3735928559 (IntKind.u32.wrap (l.length:Nat)))
theorem lookR_more {l:List UInt8} (h:12 < l.length) (t:Int × Int × Int):lookR l t = lookR (l.drop 12) (mixI (addT l t)):=by
 rw [lookR,if_pos h]
theorem lookR_end {l:List UInt8} (h:¬ 12 < l.length) (h0:l.length≠0) {t:Int × Int × Int} {x y z:Int} (hf:finI (addT l t) = (x,z,y)):lookR l t = outT (0,y,z):=by
 rw [lookR,if_neg h,if_neg h0,hf]
theorem lookR_nil {l:List UInt8} (h0:l.length = 0) (t:Int × Int × Int):lookR l t = outT t:=by
 rw [lookR,if_neg (by omega),if_pos h0]
theorem and31:∀ k:Nat,k < 32→andI .u64 (k:Int) 31 = (k:Int):=by decide
end Go.Ev
namespace Go.Ev.S
open Go Go.Proofs Go.Ev
theorem rotl_ev [MaxL] [TxtC] (x:Int) (k:Nat) (hk:k < 32):call cx 224 [.int .u32 x,.int .i64 k] [] = some (.int .u32 (rolI x k),[]):=by
 have h:=and31 k hk
 have hw:IntKind.u64.wrap (k:Int) = (k:Int):=by rw [wrap_u64] <;> omega
 have hw2:IntKind.u64.wrap (32 - (k:Int)) = ((32 - k:Nat):Int):=by rw [wrap_u64] <;> omega
 have m1:min k 32 = k:=by omega
 have hn:¬ (k:Int) < 0:=by omega
 refine call_run Tryz.func224 rfl ⟨rfl,rfl⟩ ?_
 unfold rolI
 obtain ⟨j,hj⟩:∃ j,j = 32 - k:=⟨_,rfl⟩
 rw [← hj] at hw2 ⊢
 have m2:min j 32 = j:=by omega
 have hn2:¬ (j:Int) < 0:=by omega
 simp [Tryz.f224,h,hw,hw2,IntKind.bits,m1,m2,hn,hn2]
theorem rol_at [MaxL] [TxtC] {x r:Int} {k:Nat} (hk:k < 32) (e:rolI x k = r) {kk:Int} (hkk:kk = k):call cx 224 [.int .u32 x,.int .i64 kk] [] = some (.int .u32 r,[]):=by
 rw [hkk,← e]
 exact rotl_ev x k hk
set_option maxHeartbeats 4000000 in
set_option maxRecDepth 4000 in
theorem mix_ev [MaxL] [TxtC] (x y z:Int) (R:Heap) (hR:R = []∨R = [none]):call cx 196 [.optr 0 3 0] (some [.int .u32 x,.int .u32 y,.int .u32 z] :: R) = some (.tup [],some [.int .u32 (mixI (x,y,z)).1,.int .u32 (mixI (x,y,z)).2.1,.int .u32 (mixI (x,y,z)).2.2] :: R):=by
 obtain ⟨a1,h1⟩:∃ v,sub32 x z = v:=⟨_,rfl⟩
 have e0:IntKind.u32.wrap (x - z) = a1:=h1
 obtain ⟨r0,q0⟩:∃ v,rolI z 4 = v:=⟨_,rfl⟩
 have e1:=rol_at (by omega) q0 (kk:=4) rfl
 obtain ⟨x1,f0⟩:∃ v,xorI .u32 a1 r0 = v:=⟨_,rfl⟩
 have h2:xorI .u32 a1 (rolI z 4) = x1:=by rw [q0];exact f0
 obtain ⟨z1,h3⟩:∃ v,add32 z y = v:=⟨_,rfl⟩
 have e2:IntKind.u32.wrap (z+y) = z1:=h3
 obtain ⟨a2,h4⟩:∃ v,sub32 y x1 = v:=⟨_,rfl⟩
 have e3:IntKind.u32.wrap (y - x1) = a2:=h4
 obtain ⟨r1,q1⟩:∃ v,rolI x1 6 = v:=⟨_,rfl⟩
 have e4:=rol_at (by omega) q1 (kk:=6) rfl
 obtain ⟨y1,f1⟩:∃ v,xorI .u32 a2 r1 = v:=⟨_,rfl⟩
 have h5:xorI .u32 a2 (rolI x1 6) = y1:=by rw [q1];exact f1
 obtain ⟨x2,h6⟩:∃ v,add32 x1 z1 = v:=⟨_,rfl⟩
 have e5:IntKind.u32.wrap (x1+z1) = x2:=h6
 obtain ⟨a3,h7⟩:∃ v,sub32 z1 y1 = v:=⟨_,rfl⟩
 have e6:IntKind.u32.wrap (z1 - y1) = a3:=h7
 obtain ⟨r2,q2⟩:∃ v,rolI y1 8 = v:=⟨_,rfl⟩
 have e7:=rol_at (by omega) q2 (kk:=8) rfl
 obtain ⟨z2,f2⟩:∃ v,xorI .u32 a3 r2 = v:=⟨_,rfl⟩
 have h8:xorI .u32 a3 (rolI y1 8) = z2:=by rw [q2];exact f2
 obtain ⟨y2,h9⟩:∃ v,add32 y1 x2 = v:=⟨_,rfl⟩
 have e8:IntKind.u32.wrap (y1+x2) = y2:=h9
 obtain ⟨a4,g1⟩:∃ v,sub32 x2 z2 = v:=⟨_,rfl⟩
 have e9:IntKind.u32.wrap (x2 - z2) = a4:=g1
 obtain ⟨r3,q3⟩:∃ v,rolI z2 16 = v:=⟨_,rfl⟩
 have e10:=rol_at (by omega) q3 (kk:=16) rfl
 obtain ⟨x3,f3⟩:∃ v,xorI .u32 a4 r3 = v:=⟨_,rfl⟩
 have g2:xorI .u32 a4 (rolI z2 16) = x3:=by rw [q3];exact f3
 obtain ⟨z3,g3⟩:∃ v,add32 z2 y2 = v:=⟨_,rfl⟩
 have e11:IntKind.u32.wrap (z2+y2) = z3:=g3
 obtain ⟨a5,g4⟩:∃ v,sub32 y2 x3 = v:=⟨_,rfl⟩
 have e12:IntKind.u32.wrap (y2 - x3) = a5:=g4
 obtain ⟨r4,q4⟩:∃ v,rolI x3 19 = v:=⟨_,rfl⟩
 have e13:=rol_at (by omega) q4 (kk:=19) rfl
 obtain ⟨y3,f4⟩:∃ v,xorI .u32 a5 r4 = v:=⟨_,rfl⟩
 have g5:xorI .u32 a5 (rolI x3 19) = y3:=by rw [q4];exact f4
 obtain ⟨x4,g6⟩:∃ v,add32 x3 z3 = v:=⟨_,rfl⟩
 have e14:IntKind.u32.wrap (x3+z3) = x4:=g6
 obtain ⟨a6,g7⟩:∃ v,sub32 z3 y3 = v:=⟨_,rfl⟩
 have e15:IntKind.u32.wrap (z3 - y3) = a6:=g7
 obtain ⟨r5,q5⟩:∃ v,rolI y3 4 = v:=⟨_,rfl⟩
 have e16:=rol_at (by omega) q5 (kk:=4) rfl
 obtain ⟨z4,f5⟩:∃ v,xorI .u32 a6 r5 = v:=⟨_,rfl⟩
 have g8:xorI .u32 a6 (rolI y3 4) = z4:=by rw [q5];exact f5
 obtain ⟨y4,g9⟩:∃ v,add32 y3 x4 = v:=⟨_,rfl⟩
 have e17:IntKind.u32.wrap (y3+x4) = y4:=g9
 have hm:=mix_at h1 h2 h3 h4 h5 h6 h7 h8 h9 g1 g2 g3 g4 g5 g6 g7 g8 g9
 rw [hm]
 clear g9 g8 g7 g6 g5 g4 g3 g2 g1 h9 h8 h7 h6 h5 h4 h3 h2 h1 hm q0 q1 q2 q3 q4 q5
 rcases hR with rfl | rfl
 ·refine call_run Tryz.func196 rfl ⟨rfl,rfl⟩ ?_
  simp [Tryz.f196,e0,e1,f0,e2,e3,e4,f1,e5,e6,e7,f2,e8,e9,e10,f3,e11,e12,e13,f4,e14,e15,e16,f5,e17]
 ·refine call_run Tryz.func196 rfl ⟨rfl,rfl⟩ ?_
  simp [Tryz.f196,e0,e1,f0,e2,e3,e4,f1,e5,e6,e7,f2,e8,e9,e10,f3,e11,e12,e13,f4,e14,e15,e16,f5,e17]
set_option maxHeartbeats 4000000 in
set_option maxRecDepth 4000 in
theorem last_ev [MaxL] [TxtC] (x y z:Int) {x' y' z':Int} (hm:finI (x,y,z) = (x',z',y')) (R:Heap) (hR:R = []∨R = [none]):call cx 197 [.optr 0 3 0] (some [.int .u32 x,.int .u32 y,.int .u32 z] :: R) = some (.tup [],some [.int .u32 x',.int .u32 y',.int .u32 z'] :: R):=by
 obtain ⟨a1,h1⟩:∃ v,xorI .u32 z y = v:=⟨_,rfl⟩
 obtain ⟨r0,q0⟩:∃ v,rolI y 14 = v:=⟨_,rfl⟩
 have e1:=rol_at (by omega) q0 (kk:=14) rfl
 obtain ⟨z1,f0⟩:∃ v,sub32 a1 r0 = v:=⟨_,rfl⟩
 have d0:IntKind.u32.wrap (a1 - r0) = z1:=f0
 have h2:sub32 a1 (rolI y 14) = z1:=by rw [q0];exact f0
 obtain ⟨a2,h3⟩:∃ v,xorI .u32 x z1 = v:=⟨_,rfl⟩
 obtain ⟨r1,q1⟩:∃ v,rolI z1 11 = v:=⟨_,rfl⟩
 have e3:=rol_at (by omega) q1 (kk:=11) rfl
 obtain ⟨x1,f1⟩:∃ v,sub32 a2 r1 = v:=⟨_,rfl⟩
 have d1:IntKind.u32.wrap (a2 - r1) = x1:=f1
 have h4:sub32 a2 (rolI z1 11) = x1:=by rw [q1];exact f1
 obtain ⟨a3,h5⟩:∃ v,xorI .u32 y x1 = v:=⟨_,rfl⟩
 obtain ⟨r2,q2⟩:∃ v,rolI x1 25 = v:=⟨_,rfl⟩
 have e5:=rol_at (by omega) q2 (kk:=25) rfl
 obtain ⟨y1,f2⟩:∃ v,sub32 a3 r2 = v:=⟨_,rfl⟩
 have d2:IntKind.u32.wrap (a3 - r2) = y1:=f2
 have h6:sub32 a3 (rolI x1 25) = y1:=by rw [q2];exact f2
 obtain ⟨a4,h7⟩:∃ v,xorI .u32 z1 y1 = v:=⟨_,rfl⟩
 obtain ⟨r3,q3⟩:∃ v,rolI y1 16 = v:=⟨_,rfl⟩
 have e7:=rol_at (by omega) q3 (kk:=16) rfl
 obtain ⟨z2,f3⟩:∃ v,sub32 a4 r3 = v:=⟨_,rfl⟩
 have d3:IntKind.u32.wrap (a4 - r3) = z2:=f3
 have h8:sub32 a4 (rolI y1 16) = z2:=by rw [q3];exact f3
 obtain ⟨a5,g1⟩:∃ v,xorI .u32 x1 z2 = v:=⟨_,rfl⟩
 obtain ⟨r4,q4⟩:∃ v,rolI z2 4 = v:=⟨_,rfl⟩
 have e9:=rol_at (by omega) q4 (kk:=4) rfl
 obtain ⟨x2,f4⟩:∃ v,sub32 a5 r4 = v:=⟨_,rfl⟩
 have d4:IntKind.u32.wrap (a5 - r4) = x2:=f4
 have g2:sub32 a5 (rolI z2 4) = x2:=by rw [q4];exact f4
 obtain ⟨a6,g3⟩:∃ v,xorI .u32 y1 x2 = v:=⟨_,rfl⟩
 obtain ⟨r5,q5⟩:∃ v,rolI x2 14 = v:=⟨_,rfl⟩
 have e11:=rol_at (by omega) q5 (kk:=14) rfl
 obtain ⟨y2,f5⟩:∃ v,sub32 a6 r5 = v:=⟨_,rfl⟩
 have d5:IntKind.u32.wrap (a6 - r5) = y2:=f5
 have g4:sub32 a6 (rolI x2 14) = y2:=by rw [q5];exact f5
 obtain ⟨a7,g5⟩:∃ v,xorI .u32 z2 y2 = v:=⟨_,rfl⟩
 obtain ⟨r6,q6⟩:∃ v,rolI y2 24 = v:=⟨_,rfl⟩
 have e13:=rol_at (by omega) q6 (kk:=24) rfl
 obtain ⟨z3,f6⟩:∃ v,sub32 a7 r6 = v:=⟨_,rfl⟩
 have d6:IntKind.u32.wrap (a7 - r6) = z3:=f6
 have g6:sub32 a7 (rolI y2 24) = z3:=by rw [q6];exact f6
 have hn:=fin_at h1 h2 h3 h4 h5 h6 h7 h8 g1 g2 g3 g4 g5 g6
 rw [hm] at hn
 clear hm
 obtain ⟨hn1,hn⟩:=Prod.mk.inj hn
 obtain ⟨hn2,hn3⟩:=Prod.mk.inj hn
 clear g6 g4 g2 h8 h6 h4 h2 f0 q0 f1 q1 f2 q2 f3 q3 f4 q4 f5 q5 f6 q6
 rw [hn1,hn2,hn3]
 clear hn1 hn2 hn3
 rcases hR with rfl | rfl
 ·refine call_run Tryz.func197 rfl ⟨rfl,rfl⟩ ?_
  simp [Tryz.f197,h1,e1,d0,h3,e3,d1,h5,e5,d2,h7,e7,d3,g1,e9,d4,g3,e11,d5,g5,e13,d6]
 ·refine call_run Tryz.func197 rfl ⟨rfl,rfl⟩ ?_
  simp [Tryz.f197,h1,e1,d0,h3,e3,d1,h5,e5,d2,h7,e7,d3,g1,e9,d4,g3,e11,d5,g5,e13,d6]
end Go.Ev.S
namespace Go.Ev.S
open Go Go.Proofs Go.Ev
theorem get12 [MaxL] [TxtC] (l:List UInt8) (hl:l.length = 12) (a:Nat) (ha:a≤8) {at_:Int} (hat:at_ = a):call cx 68 [.vsl false (ofBytes l) 12,.int .i64 at_,.int .i64 4] [] = some (.tup [.int .u64 (wordL l a:Nat),.bool true],[]):=by
 have h:=leget_ev (Sl.of l) at_ 4 (by omega) (by show l.length < _;omega)
 have e:leGet l at_ 4 = some (wordL l a):=by
  unfold leGet
  rw [if_pos ⟨by decide,by omega,by omega⟩]
  have e1:at_.toNat = a:=by omega
  rw [e1]
  rfl
 have e2:(Sl.of l).l = l:=rfl
 rw [e2,e] at h
 have e4:(Sl.of l).nil = false:=rfl
 rw [e4,hl] at h
 exact h
set_option maxHeartbeats 2000000 in
theorem add_ev [MaxL] [TxtC] (l:List UInt8) (hl:l.length = 12) (x y z:Int) {x' y' z':Int} (hm:addT l (x,y,z) = (x',y',z')) (R:Heap) (hR:R = []∨R = [none]) :
  call cx 195 [.optr 0 3 0,.vsl false (ofBytes l) 12] (some [.int .u32 x,.int .u32 y,.int .u32 z] :: R) = some (.tup [],some [.int .u32 x',.int .u32 y',.int .u32 z'] :: R):=by
 have h0:=get12 l hl 0 (by omega) (at_:=0) rfl
 have h4:=get12 l hl 4 (by omega) (at_:=4) rfl
 have h8:=get12 l hl 8 (by omega) (at_:=8) rfl
 have w0:=wordL_lt l 0
 have w4:=wordL_lt l 4
 have w8:=wordL_lt l 8
 unfold addT add32 at hm
 obtain ⟨e1,hm⟩:=Prod.mk.inj hm
 obtain ⟨e2,e3⟩:=Prod.mk.inj hm
 generalize wordL l 0 = a at *
 generalize wordL l 4 = b at *
 generalize wordL l 8 = c at *
 have v0:IntKind.u32.wrap (a:Int) = a:=by rw [wrap_u32] <;> omega
 have v4:IntKind.u32.wrap (b:Int) = b:=by rw [wrap_u32] <;> omega
 have v8:IntKind.u32.wrap (c:Int) = c:=by rw [wrap_u32] <;> omega
 rcases hR with rfl | rfl
 ·refine call_run Tryz.func195 rfl ⟨rfl,rfl⟩ ?_
  simp [Tryz.f195,h0,h4,h8,v0,v4,v8,e1,e2,e3]
 ·refine call_run Tryz.func195 rfl ⟨rfl,rfl⟩ ?_
  simp [Tryz.f195,h0,h4,h8,v0,v4,v8,e1,e2,e3]
theorem leN_zeros:∀ (l:List UInt8) (k:Nat),leN (l ++ List.replicate k 0) = leN l
 | [],0=>rfl
 | [],k+1=>by
  have h:=leN_zeros [] k
  simp only [List.nil_append] at h ⊢
  rw [List.replicate_succ,leN.eq_2]
  rw [h]
  rfl
 | c :: l,k=>by rw [List.cons_append,leN,leN,leN_zeros l k]
theorem wordL_zeros (l:List UInt8) (k a:Nat):wordL (l ++ List.replicate k 0) a = wordL l a:=by
 unfold wordL
 rw [List.drop_append,List.take_append,List.drop_replicate,List.take_replicate,leN_zeros]
theorem addT_zeros (l:List UInt8) (k:Nat) (t:Int × Int × Int):addT (l ++ List.replicate k 0) t = addT l t:=by
 obtain ⟨x,y,z⟩:=t
 simp only [addT,wordL_zeros]
set_option maxHeartbeats 4000000 in
theorem lookup_ev [MaxL] [TxtC] (s:Sl UInt8) (_:s.l.length < 4611686018427387904):call cx 167 [(.vsl s.nil (ofBytes s.l) s.l.length)] [] = some (.int .u64 (lookN s.l),[]):=by
 refine call_run Tryz.func167 rfl ⟨rfl,rfl⟩ ?_
 have hN:lookN s.l = lookR s.l (add32 3735928559 (IntKind.u32.wrap (s.l.length:Nat)),add32 3735928559 (IntKind.u32.wrap (s.l.length:Nat)),add32 3735928559 (IntKind.u32.wrap (s.l.length:Nat))):=rfl
 obtain ⟨n,hn⟩:∃ n,IntKind.u32.wrap (3735928559+IntKind.u32.wrap (s.l.length:Nat)) = n:=⟨_,rfl⟩
 have hn2:add32 3735928559 (IntKind.u32.wrap (s.l.length:Nat)) = n:=hn
 rw [hn2] at hN
 clear hn2
 generalize lookN s.l = res at *
 simp [Tryz.f167,hn]
 refine Run.loopThen (fun (q:List UInt8 × Int × Int × Int) e H'=>q.1.length≤s.l.length∧(s.nil = true→q.1 = [])∧lookR q.1 q.2 = res∧look e 0 = some (.vsl s.nil (ofBytes q.1) q.1.length)∧look e 4 = some (.optr 0 3 0)∧H' = [some [.int .u32 q.2.1,.int .u32 q.2.2.1,.int .u32 q.2.2.2]]) (fun q=>q.1.length) (s.l,n,n,n) ?_ ?_
 ·simp [hN]
  exact s.h
 rintro ⟨l,x,y,z⟩ e H' ⟨hl,hnl,hR,k0,k4,rfl⟩
 simp only at hl hnl hR k0 k4
 by_cases h12:12 < l.length
 ·have h12':(12:Int) < (l.length:Int):=by omega
  have hnn:s.nil = false:=by
   cases hq:s.nil with
   | false=>rfl
   | true=>rw [hnl hq] at h12;simp at h12
  rw [hnn] at k0
  rw [lookR_more h12] at hR
  obtain ⟨⟨x1,y1,z1⟩,ha⟩:∃ t,addT (l.take 12) (x,y,z) = t:=⟨_,rfl⟩
  have hA:=add_ev (l.take 12) (by rw [List.length_take];omega) x y z ha [] (.inl rfl)
  have ha2:addT l (x,y,z) = (x1,y1,z1):=by
   rw [← ha]
   simp only [addT,wordL,List.drop_take,List.take_take]
   rfl
  rw [ha2] at hR
  have hM:=mix_ev x1 y1 z1 [] (.inl rfl)
  have t12:List.take 12 (ofBytes l) = ofBytes (l.take 12):=by simp [ofBytes,List.map_take]
  have d12:List.drop 12 (ofBytes l) = ofBytes (l.drop 12):=by simp [ofBytes,List.map_drop]
  have h12a:(12:Int)≤(l.length:Int):=by omega
  have hdl:(l.drop 12).length = l.length - 12:=List.length_drop
  have htk:List.take (l.length - 12) (ofBytes (l.drop 12)) = ofBytes (l.drop 12):=List.take_of_length_le (by simp)
  generalize l.take 12 = p at *
  generalize l.drop 12 = l' at *
  simp [k0,k4,h12',hA,hM,h12a,t12,d12,htk]
  exact ⟨l',by omega,by omega,by simp [hnn],_,_,_,hR,⟨hnn,rfl,by omega⟩,rfl,rfl,rfl⟩
 ·have h12':¬ (12:Int) < (l.length:Int):=by omega
  by_cases h0:l.length = 0
  ·have h0':¬ (0:Int) < (l.length:Int):=by omega
   rw [lookR_nil h0] at hR
   subst hR
   have hp64:(2:Int) ^ min 32 IntKind.u64.bits = 4294967296:=by decide
   simp [k0,k4,h0,outT,hp64]
  ·have h0':(0:Int) < (l.length:Int):=by omega
   have hnn:s.nil = false:=by
    cases hq:s.nil with
    | false=>rfl
    | true=>rw [hnl hq] at h0;simp at h0
   rw [hnn] at k0
   have hp:(l ++ List.replicate (12 - l.length) 0).length = 12:=by rw [List.length_append,List.length_replicate];omega
   have ha0:=addT_zeros l (12 - l.length) (x,y,z)
   obtain ⟨⟨x1,y1,z1⟩,ha⟩:∃ t,addT l (x,y,z) = t:=⟨_,rfl⟩
   rw [ha] at ha0
   obtain ⟨⟨x2,z2,y2⟩,hf⟩:∃ t,finI (x1,y1,z1) = t:=⟨_,rfl⟩
   rw [lookR_end h12 h0 (x:=x2) (y:=y2) (z:=z2) (by rw [ha];exact hf)] at hR
   subst hR
   have hA:=add_ev _ hp x y z ha0 [none] (.inr rfl)
   have hF:=last_ev x1 y1 z1 hf [none] (.inr rfl)
   have hp64:(2:Int) ^ min 32 IntKind.u64.bits = 4294967296:=by decide
   have h0n:0 < l.length:=by omega
   have hmin:min l.length 12 = l.length:=by omega
   have hset:setRange [D.int .u8 0,D.int .u8 0,D.int .u8 0,D.int .u8 0,D.int .u8 0,D.int .u8 0,D.int .u8 0,D.int .u8 0,D.int .u8 0,D.int .u8 0,D.int .u8 0,D.int .u8 0] 0 (ofBytes l) = ofBytes (l ++ List.replicate (12 - l.length) 0):=by
    show setRange (List.replicate 12 (D.int .u8 0)) 0 (ofBytes l) = _
    unfold setRange
    rw [List.take_zero,Nat.zero_add,ofBytes_len,List.drop_replicate]
    simp [ofBytes]
   have htk:List.take l.length (ofBytes l) = ofBytes l:=List.take_of_length_le (by simp)
   generalize l ++ List.replicate (12 - l.length) 0 = p at *
   simp [-setRange_eq,k0,k4,h12',h0n,hA,hF,outT,hp64,hmin,hset,htk,hp]
end Go.Ev.S
namespace Go.Ev.S
open Go Go.Proofs Go.Ev
theorem z36:[.int .u8 0,.int .u8 0,.int .u8 0,.int .u8 0,.int .u8 0,.int .u8 0,.int .u8 0,.int .u8 0,.int .u8 0,.int .u8 0,.int .u8 0,.int .u8 0,.int .u8 0,.int .u8 0,.int .u8 0,.int .u8 0,.int .u64 0,.int .u8 0,.int .u8 0,.int .u8 0,.int .u8 0,.int .u8 0,.int .u8 0,.int .u8 0,.int .u8 0,.int .u8 0,.int .u8 0,.int .u8 0,.int .u8 0,.int .u8 0,.int .u8 0,.int .u8 0,.int .u8 0,.int .u64 0,.int .u64 0,.int .u64 0] = Enc.cells Cur.zero:=rfl
def payL (p:Pr):List UInt8:=(p.name ++ [61]) ++ p.value
theorem pay_ev [MaxL] [TxtC] (p:Pr) (h1:p.name.length < 1000000) (h2:p.value.length < 1000000):call cx 138 [.agg (Enc.cells p)] [] = some (.str (payL p),[]):=by
 refine call_run Tryz.func138 rfl ⟨rfl,rfl⟩ ?_
 have x1:p.name.length+1≤4611686018427387904:=by omega
 have x2:p.name.length+1+p.value.length≤4611686018427387904:=by omega
 have x3:p.name.length+(p.value.length+1)≤4611686018427387904:=by omega
 unfold payL
 simp [Tryz.f138,Pr.cells,x1,x2]
def xorP:List (List UInt8)→Int→Int
 | [],v=>v
 | b :: l,v=>xorP l (xorI .u64 v (lookN b))
def bD (b:List UInt8):D:=.vsl false (ofBytes b) b.length
theorem bDs_at {L:List (List UInt8)} {k:Nat} (h:k < L.length):List.drop k (L.map bD) = bD L[k] :: List.drop (k+1) (L.map bD):=by
 rw [List.drop_eq_getElem_cons (by simpa using h)]
 simp
set_option maxHeartbeats 1000000 in
theorem xor_ev [MaxL] [TxtC] (nl:Bool) (L:List (List UInt8)) (hnl:nl = true→L = []) (hL:L.length < 1000000) (hb:∀ b∈L,b.length < 3000000):call cx 142 [.vsl nl (L.map bD) L.length] [] = some (.int .u64 (xorP L 0),[]):=by
 refine call_run Tryz.func142 rfl ⟨rfl,rfl⟩ ?_
 obtain ⟨r,hr⟩:∃ r,xorP L 0 = r:=⟨_,rfl⟩
 rw [hr]
 simp [Tryz.f142]
 refine Run.loopThen (fun (q:Nat × Int) e H'=>q.1≤L.length∧xorP (L.drop q.1) q.2 = r∧look e 3 = some (.int .u64 q.2)∧look e 6 = some (.vsl nl (L.map bD) L.length)∧look e 7 = some (.int .i64 L.length)∧look e 8 = some (.int .i64 (q.1:Nat))∧H' = []) (fun q=>L.length - q.1) (0,0) ?_ ?_
 ·simp [hr]
 rintro ⟨k,v⟩ e H' ⟨hk,hR,k3,k6,k7,k8,rfl⟩
 simp only at hk hR k3 k8
 by_cases hlt:k < L.length
 ·have hlt':(k:Int) < (L.length:Int):=by omega
  have hw:IntKind.i64.wrap ((k:Int)+1) = ((k+1:Nat):Int):=by rw [wrap_i64] <;> omega
  have hnn:nl = false:=by
   cases hq:nl with
   | false=>rfl
   | true=>rw [hnl hq] at hlt;simp at hlt
  have hat:=bDs_at hlt
  rw [List.drop_eq_getElem_cons hlt,xorP] at hR
  have hl:=lookup_ev (.of L[k]) (by have:=hb _ (List.getElem_mem hlt);show L[k].length < _;omega)
  replace hl:call cx 167 [.vsl false (ofBytes L[k]) L[k].length] [] = some (.int .u64 (lookN L[k]),[]):=hl
  generalize L[k] = b at *
  generalize lookN b = z at *
  simp [k3,k6,k7,k8,hlt',hw,hnn,hat,bD,hl]
  exact ⟨k+1,by omega,by omega,_,hR,rfl,by omega⟩
 ·have hlt':¬ (k:Int) < (L.length:Int):=by omega
  rw [List.drop_eq_nil_of_le (by omega),xorP] at hR
  subst hR
  simp [k3,k6,k7,k8,hlt']
def PrB (p:Pr):Prop:=p.name.length < 1000000∧p.value.length < 1000000
theorem payL_len {p:Pr} (h:PrB p):(payL p).length < 3000000:=by
 obtain ⟨h1,h2⟩:=h
 unfold payL
 simp
 omega
def cOfP (q:ID) (r:Rec):Cur:=⟨q,r.seq,r.boot,r.mono,r.real,xorP (r.fields.l.map payL) 0⟩
def paysB (l:List Pr):List D:=(l.map payL).map bD
theorem paysB_len (l:List Pr):(paysB l).length = l.length:=by simp [paysB]
theorem paysB_idFree (l:List Pr):(paysB l).all idFree = true:=by
 rw [List.all_eq_true]
 intro x hx
 obtain ⟨b,_,rfl⟩:=List.mem_map.1 hx
 rfl
@[simp] theorem paysB_idFree' (l:List Pr):(paysB l).all idFree = true:=paysB_idFree l
@[simp] theorem paysB_idFreeL (l:List Pr):idFree.idFreeL (paysB l) = true:=by rw [idFreeL_all];exact paysB_idFree l
@[simp] theorem paysB_closedL (n:Nat) (l:List Pr):closed.closedL n (paysB l) = true:=closedL_free n _ (paysB_idFreeL l)
@[simp] theorem paysB_closed (n:Nat) (l:List Pr):(paysB l).all (closed n) = true:=by rw [← closedL_all];exact paysB_closedL n l
@[simp] theorem paysB_aI (l:List Pr):(∀ x,x∈paysB l→idFree x = true) = True:=eq_true (List.all_eq_true.1 (paysB_idFree l))
@[simp] theorem paysB_aC (n:Nat) (l:List Pr):(∀ x,x∈paysB l→closed n x = true) = True:=eq_true (List.all_eq_true.1 (paysB_closed n l))
theorem paysB_snoc {l:List Pr} {k:Nat} (h:k < l.length):paysB (l.take k) ++ [bD (payL l[k])] = paysB (l.take (k+1)):=by
 unfold paysB
 rw [List.take_succ_eq_append_getElem h,List.map_append,List.map_append]
 rfl
set_option maxHeartbeats 4000000 in
theorem cof_ev [MaxL] [TxtC] (q:ID) (r:Rec) (hn:r.fields.l.length < 1000000) (hb:∀ p∈r.fields.l,PrB p):call cx 100 [.agg (ofBytes q.l),.agg (Enc.cells r)] [] = some (.agg (Enc.cells (cOfP q r)),[]):=by
 have hL:Enc.cells r = .int .u64 r.seq :: .int .u64 r.real :: .int .u64 r.mono :: (ofBytes r.boot.l ++ [(.vsl r.fields.nil (encs r.fields.l) r.fields.l.length)]):=Rec.cells r
 have hC:Enc.cells (cOfP q r) = ofBytes q.l ++ ([.int .u64 r.seq] ++ (ofBytes r.boot.l ++ [.int .u64 r.mono,.int .u64 r.real,.int .u64 (xorP (r.fields.l.map payL) 0)])):=rfl
 have hbl:∀ b∈r.fields.l.map payL,b.length < 3000000:=by
  intro b hm
  obtain ⟨p,hp,rfl⟩:=List.mem_map.1 hm
  exact payL_len (hb p hp)
 have hxe:=fun nl h=>xor_ev nl (r.fields.l.map payL) h (by simpa using hn) hbl
 rw [hL,hC]
 have hz:=z36
 clear hL hC
 generalize r.fields = F at *
 refine call_run Tryz.func100 rfl ⟨rfl,rfl⟩ ?_
 simp [Tryz.f100,hz]
 refine Run.loopThen (fun (k:Nat) e H'=>k≤F.l.length∧look e 2 = some (.optr 0 16 0)∧look e 3 = some (.optr 1 20 0)∧look e 4 = some (.optr 2 36 0)∧look e 9 = some (.vsl F.nil (encs F.l) F.l.length)∧look e 10 = some (.int .i64 F.l.length)∧look e 11 = some (.int .i64 k) ∧
   ((k = 0∧look e 5 = some (.vsl true [] 0)∧H' = [some (ofBytes q.l),some (.int .u64 r.seq :: .int .u64 r.real :: .int .u64 r.mono :: (ofBytes r.boot.l ++ [(.vsl F.nil (encs F.l) F.l.length)])),some (Enc.cells Cur.zero)]) ∨
   (∃ n1 v1,0 < k∧look e 5 = some (.osl 4 k 0 k 1)∧H' = [some (ofBytes q.l),some (.int .u64 r.seq :: .int .u64 r.real :: .int .u64 r.mono :: (ofBytes r.boot.l ++ [(.vsl F.nil (encs F.l) F.l.length)])),some (Enc.cells Cur.zero),some [.str n1,.str v1],some (paysB (F.l.take k))]) ∨
   (∃ n1 v1 n2 v2,0 < k∧look e 5 = some (.osl 4 k 0 k 1)∧H' = [some (ofBytes q.l),some (.int .u64 r.seq :: .int .u64 r.real :: .int .u64 r.mono :: (ofBytes r.boot.l ++ [(.vsl F.nil (encs F.l) F.l.length)])),some (Enc.cells Cur.zero),some [.str n1,.str v1],some (paysB (F.l.take k)),some [.str n2,.str v2]]))) (fun k=>F.l.length - k) 0 (by simp) ?_
 rintro k e H' ⟨hk,k2,k3,k4,k9,k10,k11,hH⟩
 by_cases hlt:k < F.l.length
 ·have hlt':(k:Int) < (F.l.length:Int):=by omega
  have hw:IntKind.i64.wrap ((k:Int)+1) = ((k+1:Nat):Int):=by rw [wrap_i64] <;> omega
  have hpb:=hb F.l[k] (List.getElem_mem hlt)
  have hsn:=paysB_snoc hlt
  have hpl:=paysB_len (F.l.take k)
  rw [List.length_take,Nat.min_eq_left (by omega)] at hpl
  have hpy:payL F.l[k] = F.l[k].name ++ 61 :: F.l[k].value:=by simp [payL]
  have hnn:=Sl.nn hlt
  obtain ⟨x1,x2⟩:=hpb
  have x3:F.l[k].name.length+1≤4611686018427387904:=by omega
  have x4:F.l[k].name.length+1+F.l[k].value.length≤4611686018427387904:=by omega
  have x5:F.l[k].name.length+(F.l[k].value.length+1)≤4611686018427387904:=by omega
  have hbD:bD (payL F.l[k]) = .vsl false (ofBytes (F.l[k].name ++ 61 :: F.l[k].value)) (F.l[k].name.length+(F.l[k].value.length+1)):=by
   unfold bD
   rw [hpy]
   simp
  rw [hbD] at hsn
  have hm1:24≤maxBytes:=by decide
  have hm2:1≤maxBytes:=by decide
  have hmx:(k+1) * 24≤maxBytes:=Nat.le_trans (show _≤30000000 by omega) (by decide)
  have hmx2:k+1≤maxBytes:=Nat.le_trans (show _≤30000000 by omega) (by decide)
  rcases hH with ⟨rfl,k5,rfl⟩ | ⟨n1,v1,hk0,k5,rfl⟩ | ⟨n1,v1,n2,v2,hk0,k5,rfl⟩
  ·have hc0:List.take 2 (encs F.l) = [.str F.l[0].name,.str F.l[0].value]:=by
    rw [encs_at0 hlt,Pr.cells]
    rfl
   have hc1:2≤F.l.length * 2:=by omega
   simp [k2,k3,k4,k5,k9,k10,k11,hlt,hnn,x3,x4,hc0,hc1,hm1,hm2]
   exact ⟨1,by omega,by omega,by simp,by omega,rfl,hsn⟩
  ·simp [k2,k3,k4,k5,k9,k10,k11,hlt',hlt,hw,hnn,x3,x4,Pr.cells,hmx,hmx2,hpl,hsn]
   exact ⟨k+1,by omega,by omega,by omega,by omega,rfl,rfl⟩
  ·simp [k2,k3,k4,k5,k9,k10,k11,hlt',hlt,hw,hnn,x3,x4,Pr.cells,hmx,hmx2,hpl,hsn]
   exact ⟨k+1,by omega,by omega,by omega,by omega,rfl,rfl⟩
 ·have hlt':¬ (k:Int) < (F.l.length:Int):=by omega
  have hke:k = F.l.length:=by omega
  have htk:F.l.take k = F.l:=List.take_of_length_le (by omega)
  rw [htk] at hH
  have hpl:=paysB_len F.l
  have htp:List.take F.l.length (paysB F.l) = paysB F.l:=List.take_of_length_le (by omega)
  rcases hH with ⟨rfl,k5,rfl⟩ | ⟨n1,v1,hk0,k5,rfl⟩ | ⟨n1,v1,n2,v2,hk0,k5,rfl⟩
  ·have hl0:F.l = []:=List.length_eq_zero_iff.1 hke.symm
   have hx:=hxe true (fun _=>by rw [hl0];rfl)
   rw [hl0] at hx
   simp at hx
   simp [k2,k3,k4,k5,k9,k10,k11,hl0,hx,List.drop_append,List.take_append,drop_bytes]
  ·have hx:=hxe false (fun h=>by cases h)
   replace hx:call cx 142 [.vsl false (paysB F.l) F.l.length] [] = some (.int .u64 (xorP (F.l.map payL) 0),[]):=by
    simpa [paysB] using hx
   subst hke
   generalize xorP (F.l.map payL) 0 = z at *
   simp [k2,k3,k4,k5,k9,k10,k11,hlt',hx,hpl,htp,List.drop_append,List.take_append,drop_bytes]
  ·have hx:=hxe false (fun h=>by cases h)
   replace hx:call cx 142 [.vsl false (paysB F.l) F.l.length] [] = some (.int .u64 (xorP (F.l.map payL) 0),[]):=by
    simpa [paysB] using hx
   subst hke
   generalize xorP (F.l.map payL) 0 = z at *
   simp [k2,k3,k4,k5,k9,k10,k11,hlt',hx,hpl,htp,List.drop_append,List.take_append,drop_bytes]
end Go.Ev.S
namespace Go.Ev
open Go Go.Proofs
def nameC (c:UInt8):Bool:=(decide (65≤c.toNat) && decide (c.toNat≤90)) || (decide (48≤c.toNat) && decide (c.toNat≤57)) || decide (c.toNat = 95)
def digC (c:UInt8):Bool:=decide (48≤c.toNat) && decide (c.toNat≤57)
def nameOk:List UInt8→Bool
 | []=>false
 | c :: l=>decide ((c :: l).length≤64) && !digC c && (c :: l).all nameC
def prOk (p:Pr):Bool:=nameOk p.name && decide (p.value.length≤256)
def plainC (c:UInt8):Bool:= !(decide (c.toNat < 32) && decide (c.toNat≠9))
def plainV (s:List UInt8):Bool:=s.all plainC
def pairL (p:Pr):List UInt8:=if plainV p.value then ((p.name ++ [61]) ++ p.value) ++ [10] else (((p.name ++ [10]) ++ leB 8 p.value.length) ++ p.value) ++ [10]
def recOk (it:It):Bool:=decide (it.fr = 0) && decide (it.til = 0) && decide (it.rc.seq≠0) && decide (1≤it.rc.fields.l.length) && decide (it.rc.fields.l.length≤16) && it.rc.fields.l.all prOk
def gapOk (it:It):Bool:=decide (1≤it.fr) && decide (it.fr≤it.til) && decide (it.rc.seq = 0) && decide (it.rc.real = 0) && decide (it.rc.mono = 0) && decide (it.rc.boot = ID.zero) && decide (it.rc.fields.l.length = 0)
def itOk (it:It):Bool:=if it.gap then gapOk it else recOk it
end Go.Ev
namespace Go.Ev.S
open Go Go.Proofs Go.Ev
theorem plain_ev [MaxL] [TxtC] (s:List UInt8) (_:s.length < 1000000):call cx 144 [.str s] [] = some (.bool (plainV s),[]):=by
 refine call_run Tryz.func144 rfl ⟨rfl,rfl⟩ ?_
 unfold plainV
 obtain ⟨r,hr⟩:∃ r,s.all plainC = r:=⟨_,rfl⟩
 rw [hr]
 simp [Tryz.f144]
 refine Run.loopThen (fun (k:Nat) e H'=>k≤s.length∧(s.drop k).all plainC = r∧look e 0 = some (.str s)∧look e 5 = some (.int .i64 s.length)∧look e 6 = some (.int .i64 k)∧H' = []) (fun k=>s.length - k) 0 ?_ ?_
 ·simpa using hr
 rintro k e H' ⟨hk,hR,k0,k5,k6,rfl⟩
 by_cases hlt:k < s.length
 ·have hlt':(k:Int) < (s.length:Int):=by omega
  have hw:IntKind.i64.wrap ((k:Int)+1) = ((k+1:Nat):Int):=by rw [wrap_i64] <;> omega
  have hat:s[k]? = some s[k]:=List.getElem?_eq_getElem hlt
  rw [List.drop_eq_getElem_cons hlt,List.all_cons] at hR
  generalize s[k] = c at *
  by_cases h1:c.toNat < 32
  ·have h1':(c.toNat:Int) < 32:=by omega
   by_cases h2:c.toNat = 9
   ·have h2':(c.toNat:Int) = 9:=by omega
    have hc:plainC c = true:=by simp [plainC,h2]
    rw [hc,Bool.true_and] at hR
    simp [k0,k5,k6,hlt',hat,hw,h2]
    exact ⟨k+1,by omega,by omega,by simpa using hR,by omega⟩
   ·have h2':¬ (c.toNat:Int) = 9:=by omega
    have hc:plainC c = false:=by simp [plainC,h1,h2]
    rw [hc,Bool.false_and] at hR
    subst hR
    simp [k0,k5,k6,hlt',hat,h1',h2']
  ·have h1':¬ (c.toNat:Int) < 32:=by omega
   have hc:plainC c = true:=by simp [plainC,h1]
   rw [hc,Bool.true_and] at hR
   simp [k0,k5,k6,hlt',hat,hw,h1']
   exact ⟨k+1,by omega,by omega,by simpa using hR,by omega⟩
 ·have hlt':¬ (k:Int) < (s.length:Int):=by omega
  rw [List.drop_eq_nil_of_le (by omega)] at hR
  have:r = true:=hR.symm
  subst this
  simp [k0,k5,k6,hlt']
theorem nameC_cases (c:UInt8):(nameC c = true∧((65≤c.toNat∧c.toNat≤90)∨(¬ (65≤c.toNat∧c.toNat≤90)∧48≤c.toNat∧c.toNat≤57)∨c.toNat = 95))∨(nameC c = false∧¬ (65≤c.toNat∧c.toNat≤90)∧¬ (48≤c.toNat∧c.toNat≤57)∧c.toNat≠95):=by
 cases h:nameC c with
 | true =>
  simp [nameC] at h
  exact .inl ⟨rfl,by omega⟩
 | false =>
  simp [nameC] at h
  exact .inr ⟨rfl,by omega,by omega,by omega⟩
set_option maxHeartbeats 2000000 in
theorem fname_evX [MaxL] [TxtC] (s:List UInt8):call cx 166 [.str s] [] = some (.bool (nameOk s),[]):=by
 refine call_run Tryz.func166 rfl ⟨rfl,rfl⟩ ?_
 cases s with
 | nil=>simp [Tryz.f166,nameOk]
 | cons c l =>
  have hl1:¬ (l.length:Int)+1 < 1:=by omega
  by_cases h64:64 < l.length+1
  ·have h64':(64:Int) < (l.length:Int)+1:=by omega
   have hN:nameOk (c :: l) = false:=by simp [nameOk];omega
   rw [hN]
   simp [Tryz.f166,hl1,h64']
  ·have h64':¬ (64:Int) < (l.length:Int)+1:=by omega
   have hs:(c :: l).length < 1000000:=by simp;omega
   have hN:nameOk (c :: l) = (!digC c && (c :: l).all nameC):=by
    simp only [nameOk]
    rw [decide_eq_true (by simp;omega),Bool.true_and]
   rw [hN]
   by_cases hd:48≤c.toNat∧c.toNat≤57
   ·have hd1:(48:Int)≤(c.toNat:Int):=by omega
    have hd2:(c.toNat:Int)≤57:=by omega
    have hdc:digC c = true:=by simp [digC,hd.1,hd.2]
    rw [hdc]
    simp [Tryz.f166,hl1,h64',hd1,hd2]
   ·have hdc:digC c = false:=by simp [digC];omega
    rw [hdc]
    have hcond:(¬ (48:Int)≤(c.toNat:Int))∨((48:Int)≤(c.toNat:Int)∧¬ (c.toNat:Int)≤57):=by omega
    obtain ⟨r,hr⟩:∃ r,(c :: l).all nameC = r:=⟨_,rfl⟩
    rw [hr]
    obtain ⟨S,hS⟩:∃ S,S = c :: l:=⟨_,rfl⟩
    have hn:(l.length:Int)+1 = (S.length:Int):=by rw [hS];simp
    rw [← hS] at hr hs
    rcases hcond with h48 | ⟨h48,h57⟩
    ·have h48n:¬ 48≤c.toNat:=by omega
     simp [Tryz.f166,hl1,h64',h48]
     rw [hn,← hS]
     clear hS hn hN
     refine Run.loopThen (fun (k:Nat) e H'=>k≤S.length∧(S.drop k).all nameC = r∧look e 0 = some (.str S)∧look e 24 = some (.int .i64 S.length)∧look e 25 = some (.int .i64 k)∧H' = []) (fun k=>S.length - k) 0 ?_ ?_
     ·simpa using hr
     rintro k e H' ⟨hk,hR,k0,k24,k25,rfl⟩
     by_cases hlt:k < S.length
     ·have hlt':(k:Int) < (S.length:Int):=by omega
      have hw:IntKind.i64.wrap ((k:Int)+1) = ((k+1:Nat):Int):=by rw [wrap_i64] <;> omega
      have hat:S[k]? = some S[k]:=List.getElem?_eq_getElem hlt
      rw [List.drop_eq_getElem_cons hlt,List.all_cons] at hR
      generalize S[k] = x at *
      rcases nameC_cases x with ⟨hx,h1 | ⟨h1,h2⟩ | h1⟩ | ⟨hx,h1,h2,h3⟩
      ·rw [hx,Bool.true_and] at hR
       have g1:(65:Int)≤(x.toNat:Int):=by omega
       have g2:(x.toNat:Int)≤90:=by omega
       simp [k0,k24,k25,hlt',hat,hw,g1,g2]
       exact ⟨k+1,by omega,by omega,by simpa using hR,by omega⟩
      ·rw [hx,Bool.true_and] at hR
       have g1:(48:Int)≤(x.toNat:Int):=by omega
       have g2:(x.toNat:Int)≤57:=by omega
       have g3:¬ (65:Int)≤(x.toNat:Int):=by omega
       have g4:¬ 65≤x.toNat:=by omega
       simp [k0,k24,k25,hlt',hat,hw,g1,g2,g3]
       exact ⟨k+1,by omega,by omega,by simpa using hR,by omega⟩
      ·rw [hx,Bool.true_and] at hR
       have g1:(x.toNat:Int) = 95:=by omega
       simp [k0,k24,k25,hlt',hat,hw,h1]
       exact ⟨k+1,by omega,by omega,by simpa using hR,by omega⟩
      ·rw [hx,Bool.false_and] at hR
       subst hR
       have g0:¬ (x.toNat:Int) = 95:=by omega
       by_cases q1:65≤x.toNat
       ·have g1:(65:Int)≤(x.toNat:Int):=by omega
        have g2:¬ (x.toNat:Int)≤90:=by omega
        have g2':¬ x.toNat≤90:=by omega
        have g3:(48:Int)≤(x.toNat:Int):=by omega
        have g3':48≤x.toNat:=by omega
        have g4:¬ (x.toNat:Int)≤57:=by omega
        have g4':¬ x.toNat≤57:=by omega
        simp [k0,k24,k25,hlt',hat,g0,g1,g2,g3,g4]
       ·have g1:¬ (65:Int)≤(x.toNat:Int):=by omega
        by_cases q2:48≤x.toNat
        ·have g3:(48:Int)≤(x.toNat:Int):=by omega
         have g4:¬ (x.toNat:Int)≤57:=by omega
         have g4':¬ x.toNat≤57:=by omega
         simp [k0,k24,k25,hlt',hat,g0,g1,g3,g4]
        ·have g3:¬ (48:Int)≤(x.toNat:Int):=by omega
         simp [k0,k24,k25,hlt',hat,g0,g1,g3]
     ·have hlt':¬ (k:Int) < (S.length:Int):=by omega
      rw [List.drop_eq_nil_of_le (by omega)] at hR
      have:r = true:=hR.symm
      subst this
      simp [k0,k24,k25,hlt']
    ·have h48n:48≤c.toNat:=by omega
     have h57n:¬ c.toNat≤57:=by omega
     simp [Tryz.f166,hl1,h64',h48,h57]
     rw [hn,← hS]
     clear hS hn hN
     refine Run.loopThen (fun (k:Nat) e H'=>k≤S.length∧(S.drop k).all nameC = r∧look e 0 = some (.str S)∧look e 24 = some (.int .i64 S.length)∧look e 25 = some (.int .i64 k)∧H' = []) (fun k=>S.length - k) 0 ?_ ?_
     ·simpa using hr
     rintro k e H' ⟨hk,hR,k0,k24,k25,rfl⟩
     by_cases hlt:k < S.length
     ·have hlt':(k:Int) < (S.length:Int):=by omega
      have hw:IntKind.i64.wrap ((k:Int)+1) = ((k+1:Nat):Int):=by rw [wrap_i64] <;> omega
      have hat:S[k]? = some S[k]:=List.getElem?_eq_getElem hlt
      rw [List.drop_eq_getElem_cons hlt,List.all_cons] at hR
      generalize S[k] = x at *
      rcases nameC_cases x with ⟨hx,h1 | ⟨h1,h2⟩ | h1⟩ | ⟨hx,h1,h2,h3⟩
      ·rw [hx,Bool.true_and] at hR
       have g1:(65:Int)≤(x.toNat:Int):=by omega
       have g2:(x.toNat:Int)≤90:=by omega
       simp [k0,k24,k25,hlt',hat,hw,g1,g2]
       exact ⟨k+1,by omega,by omega,by simpa using hR,by omega⟩
      ·rw [hx,Bool.true_and] at hR
       have g1:(48:Int)≤(x.toNat:Int):=by omega
       have g2:(x.toNat:Int)≤57:=by omega
       have g3:¬ (65:Int)≤(x.toNat:Int):=by omega
       have g4:¬ 65≤x.toNat:=by omega
       simp [k0,k24,k25,hlt',hat,hw,g1,g2,g3]
       exact ⟨k+1,by omega,by omega,by simpa using hR,by omega⟩
      ·rw [hx,Bool.true_and] at hR
       have g1:(x.toNat:Int) = 95:=by omega
       simp [k0,k24,k25,hlt',hat,hw,h1]
       exact ⟨k+1,by omega,by omega,by simpa using hR,by omega⟩
      ·rw [hx,Bool.false_and] at hR
       subst hR
       have g0:¬ (x.toNat:Int) = 95:=by omega
       by_cases q1:65≤x.toNat
       ·have g1:(65:Int)≤(x.toNat:Int):=by omega
        have g2:¬ (x.toNat:Int)≤90:=by omega
        have g2':¬ x.toNat≤90:=by omega
        have g3:(48:Int)≤(x.toNat:Int):=by omega
        have g3':48≤x.toNat:=by omega
        have g4:¬ (x.toNat:Int)≤57:=by omega
        have g4':¬ x.toNat≤57:=by omega
        simp [k0,k24,k25,hlt',hat,g0,g1,g2,g3,g4]
       ·have g1:¬ (65:Int)≤(x.toNat:Int):=by omega
        by_cases q2:48≤x.toNat
        ·have g3:(48:Int)≤(x.toNat:Int):=by omega
         have g4:¬ (x.toNat:Int)≤57:=by omega
         have g4':¬ x.toNat≤57:=by omega
         simp [k0,k24,k25,hlt',hat,g0,g1,g3,g4]
        ·have g3:¬ (48:Int)≤(x.toNat:Int):=by omega
         simp [k0,k24,k25,hlt',hat,g0,g1,g3]
     ·have hlt':¬ (k:Int) < (S.length:Int):=by omega
      rw [List.drop_eq_nil_of_le (by omega)] at hR
      have:r = true:=hR.symm
      subst this
      simp [k0,k24,k25,hlt']
end Go.Ev.S
namespace Go.Ev.S
open Go Go.Proofs Go.Ev
theorem fright_evX [MaxL] [TxtC] (p:Pr):call cx 140 [.agg (Enc.cells p)] [] = some (.bool (prOk p),[]):=by
 have hn:=fname_evX p.name
 refine call_run Tryz.func140 rfl ⟨rfl,rfl⟩ ?_
 unfold prOk
 cases hq:nameOk p.name with
 | false =>
  rw [hq] at hn
  simp [Tryz.f140,hn,Pr.cells]
 | true =>
  rw [hq] at hn
  by_cases hv:p.value.length≤256
  ·have hv':(p.value.length:Int)≤256:=by omega
   simp [Tryz.f140,hn,Pr.cells,hv,hv']
  ·have hv':¬ (p.value.length:Int)≤256:=by omega
   simp [Tryz.f140,hn,Pr.cells,hv,hv']
theorem number_ev [MaxL] [TxtC] (v:Nat) (h:v < 18446744073709551616):call cx 97 [.int .u64 v] [] = some (.str (dec v),[]):=by
 have hf:=fu_ev v h
 refine call_run Tryz.func97 rfl ⟨rfl,rfl⟩ ?_
 simp [Tryz.f97,hf]

set_option maxHeartbeats 4000000 in
theorem wright_gap [MaxL] [TxtC] (it:It) (hg:it.gap = true):call cx 96 [.agg (Enc.cells it)] [] = some (.bool (gapOk it),[]):=by
 refine call_run Tryz.func96 rfl ⟨rfl,rfl⟩ ?_
 unfold gapOk
 have ht17:List.take 17 (ofBytes it.rc.boot.l ++ [(.vsl it.rc.fields.nil (encs it.rc.fields.l) it.rc.fields.l.length)]) = ofBytes it.rc.boot.l ++ [(.vsl it.rc.fields.nil (encs it.rc.fields.l) it.rc.fields.l.length)]:=List.take_of_length_le (by simp)

 rcases Classical.em (¬ (1≤it.fr)) with hfr | hfr
 ·simp [Tryz.f96,hg,hfr,ht17]
 replace hfr:=Classical.not_not.1 hfr
 rcases Classical.em (¬ (it.fr≤it.til)) with htil | htil
 ·simp [Tryz.f96,hg,hfr,htil,ht17]
 replace htil:=Classical.not_not.1 htil
 rcases Classical.em (¬ (it.rc.seq = 0)) with hseq | hseq
 ·simp [Tryz.f96,hg,hfr,htil,hseq,ht17]
 replace hseq:=Classical.not_not.1 hseq
 rcases Classical.em (¬ (it.rc.real = 0)) with hreal | hreal
 ·simp [Tryz.f96,hg,hfr,htil,hseq,hreal,ht17]
 replace hreal:=Classical.not_not.1 hreal
 rcases Classical.em (¬ (it.rc.mono = 0)) with hmono | hmono
 ·simp [Tryz.f96,hg,hfr,htil,hseq,hreal,hmono,ht17]
 replace hmono:=Classical.not_not.1 hmono
 have he:=cellsEq16 it.rc.boot ID.zero
 replace he:cellsEq [.i,.i,.i,.i,.i,.i,.i,.i,.i,.i,.i,.i,.i,.i,.i,.i] (ofBytes it.rc.boot.l) [.int .u8 0,.int .u8 0,.int .u8 0,.int .u8 0,.int .u8 0,.int .u8 0,.int .u8 0,.int .u8 0,.int .u8 0,.int .u8 0,.int .u8 0,.int .u8 0,.int .u8 0,.int .u8 0,.int .u8 0,.int .u8 0] = some (it.rc.boot == ID.zero):=he
 rcases Classical.em (¬ (it.rc.boot = ID.zero)) with hboot | hboot
 ·have hbe:(it.rc.boot == ID.zero) = false:=beq_eq_false_iff_ne.2 hboot
  rw [hbe] at he
  simp [Tryz.f96,hg,hfr,htil,hseq,hreal,hmono,hboot,he,ht17,List.drop_append]
 replace hboot:=Classical.not_not.1 hboot
 have hbe:(it.rc.boot == ID.zero) = true:=by rw [hboot];simp
 rw [hbe] at he
 have hbd:decide (it.rc.boot = ID.zero) = true:=decide_eq_true hboot
 clear hbe hboot
 by_cases hlen:it.rc.fields.l.length = 0
 ·have hlen':(it.rc.fields.l.length:Int) = 0:=by omega
  have hld:decide (it.rc.fields.l.length = 0) = true:=decide_eq_true hlen
  simp [-decide_eq_true_eq,Tryz.f96,hg,hfr,htil,hseq,hreal,hmono,hbd,he,hlen',ht17,List.drop_append]
  exact List.length_eq_zero_iff.1 hlen
 ·have hlen':¬ (it.rc.fields.l.length:Int) = 0:=by omega
  simp [Tryz.f96,hg,hfr,htil,hseq,hreal,hmono,hbd,hlen,he,ht17,List.drop_append]
set_option maxHeartbeats 4000000 in
theorem wright_recX [MaxL] [TxtC] (it:It) (hg:it.gap = false):call cx 96 [.agg (Enc.cells it)] [] = some (.bool (recOk it),[]):=by
 refine call_run Tryz.func96 rfl ⟨rfl,rfl⟩ ?_
 unfold recOk
 have ht17:List.take 17 (ofBytes it.rc.boot.l ++ [(.vsl it.rc.fields.nil (encs it.rc.fields.l) it.rc.fields.l.length)]) = ofBytes it.rc.boot.l ++ [(.vsl it.rc.fields.nil (encs it.rc.fields.l) it.rc.fields.l.length)]:=List.take_of_length_le (by simp)
 rcases Classical.em (¬ (it.fr = 0)) with hfr | hfr
 ·simp [Tryz.f96,hg,hfr,ht17]
 replace hfr:=Classical.not_not.1 hfr
 rcases Classical.em (¬ (it.til = 0)) with htil | htil
 ·simp [Tryz.f96,hg,hfr,htil,ht17]
 replace htil:=Classical.not_not.1 htil
 by_cases hseq:it.rc.seq = 0
 ·simp [Tryz.f96,hg,hfr,htil,hseq,ht17]
 by_cases hl1:it.rc.fields.l.length < 1
 ·have hl1':(it.rc.fields.l.length:Int) < 1:=by omega
  have hd:decide (1≤it.rc.fields.l.length) = false:=decide_eq_false (by omega)
  rw [hd]
  simp [Tryz.f96,hg,hfr,htil,hseq,hl1',ht17]
 have hl1':¬ (it.rc.fields.l.length:Int) < 1:=by omega
 have hd1:decide (1≤it.rc.fields.l.length) = true:=decide_eq_true (by omega)
 rw [hd1]
 by_cases hl2:16 < it.rc.fields.l.length
 ·have hl2':(16:Int) < (it.rc.fields.l.length:Int):=by omega
  have hd:decide (it.rc.fields.l.length≤16) = false:=decide_eq_false (by omega)
  rw [hd]
  simp [Tryz.f96,hg,hfr,htil,hseq,hl1',hl2',ht17]
 have hl2':¬ (16:Int) < (it.rc.fields.l.length:Int):=by omega
 have hd2:decide (it.rc.fields.l.length≤16) = true:=decide_eq_true (by omega)
 rw [hd2,decide_eq_true hfr,decide_eq_true htil,decide_eq_true hseq]
 simp only [Bool.true_and]
 obtain ⟨r,hr⟩:∃ r,it.rc.fields.l.all prOk = r:=⟨_,rfl⟩
 rw [hr]
 simp [Tryz.f96,hg,hfr,htil,hseq,hl1',hl2',ht17]
 generalize it.rc.fields = F at *
 refine Run.loopThen (fun (k:Nat) e H'=>k≤F.l.length∧(F.l.drop k).all prOk = r∧look e 73 = some (.vsl F.nil (encs F.l) F.l.length)∧look e 74 = some (.int .i64 F.l.length)∧look e 75 = some (.int .i64 k)∧(H' = [some (Enc.cells it),some (.int .u64 it.rc.seq :: .int .u64 it.rc.real :: .int .u64 it.rc.mono :: (ofBytes it.rc.boot.l ++ [(.vsl F.nil (encs F.l) F.l.length)]))]∨∃ p:Pr,H' = [some (Enc.cells p)])) (fun k=>F.l.length - k) 0 ?_ ?_
 ·simpa using hr
 rintro k e H' ⟨hk,hR,k73,k74,k75,hH⟩
 by_cases hlt:k < F.l.length
 ·have hlt':(k:Int) < (F.l.length:Int):=by omega
  have hw:IntKind.i64.wrap ((k:Int)+1) = ((k+1:Nat):Int):=by rw [wrap_i64] <;> omega
  rw [List.drop_eq_getElem_cons hlt,List.all_cons] at hR
  have hf:=fright_evX F.l[k]
  have hnn:=Sl.nn hlt
  cases hp:prOk F.l[k] with
  | true =>
   rw [hp] at hf
   rw [hp,Bool.true_and] at hR
   rcases hH with rfl | ⟨p,rfl⟩
   ·simp [k73,k74,k75,hlt,hlt',hw,hnn,hf]
    exact ⟨k+1,by omega,by omega,by simpa using hR,by omega,_,rfl⟩
   ·simp [k73,k74,k75,hlt,hlt',hw,hnn,hf]
    exact ⟨k+1,by omega,by omega,by simpa using hR,by omega,_,rfl⟩
  | false =>
   rw [hp] at hf
   rw [hp,Bool.false_and] at hR
   subst hR
   rcases hH with rfl | ⟨p,rfl⟩
   ·simp [k73,k74,k75,hlt,hlt',hnn,hf]
   ·simp [k73,k74,k75,hlt,hlt',hnn,hf]
 ·have hlt':¬ (k:Int) < (F.l.length:Int):=by omega
  rw [List.drop_eq_nil_of_le (by omega)] at hR
  have:r = true:=hR.symm
  subst this
  rcases hH with rfl | ⟨p,rfl⟩
  ·simp [k73,k74,k75,hlt']
  ·simp [k73,k74,k75,hlt']

theorem wright_evX [MaxL] [TxtC] (it:It):call cx 96 [.agg (Enc.cells it)] [] = some (.bool (itOk it),[]):=by
 unfold itOk
 cases hg:it.gap with
 | true=>rw [if_pos rfl];exact wright_gap it hg
 | false=>rw [if_neg (by decide)];exact wright_recX it hg
theorem wright_ev [MaxL] [TxtC] (it:It) (_:∀ p∈it.rc.fields.l,PrB p) (_:it.rc.fields.l.length < 1000000):call cx 96 [.agg (Enc.cells it)] [] = some (.bool (itOk it),[]):=wright_evX it
end Go.Ev.S
namespace Go.Ev.S
open Go Go.Proofs Go.Ev
theorem bytesclone_ev [MaxL] [TxtC] (s:Sl UInt8) (hn:s.l.length≤140737488355328) :
  call cx 85 [(.vsl s.nil (ofBytes s.l) s.l.length)] [] = if s.nil then some (.vsl true [] 0,[]) else some (.osl 0 s.l.length 0 s.l.length 1,[some (ofBytes s.l)]):=by
 obtain ⟨nil,l,hnil⟩:=s
 simp only at hn ⊢
 cases nil with
 | true =>
  have hl0:=hnil rfl
  subst hl0
  rw [if_pos rfl]
  refine call_run Tryz.func85 rfl ⟨rfl,rfl⟩ ?_
  simp [Tryz.f85]
 | false =>
  rw [if_neg (by decide)]
  refine call_run Tryz.func85 rfl ⟨rfl,rfl⟩ ?_
  simp [Tryz.f85,maxBytes,hn]
theorem leB_val (v:Nat) {i:Nat} (hi:i≤7):IntKind.u8.wrap ((v:Int).fdiv (2 ^ min (8 * i) 64)) = ((UInt8.ofNat (v / 256 ^ i % 256)).toNat:Int):=by
 have e1:min (8 * i) 64 = 8 * i:=by omega
 have e2:((2:Int) ^ (8 * i)) = ((256 ^ i:Nat):Int):=by rw [Int.pow_mul];simp
 have e3:(v:Int).fdiv ((256 ^ i:Nat):Int) = ((v / 256 ^ i:Nat):Int):=by
  rw [Int.fdiv_eq_ediv_of_nonneg _ (Int.natCast_nonneg _)]
  exact (Int.natCast_ediv v (256 ^ i)).symm
 rw [e1,e2,e3,UInt8.toNat_ofNat_of_lt' (Nat.mod_lt _ (by decide))]
 simp only [IntKind.wrap,IntKind.signed,IntKind.bits]
 simp
def Buf (d:D) (H:Heap) (l:List UInt8):Prop:=(d = .vsl true [] 0∧l = []∧H = [])∨(d = .osl 0 l.length 0 l.length 1∧H = [some (ofBytes l)])
def leAdd (l:List UInt8) (n:Int) (v:Nat):List UInt8:=if szOk n then l ++ leB n.toNat v else l
theorem buf_pack {d:D} {H:Heap} {l:List UInt8} (h:Buf d H l):pack 0 H d = some (d,H):=by
 rcases h with ⟨rfl,rfl,rfl⟩ | ⟨rfl,rfl⟩ <;> simp
set_option maxHeartbeats 1000000 in
theorem leadd_ev [MaxL] [TxtC] (s:Sl UInt8) (n:Int) (v:Nat) (hn:s.l.length≤140737488355000) :
  ∃ d H,Buf d H (leAdd s.l n v)∧call cx 63 [(.vsl s.nil (ofBytes s.l) s.l.length),.int .i64 n,.int .u64 v] [] = some (d,H):=by
 have hc:=bytesclone_ev s (by omega)
 have hs:=lesize_ev n
 have hcl:∃ d H,Buf d H s.l∧call cx 85 [(.vsl s.nil (ofBytes s.l) s.l.length)] [] = some (d,H)∧shift 0 d = d:=by
  cases hnil:s.nil with
  | true =>
   rw [hnil,if_pos rfl] at hc
   exact ⟨_,_,.inl ⟨rfl,s.h hnil,rfl⟩,hc,rfl⟩
  | false =>
   rw [hnil,if_neg (by decide)] at hc
   exact ⟨_,_,.inr ⟨rfl,rfl⟩,hc,rfl⟩
 obtain ⟨d0,H0,hb0,hc0,hsh⟩:=hcl
 cases hz:szOk n with
 | false =>
  rw [hz] at hs
  have hla:leAdd s.l n v = s.l:=by simp [leAdd,hz]
  rw [hla]
  refine ⟨d0,H0,hb0,?_⟩
  refine call_run Tryz.func63 rfl ⟨rfl,rfl⟩ ?_
  simp [Tryz.f63,hc0,hs,hsh,buf_pack hb0,-pack]
 | true =>
  have hb:=szOk_le hz
  rw [hz] at hs
  obtain ⟨k,rfl⟩:∃ k:Nat,n = k:=⟨n.toNat,by omega⟩
  have hla:leAdd s.l k v = s.l ++ leB k v:=by simp [leAdd,hz]
  have hR:∃ d H,Buf d H (leAdd s.l k v):=⟨_,_,.inr ⟨rfl,rfl⟩⟩
  refine ⟨.osl 0 (leAdd s.l k v).length 0 (leAdd s.l k v).length 1,[some (ofBytes (leAdd s.l k v))],.inr ⟨rfl,rfl⟩,?_⟩
  refine call_run Tryz.func63 rfl ⟨rfl,rfl⟩ ?_
  simp [Tryz.f63,hc0,hs,hsh,-pack]
  refine Run.loopThen (fun (i:Nat) e H=>i≤k∧(∃ d,look e 7 = some d∧Buf d H (s.l ++ leB i v))∧look e 2 = some (.int .u64 v)∧look e 15 = some (.int .i64 k)∧look e 16 = some (.int .i64 i)) (fun i=>k - i) 0 (by simp [leB,hb0]) ?_
  rintro i e H ⟨hi,⟨d,h7,hbuf⟩,h2,h15,h16⟩
  by_cases hlt:i < k
  ·have hlt':(i:Int) < (k:Int):=by omega
   have hw:IntKind.i64.wrap ((i:Int)+1) = ((i+1:Nat):Int):=by rw [wrap_i64] <;> omega
   have hw8:IntKind.i64.wrap (8 * (i:Int)) = 8 * (i:Int):=by rw [wrap_i64];omega
   have hng:¬ (8 * (i:Int) < 0):=by omega
   have htn:(8 * (i:Int)).toNat = 8 * i:=by omega
   have hv:=leB_val v (i:=i) (by omega)
   have hl:(s.l ++ leB i v).length≤140737488355100:=by simp;omega
   have hsn:s.l ++ leB (i+1) v = (s.l ++ leB i v) ++ [UInt8.ofNat (v / 256 ^ i % 256)]:=by rw [leB_snoc,List.append_assoc]
   generalize s.l ++ leB i v = l at *
   generalize UInt8.ofNat (v / 256 ^ i % 256) = c at *
   have hmx:l.length+1≤140737488355328:=by omega
   rcases hbuf with ⟨rfl,rfl,rfl⟩ | ⟨rfl,rfl⟩
   ·simp [h7,h2,h15,h16,hlt',hw,hw8,hng,htn,IntKind.bits,hv,maxBytes]
    exact ⟨i+1,by omega,by omega,.inr (by simp [hsn,ofBytes]),rfl⟩
   ·simp [h7,h2,h15,h16,hlt',hw,hw8,hng,htn,IntKind.bits,hv,maxBytes,hmx]
    exact ⟨i+1,by omega,by omega,.inr (by simp [hsn,ofBytes]),rfl⟩
  ·have hlt':¬ (i:Int) < (k:Int):=by omega
   have hik:i = k:=by omega
   subst hik
   rw [← hla] at hbuf
   have hlen:1≤(leAdd s.l i v).length:=by rw [hla];simp;omega
   rcases hbuf with ⟨rfl,hnil,rfl⟩ | ⟨rfl,rfl⟩
   ·rw [hnil] at hlen;simp at hlen
   ·simp [h7,h2,h15,h16,hlt']
end Go.Ev.S
namespace Go.Ev.S
open Go Go.Proofs Go.Ev
set_option maxHeartbeats 2000000 in
theorem pair_ev [MaxL] [TxtC] (p:Pr) (hb:PrB p):call cx 102 [.agg (Enc.cells p)] [] = some (.str (pairL p),[]):=by
 obtain ⟨h1,h2⟩:=hb
 have hp:=plain_ev p.value h2
 refine call_run Tryz.func102 rfl ⟨rfl,rfl⟩ ?_
 unfold pairL
 cases hv:plainV p.value with
 | true =>
  rw [hv] at hp
  have x1:p.name.length+1≤4611686018427387904:=by omega
  have x2:p.name.length+1+p.value.length≤4611686018427387904:=by omega
  have x3:p.name.length+(p.value.length+1)≤4611686018427387904:=by omega
  have x4:p.name.length+(p.value.length+1)+1≤4611686018427387904:=by omega
  have x5:p.name.length+(p.value.length+1+1)≤4611686018427387904:=by omega
  simp [Tryz.f102,hp,Pr.cells,x1,x2,x4]
 | false =>
  rw [hv] at hp
  obtain ⟨d,H,hB,hc⟩:=leadd_ev (Sl.none (α:=UInt8)) 8 p.value.length (by show (0:Nat)≤_;omega)
  have hla:leAdd (Sl.none (α:=UInt8)).l 8 p.value.length = leB 8 p.value.length:=rfl
  rw [hla] at hB
  have hl8:(leB 8 p.value.length).length = 8:=by simp
  generalize leB 8 p.value.length = L at *
  replace hc:call cx 63 [.vsl true [] 0,.int .i64 8,.int .u64 (p.value.length:Nat)] [] = some (d,H):=hc
  rcases hB with ⟨_,rfl,_⟩ | ⟨rfl,rfl⟩
  ·simp at hl8
  have hw:IntKind.u64.wrap (p.value.length:Int) = (p.value.length:Int):=by rw [wrap_u64] <;> omega
  have x1:p.name.length+1≤4611686018427387904:=by omega
  have x2:p.name.length+1+8≤4611686018427387904:=by omega
  have x3:p.name.length+(8+1)≤4611686018427387904:=by omega
  have x4:p.name.length+(8+1)+p.value.length≤4611686018427387904:=by omega
  have x5:p.name.length+(8+1+p.value.length)≤4611686018427387904:=by omega
  have x6:p.name.length+(p.value.length+(8+1))≤4611686018427387904:=by omega
  have x7:p.name.length+(8+p.value.length+1)≤4611686018427387903:=by omega
  simp [Tryz.f102,hp,Pr.cells,hc,hw,hl8,x1,x2,x4,x7]
end Go.Ev.S
namespace Go.Ev
open Go Go.Proofs Go.RowKit
section
variable {X:Cx} {ok:Nat→Prop} {w w':World} {ι:Iota} {H H':Heap}
theorem cell_same {a:Addr} {j:Nat} {v:Value} (hk:w'.heap[a.block]? = w.heap[a.block]?) (h:w.cell? (a.add j) = some v):w'.cell? (a.add j) = some v:=by
 rw [World.cell?_of_block (w:=w)]
 ·exact h
 ·rw [add_block]
  exact hk
theorem Rep.same {d:D} {v:Value} (h:Rep ok w ι H d v) (hk:∀ b,ok b→w'.heap[b]? = w.heap[b]?):Rep ok w' ι H d v:=by
 induction h with
 | bool b=>exact .bool b
 | int k n=>exact .int k n
 | str s=>exact .str s
 | nilp=>exact .nilp
 | nilf=>exact .nilf
 | nili=>exact .nili
 | raw v=>exact .raw v
 | agg hl hc h ih=>exact .agg hl hc fun j d hj=>ih j d hj
 | tup hl h ih=>exact .tup hl fun j d hj=>ih j d hj
 | vptr a f ha hc hr h ih=>exact .vptr a f ha hc (fun j d hj=>cell_same (hk _ (ha d (mem_of_get? hj))) (hr j d hj)) fun j d hj=>ih j d hj
 | optr a hi h=>exact .optr a hi h
 | vnil=>exact .vnil
 | vsl a f ha hc hr h hlc ih=>exact .vsl a f ha hc (fun j d hj=>cell_same (hk _ (ha d (mem_of_get? hj))) (hr j d hj)) (fun j d hj=>ih j d hj) hlc
 | osl a hi h hlc=>exact .osl a hi h hlc
 | fn hl h ih=>exact .fn hl fun j d hj=>ih j d hj
 | iface h ih=>exact .iface ih
theorem sim_same (hs:Sim X ok w ι H) (hsz:w.heap.size≤w'.heap.size) (hk:∀ b,ok b→w'.heap[b]? = w.heap[b]?) (hn:∀ i ds b s,hget H i = some ds→ι i = some (b,s)→w'.heap[b]? = w.heap[b]?):Sim X ok w' ι H:=by
 refine ⟨fun b h=>Nat.lt_of_lt_of_le (hs.okS b h) hsz,fun g cs hg=>(hs.glob g cs hg).same hk,hs.inj,fun i ds hd=>?_⟩
 obtain ⟨b,arr,e,fr,q1,q2,q3,q4,q5,q6,q7,q8⟩:=hs.blk i ds hd
 exact ⟨b,arr,e,fr,q1,q2,by rw [hn i ds b _ hd q1];exact q3,q4,q5,q6,q7,fun j d hj=>(q8 j d hj).same hk⟩
theorem env_same {e:Env} {ts:Array Value} (he:EnvRep ok w ι H e ts) (hk:∀ b,ok b→w'.heap[b]? = w.heap[b]?):EnvRep ok w' ι H e ts:=fun t d ht=>⟨(he t d ht).1,(he t d ht).2.same hk⟩
theorem evOps_app {F:CallF} (hF:SoundF X F) {nt:Nat} {drw:Bool} {ops:Array Oper} {Q:Exit→Act→World→Prop} {r:List Oper}:∀ {l:List Oper} {e e':Env} {H H':Heap} {ok:Nat→Prop} {w:World} {ι:Iota} {a:Act},evOps X F nt drw ops l e H = some (e',H') →
  Sim X ok w ι H→EnvRep ok w ι H e a.tmps→nt≤a.tmps.size→(∀ a' w',Out X H.length ok w ι H a e' H' a' w'→wpList X.P ops Q r a' w')→wpList X.P ops Q (l ++ r) a w
 | [],e,e',H,H',ok,w,ι,a,h,hs,he,hn,hQ=>by
  simp only [evOps,Option.some.injEq,Prod.mk.injEq] at h
  obtain ⟨rfl,rfl⟩:=h
  exact hQ a w ⟨rfl,rfl,ι,ok,hs,he,.refl _ (Nat.le_refl _)⟩
 | o :: l,e,e',H,H',ok,w,ι,a,h,hs,he,hn,hQ=>by
  simp only [evOps] at h
  split at h
  ·rename_i hdst hg
   split at h
   ·rename_i d H1 ho
    have hw:=wanted_of_guard he hg
    simp only [List.cons_append,wpList,hw,if_true]
    refine .inl ?_
    unfold Oper.wp
    refine Goes.upon ((opW_goes hF hs he ho).mono fun v w1 hp=>?_)
    obtain ⟨ι1,ok1,k1,k2,k3⟩:=hp
    obtain ⟨s1,s2⟩:=put_size a o.dst v
    refine evOps_app hF h k1 (put_env (he.evol' hs k3) k2 hn hdst) (by omega) fun a2 w2 hout=>hQ a2 w2 ?_
    obtain ⟨t1,t2,ι2,ok2,u1,u2,u3⟩:=hout
    exact ⟨by omega,by rw [t2,s2],ι2,ok2,u1,u2,k3.trans (u3.mono k3.nle.2)⟩
   ·cases h
  ·rename_i hdst hg
   have hw:=wanted_of_guard he hg
   simp only [List.cons_append,wpList,hw,Bool.false_eq_true,if_false]
   obtain ⟨s1,s2⟩:=put_size a o.dst undef
   refine evOps_app hF h hs (put_env he undef_rep hn hdst) (by omega) fun a2 w2 hout=>hQ a2 w2 ?_
   obtain ⟨t1,t2,rest⟩:=hout
   exact ⟨by omega,by rw [t2,s2],rest⟩
  ·cases h
theorem wp_callOp {P:Program} {ops:Array Oper} {Q:Exit→Act→World→Prop} {r:List Oper} {o:Oper} {c:Call} {f:Nat} {a:Act} (hg:o.guard = none) (ho:o.op = .call c) (hc:c.callee = .value (.func f))
  (h:Goes P (callFunc f (c.args.toList.map a.eval).toArray) w fun v w1=>wpList P ops Q r (a.put o.dst v) w1):wpList P ops Q (o :: r) a w:=by
 have hw:Region.wanted o (yielded ops a.tmps) = true:=by unfold Region.wanted;rw [hg]
 simp only [wpList,hw,if_true]
 refine .inl ?_
 unfold Oper.wp
 have e:execOp a.eval o = callFunc f (c.args.toList.map a.eval).toArray:=by
  simp only [execOp,ho,resolve,hc,Act.eval,Deferred.ofValue]
  simp only [pure_bind,invoke]
  congr 1
  apply Array.ext'
  simp
 rw [e]
 exact Goes.upon h
theorem code_sound (hG:Good X) {f nt n0:Nat} {c:Code} {e e':Env} {ex:Ex} {a:Act} (h:code X f nt n0 c e H = some (ex,e',H')) (hok:okCode X f c = true) (hn:n0≤H.length) (hs:Sim X ok w ι H) (he:EnvRep ok w ι H e a.tmps) (ht:nt≤a.tmps.size) :
  c.wp X.P (CQ X n0 ok w ι H a ex e' H') a w:=by
 obtain ⟨n,hn'⟩:=code_some.1 h
 exact (sound hG n).2 f nt n0 c e e' H H' ex ok w ι a hn' hok hn hs he ht
end
end Go.Ev
namespace Go.Ev
open Go Go.Proofs Go.RowKit Go.Shelf
section
variable {P:Program} {ρ:Ren}
def FreshAt (w:World) (v v':Value):Prop:= ∀ k,v'.ownBlock = some k→v.ownBlock = some k∨w.heap.size≤k
theorem append_fresh (w:World) (base:Nat) (t u ty e:TypeId) (i:TypeInfo) (ht:P.underlying t = some (.slice e)) (hu:P.underlying u = some .string) (hi:P.info? e = some i) (hz:i.zero = some (.int .u8 0))
  (hsize:i.size = 1) (hby:i.bytes = 1) (v:Value) (n:Nat) (xs:List Value) (hown:w.ownsRowF base e 1 v n xs) (s:ByteArray)
  (h63:n+s.size≤maxLen) (hbytes:n+s.size≤140737488355328) (hbase:base≤w.heap.size) :
  ∃ v' w',(Builtin.append_ #[t,u] ty #[v,.string s]).run P w = .ok v' w'∧w'.ownsRowF base e 1 v' (n+s.size) (xs ++ Lib.strCells s)∧w.grownBy w' v.ownBlock∧FreshAt w v v':=by
 obtain ⟨v',w',h1,h2,h3,-⟩:=Lib.run_append_own_stringF (P:=P) w base t u ty e i ht hu hi hz hsize hby v n xs hown s h63 hbytes hbase
 refine ⟨v',w',h1,h2,h3,?_⟩
 rcases hown.2 with ⟨rfl,rfl⟩ | ⟨g,cap,cur,fz,rfl,hbg,hg,hfz,hnc,hcm,hcs,htake⟩
 ·obtain ⟨v1,w1,q1,q2,-,-⟩:=Lib.run_append_own_stringF (P:=P) w w.heap.size t u ty e i ht hu hi hz hsize hby (.slice none 0 0) 0 xs ⟨hown.1,.inl ⟨rfl,rfl⟩⟩ s h63 hbytes (Nat.le_refl _)
  rw [h1] at q1
  injection q1 with e1 e2
  subst e1;subst e2
  intro k hk
  rcases q2.2 with ⟨rfl,_⟩ | ⟨g,cap,cur,fz,rfl,hbg,_⟩
  ·simp [Value.ownBlock] at hk
  ·simp only [Value.ownBlock,Option.some.injEq] at hk
   exact .inr (by omega)
 ·have hxl:xs.length = n:=by simpa using hown.1
  by_cases hroom:n+s.size≤cap
  ·have hcs':cur.size = cap:=by simpa using hcs
   have hr:=Lib.run_append_room_stringF (P:=P) w t u ty e i ht hu hi hsize g n cap cur fz hg (by simpa using hfz) s hroom (by omega)
   rw [h1] at hr
   injection hr with e1 e2
   subst e1
   intro k hk
   exact .inl hk
  ·have holds:∀ j u,xs[j]? = some u→w.cell? ((⟨g,0,none⟩:Addr).add j) = some u:=hown.cells (g:=g) rfl
   have hr:=Lib.run_append_grow_string (P:=P) w t u ty e i (.int .u8 0) ht hu hi hz ⟨g,0,none⟩ n cap xs (by rw [hsize];simpa using hxl) holds s (by omega) (by simp only [maxLen] at h63;omega) (by rw [hby];exact growslice_fits (by omega) (by omega))
   rw [h1] at hr
   injection hr with e1 e2
   subst e1
   intro k hk
   simp only [Value.ownBlock,Option.some.injEq] at hk
   exact .inr (by omega)
theorem wpList_append_x {ops:Array Oper} {rest:List Oper} {o:Oper} {a:Act} {Q:Exit→Act→World→Prop} {w:World} (hgd:o.guard = none) (sl x:Operand) (t u:TypeId)
  (ho:o.op = .call { callee:=.builtin .append,args:= #[sl,x],argTypes:= #[t,u] })
  (base:Nat) (e:TypeId) (i:TypeInfo) (ht:P.underlying t = some (.slice e)) (hu:P.underlying u = some .string) (hi:P.info? e = some i) (hz:i.zero = some (.int .u8 0))
  (hsize:i.size = 1) (hby:i.bytes = 1)
  (v:Value) (n:Nat) (xs:List Value) (hs:a.eval sl = v) (hown:w.ownsRowF base e 1 v n xs) (s:ByteArray) (hx:a.eval x = .string s)
  (h63:n+s.size≤maxLen) (hbytes:n+s.size≤140737488355328) (hbase:base≤w.heap.size)
  (h:∀ v' w',w'.ownsRowF base e 1 v' (n+s.size) (xs ++ Lib.strCells s)→w.grownBy w' v.ownBlock→FreshAt w v v'→wpList P ops Q rest (a.put o.dst v') w'):wpList P ops Q (o :: rest) a w:=by
 refine wpList_plain hgd fun K hK=>?_
 obtain ⟨v',w',hr,h2,h3,h4⟩:=append_fresh (P:=P) w base t u o.type e i ht hu hi hz hsize hby v n xs hown s h63 hbytes hbase
 unfold Oper.wp execOp
 simp only [ho,resolve,invoke,builtin,Sem.run_bind,Sem.run_pure,Result.andThen_ok,List.map_toArray,List.map_cons,List.map_nil,hs,hx,hr]
 exact hK _ _ (h v' w' h2 h3 h4)
theorem copyCheck_x (L:Lays.n240 P ρ) (X:Builder.X72 P ρ) (B b:Nat) (bs:List Value) (w:World) (h:Lib.IsBuilderF (ρ.t 72) (ρ.t 5) B b bs w) :
  Calls P (ρ.f 240) #[.pointer (some ⟨b,0,none⟩)] w fun e w'=>e = .returned (.tuple #[])∧(Lib.BuilderAtF (ρ.t 72) (ρ.t 5) B b (.pointer (some ⟨b,0,none⟩)) bs w'∧Below B w w'∧w'.heap.size = w.heap.size∧(∀ k,k≠b→w'.heap[k]? = w.heap[k]?)∧w'.cell? ⟨b,1,none⟩ = w.cell? ⟨b,1,none⟩):=by
 rcases h with h | h
 ·refine (Any.Builder_copyCheck_fresh L X b w h.cell0 h.shape h.frozen0).mono ?_
  rintro e w' ⟨rfl,rfl⟩
  refine ⟨rfl,h.used _,(Below.refl B w).setCell (p:=⟨b,0,none⟩) h.1 _,by simp [World.setCell],fun k hk=>Below.heap_setCell _ _ _ _ (fun e=>hk e),?_⟩
  obtain ⟨_,v,hb,_⟩:=h
  simp [World.cell?,World.setCell,Array.getElem?_modify,hb]
 ·refine (Any.Builder_copyCheck_used L X b w h.cell0).mono ?_
  rintro e w' ⟨rfl,rfl⟩
  exact ⟨rfl,h,Below.refl B _,rfl,fun _ _=>rfl,rfl⟩
set_option maxHeartbeats 2000000 in
set_option maxRecDepth 100000 in
theorem writeString_x (L:Lays.n166 P ρ) (X:Builder.Extra P ρ) (B b:Nat) (bs:List Value) (s:ByteArray) (w:World) (h:Lib.IsBuilderF (ρ.t 72) (ρ.t 5) B b bs w) (hlen:bs.length+s.size≤140737488355328) (hBw:B≤w.heap.size) :
  Calls P (ρ.f 166) #[.pointer (some ⟨b,0,none⟩),.string s] w fun e w'=>e = .returned (.tuple #[.int .i64 s.size,.nilIface])∧(Lib.BuilderAtF (ρ.t 72) (ρ.t 5) B b (.pointer (some ⟨b,0,none⟩)) (bs ++ Lib.strCells s) w'∧Below B w w' ∧
   (∀ k,k < w.heap.size→k≠b→(∀ v,w.cell? ⟨b,1,none⟩ = some v→v.ownBlock≠some k)→w'.heap[k]? = w.heap[k]?) ∧
   ∀ v v',w.cell? ⟨b,1,none⟩ = some v→w'.cell? ⟨b,1,none⟩ = some v'→FreshAt w v v'):=by
 obtain ⟨i0,hi,hz0,hz1,hz2⟩:=info_parts X.infoByte
 have mixed:=L.mixed
 have t72:=L.t72;have a72:=L.a72;have z72:=L.z72;have v72:=L.v72;have u72:=run_underlying L.t72
 have t70:=L.t70;have a70:=L.a70;have z70:=L.z70;have v70:=L.v70;have u70:=run_underlying L.t70
 have t37:=L.t37;have a37:=L.a37;have z37:=L.z37;have v37:=L.v37;have u37:=run_underlying L.t37
 have t3:=L.t3;have a3:=L.a3;have z3:=L.z3;have v3:=L.v3;have u3:=run_underlying L.t3
 have t9:=L.t9;have a9:=L.a9;have z9:=L.z9;have v9:=L.v9;have u9:=run_underlying L.t9
 have t4:=L.t4;have a4:=L.a4;have z4:=L.z4;have v4:=L.v4;have u4:=run_underlying L.t4
 have t164:=L.t164;have a164:=L.a164;have z164:=L.z164;have v164:=L.v164;have u164:=run_underlying L.t164
 have t5:=X.t5;have a5:=X.a5;have z5:=X.z5;have v5:=X.v5;have u5:=run_underlying X.t5
 have e240:∀ args w,(callFunc (ρ.f 240) args).run P w = .ok (.enter (ρ.f 240) args) w:=enters_of L.f240 (by kernel_rfl) rfl
 go_enter L.f166,Body.n166_ntmps ρ
 go_wp2_with (go_at_fn (ρ.f 240);refine (copyCheck_x { L with } X.toX72 B b bs _ h).mono ?_)
 rintro e w1 ⟨rfl,h1,hb1,hz1',hk1,hc1⟩
 obtain ⟨hB,v,hbk,hown,hne⟩:=h1
 have c0:w1.cell? ⟨b,0,none⟩ = some (.pointer (some ⟨b,0,none⟩)):=by rw [Lib.cell_of_heap hbk];rfl
 have c1:w1.cell? ⟨b,1,none⟩ = some v:=by rw [Lib.cell_of_heap hbk];rfl
 have c1':=hc1.symm.trans c1
 clear hc1
 go_wp2_with (at_builtin;refine wpList_append_x rfl _ _ (ρ.t 37) (ρ.t 9) rfl B (ρ.t 5) i0 L.t37 L.t9 hi hz0 hz1 hz2 _ _ _ rfl hown s rfl ?c3 ?c4 ?c5 ?_)
 case c3=>unfold maxLen;omega
 case c4=>omega
 case c5=>have:=hb1.size;omega
 intro v' w2 hown' hgrow hfresh
 have hlt:b < w1.heap.size:=by
  rcases Nat.lt_or_ge b w1.heap.size with h' | h'
  ·exact h'
  ·simp [Array.getElem?_eq_none h'] at hbk
 have hb2:w2.heap[b]? = some (.cells #[.pointer (some ⟨b,0,none⟩),v] (ρ.t 72) (0,0)):=by
  rw [hgrow.block b hlt (fun e=>hne e.symm)]
  exact hbk
 have d0:w2.cell? ⟨b,0,none⟩ = some (.pointer (some ⟨b,0,none⟩)):=by rw [Lib.cell_of_heap hb2];rfl
 have d1:w2.cell? ⟨b,1,none⟩ = some v:=by rw [Lib.cell_of_heap hb2];rfl
 have f1:w2.frozen? ⟨b,1,none⟩ = false:=Lib.frozen_of_heap hb2 1
 obtain ⟨ao,n',cap,rfl⟩:∃ ao n' cap,v' = .slice ao n' cap:=by
  rcases hown'.2 with ⟨hv,_⟩ | ⟨g,cap,cur,fz,hv,_⟩
  ·exact ⟨_,_,_,hv⟩
  ·exact ⟨_,_,_,hv⟩
 go_wp2
 go_ret2
 refine ⟨rfl,?_,?_,?_,?_⟩
 ·exact Lib.BuilderAtF.put (T:=(ρ.t 72)) (e:=(ρ.t 5)) hB hb2 (bs':=bs ++ Lib.strCells s) (by simpa [Lib.strCells_length] using hown') X.neB5
 ·exact (hb1.grown hgrow (by have:=hb1.size;omega) (fun k hk=>(hown.lt k hk).1)).setCell (p:=⟨b,1,none⟩) hB _
 ·intro k hk hkb hkv
  rw [Below.heap_setCell _ _ _ _ (fun e=>hkb e),hgrow.block k (by omega) (fun e=>hkv v c1' e.symm),hk1 k hkb]
 ·intro v0 v1 h0 h1 k hk
  have e0:v0 = v:=Option.some.inj (h0.symm.trans c1')
  subst e0
  have e1:(w2.setCell ⟨b,1,none⟩ (.slice ao n' cap)).cell? ⟨b,1,none⟩ = some (.slice ao n' cap):=by
   simp [World.cell?,World.setCell,Array.getElem?_modify,hb2]
  have e2:v1 = .slice ao n' cap:=Option.some.inj (h1.symm.trans e1)
  subst e2
  have:=hfresh k hk
  rw [hz1'] at this
  exact this
end
end Go.Ev
namespace Go.Ev
open Go Go.Proofs Go.RowKit Go.Shelf
def Cov (w:World) (b k:Nat):Prop:=k = b∨∃ v,w.cell? ⟨b,1,none⟩ = some v∧v.ownBlock = some k
section
variable {T e:TypeId} {B b:Nat} {bs:List Value} {w w':World}
theorem bld_open (h:Lib.IsBuilderF T e B b bs w):∃ p v,w.heap[b]? = some (.cells #[p,v] T (0,0))∧w.ownsRowF B e 1 v bs.length bs∧v.ownBlock≠some b∧w.cell? ⟨b,1,none⟩ = some v∧B≤b:=by
 rcases h with ⟨hB,v,hb,hown,hne⟩ | ⟨hB,v,hb,hown,hne⟩
 ·exact ⟨_,v,hb,hown,hne,by rw [Lib.cell_of_heap hb];rfl,hB⟩
 ·exact ⟨_,v,hb,hown,hne,by rw [Lib.cell_of_heap hb];rfl,hB⟩
theorem lt_of_heap {k:Nat} {o:Obj} (h:w.heap[k]? = some o):k < w.heap.size:=by
 rcases Nat.lt_or_ge k w.heap.size with h' | h'
 ·exact h'
 ·rw [Array.getElem?_eq_none h'] at h;cases h
theorem cov_lt (h:Lib.IsBuilderF T e B b bs w) {k:Nat} (hk:Cov w b k):k < w.heap.size∧B≤k:=by
 obtain ⟨p,v,h1,h2,h3,h4,h5⟩:=bld_open h
 rcases hk with rfl | ⟨v',hv,hk⟩
 ·exact ⟨lt_of_heap h1,h5⟩
 ·obtain rfl:=Option.some.inj (hv.symm.trans h4)
  rcases h2.2 with ⟨rfl,_⟩ | ⟨g,cap,cur,fz,rfl,hbg,hg,_⟩
  ·simp [Value.ownBlock] at hk
  ·simp only [Value.ownBlock,Option.some.injEq] at hk
   subst hk
   exact ⟨lt_of_heap hg,hbg⟩
theorem owns_same {v:Value} {n:Nat} {xs:List Value} (h:w.ownsRowF B e 1 v n xs) (hk:∀ k,v.ownBlock = some k→w'.heap[k]? = w.heap[k]?):w'.ownsRowF B e 1 v n xs:=by
 refine ⟨h.1,?_⟩
 rcases h.2 with h | ⟨g,cap,cur,fz,rfl,hbg,hg,rest⟩
 ·exact .inl h
 ·exact .inr ⟨g,cap,cur,fz,rfl,hbg,by rw [hk g rfl];exact hg,rest⟩
theorem bld_same (h:Lib.IsBuilderF T e B b bs w) (hk:∀ k,Cov w b k→w'.heap[k]? = w.heap[k]?):Lib.IsBuilderF T e B b bs w'∧w'.cell? ⟨b,1,none⟩ = w.cell? ⟨b,1,none⟩:=by
 have hb:=hk b (.inl rfl)
 have hc:w'.cell? ⟨b,1,none⟩ = w.cell? ⟨b,1,none⟩:=World.cell?_of_block hb
 refine ⟨?_,hc⟩
 have hrow:∀ v,w.cell? ⟨b,1,none⟩ = some v→∀ k,v.ownBlock = some k→w'.heap[k]? = w.heap[k]?:=fun v hv k hvk=>hk k (.inr ⟨v,hv,hvk⟩)
 rcases h with ⟨hB,v,h1,hown,hne⟩ | ⟨hB,v,h1,hown,hne⟩
 ·exact .inl ⟨hB,v,by rw [hb];exact h1,owns_same hown (hrow v (by rw [Lib.cell_of_heap h1];rfl)),hne⟩
 ·exact .inr ⟨hB,v,by rw [hb];exact h1,owns_same hown (hrow v (by rw [Lib.cell_of_heap h1];rfl)),hne⟩
end
structure HSt (X:Cx) (ok0:Nat→Prop) (w0:World) (T e:TypeId) (b:Nat) (l:List UInt8) (ev:Env) (H:Heap) (a:Act) (w:World):Prop where
 st:∃ ok ι,Sim X ok w ι H∧EnvRep ok w ι H ev a.tmps∧Evol 0 ok0 w0 iota0 [] ok w ι H∧∀ k,Cov w b k→¬ ok k∧∀ i ds s,hget H i = some ds→ι i≠some (k,s)
 lo:w0.heap.size≤b
 bl:Lib.IsBuilderF T e b b (Lib.byteCells l) w
section
variable {X:Cx} {ok0:Nat→Prop} {w0:World} {T e:TypeId} {b:Nat} {l:List UInt8} {ev ev':Env} {H H':Heap} {a:Act} {w:World}
theorem hst_out {ok:Nat→Prop} {ι:Iota} (_:Sim X ok w ι H) (hev:Evol 0 ok0 w0 iota0 [] ok w ι H) (hap:∀ k,Cov w b k→¬ ok k∧∀ i ds s,hget H i = some ds→ι i≠some (k,s))
  (hlo:w0.heap.size≤b) (hbl:Lib.IsBuilderF T e b b (Lib.byteCells l) w) {n:Nat} {a':Act} {w':World} (ho:Out X n ok w ι H a ev' H' a' w'):HSt X ok0 w0 T e b l ev' H' a' w':=by
 obtain ⟨t1,t2,ι',ok',s1,s2,s3⟩:=ho
 have hk:∀ k,Cov w b k→w'.heap[k]? = w.heap[k]?:=fun k hc=>s3.frame k (cov_lt hbl hc).1 (hap k hc).2
 obtain ⟨hbl',hc'⟩:=bld_same hbl hk
 refine ⟨⟨ok',ι',s1,s2,hev.trans (s3.mono (Nat.zero_le _)),?_⟩,hlo,hbl'⟩
 intro k hc
 have hcw:Cov w b k:=by
  rcases hc with rfl | ⟨v,hv,hvk⟩
  ·exact .inl rfl
  ·exact .inr ⟨v,by rw [← hc'];exact hv,hvk⟩
 have hlt:=(cov_lt hbl hcw).1
 obtain ⟨h1,h2⟩:=hap k hcw
 refine ⟨fun hok=>?_,fun i ds s hd he=>?_⟩
 ·rcases s3.okN k hok hlt with h | ⟨i,ds,s,hd,he⟩
  ·exact h1 h
  ·exact h2 i ds s hd he
 ·obtain ⟨j,ds',s',hd',he'⟩:=s3.own i ds k s hd he hlt
  exact h2 j ds' s' hd' he'
theorem HSt.code (hG:Good X) (h:HSt X ok0 w0 T e b l ev H a w) {f nt:Nat} {c:Code} {ex:Ex} (hc:Ev.code X f nt 0 c ev H = some (ex,ev',H')) (hok:okCode X f c = true) (ht:nt≤a.tmps.size) {Q:Exit→Act→World→Prop}
  (hQ:∀ a' w',a'.tmps.size = a.tmps.size→a'.defers = a.defers→HSt X ok0 w0 T e b l ev' H' a' w'→Q (exOf ex) a' w'):c.wp X.P Q a w:=by
 obtain ⟨ok,ι,hs,he,hev,hap⟩:=h.st
 refine wp_mono (code_sound hG hc hok (Nat.zero_le _) hs he ht) ?_
 rintro x a' w' ⟨rfl,hout⟩
 exact hQ a' w' hout.1 hout.2.1 (hst_out hs hev hap h.lo h.bl hout)
theorem HSt.ops (hG:Good X) (h:HSt X ok0 w0 T e b l ev H a w) {nt:Nat} {ops:Array Oper} {l1 l2:List Oper} (hc:evOps X (call X) nt false ops l1 ev H = some (ev',H')) (ht:nt≤a.tmps.size) {Q:Exit→Act→World→Prop}
  (hQ:∀ a' w',a'.tmps.size = a.tmps.size→a'.defers = a.defers→HSt X ok0 w0 T e b l ev' H' a' w'→wpList X.P ops Q l2 a' w'):wpList X.P ops Q (l1 ++ l2) a w:=by
 obtain ⟨ok,ι,hs,he,hev,hap⟩:=h.st
 exact evOps_app (call_sound hG) hc hs he ht fun a' w' hout=>hQ a' w' hout.1 hout.2.1 (hst_out hs hev hap h.lo h.bl hout)
theorem HSt.slot (h:HSt X ok0 w0 T e b l ev H a w) {t:Nat} {v:Value} (ht:look ev t = some (.raw v)):a.tmps.getD t undef = v:=by
 obtain ⟨ok,ι,hs,he,hev,hap⟩:=h.st
 have:=(he t _ ht).2
 generalize a.tmps.getD t undef = x at this ⊢
 cases this
 rfl
theorem HSt.slotS (h:HSt X ok0 w0 T e b l ev H a w) {t:Nat} {s:List UInt8} (ht:look ev t = some (.str s)):a.tmps.getD t undef = .string ⟨s.toArray⟩:=by
 obtain ⟨ok,ι,hs,he,hev,hap⟩:=h.st
 have:=(he t _ ht).2
 generalize a.tmps.getD t undef = x at this ⊢
 cases this
 rfl
end
section
variable {X:Cx} {ρ:Ren} {ok0:Nat→Prop} {w0:World} {b:Nat} {l:List UInt8} {ev:Env} {H:Heap} {a:Act} {w:World}
theorem HSt.write (L:Lays.n166 X.P ρ) (E:Builder.Extra X.P ρ) (h:HSt X ok0 w0 (ρ.t 72) (ρ.t 5) b l ev H a w) (s:List UInt8) (hl:l.length+s.length≤140737488355328) :
  Goes X.P (callFunc (ρ.f 166) #[.pointer (some ⟨b,0,none⟩),.string ⟨s.toArray⟩]) w fun v w'=>HSt X ok0 w0 (ρ.t 72) (ρ.t 5) b (l ++ s) ev H a w'∧Rep (fun _=>False) w' iota0 [] (.tup [.int .i64 s.length,.nili]) v:=by
 obtain ⟨ok,ι,hs,he,hev,hap⟩:=h.st
 have hen:∀ args w,(callFunc (ρ.f 166) args).run X.P w = .ok (.enter (ρ.f 166) args) w:=Go.Proofs.enters_of L.f166 (by kernel_rfl) rfl
 have hsz:(⟨s.toArray⟩:ByteArray).size = s.length:=ba_size s
 have hbs:=cov_lt h.bl (.inl rfl)
 unfold Goes
 rw [hen]
 refine (writeString_x L E b b _ ⟨s.toArray⟩ w h.bl (by rw [Lib.byteCells_length,hsz];exact hl) (by omega)).mono ?_
 rintro e w' ⟨rfl,hbl',hbel,hx,hfr⟩
 have hun:∀ k,k < w.heap.size→¬ Cov w b k→w'.heap[k]? = w.heap[k]?:=fun k hk hc=>hx k hk (fun e=>hc (.inl e)) (fun v hv e=>hc (.inr ⟨v,hv,e⟩))
 have hok:∀ k,ok k→w'.heap[k]? = w.heap[k]?:=fun k hk=>hun k (hs.okS k hk) fun hc=>(hap k hc).1 hk
 have hnm:∀ i ds c s,hget H i = some ds→ι i = some (c,s)→w'.heap[c]? = w.heap[c]?:=fun i ds c s hd hi=>hun c (hs.lt hd hi) fun hc=>(hap c hc).2 i ds s hd hi
 have hcat:Lib.byteCells l ++ Lib.strCells ⟨s.toArray⟩ = Lib.byteCells (l ++ s):=by
  rw [Lib.strCells_eq,← Lib.byteCells_append]
 rw [hcat] at hbl'
 refine ⟨_,rfl,⟨⟨ok,ι,sim_same hs hbel.size hok hnm,env_same he hok,?_,?_⟩,h.lo,.inr hbl'⟩,?_⟩
 ·refine ⟨hbel.os.trans hev.os,hbel.tape.trans hev.tape,hbel.output.trans hev.output,Nat.le_trans hev.size hbel.size,fun k hk hno=>?_,hev.okU,hev.okN,hev.nle,hev.heap,hev.own⟩
  rw [hbel.block k (Nat.lt_of_lt_of_le hk h.lo)]
  exact hev.frame k hk hno
 ·intro k hc
  rcases hc with rfl | ⟨v',hv',hk⟩
  ·exact hap _ (.inl rfl)
  ·obtain ⟨p,v,q1,q2,q3,q4,q5⟩:=bld_open h.bl
   rcases hfr v v' q4 hv' k hk with h1 | h1
   ·exact hap k (.inr ⟨v,q4,h1⟩)
   ·refine ⟨fun hok=>?_,fun i ds s hd hi=>?_⟩
    ·have:=hs.okS k hok
     omega
    ·have:=hs.lt hd hi
     omega
 ·refine .tup rfl fun j d hj=>?_
  match j,hj with
  | 0,hj =>
   simp at hj
   subst hj
   rw [hsz]
   exact .int .i64 _
  | 1,hj =>
   simp at hj
   subst hj
   exact .nili
  | j+2,hj=>simp at hj
end
end Go.Ev
namespace Go.Ev
open Go Go.Proofs Go.RowKit Go.Shelf
section
variable {X:Cx} {ok0:Nat→Prop} {w0:World} {T e:TypeId} {b:Nat} {l:List UInt8} {ev ev':Env} {H H':Heap} {a:Act} {w:World}
theorem run_code {f nt n0:Nat} {Q:Ex→Env→Heap→Prop} {o:Option (Ex × Env × Heap)} (h:Run X f nt n0 Q [] o):∃ ex e1 H1,o = some (ex,e1,H1)∧Q ex e1 H1:=by
 cases o with
 | none=>rw [run_none] at h;exact h.elim
 | some q =>
  obtain ⟨ex,e1,H1⟩:=q
  rw [run_nil] at h
  exact ⟨ex,e1,H1,rfl,h⟩
theorem HSt.run (hG:Good X) (h:HSt X ok0 w0 T e b l ev H a w) {f nt:Nat} {c:Code} (hok:okCode X f c = true) (ht:nt≤a.tmps.size) {K:Exit→Act→World→Prop}
  (hR:Run X f nt 0 (fun ex e1 H1=>∀ a' w',a'.tmps.size = a.tmps.size→a'.defers = a.defers→HSt X ok0 w0 T e b l e1 H1 a' w'→K (exOf ex) a' w') [] (Ev.code X f nt 0 (stripC c) ev H)):c.wp X.P K a w:=by
 obtain ⟨ex,e1,H1,h1,h2⟩:=run_code hR
 rw [code_strip] at h1
 exact h.code hG h1 hok ht h2
structure PSt (X:Cx) (ok0:Nat→Prop) (w0:World) (ev:Env) (H:Heap) (a:Act) (w:World):Prop where
 st:∃ ok ι,Sim X ok w ι H∧EnvRep ok w ι H ev a.tmps∧Evol 0 ok0 w0 iota0 [] ok w ι H
theorem PSt.run (hG:Good X) (h:PSt X ok0 w0 ev H a w) {f nt:Nat} {c:Code} (hok:okCode X f c = true) (ht:nt≤a.tmps.size) {K:Exit→Act→World→Prop}
  (hR:Run X f nt 0 (fun ex e1 H1=>∀ a' w',a'.tmps.size = a.tmps.size→a'.defers = a.defers→PSt X ok0 w0 e1 H1 a' w'→K (exOf ex) a' w') [] (Ev.code X f nt 0 (stripC c) ev H)):c.wp X.P K a w:=by
 obtain ⟨ex,e1,H1,h1,h2⟩:=run_code hR
 rw [code_strip] at h1
 obtain ⟨ok,ι,hs,he,hev⟩:=h.st
 refine wp_mono (code_sound hG h1 hok (Nat.zero_le _) hs he ht) ?_
 rintro x a' w' ⟨rfl,t1,t2,ι',ok',s1,s2,s3⟩
 exact h2 a' w' t1 t2 ⟨⟨ok',ι',s1,s2,hev.trans (s3.mono (Nat.zero_le _))⟩⟩
theorem PSt.make (h:PSt X ok0 w0 ev H a w) {t nt:Nat} {T e:TypeId} (_:T≠e) (ht:t < nt) (hn:nt≤a.tmps.size) :
  HSt X ok0 w0 T e w.heap.size [] ((t,.raw (.pointer (some ⟨w.heap.size,0,none⟩))) :: ev) H (a.put (some t) (.pointer (some ⟨w.heap.size,0,none⟩))) (w.alloc (.cells #[.pointer none,.slice none 0 0] T)):=by
 obtain ⟨ok,ι,hs,he,hev⟩:=h.st
 have hold:∀ k,k < w.heap.size→(w.alloc (.cells #[.pointer none,.slice none 0 0] T)).heap[k]? = w.heap[k]?:=fun k hk=>Lib.alloc_old w _ k hk
 have hsz:w.heap.size≤(w.alloc (.cells #[.pointer none,.slice none 0 0] T)).heap.size:=by simp
 have hok:∀ k,ok k→(w.alloc (.cells #[.pointer none,.slice none 0 0] T)).heap[k]? = w.heap[k]?:=fun k hk=>hold k (hs.okS k hk)
 have hfr:=Lib.IsBuilderF.of (Lib.fresh_isBuilder T e w)
 refine ⟨⟨ok,ι,sim_same hs hsz hok fun i ds c s hd hi=>hold c (hs.lt hd hi),?_,?_,?_⟩,hev.size,hfr⟩
 ·exact put_env (dst:=some t) (env_same he hok) (.raw _) hn (by simpa [dstOk] using ht)
 ·refine ⟨hev.os,hev.tape,hev.output,Nat.le_trans hev.size hsz,fun k hk hno=>?_,hev.okU,hev.okN,hev.nle,hev.heap,hev.own⟩
  rw [hold k (Nat.lt_of_lt_of_le hk hev.size)]
  exact hev.frame k hk hno
 ·intro k hc
  have hge:w.heap.size≤k:=by
   have:=cov_lt hfr hc
   exact this.2
  refine ⟨fun hk=>?_,fun i ds s hd hi=>?_⟩
  ·have:=hs.okS k hk
   omega
  ·have:=hs.lt hd hi
   omega
end
end Go.Ev
namespace Go.Proofs
open Go.Shelf
def Tryz.layW_ren:Go.Shelf.Ren:=⟨fun | 166=>101 | 240=>143 | 276=>168 | n=>n,fun | 0=>0 | 3=>3 | 4=>4 | 5=>5 | 9=>9 | 20=>20 | 37=>34 | 70=>150 | 72=>152 | 75=>158 | 80=>162 | 164=>205 | n=>n,fun n=>n⟩
theorem Tryz.layW:Lays.n166 Tryz.prog Tryz.layW_ren:={
 mixed:=by kernel_rfl
 f166:=Tryz.func101.trans (congrArg some (by kernel_rfl))
 f240:=Tryz.func143.trans (congrArg some (by kernel_rfl))
 f276:=Tryz.func168.trans (congrArg some (by kernel_rfl))
 t0:=Tryz.underlying0
 a0:=Tryz.isAgg0
 z0:=Tryz.sizeOf0
 v0:=Tryz.zeroValue0
 t3:=Tryz.underlying3
 a3:=Tryz.isAgg3
 z3:=Tryz.sizeOf3
 v3:=Tryz.zeroValue3
 t4:=Tryz.underlying4
 a4:=Tryz.isAgg4
 z4:=Tryz.sizeOf4
 v4:=Tryz.zeroValue4
 t9:=Tryz.underlying9
 a9:=Tryz.isAgg9
 z9:=Tryz.sizeOf9
 v9:=Tryz.zeroValue9
 t20:=Tryz.underlying20
 a20:=Tryz.isAgg20
 z20:=Tryz.sizeOf20
 v20:=Tryz.zeroValue20
 t37:=Tryz.underlying34
 a37:=Tryz.isAgg34
 z37:=Tryz.sizeOf34
 v37:=Tryz.zeroValue34
 t70:=Tryz.underlying150
 a70:=Tryz.isAgg150
 z70:=Tryz.sizeOf150
 v70:=Tryz.zeroValue150
 t72:=Tryz.underlying152
 a72:=Tryz.isAgg152
 z72:=Tryz.sizeOf152
 v72:=Tryz.zeroValue152
 t75:=Tryz.underlying158
 a75:=Tryz.isAgg158
 z75:=Tryz.sizeOf158
 v75:=Tryz.zeroValue158
 t164:=Tryz.underlying205
 a164:=Tryz.isAgg205
 z164:=Tryz.sizeOf205
 v164:=Tryz.zeroValue205 }
theorem Tryz.layW_X:Builder.Extra Tryz.prog Tryz.layW_ren:={
 sizeBuilder:=by kernel_rfl
 liesBuilder:=by kernel_rfl
 t5:=Tryz.underlying5
 a5:=Tryz.isAgg5
 z5:=Tryz.sizeOf5
 v5:=Tryz.zeroValue5
 infoByte:=by kernel_rfl
 cellsByte:=by kernel_rfl
 sizeByte:=by kernel_rfl
 neB5:=by decide }
end Go.Proofs
namespace Go.Ev.S
open Go Go.Proofs Go.Ev Go.RowKit
def kPlace:List UInt8:=[95,95,67,85,82,83,79,82,61]
def kReal:List UInt8:=[95,95,82,69,65,76,84,73,77,69,95,84,73,77,69,83,84,65,77,80,61]
def kMono:List UInt8:=[95,95,77,79,78,79,84,79,78,73,67,95,84,73,77,69,83,84,65,77,80,61]
def kSeq:List UInt8:=[95,95,83,69,81,78,85,77,61]
def kId:List UInt8:=[95,95,83,69,81,78,85,77,95,73,68,61]
def kBoot:List UInt8:=[95,66,79,79,84,95,73,68,61]
def sixL (it:It):List (List UInt8):=[kPlace ++ showL (cOfP it.id it.rc),kReal ++ dec it.rc.real.toNat,kMono ++ dec it.rc.mono.toNat,kSeq ++ dec it.rc.seq.toNat,kId ++ hexs it.id.l,kBoot ++ hexs it.rc.boot.l]
def headL (L:List (List UInt8)):List UInt8:=(L.map (· ++ [10])).flatten
def bodyL (F:List Pr):List UInt8:=(F.map pairL).flatten
def textR (it:It):List UInt8:=headL (sixL it) ++ bodyL it.rc.fields.l ++ [10]
def sL:Code→Code
 | .seq a _=>a
 | c=>c
def sR:Code→Code
 | .seq _ b=>b
 | c=>c
def cB:Code→Code
 | .block _ c=>c
 | .loop c=>c
 | c=>c
theorem wp_ofSeq {P:Program} {c:Code} {Q:Exit→Act→World→Prop} {a:Act} {w:World} (hc:c = .seq (sL c) (sR c)) (h:∀ K:Exit→Act→World→Prop,(∀ a w,(sR c).wp P Q a w→K .normal a w)→(∀ x a w,x≠.normal→Q x a w→K x a w)→(sL c).wp P K a w):c.wp P Q a w:=by
 rw [hc]
 refine wp_seq (h _ (fun a w h=>h) fun x a w hx hq=>?_)
 cases x <;> first | exact absurd rfl hx | exact hq
noncomputable def tx0:Code:=bodyOf Tryz.f64
noncomputable def tx1:Code:=sR tx0
noncomputable def tx2:Code:=sR tx1
noncomputable def tx3:Code:=sR tx2
noncomputable def tx4:Code:=sR tx3
noncomputable def tx5:Code:=sR tx4
set_option maxHeartbeats 4000000 in
set_option maxRecDepth 4000 in
theorem text_pre [MaxL] [TxtC] (hT:TxtRun) (it:It) (hg:it.gap = false) (hr:recOk it = true) (hb:∀ p∈it.rc.fields.l,PrB p) (hn:it.rc.fields.l.length < 1000000)
  (ok0:Nat→Prop) (w0:World) (a:Act) (hs:Sim cx ok0 w0 iota0 []) (he:EnvRep ok0 w0 iota0 [] (argEnv 0 [.agg (Enc.cells it)]) a.tmps) (ht:83≤a.tmps.size) {K:Exit→Act→World→Prop}
  (hK:∀ a' w' e',a'.tmps.size = a.tmps.size→a'.defers = a.defers→look e' 3 = some (.optr 1 20 0)→look e' 1 = some (.optr 0 39 0)→PSt cx ok0 w0 e' [some (Enc.cells it),some (Enc.cells it.rc)] a' w'→tx4.wp cx.P K a' w') :
  tx0.wp cx.P K a w0:=by
 have hG:=good hT
 have hp0:PSt cx ok0 w0 (argEnv 0 [.agg (Enc.cells it)]) [] a w0:=⟨⟨ok0,iota0,hs,he,.refl _ (Nat.le_refl _)⟩⟩
 have hw:=wright_ev it hb hn
 unfold itOk at hw
 rw [hg,if_neg (by decide),hr] at hw
 have ht17:List.take 17 (ofBytes it.rc.boot.l ++ [(.vsl it.rc.fields.nil (encs it.rc.fields.l) it.rc.fields.l.length)]) = ofBytes it.rc.boot.l ++ [(.vsl it.rc.fields.nil (encs it.rc.fields.l) it.rc.fields.l.length)]:=List.take_of_length_le (by simp)
 refine wp_ofSeq (c:=tx0) rfl fun K0 k0 _=>?_
 refine hp0.run hG (f:=64) (nt:=83) (by kernel_rfl) ht ?_
 simp [sL,tx0,bodyOf,Tryz.f64]
 intro a1 w1 s1 d1 h1
 refine k0 _ _ ?_
 refine wp_ofSeq (c:=tx1) rfl fun K1 k1 _=>?_
 refine h1.run hG (f:=64) (nt:=83) (by kernel_rfl) (by omega) ?_
 simp [sL,sR,tx1,tx0,bodyOf,Tryz.f64,hw]
 intro a2 w2 s2 d2 h2
 refine k1 _ _ ?_
 refine wp_ofSeq (c:=tx2) rfl fun K2 k2 _=>?_
 refine h2.run hG (f:=64) (nt:=83) (by kernel_rfl) (by omega) ?_
 simp [sL,sR,tx2,tx1,tx0,bodyOf,Tryz.f64,hg]
 intro a3 w3 s3 d3 h3
 refine k2 _ _ ?_
 refine wp_ofSeq (c:=tx3) rfl fun K3 k3 _=>?_
 refine h3.run hG (f:=64) (nt:=83) (by kernel_rfl) (by omega) ?_
 simp [sL,sR,tx3,tx2,tx1,tx0,bodyOf,Tryz.f64,ht17]
 intro a4 w4 s4 d4 h4
 exact k3 _ _ (hK a4 w4 _ (by omega) (by simp [d4,d3,d2,d1]) (by simp) (by simp) h4)
end Go.Ev.S
namespace Go.Ev
open Go Go.Proofs Go.RowKit Go.Shelf
theorem wp_allocOp {P:Program} {ops:Array Oper} {Q:Exit→Act→World→Prop} {r:List Oper} {o:Oper} {t:TypeId} {zv:Value} {a:Act} {w:World} (hg:o.guard = none) (ho:o.op = .alloc t) (hz:∀ w,(zeroValue t).run P w = .ok zv w)
  (h:wpList P ops Q r (a.put o.dst (.pointer (some ⟨w.heap.size,0,none⟩))) (w.alloc (.cells zv.cells t))):wpList P ops Q (o :: r) a w:=by
 have hw:Region.wanted o (yielded ops a.tmps) = true:=by unfold Region.wanted;rw [hg]
 simp only [wpList,hw,if_true]
 refine .inl ?_
 unfold Oper.wp
 refine Goes.upon (Goes.value (v:=.pointer (some ⟨w.heap.size,0,none⟩)) (w':=w.alloc (.cells zv.cells t)) ?_ h)
 simp [execOp,ho,Instr.alloc,hz,newVar,newRow]
section
variable {X:Cx} {ok0:Nat→Prop} {w0:World} {T e:TypeId} {b:Nat} {l:List UInt8} {ev ev':Env} {H H':Heap} {a:Act} {w:World}
theorem HSt.slotI (h:HSt X ok0 w0 T e b l ev H a w) {t:Nat} {k:IntKind} {n:Int} (ht:look ev t = some (.int k n)):a.tmps.getD t undef = .int k n:=by
 obtain ⟨ok,ι,hs,he,hev,hap⟩:=h.st
 have:=(he t _ ht).2
 generalize a.tmps.getD t undef = x at this ⊢
 cases this
 rfl
theorem HSt.put (h:HSt X ok0 w0 T e b l ev H a w) {t:Nat} {d:D} {v:Value} (hd:Rep (fun _=>False) w iota0 [] d v) (ht:t < a.tmps.size):HSt X ok0 w0 T e b l ((t,d) :: ev) H (a.put (some t) v) w:=by
 obtain ⟨ok,ι,hs,he,hev,hap⟩:=h.st
 refine ⟨⟨ok,ι,hs,?_,hev,hap⟩,h.lo,h.bl⟩
 exact put_env (nt:=a.tmps.size) (dst:=some t) he ((hd.okMono fun b hb=>hb.elim).lift) (Nat.le_refl _) (by simpa [dstOk] using ht)
end
end Go.Ev
namespace Go.Ev.S
open Go Go.Proofs Go.Ev Go.RowKit
theorem xorI_u64 (a b:Int):isU64 (xorI .u64 a b):=by
 unfold xorI isU64
 simp only [IntKind.wrap,IntKind.signed,IntKind.bits]
 simp
 omega
theorem xorP_u64:∀ (L:List (List UInt8)) (v:Int),isU64 v→isU64 (xorP L v)
 | [],v,h=>h
 | b :: l,v,h=>by rw [xorP];exact xorP_u64 l _ (xorI_u64 _ _)
theorem cOfP_ok (q:ID) (r:Rec) (h:r.Ok):CurOk (cOfP q r):=⟨h.seq,h.mono,h.real,xorP_u64 _ _ (by unfold isU64;omega)⟩
set_option maxHeartbeats 4000000 in
set_option maxRecDepth 4000 in
theorem text_make [MaxL] [TxtC] (_:TxtRun) (it:It) (ok0:Nat→Prop) (w0:World) (a:Act) (w:World) (e:Env) (ht:83≤a.tmps.size) (k3:look e 3 = some (.optr 1 20 0)) (k1:look e 1 = some (.optr 0 39 0))
  (h:PSt cx ok0 w0 e [some (Enc.cells it),some (Enc.cells it.rc)] a w) {K:Exit→Act→World→Prop}
  (hK:∀ a' w' e' b,a'.tmps.size = a.tmps.size→a'.defers = a.defers→look e' 3 = some (.optr 1 20 0)→look e' 1 = some (.optr 0 39 0)→look e' 4 = some (.raw (.pointer (some ⟨b,0,none⟩))) →
   HSt cx ok0 w0 152 5 b [] e' [some (Enc.cells it),some (Enc.cells it.rc)] a' w'→tx5.wp cx.P K a' w'):tx4.wp cx.P K a w:=by
 refine wp_ofSeq (c:=tx4) rfl fun K4 k4 _=>?_
 refine wp_region_list (wp_allocOp rfl rfl Tryz.zeroValue152 ?_)
 have hm:=h.make (t:=4) (nt:=83) (T:=152) (e:=5) (by decide) (by omega) ht
 exact k4 _ _ (hK _ _ _ _ (by simp [Act.put]) (by simp [Act.put]) (by simpa [look] using k3) (by simpa [look] using k1) (by simp [look]) hm)
theorem sub5 {P:Program} {Q:Exit→Act→World→Prop} {a:Act} {w:World} (h:(sL (sL tx5)).wp P (Exit.then ((sR (sL tx5)).wp P (Exit.then ((sR tx5).wp P Q) Q)) (Exit.then ((sR tx5).wp P Q) Q)) a w):tx5.wp P Q a w:=by
 have e1:tx5 = .seq (.seq (sL (sL tx5)) (sR (sL tx5))) (sR tx5):=rfl
 rw [e1]
 exact wp_seq (wp_seq h)
set_option maxHeartbeats 4000000 in
set_option maxRecDepth 4000 in
theorem text_six [MaxL] [TxtC] (hT:TxtRun) (it:It) (hi:it.Ok) (hb:∀ p∈it.rc.fields.l,PrB p) (hn:it.rc.fields.l.length < 1000000) (ok0:Nat→Prop) (w0:World) (a:Act) (w:World) (e:Env) (b:Nat) (ht:83≤a.tmps.size) (k3:look e 3 = some (.optr 1 20 0)) (k1:look e 1 = some (.optr 0 39 0)) (k4:look e 4 = some (.raw (.pointer (some ⟨b,0,none⟩))))
  (h:HSt cx ok0 w0 152 5 b [] e [some (Enc.cells it),some (Enc.cells it.rc)] a w) {K:Exit→Act→World→Prop}
  (hK:∀ a' w' e',a'.tmps.size = a.tmps.size→a'.defers = a.defers→look e' 3 = some (.optr 1 20 0)→look e' 4 = some (.raw (.pointer (some ⟨b,0,none⟩))) →
   look e' 59 = some (.vsl false ((sixL it).map D.str) 6)→look e' 60 = some (.int .i64 6)→look e' 61 = some (.int .i64 0) →
   HSt cx ok0 w0 152 5 b [] e' [some (Enc.cells it),some (Enc.cells it.rc)] a' w'→K .normal a' w'):(sL (sL tx5)).wp cx.P K a w:=by
 have hG:=good hT
 have hof:=cof_ev it.id it.rc hn hb
 have hok:=cOfP_ok it.id it.rc hi.rc
 have hsh:=show_ev _ hok
 have hr1:=hi.rc.real
 have hr2:=hi.rc.mono
 have hr3:=hi.rc.seq
 unfold isU64 at hr1 hr2 hr3
 have n1:=number_ev it.rc.real.toNat (by omega)
 have n2:=number_ev it.rc.mono.toNat (by omega)
 have n3:=number_ev it.rc.seq.toNat (by omega)
 have e1:((it.rc.real.toNat:Nat):Int) = it.rc.real:=by omega
 have e2:((it.rc.mono.toNat:Nat):Int) = it.rc.mono:=by omega
 have e3:((it.rc.seq.toNat:Nat):Int) = it.rc.seq:=by omega
 rw [e1] at n1
 rw [e2] at n2
 rw [e3] at n3
 have x1:=hex_ev it.id.l it.id.h
 have x2:=hex_ev it.rc.boot.l it.rc.boot.h
 have l0:=(showL_len (cOfP it.id it.rc)).2
 have l4:=hexs_len it.id.l
 have l5:=hexs_len it.rc.boot.l
 rw [it.id.h] at l4
 rw [it.rc.boot.h] at l5
 have hL:Enc.cells it.rc = .int .u64 it.rc.seq :: .int .u64 it.rc.real :: .int .u64 it.rc.mono :: (ofBytes it.rc.boot.l ++ [(.vsl it.rc.fields.nil (encs it.rc.fields.l) it.rc.fields.l.length)]):=Rec.cells it.rc
 have ht17:List.take 17 (ofBytes it.rc.boot.l ++ [(.vsl it.rc.fields.nil (encs it.rc.fields.l) it.rc.fields.l.length)]) = ofBytes it.rc.boot.l ++ [(.vsl it.rc.fields.nil (encs it.rc.fields.l) it.rc.fields.l.length)]:=List.take_of_length_le (by simp)
 refine h.run hG (f:=64) (nt:=83) (by kernel_rfl) ht ?_
 rw [hL] at hof ⊢
 unfold sixL kPlace kReal kMono kSeq kId kBoot at hK
 have d1:=dec_len it.rc.real.toNat
 have d2:=dec_len it.rc.mono.toNat
 have d3:=dec_len it.rc.seq.toNat
 generalize showL (cOfP it.id it.rc) = s0 at *
 generalize dec it.rc.real.toNat = s1 at *
 generalize dec it.rc.mono.toNat = s2 at *
 generalize dec it.rc.seq.toNat = s3 at *
 generalize hexs it.id.l = s4 at *
 generalize hexs it.rc.boot.l = s5 at *
 have c0:9+s0.length≤4611686018427387904:=by omega
 have c1:21+s1.length≤4611686018427387904:=by omega
 have c2:22+s2.length≤4611686018427387904:=by omega
 have c3:9+s3.length≤4611686018427387904:=by omega
 have c4:12+s4.length≤4611686018427387904:=by omega
 have c5:9+s5.length≤4611686018427387904:=by omega
 simp [sL,sR,tx5,tx4,tx3,tx2,tx1,tx0,bodyOf,Tryz.f64,k1,k3,k4,hof,hsh,n1,n2,n3,x1,x2,ht17,List.drop_append,c0,c1,c2,c3,c4,c5]
 intro a1 w1 z1 z2 h1
 rw [← hL] at h1
 exact hK a1 w1 _ z1 z2 (by simp) (by simp) (by simp) (by simp) (by simp) h1
end Go.Ev.S
namespace Go.Ev.S
open Go Go.Proofs Go.Ev Go.RowKit
theorem wp_hide {P:Program} {c:Code} {Q:Exit→Act→World→Prop} {a:Act} {w:World} (h:∀ K:Exit→Act→World→Prop,(∀ x a w,Q x a w→K x a w)→c.wp P K a w):c.wp P Q a w:=h Q fun _ _ _ h=>h
def rgOps:Code→Array Oper
 | .region _ ops _=>ops
 | _=>#[]
noncomputable def bd1:Code:=cB (cB (sR (sL tx5)))
noncomputable def ops10:Array Oper:=rgOps (sR (cB (sL (sR (sR bd1)))))
theorem strs_at' {l:List (List UInt8)} {i:Nat} (h:i < l.length):(l.map D.str).drop i = .str l[i] :: (l.map D.str).drop (i+1):=by
 rw [List.drop_eq_getElem_cons (by simpa using h)]
 simp
theorem headL_snoc {L:List (List UInt8)} {k:Nat} (h:k < L.length):headL (L.take k) ++ (L[k] ++ [10]) = headL (L.take (k+1)):=by
 unfold headL
 rw [List.take_succ_eq_append_getElem h,List.map_append,List.flatten_append]
 simp
theorem headL_le (L:List (List UInt8)) (h:∀ s∈L,s.length≤300):(headL L).length≤L.length * 301:=by
 induction L with
 | nil=>simp [headL]
 | cons a l ih =>
  have h1:=h a (by simp)
  have h2:=ih fun s hs=>h s (by simp [hs])
  unfold headL at *
  simp only [List.map_cons,List.flatten_cons,List.length_append,List.length_cons,List.length_nil] at *
  omega
set_option maxHeartbeats 4000000 in
set_option maxRecDepth 4000 in
theorem text_loop1 [MaxL] [TxtC] (hT:TxtRun) (L:List (List UInt8)) (hL6:L.length = 6) (hLl:∀ s∈L,s.length≤300) (ok0:Nat→Prop) (w0:World) (a:Act) (w:World) (e:Env) (b:Nat) (H:Heap) (_:H.length = 2) (ht:83≤a.tmps.size) (k3:look e 3 = some (.optr 1 20 0)) (k4:look e 4 = some (.raw (.pointer (some ⟨b,0,none⟩))))
  (k59:look e 59 = some (.vsl false (L.map D.str) 6)) (k60:look e 60 = some (.int .i64 6)) (k61:look e 61 = some (.int .i64 0))
  (h:HSt cx ok0 w0 152 5 b [] e H a w) {Q:Exit→Act→World→Prop}
  (hQ:∀ a' w' e',a'.tmps.size = a.tmps.size→a'.defers = a.defers→look e' 3 = some (.optr 1 20 0)→look e' 4 = some (.raw (.pointer (some ⟨b,0,none⟩))) →
   HSt cx ok0 w0 152 5 b (headL L) e' H a' w'→Q .normal a' w'):(sR (sL tx5)).wp cx.P Q a w:=by
 have hG:=good hT
 have eB:sR (sL tx5) = .block 0 (.loop bd1):=rfl
 rw [eB]
 refine wp_block (wp_loop (fun a' w'=>∃ (k:Nat) (e':Env),k≤6∧a'.tmps.size = a.tmps.size∧a'.defers = a.defers∧look e' 3 = some (.optr 1 20 0)∧look e' 4 = some (.raw (.pointer (some ⟨b,0,none⟩)))∧look e' 59 = some (.vsl false (L.map D.str) 6)∧look e' 60 = some (.int .i64 6)∧look e' 61 = some (.int .i64 k) ∧
   HSt cx ok0 w0 152 5 b (headL (L.take k)) e' H a' w') (fun a' _=>6 - (intOf (a'.tmps.getD 61 undef)).toNat) ⟨0,e,by omega,rfl,rfl,k3,k4,k59,k60,k61,h⟩ ?_)
 rintro a1 w1 ⟨k,e1,hk,z1,z2,j3,j4,j59,j60,j61,h1⟩
 have hmu:=h1.slotI j61
 rw [hmu]
 refine wp_ofSeq (c:=bd1) rfl fun K1 f1 g1=>?_
 by_cases hlt:k < 6
 ·have hlt':(k:Int) < 6:=by omega
  refine h1.run hG (f:=64) (nt:=83) (by kernel_rfl) (by omega) ?_
  simp [sL,sR,cB,bd1,tx5,tx4,tx3,tx2,tx1,tx0,bodyOf,Tryz.f64,j3,j4,j59,j60,j61,hlt']
  intro a2 w2 s2 d2 h2
  refine f1 _ _ ?_
  refine wp_ofSeq (c:=sR bd1) rfl fun K2 f2 g2=>?_
  refine h2.run hG (f:=64) (nt:=83) (by kernel_rfl) (by omega) ?_
  simp [sL,sR,cB,bd1,tx5,tx4,tx3,tx2,tx1,tx0,bodyOf,Tryz.f64]
  intro a3 w3 s3 d3 h3
  refine f2 _ _ ?_
  refine wp_ofSeq (c:=sR (sR bd1)) rfl fun K3 f3 g3=>?_
  have eB1:sL (sR (sR bd1)) = .block 1 (cB (sL (sR (sR bd1)))):=rfl
  rw [eB1]
  refine wp_block (wp_ofSeq rfl fun K4 f4 g4=>?_)
  have hkL:k < L.length:=by omega
  have hat:=strs_at' hkL
  refine h3.run hG (f:=64) (nt:=83) (by kernel_rfl) (by omega) ?_
  simp [sL,sR,cB,bd1,tx5,tx4,tx3,tx2,tx1,tx0,bodyOf,Tryz.f64,hlt',hat]
  intro a4 w4 s4 d4 h4
  refine f4 _ _ ?_
  have eR:sR (cB (sL (sR (sR bd1)))) = .region 10 ops10 false:=rfl
  rw [eR]
  refine wp_region_list ?_
  have eo:ops10.toList = ops10.toList.take 2 ++ ops10.toList.drop 2:=(List.take_append_drop 2 _).symm
  rw [eo]
  have hl1:=hLl L[k] (List.getElem_mem hkL)
  have hll:=headL_le (L.take k) (fun s hs=>hLl s (List.mem_of_mem_take hs))
  rw [List.length_take] at hll
  have hsn:=headL_snoc hkL
  generalize L[k] = x at *
  have x1:x.length+1≤4611686018427387904:=by omega
  refine h4.ops hG (nt:=83) (ops:=ops10) (l1:=ops10.toList.take 2) (ev':=(66,.str (x ++ [10])) :: (65,.str x) :: [(6,.str x),(64,.str x),(63,.vptr (.str x :: List.drop (k+1) (List.map D.str L))),(3,.optr 1 20 0),(4,.raw (.pointer (some ⟨b,0,none⟩))),(59,.vsl false (List.map D.str L) 6),(60,.int .i64 6),(61,.int .i64 k)]) (H':=H) ?_ (by omega) ?_
  ·simp [ops10,rgOps,sL,sR,cB,bd1,tx5,tx4,tx3,tx2,tx1,tx0,bodyOf,Tryz.f64,evOps,guardQ,x1]
  intro a5 w5 s5 d5 h5
  have eo2:ops10.toList.drop 2 = [(ops10.toList.drop 2).headD default]:=rfl
  rw [eo2]
  refine wp_callOp rfl rfl rfl ?_
  have ea:∀ a:Act,#[a.tmps.getD 4 undef,a.tmps.getD 66 undef] = #[a.tmps.getD 4 undef,a.tmps.getD 66 undef]:=fun _=>rfl
  have q4:=h5.slot (t:=4) (v:=.pointer (some ⟨b,0,none⟩)) (by simp)
  have q66:=h5.slotS (t:=66) (s:=x ++ [10]) (by simp)
  show Goes _ (callFunc 101 #[a5.tmps.getD 4 undef,a5.tmps.getD 66 undef]) _ _
  rw [q4,q66]
  refine (h5.write (ρ:=Tryz.layW_ren) Tryz.layW Tryz.layW_X (x ++ [10]) ?_).mono ?_
  ·simp only [List.length_append,List.length_cons,List.length_nil]
   omega
  rintro v w6 ⟨h6,hv⟩
  rw [hsn] at h6
  replace h6:HSt cx ok0 w0 152 5 b (headL (L.take (k+1))) _ H a5 w6:=h6
  have hp:=h6.put (t:=67) hv (by omega)
  show K3 .normal (a5.put (some 67) v) w6
  refine f3 _ _ ?_
  have hw:IntKind.i64.wrap ((k:Int)+1) = ((k+1:Nat):Int):=by rw [wrap_i64] <;> omega
  have z5:(a5.put (some 67) v).tmps.size = a5.tmps.size:=by simp [Act.put]
  have z6:(a5.put (some 67) v).defers = a5.defers:=rfl
  refine wp_hide fun K5 f5=>?_
  refine hp.run hG (f:=64) (nt:=83) (by kernel_rfl) (by omega) ?_
  simp [sL,sR,cB,bd1,tx5,tx4,tx3,tx2,tx1,tx0,bodyOf,Tryz.f64,hw]
  intro a7 w7 s7 d7 h7
  refine f5 .normal _ _ ?_
  have hm7:=h7.slotI (t:=61) (k:=.i64) (n:=((k+1:Nat):Int)) (by simp)
  refine ⟨⟨k+1,_,by omega,by omega,by rw [d7,z6,d5,d4,d3,d2,z2],?_,?_,?_,?_,?_,h7⟩,?_⟩
  ·simp
  ·simp
  ·simp
  ·simp
  ·simp
  ·rw [hm7]
   show 6 - (((k+1:Nat):Int)).toNat < 6 - ((k:Int)).toNat
   omega
 ·have hlt':¬ (k:Int) < 6:=by omega
  have hke:k = 6:=by omega
  have htk:L.take k = L:=List.take_of_length_le (by omega)
  rw [htk] at h1
  refine h1.run hG (f:=64) (nt:=83) (by kernel_rfl) (by omega) ?_
  simp [sL,sR,cB,bd1,tx5,tx4,tx3,tx2,tx1,tx0,bodyOf,Tryz.f64,j3,j4,j59,j60,j61,hlt']
  intro a2 w2 s2 d2 h2
  refine f1 _ _ ?_
  refine wp_ofSeq (c:=sR bd1) rfl fun K2 f2 g2=>?_
  refine h2.run hG (f:=64) (nt:=83) (by kernel_rfl) (by omega) ?_
  simp [sL,sR,cB,bd1,tx5,tx4,tx3,tx2,tx1,tx0,bodyOf,Tryz.f64]
  intro a3 w3 s3 d3 h3
  refine g2 (.exit 0) a3 w3 (by intro h;cases h) ?_
  show Q .normal a3 w3
  exact hQ a3 w3 _ (by omega) (by rw [d3,d2,z2]) (by simp) (by simp) h3
end Go.Ev.S
namespace Go.Ev.S
open Go Go.Proofs Go.Ev Go.RowKit
noncomputable def tx6:Code:=sR tx5
noncomputable def bd2:Code:=cB (cB (sR (sL tx6)))
noncomputable def ops15:Array Oper:=rgOps (sR (cB (sL (sR (sR bd2)))))
theorem bodyL_snoc {F:List Pr} {k:Nat} (h:k < F.length):bodyL (F.take k) ++ pairL F[k] = bodyL (F.take (k+1)):=by
 unfold bodyL
 rw [List.take_succ_eq_append_getElem h,List.map_append,List.flatten_append]
 simp
theorem pairL_len (p:Pr):(pairL p).length≤p.name.length+p.value.length+10:=by
 unfold pairL
 split
 ·simp
  omega
 ·simp
  omega
theorem bodyL_le (F:List Pr) (n:Nat) (h:∀ p∈F,(pairL p).length≤n):(bodyL F).length≤F.length * n:=by
 induction F with
 | nil=>simp [bodyL]
 | cons a l ih =>
  have h1:=h a (by simp)
  have h2:=ih fun s hs=>h s (by simp [hs])
  unfold bodyL at *
  simp only [List.map_cons,List.flatten_cons,List.length_append,List.length_cons]
  rw [Nat.add_mul]
  omega
theorem sub6 {P:Program} {Q:Exit→Act→World→Prop} {a:Act} {w:World} (h:(sL (sL tx6)).wp P (Exit.then ((sR (sL tx6)).wp P (Exit.then ((sR tx6).wp P Q) Q)) (Exit.then ((sR tx6).wp P Q) Q)) a w):tx6.wp P Q a w:=by
 have e1:tx6 = .seq (.seq (sL (sL tx6)) (sR (sL tx6))) (sR tx6):=rfl
 rw [e1]
 exact wp_seq (wp_seq h)
set_option maxHeartbeats 4000000 in
set_option maxRecDepth 4000 in
theorem text_12 [MaxL] [TxtC] (hT:TxtRun) (it:It) (ok0:Nat→Prop) (w0:World) (a:Act) (w:World) (e:Env) (b:Nat) (l:List UInt8) (ht:83≤a.tmps.size) (k3:look e 3 = some (.optr 1 20 0)) (k4:look e 4 = some (.raw (.pointer (some ⟨b,0,none⟩))))
  (h:HSt cx ok0 w0 152 5 b l e [some (Enc.cells it),some (Enc.cells it.rc)] a w) {K:Exit→Act→World→Prop}
  (hK:∀ a' w' e',a'.tmps.size = a.tmps.size→a'.defers = a.defers→look e' 4 = some (.raw (.pointer (some ⟨b,0,none⟩))) →
   look e' 70 = some (.vsl it.rc.fields.nil (encs it.rc.fields.l) it.rc.fields.l.length)→look e' 71 = some (.int .i64 it.rc.fields.l.length)→look e' 72 = some (.int .i64 0) →
   HSt cx ok0 w0 152 5 b l e' [some (Enc.cells it),some (Enc.cells it.rc)] a' w'→K .normal a' w'):(sL (sL tx6)).wp cx.P K a w:=by
 have hG:=good hT
 have hL:Enc.cells it.rc = .int .u64 it.rc.seq :: .int .u64 it.rc.real :: .int .u64 it.rc.mono :: (ofBytes it.rc.boot.l ++ [(.vsl it.rc.fields.nil (encs it.rc.fields.l) it.rc.fields.l.length)]):=Rec.cells it.rc
 refine h.run hG (f:=64) (nt:=83) (by kernel_rfl) ht ?_
 rw [hL]
 simp [sL,sR,tx6,tx5,tx4,tx3,tx2,tx1,tx0,bodyOf,Tryz.f64,k3,k4]
 intro a1 w1 z1 z2 h1
 rw [← hL] at h1
 exact hK a1 w1 _ z1 z2 (by simp) (by simp) (by simp) (by simp) h1
set_option maxHeartbeats 4000000 in
set_option maxRecDepth 4000 in
theorem text_loop2 [MaxL] [TxtC] (hT:TxtRun) (it:It) (l0:List UInt8) (hl0:l0.length≤3000) (F:Sl Pr) (hF16:F.l.length≤16) (hb:∀ p∈F.l,PrB p) (hpl:∀ p∈F.l,(pairL p).length≤3000) (ok0:Nat→Prop) (w0:World) (a:Act) (w:World) (e:Env) (b:Nat) (ht:83≤a.tmps.size) (k4:look e 4 = some (.raw (.pointer (some ⟨b,0,none⟩))))
  (k70:look e 70 = some (.vsl F.nil (encs F.l) F.l.length)) (k71:look e 71 = some (.int .i64 F.l.length)) (k72:look e 72 = some (.int .i64 0))
  (h:HSt cx ok0 w0 152 5 b l0 e [some (Enc.cells it),some (Enc.cells it.rc)] a w) {Q:Exit→Act→World→Prop}
  (hQ:∀ a' w' e' H',a'.tmps.size = a.tmps.size→a'.defers = a.defers→look e' 4 = some (.raw (.pointer (some ⟨b,0,none⟩))) →
   HSt cx ok0 w0 152 5 b (l0 ++ bodyL F.l) e' H' a' w'→Q .normal a' w'):(sR (sL tx6)).wp cx.P Q a w:=by
 have hG:=good hT
 have eB:sR (sL tx6) = .block 2 (.loop bd2):=rfl
 rw [eB]
 refine wp_block (wp_loop (fun a' w'=>∃ (k:Nat) (e':Env) (H':Heap),k≤F.l.length∧a'.tmps.size = a.tmps.size∧a'.defers = a.defers∧look e' 4 = some (.raw (.pointer (some ⟨b,0,none⟩)))∧look e' 70 = some (.vsl F.nil (encs F.l) F.l.length)∧look e' 71 = some (.int .i64 F.l.length)∧look e' 72 = some (.int .i64 k) ∧
   (H' = [some (Enc.cells it),some (Enc.cells it.rc)]∨∃ p:Pr,H' = [some (Enc.cells p)]) ∧
   HSt cx ok0 w0 152 5 b (l0 ++ bodyL (F.l.take k)) e' H' a' w') (fun a' _=>F.l.length - (intOf (a'.tmps.getD 72 undef)).toNat) ⟨0,e,_,by omega,rfl,rfl,k4,k70,k71,k72,.inl rfl,by simpa [bodyL] using h⟩ ?_)
 rintro a1 w1 ⟨k,e1,H1,hk,z1,z2,j4,j70,j71,j72,hH,h1⟩
 have hmu:=h1.slotI j72
 rw [hmu]
 have hstart:∀ (c:Bool),decide (k < F.l.length) = c→∀ K:Exit→Act→World→Prop,(∀ a' w' e' H',a'.tmps.size = a1.tmps.size→a'.defers = a1.defers→look e' 4 = some (.raw (.pointer (some ⟨b,0,none⟩)))→look e' 70 = some (.vsl F.nil (encs F.l) F.l.length)→look e' 71 = some (.int .i64 F.l.length)→look e' 72 = some (.int .i64 k)→look e' 73 = some (.bool c)→H' = [] →
   HSt cx ok0 w0 152 5 b (l0 ++ bodyL (F.l.take k)) e' H' a' w'→K .normal a' w')→(sL bd2).wp cx.P K a1 w1:=by
  intro c hc K hK
  rcases hH with rfl | ⟨p,rfl⟩
  ·refine h1.run hG (f:=64) (nt:=83) (by kernel_rfl) (by omega) ?_
   simp [sL,sR,cB,bd2,tx6,tx5,tx4,tx3,tx2,tx1,tx0,bodyOf,Tryz.f64,j4,j70,j71,j72]
   intro a2 w2 s2 d2 h2
   exact hK a2 w2 _ _ s2 d2 (by simp) (by simp) (by simp) (by simp) (by simp [hc]) rfl h2
  ·refine h1.run hG (f:=64) (nt:=83) (by kernel_rfl) (by omega) ?_
   simp [sL,sR,cB,bd2,tx6,tx5,tx4,tx3,tx2,tx1,tx0,bodyOf,Tryz.f64,j4,j70,j71,j72]
   intro a2 w2 s2 d2 h2
   exact hK a2 w2 _ _ s2 d2 (by simp) (by simp) (by simp) (by simp) (by simp [hc]) rfl h2
 refine wp_ofSeq (c:=bd2) rfl fun K1 f1 g1=>?_
 by_cases hlt:k < F.l.length
 ·refine hstart true (by simpa using hlt) K1 fun a2 w2 e2 H2 s2 d2 j4 j70 j71 j72 j73 hH2 h2=>?_
  subst hH2
  refine f1 _ _ ?_
  refine wp_ofSeq (c:=sR bd2) rfl fun K2 f2 g2=>?_
  refine h2.run hG (f:=64) (nt:=83) (by kernel_rfl) (by omega) ?_
  simp [sL,sR,cB,bd2,tx6,tx5,tx4,tx3,tx2,tx1,tx0,bodyOf,Tryz.f64,j73]
  intro a3 w3 s3 d3 h3
  refine f2 _ _ ?_
  refine wp_ofSeq (c:=sR (sR bd2)) rfl fun K3 f3 g3=>?_
  have eB1:sL (sR (sR bd2)) = .block 3 (cB (sL (sR (sR bd2)))):=rfl
  rw [eB1]
  refine wp_block (wp_ofSeq rfl fun K4 f4 g4=>?_)
  have hkL:(k:Int) < (F.l.length:Int):=by omega
  have hat:=encs_at (α:=Pr) (n:=2) rfl hlt
  have hb1:=hb F.l[k] (List.getElem_mem hlt)
  have hp1:=pair_ev F.l[k] hb1
  have hnil:F.nil = false:=Sl.nn hlt
  refine h3.run hG (f:=64) (nt:=83) (by kernel_rfl) (by omega) ?_
  simp [sL,sR,cB,bd2,tx6,tx5,tx4,tx3,tx2,tx1,tx0,bodyOf,Tryz.f64,j4,j70,j71,j72,hkL,hat,hnil]
  intro a4 w4 s4 d4 h4
  refine f4 _ _ ?_
  have eR:sR (cB (sL (sR (sR bd2)))) = .region 15 ops15 false:=rfl
  rw [eR]
  refine wp_region_list ?_
  have eo:ops15.toList = ops15.toList.take 2 ++ ops15.toList.drop 2:=(List.take_append_drop 2 _).symm
  rw [eo]
  have hll:=bodyL_le (F.l.take k) 3000 (fun p hp=>hpl p (List.mem_of_mem_take hp))
  have hl1:=hpl F.l[k] (List.getElem_mem hlt)
  rw [List.length_take] at hll
  have hsn:=bodyL_snoc hlt
  generalize F.l[k] = p at *
  refine h4.ops hG (nt:=83) (ops:=ops15) (l1:=ops15.toList.take 2) (ev':=(77,.str (pairL p)) :: (76,.agg (Enc.cells p)) :: [(8,D.optr 0 2 0),(75,D.agg (Enc.cells p)),(74,D.vptr (Enc.cells p ++ encs (List.drop (k+1) F.l))),(4,D.raw (Value.pointer (some { block:=b,off:=0 }))),(70,D.vsl false (encs F.l) F.l.length),(71,D.int IntKind.i64 F.l.length),(72,D.int IntKind.i64 k)]) (H':=[some (Enc.cells p)]) ?_ (by omega) ?_
  ·simp [ops15,rgOps,sL,sR,cB,bd2,tx6,tx5,tx4,tx3,tx2,tx1,tx0,bodyOf,Tryz.f64,evOps,guardQ,hp1]
  intro a5 w5 s5 d5 h5
  have eo2:ops15.toList.drop 2 = [(ops15.toList.drop 2).headD default]:=rfl
  rw [eo2]
  refine wp_callOp rfl rfl rfl ?_
  have q4:=h5.slot (t:=4) (v:=.pointer (some ⟨b,0,none⟩)) (by simp)
  have q77:=h5.slotS (t:=77) (s:=pairL p) (by simp)
  show Goes _ (callFunc 101 #[a5.tmps.getD 4 undef,a5.tmps.getD 77 undef]) _ _
  rw [q4,q77]
  refine (h5.write (ρ:=Tryz.layW_ren) Tryz.layW Tryz.layW_X (pairL p) ?_).mono ?_
  ·simp only [List.length_append]
   omega
  rintro v w6 ⟨h6,hv⟩
  rw [List.append_assoc,hsn] at h6
  replace h6:HSt cx ok0 w0 152 5 b (l0 ++ bodyL (F.l.take (k+1))) _ [some (Enc.cells p)] a5 w6:=h6
  have hp:=h6.put (t:=78) hv (by omega)
  show K3 .normal (a5.put (some 78) v) w6
  refine f3 _ _ ?_
  have hw:IntKind.i64.wrap ((k:Int)+1) = ((k+1:Nat):Int):=by rw [wrap_i64] <;> omega
  have z5:(a5.put (some 78) v).tmps.size = a5.tmps.size:=by simp [Act.put]
  have z6:(a5.put (some 78) v).defers = a5.defers:=rfl
  refine wp_hide fun K5 f5=>?_
  refine hp.run hG (f:=64) (nt:=83) (by kernel_rfl) (by omega) ?_
  simp [sL,sR,cB,bd2,tx6,tx5,tx4,tx3,tx2,tx1,tx0,bodyOf,Tryz.f64,hw]
  intro a7 w7 s7 d7 h7
  refine f5 .normal _ _ ?_
  have hm7:=h7.slotI (t:=72) (k:=.i64) (n:=((k+1:Nat):Int)) (by simp)
  refine ⟨⟨k+1,_,_,by omega,by omega,by rw [d7,z6,d5,d4,d3,d2,z2],?_,?_,?_,?_,?_,h7⟩,?_⟩
  ·simp
  ·simp [hnil]
  ·simp [look]
  ·simp [look]
  ·exact .inr ⟨p,rfl⟩
  ·rw [hm7]
   show F.l.length - (((k+1:Nat):Int)).toNat < F.l.length - ((k:Int)).toNat
   omega
 ·refine hstart false (by simpa using hlt) K1 fun a2 w2 e2 H2 s2 d2 j4 j70 j71 j72 j73 hH2 h2=>?_
  subst hH2
  refine f1 _ _ ?_
  have hke:k = F.l.length:=by omega
  have htk:F.l.take k = F.l:=List.take_of_length_le (by omega)
  rw [htk] at h2
  refine wp_ofSeq (c:=sR bd2) rfl fun K2 f2 g2=>?_
  refine h2.run hG (f:=64) (nt:=83) (by kernel_rfl) (by omega) ?_
  simp [sL,sR,cB,bd2,tx6,tx5,tx4,tx3,tx2,tx1,tx0,bodyOf,Tryz.f64,j73]
  intro a3 w3 s3 d3 h3
  refine g2 (.exit 2) a3 w3 (by intro h;cases h) ?_
  show Q .normal a3 w3
  exact hQ a3 w3 _ _ (by omega) (by rw [d3,d2,z2]) j4 h3
end Go.Ev.S
namespace Go.Ev
open Go Go.Proofs Go.RowKit Go.Shelf
section
variable {X:Cx} {ρ:Ren} {ok0:Nat→Prop} {w0:World} {T e:TypeId} {b:Nat} {l:List UInt8} {ev ev':Env} {H H':Heap} {a:Act} {w:World}
theorem HSt.below (h:HSt X ok0 w0 T e b l ev H a w):Below w0.heap.size w0 w:=by
 obtain ⟨ok,ι,hs,he,hev,hap⟩:=h.st
 exact ⟨hev.os,hev.tape,hev.output,hev.size,fun k hk=>hev.frame k hk fun i ds s hd=>by simp [hget] at hd⟩
theorem HSt.str (L:Lays.n169 X.P ρ) (E:Builder.Extra X.P ρ) (h:HSt X ok0 w0 (ρ.t 72) (ρ.t 5) b l ev H a w) :
  Goes X.P (callFunc (ρ.f 169) #[.pointer (some ⟨b,0,none⟩)]) w fun v w'=>v = .string ⟨l.toArray⟩∧Below w0.heap.size w0 w':=by
 have hen:∀ args w,(callFunc (ρ.f 169) args).run X.P w = .ok (.enter (ρ.f 169) args) w:=Go.Proofs.enters_of L.f169 (by kernel_rfl) rfl
 have hbs:=cov_lt h.bl (.inl rfl)
 have hb:=h.below
 have hlo:=h.lo
 unfold Goes
 rw [hen]
 refine (Any.Builder_String_any_f L E b b l w h.bl (by omega)).mono ?_
 rintro x w' ⟨rfl,-,hbel⟩
 refine ⟨_,rfl,rfl,⟨hbel.os.trans hb.os,hbel.tape.trans hb.tape,hbel.output.trans hb.output,Nat.le_trans hb.size hbel.size,fun k hk=>?_⟩⟩
 rw [hbel.block k (Nat.lt_of_lt_of_le hk hlo),hb.block k hk]
theorem pst_below (hs:Sim X ok0 w0 iota0 []) (hb:Below w0.heap.size w0 w):PSt X ok0 w0 [] [] a w :=
 ⟨⟨ok0,iota0,below_sim hs hb,fun t d h=>by simp [look] at h,below_evol (Nat.zero_le _) hb⟩⟩
theorem PSt.put (h:PSt X ok0 w0 ev H a w) {t:Nat} {d:D} {v:Value} (hd:Rep (fun _=>False) w iota0 [] d v) (ht:t < a.tmps.size):PSt X ok0 w0 ((t,d) :: ev) H (a.put (some t) v) w:=by
 obtain ⟨ok,ι,hs,he,hev⟩:=h.st
 refine ⟨⟨ok,ι,hs,?_,hev⟩⟩
 exact put_env (nt:=a.tmps.size) (dst:=some t) he ((hd.okMono fun b hb=>hb.elim).lift) (Nat.le_refl _) (by simpa [dstOk] using ht)
theorem PSt.ops (hG:Good X) (h:PSt X ok0 w0 ev H a w) {nt:Nat} {ops:Array Oper} {l1 l2:List Oper} (hc:evOps X (call X) nt false ops l1 ev H = some (ev',H')) (ht:nt≤a.tmps.size) {Q:Exit→Act→World→Prop}
  (hQ:∀ a' w',a'.tmps.size = a.tmps.size→a'.defers = a.defers→PSt X ok0 w0 ev' H' a' w'→wpList X.P ops Q l2 a' w'):wpList X.P ops Q (l1 ++ l2) a w:=by
 obtain ⟨ok,ι,hs,he,hev⟩:=h.st
 refine evOps_app (call_sound hG) hc hs he ht fun a' w' hout=>?_
 obtain ⟨t1,t2,ι',ok',s1,s2,s3⟩:=hout
 exact hQ a' w' t1 t2 ⟨⟨ok',ι',s1,s2,hev.trans (s3.mono (Nat.zero_le _))⟩⟩
theorem call_hand {f : Nat} {fn : Func} {c : Code} {args : List D} {vs : List Value} {r : D} {w : World} {ι : Iota} {ok : Nat → Prop} (hf : X.P.funcs[f]? = some fn) (hb : fn.body = some c) (hng : (fn.name == "runtime.NumGoroutine") = false) (hfree : ∀ d ∈ args, idFree d = true)
  (hs:Sim X ok w ι []) (hv:RepL ok w ι [] args vs)
  (h:∀ a,a.tmps.size = max vs.length fn.ntmps→a.defers = []→EnvRep ok w iota0 [] (argEnv 0 args) a.tmps→Sim X ok w iota0 [] →
   c.wp X.P (fun x a' w'=>(x = .normal∨x = .ret)∧a'.defers = []∧∃ e' H' ds,PSt X ok w e' H' a' w'∧resD X e' H' fn.results.toList = some ds∧packR (X.fzr f) 0 H' (oneOrTup ds) = some (r,[])) a w) :
  Goes X.P (callFunc f vs.toArray) w (CallPost X ok w ι [] r []):=by
 have henter:(callFunc f vs.toArray).run X.P w = .ok (.enter f vs.toArray) w:=Go.Proofs.enters_of hf hng hb _ _
 have hs0:Sim X ok w iota0 []:=⟨hs.okS,hs.glob,fun i j ds es b s s' hd=>by simp [hget] at hd,fun i ds hd=>by simp [hget] at hd⟩
 unfold Goes
 rw [henter]
 simp only
 refine calls_of_wp hf hb (wp_mono (h ⟨vs.toArray ++ Array.replicate (fn.ntmps - vs.toArray.size) undef,[]⟩ ?_ rfl ?_ hs0) ?_)
 ·simp
  omega
 ·intro t d ht
  obtain ⟨_,h2⟩:=argEnv_look args 0 t d ht
  rw [Nat.sub_zero] at h2
  have hlt:t < vs.length:=by rw [hv.1];exact (List.getElem?_eq_some_iff.1 h2).1
  refine ⟨by simp;omega,?_⟩
  have:=(hv.2 t d h2).free (hfree d (mem_of_get? h2)) iota0 []
  rw [Array.getD_eq_getD_getElem?,Array.getElem?_append_left (by simpa using hlt)]
  simpa [List.getD_eq_getElem?_getD] using this
 ·rintro x a' w' ⟨hex,k2,e',H1,ds,⟨ok1,ι1,k3,k4,k5⟩,hr,hp⟩
  obtain ⟨v,q1,q2⟩:=results_run (fn:=fn) k3 k4 hr
  obtain ⟨ok2,ι2,p1,p2,p3,p4⟩:=packR_rep k5.nle.2 k3 q2 hp
  have hev:=k5.trans p3
  have hpost:CallPost X ok w ι [] r [] v w':=⟨ι2,ok2,p1,p2,⟨hev.os,hev.tape,hev.output,hev.size,fun b hb _=>hev.frame b hb fun i ds s hd=>by simp [hget] at hd,hev.okU,fun b h1 h2=>(hev.okN b h1 h2).imp id fun ⟨i,ds,s,hd,_⟩=>by simp [hget] at hd,⟨Nat.le_refl _,Nat.le_refl _⟩,fun i hi=>by simp at hi,fun i ds' b s hd=>by simp [hget] at hd⟩,p4⟩
  rcases hex with rfl | rfl
  ·exact ⟨k2,v,q1,v,rfl,hpost⟩
  ·exact ⟨k2,v,q1,v,rfl,hpost⟩
end
end Go.Ev
namespace Go.Ev.S
open Go Go.Proofs Go.Ev Go.RowKit
noncomputable def tx7:Code:=sR tx6
noncomputable def tx8:Code:=sR tx7
noncomputable def ops17:Array Oper:=rgOps (sL tx7)
noncomputable def ops18:Array Oper:=rgOps (sL tx8)
set_option maxHeartbeats 4000000 in
set_option maxRecDepth 4000 in
theorem text_end [MaxL] [TxtC] (hT:TxtRun) (l:List UInt8) (hl:l.length≤1000000) (ok0:Nat→Prop) (w0:World) (hs0:Sim cx ok0 w0 iota0 []) (a:Act) (w:World) (e:Env) (b:Nat) (H:Heap) (ht:83≤a.tmps.size) (hd:a.defers = []) (k4:look e 4 = some (.raw (.pointer (some ⟨b,0,none⟩))))
  (h:HSt cx ok0 w0 152 5 b l e H a w) {Q:Exit→Act→World→Prop}
  (hQ:∀ a' w' e' H',a'.defers = []→look e' 2 = some (.osl 0 (l.length+1) 0 (l.length+1) 1)→H' = [some (ofBytes (l ++ [10]))]→PSt cx ok0 w0 e' H' a' w'→Q .ret a' w'):tx7.wp cx.P Q a w:=by
 have hG:=good hT
 refine wp_ofSeq (c:=tx7) rfl fun K1 f1 g1=>?_
 have eR:sL tx7 = .region 17 ops17 false:=rfl
 rw [eR]
 refine wp_region_list ?_
 have eo:ops17.toList = [(ops17.toList).headD default]:=rfl
 rw [eo]
 refine wp_callOp rfl rfl rfl ?_
 have q4:=h.slot k4
 show Goes _ (callFunc 101 #[a.tmps.getD 4 undef,.string ⟨#[10]⟩]) _ _
 rw [q4]
 refine (h.write (ρ:=Tryz.layW_ren) Tryz.layW Tryz.layW_X [10] ?_).mono ?_
 ·simp only [List.length_cons,List.length_nil]
  omega
 rintro v w1 ⟨h1,hv⟩
 replace h1:HSt cx ok0 w0 152 5 b (l ++ [10]) e H a w1:=h1
 have hp:=h1.put (t:=80) hv (by omega)
 show K1 .normal (a.put (some 80) v) w1
 refine f1 _ _ ?_
 have z5:(a.put (some 80) v).tmps.size = a.tmps.size:=by simp [Act.put]
 have z6:(a.put (some 80) v).defers = a.defers:=rfl
 have k4':look ((80,.tup [.int .i64 (([10]:List UInt8).length:Nat),.nili]) :: e) 4 = some (.raw (.pointer (some ⟨b,0,none⟩))):=by simpa [look] using k4
 generalize ((80,D.tup [.int .i64 (([10]:List UInt8).length:Nat),.nili]) :: e) = e1 at *
 have q4':=hp.slot k4'
 generalize a.put (some 80) v = a1 at *
 refine wp_ofSeq (c:=tx8) rfl fun K2 f2 g2=>?_
 have eR:sL tx8 = .region 18 ops18 false:=rfl
 rw [eR]
 refine wp_region_list ?_
 have eo:ops18.toList = (ops18.toList).headD default :: (ops18.toList.drop 1):=rfl
 rw [eo]
 refine wp_callOp rfl rfl rfl ?_
 show Goes _ (callFunc 103 #[a1.tmps.getD 4 undef]) _ _
 rw [q4']
 refine (hp.str (ρ:=Tryz.lays169_ren) Tryz.lays169 Tryz.Builder_Extra_169).mono ?_
 rintro v2 w2 ⟨rfl,hb2⟩
 have hp2:=(pst_below (a:=a1) hs0 hb2).put (t:=81) (.str (l ++ [10])) (by omega)
 show wpList _ _ _ (ops18.toList.drop 1) (a1.put (some 81) _) w2
 have z7:(a1.put (some 81) (.string ⟨(l ++ [10]).toArray⟩)).tmps.size = a1.tmps.size:=by simp [Act.put]
 have z8:(a1.put (some 81) (.string ⟨(l ++ [10]).toArray⟩)).defers = a1.defers:=rfl
 have eo:ops18.toList.drop 1 = ops18.toList.drop 1 ++ []:=(List.append_nil _).symm
 rw [eo]
 refine hp2.ops hG (nt:=83) (ops:=ops18) (l1:=ops18.toList.drop 1) (ev':=[(2,.osl 0 (l.length+1) 0 (l.length+1) 1),(82,.osl 0 (l.length+1) 0 (l.length+1) 1),(81,.str (l ++ [10]))]) (H':=[some (ofBytes (l ++ [10]))]) ?_ (by omega) ?_
 ·simp [ops18,rgOps,sL,sR,tx8,tx7,tx6,tx5,tx4,tx3,tx2,tx1,tx0,bodyOf,Tryz.f64,evOps,guardQ]
 intro a3 w3 s3 d3 h3
 show K2 .normal a3 w3
 refine f2 _ _ ?_
 show (Code.ret).wp cx.P Q a3 w3
 exact wp_ret (hQ a3 w3 _ _ (by rw [d3,z8,z6,hd]) (by simp [look]) rfl h3)
end Go.Ev.S
namespace Go.Ev.S
open Go Go.Proofs Go.Ev Go.RowKit
theorem prOk_b {it:It} (hr:recOk it = true):it.rc.fields.l.length≤16∧(∀ p∈it.rc.fields.l,PrB p)∧∀ p∈it.rc.fields.l,(pairL p).length≤400:=by
 unfold recOk at hr
 simp only [Bool.and_eq_true,decide_eq_true_eq,List.all_eq_true] at hr
 have h:∀ p∈it.rc.fields.l,p.name.length≤64∧p.value.length≤256:=by
  intro p hp
  have:=hr.2 p hp
  unfold prOk at this
  simp only [Bool.and_eq_true,decide_eq_true_eq] at this
  refine ⟨?_,this.2⟩
  have h1:=this.1
  unfold nameOk at h1
  split at h1
  ·cases h1
  ·rename_i c l e
   simp only [Bool.and_eq_true,decide_eq_true_eq] at h1
   rw [e]
   exact h1.1.1
 refine ⟨hr.1.2,fun p hp=>?_,fun p hp=>?_⟩
 ·obtain ⟨h1,h2⟩:=h p hp
  exact ⟨by omega,by omega⟩
 ·obtain ⟨h1,h2⟩:=h p hp
  have:=pairL_len p
  omega
theorem sixL_le (it:It) (_:it.Ok):∀ s∈sixL it,s.length≤300:=by
 have l0:=(showL_len (cOfP it.id it.rc)).2
 have l4:=hexs_len it.id.l
 have l5:=hexs_len it.rc.boot.l
 rw [it.id.h] at l4
 rw [it.rc.boot.h] at l5
 have d1:=dec_len it.rc.real.toNat
 have d2:=dec_len it.rc.mono.toNat
 have d3:=dec_len it.rc.seq.toNat
 intro s hs
 simp only [sixL,List.mem_cons,List.not_mem_nil,or_false] at hs
 rcases hs with rfl | rfl | rfl | rfl | rfl | rfl <;> simp only [List.length_append,kPlace,kReal,kMono,kSeq,kId,kBoot,List.length_cons,List.length_nil] <;> omega
set_option maxHeartbeats 4000000 in
set_option maxRecDepth 4000 in
theorem text_body [MaxL] [TxtC] (hT:TxtRun) (it:It) (hi:it.Ok) (hg:it.gap = false) (hr:recOk it = true) (ok0:Nat→Prop) (w0:World) (a:Act) (hs:Sim cx ok0 w0 iota0 []) (he:EnvRep ok0 w0 iota0 [] (argEnv 0 [.agg (Enc.cells it)]) a.tmps) (ht:83≤a.tmps.size) (hd:a.defers = []) :
  tx0.wp cx.P (fun x a' w'=>x = .ret∧a'.defers = []∧∃ e' H',look e' 2 = some (.osl 0 (textR it).length 0 (textR it).length 1)∧H' = [some (ofBytes (textR it))]∧PSt cx ok0 w0 e' H' a' w') a w0:=by
 obtain ⟨hn,hb,hpl⟩:=prOk_b hr
 have h6:(sixL it).length = 6:=rfl
 have hsl:=sixL_le it hi
 have hll:=headL_le (sixL it) hsl
 have hbl:=bodyL_le it.rc.fields.l 400 hpl
 refine text_pre hT it hg hr hb (by omega) ok0 w0 a hs he ht fun a1 w1 e1 z1 y1 k3 k1 h1=>?_
 refine text_make hT it ok0 w0 a1 w1 e1 (by omega) k3 k1 h1 fun a2 w2 e2 b z2 y2 k3 k1 k4 h2=>?_
 refine sub5 (text_six hT it hi hb (by omega) ok0 w0 a2 w2 e2 b (by omega) k3 k1 k4 h2 fun a3 w3 e3 z3 y3 k3 k4 k59 k60 k61 h3=>?_)
 show (sR (sL tx5)).wp _ _ _ _
 refine text_loop1 hT (sixL it) h6 hsl ok0 w0 a3 w3 e3 b _ rfl (by omega) k3 k4 k59 k60 k61 h3 fun a4 w4 e4 z4 y4 k3 k4 h4=>?_
 show (sR tx5).wp _ _ _ _
 refine sub6 (text_12 hT it ok0 w0 a4 w4 e4 b _ (by omega) k3 k4 h4 fun a5 w5 e5 z5 y5 k4 k70 k71 k72 h5=>?_)
 show (sR (sL tx6)).wp _ _ _ _
 refine text_loop2 hT it _ (by omega) it.rc.fields hn hb (fun p hp=>Nat.le_trans (hpl p hp) (by omega)) ok0 w0 a5 w5 e5 b (by omega) k4 k70 k71 k72 h5 fun a6 w6 e6 H6 z6 y6 k4 h6=>?_
 show tx7.wp _ _ _ _
 refine text_end hT _ ?_ ok0 w0 hs a6 w6 e6 b H6 (by omega) (by simp [y6,y5,y4,y3,y2,y1,hd]) k4 h6 fun a7 w7 e7 H7 y7 k2 hH h7=>?_
 ·rw [List.length_append]
  omega
 ·have e1:headL (sixL it) ++ bodyL it.rc.fields.l ++ [10] = textR it:=rfl
  have e2:(headL (sixL it) ++ bodyL it.rc.fields.l).length+1 = (textR it).length:=by rw [← e1,List.length_append,List.length_append,List.length_append];rfl
  rw [e2] at k2
  rw [e1] at hH
  show _∧_
  exact ⟨rfl,y7,e7,H7,k2,hH,h7⟩
end Go.Ev.S
namespace Go.Ev.S
open Go Go.Proofs Go.Ev Go.RowKit
open Classical in
noncomputable def conText (args:List D) (H:Heap):Option (D × Heap) :=
 if h:H = []∧∃ it:It,args = [.agg (Enc.cells it)]∧it.Ok∧it.gap = false∧recOk it = true then some (.vsl false (ofBytes (textR h.2.choose)) (textR h.2.choose).length,[]) else none
theorem conText_inv {args:List D} {H:Heap} {q:D × Heap} (h:conText args H = some q):H = []∧∃ it:It,args = [.agg (Enc.cells it)]∧it.Ok∧it.gap = false∧recOk it = true∧q = (.vsl false (ofBytes (textR it)) (textR it).length,[]):=by
 unfold conText at h
 split at h
 ·rename_i hx
  have hs:=hx.2.choose_spec
  exact ⟨hx.1,hx.2.choose,hs.1,hs.2.1,hs.2.2.1,hs.2.2.2,(Option.some.inj h).symm⟩
 ·cases h
@[instance_reducible] def txt0:TxtC:=⟨fun _ _ _=>none⟩
theorem txt0_run [MaxL]:@TxtRun _ txt0:=fun h=>by cases h
set_option maxRecDepth 4000 in
theorem conText_run [MaxL] {T:TxtC} {args:List D} {H:Heap} {r:D} {H':Heap} (h:conText args H = some (r,H')) {ok:Nat→Prop} {w:World} {ι:Iota} {vs:List Value} (hs:Sim (@cx _ T) ok w ι H) (hv:RepL ok w ι H args vs):Goes Tryz.prog (callFunc 64 vs.toArray) w (CallPost (@cx _ T) ok w ι H r H'):=by
 obtain ⟨rfl,it,rfl,hi,hg,hr,e⟩:=conText_inv h
 injection e with e1 e2
 subst e1
 subst e2
 have h0:=@text_body _ txt0 txt0_run it hi hg hr
 have:=call_hand (X:=@cx _ txt0) (f:=64) (c:=tx0) (r:=.vsl false (ofBytes (textR it)) (textR it).length) Tryz.func64 rfl rfl (by intro d hd;simp only [List.mem_singleton] at hd;subst hd;simp [idFree]) ⟨hs.okS,hs.glob,hs.inj,hs.blk⟩ hv fun a z1 z2 he hs0=>wp_mono (h0 ok w a hs0 he (by rw [z1];exact Nat.le_max_right _ _) z2) ?_
 ·refine this.mono ?_
  rintro v w' ⟨ι',ok',k1,k2,k3,k4⟩
  exact ⟨ι',ok',⟨k1.okS,k1.glob,k1.inj,k1.blk⟩,k2,k3,k4⟩
 ·rintro x a' w' ⟨rfl,y1,e',H',k2,rfl,hp⟩
  refine ⟨.inr rfl,y1,e',_,[.osl 0 (textR it).length 0 (textR it).length 1],hp,?_,?_⟩
  ·simp [Tryz.f64,resD,k2]
  ·simp [packR,oneOrTup]
end Go.Ev.S
namespace Go.Ev
open Go Go.Proofs Go.RowKit Go.Shelf
def cL:Code→Code
 | .seq a _=>a
 | .cond _ a _=>a
 | c=>c
def cR:Code→Code
 | .seq _ b=>b
 | .cond _ _ b=>b
 | c=>c
def cOps:Code→Array Oper
 | .region _ ops _=>ops
 | _=>#[]
theorem wp_ofSeq' {P:Program} {c:Code} {Q:Exit→Act→World→Prop} {a:Act} {w:World} (hc:c = .seq (cL c) (cR c)) (h:∀ K:Exit→Act→World→Prop,(∀ a w,(cR c).wp P Q a w→K .normal a w)→(∀ x a w,x≠.normal→Q x a w→K x a w)→(cL c).wp P K a w):c.wp P Q a w:=by
 rw [hc]
 refine wp_seq (h _ (fun a w h=>h) fun x a w hx hq=>?_)
 cases x <;> first | exact absurd rfl hx | exact hq
theorem wp_rangeOp {P:Program} {ops:Array Oper} {Q:Exit→Act→World→Prop} {r:List Oper} {o:Oper} {t:TypeId} {x:Operand} {s:ByteArray} {a:Act} {w:World} (hg:o.guard = none) (ho:o.op = .range t x) (hx:a.eval x = .string s) (ht:P.underlying t = some .string)
  (h:wpList P ops Q r (a.put o.dst (.pointer (some ⟨w.heap.size,0,none⟩))) (w.iter s 0)):wpList P ops Q (o :: r) a w:=by
 have hw:Region.wanted o (yielded ops a.tmps) = true:=by unfold Region.wanted;rw [hg]
 simp only [wpList,hw,if_true]
 refine .inl ?_
 unfold Oper.wp
 refine Goes.upon (Goes.value (v:=.pointer (some ⟨w.heap.size,0,none⟩)) (w':=w.iter s 0) ?_ h)
 simp [execOp,ho,hx,run_range_string w t s ht]
theorem run_next_at {P:Program} {w:World} {b:Nat} {s:ByteArray} {pos:Nat} {ty:TypeId} (hb:w.heap[b]? = some (.stringIter s pos)) (h:pos < s.size) {c n:Nat} (hd:Utf8.decode s pos = (c,n)) :
  (Instr.next (.pointer (some ⟨b,0,none⟩)) true ty).run P w = .ok (.tuple #[.bool true,.int .i64 pos,.int .i32 c]) { w with heap:=w.heap.setIfInBounds b (.stringIter s (pos+n)) }:=by
 simp [Instr.next,getObj,setObj,Sem.run,hb,h,hd,goInt]
theorem run_next_over {P:Program} {w:World} {b:Nat} {s:ByteArray} {pos:Nat} {ty:TypeId} (hb:w.heap[b]? = some (.stringIter s pos)) (h:¬ pos < s.size) :
  (Instr.next (.pointer (some ⟨b,0,none⟩)) true ty).run P w = .ok (.tuple #[.bool false]) w:=by
 simp [Instr.next,getObj,Sem.run,hb,h]
theorem wp_nextOp {P:Program} {ops:Array Oper} {Q:Exit→Act→World→Prop} {r:List Oper} {o:Oper} {x:Operand} {b pos c n:Nat} {s:ByteArray} {a:Act} {w:World} (hg:o.guard = none) (ho:o.op = .next x true) (hx:a.eval x = .pointer (some ⟨b,0,none⟩))
  (hb:w.heap[b]? = some (.stringIter s pos)) (hp:pos < s.size) (hd:Utf8.decode s pos = (c,n))
  (h:wpList P ops Q r (a.put o.dst (.tuple #[.bool true,.int .i64 pos,.int .i32 c])) { w with heap:=w.heap.setIfInBounds b (.stringIter s (pos+n)) }):wpList P ops Q (o :: r) a w:=by
 have hw:Region.wanted o (yielded ops a.tmps) = true:=by unfold Region.wanted;rw [hg]
 simp only [wpList,hw,if_true]
 refine .inl ?_
 unfold Oper.wp
 refine Goes.upon (Goes.value (v:=.tuple #[.bool true,.int .i64 pos,.int .i32 c]) ?_ h)
 simp [execOp,ho,hx,run_next_at hb hp hd]
theorem wp_overOp {P:Program} {ops:Array Oper} {Q:Exit→Act→World→Prop} {r:List Oper} {o:Oper} {x:Operand} {b pos:Nat} {s:ByteArray} {a:Act} {w:World} (hg:o.guard = none) (ho:o.op = .next x true) (hx:a.eval x = .pointer (some ⟨b,0,none⟩))
  (hb:w.heap[b]? = some (.stringIter s pos)) (hp:¬ pos < s.size)
  (h:wpList P ops Q r (a.put o.dst (.tuple #[.bool false])) w):wpList P ops Q (o :: r) a w:=by
 have hw:Region.wanted o (yielded ops a.tmps) = true:=by unfold Region.wanted;rw [hg]
 simp only [wpList,hw,if_true]
 refine .inl ?_
 unfold Oper.wp
 refine Goes.upon (Goes.value (v:=.tuple #[.bool false]) ?_ h)
 simp [execOp,ho,hx,run_next_over hb hp]
structure ISt (X:Cx) (ok0:Nat→Prop) (w0:World) (b:Nat) (s:ByteArray) (pos:Nat) (ev:Env) (H:Heap) (a:Act) (w:World):Prop where
 st:∃ ok ι,Sim X ok w ι H∧EnvRep ok w ι H ev a.tmps∧Evol 0 ok0 w0 iota0 [] ok w ι H∧¬ ok b∧∀ i ds s,hget H i = some ds→ι i≠some (b,s)
 lo:w0.heap.size≤b
 it:w.heap[b]? = some (.stringIter s pos)
section
variable {X:Cx} {ok0:Nat→Prop} {w0:World} {b pos:Nat} {s:ByteArray} {ev ev':Env} {H H':Heap} {a:Act} {w:World}
theorem ISt.pst (h:ISt X ok0 w0 b s pos ev H a w):PSt X ok0 w0 ev H a w:=by
 obtain ⟨ok,ι,hs,he,hev,_⟩:=h.st
 exact ⟨⟨ok,ι,hs,he,hev⟩⟩
theorem ISt.out {ok:Nat→Prop} {ι:Iota} (_:Sim X ok w ι H) (hev:Evol 0 ok0 w0 iota0 [] ok w ι H) (hap:¬ ok b∧∀ i ds s,hget H i = some ds→ι i≠some (b,s))
  (hlo:w0.heap.size≤b) (hit:w.heap[b]? = some (.stringIter s pos)) {n:Nat} {a':Act} {w':World} (ho:Out X n ok w ι H a ev' H' a' w'):ISt X ok0 w0 b s pos ev' H' a' w':=by
 obtain ⟨t1,t2,ι',ok',s1,s2,s3⟩:=ho
 have hlt:=lt_of_heap hit
 have hk:w'.heap[b]? = w.heap[b]?:=s3.frame b hlt hap.2
 refine ⟨⟨ok',ι',s1,s2,hev.trans (s3.mono (Nat.zero_le _)),fun hok=>?_,fun i ds z hd he=>?_⟩,hlo,by rw [hk];exact hit⟩
 ·rcases s3.okN b hok hlt with h | ⟨i,ds,z,hd,he⟩
  ·exact hap.1 h
  ·exact hap.2 i ds z hd he
 ·obtain ⟨j,ds',z',hd',he'⟩:=s3.own i ds b z hd he hlt
  exact hap.2 j ds' z' hd' he'
theorem ISt.run (hG:Good X) (h:ISt X ok0 w0 b s pos ev H a w) {f nt:Nat} {c:Code} (hok:okCode X f c = true) (ht:nt≤a.tmps.size) {K:Exit→Act→World→Prop}
  (hR:Run X f nt 0 (fun ex e1 H1=>∀ a' w',a'.tmps.size = a.tmps.size→a'.defers = a.defers→ISt X ok0 w0 b s pos e1 H1 a' w'→K (exOf ex) a' w') [] (Ev.code X f nt 0 (stripC c) ev H)):c.wp X.P K a w:=by
 obtain ⟨ex,e1,H1,h1,h2⟩:=run_code hR
 rw [code_strip] at h1
 obtain ⟨ok,ι,hs,he,hev,hap⟩:=h.st
 refine wp_mono (code_sound hG h1 hok (Nat.zero_le _) hs he ht) ?_
 rintro x a' w' ⟨rfl,hout⟩
 exact h2 a' w' hout.1 hout.2.1 (ISt.out hs hev hap h.lo h.it hout)
theorem ISt.ops (hG:Good X) (h:ISt X ok0 w0 b s pos ev H a w) {nt:Nat} {ops:Array Oper} {l1 l2:List Oper} (hc:evOps X (call X) nt false ops l1 ev H = some (ev',H')) (ht:nt≤a.tmps.size) {Q:Exit→Act→World→Prop}
  (hQ:∀ a' w',a'.tmps.size = a.tmps.size→a'.defers = a.defers→ISt X ok0 w0 b s pos ev' H' a' w'→wpList X.P ops Q l2 a' w'):wpList X.P ops Q (l1 ++ l2) a w:=by
 obtain ⟨ok,ι,hs,he,hev,hap⟩:=h.st
 exact evOps_app (call_sound hG) hc hs he ht fun a' w' hout=>hQ a' w' hout.1 hout.2.1 (ISt.out hs hev hap h.lo h.it hout)
theorem ISt.slot (h:ISt X ok0 w0 b s pos ev H a w) {t:Nat} {v:Value} (ht:look ev t = some (.raw v)):a.tmps.getD t undef = v:=by
 obtain ⟨ok,ι,hs,he,hev,hap⟩:=h.st
 have:=(he t _ ht).2
 generalize a.tmps.getD t undef = x at this ⊢
 cases this
 rfl
theorem ISt.put (h:ISt X ok0 w0 b s pos ev H a w) {t:Nat} {d:D} {v:Value} (hd:Rep (fun _=>False) w iota0 [] d v) (ht:t < a.tmps.size):ISt X ok0 w0 b s pos ((t,d) :: ev) H (a.put (some t) v) w:=by
 obtain ⟨ok,ι,hs,he,hev,hap⟩:=h.st
 refine ⟨⟨ok,ι,hs,?_,hev,hap⟩,h.lo,h.it⟩
 exact put_env (nt:=a.tmps.size) (dst:=some t) he ((hd.okMono fun b hb=>hb.elim).lift) (Nat.le_refl _) (by simpa [dstOk] using ht)
theorem PSt.slotS (h:PSt X ok0 w0 ev H a w) {t:Nat} {l:List UInt8} (ht:look ev t = some (.str l)):a.tmps.getD t undef = .string ⟨l.toArray⟩:=by
 obtain ⟨ok,ι,hs,he,hev⟩:=h.st
 have:=(he t _ ht).2
 generalize a.tmps.getD t undef = x at this ⊢
 cases this
 rfl
theorem PSt.slotB (h:PSt X ok0 w0 ev H a w) {t:Nat} {c:Bool} (ht:look ev t = some (.bool c)):a.tmps.getD t undef = .bool c:=by
 obtain ⟨ok,ι,hs,he,hev⟩:=h.st
 have:=(he t _ ht).2
 generalize a.tmps.getD t undef = x at this ⊢
 cases this
 rfl
theorem PSt.slotI (h:PSt X ok0 w0 ev H a w) {t:Nat} {k:IntKind} {n:Int} (ht:look ev t = some (.int k n)):a.tmps.getD t undef = .int k n:=by
 obtain ⟨ok,ι,hs,he,hev⟩:=h.st
 have:=(he t _ ht).2
 generalize a.tmps.getD t undef = x at this ⊢
 cases this
 rfl
theorem PSt.iter (h:PSt X ok0 w0 ev H a w) {t nt:Nat} (s:ByteArray) (ht:t < nt) (hn:nt≤a.tmps.size) :
  ISt X ok0 w0 w.heap.size s 0 ((t,.raw (.pointer (some ⟨w.heap.size,0,none⟩))) :: ev) H (a.put (some t) (.pointer (some ⟨w.heap.size,0,none⟩))) (w.iter s 0):=by
 obtain ⟨ok,ι,hs,he,hev⟩:=h.st
 have hold:∀ k,k < w.heap.size→(w.iter s 0).heap[k]? = w.heap[k]?:=fun k hk=>Lib.alloc_old w _ k hk
 have hsz:w.heap.size≤(w.iter s 0).heap.size:=by simp [World.iter]
 have hok:∀ k,ok k→(w.iter s 0).heap[k]? = w.heap[k]?:=fun k hk=>hold k (hs.okS k hk)
 refine ⟨⟨ok,ι,sim_same hs hsz hok fun i ds c s hd hi=>hold c (hs.lt hd hi),?_,?_,?_,?_⟩,hev.size,World.iter_heap w s 0⟩
 ·exact put_env (dst:=some t) (env_same he hok) (.raw _) hn (by simpa [dstOk] using ht)
 ·refine ⟨hev.os,hev.tape,hev.output,Nat.le_trans hev.size hsz,fun k hk hno=>?_,hev.okU,hev.okN,hev.nle,hev.heap,hev.own⟩
  rw [hold k (Nat.lt_of_lt_of_le hk hev.size)]
  exact hev.frame k hk hno
 ·intro hk
  have:=hs.okS _ hk
  omega
 ·intro i ds s hd hi
  have:=hs.lt hd hi
  omega
theorem ISt.step (h:ISt X ok0 w0 b s pos ev H a w) (pos':Nat):ISt X ok0 w0 b s pos' ev H a { w with heap:=w.heap.setIfInBounds b (.stringIter s pos') }:=by
 obtain ⟨ok,ι,hs,he,hev,hnb,hno⟩:=h.st
 have hlt:=lt_of_heap h.it
 have hold:∀ k,k≠b→({ w with heap:=w.heap.setIfInBounds b (.stringIter s pos') }:World).heap[k]? = w.heap[k]?:=fun k hk=>Array.getElem?_setIfInBounds_ne (Ne.symm hk)
 have hsz:({ w with heap:=w.heap.setIfInBounds b (.stringIter s pos') }:World).heap.size = w.heap.size:=by simp
 have hok:∀ k,ok k→({ w with heap:=w.heap.setIfInBounds b (.stringIter s pos') }:World).heap[k]? = w.heap[k]?:=fun k hk=>hold k (by rintro rfl;exact hnb hk)
 have hlo:=h.lo
 refine ⟨⟨ok,ι,sim_same hs (by omega) hok fun i ds c z hd hi=>hold c (by rintro rfl;exact hno i ds z hd hi),env_same he hok,?_,hnb,hno⟩,hlo,by simp [hlt]⟩
 refine ⟨hev.os,hev.tape,hev.output,by rw [hsz];exact hev.size,fun k hk hn=>?_,hev.okU,hev.okN,hev.nle,hev.heap,hev.own⟩
 rw [hold k (by omega)]
 exact hev.frame k hk hn
end
end Go.Ev
namespace Go.Ev.S
open Go Go.Proofs Go.Ev Go.RowKit
noncomputable def ia0:Code:=bodyOf Tryz.f200
def itPos (w:World) (b:Nat):Nat:=match w.heap[b]? with
 | some (.stringIter _ p)=>p
 | _=>0
noncomputable def iaA0:Code:=cAt [1,1,0,1,0,1,0,1,0,0] ia0
noncomputable def iaAB:Code:=cAt [1,1,0,1,0,1,0,1,0,0,1,0,0] ia0
noncomputable def iaAo:Array Oper:=cOps (cL iaA0)
noncomputable def iaAp:Array Oper:=cOps (cL iaAB)
set_option maxHeartbeats 4000000 in
set_option maxRecDepth 4000 in
theorem iaA_ev [MaxL] [TxtC] (hT:TxtRun) (ok0:Nat→Prop) (w0:World) (a:Act) (w:World) (e:Env) (ht:129≤a.tmps.size) (k1:look e 1 = some (.str [61,10]))
  (h:PSt cx ok0 w0 e [] a w) {Q:Exit→Act→World→Prop}
  (hQ:∀ a' w' e',a'.tmps.size = a.tmps.size→a'.defers = a.defers→PSt cx ok0 w0 e' [] a' w'→Q .normal a' w'):iaA0.wp cx.P Q a w:=by
 have hG:=good hT
 refine wp_ofSeq' (c:=iaA0) rfl fun K1 f1 g1=>?_
 have eR:cL iaA0 = .region 6 iaAo false:=rfl
 rw [eR]
 refine wp_region_list ?_
 have eo:iaAo.toList = [(iaAo.toList).headD default] ++ [((iaAo.toList).drop 1).headD default]:=rfl
 rw [eo]
 refine h.ops hG (nt:=129) (ev':=(27,.str [61,10]) :: e) (H':=[]) ?_ ht ?_
 ·simp [iaAo,iaA0,ia0,cOps,cL,bodyOf,Tryz.f200,evOps,guardQ,k1]
 intro a1 w1 z1 d1 h1
 refine wp_rangeOp (t:=9) (x:=.tmp 27) (s:=⟨#[61,10]⟩) rfl rfl (h1.slotS (l:=[61,10]) (by simp [look])) Tryz.underlying9 ?_
 have h2:=h1.iter (t:=28) (nt:=129) ⟨#[61,10]⟩ (by decide) (by omega)
 show K1 .normal (a1.put (some 28) (.pointer (some ⟨w1.heap.size,0,none⟩))) (w1.iter ⟨#[61,10]⟩ 0)
 refine f1 _ _ ?_
 have z2:(a1.put (some 28) (.pointer (some ⟨w1.heap.size,0,none⟩))).tmps.size = a.tmps.size:=by simp [Act.put,z1]
 have d2:(a1.put (some 28) (.pointer (some ⟨w1.heap.size,0,none⟩))).defers = a.defers:=by simp [Act.put,d1]
 have hin:∃ p,p≤2∧∃ e',look e' 28 = some (.raw (.pointer (some ⟨w1.heap.size,0,none⟩)))∧ISt cx ok0 w0 w1.heap.size ⟨#[61,10]⟩ p e' [] (a1.put (some 28) (.pointer (some ⟨w1.heap.size,0,none⟩))) (w1.iter ⟨#[61,10]⟩ 0):=⟨0,by omega,_,by simp [look],h2⟩
 generalize (a1.put (some 28) (.pointer (some ⟨w1.heap.size,0,none⟩))) = a2 at *
 generalize w1.iter ⟨#[61,10]⟩ 0 = w2 at *
 generalize w1.heap.size = b at *
 clear h2 h1
 have eB:cR iaA0 = .block 0 (.loop iaAB):=rfl
 rw [eB]
 refine wp_block (wp_loop (fun a' w'=>a'.tmps.size = a.tmps.size∧a'.defers = a.defers∧∃ p,p≤2∧∃ e',look e' 28 = some (.raw (.pointer (some ⟨b,0,none⟩)))∧ISt cx ok0 w0 b ⟨#[61,10]⟩ p e' [] a' w') (fun _ w'=>2 - itPos w' b) ⟨z2,d2,hin⟩ ?_)
 rintro a3 w3 ⟨z3,d3,p,hp,e3,j28,h3⟩
 have hmu:itPos w3 b = p:=by unfold itPos;rw [h3.it]
 rw [hmu]
 refine wp_ofSeq' (c:=iaAB) rfl fun K2 f2 g2=>?_
 have eR:cL iaAB = .region 7 iaAp false:=rfl
 rw [eR]
 refine wp_region_list ?_
 have eo:iaAp.toList = (iaAp.toList).headD default :: (iaAp.toList).drop 1:=rfl
 rw [eo]
 have q28:=h3.slot j28
 rcases Nat.lt_or_ge p 2 with hlt | hge
 ·obtain ⟨c,hc,hd⟩:∃ c,(c = 61∨c = 10)∧Utf8.decode ⟨#[61,10]⟩ p = (c,1):=by
   match p,hlt with
   | 0,_=>exact ⟨61,.inl rfl,by decide⟩
   | 1,_=>exact ⟨10,.inr rfl,by decide⟩
  refine wp_nextOp (x:=.tmp 28) (b:=b) (pos:=p) (c:=c) (n:=1) (s:=⟨#[61,10]⟩) rfl rfl q28 h3.it hlt hd ?_
  have h4:=(h3.step (p+1)).put (t:=29) (d:=.tup [.bool true,.int .i64 p,.int .i32 c]) (v:=.tuple #[.bool true,.int .i64 p,.int .i32 c]) (.tup rfl fun j d hj=>by
   match j,hj with
   | 0,hj=>simp at hj;subst hj;exact .bool _
   | 1,hj=>simp at hj;subst hj;exact .int .i64 _
   | 2,hj=>simp at hj;subst hj;exact .int .i32 _
   | j+3,hj=>simp at hj) (by omega)
  show wpList _ _ _ ((iaAp.toList).drop 1) (a3.put (some 29) _) _
  have z4:(a3.put (some 29) (.tuple #[.bool true,.int .i64 p,.int .i32 c])).tmps.size = a.tmps.size:=by simp [Act.put,z3]
  have d4:(a3.put (some 29) (.tuple #[.bool true,.int .i64 p,.int .i32 c])).defers = a.defers:=by simp [Act.put,d3]
  generalize (a3.put (some 29) (.tuple #[.bool true,.int .i64 p,.int .i32 c])) = a4 at *
  have eo:(iaAp.toList).drop 1 = (iaAp.toList).drop 1 ++ []:=(List.append_nil _).symm
  rw [eo]
  refine h4.ops hG (nt:=129) (ev':=(30,.bool true) :: (29,.tup [.bool true,.int .i64 p,.int .i32 c]) :: e3) (H':=[]) ?_ (by omega) ?_
  ·simp [iaAp,iaAB,ia0,cOps,cL,bodyOf,Tryz.f200,evOps,guardQ]
  intro a5 w5 z5 d5 h5
  show K2 .normal a5 w5
  refine f2 _ _ ?_
  refine h5.run hG (f:=200) (nt:=129) (by kernel_rfl) (by omega) ?_
  have hne:¬ (c:Int) = 65533:=by omega
  have hc1:((c:Nat):Int) = 61∨((c:Nat):Int) = 10:=by omega
  simp [iaAB,ia0,cR,bodyOf,Tryz.f200,hne,j28]
  intro a6 w6 z6 d6 h6
  refine ⟨⟨by omega,by rw [d6,d5,d4],p+1,by omega,_, ?_,h6⟩,?_⟩
  ·simp [look]
  have hmu2:itPos w6 b = p+1:=by unfold itPos;rw [h6.it]
  rw [hmu2]
  omega
 ·have hp2:p = 2:=by omega
  subst hp2
  refine wp_overOp (x:=.tmp 28) (b:=b) (pos:=2) (s:=⟨#[61,10]⟩) rfl rfl q28 h3.it (by decide) ?_
  have h4:=h3.put (t:=29) (d:=.tup [.bool false]) (v:=.tuple #[.bool false]) (.tup rfl fun j d hj=>by
   match j,hj with
   | 0,hj=>simp at hj;subst hj;exact .bool _
   | j+1,hj=>simp at hj) (by omega)
  show wpList _ _ _ ((iaAp.toList).drop 1) (a3.put (some 29) _) _
  have z4:(a3.put (some 29) (.tuple #[.bool false])).tmps.size = a.tmps.size:=by simp [Act.put,z3]
  have d4:(a3.put (some 29) (.tuple #[.bool false])).defers = a.defers:=by simp [Act.put,d3]
  generalize (a3.put (some 29) (.tuple #[.bool false])) = a4 at *
  have eo:(iaAp.toList).drop 1 = (iaAp.toList).drop 1 ++ []:=(List.append_nil _).symm
  rw [eo]
  refine h4.ops hG (nt:=129) (ev':=(30,.bool false) :: (29,.tup [.bool false]) :: e3) (H':=[]) ?_ (by omega) ?_
  ·simp [iaAp,iaAB,ia0,cOps,cL,bodyOf,Tryz.f200,evOps,guardQ]
  intro a5 w5 z5 d5 h5
  show K2 .normal a5 w5
  refine f2 _ _ ?_
  refine h5.run hG (f:=200) (nt:=129) (by kernel_rfl) (by omega) ?_
  simp [iaAB,ia0,cR,bodyOf,Tryz.f200]
  intro a6 w6 z6 d6 h6
  exact hQ a6 w6 _ (by omega) (by rw [d6,d5,d4])  h6.pst
noncomputable def iaB0:Code:=cAt [1,1,1,1,1,1,0,1,0,0,1,0,0,1,1,1,1] ia0
noncomputable def iaBB:Code:=cAt [1,1,1,1,1,1,0,1,0,0,1,0,0,1,1,1,1,1,0,0] ia0
noncomputable def iaBo:Array Oper:=cOps (cL iaB0)
noncomputable def iaBp:Array Oper:=cOps (cL iaBB)
set_option maxHeartbeats 4000000 in
set_option maxRecDepth 4000 in
theorem iaB_ev [MaxL] [TxtC] (hT:TxtRun) (ok0:Nat→Prop) (w0:World) (a:Act) (w:World) (e:Env) (ht:129≤a.tmps.size) (s:List UInt8) (d11 d12:D) (r:Int) (hr:128≤r) (k0:look e 0 = some (.vsl false (ofBytes s) s.length)) (k1:look e 1 = some (.str [61,10])) (k11:look e 11 = some d11) (k12:look e 12 = some d12) (k13:look e 13 = some (.int .i32 r))
  (h:PSt cx ok0 w0 e [] a w) {Q:Exit→Act→World→Prop}
  (hQ:∀ a' w' e',a'.tmps.size = a.tmps.size→a'.defers = a.defers→look e' 0 = some (.vsl false (ofBytes s) s.length)→look e' 1 = some (.str [61,10])→look e' 11 = some d11→look e' 12 = some d12→PSt cx ok0 w0 e' [] a' w'→Q .normal a' w'):iaB0.wp cx.P Q a w:=by
 have hG:=good hT
 refine wp_ofSeq' (c:=iaB0) rfl fun K1 f1 g1=>?_
 have eR:cL iaB0 = .region 47 iaBo false:=rfl
 rw [eR]
 refine wp_region_list ?_
 have eo:iaBo.toList = [(iaBo.toList).headD default] ++ [((iaBo.toList).drop 1).headD default]:=rfl
 rw [eo]
 refine h.ops hG (nt:=129) (ev':=(120,.str [61,10]) :: e) (H':=[]) ?_ ht ?_
 ·simp [iaBo,iaB0,ia0,cOps,cL,bodyOf,Tryz.f200,evOps,guardQ,k1]
 intro a1 w1 z1 d1 h1
 refine wp_rangeOp (t:=9) (x:=.tmp 120) (s:=⟨#[61,10]⟩) rfl rfl (h1.slotS (l:=[61,10]) (by simp [look])) Tryz.underlying9 ?_
 have h2:=h1.iter (t:=121) (nt:=129) ⟨#[61,10]⟩ (by decide) (by omega)
 show K1 .normal (a1.put (some 121) (.pointer (some ⟨w1.heap.size,0,none⟩))) (w1.iter ⟨#[61,10]⟩ 0)
 refine f1 _ _ ?_
 have z2:(a1.put (some 121) (.pointer (some ⟨w1.heap.size,0,none⟩))).tmps.size = a.tmps.size:=by simp [Act.put,z1]
 have d2:(a1.put (some 121) (.pointer (some ⟨w1.heap.size,0,none⟩))).defers = a.defers:=by simp [Act.put,d1]
 have hin:∃ p,p≤2∧∃ e',look e' 0 = some (.vsl false (ofBytes s) s.length)∧look e' 1 = some (.str [61,10])∧look e' 11 = some d11∧look e' 12 = some d12∧look e' 13 = some (.int .i32 r)∧look e' 121 = some (.raw (.pointer (some ⟨w1.heap.size,0,none⟩)))∧ISt cx ok0 w0 w1.heap.size ⟨#[61,10]⟩ p e' [] (a1.put (some 121) (.pointer (some ⟨w1.heap.size,0,none⟩))) (w1.iter ⟨#[61,10]⟩ 0):=⟨0,by omega,_,by simp [look,k0],by simp [look,k1],by simp [look,k11],by simp [look,k12],by simp [look,k13],by simp [look],h2⟩
 generalize (a1.put (some 121) (.pointer (some ⟨w1.heap.size,0,none⟩))) = a2 at *
 generalize w1.iter ⟨#[61,10]⟩ 0 = w2 at *
 generalize w1.heap.size = b at *
 clear h2 h1
 have eB:cR iaB0 = .block 6 (.loop iaBB):=rfl
 rw [eB]
 refine wp_block (wp_loop (fun a' w'=>a'.tmps.size = a.tmps.size∧a'.defers = a.defers∧∃ p,p≤2∧∃ e',look e' 0 = some (.vsl false (ofBytes s) s.length)∧look e' 1 = some (.str [61,10])∧look e' 11 = some d11∧look e' 12 = some d12∧look e' 13 = some (.int .i32 r)∧look e' 121 = some (.raw (.pointer (some ⟨b,0,none⟩)))∧ISt cx ok0 w0 b ⟨#[61,10]⟩ p e' [] a' w') (fun _ w'=>2 - itPos w' b) ⟨z2,d2,hin⟩ ?_)
 rintro a3 w3 ⟨z3,d3,p,hp,e3,j0,j1,j11,j12,j13,j28,h3⟩
 have hmu:itPos w3 b = p:=by unfold itPos;rw [h3.it]
 rw [hmu]
 refine wp_ofSeq' (c:=iaBB) rfl fun K2 f2 g2=>?_
 have eR:cL iaBB = .region 48 iaBp false:=rfl
 rw [eR]
 refine wp_region_list ?_
 have eo:iaBp.toList = (iaBp.toList).headD default :: (iaBp.toList).drop 1:=rfl
 rw [eo]
 have q28:=h3.slot j28
 rcases Nat.lt_or_ge p 2 with hlt | hge
 ·obtain ⟨c,hc,hd⟩:∃ c,(c = 61∨c = 10)∧Utf8.decode ⟨#[61,10]⟩ p = (c,1):=by
   match p,hlt with
   | 0,_=>exact ⟨61,.inl rfl,by decide⟩
   | 1,_=>exact ⟨10,.inr rfl,by decide⟩
  refine wp_nextOp (x:=.tmp 121) (b:=b) (pos:=p) (c:=c) (n:=1) (s:=⟨#[61,10]⟩) rfl rfl q28 h3.it hlt hd ?_
  have h4:=(h3.step (p+1)).put (t:=122) (d:=.tup [.bool true,.int .i64 p,.int .i32 c]) (v:=.tuple #[.bool true,.int .i64 p,.int .i32 c]) (.tup rfl fun j d hj=>by
   match j,hj with
   | 0,hj=>simp at hj;subst hj;exact .bool _
   | 1,hj=>simp at hj;subst hj;exact .int .i64 _
   | 2,hj=>simp at hj;subst hj;exact .int .i32 _
   | j+3,hj=>simp at hj) (by omega)
  show wpList _ _ _ ((iaBp.toList).drop 1) (a3.put (some 122) _) _
  have z4:(a3.put (some 122) (.tuple #[.bool true,.int .i64 p,.int .i32 c])).tmps.size = a.tmps.size:=by simp [Act.put,z3]
  have d4:(a3.put (some 122) (.tuple #[.bool true,.int .i64 p,.int .i32 c])).defers = a.defers:=by simp [Act.put,d3]
  generalize (a3.put (some 122) (.tuple #[.bool true,.int .i64 p,.int .i32 c])) = a4 at *
  have eo:(iaBp.toList).drop 1 = (iaBp.toList).drop 1 ++ []:=(List.append_nil _).symm
  rw [eo]
  refine h4.ops hG (nt:=129) (ev':=(123,.bool true) :: (122,.tup [.bool true,.int .i64 p,.int .i32 c]) :: e3) (H':=[]) ?_ (by omega) ?_
  ·simp [iaBp,iaBB,ia0,cOps,cL,bodyOf,Tryz.f200,evOps,guardQ]
  intro a5 w5 z5 d5 h5
  show K2 .normal a5 w5
  refine f2 _ _ ?_
  refine h5.run hG (f:=200) (nt:=129) (by kernel_rfl) (by omega) ?_
  have hne:¬ r = (c:Int):=by omega
  have hc1:((c:Nat):Int) = 61∨((c:Nat):Int) = 10:=by omega
  simp [iaBB,ia0,cR,bodyOf,Tryz.f200,hne,j0,j1,j11,j12,j13,j28]
  intro a6 w6 z6 d6 h6
  refine ⟨⟨by omega,by rw [d6,d5,d4],p+1,by omega,_,?_,?_,?_,?_,?_,?_,h6⟩,?_⟩
  ·simp [look]
  ·simp [look]
  ·simp [look]
  ·simp [look]
  ·simp [look]
  ·simp [look]
  have hmu2:itPos w6 b = p+1:=by unfold itPos;rw [h6.it]
  rw [hmu2]
  omega
 ·have hp2:p = 2:=by omega
  subst hp2
  refine wp_overOp (x:=.tmp 121) (b:=b) (pos:=2) (s:=⟨#[61,10]⟩) rfl rfl q28 h3.it (by decide) ?_
  have h4:=h3.put (t:=122) (d:=.tup [.bool false]) (v:=.tuple #[.bool false]) (.tup rfl fun j d hj=>by
   match j,hj with
   | 0,hj=>simp at hj;subst hj;exact .bool _
   | j+1,hj=>simp at hj) (by omega)
  show wpList _ _ _ ((iaBp.toList).drop 1) (a3.put (some 122) _) _
  have z4:(a3.put (some 122) (.tuple #[.bool false])).tmps.size = a.tmps.size:=by simp [Act.put,z3]
  have d4:(a3.put (some 122) (.tuple #[.bool false])).defers = a.defers:=by simp [Act.put,d3]
  generalize (a3.put (some 122) (.tuple #[.bool false])) = a4 at *
  have eo:(iaBp.toList).drop 1 = (iaBp.toList).drop 1 ++ []:=(List.append_nil _).symm
  rw [eo]
  refine h4.ops hG (nt:=129) (ev':=(123,.bool false) :: (122,.tup [.bool false]) :: e3) (H':=[]) ?_ (by omega) ?_
  ·simp [iaBp,iaBB,ia0,cOps,cL,bodyOf,Tryz.f200,evOps,guardQ]
  intro a5 w5 z5 d5 h5
  show K2 .normal a5 w5
  refine f2 _ _ ?_
  refine h5.run hG (f:=200) (nt:=129) (by kernel_rfl) (by omega) ?_
  simp [iaBB,ia0,cR,bodyOf,Tryz.f200]
  intro a6 w6 z6 d6 h6
  exact hQ a6 w6 _ (by omega) (by rw [d6,d5,d4]) (by simp [look,j0]) (by simp [look,j1]) (by simp [look,j11]) (by simp [look,j12]) h6.pst
end Go.Ev.S
namespace Go.Ev
open Go Go.Proofs Go.Shelf
def anyI:List UInt8→Nat→Int
 | [],_=>-1
 | b :: l,n=>if b = 61∨b = 10 then n else anyI l (n+1)
theorem anyI_skip:∀ (k:Nat) (l:List UInt8) (n:Nat),k≤l.length→(∀ j (_:j < k) (hl:j < l.length),l[j]≠61∧l[j]≠10)→anyI l n = anyI (l.drop k) (n+k)
 | 0,l,n,_,_=>by simp
 | k+1,[],n,h,_=>by simp at h
 | k+1,b :: l,n,h,hb=>by
  have h0:=hb 0 (by omega) (by simp)
  simp only [List.getElem_cons_zero] at h0
  rw [anyI,if_neg (by rintro (h | h);exact h0.1 h;exact h0.2 h),List.drop_succ_cons,anyI_skip k l (n+1) (by simpa using h) (fun j hj hl=>by
   have:=hb (j+1) (by omega) (by simpa using hl)
   simpa using this)]
  congr 1
  omega
theorem get_arr (l:List UInt8) (k:Nat) (h:k < l.length):((⟨l.toArray⟩:ByteArray).get! k) = l[k]:=by
 rw [Utf8W.get!_of_lt _ k (by rw [ba_size];exact h)]
 show l.toArray[k] = _
 simp
theorem dec_facts (l:List UInt8) (hl:0 < l.length) (h128:128≤l[0].toNat) (r n:Nat) (hd:Utf8.decode ⟨l.toArray⟩ 0 = (r,n)) :
  128≤r∧r < 2000000∧1≤n∧n≤4∧n≤l.length∧(∀ j (_:j < n) (hl:j < l.length),128≤l[j].toNat)∧(r≠65533→2≤n∧(Utf8.encode r).data.toList.length = n∧(Utf8.encode r).data.toList≠[61,10]):=by
 have hsz:(⟨l.toArray⟩:ByteArray).size = l.length:=ba_size l
 have key:∀ k,(∀ j,1≤j→j < k→(decide (0+j < (⟨l.toArray⟩:ByteArray).size) && ((⟨l.toArray⟩:ByteArray).get! (0+j)).toNat / 64 == 2) = true)→(1≤k→k≤l.length)∧∀ j (_:j < k) (hl:j < l.length),128≤l[j].toNat:=by
  intro k hk
  constructor
  ·intro h1
   by_cases hk1:k = 1
   ·omega
   ·have:=hk (k - 1) (by omega) (by omega)
    simp only [Bool.and_eq_true,decide_eq_true_eq,hsz] at this
    omega
  ·intro j hj hlj
   by_cases h0:j = 0
   ·subst h0;exact h128
   ·have:=hk j (by omega) hj
    simp only [Bool.and_eq_true,decide_eq_true_eq,beq_iff_eq,Nat.zero_add,get_arr l j hlj] at this
    omega
 have k1:=key 1 (fun j h1 h2=>by omega)
 have h0:=get_arr l 0 hl
 generalize hS:(⟨l.toArray⟩:ByteArray) = S at *
 have hb0:=l[0].toNat_lt
 rw [← h0] at h128 hb0
 clear h0
 unfold Utf8.decode at hd
 simp only [Nat.add_zero] at hd
 have bad:(Utf8.runeError,1) = (r,n)→128≤r∧r < 2000000∧1≤n∧n≤4∧n≤l.length∧(∀ j (_:j < n) (hl:j < l.length),128≤l[j].toNat)∧(r≠65533→2≤n∧(Utf8.encode r).data.toList.length = n∧(Utf8.encode r).data.toList≠[61,10]):=by
  intro h
  injection h with h1 h2
  subst h1;subst h2
  exact ⟨by decide,by decide,by omega,by omega,k1.1 (by omega),k1.2,fun h=>absurd rfl h⟩
 rw [if_neg (by omega)] at hd
 split at hd
 ·rename_i hc
  simp only [Bool.and_eq_true,beq_iff_eq] at hc
  have k2:=key 2 (fun j h1 h2=>by
   have:j = 1:=by omega
   subst this
   simp only [Bool.and_eq_true,beq_iff_eq]
   exact hc.2)
  split at hd
  ·rename_i hge
   injection hd with h1 h2
   subst h2
   have hm:=Nat.mod_lt (S.get! (0+1)).toNat (show 0 < 64 by decide)
   have hm2:=Nat.mod_lt (S.get! 0).toNat (show 0 < 32 by decide)
   have hr:r < 2048:=by omega
   have hr1:128≤r:=by omega
   refine ⟨hr1,by omega,by omega,by omega,k2.1 (by omega),k2.2,fun _=>⟨by omega,?_⟩⟩
   have hv:Utf8.valid (r:Int) = true:=by unfold Utf8.valid;simp;omega
   unfold Utf8.encode
   simp only [hv,if_true,Int.toNat_natCast]
   rw [if_neg (by omega),if_pos (by omega)]
   refine ⟨rfl,?_⟩
   intro e
   simp only [List.cons.injEq,and_true] at e
   have:=congrArg UInt8.toNat e.1
   rw [UInt8.toNat_ofNat_of_lt' (by show _ < 256;omega)] at this
   simp at this
   omega
  ·exact bad hd
 ·split at hd
  ·rename_i hc
   simp only [Bool.and_eq_true,beq_iff_eq] at hc
   have k3:=key 3 (fun j h1 h2=>by
    simp only [Bool.and_eq_true,beq_iff_eq]
    rcases (by omega:j = 1∨j = 2) with rfl | rfl
    ·exact hc.1.2
    ·exact hc.2)
   split at hd
   ·rename_i hge
    simp only [Bool.and_eq_true,decide_eq_true_eq] at hge
    injection hd with h1 h2
    subst h2
    have hm:=Nat.mod_lt (S.get! (0+1)).toNat (show 0 < 64 by decide)
    have hm2:=Nat.mod_lt (S.get! (0+2)).toNat (show 0 < 64 by decide)
    have hm3:=Nat.mod_lt (S.get! 0).toNat (show 0 < 16 by decide)
    have hr:r < 65536:=by omega
    have hr1:2048≤r:=by omega
    rw [h1] at hge
    refine ⟨by omega,by omega,by omega,by omega,k3.1 (by omega),k3.2,fun _=>⟨by omega,?_⟩⟩
    unfold Utf8.encode
    simp only [hge.2,if_true,Int.toNat_natCast]
    rw [if_neg (by omega),if_neg (by omega),if_pos (by omega)]
    exact ⟨rfl,by intro e;simp at e⟩
   ·exact bad hd
  ·split at hd
   ·rename_i hc
    simp only [Bool.and_eq_true,beq_iff_eq] at hc
    have k4:=key 4 (fun j h1 h2=>by
     simp only [Bool.and_eq_true,beq_iff_eq]
     rcases (by omega:j = 1∨j = 2∨j = 3) with rfl | rfl | rfl
     ·exact hc.1.1.2
     ·exact hc.1.2
     ·exact hc.2)
    split at hd
    ·rename_i hge
     simp only [Bool.and_eq_true,decide_eq_true_eq] at hge
     injection hd with h1 h2
     subst h2
     rw [h1] at hge
     have hv:=hge.2
     have hr:r < 1114112:=by
      unfold Utf8.valid at hv
      simp at hv
      omega
     refine ⟨by omega,by omega,by omega,by omega,k4.1 (by omega),k4.2,fun _=>⟨by omega,?_⟩⟩
     unfold Utf8.encode
     simp only [hge.2,if_true,Int.toNat_natCast]
     rw [if_neg (by omega),if_neg (by omega),if_neg (by omega)]
     exact ⟨rfl,by intro e;simp at e⟩
    ·exact bad hd
   ·exact bad hd
end Go.Ev
namespace Go.Ev.S
open Go Go.Proofs Go.Ev Go.RowKit
def iaQ [MaxL] [TxtC] (ok0:Nat→Prop) (w0:World) (v:Int):Exit→Act→World→Prop:=fun x a' w'=>x = .ret∧a'.defers = []∧∃ e',look e' 4 = some (.int .i64 v)∧PSt cx ok0 w0 e' [] a' w'
theorem ia_byte [MaxL] [TxtC] (c:UInt8):call cx 226 [.str [61,10],.int .u8 c.toNat] [] = some (.int .i64 (if c = 61 then 0 else if c = 10 then 1 else -1),[]):=by
 rw [call_ext (X:=cx) (f:=226) rfl Tryz.func226 rfl,ex226]
 by_cases h1:c = 61
 ·subst h1;rfl
 by_cases h2:c = 10
 ·subst h2;rfl
 have h1':¬ (61:UInt8) = c:=fun e=>h1 e.symm
 have h2':¬ (10:UInt8) = c:=fun e=>h2 e.symm
 simp [idxBExt,idxB,h1,h2,h1',h2']
theorem ia_use [MaxL] [TxtC] (n:Nat):call cx 228 [.int .i64 n] [] = some (.bool (decide (8 < n)),[]):=by
 refine call_run Tryz.func228 rfl ⟨rfl,rfl⟩ ?_
 simp [Tryz.f228]
 omega
theorem ia_dec [MaxL] [TxtC] (l:List UInt8) (h:1≤l.length):call cx 231 [.vsl false (ofBytes l) l.length] [] = some (.tup [.int .i32 (Utf8.decode ⟨l.toArray⟩ 0).1,.int .i64 (Utf8.decode ⟨l.toArray⟩ 0).2],[]):=by
 refine call_con ?_
 rw [co231]
 have h0:¬ (⟨l.toArray⟩:ByteArray).size = 0:=by rw [ba_size];omega
 simp only [conDec,sliceB,bytesR_of]
 rw [if_pos ⟨Nat.le_refl _,h⟩,List.take_length]
 simp only [Lib.decodeGo,h0,if_false]
theorem ia_is [MaxL] [TxtC] (l:List UInt8) (h2:2 < l.length) (hm:(l.length:Int)≤MaxL.m):call cx 213 [.str [61,10],.str l] [] = some (.int .i64 (-1),[]):=by
 refine call_con ?_
 rw [co213]
 simp only [conIS]
 rw [if_pos ⟨by simpa using h2,by omega,hm,by simp⟩]
set_option maxHeartbeats 4000000 in
set_option maxRecDepth 4000 in
theorem ia_one [MaxL] [TxtC] (hT:TxtRun) (c:UInt8) (ok0:Nat→Prop) (w0:World) (a:Act) (ht:129≤a.tmps.size) (hd:a.defers = []) (h:PSt cx ok0 w0 (argEnv 0 [.vsl false (ofBytes [c]) 1,.str [61,10]]) [] a w0):ia0.wp cx.P (iaQ ok0 w0 (anyI [c] 0)) a w0:=by
 have hG:=good hT
 have hc:=c.toNat_lt
 have hw:IntKind.i32.wrap (c.toNat:Int) = (c.toNat:Int):=by rw [wrap_i32] <;> omega
 have hof:ofBytes [c] = [.int .u8 c.toNat]:=rfl
 rw [hof] at h
 refine wp_ofSeq' (c:=ia0) rfl fun K1 f1 g1=>?_
 refine h.run hG (f:=200) (nt:=129) (by kernel_rfl) (by omega) ?_
 simp [cL,ia0,bodyOf,Tryz.f200]
 intro a1 w1 z1 d1 h1
 refine f1 _ _ ?_
 show (cAt [1] ia0).wp _ _ _ _
 refine wp_ofSeq' (c:=(cAt [1] ia0)) rfl fun K2 f2 g2=>?_
 refine h1.run hG (f:=200) (nt:=129) (by kernel_rfl) (by omega) ?_
 simp [cL,ia0,bodyOf,Tryz.f200]
 intro a2 w2 z2 d2 h2
 refine f2 _ _ ?_
 show (cAt [1,1] ia0).wp _ _ _ _
 rcases Nat.lt_or_ge c.toNat 128 with h128 | h128
 ·have hi:=ia_byte c
  have hlt:¬ (128:Int)≤(c.toNat:Int):=by omega
  refine wp_ofSeq' (c:=(cAt [1,1] ia0)) rfl fun K3 f3 g3=>?_
  refine h2.run hG (f:=200) (nt:=129) (by kernel_rfl) (by omega) ?_
  by_cases h1:c = 61
  ·rw [if_pos h1] at hi
   simp [cL,ia0,bodyOf,Tryz.f200,hi,hw,hlt]
   intro a3 w3 z3 d3 h3
   exact g3 _ _ _ (by intro e;cases e) ⟨rfl,by rw [d3,d2,d1,hd],_,by simp [look,anyI,h1],h3⟩
  by_cases h2:c = 10
  ·rw [if_neg h1,if_pos h2] at hi
   simp [cL,ia0,bodyOf,Tryz.f200,hi,hw,hlt]
   intro a3 w3 z3 d3 h3
   exact g3 _ _ _ (by intro e;cases e) ⟨rfl,by rw [d3,d2,d1,hd],_,by simp [look,anyI,h2],h3⟩
  rw [if_neg h1,if_neg h2] at hi
  simp [cL,ia0,bodyOf,Tryz.f200,hi,hw,hlt]
  intro a3 w3 z3 d3 h3
  exact g3 _ _ _ (by intro e;cases e) ⟨rfl,by rw [d3,d2,d1,hd],_,by simp [look,anyI,h1,h2],h3⟩
 ·have hge:(128:Int)≤(c.toNat:Int):=by omega
  have hne:anyI [c] 0 = -1:=by
   have h1:¬ c = 61:=by rintro rfl;revert h128;decide
   have h2:¬ c = 10:=by rintro rfl;revert h128;decide
   simp [anyI,h1,h2]
  refine wp_ofSeq' (c:=(cAt [1,1] ia0)) rfl fun K0 f0 g0=>?_
  refine wp_ofSeq' (c:=(cAt [1,1,0] ia0)) rfl fun K3 f3 g3=>?_
  refine h2.run hG (f:=200) (nt:=129) (by kernel_rfl) (by omega) ?_
  simp [cL,ia0,bodyOf,Tryz.f200]
  intro a3 w3 z3 d3 h3
  refine f3 _ _ ?_
  show (Code.cond _ _ _).wp _ _ _ _
  refine wp_cond (t:=true) (h3.slotB (by simp [look])) ?_
  show (cAt [1,1,0,1,0] ia0).wp _ _ _ _
  refine wp_ofSeq' (c:=(cAt [1,1,0,1,0] ia0)) rfl fun K4 f4 g4=>?_
  refine h3.run hG (f:=200) (nt:=129) (by kernel_rfl) (by omega) ?_
  simp [cL,ia0,bodyOf,Tryz.f200,hw]
  intro a4 w4 z4 d4 h4
  refine f4 _ _ ?_
  show (cAt [1,1,0,1,0,1] ia0).wp _ _ _ _
  refine wp_ofSeq' (c:=(cAt [1,1,0,1,0,1] ia0)) rfl fun K8 f8 g8=>?_
  refine wp_ofSeq' (c:=(cAt [1,1,0,1,0,1,0] ia0)) rfl fun K5 f5 g5=>?_
  refine h4.run hG (f:=200) (nt:=129) (by kernel_rfl) (by omega) ?_
  simp [cL,ia0,bodyOf,Tryz.f200,hge]
  intro a5 w5 z5 d5 h5
  refine f5 _ _ ?_
  show (Code.cond _ _ _).wp _ _ _ _
  refine wp_cond (t:=true) (h5.slotB (by simp [look])) ?_
  show (cAt [1,1,0,1,0,1,0,1,0] ia0).wp _ _ _ _
  refine wp_ofSeq' (c:=(cAt [1,1,0,1,0,1,0,1,0] ia0)) rfl fun K9 f9 g9=>?_
  refine iaA_ev hT ok0 w0 a5 w5 _ (by omega) (by simp [look]) h5 fun a9 w9 e9 z9 d9 h9=>?_
  refine f9 _ _ ?_
  refine h9.run hG (f:=200) (nt:=129) (by kernel_rfl) (by omega) ?_
  simp [cR,ia0,bodyOf,Tryz.f200]
  intro a10 w10 z10 d10 h10
  exact g8 _ _ _ (by intro e;cases e) (g0 _ _ _ (by intro e;cases e) ⟨rfl,by rw [d10,d9,d5,d4,d3,d2,d1,hd],_,by simp [look,hne],h10⟩)
end Go.Ev.S
namespace Go.Ev.S
open Go Go.Proofs Go.Ev Go.RowKit
def iaOf:Value→Int
 | .int _ n=>n
 | _=>0
def iaI [MaxL] [TxtC] (ok0:Nat→Prop) (w0:World) (a:Act) (s:List UInt8) (i:Nat) (a':Act) (w':World):Prop:=a'.tmps.size = a.tmps.size∧a'.defers = []∧i≤s.length∧anyI (s.drop i) i = anyI s 0∧∃ e',look e' 0 = some (.vsl false (ofBytes s) s.length)∧look e' 1 = some (.str [61,10])∧look e' 12 = some (.int .i64 (i:Nat))∧PSt cx ok0 w0 e' [] a' w'
theorem iaI_of [MaxL] [TxtC] (ok0:Nat→Prop) (w0:World) (a:Act) (s:List UInt8) (i:Nat) (a':Act) (w':World) (e:Env) (h1:a'.tmps.size = a.tmps.size) (h2:a'.defers = []) (h3:i≤s.length) (h4:anyI (s.drop i) i = anyI s 0) (k0:look e 0 = some (.vsl false (ofBytes s) s.length)) (k1:look e 1 = some (.str [61,10])) (k12:look e 12 = some (.int .i64 (i:Nat))) (h:PSt cx ok0 w0 e [] a' w'):iaI ok0 w0 a s i a' w':=⟨h1,h2,h3,h4,e,k0,k1,k12,h⟩
set_option maxHeartbeats 4000000 in
set_option maxRecDepth 4000 in
theorem ia_round [MaxL] [TxtC] (hT:TxtRun) (s:List UInt8) (h8:s.length≤8) (ok0:Nat→Prop) (w0:World) (a:Act) (ht:129≤a.tmps.size) (i:Nat) (a0:Act) (w1:World) (hI:iaI ok0 w0 a s i a0 w1) (hlt:i < s.length) {Q:Exit→Act→World→Prop}
  (hret:∀ a' w',iaQ ok0 w0 (anyI s 0) .ret a' w'→Q .ret a' w') (hgo:∀ i' a' w',i < i'→iaI ok0 w0 a s i' a' w'→Q .normal a' w'):(cAt [1,1,1,1,1,1,0,1,0,0] ia0).wp cx.P Q a0 w1:=by
 have hG:=good hT
 have hgm:cx.glob 0 = some [.int .i64 MaxL.m]:=rfl
 obtain ⟨zz,dd,hi,hany,e,k0,k1,k12,h⟩:=hI
 have hlt':(i:Int) < (s.length:Int):=by omega
 have hsi:s[i]? = some s[i]:=List.getElem?_eq_getElem hlt
 have hdrop:=List.drop_eq_getElem_cons hlt
 have hat:=ofBytes_at hlt
 have hofd:ofBytes (s.drop i) = .int .u8 s[i].toNat :: ofBytes (s.drop (i+1)):=by
  rw [hdrop];rfl
 have htk:List.take (s.length - i) (.int .u8 (s[i].toNat:Int) :: ofBytes (s.drop (i+1))) = .int .u8 (s[i].toNat:Int) :: ofBytes (s.drop (i+1)):=List.take_of_length_le (by simp;omega)
 have hdl:(s.drop i).length = s.length - i:=by simp
 have hdec:=dec_facts (s.drop i) (by omega)
 have hdc:=ia_dec (s.drop i) (by omega)
 have hb:(s.drop i)[0]'(by omega) = s[i]:=by simp
 rw [hb] at hdec
 have hskip:=anyI_skip
 have hib:=ia_byte s[i]
 have hany0:=hany
 rw [hdrop,anyI] at hany
 have hcw:=s[i].toNat_lt
 have hw32:IntKind.i32.wrap (s[i].toNat:Int) = (s[i].toNat:Int):=by rw [wrap_i32] <;> omega
 have hw1:IntKind.i64.wrap ((i:Int)+1) = ((i+1:Nat):Int):=by rw [wrap_i64] <;> omega
 rcases Nat.lt_or_ge s[i].toNat 128 with h128 | h128
 ·have hlt2:(s[i].toNat:Int) < 128:=by omega
  clear hdec hdc
  generalize s[i] = c at *
  refine h.run hG (f:=200) (nt:=129) (by kernel_rfl) (by omega) ?_
  by_cases h1:c = 61
  ·rw [if_pos h1] at hib
   rw [if_pos (.inl h1)] at hany
   simp [ia0,bodyOf,Tryz.f200,k0,k1,k12,hlt',hat,hib,hw32,hlt2]
   intro a3 w3 z3 d3 h3
   exact hret _ _ ⟨rfl,by rw [d3,dd],_,by simp [look,← hany],h3⟩
  by_cases h2:c = 10
  ·rw [if_neg h1,if_pos h2] at hib
   rw [if_pos (.inr h2)] at hany
   simp [ia0,bodyOf,Tryz.f200,k0,k1,k12,hlt',hat,hib,hw32,hlt2]
   intro a3 w3 z3 d3 h3
   exact hret _ _ ⟨rfl,by rw [d3,dd],_,by simp [look,← hany],h3⟩
  rw [if_neg h1,if_neg h2] at hib
  rw [if_neg (by rintro (h | h);exact h1 h;exact h2 h)] at hany
  simp [ia0,bodyOf,Tryz.f200,k0,k1,k12,hlt',hat,hib,hw32,hlt2,hw1]
  intro a3 w3 z3 d3 h3
  exact hgo (i+1) _ _ (by omega) (iaI_of ok0 w0 a s (i+1) _ _ _ (by omega) (by rw [d3,dd]) hlt hany (by simp [look]) (by simp [look]) (by simp [look]) h3)
 ·have hge2:¬ (s[i].toNat:Int) < 128:=by omega
  obtain ⟨⟨r,n⟩,hrn⟩:∃ q,Utf8.decode ⟨(s.drop i).toArray⟩ 0 = q:=⟨_,rfl⟩
  obtain ⟨q1,q1b,q2,q3,q4,q5,q6⟩:=hdec h128 r n hrn
  rw [hrn] at hdc
  simp only at hdc
  have hnext:anyI (s.drop (i+n)) (i+n) = anyI s 0:=by
   rw [← hany0,anyI_skip n (s.drop i) i q4 (fun j hj hl=>by
    have:=q5 j hj hl
    constructor
    ·intro e;rw [e] at this;revert this;decide
    ·intro e;rw [e] at this;revert this;decide),List.drop_drop]
  have hin:i+n≤s.length:=by omega
  have hwn:IntKind.i64.wrap ((i:Int)+(n:Int)) = ((i+n:Nat):Int):=by rw [wrap_i64] <;> omega
  rw [hdl,hofd] at hdc
  have hdl0:((s.length:Int) - (i:Int)).toNat = s.length - i:=by omega
  have hr0:0≤(i:Int):=by omega
  clear hdec hskip hib hany hrn q5
  have hcase:(r≠65533∧n = 2)∨(r≠65533∧3≤n∧(n:Int)≤MaxL.m)∨(r≠65533∧3≤n∧¬ (n:Int)≤MaxL.m)∨r = 65533:=by
   by_cases hr:r = 65533
   ·exact .inr (.inr (.inr hr))
   ·have:=(q6 hr).1
    by_cases h2:n = 2
    ·exact .inl ⟨hr,h2⟩
    ·by_cases hm:(n:Int)≤MaxL.m
     ·exact .inr (.inl ⟨hr,by omega,hm⟩)
     ·exact .inr (.inr (.inl ⟨hr,by omega,hm⟩))
  rcases hcase with ⟨hr,h2⟩ | ⟨hr,h3,hm⟩ | hby
  ·obtain ⟨_,hel,hen⟩:=q6 hr
   have hr':¬ (r:Int) = 65533:=by omega
   have hen':¬ [61,10] = (Utf8.encode (r:Int)).data.toList:=fun e=>hen e.symm
   subst h2
   have hw2:IntKind.i64.wrap ((i:Int)+2) = (i:Int)+2:=by rw [wrap_i64] <;> omega
   refine h.run hG (f:=200) (nt:=129) (by kernel_rfl) (by omega) ?_
   simp [ia0,bodyOf,Tryz.f200,k0,k1,k12,hlt',hat,hw32,hge2,hdc,hr',hen',hw2,htk,Nat.le_of_lt hlt]
   intro a3 w3 z3 d3 h3
   exact hgo (i+2) _ _ (by omega) (iaI_of ok0 w0 a s (i+2) _ _ _ (by omega) (by rw [d3,dd]) hin hnext (by simp [look]) (by simp [look]) (by simp [look]) h3)
  ·obtain ⟨_,hel,hen⟩:=q6 hr
   have hr':¬ (r:Int) = 65533:=by omega
   have hn2:¬ 2 = (n:Int):=by omega
   have hix:=ia_is (Utf8.encode (r:Int)).data.toList (by omega) (by rw [hel];exact hm)
   refine h.run hG (f:=200) (nt:=129) (by kernel_rfl) (by omega) ?_
   simp [ia0,bodyOf,Tryz.f200,k0,k1,k12,hlt',hat,hw32,hge2,hdc,hr',hn2,hm,hgm,hix,hwn,htk,Nat.le_of_lt hlt]
   intro a3 w3 z3 d3 h3
   exact hgo (i+n) _ _ (by omega) (iaI_of ok0 w0 a s (i+n) _ _ _ (by omega) (by rw [d3,dd]) hin hnext (by simp [look]) (by simp [look]) (by simp [look]) h3)
  ·have hcond:(¬ (r:Int) = 65533∧¬ 2 = (n:Int)∧¬ (n:Int)≤MaxL.m)∨(r:Int) = 65533:=by
    rcases hby with ⟨h1,h2,h3⟩ | h1
    ·exact .inl ⟨by omega,by omega,h3⟩
    ·exact .inr (by omega)
   refine wp_ofSeq' (c:=(cAt [1,1,1,1,1,1,0,1,0,0] ia0)) rfl fun K1 f1 g1=>?_
   refine h.run hG (f:=200) (nt:=129) (by kernel_rfl) (by omega) ?_
   simp [cL,ia0,bodyOf,Tryz.f200,k0,k1,k12,hlt']
   intro a1 w1 z1 d1 h1
   refine f1 _ _ ?_
   show (cAt [1,1,1,1,1,1,0,1,0,0,1] ia0).wp _ _ _ _
   refine wp_ofSeq' (c:=(cAt [1,1,1,1,1,1,0,1,0,0,1] ia0)) rfl fun K10 f10 g10=>?_
   refine wp_block ?_
   show (cAt [1,1,1,1,1,1,0,1,0,0,1,0,0] ia0).wp _ _ _ _
   refine wp_ofSeq' (c:=(cAt [1,1,1,1,1,1,0,1,0,0,1,0,0] ia0)) rfl fun K2 f2 g2=>?_
   refine h1.run hG (f:=200) (nt:=129) (by kernel_rfl) (by omega) ?_
   simp [cL,ia0,bodyOf,Tryz.f200,hat,hw32,hlt]
   intro a2 w2 z2 d2 h2
   refine f2 _ _ ?_
   show (cAt [1,1,1,1,1,1,0,1,0,0,1,0,0,1] ia0).wp _ _ _ _
   refine wp_ofSeq' (c:=(cAt [1,1,1,1,1,1,0,1,0,0,1,0,0,1] ia0)) rfl fun K3 f3 g3=>?_
   refine h2.run hG (f:=200) (nt:=129) (by kernel_rfl) (by omega) ?_
   simp [cL,ia0,bodyOf,Tryz.f200,hge2]
   intro a3 w3 z3 d3 h3
   refine f3 _ _ ?_
   show (cAt [1,1,1,1,1,1,0,1,0,0,1,0,0,1,1] ia0).wp _ _ _ _
   refine wp_ofSeq' (c:=(cAt [1,1,1,1,1,1,0,1,0,0,1,0,0,1,1] ia0)) rfl fun K4 f4 g4=>?_
   refine h3.run hG (f:=200) (nt:=129) (by kernel_rfl) (by omega) ?_
   simp [cL,ia0,bodyOf,Tryz.f200,hat,hdc,htk,Nat.le_of_lt hlt]
   intro a4 w4 z4 d4 h4
   refine f4 _ _ ?_
   show (cAt [1,1,1,1,1,1,0,1,0,0,1,0,0,1,1,1] ia0).wp _ _ _ _
   refine wp_ofSeq' (c:=(cAt [1,1,1,1,1,1,0,1,0,0,1,0,0,1,1,1] ia0)) rfl fun K5 f5 g5=>?_
   have hst:∀ (a9:Act) (w9:World) (e9:Env),a9.tmps.size = a.tmps.size→a9.defers = []→look e9 0 = some (.vsl false (ofBytes s) s.length)→look e9 1 = some (.str [61,10])→look e9 11 = some (.int .i64 (n:Nat))→look e9 12 = some (.int .i64 (i:Nat))→look e9 13 = some (.int .i32 (r:Nat))→PSt cx ok0 w0 e9 [] a9 w9→K5 .normal a9 w9:=by
    intro a9 w9 e9 z9 d9 m0 m1 m11 m12 m13 h9
    refine f5 _ _ ?_
    show iaB0.wp _ _ _ _
    refine iaB_ev hT ok0 w0 a9 w9 e9 (by omega) s _ _ (r:Int) (by omega) m0 m1 m11 m12 m13 h9 fun b1 v1 e1 y1 t1 n0 n1 n11 n12 hb1=>?_
    show Exit.inBlock 5 _ .normal b1 v1
    refine f10 _ _ ?_
    show (cAt [1,1,1,1,1,1,0,1,0,0,1,1] ia0).wp _ _ _ _
    refine hb1.run hG (f:=200) (nt:=129) (by kernel_rfl) (by omega) ?_
    simp [ia0,bodyOf,Tryz.f200,n0,n1,n11,n12,hwn]
    intro b2 v2 y2 t2 hb2
    exact hgo (i+n) _ _ (by omega) (iaI_of ok0 w0 a s (i+n) _ _ _ (by omega) (by rw [t2,t1,d9]) hin hnext (by simp [look]) (by simp [look]) (by simp [look]) hb2)
   refine h4.run hG (f:=200) (nt:=129) (by kernel_rfl) (by omega) ?_
   rcases hcond with ⟨c1,c2,c3⟩ | c1
   ·simp [cL,ia0,bodyOf,Tryz.f200,c1,c2,c3,hgm]
    intro a9 w9 z9 d9 h9
    exact hst a9 w9 _ (by omega) (by rw [d9,d4,d3,d2,d1,dd]) (by simp [look]) (by simp [look]) (by simp [look]) (by simp [look]) (by simp [look]) h9
   ·simp [cL,ia0,bodyOf,Tryz.f200,c1]
    intro a9 w9 z9 d9 h9
    exact hst a9 w9 _ (by omega) (by rw [d9,d4,d3,d2,d1,dd]) (by simp [look]) (by simp [look]) (by simp [look]) (by simp [look]) (by simp [look,c1]) h9
end Go.Ev.S
namespace Go.Ev.S
open Go Go.Proofs Go.Ev Go.RowKit
set_option maxHeartbeats 4000000 in
set_option maxRecDepth 4000 in
theorem ia_many [MaxL] [TxtC] (hT:TxtRun) (s:List UInt8) (h2:2≤s.length) (h8:s.length≤8) (ok0:Nat→Prop) (w0:World) (a:Act) (ht:129≤a.tmps.size) (hd:a.defers = []) (h:PSt cx ok0 w0 (argEnv 0 [.vsl false (ofBytes s) s.length,.str [61,10]]) [] a w0):ia0.wp cx.P (iaQ ok0 w0 (anyI s 0)) a w0:=by
 have hG:=good hT
 have hn1:¬ (s.length:Int) = 1:=by omega
 have hus:=ia_use s.length
 have hn8:¬ 8 < s.length:=by omega
 simp only [hn8,decide_false] at hus
 refine wp_ofSeq' (c:=ia0) rfl fun K1 f1 g1=>?_
 refine h.run hG (f:=200) (nt:=129) (by kernel_rfl) (by omega) ?_
 simp [cL,ia0,bodyOf,Tryz.f200]
 intro a1 w1 z1 d1 h1
 refine f1 _ _ ?_
 show (cAt [1] ia0).wp _ _ _ _
 refine wp_ofSeq' (c:=(cAt [1] ia0)) rfl fun K2 f2 g2=>?_
 refine h1.run hG (f:=200) (nt:=129) (by kernel_rfl) (by omega) ?_
 simp [cL,ia0,bodyOf,Tryz.f200]
 intro a2 w2 z2 d2 h2
 refine f2 _ _ ?_
 show (cAt [1,1] ia0).wp _ _ _ _
 refine wp_ofSeq' (c:=(cAt [1,1] ia0)) rfl fun K3 f3 g3=>?_
 refine h2.run hG (f:=200) (nt:=129) (by kernel_rfl) (by omega) ?_
 simp [cL,ia0,bodyOf,Tryz.f200,hn1]
 intro a3 w3 z3 d3 h3
 refine f3 _ _ ?_
 show (cAt [1,1,1] ia0).wp _ _ _ _
 refine wp_ofSeq' (c:=(cAt [1,1,1] ia0)) rfl fun K4 f4 g4=>?_
 refine h3.run hG (f:=200) (nt:=129) (by kernel_rfl) (by omega) ?_
 simp [cL,ia0,bodyOf,Tryz.f200]
 intro a4 w4 z4 d4 h4
 refine f4 _ _ ?_
 show (cAt [1,1,1,1] ia0).wp _ _ _ _
 refine wp_ofSeq' (c:=(cAt [1,1,1,1] ia0)) rfl fun K5 f5 g5=>?_
 refine h4.run hG (f:=200) (nt:=129) (by kernel_rfl) (by omega) ?_
 simp [cL,ia0,bodyOf,Tryz.f200,hus]
 intro a5 w5 z5 d5 h5
 refine f5 _ _ ?_
 show (cAt [1,1,1,1,1] ia0).wp _ _ _ _
 refine wp_ofSeq' (c:=(cAt [1,1,1,1,1] ia0)) rfl fun K6 f6 g6=>?_
 refine h5.run hG (f:=200) (nt:=129) (by kernel_rfl) (by omega) ?_
 simp [cL,ia0,bodyOf,Tryz.f200]
 intro a6 w6 z6 d6 h6
 refine f6 _ _ ?_
 show (cAt [1,1,1,1,1,1] ia0).wp _ _ _ _
 refine wp_ofSeq' (c:=(cAt [1,1,1,1,1,1] ia0)) rfl fun K0 f0 g0=>?_
 refine wp_ofSeq' (c:=(cAt [1,1,1,1,1,1,0] ia0)) rfl fun K7 f7 g7=>?_
 refine h6.run hG (f:=200) (nt:=129) (by kernel_rfl) (by omega) ?_
 simp [cL,ia0,bodyOf,Tryz.f200]
 intro a7 w7 z7 d7 h7
 refine f7 _ _ ?_
 show (Code.block 4 (.loop _)).wp _ _ _ _
 have hI0:iaI ok0 w0 a s 0 a7 w7:=iaI_of ok0 w0 a s 0 _ _ _ (by omega) (by rw [d7,d6,d5,d4,d3,d2,d1,hd]) (by omega) (by simp) (by simp [look]) (by simp [look]) (by simp [look]) h7
 refine wp_block (wp_loop (fun a' w'=>∃ i,iaI ok0 w0 a s i a' w') (fun a' _=>s.length - (iaOf (a'.tmps.getD 12 undef)).toNat) ⟨0,hI0⟩ ?_)
 rintro a9 w9 ⟨i,hI⟩
 have hmu:∀ {i:Nat} {a9:Act} {w9:World},iaI ok0 w0 a s i a9 w9→(iaOf (a9.tmps.getD 12 undef)).toNat = i:=by
  rintro i a9 w9 ⟨_,_,_,_,e,_,_,k12,h⟩
  rw [h.slotI k12]
  simp [iaOf]
 rw [hmu hI]
 have hle:=hI.2.2.1
 by_cases hlt:i < s.length
 ·refine ia_round hT s h8 ok0 w0 a ht i a9 w9 hI hlt ?_ ?_
  ·intro a' w' hq
   show K0 .ret a' w'
   exact g0 _ _ _ (by intro e;cases e) hq
  ·intro i' a' w' hi' hI'
   refine ⟨⟨i',hI'⟩,?_⟩
   rw [hmu hI']
   have:=hI'.2.2.1
   omega
 ·obtain ⟨zz,dd,hi,hany,e,k0,k1,k12,hp⟩:=hI
  have hie:i = s.length:=by omega
  subst hie
  rw [List.drop_length,anyI] at hany
  show (cAt [1,1,1,1,1,1,0,1,0,0] ia0).wp _ _ _ _
  refine hp.run hG (f:=200) (nt:=129) (by kernel_rfl) (by omega) ?_
  simp [ia0,bodyOf,Tryz.f200,k0,k1,k12]
  intro b1 v1 y1 t1 hb1
  show K0 .normal b1 v1
  refine f0 _ _ ?_
  show (cAt [1,1,1,1,1,1,1] ia0).wp _ _ _ _
  refine hb1.run hG (f:=200) (nt:=129) (by kernel_rfl) (by omega) ?_
  simp [ia0,bodyOf,Tryz.f200]
  intro b2 v2 y2 t2 hb2
  exact ⟨rfl,by rw [t2,t1,dd],_,by simp [look,← hany],hb2⟩
def conAny (args:List D) (H:Heap):Option (D × Heap):=match args,H with
 | [.vsl false ds n,.str t],[]=>match bytesR ds with
  | some s=>if s.length = n∧1≤n∧n≤8∧t = [61,10] then some (.int .i64 (anyI s 0),[]) else none
  | none=>none
 | _,_=>none
theorem conAny_inv {args:List D} {H:Heap} {q:D × Heap} (h:conAny args H = some q):∃ s:List UInt8,args = [.vsl false (ofBytes s) s.length,.str [61,10]]∧H = []∧1≤s.length∧s.length≤8∧q = (.int .i64 (anyI s 0),[]):=by
 unfold conAny at h
 split at h
 ·rename_i ds n t
  cases hr:bytesR ds with
  | none=>rw [hr] at h;cases h
  | some s =>
   rw [hr] at h
   simp only at h
   split at h
   ·rename_i hc
    obtain ⟨c1,c2,c3,c4⟩:=hc
    injection h with h
    subst c1
    subst c4
    exact ⟨s,by rw [bytesR_inv hr],rfl,c2,c3,h.symm⟩
   ·cases h
 ·cases h
set_option maxRecDepth 4000 in
theorem conAny_run [MaxL] {T:TxtC} {args:List D} {H:Heap} {r:D} {H':Heap} (h:conAny args H = some (r,H')) {ok:Nat→Prop} {w:World} {ι:Iota} {vs:List Value} (hs:Sim (@cx _ T) ok w ι H) (hv:RepL ok w ι H args vs):Goes Tryz.prog (callFunc 200 vs.toArray) w (CallPost (@cx _ T) ok w ι H r H'):=by
 obtain ⟨s,rfl,rfl,h1,h8,e⟩:=conAny_inv h
 injection e with e1 e2
 subst e1
 subst e2
 have:=call_hand (X:=@cx _ txt0) (f:=200) (c:=ia0) (r:=.int .i64 (anyI s 0)) Tryz.func200 rfl rfl (by intro d hd;simp only [List.mem_cons,List.not_mem_nil,or_false] at hd;rcases hd with rfl | rfl <;> simp [idFree]) ⟨hs.okS,hs.glob,hs.inj,hs.blk⟩ hv fun a z1 z2 he hs0=>wp_mono (Q:=@iaQ _ txt0 ok w (anyI s 0)) ?_ ?_
 ·refine this.mono ?_
  rintro v w' ⟨ι',ok',k1,k2,k3,k4⟩
  exact ⟨ι',ok',⟨k1.okS,k1.glob,k1.inj,k1.blk⟩,k2,k3,k4⟩
 ·have hp:@PSt (@cx _ txt0) ok w (argEnv 0 [.vsl false (ofBytes s) s.length,.str [61,10]]) [] a w:=⟨⟨ok,iota0,hs0,he,.refl _ (Nat.le_refl _)⟩⟩
  have hz:129≤a.tmps.size:=by rw [z1];exact Nat.le_max_right _ _
  by_cases h2:2≤s.length
  ·exact @ia_many _ txt0 txt0_run s h2 h8 ok w a hz z2 hp
  ·match s,h1,h2,hp with
   | [c],_,_,hp=>exact @ia_one _ txt0 txt0_run c ok w a hz z2 hp
   | c :: d :: s,_,h2,_=>simp at h2
 ·rintro x a' w' ⟨rfl,y1,e',k4,hp⟩
  refine ⟨.inr rfl,y1,e',_,[.int .i64 (anyI s 0)],hp,?_,?_⟩
  ·simp [Tryz.f200,resD,k4]
  ·simp [packR,oneOrTup]
end Go.Ev.S
namespace Go.Ev.S
open Go Go.Proofs Go.Ev Go.RowKit
noncomputable instance txt1:TxtC:=⟨fun f=>if f = 64 then conText else if f = 200 then conAny else fun _ _=>none⟩
set_option maxRecDepth 100000 in
theorem txt1_run [MaxL]:TxtRun:=by
 intro f args H r H' h ok w ι vs hs hv
 replace h:(if f = 64 then conText else if f = 200 then conAny else fun _ _=>none) args H = some (r,H'):=h
 by_cases h1:f = 64
 ·rw [if_pos h1] at h
  subst h1
  exact conText_run h hs hv
 ·rw [if_neg h1] at h
  by_cases h2:f = 200
  ·rw [if_pos h2] at h
   subst h2
   exact conAny_run h hs hv
  ·rw [if_neg h2] at h
   cases h
end Go.Ev.S
namespace Go.Ev.S
open Go Go.Proofs Go.Ev Go.RowKit
theorem ite_run {X:Cx} {f nt n0:Nat} {K:Ex→Env→Heap→Prop} {fr:List Fr} {dr:Bool} {l:List SOp} {e:Env} {d:Option Tmp} {a b:Nat} {x:D × Heap} (h:a≤b) (hr:RunK X f nt n0 K fr dr l e d (some x)):RunK X f nt n0 K fr dr l e d (if a≤b then some x else none):=by rw [if_pos h];exact hr
def kGap:List UInt8:=[95,95,71,65,80,61]
def textG (it:It):List UInt8:=kGap ++ (dec it.fr.toNat ++ (45 :: (dec it.til.toNat ++ (10 :: (kId ++ (hexs it.id.l ++ [10,10]))))))
def textL (it:It):List UInt8:=if it.gap then textG it else textR it
def textD (it:It):D:=if itOk it then .vsl false (ofBytes (textL it)) (textL it).length else .vsl true [] 0
end Go.Ev.S
