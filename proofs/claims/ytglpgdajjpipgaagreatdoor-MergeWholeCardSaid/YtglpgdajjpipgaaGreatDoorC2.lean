import Derived.Test.YtglpgdajjpipgaaGreatDoorC1
import Derived.Scope
import Derived.LoopN
import Derived.Shelf.Abstract
import Derived.Orders
namespace Go.Ev
section
variable {X:Cx} {ok ok':Nat->Prop} {w w':World} {ι:qV} {H H':qe}
theorem qhU{d:D}{v:Value}(h:Rep ok w ι H d v)(a:v.oneCell'=true):ju d=true:=by
 cases h<;>first|rfl|exact a|simp[Value.oneCell'] at a
theorem QE:∀(l:List Nat)(H:qe),(jT H l).length=H.length
 |[],H=>rfl
 |i::l,H=>by rw[jT,QE l,vI]
theorem qfn:∀(l:List Nat)(H:qe){j:Nat}{ds:List D},qd (jT H l) j=some ds->qd H j=some ds/\j∉l
 |[],H,j,ds,h=>⟨h,wE⟩
 |i::l,H,j,ds,h=>by
  obtain⟨a,c⟩:=qfn l _ h;unfold qd at a;by_cases b:i=j
  .subst b;rw[List.getElem?_set] at a;simp only[if_true] at a;split at a<;>simp at a
  .rw[List.getElem?_set_ne b] at a;exact⟨a,by simp only[jI,not_or];exact⟨fun h=>b h.symm,c⟩⟩
def Yk(ok:Nat->Prop)(ι:qV)(H:qe)(l:List Nat)(b:Nat):Prop:=ok b\/∃i ds s,i∈l/\qd H i=some ds/\ι i=some (b,s)
theorem qcQ{okF:Nat->Prop}{cond:Nat->Prop}{g:D->Option (D×List Nat)}
  (f:∀d d' l v,Rep ok w ι H d v->g d=some (d',l)->(∀i,i∈l->cond i)->Rep okF w jB [] d' v):
  ∀(ds:List D){ds':List D}{l:List Nat}{vs:Nat->Value},(∀(j:Nat) d,ds[j]?=some d->Rep ok w ι H d (vs j))->kg g ds=some (ds',l)->(∀i,i∈l->cond i)->
   ds.length=ds'.length/\∀(j:Nat) d,ds'[j]?=some d->Rep okF w jB [] d (vs j)
 |[],ds',l,vs,_,h,_=>by
  simp only[kg,qy,zj] at h;obtain⟨rfl,rfl⟩:=h;simp
 |d::ds,ds',l,vs,c,h,e=>by
  simp only[kg] at h;split at h
  .rename_i p a q b m n;simp only[qy,zj] at h;obtain⟨rfl,rfl⟩:=h;obtain⟨k,o⟩:=qcQ f ds (vs:=fun j=>vs (j+1)) (fun j x hx=>c (j+1) x wo) n (fun i hi=>e i (List.mem_append_right _ hi));refine⟨xV,fun j x hx=>?_⟩;cases j with
   |zero=>
    simp only[kY,qy] at hx;subst hx;exact f d _ _ _ (c 0 d rfl) m fun i hi=>e i (qaA _ hi)
   |succ j=>exact o j x wo
  .cases h
theorem qeP(Q:Sim X ok w ι H){okF:Nat->Prop}(M:∀b,ok b->okF b):∀(n:Nat)(d d':D)(l:List Nat)(v:Value),Rep ok w ι H d v->j8 H n d=some (d',l)->
  (∀i,i∈l->∀ds b s,qd H i=some ds->ι i=some (b,s)->okF b)->Rep okF w jB [] d' v
 |0,d,d',l,v,_,h,_=>by simp[j8] at h
 |n+1,d,d',l,v,L,h,A=>by
  have E:=qeP Q M n;have g:idFree d=true->d'=d->Rep okF w jB [] d' v:=fun hf he=>by subst he;exact(L.free hf _ _).okMono M
  simp only[j8] at h;split at h
  .rename_i I;simp only[qy,zj] at h;exact g I h.1.symm
  rename_i z;clear z;cases L with
  |bool b=>simp only[qy,zj] at h;exact g rfl h.1.symm
  |int k n=>simp only[qy,zj] at h;exact g rfl h.1.symm
  |str s=>simp only[qy,zj] at h;exact g rfl h.1.symm
  |nilp=>simp only[qy,zj] at h;exact g rfl h.1.symm
  |nilf=>simp only[qy,zj] at h;exact g rfl h.1.symm
  |nili=>simp only[qy,zj] at h;exact g rfl h.1.symm
  |raw v=>simp only[qy,zj] at h;exact g rfl h.1.symm
  |vnil=>simp only[qy,zj] at h;exact g rfl h.1.symm
  |vptr a f ha hc L x=>simp only[qy,zj] at h;exact g rfl h.1.symm
  |vsl a f ha hc L x Y=>simp only[qy,zj] at h;exact g rfl h.1.symm
  | @agg _ _ cs vs p hc x=>
   simp only at h;cases m:kg (j8 H n) cs with
   |none=>simp[m] at h
   |some q=>
    obtain⟨F,K⟩:=q;simp only[m,j6,qy,zj] at h;obtain⟨rfl,rfl⟩:=h;obtain⟨r,B⟩:=qcQ (cond:=fun i=>∀ds b s,qd H i=some ds->ι i=some (b,s)->okF b) E cs x m A;refine .agg (by rw[p,r]) (fun d y=>?_) B;obtain⟨j,o⟩:=List.mem_iff_getElem?.1 y;have O:j<cs.length:=(by rw[r];exact(List.getElem?_eq_some_iff.1 o).1);have Z:cs[j]?=some cs[j]:=qN O;exact qhU (B j d o) ((x j _ Z).oneCell (hc _ (mem_of_get? Z)))
  | @tup _ _ cs vs p x=>
   simp only at h;cases m:kg (j8 H n) cs with
   |none=>simp[m] at h
   |some q=>
    obtain⟨F,K⟩:=q;simp only[m,j6,qy,zj] at h;obtain⟨rfl,rfl⟩:=h;obtain⟨r,B⟩:=qcQ (cond:=fun i=>∀ds b s,qd H i=some ds->ι i=some (b,s)->okF b) E cs x m A;exact .tup (by rw[p,r]) B
  | @fn _ _ f cs vs p x=>
   simp only at h;cases m:kg (j8 H n) cs with
   |none=>simp[m] at h
   |some q=>
    obtain⟨F,K⟩:=q;simp only[m,j6,qy,zj] at h;obtain⟨rfl,rfl⟩:=h;obtain⟨r,B⟩:=qcQ (cond:=fun i=>∀ds b s,qd H i=some ds->ι i=some (b,s)->okF b) E cs x m A;exact .fn (by rw[p,r]) B
  |iface x=>
   simp only at h;rename_i t d v;cases m:j8 H n d with
   |none=>simp[m] at h
   |some q=>
    obtain⟨d1,K⟩:=q;simp only[m,j6,qy,zj] at h;obtain⟨rfl,rfl⟩:=h;exact .iface (E d _ _ _ x m A)
  | @optr _ _ i st off a hi x=>
   simp only at h;split at h
   .rename_i ds y;split at h
    .rename_i m;obtain⟨b,s,J,rfl⟩:=(x ds y).2 m;obtain⟨b',arr,e,fr,r,B,T,k4,k5,U,k7,G⟩:=Q.blk i ds y;have R:=J;rw[J] at r;injection r with r;injection r with r _;subst r
     have main:∀ds':List D,ds.length=ds'.length->(∀(j:Nat) d,ds'[j]?=some d->Rep okF w jB [] d (arr.getD j undef))->i∈l->Rep okF w jB [] (.vptr (ds'.drop off)) (.pointer (some ⟨b,off,none⟩)):=by
      intro ds' p u S;refine .vptr _ (fun j=>arr.getD (off+j) undef) (fun _ _=>A i S ds b s y R) (fun d V=>?_) (fun j d o=>?_) (fun j d o=>?_)
      .obtain⟨j,o⟩:=List.mem_iff_getElem?.1 (Z0 V);have O:j<ds.length:=(by rw[p];exact(List.getElem?_eq_some_iff.1 o).1);exact qhU (u j d o) (U j wC)
      .rw[kX] at o;have P:off+j<arr.size:=(by have:=(List.getElem?_eq_some_iff.1 o).1;omega);rw[Vq,YI T];simp[P]
      .rw[kX] at o;exact u _ d o
     split at h
     .rename_i I;simp only[qy,zj] at h;obtain⟨rfl,rfl⟩:=h;exact main ds rfl (fun j d o=>((G j d o).free ((qdi _).1 I d (mem_of_get? o)) _ _).okMono M) wE
     .split at h
      .rename_i ds' K W;simp only[qy,zj] at h;obtain⟨rfl,rfl⟩:=h;obtain⟨N,e2⟩:=qcQ (cond:=fun i=>∀ds b s,qd H i=some ds->ι i=some (b,s)->okF b) E ds (vs:=fun j=>arr.getD j undef) G W (fun i hi=>A i (vq _ hi));exact main ds' N e2 wE
      .cases h
    .cases h
   .cases h
  | @osl _ _ i st off C k c a hi x Y=>
   simp only at h;split at h
   .rename_i ds y;split at h
    .rename_i m;obtain⟨b,s,J,rfl,q3⟩:=(x ds y).2 m.1;obtain⟨b',arr,e,fr,r,B,T,k4,k5,U,k7,G⟩:=Q.blk i ds y;have R:=J;rw[J] at r;injection r with r;injection r with r _;subst r
     have main:∀ds':List D,ds.length=ds'.length->(∀(j:Nat) d,ds'[j]?=some d->Rep okF w jB [] d (arr.getD j undef))->i∈l->Rep okF w jB [] (.vsl false ((ds'.drop off).take (C*k)) C) (.slice (some ⟨b,off,none⟩) C c):=by
      intro ds' p u S;refine .vsl _ (fun j=>arr.getD (off+j) undef) (fun _ _=>A i S ds b s y R) (fun d V=>?_) (fun j d o=>?_) (fun j d o=>?_) Y
      .obtain⟨j,o⟩:=List.mem_iff_getElem?.1 (Z0 (QZ V));have O:j<ds.length:=(by rw[p];exact(List.getElem?_eq_some_iff.1 o).1);exact qhU (u j d o) (U j wC)
      .rw[Xw] at o;split at o
       .rw[kX] at o;have P:off+j<arr.size:=(by have:=(List.getElem?_eq_some_iff.1 o).1;omega);rw[Vq,YI T];simp[P]
       .cases o
      .rw[Xw] at o;split at o
       .rw[kX] at o;exact u _ d o
       .cases o
     split at h
     .rename_i I;simp only[qy,zj] at h;obtain⟨rfl,rfl⟩:=h;exact main ds rfl (fun j d o=>((G j d o).free ((qdi _).1 I d (mem_of_get? o)) _ _).okMono M) wE
     .split at h
      .rename_i ds' K W;simp only[qy,zj] at h;obtain⟨rfl,rfl⟩:=h;obtain⟨N,e2⟩:=qcQ (cond:=fun i=>∀ds b s,qd H i=some ds->ι i=some (b,s)->okF b) E ds (vs:=fun j=>arr.getD j undef) G W (fun i hi=>A i (vq _ hi));exact main ds' N e2 wE
      .cases h
    .cases h
   .cases h
theorem qe6(l:List Nat):Evol H.length ok w ι H (Yk ok ι H l) w ι (jT H l):=
 ⟨rfl,rfl,rfl,qA _,fun _ _ _=>rfl,fun _ h=>.inl h,fun b h _=>h.imp id fun⟨i,ds,s,_,a,hi⟩=>⟨i,ds,s,a,hi⟩,⟨qA _,by rw[QE];exact qA _⟩,
  fun i _ ds a=>⟨ds,(qfn l H a).1,qA _,fun _=>rfl⟩,fun i ds b s a hi _=>⟨i,ds,s,(qfn l H a).1,hi⟩⟩
theorem qgM(a:Sim X ok w ι H)(l:List Nat):Sim X (Yk ok ι H l) w ι (jT H l) where
 okS b c:=by
  rcases c with c|⟨i,ds,s,_,f,hi⟩
  .exact a.okS b c
  .exact a.lt f hi
 glob g cs hg:=(a.glob g cs hg).okMono fun b c=>.inl c
 inj i j ds es b s s' f he hi h:=a.inj i j ds es b s s' (qfn l H f).1 (qfn l H he).1 hi h
 blk i ds f:=by
  obtain⟨n,x⟩:=qfn l H f;obtain⟨b,arr,e,fr,k,v,p,r,z,A,q,m⟩:=a.blk i ds n;refine⟨b,arr,e,fr,k,?_,p,r,z,A,q,fun j d h=>(m j d h).evol a (qe6 l) (m j d h).closed⟩;rintro(c|⟨y,ds',s,t,o,u⟩)
  .exact v c
  .have:=a.inj y i ds' ds b s arr.size o n u k;subst this;exact x t
theorem qhL:∀(a e:qu)(t:Nat),qi (a++e) t=(qi a t).or (qi e t)
 |[],e,t=>by simp[qi]
 |(s,d)::a,e,t=>by
  simp only[kC,qi];by_cases h:s=t
  .simp[h]
  .simp only[h,if_false];exact qhL a e t
theorem qjp(j:Sim X ok w ι H){e:qu}{tmps:Array Value}(m:EnvRep ok w ι H e tmps){okF:Nat->Prop}(k:∀b,ok b->okF b):∀(f:List Nat){g:qu}{l:List Nat},qdY H e f=some (g,l)->
  (∀i,i∈l->∀ds b s,qd H i=some ds->ι i=some (b,s)->okF b)->EnvRep okF w jB [] g tmps
 |[],g,l,h,_=>by
  simp only[qdY,qy,zj] at h;obtain⟨rfl,rfl⟩:=h;intro t d c;simp[qi] at c
 |s::f,g,l,h,n=>by
  simp only[qdY] at h;split at h
  .exact qjp j m k f h n
  .rename_i d y;split at h
   .rename_i z a A b u r;simp only[qy,zj] at h;obtain⟨rfl,rfl⟩:=h;have q:=qjp j m k f r fun i hi=>n i (List.mem_append_right _ hi);intro t x c;simp only[qi] at c;split at c
    .rename_i o;subst o;injection c with c;subst c;obtain⟨p,v⟩:=m _ _ y;exact⟨p,qeP j k _ _ _ _ _ v u fun i hi=>n i (qaA _ hi)⟩
    .exact q t x c
   .cases h
theorem q3S{m:List Nat}{e o:qu}{tmps:Array Value}(h:qfr m e H=some (o,H'))(g:Sim X ok w ι H)(n:EnvRep ok w ι H e tmps):
  ∃ok',Sim X ok' w ι H'/\EnvRep ok' w ι H' o tmps/\Evol H.length ok w ι H ok' w ι H':=by
 unfold qfr at h;split at h
 .rename_i p l k;simp only[qy,zj] at h;obtain⟨rfl,rfl⟩:=h;refine⟨Yk ok ι H l,qgM g l,fun t d a=>?_,qe6 l⟩;rw[qhL] at a;cases hx:qi p t with
  |some x=>
   rw[hx] at a;simp only[Option.some_or,qy] at a;subst a;obtain⟨f,c⟩:=qjp g n (okF:=Yk ok ι H l) (fun b j=>.inl j) m k (fun i hi ds b s q j=>.inr ⟨i,ds,s,hi,q,j⟩) t x hx;exact⟨f,c.lift⟩
  |none=>
   rw[hx,Option.none_or] at a;obtain⟨f,c⟩:=n t d a;exact⟨f,c.evol g (qe6 l) c.closed⟩
 .cases h
theorem qmi{e:qu}:∀{S:List Nat}{ds:List D},qaG e S=some ds->S.length=ds.length/\∀(j:Nat) s d,S[j]?=some s->ds[j]?=some d->qi e s=some d
 |[],ds,h=>by
  simp only[qaG,qy] at h;subst h;simp
 |s::l,ds,h=>by
  simp only[qaG] at h;split at h
  .rename_i d ds' g i;injection h with h;subst h;obtain⟨c,k⟩:=qmi i;refine⟨by simp[c],fun j f d' a b=>?_⟩;cases j with
   |zero=>
    simp only[kY,qy] at a b;subst a;subst b;exact g
   |succ j=>exact k j f d' wr xQ
  .cases h
theorem qoV:∀{S:List Nat}{ds:List D}{t:Nat}{d:D},qi (Xx S ds) t=some d->∃j:Nat,S[j]?=some t/\ds[j]?=some d
 |[],_,t,d,h=>by simp[Xx,qi] at h
 |_::_,[],t,d,h=>by simp[Xx,qi] at h
 |s::S,x::ds,t,d,h=>by
  simp only[Xx,qi] at h;split at h
  .rename_i a;subst a;injection h with h;subst h;exact⟨0,rfl,rfl⟩
  .obtain⟨j,c,b⟩:=qoV h;exact⟨j+1,wS,xQ⟩
theorem qhJ:∀{ks:List Nat}{e:qu}{t:Nat}{d:D},qi (Qf ks e) t=some d->qi e t=some d
 |[],e,t,d,h=>by simp[Qf,qi] at h
 |k::ks,e,t,d,h=>by
  simp only[Qf] at h;split at h
  .rename_i x a;simp only[qi] at h;split at h
   .rename_i b;subst b;rw[a];exact h
   .exact qhJ h
  .exact qhJ h
theorem qoX{n:Nat}:∀{e:qu}{t:Nat}{d:D},qc1 n e=true->qi e t=some d->closed n d=true
 |[],t,d,_,h=>by simp[qi] at h
 |(s,x)::e,t,d,hc,h=>by
  simp only[qc1,zX] at hc;simp only[qi] at h;split at h
  .injection h with h;subst h;exact hc.1
  .exact qoX hc.2 h
theorem qyv{n0:Nat}{S ks:List Nat}{e p:qu}{tmps:Array Value}(h:qhu n0 S ks e H=some (p,H'))(u:n0<=H.length)(o:Sim X ok w ι H)(g:EnvRep ok w ι H e tmps):
  ∃ι',Sim X ok w ι' H'/\EnvRep ok w ι' H' p tmps/\Evol n0 ok w ι H ok w ι' H':=by
 unfold qhu at h;split at h
 .cases h
 .rename_i ds v;split at h
  .rename_i ds' G q;split at h
   .rename_i hc;simp only[qy,zj] at h;obtain⟨rfl,rfl⟩:=h;obtain⟨k,m⟩:=qmi v
    have f:Rep ok w ι H (.tup ds) (.tuple (S.map fun s=>tmps.getD s undef).toArray):=by
     refine .tup xV fun j d l=>?_;have c:j<S.length:=(by rw[k];exact(List.getElem?_eq_some_iff.1 l).1);have C:S[j]?=some S[j]:=qN c;have:=(g _ _ (m j _ d C l)).2;simpa[j7,c] using this
    obtain⟨ι2,z,A,n,F⟩:=qnW u o f q;refine⟨ι2,z,fun t d a=>?_,n⟩;rw[qhL] at a;cases hx:qi (Xx S ds') t with
    |some x=>
     rw[hx] at a;simp only[Option.some_or,qy] at a;subst a;obtain⟨j,b,i⟩:=qoV hx;have c:j<S.length:=(List.getElem?_eq_some_iff.1 b).1;have B:j<ds.length:=wC;refine⟨(g _ _ (m j t _ b (qN B))).1,?_⟩;cases A with
     |tup E y=>
      have:=y j x i;have r:S[j]=t:=(by rw[qN c] at b;exact Option.some.inj b);simpa[j7,c,r] using this
    |none=>
     rw[hx,Option.none_or] at a;obtain⟨b,i⟩:=g t d (qhJ a);exact⟨b,i.evol o n (qoX hc a)⟩
   .cases h
  .cases h
theorem qkH:∀{p:List Nat}{i k j:Nat},JE p i k=some j->k<=j/\p[j-k]?=some i
 |[],i,k,j,h=>by cases h
 |a::l,i,k,j,h=>by
  simp only[JE] at h;split at h
  .rename_i c;injection h with h;subst h;subst c;exact⟨qA _,wE⟩
  .obtain⟨d,b⟩:=qkH h;refine⟨wC,?_⟩;rw[show j-k=(j-(k+1))+1 from wC,qeF];exact b
theorem qfZ{p:List Nat}:∀{cs ds:List D},renD.renL p cs=some ds->ds.length=cs.length
 |[],ds,h=>by
  simp only[renD.renL,qy] at h;subst h;rfl
 |c::cs,ds,h=>by
  simp only[renD.renL] at h;split at h
  .rename_i d l b a;injection h with h;subst h;simp[qfZ a]
  .cases h
theorem qec{p:List Nat}:∀{cs ds:List D},renD.renL p cs=some ds->∀{j:Nat}{d:D},ds[j]?=some d->∃c,cs[j]?=some c/\renD p c=some d
 |[],ds,h,j,d,a=>by
  simp only[renD.renL,qy] at h;subst h;simp at a
 |c::cs,ds,h,j,d,a=>by
  simp only[renD.renL] at h;split at h
  .rename_i f l e b;injection h with h;subst h;cases j with
   |zero=>
    simp only[kY,qy] at a;subst a;exact⟨c,rfl,e⟩
   |succ j=>exact qec b wr
  .cases h
theorem qn8{p:List Nat}{c d:D}(h:renD p c=some d)(hc:ju c=true):ju d=true:=by
 cases c<;>simp only[renD,KD,qy] at h<;>first|(simp[ju] at hc;done)|(obtain⟨_,_,rfl⟩:=h;rfl)|(subst h;exact hc)
theorem qn1{p:List Nat}{ι2:qV}{F:qe}(K:∀i j,JE p i 0=some j->i<H.length->j<F.length/\ι2 j=ι i/\∀ds2,qd F j=some ds2->∃ds,qd H i=some ds/\ds.length=ds2.length)
  {ι1:qV} {L:qe} {d:D} {v:Value} (h:Rep ok w ι1 L d v):ι1=ι->L=H->∀l,renD p d=some l->Rep ok w ι2 F l v:=by
 induction h with
 |bool b=>intro _ _ l e;simp only[renD,qy] at e;subst e;exact .bool b
 |int k n=>intro _ _ l e;simp only[renD,qy] at e;subst e;exact .int k n
 |str s=>intro _ _ l e;simp only[renD,qy] at e;subst e;exact .str s
 |nilp=>intro _ _ l e;simp only[renD,qy] at e;subst e;exact .nilp
 |nilf=>intro _ _ l e;simp only[renD,qy] at e;subst e;exact .nilf
 |nili=>intro _ _ l e;simp only[renD,qy] at e;subst e;exact .nili
 |raw v=>intro _ _ l e;simp only[renD,qy] at e;subst e;exact .raw v
 |agg x hc h u=>
  intro m t l e;simp only[renD,KD] at e;obtain⟨cs,g,rfl⟩:=e;refine .agg (by rw[x,qfZ g]) (fun d e=>?_) (fun j d o=>?_)
  .obtain⟨j,o,M⟩:=List.getElem_of_mem e;obtain⟨c,r,q⟩:=qec g (show cs[j]?=some d by rw[qN o,M]);exact qn8 q (hc c (mem_of_get? r))
  .obtain⟨c,r,q⟩:=qec g o;exact u j c r m t d q
 |tup x h u=>
  intro m t l e;simp only[renD,KD] at e;obtain⟨cs,g,rfl⟩:=e;refine .tup (by rw[x,qfZ g]) (fun j d o=>?_);obtain⟨c,r,q⟩:=qec g o;exact u j c r m t d q
 |fn x h u=>
  intro m t l e;simp only[renD,KD] at e;obtain⟨cs,g,rfl⟩:=e;refine .fn (by rw[x,qfZ g]) (fun j d o=>?_);obtain⟨c,r,q⟩:=qec g o;exact u j c r m t d q
 |iface h u=>
  intro m t l e;simp only[renD,KD] at e;obtain⟨c,g,rfl⟩:=e;exact .iface (u m t c g)
 |optr a hi C=>
  intro m t l e;subst m;subst t;simp only[renD,KD] at e;obtain⟨j,o,rfl⟩:=e;obtain⟨r,q,I⟩:=K _ j o hi;refine .optr a r fun ds2 vn=>?_;obtain⟨ds,J,E⟩:=I ds2 vn;obtain⟨z,y⟩:=C ds J;rw[E] at z y;rw[q];exact⟨z,y⟩
 |osl a hi C A=>
  intro m t l e;subst m;subst t;simp only[renD,KD] at e;obtain⟨j,o,rfl⟩:=e;obtain⟨r,q,I⟩:=K _ j o hi;refine .osl a r (fun ds2 vn=>?_) A;obtain⟨ds,J,E⟩:=I ds2 vn;obtain⟨z,y⟩:=C ds J;rw[E] at z y;rw[q];exact⟨z,y⟩
 |vptr a f G hc B h u=>intro _ _ l e;simp only[renD,qy] at e;subst e;exact .vptr a f G hc B h
 |vnil=>intro _ _ l e;simp only[renD,qy] at e;subst e;exact .vnil
 |vsl a f G hc B h A u=>intro _ _ l e;simp only[renD,qy] at e;subst e;exact .vsl a f G hc B h A
theorem qjI{p:List Nat}:∀{l:List Nat}{L:qe},Yf p H l=some L->L.length=l.length/\∀{j:Nat}{ds2:List D},qd L j=some ds2->∃i ds,l[j]?=some i/\qd H i=some ds/\Yg p ds=some ds2
 |[],L,h=>by
  simp only[Yf,qy] at h;subst h;exact⟨rfl,fun{j ds2} a=>xP⟩
 |i::l,L,h=>by
  simp only[Yf] at h;split at h
  .cases h
  .rename_i ds m;split at h
   .rename_i ds' q n o;injection h with h;subst h;obtain⟨g,d⟩:=qjI o;refine⟨by simp[g],fun{j ds2} a=>?_⟩;cases j with
    |zero=>
     simp only[qd,kY,Va,qy] at a;subst a;exact⟨i,ds,rfl,m,n⟩
    |succ j=>
     obtain⟨e,b,c,k,f⟩:=d (j:=j) (ds2:=ds2) (by simpa[qd] using a);exact⟨e,b,wS,k,f⟩
   .cases h
theorem qjH{p:List Nat}:∀{l:List Nat}{L:qe},Yf p H l=some L->∀{j i:Nat},l[j]?=some i->∃ds ds2,qd H i=some ds/\Yg p ds=some ds2/\qd L j=some ds2
 |[],L,h,j,i,c=>by simp at c
 |o::l,L,h,j,i,c=>by
  simp only[Yf] at h;split at h
  .cases h
  .rename_i ds k;split at h
   .rename_i ds' n e m;injection h with h;subst h;cases j with
    |zero=>
     simp only[kY,qy] at c;subst c;exact⟨ds,ds',k,e,by simp[qd]⟩
    |succ j=>
     obtain⟨a,b,d,g,f⟩:=qjH m (j:=j) (i:=i) wS;exact⟨a,b,d,g,by simpa[qd] using f⟩
   .cases h
theorem qhw{p:List Nat}{ds ds2:List D}(h:Yg p ds=some ds2):ds2.length=ds.length:=by
 unfold Yg at h;split at h
 .injection h with h;rw[h]
 .exact qfZ h
theorem qoW{p:List Nat}:∀{e c:qu},qbL p e=some c->∀{t:Nat}{f:D},qi c t=some f->∃d,qi e t=some d/\qaO p d=some f
 |[],c,h,t,f,a=>by
  simp only[qbL,qy] at h;subst h;simp[qi] at a
 |(s,d)::e,c,h,t,f,a=>by
  simp only[qbL] at h;split at h
  .rename_i d' m i l;injection h with h;subst h;simp only[qi] at a⊢;split at a
   .rename_i b;injection a with a;subst a;exact⟨d,by rw[if_pos b],i⟩
   .rename_i b;obtain⟨k,g,j⟩:=qoW l a;exact⟨k,by rw[if_neg b];exact g,j⟩
  .cases h
theorem qfO:∀n,(VL n).length=n
 |0=>rfl
 |n+1=>by rw[VL,zp,qfO n];rfl
theorem qmk:∀{n i:Nat},i<n->(VL n)[i]?=some i
 |n+1,i,h=>by
  rw[VL];by_cases hi:i<n
  .rw[vJ (by rw[qfO];exact hi),qmk hi]
  .have:i=n:=wC;subst this;rw[jn (by rw[qfO];exact qA _),qfO,Nat.sub_self];rfl
theorem qjk{p:List Nat}{n0 i:Nat}(h:p.take n0=VL n0)(hi:i<n0):p[i]?=some i:=by
 rw[<-List.getElem?_take_of_lt hi,h,qmk hi]
theorem qwA{p:List Nat}{n0:Nat}(h:p.take n0=VL n0):n0<=p.length:=by
 have:=congrArg List.length h;rw[jj,qfO] at this;omega
theorem qjB{n0:Nat}{p:List Nat}{e P:qu}{tmps:Array Value}(h:YT n0 p e H=some (P,H'))(A:Sim X ok w ι H)(he:EnvRep ok w ι H e tmps):
  Sim X ok w (fun j=>ι (p.getD j 0)) H'/\EnvRep ok w (fun j=>ι (p.getD j 0)) H' P tmps/\Evol n0 ok w ι H ok w (fun j=>ι (p.getD j 0)) H':=by
 unfold YT at h;split at h
 .rename_i u G hE O;split at h
  .rename_i y;obtain⟨I,m⟩:=y;simp only[qy,zj] at h;obtain⟨rfl,rfl⟩:=h;obtain⟨M,v⟩:=qjI O
   have K:∀i j,JE p i 0=some j->i<H.length->j<G.length/\(fun j=>ι (p.getD j 0)) j=ι i/\∀ds2,qd G j=some ds2->∃ds,qd H i=some ds/\ds.length=ds2.length:=by
    intro i j Z _;obtain⟨-,z⟩:=qkH Z;rw[Nat.sub_zero] at z;have q:=(List.getElem?_eq_some_iff.1 z).1;refine⟨by rw[M];exact q,?_,fun ds2 vn=>?_⟩
    .show ι (p.getD j 0)=ι i;rw[jv,z];rfl
    .obtain⟨i',ds,g,k,n⟩:=v vn;rw[z] at g;injection g with g;subst g;exact⟨ds,k,(qhw n).symm⟩
   have hB:∀{ds ds2:List D}{f:Nat->Value},Yg p ds=some ds2->(∀(j:Nat) d,ds[j]?=some d->Rep ok w ι H d (f j))->∀(j:Nat) d,ds2[j]?=some d->Rep ok w (fun j=>ι (p.getD j 0)) G d (f j):=by
    intro ds ds2 f l r j d q;unfold Yg at l;split at l
    .rename_i vN;injection l with l;subst l;exact(r j d q).free ((qdi _).1 vN d (mem_of_get? q)) _ _
    .obtain⟨c,g,k⟩:=qec l q;exact qn1 K (r j c g) rfl rfl d k
   have U:∀{ds ds2:List D},Yg p ds=some ds2->(∀d,d∈ds->ju d=true)->∀d,d∈ds2->ju d=true:=by
    intro ds ds2 l hc d r;unfold Yg at l;split at l
    .injection l with l;subst l;exact hc d r
    .obtain⟨j,q,C⟩:=List.getElem_of_mem r;obtain⟨c,g,k⟩:=qec l (show ds2[j]?=some d by rw[qN q,C]);exact qn8 k (hc c (mem_of_get? g))
   refine⟨⟨A.okS,A.glob,?_,?_⟩,fun t E T=>?_,?_⟩
   .intro a b ds es B s s' F S L Q;obtain⟨o,x,g,k,n⟩:=v F;obtain⟨R,E,J,r2,r3⟩:=v S;have u:p.getD a 0=o:=(by rw[jv,g];rfl);have e2:p.getD b 0=R:=(by rw[jv,J];rfl);simp only[u] at L;simp only[e2] at Q;have:=A.inj o R x E B s s' k r2 L Q;subst this;obtain⟨XP,ac⟩:=List.getElem?_eq_some_iff.1 g;obtain⟨zR,aa⟩:=List.getElem?_eq_some_iff.1 J;exact(List.getElem?_inj XP I).1 (g.trans J.symm)
   .intro a ds2 F;obtain⟨o,x,g,k,n⟩:=v F;have u:p.getD a 0=o:=(by rw[jv,g];rfl);obtain⟨b,arr,ty,fr,u1,u2,u3,u4,u5,u6,V,u8⟩:=A.blk o x k;exact⟨b,arr,ty,fr,by show ι (p.getD a 0)=_;rw[u];exact u1,u2,u3,by rw[qhw n];exact u4,u5,u6,U n V,hB (f:=fun j=>arr.getD j undef) n u8⟩
   .obtain⟨d,g,k⟩:=qoW hE T;obtain⟨Y,N⟩:=he t d g;refine⟨Y,?_⟩;unfold qaO at k;split at k
    .rename_i W;injection k with k;subst k;exact N.free W _ _
    .exact qn1 K N rfl rfl E k
   .refine⟨rfl,rfl,rfl,qA _,fun _ _ _=>rfl,fun _ h=>h,fun _ h _=>.inl h,⟨?_,by rw[M];exact qwA m⟩,fun i hi ds2 vn=>?_,fun j ds2 b s r hi S=>?_⟩
    .rcases Nat.eq_zero_or_pos n0 with rfl|ZS
     .exact vg _
     .obtain⟨ds,_,g,_⟩:=qjH O (qjk m (show n0-1<n0 from wC));have:=qx g;omega
    .obtain⟨o,ds,g,k,n⟩:=v vn;rw[qjk m hi] at g;injection g with g;subst g;refine⟨ds,k,Nat.le_of_eq (qhw n).symm,fun _=>?_⟩;show ι (p.getD i 0)=ι i;rw[jv,qjk m hi];rfl
    obtain⟨o,x,g,k,n⟩:=v r;have u:p.getD j 0=o:=(by rw[jv,g];rfl);simp only[u] at hi;exact⟨o,x,s,k,hi⟩
  .cases h
 .cases h
theorem q04{S:List Nat}{ds:List D}{e:qu}(a:qaG e S=some ds):∀{t:Nat}{d:D},qi (Xx S ds) t=some d->qi e t=some d:=by
 induction S generalizing ds with
 |nil=>
  intro t d h;simp only[qaG,qy] at a;subst a;simp[Xx,qi] at h
 |cons s S c=>
  intro t d h;simp only[qaG] at a;split at a
  .rename_i j g i f;injection a with a;subst a;simp only[Xx,qi] at h;split at h
   .rename_i b;injection h with h;subst h;rw[<-b];exact i
   .exact c f h
  .cases a
theorem qn0{n0:Nat}{p:List Nat}{e a:qu}{tmps:Array Value}(h:YT n0 p e H=some (a,H'))(b:Sim X ok w ι H)(c:EnvRep ok w ι H e tmps):
  ∃ι',Sim X ok w ι' H'/\EnvRep ok w ι' H' a tmps/\Evol n0 ok w ι H ok w ι' H':=⟨_,qjB h b c⟩
theorem qoa{n0:Nat}(l:n0<=H.length)(k:Sim X ok w ι H){r g:D}{v:Value}(j:Rep ok w ι H r v)(h:qbO n0 H r=some (g,H')):
  ∃ι',Sim X ok w ι' H'/\Rep ok w ι' H' g v/\Evol n0 ok w ι H ok w ι' H'/\(∀i ds,n0<=i->qd H' i=some ds->ds.all idFree=true):=by
 unfold qbO at h;cases c:qeh n0 H r with
 |some q=>
  rw[c,qzz] at h;injection h with h;subst h;exact qnW l k j c
 |none=>
  rw[c,qz0] at h;unfold qnY at h;split at h
  .rename_i t A p b;split at h
   .rename_i u;simp only[qy,zj] at h;obtain⟨rfl,rfl⟩:=h
    have n:EnvRep ok w ι H [(0,r)] #[v]:=fun t d a=>by
     simp only[qi] at a;split at a
     .rename_i z;injection a with a;subst a;subst z;exact⟨wE,j⟩
     .cases a
    obtain⟨ι',x,s,o⟩:=qn0 b k n
    have a:t=0:=by
     unfold YT at b;split at b
     .rename_i B I e F;split at b
      .simp only[qy,zj] at b;obtain⟨rfl,rfl⟩:=b;simp only[qbL] at e;split at e
       .rename_i G e2 C E;simp only[qy,qaB,zj] at e;exact e.1.1.symm
       .cases e
      .cases b
     .cases b
    subst a;refine⟨ι',x,(s 0 A (by simp[qi])).2,o,fun i ds hi f=>?_⟩
    have y:some ds∈p.drop n0:=by
     have m:=qx f;rw[List.mem_iff_getElem?];refine⟨i-n0,?_⟩;rw[kX,show n0+(i-n0)=i from wC];unfold qd at f;rw[qN m] at f⊢;simpa using f
    have:=List.all_eq_true.1 u _ y;simpa[qf6] using this
   .cases h
  .cases h
theorem qnX{z:Bool}{n0:Nat}(j:n0<=H.length)(d:Sim X ok w ι H){r m:D}{v:Value}(n:Rep ok w ι H r v)(h:Qb z n0 H r=some (m,H')):
  ∃ok' ι',Sim X ok' w ι' H'/\Rep ok' w ι' H' m v/\Evol n0 ok w ι H ok' w ι' H'/\∀i ds,n0<=i->qd H' i=some ds->ds.all idFree=true:=by
 cases z with
 |false=>
  simp only[Qb] at h;obtain⟨ι2,f,e,a,c⟩:=qoa j d n h;exact⟨ok,ι2,f,e,a,c⟩
 |true=>
  simp only[Qb] at h;split at h
  .rename_i q l k;have o:=qeP d (okF:=Yk ok ι H l) (fun b g=>.inl g) _ _ _ _ _ n k (fun i hi ds b s p g=>.inr ⟨i,ds,s,hi,p,g⟩);obtain⟨ι2,f,e,a,c⟩:=qoa (by rw[QE];exact j) (qgM d l) (o.lift (ι:=ι) (H:=jT H l)) h;exact⟨_,ι2,f,e,((qe6 l).mono j).trans a,c⟩
  .cases h
theorem qyw{n0:Nat}{S ks:List Nat}{e f:qu}{tmps:Array Value}(h:qeW n0 S ks e H=some (f,H'))(j:n0<=H.length)(c:Sim X ok w ι H)(b:EnvRep ok w ι H e tmps):
  ∃ι',Sim X ok w ι' H'/\EnvRep ok w ι' H' f tmps/\Evol n0 ok w ι H ok w ι' H':=by
 unfold qeW at h;split at h
 .rename_i r g;injection h with h;subst h;exact qyv g j c b
 .unfold qjC at h;split at h
  .rename_i ds i;refine qn0 h c fun t d a=>?_;rw[qhL] at a;cases hx:qi (Xx S ds) t with
   |some x=>
    rw[hx] at a;injection a with a;subst a;exact b t _ (q04 i hx)
   |none=>
    rw[hx] at a;exact b t d (qhJ a)
  .cases h
end
end Go.Ev
namespace Go.Ev
section
variable {X:Cx} {ok ok':Nat->Prop} {w w':World} {ι:qV} {H H':qe}
def Goes(P:Program)(s:Sem Next)(w:World)(R:Value->World->Prop):Prop:=
 match s.run P w with
 | .ok (.value v) w'=>R v w'
 | .ok .skip w'=>R undef w'
 | .ok (.enter f args) w'=>Calls P f args w' fun e a=>∃v,e=.returned v/\R v a
 |_=>False
theorem Goes.value{P:Program}{s:Sem Next}{v:Value}{R:Value->World->Prop}(h:s.run P w=.ok (.value v) w')(a:R v w'):Goes P s w R:=by
 unfold Goes;rw[h];exact a
theorem Goes.skip{P:Program}{s:Sem Next}{R:Value->World->Prop}(h:s.run P w=.ok .skip w')(a:R undef w'):Goes P s w R:=by
 unfold Goes;rw[h];exact a
theorem Goes.mono{P:Program}{s:Sem Next}{R b:Value->World->Prop}(h:Goes P s w R)(a:∀v w',R v w'->b v w'):Goes P s w b:=by
 unfold Goes at *;split at h
 .exact a _ _ h
 .exact a _ _ h
 .exact h.mono fun e d ⟨v,c,f⟩=>⟨v,c,a _ _ f⟩
 .exact h.elim
theorem Goes.upon{P:Program}{o:Oper}{a:Act}{s:Sem Next}{next:Act->World->Prop}{Q:Exit->Act->World->Prop}(h:Goes P s w fun v w'=>next (a.put o.dst v) w'):o.upon P a next Q (s.run P w):=by
 unfold Goes at h;split at h
 .rename_i v w' b;rw[b];exact h
 .rename_i w' b;rw[b];exact h
 .rename_i f args w' b;rw[b];simp only[Oper.upon];exact h.mono fun e d ⟨v,g,c⟩=>by subst g;exact c
 .exact h.elim
def CallPost(X:Cx)(ok:Nat->Prop)(w:World)(ι:qV)(H:qe)(r:D)(H':qe)(v:Value)(w':World):Prop:=
 ∃ι' ok',Sim X ok' w' ι' H'/\Rep ok' w' ι' H' r v/\Evol H.length ok w ι H ok' w' ι' H'/\∀i ds,H.length<=i->qd H' i=some ds->ds.all idFree=true
def qiS(X:Cx)(g:Bool)(ok:Nat->Prop)(w:World)(ι:qV)(H:qe)(r:D)(H':qe)(v:Value)(w':World):Prop:=
 ∃ι' ok',Sim X ok' w' ι' H'/\Rep ok' w' ι' H' r v/\Evol H.length ok w ι H ok' w' ι' H'/\(g=false->∀i ds,H.length<=i->qd H' i=some ds->ds.all idFree=true)
theorem CallPost.g{ok:Nat->Prop}{w:World}{ι:qV}{H H':qe}{r:D}{v:Value}{w':World}(h:CallPost X ok w ι H r H' v w')(g:Bool):qiS X g ok w ι H r H' v w':=by
 obtain⟨ι',ok',c,b,d,a⟩:=h;exact⟨ι',ok',c,b,d,fun _=>a⟩
def VF(X:Cx)(F:zF):Prop:=
 ∀(f:Nat)(args:List D)(H:qe)(r:D)(H':qe)(ok:Nat->Prop)(w:World)(ι:qV)(vs:List Value),F f args H=some (r,H')->Sim X ok w ι H->RepL ok w ι H args vs->
  Goes X.P (callFunc f vs.toArray) w (qiS X (X.gr f&&X.byRef f) ok w ι H r H')
structure Good (X:Cx):Prop where
 mixed:X.P.follows .mixedOrders=true
 okc:∀(f:Nat)(fn:Func)(c:Code),X.P.funcs[f]?=some fn->fn.body=some c->X.bad f=false->Z4 X f c=true
 ng:∀(f:Nat)(fn:Func),X.P.funcs[f]?=some fn->(fn.name== "runtime.NumGoroutine")=false
 ext:∀(f:Nat)(fn:Func)(args:List D)(d:D),X.P.funcs[f]?=some fn->fn.body=none->X.ext f args=some d->
  ∀(ok:Nat->Prop)(w:World)(ι:qV)(H:qe)(vs:List Value),Sim X ok w ι H->RepL ok w ι H args vs->∃v,(callFunc f vs.toArray).run X.P w=.ok (.value v) w/\Rep ok w ι H d v/\idFree d=true
 con:∀(f:Nat)(args:List D)(H:qe)(r:D)(H':qe),X.con f args H=some (r,H')->∀(ok:Nat->Prop)(w:World)(ι:qV)(vs:List Value),Sim X ok w ι H->RepL ok w ι H args vs->
  Goes X.P (callFunc f vs.toArray) w (CallPost X ok w ι H r H')
theorem qmS(c:Sim X ok w ι H):Sim X ok w jB []:=
 ⟨c.okS,c.glob,fun i j ds e b s d a=>xP,fun i ds a=>xP⟩
theorem qxv(d:Sim X ok w ι H):Sim X (qh7 ok ι H) w jB []:=
 ⟨fun b c=>by
   rcases c with c|⟨i,ds,s,a,hi⟩
   .exact d.okS b c
   .exact d.lt a hi,fun g cs e=>(d.glob g cs e).okMono fun b c=>.inl c,fun i j ds f b s h a=>xP,fun i ds a=>xP⟩
theorem qab(p:List Nat)(n:Nat)(l:List D):mv.mvL p n l=l.map (mv p n):=by
 induction l with
 |nil=>rfl
 |cons d l a=>simp[mv.mvL,a]
theorem qkA(p:List Nat)(n:Nat)(d:D):ju (mv p n d)=ju d:=by cases d<;>rfl
theorem Rep.back{p:List Nat}{n:Nat}{ι1 ι2:qV}{B y:qe}(i:∀a,a<B.length->ZR p n a<y.length/\(∀ds2,qd y (ZR p n a)=some ds2->∃ds,qd B a=some ds/\ds.length=ds2.length)/\ι2 (ZR p n a)=ι1 a){d:D}{v:Value}(h:Rep ok w ι1 B d v):Rep ok w ι2 y (mv p n d) v:=by
 induction h with
 |bool b=>exact .bool b
 |int k n=>exact .int k n
 |str s=>exact .str s
 |nilp=>exact .nilp
 |nilf=>exact .nilf
 |nili=>exact .nili
 |raw v=>exact .raw v
 |agg o hc h g=>
  simp only[mv,qab];refine .agg (by simpa using o) (fun d E=>?_) fun j d c=>?_
  .obtain⟨d',e,rfl⟩:=List.mem_map.1 E;rw[qkA];exact hc d' e
  .rw[Vb,KD] at c;obtain⟨d',e,rfl⟩:=c;exact g j d' e i
 |tup o h g=>
  simp only[mv,qab];refine .tup (by simpa using o) fun j d c=>?_;rw[Vb,KD] at c;obtain⟨d',e,rfl⟩:=c;exact g j d' e i
 |fn o h g=>
  simp only[mv,qab];refine .fn (by simpa using o) fun j d c=>?_;rw[Vb,KD] at c;obtain⟨d',e,rfl⟩:=c;exact g j d' e i
 |iface h g=>exact .iface (g i)
 |optr a hi h=>
  obtain⟨x,C,t⟩:=i _ hi;refine .optr a x fun ds2 vn=>?_;obtain⟨ds,r,z⟩:=C ds2 vn;obtain⟨l,m⟩:=h ds r;rw[z] at l m;rw[t];exact⟨l,m⟩
 |osl a hi h q=>
  obtain⟨x,C,t⟩:=i _ hi;refine .osl a x (fun ds2 vn=>?_) q;obtain⟨ds,r,z⟩:=C ds2 vn;obtain⟨l,m⟩:=h ds r;rw[z] at l m;rw[t];exact⟨l,m⟩
 |vptr a f A hc u h _=>exact .vptr a f A hc u h
 |vnil=>exact .vnil
 |vsl a f A hc u h q _=>exact .vsl a f A hc u h q
theorem qmY:∀(p:List Nat)(T H:qe),(J5 H p T).length=H.length
 |[],_,_=>by simp[J5]
 |_::_,[],_=>by simp[J5]
 |i::p,b::T,H=>by rw[J5,qmY p T,vI]
theorem qj0{i:Nat}:∀(p:List Nat)(T H:qe),i∉p->qd (J5 H p T) i=qd H i
 |[],_,_,_=>by simp[J5]
 |_::_,[],_,_=>by simp[J5]
 |a::p,b::T,H,h=>by
  rw[J5,qj0 p T _ fun c=>h (vq _ c)];unfold qd;rw[List.getElem?_set_ne fun d=>h (by rw[d];exact Z1 ..)]
theorem qj1{i:Nat}:∀(p:List Nat)(T H:qe)(a:Nat),p.Nodup->i<H.length->p[a]?=some i->a<T.length->qd (J5 H p T) i=qd T a
 |[],_,_,_,_,_,h,_=>by simp at h
 |_::_,[],_,_,_,_,_,h=>by simp at h
 |c::p,b::T,H,0,d,hi,h,_=>by
  simp only[kY,qy] at h;subst h;rw[J5,qj0 p T _ (List.nodup_cons.1 d).1];unfold qd;rw[List.getElem?_set_self hi];rfl
 |c::p,b::T,H,a+1,d,hi,h,e=>by
  rw[J5,qj1 p T _ a (List.nodup_cons.1 d).2 (by rw[vI];exact hi) wQ (by simpa using e)];simp[qd]
theorem qsR:∀{p:List Nat}{a i k:Nat},p.Nodup->p[a]?=some i->JE p i k=some (k+a)
 |[],_,_,_,_,h=>by simp at h
 |c::p,0,i,k,_,h=>by
  simp only[kY,qy] at h;simp[JE,h]
 |c::p,a+1,i,k,b,h=>by
  have e:i∈p:=jH wQ;have d:c≠i:=fun f=>(List.nodup_cons.1 b).1 (by rw[f];exact e);rw[JE,if_neg d,qsR (List.nodup_cons.1 b).2 wQ];congr 1;omega
theorem qsS{p:List Nat}{i:Nat}(h:i∉p):JE p i 0=none:=by
 cases hx:JE p i 0 with
 |none=>rfl
 |some a=>exact absurd (jH (qkH hx).2) h
theorem qn9{p:List Nat}:∀{l a:List D},YU p l=some a->a.length=l.length/\∀{j:Nat}{d':D},a[j]?=some d'->∃d,l[j]?=some d/\qaO p d=some d'
 |[],a,h=>by
  simp only[YU,qy] at h;subst h;exact⟨rfl,fun{j d'} b=>by simp at b⟩
 |d::l,a,h=>by
  simp only[YU] at h;split at h
  .rename_i i k e g;injection h with h;subst h;obtain⟨f,c⟩:=qn9 g;refine⟨by simp[f],fun{j d'} b=>?_⟩;cases j with
   |zero=>
    simp only[kY,qy] at b;subst b;exact⟨d,rfl,e⟩
   |succ j=>simpa using c (j:=j) (d':=d') xQ
  .cases h
theorem qvq{F:zF}(hF:VF X F){f:Nat}{args:List D}{p:List Nat}{r:D}{vs:List Value}(h:qdK F f args H p=some (r,H'))(hs:Sim X ok w ι H)(hv:RepL ok w ι H args vs):
  Goes X.P (callFunc f vs.toArray) w (Post X H.length ok w ι H r H'):=by
 unfold qdK at h;split at h
 .rename_i aa H0 hA S;split at h
  .rename_i L;split at h
   .rename_i r0 T hc
    .injection h with h;injection h with h1 h2;subst h1;subst h2;obtain⟨hl,hg⟩:=qjI S;obtain⟨Zj,Kr⟩:=qn9 hA;have hS:∀{a j:Nat},p[a]?=some j->∃ds ds2,qd H j=some ds/\Yg p ds=some ds2/\qd H0 a=some ds2:=fun h=>qjH S h
     have aj:∀{d d':D},qaO p d=some d'->YT 0 p [(0,d)] H=some ([(0,d')],H0):=fun{d d'} hd=>by
      unfold YT;simp[qbL,hd,S,L,VL]
     have ac:YT 0 p [] H=some ([],H0):=by
      unfold YT;simp[qbL,S,L,VL]
     obtain⟨Jr,-,-⟩:=qjB (tmps:= #[]) ac hs (fun t d Y=>by simp[qi] at Y)
     let ι0:qV:=fun j=>ι (p.getD j 0)
     have U:∀{a j:Nat},p[a]?=some j->ι0 a=ι j:=fun{a j} h=>by
      show ι (p.getD a 0)=ι j;rw[jv,h];rfl
     have aq:RepL ok w ι0 H0 aa vs:=by
      refine⟨by rw[Zj];exact hv.1,fun j d' o=>?_⟩;obtain⟨d,u,E⟩:=Kr o;have h0:=hv.2 j d u
      have he:EnvRep ok w ι H [(0,d)] #[vs.getD j undef]:=fun t c Y=>by
       simp only[qi] at Y;split at Y
       .rename_i zw;injection Y with Y;subst Y;subst zw;exact⟨wE,h0⟩
       .cases Y
      obtain⟨-,au,-⟩:=qjB (aj E) hs he;exact(au 0 d' (by simp[qi])).2
     refine(hF f _ _ _ _ ok w ι0 vs hc Jr aq).mono fun v w' hp=>?_;obtain⟨ι',ok',k1,k2,R,k4⟩:=hp;have az:p.length<=T.length:=by rw[<-hl];exact R.nle.2
     have ah:∀b,b<w.heap.size->(∀a j s,p[a]?=some j->ι j≠some (b,s))->w'.heap[b]?=w.heap[b]?:=fun b y jc=>R.frame b y fun a ds s l hi=>by
      obtain⟨j,_,u,_⟩:=hg l;exact jc a j s u (by rw[<-U u];exact hi)
     have N:∀a g b s,qd T a=some g->ι' a=some (b,s)->b<w.heap.size->∃c j A,p[c]?=some j/\ι j=some (b,A):=fun a g b s hk y qo=>by
      obtain⟨c,I,A,o,hi⟩:=R.own a g b s hk y qo;obtain⟨j,_,u,_⟩:=hg o;exact⟨c,j,A,u,by rw[<-U u];exact hi⟩
     have W:∀b,ok' b->b<w.heap.size->ok b\/∃c j s,p[c]?=some j/\ι j=some (b,s):=fun b y qo=>by
      rcases R.okN b y qo with h|⟨c,g,s,hk,hi⟩
      .exact .inl h
      .obtain⟨j,_,u,_⟩:=hg hk;exact .inr ⟨c,j,s,u,by rw[<-U u];exact hi⟩
     have ae:∀{a j:Nat},p[a]?=some j->j<H.length:=fun h=>by
      obtain⟨ds,_,q,_⟩:=hS h;exact qx q
     obtain⟨B,hB⟩:∃B:qe,B=T.map (X6 p H.length):=⟨_,rfl⟩;have ai:B.length=T.length:=by rw[hB,List.length_map]
     have z:∀a g,qd B a=some g->∃i,qd T a=some i/\i.length=g.length/\g=mv.mvL p H.length i:=by
      intro a g l;rw[hB] at l;unfold qd at l⊢;rw[Vb] at l;cases hT:T[a]? with
      |none=>rw[hT] at l;simp at l
      |some x=>
       rw[hT] at l;cases x with
       |none=>simp[X6] at l
       |some ds=>
        simp only[j6,X6,Va,qy] at l;subst l;exact⟨ds,wE,by simp[qab],rfl⟩
     let n:=H.length
     let k:=p.length
     let H2:qe:=J5 H p B++B.drop k
     have hn:(J5 H p B).length=n:=qmY _ _ _
     let ι2:qV:=fun j=>match JE p j 0 with
      |some a=>ι' a
      |none=>if j<n then ι j else ι' (j-n+k)
     have am:∀{a j:Nat},p[a]?=some j->ι2 j=ι' a:=fun{a j} h=>by
      have:=qsR (k:=0) L h;show(match JE p j 0 with|some a=>ι' a|none=>_)=_;rw[this,J3]
     have ao:∀{j:Nat},j∉p->j<n->ι2 j=ι j:=fun{j} h o=>by
      show(match JE p j 0 with|some a=>ι' a|none=>if j<n then ι j else ι' (j-n+k))=_;rw[qsS h];simp only;rw[if_pos o]
     have ag:∀{j:Nat},n<=j->ι2 j=ι' (j-n+k):=fun{j} o=>by
      have aw:j∉p:=fun h=>by
       obtain⟨a,l⟩:=List.mem_iff_getElem?.1 h;have:=ae l;omega
      show(match JE p j 0 with|some a=>ι' a|none=>if j<n then ι j else ι' (j-n+k))=_;rw[qsS aw];simp only;rw[if_neg wC]
     have g3:∀{j:Nat},n<=j->qd H2 j=qd B (j-n+k):=fun{j} o=>by
      obtain⟨m,rfl⟩:∃m,j=n+m:=⟨j-n,wC⟩;have V:qd H2 ((J5 H p B).length+m)=qd (B.drop k) m:=qgv;rw[hn] at V;rw[V];have e2:n+m-n+k=k+m:=wC;rw[e2];simp[qd]
     have S:∀j g,qd H2 j=some g->(∃a,p[a]?=some j/\qd B a=some g/\ι2 j=ι' a)\/(j∉p/\j<n/\qd H j=some g/\ι2 j=ι j)\/(n<=j/\qd B (j-n+k)=some g/\ι2 j=ι' (j-n+k)):=by
      intro j g o;by_cases Y5:j<n
      .rw[qeu (by rw[hn];exact Y5)] at o;by_cases C:j∈p
       .obtain⟨a,l⟩:=List.mem_iff_getElem?.1 C
        have Zj:a<B.length:=by
         have:=(List.getElem?_eq_some_iff.1 l).1;omega
        rw[qj1 p B H a L Y5 l Zj] at o;exact .inl ⟨a,l,o,am l⟩
       .rw[qj0 p B H C] at o;exact .inr (.inl ⟨C,Y5,o,ao C Y5⟩)
      .have O:n<=j:=wC;rw[g3 O] at o;exact .inr (.inr ⟨O,o,ag O⟩)
     have ak:Evol n ok w ι H ok' w' ι2 H2:=by
      refine⟨R.os,R.tape,R.output,R.size,fun b y jc=>ah b y fun a j s l=>?_,R.okU,fun b y qo=>?_,⟨qA _,by rw[zp,hn];omega⟩,?_,?_⟩
      .obtain⟨ds,_,q,_⟩:=hS l;exact jc j ds s q
      .rcases W b y qo with h|⟨c,j,s,hc,hi⟩
       .exact .inl h
       .obtain⟨ds,_,q,_⟩:=hS hc;exact .inr ⟨j,ds,s,q,hi⟩
      .intro j Y5 g o;rcases S j g o with⟨a,l,q,e⟩|⟨_,_,q,e⟩|⟨q,_,_⟩
       .obtain⟨i,u,E,-⟩:=z a g q;obtain⟨ds,ds2,d1,d2,d3⟩:=hS l;obtain⟨aB,d4,ay,XL⟩:=R.heap a (by rw[hl];exact(List.getElem?_eq_some_iff.1 l).1) i u;rw[d3] at d4;injection d4 with d4;subst d4;have ax:=qhw d2;exact⟨ds,d1,wC,fun V3=>by rw[e,XL wC];exact U l⟩
       .exact⟨g,q,qA _,fun _=>e⟩
       .omega
      .intro j g b s o y qo;rcases S j g o with⟨a,l,q,e⟩|⟨_,_,q,e⟩|⟨q,hk,e⟩
       .rw[e] at y;obtain⟨i,u,-⟩:=z a g q;obtain⟨c,K,A,hc,hi⟩:=N a i b s u y qo;obtain⟨ds,_,d1,_⟩:=hS hc;exact⟨K,ds,A,d1,hi⟩
       .rw[e] at y;exact⟨j,g,s,q,y⟩
       .rw[e] at y;obtain⟨i,av,-⟩:=z _ g hk;obtain⟨c,K,A,hc,hi⟩:=N _ i b s av y qo;obtain⟨ds,_,d1,_⟩:=hS hc;exact⟨K,ds,A,d1,hi⟩
     have Z:∀j g b s,j∉p->qd H j=some g->ι j=some (b,s)->b<w.heap.size/\∀a K A,p[a]?=some K->ι K≠some (b,A):=fun j g b s C o y=>⟨hs.lt o y,fun a K A l hi=>by
      obtain⟨ds,_,d1,_⟩:=hS l;have:=hs.inj j K g ds b s A o d1 y hi;exact C (by rw[this];exact jH l)⟩
     have G:∀{d:D}{v:Value},Rep ok' w' ι' T d v->Rep ok' w' ι2 H2 (mv p n d) v:=fun h=>by
      refine h.back fun a l=>?_;cases QR:p[a]? with
      |some j=>
       have V:ZR p n a=j:=(by unfold ZR;rw[QR]);rw[V];have o:=ae QR;refine⟨by rw[zp,hn];omega,fun ds2 vn=>?_,am QR⟩;rw[qeu (by rw[hn];exact o),qj1 p B H a L o QR (by rw[ai];exact l)] at vn;obtain⟨i,u,E,-⟩:=z a ds2 vn;exact⟨i,u,E⟩
      |none=>
       have aA:k<=a:=List.getElem?_eq_none_iff.1 QR;have V:ZR p n a=n+(a-k):=(by unfold ZR;rw[QR]);have e2:n+(a-k)-n+k=a:=wC;rw[V];refine⟨?_,fun ds2 vn=>?_,?_⟩
       .rw[zp,hn,vr,ai];omega
       .rw[g3 wC,e2] at vn;obtain⟨i,u,E,-⟩:=z a ds2 vn;exact⟨i,u,E⟩
       .rw[ag wC,e2]
     have Qg:Sim X ok' w' ι2 H2:=by
      refine⟨k1.okS,k1.glob,?_,?_⟩
      .intro a c g I b s A l hc y zR
       have M:∀{j g b s a I A},j∉p->qd H j=some g->ι j=some (b,s)->qd T a=some I->ι' a=some (b,A)->False:=by
        intro j g b s a I A C o y hk zR;obtain⟨u,E⟩:=Z j g b s C o y;obtain⟨c,K,s2,hc,hi⟩:=N a I b A hk zR u;exact E c K s2 hc hi
       have old:∀j g,((∃a,p[a]?=some j/\qd B a=some g/\ι2 j=ι' a)\/(n<=j/\qd B (j-n+k)=some g/\ι2 j=ι' (j-n+k)))->∃a i,qd T a=some i/\ι2 j=ι' a/\ZR p n a=j:=by
        rintro j g (⟨a,u,E,Q⟩|⟨u,E,Q⟩)
        .obtain⟨i,q4,-⟩:=z a g E;exact⟨a,i,q4,Q,by unfold ZR;rw[u]⟩
        .obtain⟨i,q4,-⟩:=z _ g E;refine⟨_,i,q4,Q,?_⟩;unfold ZR;rw[List.getElem?_eq_none_iff.2 (show p.length<=j-n+k from wC)];show n+(j-n+k-k)=j;omega
       have J:∀j g,qd H2 j=some g->(∃a i,qd T a=some i/\ι2 j=ι' a/\ZR p n a=j)\/(j∉p/\qd H j=some g/\ι2 j=ι j):=fun j g o=>by
        rcases S j g o with h|⟨h1,_,h2,h3⟩|h
        .exact .inl (old j g (.inl h))
        .exact .inr ⟨h1,h2,h3⟩
        .exact .inl (old j g (.inr h))
       rcases J a g l with⟨a1,V,qa,ea,ma⟩|⟨a1,qa,ea⟩<;>rcases J c I hc with⟨c1,e2,qc,ec,mc⟩|⟨c1,qc,ec⟩<;>rw[ea] at y<;>rw[ec] at zR
       .have:=k1.inj a1 c1 _ _ b s A qa qc y zR;rw[<-ma,<-mc,this]
       .exact(M c1 qc zR qa y).elim
       .exact(M a1 qa y qc zR).elim
       .exact hs.inj a c g I b s A qa qc y zR
      .intro j g o;rcases S j g o with⟨a,l,q,e⟩|⟨j1,j2,qj,e⟩|⟨j1,qj,e⟩
       .obtain⟨i,u,E,Q⟩:=z a g q;obtain⟨b,arr,ty,fr,u1,u2,u3,u4,u5,u6,u7,u8⟩:=k1.blk a i u;refine⟨b,arr,ty,fr,by rw[e];exact u1,u2,u3,wC,u5,u6,?_,?_⟩
        .subst Q;intro d hd;rw[qab] at hd;obtain⟨d',zQ,rfl⟩:=List.mem_map.1 hd;rw[qkA];exact u7 d' zQ
        .subst Q;intro m d hm;rw[qab,Vb,KD] at hm;obtain⟨d',zQ,rfl⟩:=hm;exact G (u8 m d' zQ)
       .obtain⟨b,arr,V,fr,u,E,Q,q4,q5,q6,q7,q8⟩:=hs.blk j g qj;obtain⟨p1,p2⟩:=Z j g b _ j1 qj u;refine⟨b,arr,V,fr,by rw[e];exact u,fun y=>?_,by rw[ah b p1 p2];exact Q,q4,q5,q6,q7,fun m d hm=>(q8 m d hm).evol hs ak (q8 m d hm).closed⟩;rcases W b y p1 with h|⟨c,K,s,hc,hi⟩
        .exact E h
        .exact p2 c K s hc hi
       .obtain⟨i,u,E,Q⟩:=z _ g qj;obtain⟨b,arr,ty,fr,u1,u2,u3,u4,u5,u6,u7,u8⟩:=k1.blk _ i u;refine⟨b,arr,ty,fr,by rw[e];exact u1,u2,u3,wC,u5,u6,?_,?_⟩
        .subst Q;intro d hd;rw[qab] at hd;obtain⟨d',zQ,rfl⟩:=List.mem_map.1 hd;rw[qkA];exact u7 d' zQ
        .subst Q;intro m d hm;rw[qab,Vb,KD] at hm;obtain⟨d',zQ,rfl⟩:=hm;exact G (u8 m d' zQ)
     rw[<-hB];exact⟨ι2,ok',Qg,G k2,ak⟩
   .cases h
  .cases h
 .cases h
theorem q5J{F:zF}(_:VF X F){f:Nat}(_:(X.gr f&&X.byRef f)=false){args:List D}{r:D}{vs:List Value}(h:qf4 F f args H=some (r,H'))(_:Sim X ok w ι H)(_:RepL ok w ι H args vs):
  Goes X.P (callFunc f vs.toArray) w (Post X H.length ok w ι H r H'):=by
 cases h
theorem qkI:∀cs:List D,idFree.idFreeL cs=cs.all idFree
 |[]=>rfl
 |d::l=>by rw[idFree.idFreeL,Vc,qkI l]
mutual
theorem qo6(p:List Nat)(n:Nat):∀d:D,idFree d=true->mv p n d=d
 | .agg cs,h=>by rw[mv,qgj p n cs yO]
 | .tup cs,h=>by rw[mv,qgj p n cs yO]
 | .fn f cs,h=>by rw[mv,qgj p n cs yO]
 | .iface t d,h=>by rw[mv,qo6 p n d yO]
 | .optr _ _ _,h=>by simp[idFree] at h
 | .osl _ _ _ _ _,h=>by simp[idFree] at h
 | .bool _,_| .int _ _,_| .str _,_| .nilp,_| .nilf,_| .nili,_| .vptr _,_| .vsl _ _ _,_| .raw _,_=>rfl
theorem qgj(p:List Nat)(n:Nat):∀l:List D,idFree.idFreeL l=true->mv.mvL p n l=l
 |[],_=>rfl
 |d::l,h=>by
  simp only[idFree.idFreeL,zX] at h;rw[mv.mvL,qo6 p n d h.1,qgj p n l h.2]
end
mutual
theorem qkm(i n:Nat)(a:1<=n):∀d:D,noZ d=true->mv [i] n d=shift (n-1) d
 | .agg cs,h=>by rw[mv,shift,qhC i n a cs xj]
 | .tup cs,h=>by rw[mv,shift,qhC i n a cs xj]
 | .fn f cs,h=>by rw[mv,shift,qhC i n a cs xj]
 | .iface t d,h=>by rw[mv,shift,qkm i n a d xj]
 | .optr j st off,h=>by
  have b:1<=j:=xj
  have:ZR [i] n j=n-1+j:=by
   obtain⟨k,rfl⟩:∃k,j=k+1:=⟨j-1,wC⟩;simp[ZR];omega
  rw[mv,shift,this]
 | .osl j st off c k,h=>by
  have b:1<=j:=xj
  have:ZR [i] n j=n-1+j:=by
   obtain⟨k,rfl⟩:∃k,j=k+1:=⟨j-1,wC⟩;simp[ZR];omega
  rw[mv,shift,this]
 | .bool _,_| .int _ _,_| .str _,_| .nilp,_| .nilf,_| .nili,_| .vptr _,_| .vsl _ _ _,_| .raw _,_=>rfl
theorem qhC(i n:Nat)(a:1<=n):∀l:List D,noZ.noZL l=true->mv.mvL [i] n l=shift.shiftL (n-1) l
 |[],_=>rfl
 |d::l,h=>by
  simp only[noZ.noZL,zX] at h;rw[mv.mvL,shift.shiftL,qkm i n a d h.1,qhC i n a l h.2]
end
theorem qo7(p:List Nat)(n:Nat):∀T:qe,T.all qf6=true->T.map (X6 p n)=T
 |[],_=>rfl
 |b::T,h=>by
  simp only[Vc,zX] at h;rw[List.map_cons,qo7 p n T h.2];congr 1;cases b with
  |none=>rfl
  |some ds=>simp only[X6,j6];rw[qgj p n ds (by rw[qkI];simpa[qf6] using h.1)]
theorem qnA(p:List Nat):∀l:List D,l.all idFree=true->YU p l=some l
 |[],_=>rfl
 |d::l,h=>by
  simp only[Vc,zX] at h;rw[YU,qnA p l h.2];unfold qaO;rw[if_pos h.1]
theorem q5P{F:zF}{f:Nat}{args:List D}{H:qe}{r:D×qe}(h:KB F f args H=some r):∃p,qdK F f args H p=some r:=by
 unfold KB at h;split at h
 .rename_i i st off a;split at h
  .rename_i ds d;split at h
   .rename_i c;simp only[zX] at c;split at h
    .rename_i g ds' L j;split at h
     .rename_i b;simp only[zX] at b;injection h with h;subst h;have k:i<H.length:=qx d
      have e:YU [i] (.optr i st off::a)=some (.optr 0 st off::a):=by
       rw[YU,qnA _ _ c.1];simp[qaO,idFree,renD,JE]
      have e2:Yf [i] H [i]=some [some ds]:=by
       simp only[Yf,d,Yg,qkI,c.2,if_true]
      refine⟨[i],?_⟩;unfold qdK;rw[e,e2];simp only[List.nodup_cons,List.not_mem_nil,not_false_eq_true,List.nodup_nil,and_self,if_true,j];rw[qkm i H.length wC g b.1.1,qo7 _ _ (some ds'::L) (by simp[qf6,b.1.2,b.2])];simp[J5,qn]
     .cases h
    .cases h
   .cases h
  .cases h
 .cases h
theorem q5M{F:zF}(a:VF X F){f:Nat}(_:(X.gr f&&X.byRef f)=false){args:List D}{r:D}{vs:List Value}(h:KB F f args H=some (r,H'))(c:Sim X ok w ι H)(d:RepL ok w ι H args vs):
  Goes X.P (callFunc f vs.toArray) w (Post X H.length ok w ι H r H'):=by
 obtain⟨p,b⟩:=q5P h;exact qvq a b c d
theorem q5Q{F:zF}(b:VF X F){f:Nat}(a:(X.gr f&&X.byRef f)=false){args:List D}{r:D}{vs:List Value}(h:qb6 X F f args H=some (r,H'))(c:Sim X ok w ι H)(d:RepL ok w ι H args vs):
  Goes X.P (callFunc f vs.toArray) w (Post X H.length ok w ι H r H'):=by
 unfold qb6 at h;split at h
 .exact q5J b a h c d
 .exact q5M b a h c d
theorem qlJ{F:zF}(A:VF X F){f:Nat}{args:List D}{r:D}{vs:List Value}(h:Ya X F f args H=some (r,H'))(k:Sim X ok w ι H)(q:RepL ok w ι H args vs):
  Goes X.P (callFunc f vs.toArray) w (Post X H.length ok w ι H r H'):=by
 unfold Ya at h;split at h
 .split at h
  .split at h
   .exact qvq A h k q
   .rename_i y;exact q5Q A (by simp[y]) h k q
  refine(A f args H r H' ok w ι vs h k q).mono fun v w' x=>?_;obtain⟨ι',ok',z,E,h3,_⟩:=x;exact⟨ι',ok',z,E,h3⟩
 .rename_i O;have G:(X.gr f&&X.byRef f)=false:=by simp[O]
  split at h
  .rename_i vN;split at h
   .cases h
   .rename_i J L hc;injection h with h;injection h with z E;subst z;subst E;refine(A f args [] J L ok w jB vs hc (qmS k) ⟨q.1,fun j d g=>(q.2 j d g).free (qcA vN d (mem_of_get? g)) _ _⟩).mono fun v w' x=>?_;obtain⟨ι1,n,u,Q,c,t⟩:=x;replace t:=t G;have o:∀b,b<w.heap.size->w'.heap[b]?=w.heap[b]?:=fun b l=>c.frame b l (fun i ds s a=>xP)
    obtain⟨N,U⟩:=qvp (L:=L) (ι1:=ι1) (ok2:=n) k ⟨c.os,c.tape,c.output⟩ c.size o c.okU (fun b l B=>(c.okN b l B).resolve_right fun⟨i,ds,s,a,_⟩=>xP) u.okS u.inj (fun i ds a=>by
     obtain⟨b,arr,e,fr,I,Z,W,M,V,R,S,K⟩:=u.blk i ds a;refine⟨b,arr,e,fr,I,?_,Z,W,M,V,R,S,fun j d g=>(K j d g).free (qcA (t i ds (vg _) a) d (mem_of_get? g)) _ _⟩;rcases KE b w.heap.size with B|C
     .obtain⟨j,es,s',g,_⟩:=c.own i ds b _ a I B;simp[qd] at g
     .exact C)
    exact⟨_,n,N,Q.shift ι H,U⟩
  .split at h
   .cases h
   .rename_i p QK;split at h
    .cases h
    .rename_i J L hc;split at h
     .rename_i m;rw[zX] at m;injection h with h;injection h with z E;subst z;subst E;obtain⟨l1,l2⟩:=freeze_rep.freezeL_rep k args (vs:=fun j=>vs.getD j undef) q.2 QK;refine(A f p [] J L (qh7 ok ι H) w jB vs hc (qxv k) ⟨by rw[q.1,l1],l2⟩).mono fun v w' x=>?_;obtain⟨ι1,n,u,Q,c,t⟩:=x;replace t:=t G;have o:∀b,b<w.heap.size->w'.heap[b]?=w.heap[b]?:=fun b l=>c.frame b l (fun i ds s a=>xP)
      obtain⟨N,U⟩:=qvp (L:=L) (ι1:=ι1) (ok2:=ok) k ⟨c.os,c.tape,c.output⟩ c.size o (fun _ h=>h) (fun _ h _=>h) (fun b l=>vh (k.okS b l) c.size) u.inj (fun i ds a=>by
       obtain⟨b,arr,e,fr,I,Z,W,M,V,R,S,K⟩:=u.blk i ds a
       have C:w.heap.size<=b:=by
        rcases KE b w.heap.size with B|C
        .obtain⟨j,es,s',g,_⟩:=c.own i ds b _ a I B;simp[qd] at g
        .exact C
       refine⟨b,arr,e,fr,I,C,fun l=>by have:=k.okS b l;omega,W,M,V,R,S,fun j d g=>?_⟩
       have T:vFree d=true:=by
        have Y:=qx a
        have Vm:some ds∈L:=by
         unfold qd at a;rw[qN Y] at a;simp only[Va] at a;rw[<-a];exact vQ Y
        have:=List.all_eq_true.1 m.2 _ Vm;simp only[qlM] at this;exact List.all_eq_true.1 this d (mem_of_get? g)
       exact((K j d g).free (qcA (t i ds (vg _) a) d (mem_of_get? g)) _ _).vfree T ok)
      exact⟨_,ok,N,(Q.vfree m.1 ok).shift ι H,U⟩
     .cases h
mutual
theorem qhq(n:Nat):∀(d:D),idFree d=true->shift n d=d
 | .agg cs,h=>by simp only[idFree] at h;simp only[shift,qhr n cs h]
 | .tup cs,h=>by simp only[idFree] at h;simp only[shift,qhr n cs h]
 | .fn f cs,h=>by simp only[idFree] at h;simp only[shift,qhr n cs h]
 | .iface t d,h=>by simp only[idFree] at h;simp only[shift,qhq n d h]
 | .optr ..,h=>by simp[idFree] at h
 | .osl ..,h=>by simp[idFree] at h
 | .bool _,_=>rfl
 | .int _ _,_=>rfl
 | .str _,_=>rfl
 | .nilp,_=>rfl
 | .nilf,_=>rfl
 | .nili,_=>rfl
 | .raw _,_=>rfl
 | .vptr _,_=>rfl
 | .vsl ..,_=>rfl
theorem qhr(n:Nat):∀(cs:List D),idFree.idFreeL cs=true->shift.shiftL n cs=cs
 |[],_=>rfl
 |d::l,h=>by
  simp only[idFree.idFreeL,zX] at h;simp only[shift.shiftL,qhq n d h.1,qhr n l h.2]
end
theorem qgP{F:zF}{f:Nat}{args:List D}{r:D×qe}(d:(X.pureF f&& !X.byRef f)=true)(h:ZI X F f args H=some r):r.2=H/\idFree r.1=true/\
  ((args.all idFree=true/\F f args []=some (r.1,[]))\/
   (¬args.all idFree=true/\X.perm f=true/\args.all (qb0 H)=true/\vFree r.1=true/\∃a,qcy H args=some a/\F f a []=some (r.1,[]))):=by
 unfold ZI at h;rw[if_pos d] at h;split at h
 .rename_i c;split at h
  .rename_i g hc;split at h
   .rename_i hi;injection h with h;subst h;exact⟨rfl,hi,.inl ⟨c,hc⟩⟩
   .cases h
  .cases h
 .rename_i c;split at h
  .rename_i b;rw[zX] at b;split at h
   .rename_i a e;split at h
    .rename_i g hc;split at h
     .rename_i hi;rw[zX] at hi;injection h with h;subst h;exact⟨rfl,hi.1,.inr ⟨c,b.1,b.2,hi.2,a,e,hc⟩⟩
     .cases h
    .cases h
   .cases h
  .cases h
theorem qiC{F:zF}{f:Nat}{args:List D}{r:D×qe}(h:ZI X F f args H=some r):Ya X F f args H=some r:=by
 by_cases b:(X.pureF f&& !X.byRef f)=true
 .obtain⟨g,c,a⟩:=qgP b h
  have i:¬X.byRef f=true:=by
   rw[zX] at b;simpa using b.2
  obtain⟨r,H'⟩:=r;simp only at c g a;subst g;unfold Ya;rcases a with⟨a,e⟩|⟨a,_,_,j,d,k,e⟩
  .rw[if_neg i,if_pos a,e];simp only[qhq _ _ c,Jd]
  .rw[if_neg i,if_neg a,k];simp only[e,j,List.all_nil,Bool.and_self,if_true,qhq _ _ c,Jd]
 .unfold ZI at h
  rwa [if_neg b] at h
theorem qxt{i:Nat}{ds ds':List D}(l:Sim X ok w ι H)(t:qd H i=some ds)(G:ds.length=ds'.length)(N:∀b arr e fr,ι i=some (b,arr.size)->w.heap[b]?=some (.cells arr e fr)->∀(j:Nat) d,ds'[j]?=some d->Rep ok w jB [] d (arr.getD j undef)):
  Sim X ok w ι (qn H i ds')/\Evol H.length ok w ι H ok w ι (qn H i ds'):=by
 have O:i<H.length:=qx t
 have C:∀j f,qd (qn H i ds') j=some f->(j=i/\f=ds')\/(j≠i/\qd H j=some f):=by
  intro j f g;by_cases u:j=i
  .subst u;simp only[qd,qn] at g;rw[List.getElem?_set_self O] at g;exact .inl ⟨rfl,by simpa using g.symm⟩
  .refine .inr ⟨u,?_⟩;simp only[qd,qn] at g⊢
   rwa [List.getElem?_set_ne (Ne.symm u)] at g
 have z:∀j f,qd (qn H i ds') j=some f->∃k,qd H j=some k:=by
  intro j f g;rcases C j f g with⟨rfl,_⟩|⟨_,h⟩
  .exact⟨ds,t⟩
  .exact⟨f,h⟩
 have o:Evol H.length ok w ι H ok w ι (qn H i ds'):=by
  refine⟨rfl,rfl,rfl,qA _,fun _ _ _=>rfl,fun _ h=>h,fun b h _=>.inl h,⟨qA _,by simp[qn]⟩,?_,?_⟩
  .intro j _ f g;rcases C j f g with⟨rfl,rfl⟩|⟨_,h⟩
   .exact⟨ds,t,by rw[G];exact qA _,fun _=>rfl⟩
   .exact⟨f,h,qA _,fun _=>rfl⟩
  .intro j f b s g E _;obtain⟨k,U⟩:=z j f g;exact⟨j,k,s,U,E⟩
 refine⟨⟨l.okS,l.glob,?_,?_⟩,o⟩
 .intro a c f x b s M R hc E Q;obtain⟨K,L⟩:=z a f R;obtain⟨e2,T⟩:=z c x hc;exact l.inj a c K e2 b s M L T E Q
 .intro j f g;rcases C j f g with⟨rfl,rfl⟩|⟨_,h⟩
  .obtain⟨b,arr,e,fr,r,y,p,B,A,q,I,v⟩:=l.blk j ds t;have J:=N b arr e fr r p;refine⟨b,arr,e,fr,r,y,p,by rw[<-G];exact B,A,q,fun d n=>?_,fun m d n=>(J m d n).lift⟩;obtain⟨m,P,S⟩:=List.mem_iff_getElem.1 n;have F:f[m]?=some d:=(by rw[qN P,S]);exact qhU (J m d F) (q m wC)
  .obtain⟨b,arr,e,fr,r,y,p,B,A,q,I,v⟩:=l.blk j f h;exact⟨b,arr,e,fr,r,y,p,B,A,q,I,fun m d n=>(v m d n).evol l o (v m d n).closed⟩
theorem qvh:Evol H.length ok w ι H ok w ι H:=
 ⟨rfl,rfl,rfl,qA _,fun _ _ _=>rfl,fun _ h=>h,fun _ h _=>.inl h,⟨qA _,qA _⟩,fun _ _ ds a=>⟨ds,a,qA _,fun _=>rfl⟩,fun i ds _ s a hi _=>⟨i,ds,s,a,hi⟩⟩
theorem qmB{i:Nat}(h:ZO H i=some H')(k:Sim X ok w ι H):∃ok',Sim X ok' w ι H'/\Evol H.length ok w ι H ok' w ι H'/\H'.length=H.length:=by
 unfold ZO at h;split at h
 .rename_i ds c;split at h
  .injection h with h;subst h;exact⟨ok,k,qvh,rfl⟩
  split at h
  .rename_i ds' l K;split at h
   .cases h
   .rename_i F;injection h with h;subst h
    have Zw:qd (jT H l) i=some ds:=by
     have:∀(l:List Nat)(H:qe),qd H i=some ds->i∉l->qd (jT H l) i=some ds:=by
      intro l
      induction l with
      |nil=>intro H h _;exact h
      |cons a l z=>
       intro H h n;simp only[jI,not_or] at n;refine z _ ?_ n.2;unfold qd at h⊢
       rwa [List.getElem?_set_ne (Ne.symm n.1)]
     exact this l H c F
    have t:=qgM k l
    have x:∀b arr e fr,ι i=some (b,arr.size)->w.heap[b]?=some (.cells arr e fr)->ds.length=ds'.length/\∀(j:Nat) d,ds'[j]?=some d->Rep (Yk ok ι H l) w jB [] d (arr.getD j undef):=by
     intro b arr e fr r u;obtain⟨b',arr',O,I,g,G,f,R,P,Q,N,E⟩:=k.blk i ds c;rw[r] at g;injection g with g;injection g with o J;subst o;rw[u] at f;injection f with f;injection f with q C A;subst q
     exact qcQ (cond:=fun i=>∀ds b s,qd H i=some ds->ι i=some (b,s)->Yk ok ι H l b) (fun d d' L v B c hc=>qeP k (okF:=Yk ok ι H l) (fun b p=>.inl p) 9 d d' L v B c hc) ds (vs:=fun j=>arr.getD j undef) E K
      (fun i hi ds b s c p=>.inr ⟨i,ds,s,hi,c,p⟩)
    obtain⟨b,arr,e,fr,g,G,f,-⟩:=k.blk i ds c;obtain⟨M,y⟩:=qxt t Zw (x b arr e fr g f).1 (fun b arr e fr r u=>(x b arr e fr r u).2);have m:(qn (jT H l) i ds').length=H.length:=(by rw[qn,vI,QE]);rw[QE] at y;exact⟨Yk ok ι H l,M,(qe6 (ok:=ok) (w:=w) (ι:=ι) (H:=H) l).trans y,m⟩
  .cases h
 .cases h
theorem qjr{e:qu}:∀{b:List Nat}{H H':qe}{ok:Nat->Prop},qcR e b H=some H'->Sim X ok w ι H->∃ok',Sim X ok' w ι H'/\Evol H.length ok w ι H ok' w ι H'/\H'.length=H.length
 |[],H,H',ok,h,a=>by
  injection h with h;subst h;exact⟨ok,a,qvh,rfl⟩
 |s::b,H,H',ok,h,a=>by
  have f:∀{i:Nat},(match ZO H i with
   |some H'=>qcR e b H'
   |none=>none)=some H'->∃ok',Sim X ok' w ι H'/\Evol H.length ok w ι H ok' w ι H'/\H'.length=H.length:=by
   intro i h;split at h
   .rename_i o m;obtain⟨k,j,n,g⟩:=qmB m a;obtain⟨ok2,l,d,c⟩:=qjr h j;rw[g] at d c;exact⟨ok2,l,n.trans d,c⟩
   .cases h
  unfold qcR at h;split at h
  .exact f h
  .exact f h
  .exact qjr h a
theorem q5Z{F:zF}(k:VF X F){f:Nat}{args:List D}{r:D}{vs:List Value}(h:Yb X F f args H=some (r,H'))(g:Sim X ok w ι H)(e:RepL ok w ι H args vs):
  Goes X.P (callFunc f vs.toArray) w (Post X H.length ok w ι H r H'):=by
 unfold Yb at h;split at h
 .exact qlJ k (qiC h) g e
 .split at h
  .rename_i q a;unfold qjs at a;split at a
   .obtain⟨m,o,b,c⟩:=qmB a g;refine(qlJ k (qiC h) o ⟨e.1,fun j d l=>(e.2 j d l).evol g b (e.2 j d l).closed⟩).mono ?_;rintro v w' ⟨ι',ok',n,p,i⟩;rw[c] at i;exact⟨ι',ok',n,p,b.trans i⟩
   .cases a
  .cases h
theorem q5W{F:zF}(o:VF X F){f:Nat}{args:List D}{r:D}{vs:List Value}(h:VD X F f args H=some (r,H'))(e:Sim X ok w ι H)(a:RepL ok w ι H args vs):
  Goes X.P (callFunc f vs.toArray) w (Post X H.length ok w ι H r H'):=by
 unfold VD at h;split at h
 .exact q5Z o h e a
 .split at h
  .rename_i g l m
   obtain⟨q,x⟩:=qcQ (cond:=fun i=>∀ds b s,qd H i=some ds->ι i=some (b,s)->Yk ok ι H l b) (fun d d' y v p c hc=>qeP e (okF:=Yk ok ι H l) (fun b k=>.inl k) 9 d d' y v p c hc) args (vs:=fun j=>vs.getD j undef) a.2 m
    (fun i hi ds b s c k=>.inr ⟨i,ds,s,hi,c,k⟩)
   refine(qlJ o (qiC h) (qgM e l) ⟨by rw[a.1,q],fun j d z=>(x j d z).lift⟩).mono ?_;rintro v w' ⟨ι',ok',u,t,n⟩;rw[QE] at n;exact⟨ι',ok',u,t,(qe6 l).trans n⟩
  .cases h
theorem qiD{F:zF}{f:Nat}{args:List D}{H:qe}(a:(X.perm f&& !X.pureF f&& !X.byRef f)=false)(b:(X.perm f&&X.byRef f)=false):VD X F f args H=ZI X F f args H:=by
 unfold VD Yb;rw[a,b]
theorem RepL.append{xs e:List D}{vs us:List Value}(a:RepL ok w ι H xs vs)(f:RepL ok w ι H e us):RepL ok w ι H (xs++e) (vs++us):=by
 refine⟨by simp[a.1,f.1],fun j d b=>?_⟩;rw[jv];by_cases c:j<xs.length
 .rw[vJ c] at b;rw[vJ (by rw[a.1];exact c)];have:=a.2 j d b
  rwa [jv] at this
 .rw[jn wC] at b;rw[jn (by rw[a.1];omega),a.1];have:=f.2 _ d b
  rwa [jv] at this
theorem qn6{ds:List D}{vs:Array Value}(a:vs.size=ds.length)(h:∀(j:Nat) d,ds[j]?=some d->Rep ok w ι H d (vs.getD j undef)):RepL ok w ι H ds vs.toList:=
 ⟨wr,fun j d b=>by
  have:=h j d b;simpa[j7,jv] using this⟩
theorem J6{d:D}{ds:List D}{vs:List Value}(h:RepL ok w ι H (d::ds) vs):∃v us,vs=v::us/\Rep ok w ι H d v/\RepL ok w ι H ds us:=by
 cases vs with
 |nil=>have:=h.1;simp at this
 |cons v us=>exact⟨v,us,rfl,h.2 0 d rfl,by have:=h.1;simpa using this,fun j x a=>h.2 (j+1) x wr⟩
theorem qcU{vs:List Value}(h:RepL ok w ι H [] vs):vs=[]:=kx (by simpa using h.1)
theorem Zt{α:Type}{x:Option α}{H H':qe}{d:α}(h:x.map (·,H)=some (d,H')):x=some d/\H=H':=by
 cases x with
 |none=>simp at h
 |some y=>simp only[j6,qy,zj] at h;exact⟨by rw[h.1],h.2⟩
theorem qoE{c:Bool}{args:List D}{d:D}{vs:List Value}(e:RepL ok w ι H args vs)(h:qgl c args=some d){P:Program}{ts:Array TypeId}{t:TypeId}:
  ∃v,((if c then Builtin.max_ else Builtin.min_) ts t vs.toArray).run P w=.ok v w/\Rep ok w ι H d v:=by
 unfold qgl at h;split at h
 .split at h
  .rename_i k a k' b f;subst f;injection h with h;subst h;obtain⟨v1,us,rfl,l,j⟩:=J6 e;obtain⟨m,us,rfl,i,g⟩:=J6 j;obtain rfl:=qcU g;cases l;cases i;cases c
   .exact⟨_,by simp[Builtin.min_,Builtin.min2],.int _ _⟩
   .exact⟨_,by simp[Builtin.max_,Builtin.max2],.int _ _⟩
  .cases h
 .cases h
theorem q6e{b:Builtin}{ts:Array TypeId}{t:TypeId}{cst:Array Bool}{args:List D}{d:D}{vs:List Value}(k:Sim X ok w ι H)(j:RepL ok w ι H args vs)(h:qdL X b ts.toList args H=some (d,H')):
  Goes X.P (builtin b ts t cst vs.toArray) w (Post X H.length ok w ι H d H'):=by
 unfold qdL at h;split at h
 .rename_i f n x z e;cases p:qK X.P f x with
  |none=>simp[p] at h
  |some r=>
   simp only[p,j6,qy,zj] at h;obtain⟨rfl,rfl⟩:=h;obtain⟨v,us,rfl,g,_⟩:=J6 j;obtain⟨i,a,c⟩:=q0D (P:=X.P) (ty:=t) (ts:=ts) (vs:=(v::us).toArray) yU wE g p;exact Goes.value (by simp[builtin,a]) (Post.same k c)
 .rename_i f u n s x z e;obtain⟨v1,us,rfl,g,B⟩:=J6 j;obtain⟨m,us,rfl,y,C⟩:=J6 B;obtain⟨i,l,a,c⟩:=q6u (P:=X.P) (ty:=t) k g y h;refine Goes.value (w':=l) (v:=i) ?_ c;have o:ts[0]?=some f:=by rw[<-Array.getElem?_toList,e];rfl
  have e2:ts[1]?=some u:=yU
  have q:Builtin.append_ ts t (v1::m::us).toArray=Builtin.append_ #[f,u] t #[v1,m]:=by
   simp only[Builtin.append_,o,e2];rfl
  simp[builtin,q,a]
 .rename_i f u n s x z e;obtain⟨v1,us,rfl,g,B⟩:=J6 j;obtain⟨m,us,rfl,y,C⟩:=J6 B;obtain⟨i,l,a,c⟩:=q4X (P:=X.P) (ty:=t) k g y h;refine Goes.value (w':=l) (v:=i) ?_ c;have o:ts[0]?=some f:=by rw[<-Array.getElem?_toList,e];rfl
  have q:Builtin.copy_ ts t (v1::m::us).toArray=Builtin.copy_ #[f,u] t #[v1,m]:=by
   simp only[Builtin.copy_,o];rfl
  simp[builtin,q,a]
 .obtain⟨A,rfl⟩:=Zt h;obtain⟨v,a,c⟩:=qoE (P:=X.P) (ts:=ts) (t:=t) j A;simp only[kZ,if_false] at a;exact Goes.value (by simp[builtin,a]) (Post.same k c)
 .obtain⟨A,rfl⟩:=Zt h;obtain⟨v,a,c⟩:=qoE (P:=X.P) (ts:=ts) (t:=t) j A;simp only[if_true] at a;exact Goes.value (by simp[builtin,a]) (Post.same k c)
 .rename_i f n x z e;obtain⟨v,us,rfl,g,_⟩:=J6 j;obtain⟨i,l,a,c⟩:=q5A (P:=X.P) (ty:=t) (ts:=ts) (us:=(v::us).toArray) yU wE k g h;exact Goes.value (w':=l) (v:=i) (by simp[builtin,a]) c
 .cases h
theorem qvW{t:TypeId}{cs:List D}(l:Sim X ok w ι H)(h:(Xy X.P t).bind cellsOf=some cs):∃v w',(Instr.alloc t true (.tuple #[])).run X.P w=.ok v w'/\Post X H.length ok w ι H (.optr H.length cs.length 0) (qr H cs) v w':=by
 cases b:Xy X.P t with
 |none=>simp[b] at h
 |some z=>
  simp only[b,qa9] at h;obtain⟨g,i,k⟩:=qfL b;obtain⟨m,d,c⟩:=qb5 (k ok w ι H) h
  obtain⟨ι',n1,n2,n3⟩:=qfd (e:=t) (arr:=g.cells) (ds:=cs) l w ⟨rfl,rfl,rfl⟩ rfl wC
   (fun j n=>by
    have f:cs[j]?=some (cs[j]' wC):=qN wC;exact(c j _ f).oneCell (d _ (mem_of_get? f)))
   d c
  refine⟨.pointer (some ⟨w.heap.size,0,none⟩),w.alloc (.cells g.cells t),by simp[Instr.alloc,i,newVar,newRow],ι',ok,n1,?_,n2⟩;refine .optr _ wX fun ds a=>?_;rw[zo] at a;injection a with a;subst a;exact⟨qA _,fun _=>⟨_,_,n3,rfl⟩⟩
theorem q6k{t:TypeId}{d:D}{v:Value}{cs:List D}(i:Sim X ok w ι H)(a:Rep ok w ι H d v)(h:cellsOf d=some cs):∃g w',(Instr.box t v).run X.P w=.ok g w'/\Post X H.length ok w ι H (.optr H.length cs.length 0) (qr H cs) g w':=by
 obtain⟨k,c,b⟩:=qb5 a h
 obtain⟨ι',n1,n2,n3⟩:=qfd (e:=t) (arr:=v.cells) (ds:=cs) i w ⟨rfl,rfl,rfl⟩ rfl wC
  (fun j l=>by
   have f:cs[j]?=some (cs[j]' wC):=qN wC;exact(b j _ f).oneCell (c _ (mem_of_get? f)))
  c b
 refine⟨.pointer (some ⟨w.heap.size,0,none⟩),w.alloc (.cells v.cells t),by simp[Instr.box,newVar,newRow],ι',ok,n1,?_,n2⟩;refine .optr _ wX fun ds a=>?_;rw[zo] at a;injection a with a;subst a;exact⟨qA _,fun _=>⟨_,_,n3,rfl⟩⟩
theorem qh5(c:Sim X ok w ι H){e:qu}{a:Act}(f:EnvRep ok w ι H e a.tmps){x:Operand}{d:D}(h:qZ X e x=some d):∀y,some d=some y->∃v,(some x:Option Operand).map a.eval=some v/\Rep ok w ι H y v:=by
 intro y b;injection b with b;subst b;exact⟨_,rfl,vm c f h⟩
theorem qoi{F:zF}(hF:VF X F){o:Oper}{e:qu}{a:Act}{d:D}(m:Sim X ok w ι H)(A:EnvRep ok w ι H e a.tmps)(h:zH X F o.op e H=some (d,H')):
  Goes X.P (execOp a.eval o) w (Post X H.length ok w ι H d H'):=by
 have k:∀{v:Value}{d:D},Rep ok w ι H d v->∀{s:Sem Next},s.run X.P w=.ok (.value v) w->Goes X.P s w (Post X H.length ok w ι H d H):=fun Y _ h=>Goes.value h (Post.same m Y);unfold zH at h;split at h
 .rename_i x n;obtain⟨z,rfl⟩:=Zt h;exact k (vm m A z) (by simp[execOp,n])
 .rename_i x n;obtain⟨z,rfl⟩:=Zt h;exact k (vm m A z) (by simp[execOp,n])
 .rename_i c x y n;split at h
  .rename_i t hc;obtain⟨z,rfl⟩:=Zt h;have E:=vm m A hc;generalize J:a.eval c=cv at E;cases E;refine k (v:=a.eval (if t then x else y)) (vm m A z) ?_;cases t<;>simp[execOp,n,J,asBool]
  .cases h
 .rename_i t n;split at h
  .rename_i cs V;injection h with h;injection h with z K;subst z;subst K;obtain⟨v,W,B,C⟩:=qvW m V;exact Goes.value wY C
  .cases h
 .rename_i t x n;split at h
  .rename_i cs V;split at h
   .injection h with h;injection h with z K;subst z;subst K;cases hx:qZ X e x with
    |none=>simp[hx] at V
    |some dx=>
     simp only[hx,qa9] at V;obtain⟨v,W,B,C⟩:=q6k (t:=t) m (vm m A hx) V;exact Goes.value wY C
   .cases h
  .cases h
 .rename_i t G n;split at h
  .rename_i ps XF;obtain⟨z,rfl⟩:=Zt h;obtain⟨v,B,C⟩:=q6g (P:=X.P) (vps:=G.map fun(i,x)=>(i,a.eval x)) (by simpa using qh0 m A XF) z;exact k C wY
  .cases h
 .rename_i t ag G n;split at h
  .rename_i ps XF;obtain⟨v,W,B,C⟩:=q6h (P:=X.P) (vps:=G.map fun(i,x)=>(i,a.eval x)) m (by simpa using qh0 m A XF) h;exact Goes.value wY C
  .cases h
 .rename_i t p n;split at h
  .rename_i pd Z;obtain⟨z,rfl⟩:=Zt h;obtain⟨v,B,C⟩:=qpa m (vm m A Z) z;exact k C wY
  .cases h
 .rename_i t p x n;split at h
  .rename_i pd xd Z hx;cases Q:stD X.P H t pd xd with
   |none=>simp[Q] at h
   |some H1=>
    simp only[Q,j6,qy,zj] at h;obtain⟨rfl,rfl⟩:=h;obtain⟨W,ι',B,C,q3⟩:=qwR m (vm m A Z) (vm m A hx) Q;exact Goes.skip wY ⟨ι',ok,C,.tup rfl wE,q3⟩
  .cases h
 .rename_i x n;split at h
  .rename_i cs hx;injection h with h;injection h with z K;subst z;subst K;have E:=vm m A hx;generalize J:a.eval x=cv at E;refine k E ?_;cases E;simp[execOp,n,J]
  .rename_i i st off hx;injection h with h;injection h with z K;subst z;subst K;have E:=vm m A hx;generalize J:a.eval x=cv at E;refine k E ?_;cases E;simp[execOp,n,J]
  .rename_i f I hx;injection h with h;injection h with z K;subst z;subst K;have E:=vm m A hx;generalize J:a.eval x=cv at E;refine k E ?_;cases E;simp[execOp,n,J]
  .rename_i t d hx;injection h with h;injection h with z K;subst z;subst K;have E:=vm m A hx;generalize J:a.eval x=cv at E;refine k E ?_;cases E;simp[execOp,n,J]
  .cases h
 .rename_i op t x y yt n;split at h
  .rename_i p q hx T;obtain⟨z,rfl⟩:=Zt h;obtain⟨v,B,C⟩:=q6l (P:=X.P) (x:=x) (y:=y) (vm m A hx) (vm m A T) z;have e:execOp a.eval o=(do let r<-(do eqGuard op t x y (a.eval x) (a.eval y);binOp op t (a.eval x) (a.eval y):Sem Value);pure (.value r)):=(by simp only[execOp,n]);exact k C (by rw[e,Sem.run_bind,B];rfl)
  .cases h
 .rename_i op t x n;split at h
  .rename_i p hx;obtain⟨z,rfl⟩:=Zt h;obtain⟨v,B,C⟩:=qwx (P:=X.P) (vm m A hx) z;exact k C wY
  .cases h
 .rename_i s t x n;split at h
  .rename_i p hx;obtain⟨v,W,B,C⟩:=quO (P:=X.P) m (vm m A hx) h;exact Goes.value wY C
  .cases h
 .rename_i t x n;split at h
  .cases h
  .rename_i p u hu hx aa;injection h with h;injection h with z K;subst z;subst K;refine k (.iface (vm m A hx)) ?_;simp only[execOp,n,Instr.makeInterface,Sem.run_bind,run_underlying aa,Result.andThen_ok];cases u<;>first|rfl|exact absurd rfl (hu _)
  .cases h
 .rename_i f first I n
  split at h
  .rename_i ae;cases R:vR X e I.toList with
   |none=>simp[R] at h
   |some cs=>
    simp only[R,j6,qy,zj] at h;obtain⟨rfl,rfl⟩:=h;obtain⟨l1,l2⟩:=qge m A R;have ac:first= #[]:=by simpa using ae
    subst ac;refine k (v:=.func (.func f) #[] (I.map a.eval)) (.fn (by simpa using l1) fun j d hj=>?_) (by simp[execOp,n,Instr.makeFunc]);have:=l2 j d hj;simpa[j7,jv] using this
  .cases h
 .rename_i t l c n;split at h
  .rename_i ld cd U hc;obtain⟨v,W,B,C⟩:=q02 (P:=X.P) m (vm m A U) (vm m A hc) h;exact Goes.value wY C
  .cases h
 .rename_i t x M hi n;split at h
  .rename_i p hx N O;obtain⟨z,rfl⟩:=Zt h;have e1:M=none:=(by cases M<;>simp_all);have e2:hi=none:=(by cases hi<;>simp_all);subst e1;subst e2;obtain⟨v,B,C⟩:=qhn (P:=X.P) (lov:=none) (hiv:=none) m (vm m A hx) (fun _ h=>wI) (fun _=>rfl) (fun _ h=>wI) (fun _=>rfl) z;exact k C wY
  .rename_i p l hx N O;obtain⟨z,rfl⟩:=Zt h;have e2:hi=none:=(by cases hi<;>simp_all);subst e2;cases M with
   |none=>simp at N
   |some M=>
    simp only[j6,qy] at N;obtain⟨v,B,C⟩:=qhn (P:=X.P) (lov:=some (a.eval M)) (hiv:=none) m (vm m A hx) (qh5 m A N) (fun h=>wI) (fun _ h=>wI) (fun _=>rfl) z;exact k C wY
  .rename_i p l hx N O;obtain⟨z,rfl⟩:=Zt h;have e1:M=none:=(by cases M<;>simp_all);subst e1;cases hi with
   |none=>simp at O
   |some hi=>
    simp only[j6,qy] at O;obtain⟨v,B,C⟩:=qhn (P:=X.P) (lov:=none) (hiv:=some (a.eval hi)) m (vm m A hx) (fun _ h=>wI) (fun _=>rfl) (qh5 m A O) (fun h=>wI) z;exact k C wY
  .rename_i p l l' hx N O;obtain⟨z,rfl⟩:=Zt h;cases M with
   |none=>simp at N
   |some M=>
    cases hi with
    |none=>simp at O
    |some hi=>
     simp only[j6,qy] at N O;obtain⟨v,B,C⟩:=qhn (P:=X.P) (lov:=some (a.eval M)) (hiv:=some (a.eval hi)) m (vm m A hx) (qh5 m A N) (fun h=>wI) (qh5 m A O) (fun h=>wI) z;exact k C wY
  .cases h
 .rename_i s x f n;split at h
  .rename_i p hx;obtain⟨z,rfl⟩:=Zt h;obtain⟨v,B,C⟩:=q4m (P:=X.P) (vm m A hx) z;exact k C wY
  .cases h
 .rename_i s x f n;split at h
  .rename_i p hx;obtain⟨z,rfl⟩:=Zt h;obtain⟨v,B,C⟩:=q4l (P:=X.P) (vm m A hx) z;exact k C wY
  .cases h
 .rename_i t x i n;split at h
  .rename_i p q hx T;obtain⟨z,rfl⟩:=Zt h;obtain⟨v,B,C⟩:=q2I (P:=X.P) (vm m A hx) (vm m A T) z;exact k C wY
  .cases h
 .rename_i t x i n;split at h
  .rename_i p q hx T;obtain⟨z,rfl⟩:=Zt h;obtain⟨v,B,C⟩:=q2G (P:=X.P) (vm m A hx) (vm m A T) z;exact k C wY
  .cases h
 .rename_i x i n;split at h
  .rename_i cs hx;obtain⟨z,rfl⟩:=Zt h;have E:=vm m A hx;generalize J:a.eval x=cv at E;cases E with
   | @tup _ _ _ vs U hh=>
    have qg:i<vs.size:=(by rw[U];exact(List.getElem?_eq_some_iff.1 z).1);have Y:=hh i d z;rw[j7,ZN qg] at Y;exact k (v:=vs[i]) Y (by simp[execOp,n,J,Instr.extract,qg])
  .cases h
 .rename_i c n;split at h
  .rename_i b args L S;have hv:=qge m A S;have:=q6e (t:=o.type) (cst:=c.args.map fun| .const _=>true|_=>false) m hv h
   have e:execOp a.eval o=builtin b c.argTypes o.type (c.args.map fun| .const _=>true|_=>false) (c.args.toList.map a.eval).toArray:=by
    simp only[execOp,n,resolve,L];simp only[pure_bind,invoke];congr 1;apply Array.ext';simp
   rw[e];exact this
  .rename_i g args L S;split at h
   .rename_i f I hg;have hv:=qge m A S;have E:=vm m A hg;generalize J:a.eval g=cv at E;cases E with
    | @fn _ _ _ _ vs U hh=>
     have:=q5W hF h m (RepL.append hv (qn6 U hh))
     have e:execOp a.eval o=callFunc f ((c.args.toList.map a.eval)++vs.toList).toArray:=by
      simp only[execOp,n,resolve,L,J,Deferred.ofValue];simp only[pure_bind,invoke];congr 1;apply Array.ext';simp
     rw[e];exact this
   .cases h
  .cases h
 .cases h
end
end Go.Ev
namespace Go.Ev
section
variable {X:Cx} {P:Program} {ok ok':Nat->Prop} {w w':World} {ι:qV} {H H':qe}
theorem qm7{ds:List D}{b m c:Nat}{arr:Array Value}{e:TypeId}{fr:Nat×Nat}(k:Sim X ok w ι H)(t:qa8 w w')(z:w.heap.size<=w'.heap.size)(o:∀c,c<w.heap.size->w'.heap[c]?=w.heap[c]?)
  (B:w'.heap[b]?=some (.cells arr e fr)) (C:w.heap.size<=b) (r:ds.length<=arr.size) (O:∀d,d∈ds->ju d=true) (J:ds.all idFree=true) (F:m<=c)
  (l:∀(j:Nat) d,ds[j]?=some d->Rep ok w ι H d (arr.getD j undef)):
  Post X H.length ok w ι H (.vsl false ds m) H (.slice (some ⟨b,0,none⟩) m c) w':=by
 have v:b<w'.heap.size:=(Array.getElem?_eq_some_iff.1 B).1
 have a:Evol H.length ok w ι H (fun x=>ok x\/x=b) w' ι H:=
  ⟨t.1,t.2.1,t.2.2,z,fun c hc _=>o c hc,fun _ h=>.inl h,fun x hx q=>by
   rcases hx with hx|hx
   .exact .inl hx
   .omega,⟨qA _,qA _⟩,fun _ _ ds n=>⟨ds,n,qA _,fun _=>rfl⟩,fun i ds _ s n hi _=>⟨i,ds,s,n,hi⟩⟩
 have p:Sim X (fun x=>ok x\/x=b) w' ι H:=by
  refine⟨fun x hx=>?_,fun g cs E=>(((k.glob g cs E).lift (ι:=ι) (H:=H)).evol k a rfl).free rfl _ _,k.inj,fun i I n=>?_⟩
  .rcases hx with hx|hx
   .exact vh (k.okS x hx) z
   .omega
  .obtain⟨b',arr',M,u,A,Q,P,G,N,K,L,y⟩:=k.blk i I n;have q:=k.lt n A;refine⟨b',arr',M,u,A,fun h=>?_,by rw[o b' q];exact P,G,N,K,L,fun j d f=>(y j d f).evol k a (y j d f).closed⟩;rcases h with h|h
   .exact Q h
   .omega
 refine⟨ι,_,p,.vsl _ (fun j=>arr.getD j undef) (fun _ _=>.inr rfl) O (fun j d f=>?_) (fun j d f=>?_) F,a⟩
 .have q:j<arr.size:=vh (List.getElem?_eq_some_iff.1 f).1 r;rw[Vq,J3,YI B];simp[q]
 .exact((l j d f).evol k a (l j d f).closed).free (qcA J d (mem_of_get? f)) _ _
theorem q09{t:TypeId}{a:Nat}{b:List (Nat×D)}{vps:Array (Nat×Value)}{i st o n k:Nat}{ds:List D}(K:Sim X ok w ι H)(B:qdQ ok w ι H b vps.toList)(h:qc8 X.P [] t a b=some (.osl i st o n k,[some ds])):
  ∃v w',(Instr.buildSlice t a vps).run X.P w=.ok v w'/\Post X H.length ok w ι H (.vsl false ds a) H v w':=by
 unfold qc8 at h;split at h
 .rename_i e M;split at h
  .rename_i z L;split at h
   .rename_i g;cases x:YH (fun i=>some (i*qw X.P e,qw X.P e)) z b with
    |none=>simp[x] at h
    |some cs=>
     simp only[x,qa9] at h;split at h
     .rename_i f;have A:cs.all idFree=true/\cs.length=a*qw X.P e:=⟨f.1.resolve_left wE,f.2⟩;clear f;simp only[qr,QY,qy,zj,qaB,and_true] at h;obtain⟨_,O⟩:=h;subst O;obtain⟨y,N,C,I,F,E,R,G⟩:=qbB L
      obtain⟨l,s,r,m⟩:∃l:Array Value,(a*qw X.P e=0->l= #[])/\(¬a*qw X.P e=0->l=y.cells)/\
        ∀j,j<a*qw X.P e->((Array.range (a*qw X.P e)).map (l[· % l.size]!)).getD j undef=y.cells.getD (j % qw X.P e) undef:=by
       by_cases p:a*qw X.P e=0
       .exact⟨#[],fun _=>rfl,fun h=>absurd p h,fun j q=>wC⟩
       .refine⟨y.cells,fun h=>absurd h p,fun _=>rfl,fun j q=>?_⟩;rw[qiX wC q,C]
      obtain⟨arr,u,T,Q,J,S⟩:=qg2 (place:=fun i=>some (i*qw X.P e,qw X.P e)) (arr:=(Array.range (a*qw X.P e)).map (l[· % l.size]!)) B (by simp[F]) E
       (fun j d q=>by
        rw[m j (by have:=(List.getElem?_eq_some_iff.1 q).1;omega)];exact G ok w ι H j d q) x
      refine⟨.slice (some ⟨w.heap.size,0,none⟩) a a,w.alloc (.cells arr e),?_,qm7 K ⟨rfl,rfl,rfl⟩ wE (fun c hc=>heap_alloc_old w _ hc) (heap_alloc_new w _) (qA _) wC Q A.1 (qA _) J⟩;simp only[Instr.buildSlice,Sem.run_bind,run_underlying M,Result.andThen_ok,QB I];rw[if_neg xF];by_cases p:a*qw X.P e=0
      .rw[s p] at u;rw[if_pos p];simp only[Sem.run_bind,Sem.run_pure,Result.andThen_ok,u];simp[newRow]
      .rw[r p] at u;rw[if_neg p];simp only[Sem.run_bind,Sem.run_pure,Result.andThen_ok,N,u];simp[newRow]
     .cases h
   .cases h
  .cases h
 .cases h
theorem q0A{f dst e:TypeId}{u:TypeDesc}{s:List UInt8}(n:Sim X ok w ι H)(q:X.P.underlying f=some u)(o:X.P.underlying dst=some (.slice e))(p:X.P.underlying e=some (.int .u8)):
  ∃v w',(convert f dst (.string ⟨s.toArray⟩)).run X.P w=.ok v w'/\Post X H.length ok w ι H (.vsl false (qf s) s.length) H v w':=by
 have l:(⟨s.toArray⟩:ByteArray).size=s.length:=by simp[ByteArray.size]
 have k:=grownCap_ge w s.length 0 e
 have m:(Lib.bytesCells w e ⟨s.toArray⟩).size=grownCap w s.length 0 e:=by
  unfold Lib.bytesCells;simp only[Array.size_append,Array.size_map,Array.size_replicate,l];simp;omega
 have i:∀j,j<s.length->(Lib.bytesCells w e ⟨s.toArray⟩).getD j undef=(YZ s).getD j undef:=by
  intro j h;unfold Lib.bytesCells YZ;rw[j7,qhb wQ,jv];simp
 have a:=Lib.run_convert_string_bytes w f dst e ⟨s.toArray⟩ q o p;rw[l] at a
 refine⟨_,_,a,qm7 (w':=Lib.bytesWorld w e ⟨s.toArray⟩) (b:=w.heap.size) (arr:=Lib.bytesCells w e ⟨s.toArray⟩) (ds:=qf s) n
  (by
   refine⟨?_,?_,?_⟩<;>(unfold Lib.bytesWorld World.freeze;split<;>rfl))
  (by rw[Lib.bytesWorld_size];omega) (fun c hc=>Lib.bytesWorld_at_old w e _ c hc) (Lib.bytesWorld_at_new w e _) (qA _) (by rw[m];simpa[qf] using k)
  (fun d g=>by
   simp only[qf,ZM] at g;obtain⟨_,_,rfl⟩:=g;rfl)
  (by
   rw[qgX];intro d g;simp only[qf,ZM] at g;obtain⟨_,_,rfl⟩:=g;rfl) k
  (fun j d h=>by
   have r:j<s.length:=by
    have:=(List.getElem?_eq_some_iff.1 h).1;simpa[qf] using this
   rw[i j r];exact qkc s j d h)⟩
theorem qjZ{F:zF}(B:VF X F){z:Bool}{o:Oper}{e:qu}{a:Act}{d:D}(f:Sim X ok w ι H)(k:EnvRep ok w ι H e a.tmps)(h:zf X F z o.op e H=some (d,H')):
  Goes X.P (execOp a.eval o) w (Post X H.length ok w ι H d H'):=by
 unfold zf at h;split at h
 .rename_i t I g j;split at h
  .rename_i ps K;split at h
   .rename_i ds n;injection h with h;injection h with q y;subst q;subst y;obtain⟨v,E,l,m⟩:=q09 (vps:=g.map fun(i,x)=>(i,a.eval x)) f (by simpa using qh0 f k K) n;exact Goes.value (by simp[execOp,j,l]) m
   .cases h
  .cases h
 .rename_i s t x j;split at h
  .rename_i b u hx G;split at h
   .rename_i us A r;injection h with h;injection h with q y;subst q;subst y;have n:=vm f k hx;generalize J:a.eval x=cv at n;cases n;obtain⟨v,E,l,m⟩:=q0A (s:=b) f A G r;exact Goes.value (by simp[execOp,j,J,l]) m
   .cases h
  .rename_i p _ hx;obtain⟨v,E,l,m⟩:=quO (P:=X.P) f (vm f k (by assumption)) h;exact Goes.value (by simp[execOp,j,l]) m
  .cases h
 .rename_i c j
  have C:zH X F (.call c) e H=some (d,H'):=by
   split at h
   .cases h
   .exact h
  rw[<-j] at C;exact qoi B f k C
 .exact qoi B f k h
end
end Go.Ev
namespace Go.Ev
section
variable {X:Cx} {ok ok':Nat->Prop} {w w':World} {ι:qV} {H H':qe}
def qfx(S:Nat->Prop)(o:Oper):Prop:=∀e,e∈o.after.toList->Region.binds .any e=true->S e.on
theorem qlO{a:Array Oper}{S:Nat->Prop}(G:∀(i:Nat)(o:Oper),a[i]?=some o->S i->qfx S o){j i:Nat}{o:Oper}(H:a[j]?=some o)
  (c:qfx S o) (A:((Region.before a).getD j 0).testBit i=true):S i:=by
 have z:∀(l b:List Oper)(acc:Array Nat),a.toList=b++l->acc.size=b.length->(∀j i,(acc.getD j 0).testBit i=true->∀o,a[j]?=some o->qfx S o->S i)->
   ∀j i,((l.foldl (fun acc o=>acc.push (o.after.foldl (fun s e=>if Region.binds .any e then s|||2^e.on|||acc.getD e.on 0 else s) 0)) acc).getD j 0).testBit i=true->∀o,a[j]?=some o->qfx S o->S i:=by
  intro l
  induction l with
  |nil=>intro b acc _ _ h;exact h
  |cons o l F=>
   intro b acc w C d;simp only[List.foldl_cons];refine F (b++[o]) _ (by rw[w];simp) (by simp[C]) ?_;intro j i hi q m n;by_cases J:j<acc.size
   .have:(acc.push (o.after.foldl (fun s e=>if Region.binds .any e then s|||2^e.on|||acc.getD e.on 0 else s) 0)).getD j 0=acc.getD j 0:=by
     simp only[j7];rw[Array.getElem?_push,if_neg wC]
    rw[this] at hi;exact d j i hi q m n
   .by_cases y:j=acc.size
    .subst y
     have:(acc.push (o.after.foldl (fun s e=>if Region.binds .any e then s|||2^e.on|||acc.getD e.on 0 else s) 0)).getD acc.size 0=o.after.foldl (fun s e=>if Region.binds .any e then s|||2^e.on|||acc.getD e.on 0 else s) 0:=by
      simp only[j7];rw[Array.getElem?_push,if_pos rfl];rfl
     rw[this] at hi
     have t:q=o:=by
      have B:a.toList[acc.size]?=some o:=(by rw[w,C];simp);rw[Array.getElem?_toList,m] at B;injection B
     subst t;rw[<-Array.foldl_toList] at hi
     have f:∀(k:List Edge)(s:Nat),(∀e,e∈k->e∈q.after.toList)->(∀i,s.testBit i=true->S i)->
       ∀i,(k.foldl (fun s e=>if Region.binds .any e then s|||2^e.on|||acc.getD e.on 0 else s) s).testBit i=true->S i:=by
      intro k
      induction k with
      |nil=>intro s _ r i hi;exact r i hi
      |cons e k u=>
       intro s p r i hi;simp only[List.foldl_cons] at hi;refine u _ (fun x hx=>p x (vq _ hx)) ?_ i hi;intro i hi;split at hi
       .rename_i v;rw[Nat.testBit_or,Nat.testBit_or] at hi;simp only[qeH] at hi;have g:=n e (p e (Z1 ..)) v;rcases hi with(hi|hi)|hi
        .exact r i hi
        .rw[Nat.testBit_two_pow] at hi;have:e.on=i:=xw;rw[<-this];exact g
        .by_cases K:e.on<acc.size
         .have I:e.on<a.size:=by
           have:a.toList.length=b.length+(q::l).length:=(by rw[w];simp);simp at this;omega
          have E:=ZN I;exact d e.on i hi _ E (G e.on _ E g)
         .simp only[j7,qfI (show acc.size<=e.on from wC)] at hi;simp at hi
       .exact r i hi
     exact f _ 0 (fun _ h=>h) (fun i hi=>wV) i hi
    .simp only[j7] at hi;rw[qfI wG] at hi;simp at hi
 have:=z a.toList [] #[] rfl rfl (fun j i hi=>wV) j i;unfold Region.before at A;rw[<-Array.foldl_toList] at A;exact this A o H c
def qcB(X:Cx)(F:zF)(nt:Nat)(bw:Option Tmp->Bool)(a:Array Oper)(o:Oper)(e:qu)(H:qe)(c:qu)(b:qe):Prop:=
 ko nt o.dst=true/\((vP a e o.guard=some true/\∃d,zf X F (bw o.dst) o.op e H=some (d,b)/\c=jP e o.dst d)\/(vP a e o.guard=some false/\b=H/\c=jP e o.dst (.tup [])))
theorem qmw{F:zF}{nt:Nat}{a:Bool}{b:Array Oper}:∀{l:List Oper}{e c:qu}{H H':qe},vX X F nt a b l e H=some (c,H')->
  ∃(E:Nat->qu)(T:Nat->qe),E 0=e/\T 0=H/\E l.length=c/\T l.length=H'/\∀k o,l[k]?=some o->qcB X F nt (fun _=>a) b o (E k) (T k) (E (k+1)) (T (k+1))
 |[],e,c,H,H',h=>by
  simp only[vX,qy,zj] at h;obtain⟨rfl,rfl⟩:=h;exact⟨fun _=>e,fun _=>H,rfl,rfl,rfl,rfl,fun k o q=>by simp at q⟩
 |o::l,e,c,H,H',h=>by
  simp only[vX] at h
  have key:∀g f,qcB X F nt (fun _=>a) b o e H g f->vX X F nt a b l g f=some (c,H')->∃(E:Nat->qu)(T:Nat->qe),E 0=e/\T 0=H/\E (o::l).length=c/\T (o::l).length=H'/\
    ∀k x,(o::l)[k]?=some x->qcB X F nt (fun _=>a) b x (E k) (T k) (E (k+1)) (T (k+1)):=by
   intro g f j t;obtain⟨E,T,p,v,n,r,u⟩:=qmw t;refine⟨fun k=>match k with|0=>e|k+1=>E k,fun k=>match k with|0=>H|k+1=>T k,rfl,rfl,n,r,fun k x hx=>?_⟩;cases k with
   |zero=>
    simp only[kY,qy] at hx;subst hx;simp only[p,v];exact j
   |succ k=>exact u k x wo
  split at h
  .rename_i m i;split at h
   .rename_i d f s;exact key _ f ⟨m,.inl ⟨i,d,s,rfl⟩⟩ h
   .cases h
  .rename_i m i;exact key _ H ⟨m,.inr ⟨i,rfl,rfl⟩⟩ h
  .cases h
def q6M(X:Cx)(a:Array Oper)(L:QX)(E:Nat->qu)(T:Nat->qe):Prop:=
 ∀i j x y,a[i]?=some x->a[j]?=some y->L.contains (i,j)=true->i≠j->vP a (E i) x.guard=some true->vP a (E j) y.guard=some true->
  (T i).length<=(T (i+1)).length/\∀b,b∈QG (y.op.operands.toList.map (qZ X (E j)))->qd (T (i+1)) b=qd (T i) b
theorem qmv{F:zF}{nt:Nat}{ow:List Nat}{a:Array Oper}{L:QX}:∀{l:List Oper}{k:Nat}{ws:List (Nat×qe×qe)}{rs:List (Nat×List Nat)}{e c:qu}{H H':qe},Qp X F nt ow a L k ws rs l e H=some (c,H')->
  ∃(E:Nat->qu)(T:Nat->qe),E 0=e/\T 0=H/\E l.length=c/\T l.length=H'/\∀k o,l[k]?=some o->qcB X F nt (Ja ow) a o (E k) (T k) (E (k+1)) (T (k+1))
 |[],k,ws,rs,e,c,H,H',h=>by
  simp only[Qp,qy,zj] at h;obtain⟨rfl,rfl⟩:=h;exact⟨fun _=>e,fun _=>H,rfl,rfl,rfl,rfl,fun k o s=>by simp at s⟩
 |o::l,k,ws,rs,e,c,H,H',h=>by
  simp only[Qp] at h
  have key:∀m g k ws rs,qcB X F nt (Ja ow) a o e H m g->Qp X F nt ow a L k ws rs l m g=some (c,H')->∃(E:Nat->qu)(T:Nat->qe),E 0=e/\T 0=H/\E (o::l).length=c/\T (o::l).length=H'/\
    ∀k x,(o::l)[k]?=some x->qcB X F nt (Ja ow) a x (E k) (T k) (E (k+1)) (T (k+1)):=by
   intro m g k ws rs n u;obtain⟨E,T,r,w,p,t,v⟩:=qmv u;refine⟨fun k=>match k with|0=>e|k+1=>E k,fun k=>match k with|0=>H|k+1=>T k,rfl,rfl,p,t,fun k x hx=>?_⟩;cases k with
   |zero=>
    simp only[kY,qy] at hx;subst hx;simp only[r,w];exact n
   |succ k=>exact v k x wo
  cases f:ko nt o.dst with
  |false=>simp[f] at h
  |true=>
   cases i:vP a e o.guard with
   |none=>simp[f,i] at h
   |some b=>
    cases b with
    |false=>
     simp only[f,i] at h;exact key _ H _ _ _ ⟨f,.inr ⟨i,rfl,rfl⟩⟩ h
    |true=>
     simp only[f,i] at h;cases j:zf X F (Ja ow o.dst) o.op e H with
     |none=>simp[j] at h
     |some q=>
      obtain⟨d,g⟩:=q;simp only[j] at h;split at h
      .exact key _ g _ _ _ ⟨f,.inl ⟨i,d,j,rfl⟩⟩ h
      .cases h
theorem qv2{L:QX}{k:Nat}{d:List Nat}:∀{ws:List (Nat×qe×qe)},qa7 L k d ws->∀{i:Nat}{A B:qe},(i,A,B)∈ws->L.contains (i,k)=true->∀b,b∈d->qd B b=qd A b
 |[],_,i,A,B,a,_=>by cases a
 |(g,j,l)::ws,h,i,A,B,a,hc=>by
  rcases List.mem_cons.1 a with a|a
  .injection a with f c;injection c with c e;subst f;subst c;subst e;exact h.1 hc
  .exact qv2 h.2 a hc
theorem qv1{L:QX}{k:Nat}{A B:qe}:∀{rs:List (Nat×List Nat)},qa6 L k A B rs->∀{j:Nat}{c:List Nat},(j,c)∈rs->L.contains (k,j)=true->∀b,b∈c->qd B b=qd A b
 |[],_,j,c,a,_=>by cases a
 |(g,e)::rs,h,j,c,a,hc=>by
  rcases List.mem_cons.1 a with a|a
  .injection a with d f;subst d;subst f;exact h.1 hc
  .exact qv1 h.2 a hc
theorem qwj{L:QX}{i j:Nat}(h:L.contains (i,j)=true):Jg L i=true/\Jl L j=true:=by
 rw[List.contains_iff_mem] at h;exact⟨List.any_eq_true.2 ⟨_,h,wE⟩,List.any_eq_true.2 ⟨_,h,wE⟩⟩
theorem qji{F:zF}{nt:Nat}{ow:List Nat}{a:Array Oper}{L:QX}{E:Nat->qu}{T:Nat->qe}(u:∀k o,a[k]?=some o->qcB X F nt (Ja ow) a o (E k) (T k) (E (k+1)) (T (k+1))):
  ∀(l:List Oper)(k:Nat)(ws:List (Nat×qe×qe))(rs:List (Nat×List Nat))(r:qu×qe),(∀m,l[m]?=a[k+m]?)->Qp X F nt ow a L k ws rs l (E k) (T k)=some r->
   (∀i x,i<k->a[i]?=some x->Jg L i=true->vP a (E i) x.guard=some true->(i,T i,T (i+1))∈ws/\(T i).length<=(T (i+1)).length)->
   (∀j y,j<k->a[j]?=some y->Jl L j=true->vP a (E j) y.guard=some true->(j,QG (y.op.operands.toList.map (qZ X (E j))))∈rs)->
   ∀i j x y,a[i]?=some x->a[j]?=some y->L.contains (i,j)=true->i≠j->vP a (E i) x.guard=some true->vP a (E j) y.guard=some true->k<=max i j->
    (T i).length<=(T (i+1)).length/\∀b,b∈QG (y.op.operands.toList.map (qZ X (E j)))->qd (T (i+1)) b=qd (T i) b
 |[],k,ws,rs,r,M,h,p,n,i,j,x,y,hi,c,hc,U,w,I,hm=>by
  exfalso;have Qz:=(Array.getElem?_eq_some_iff.1 hi).1;have vU:=(Array.getElem?_eq_some_iff.1 c).1;have:=M (max i j-k);rw[show k+(max i j-k)=max i j from wC,ZN wC] at this;simp at this
 |o::l,k,ws,rs,r,M,h,p,n,i,j,x,y,hi,c,hc,U,w,I,hm=>by
  have G:a[k]?=some o:=by have:=M 0;simpa using this.symm
  have Y:∀m,l[m]?=a[k+1+m]?:=by
   intro m;have:=M (m+1);rw[show k+1+m=k+(m+1) from wC,<-this];simp
  obtain⟨hd,P⟩:=u k o G;obtain⟨V,Z⟩:=qwj hc;simp only[Qp,hd] at h;rcases P with⟨O,d,QS,S⟩|⟨O,hT,S⟩
  .simp only[O,QS] at h;split at h
   .rename_i e;rw[<-S] at h
    have s:∀i x,i<k+1->a[i]?=some x->Jg L i=true->vP a (E i) x.guard=some true->(i,T i,T (i+1))∈(if Jg L k then(k,T k,T (k+1))::ws else ws)/\(T i).length<=(T (i+1)).length:=by
     intro i x t hi A K;by_cases H:i=k
     .subst H;rw[if_pos A];exact⟨Z1 ..,(e.2 A).1⟩
     .obtain⟨v,R⟩:=p i x wC hi A K;refine⟨?_,R⟩;split
      .exact vq _ v
      .exact v
    have C:∀j y,j<k+1->a[j]?=some y->Jl L j=true->vP a (E j) y.guard=some true->(j,QG (y.op.operands.toList.map (qZ X (E j))))∈(if Jl L k then(k,QG (o.op.operands.toList.map (qZ X (E k))))::rs else rs):=by
     intro j y Q c f g;by_cases B:j=k
     .subst B;rw[G] at c;injection c with c;subst c;rw[if_pos f];exact Z1 ..
     .have v:=n j y wC c f g;split
      .exact vq _ v
      .exact v
    by_cases W:k+1<=max i j
    .exact qji u l (k+1) _ _ r Y h s C i j x y hi c hc U w I W
    .obtain⟨v,R⟩:=s i x wC hi V w;refine⟨R,?_⟩;by_cases t:i=k
     .subst t;rw[G] at hi;injection hi with hi;subst hi;exact qv1 (e.2 V).2 (n j y wC c Z I) hc
     .have Q:j=k:=wC;subst Q;rw[G] at c;injection c with c;subst c;exact qv2 (e.1 Z) (p i x wC hi V w).1 hc
   .cases h
  .simp only[O] at h;rw[<-S,<-hT] at h
   have J:∀{q:Nat}{z:Oper},a[q]?=some z->vP a (E q) z.guard=some true->q≠k:=by
    rintro q z N gq rfl;rw[G] at N;injection N with N;subst N;rw[O] at gq;cases gq
   have n1:=J hi w;have n2:=J c I;exact qji u l (k+1) ws rs r Y h (fun i x t hi A K=>p i x (by have:=J hi K;omega) hi A K) (fun j y Q c f g=>n j y (by have:=J c g;omega) c f g) i j x y hi c hc U w I wC
theorem qz2{a e2:qu}{x:Operand}(h:∀t,t∈qjj x->qi a t=qi e2 t):qZ X a x=qZ X e2 x:=by
 cases x with
 |tmp t=>exact h t (by simp[qjj])
 |_=>rfl
theorem qjY{a e2:qu}:∀{l:List Operand},(∀x,x∈l->qZ X a x=qZ X e2 x)->vR X a l=vR X e2 l
 |[],_=>rfl
 |x::l,h=>by
  simp only[vR,h x (Z1 ..),qjY (fun y b=>h y (vq _ b))]
theorem qh1{a e2:qu}:∀{l:List (Nat×Operand)},(∀x,x∈l.map (·.2)->qZ X a x=qZ X e2 x)->YX X a l=YX X e2 l
 |[],_=>rfl
 |(i,x)::l,h=>by
  simp only[YX,h x wE,qh1 (l:=l) (fun y b=>h y (by simp only[List.map_cons,jI];exact .inr b))]
theorem qum{F:zF}{o:Op}{j e2:qu}(h:∀x,x∈o.operands.toList->qZ X j x=qZ X e2 x):zH X F o j H=zH X F o e2 H:=by
 cases o with
 |build t e=>
  simp only[zH];rw[qh1 (e2:=e2) (fun x hx=>h x (by simpa[Op.operands] using hx))]
 |buildSlice t n e=>
  simp only[zH];rw[qh1 (e2:=e2) (fun x hx=>h x (by simpa[Op.operands] using hx))]
 |makeFunc fn first p=>
  cases fn with
  |func f=>
   simp only[zH]
   rw[qjY (e2:=e2) (fun x hx=>h x (by
    simp only[Op.operands,Array.toList_append,vj];exact .inr hx))]
  |_=>rfl
 |slice t x k hi w=>
  cases w with
  |none=>
   have hx:=h x wO
   have q:k.map (qZ X j)=k.map (qZ X e2):=by
    cases k with
    |none=>rfl
    |some l=>simp[h l wO]
   have z:hi.map (qZ X j)=hi.map (qZ X e2):=by
    cases hi with
    |none=>rfl
    |some l=>simp[h l wO]
   simp only[zH,hx,q,z]
  |some m=>rfl
 |call c=>
  simp only[zH]
  have v:vR X j c.args.toList=vR X e2 c.args.toList:=qjY fun x hx=>h x (by
   simp only[Op.operands,Call.operands,Array.toList_append,vj];exact .inr hx)
  rw[v];cases hc:c.callee with
  |builtin b=>cases vR X e2 c.args.toList<;>rfl
  |value g=>
   have A:=h g (by simp[Op.operands,Call.operands,hc]);cases vR X e2 c.args.toList with
   |none=>rfl
   |some args=>simp only[A]
  |invoke r m=>cases vR X e2 c.args.toList<;>rfl
 |pick c a b=>
  simp only[zH];rw[h c wO];split
  .rename_i t _;cases t
   .simp only[kZ,if_false];rw[h b wO]
   .simp only[if_true];rw[h a wO]
  .rfl
 |move x=>simp only[zH,h x wO]
 |assign x=>simp only[zH,h x wO]
 |box t x=>simp only[zH,h x wO]
 |load t x=>simp only[zH,h x wO]
 |store t x y=>simp only[zH,h x wO,h y wO]
 |nilCheck x=>simp only[zH,h x wO]
 |binOp op t x y u=>simp only[zH,h x wO,h y wO]
 |unOp op t x=>simp only[zH,h x wO]
 |convert s d x=>simp only[zH,h x wO]
 |makeInterface t x=>simp only[zH,h x wO]
 |makeSlice t x y=>simp only[zH,h x wO,h y wO]
 |fieldAddr s x f=>simp only[zH,h x wO]
 |field s x f=>simp only[zH,h x wO]
 |indexAddr t x y=>simp only[zH,h x wO,h y wO]
 |index t x y=>simp only[zH,h x wO,h y wO]
 |extract x i=>simp only[zH,h x wO]
 |_=>rfl
theorem q4z{F:zF}{a:Bool}{o:Op}{b e2:qu}(h:∀x,x∈o.operands.toList->qZ X b x=qZ X e2 x):zf X F a o b H=zf X F a o e2 H:=by
 unfold zf;split
 .rw[qh1 (e2:=e2) (fun x hx=>h x (by simpa[Op.operands] using hx))]
 .rw[h _ wO]
 .rename_i c;rw[qum (o:=.call c) h]
  have d:Xs X c b=Xs X c e2:=by
   unfold Xs;cases X.dynV with
   |false=>rfl
   |true=>
    cases hc:c.callee with
    |value g=>
     cases g with
     |tmp t=>
      have e:qi b t=qi e2 t:=h (.tmp t) (by simp[Op.operands,Call.operands,hc]);simp only[e]
     |_=>rfl
    |_=>rfl
  rw[d]
 .exact qum h
theorem qkr{x:Option D}{d:D}(h:x.map (·,H)=some (d,H')):H'=H/\∀a:qe,x.map (·,a)=some (d,a):=by
 obtain⟨rfl,rfl⟩:=Zt h;exact⟨rfl,fun _=>rfl⟩
theorem q6f{b:Builtin}{ts:List TypeId}{args:List D}{d:D}(c:b=.len\/b=.min\/b=.max)(h:qdL X b ts args H=some (d,H')):H'=H/\∀a,qdL X b ts args a=some (d,a):=by
 rcases c with rfl|rfl|rfl
 .rcases ts with _|⟨t,ts⟩
  .simp[qdL] at h
  .rcases args with _|⟨x,args⟩
   .simp[qdL] at h
   .exact qkr h
 .exact qkr h
 .exact qkr h
theorem q0S{F:zF}{o:Op}{e:qu}{d:D}(g:Vg X o=.v)(h:zf X F true o e H=some (d,H')):H'=H/\∀j,zf X F true o e j=some (d,j):=by
 have l:∀{x:Option D},x.map (·,H)=some (d,H')->H'=H/\∀j:qe,x.map (·,j)=some (d,j):=by
  intro x hx;obtain⟨rfl,rfl⟩:=Zt hx;exact⟨rfl,fun _=>rfl⟩
 cases o with
 |buildSlice t n A=>
  simp only[zf] at h⊢;split at h
  .rename_i ps q;split at h
   .rename_i ds J;injection h with h;injection h with p C;subst p;subst C;exact⟨rfl,fun j=>rfl⟩
   .cases h
  .cases h
 |move x=>exact l h
 |assign x=>exact l h
 |pick c a b=>
  simp only[zf,zH] at h⊢;split at h
  .exact l h
  .cases h
 |build t A=>
  simp only[zf,zH] at h⊢;split at h
  .exact l h
  .cases h
 |nilCheck x=>
  simp only[zf,zH] at h⊢;split at h<;>first|(cases h;done)|skip
  all_goals
   injection h with h;injection h with p C;subst p;subst C;exact⟨rfl,fun _=>rfl⟩
 |binOp op t x y u=>
  simp only[zf,zH] at h⊢;split at h
  .exact l h
  .cases h
 |unOp op t x=>
  simp only[zf,zH] at h⊢;split at h
  .exact l h
  .cases h
 |makeInterface t x=>
  simp only[zf,zH] at h⊢;split at h
  .cases h
  .injection h with h;injection h with p C;subst p;subst C;exact⟨rfl,fun _=>rfl⟩
  .cases h
 |makeFunc fn first w=>
  cases fn with
  |func f=>
   simp only[zf,zH] at h⊢;split at h
   .rename_i N;cases hc:vR X e w.toList with
    |none=>simp[hc] at h
    |some cs=>
     simp only[hc,j6,qy,zj] at h;obtain⟨rfl,rfl⟩:=h;exact⟨rfl,fun _=>by simp[N]⟩
   .cases h
  |_=>simp[zf,zH] at h
 |slice t x R hi P=>
  cases P with
  |none=>
   simp only[zf,zH] at h⊢;split at h<;>first|(cases h;done)|exact l h
  |some m=>simp[zf,zH] at h
 |fieldAddr s x f=>
  simp only[zf,zH] at h⊢;split at h
  .exact l h
  .cases h
 |field s x f=>
  simp only[zf,zH] at h⊢;split at h
  .exact l h
  .cases h
 |indexAddr t x y=>
  simp only[zf,zH] at h⊢;split at h
  .exact l h
  .cases h
 |index t x y=>
  simp only[zf,zH] at h⊢;split at h
  .exact l h
  .cases h
 |extract x i=>
  simp only[zf,zH] at h⊢;split at h
  .exact l h
  .cases h
 |call c=>
  have hc:(c.callee=.builtin .len\/c.callee=.builtin .min\/c.callee=.builtin .max)\/(∃f,c.callee=.value (.func f)/\(X.pureF f&& !X.byRef f&& !X.perm f)=true)\/(∃t,c.callee=.value (.tmp t)/\X.dynV=true):=by
   simp only[Vg] at g;split at g
   .rename_i hc;exact .inl (.inl hc)
   .rename_i hc;exact .inl (.inr (.inl hc))
   .rename_i hc;exact .inl (.inr (.inr hc))
   .rename_i f hc;refine .inr (.inl ⟨f,hc,?_⟩);split at g
    .cases g
    .rename_i J;split at g
     .rename_i q;split at g
      .cases g
      .rename_i K;rw[q];simp[J,K]
     .split at g<;>cases g
   .rename_i t hc;refine .inr (.inr ⟨t,hc,?_⟩);split at g
    .assumption
    .cases g
   .cases g
  have k:∀{f:Nat}{args:List D},(X.pureF f&& !X.byRef f&& !X.perm f)=true->VD X F f args H=some (d,H')->H'=H/\∀j,VD X F f args j=some (d,j):=by
   intro f args z h;rw[zX] at z;have q:=z.1;have B:X.perm f=false:=by simpa using z.2
   have K:(X.perm f&& !X.pureF f&& !X.byRef f)=false:=by
    simp[B]
   have G:(X.perm f&&X.byRef f)=false:=(by simp[B]);rw[qiD K G] at h;obtain⟨Q,M,p⟩:=qgP q h;rcases p with⟨p,C⟩|⟨_,p,_⟩
   .refine⟨Q,fun j=>?_⟩;rw[qiD K G];unfold ZI;rw[if_pos q,if_pos p,C];simp only at M;simp only[M,if_true]
   .rw[B] at p;cases p
  rcases hc with hc|⟨f,hc,q⟩|⟨t,hc,L⟩
  rotate_left
  .have I:∀j,zf X F true (.call c) e j=zH X F (.call c) e j:=fun j=>by
    simp only[zf,Xs,hc];cases X.dynV<;>rfl
   rw[I] at h;simp only[I];simp only[zH] at h⊢;simp only[hc] at h⊢;cases r:vR X e c.args.toList with
   |none=>simp[r] at h
   |some args=>
    simp only[r,qZ] at h⊢;exact k q h
  .simp only[zf] at h⊢;split at h
   .cases h
   .rename_i J;have E:Xs X c e=false:=(by simpa using J);simp only[E,kZ,if_false];unfold Xs at E;simp only[hc,L] at E;split at E
    .rename_i f w O;have q:(X.pureF f&& !X.byRef f&& !X.perm f)=true:=(by simpa using E);simp only[zH,hc] at h⊢;cases r:vR X e c.args.toList with
     |none=>simp[r] at h
     |some args=>
      simp only[r,qZ,O] at h⊢;exact k q h
    .cases E
  have I:∀j,zf X F true (.call c) e j=zH X F (.call c) e j:=fun j=>by
   simp only[zf,Xs];rcases hc with hc|hc|hc<;>(simp only[hc];cases X.dynV<;>rfl)
  rw[I] at h;simp only[I];simp only[zH] at h⊢;cases r:vR X e c.args.toList with
  |none=>rcases hc with hc|hc|hc<;>simp[hc,r] at h
  |some args=>rcases hc with hc|hc|hc<;>(simp only[hc,r] at h⊢;exact q6f wE h)
 |load _ _=>simp[Vg] at g
 |convert _ _ _=>simp[Vg] at g
 |alloc _=>simp[Vg] at g
 |box _ _=>simp[Vg] at g
 |makeSlice _ _ _=>simp[Vg] at g
 |store _ _ _=>simp[Vg] at g
 |_=>simp[zf,zH] at h
theorem qoP{a T2:qe}{p:D}{cs:List D}(c:∀i,YN p=some i->qd a i≠none->qd T2 i=qd a i)(h:mem a p=some cs):mem T2 p=some cs:=by
 cases p<;>simp only[mem,reduceCtorEq] at h⊢
 .exact h
 .rename_i i st off;split at h
  .rename_i ds b;have:=c i rfl (by rw[b];simp);rw[this,b];exact h
  .cases h
theorem qxm{a T2:qe}{p:D}{k:Nat}{r:List D×Nat}(d:∀i,YN p=some i->qd a i≠none->qd T2 i=qd a i)(h:YQ a k p=some r):YQ T2 k p=some r:=by
 cases p<;>simp only[YQ,reduceCtorEq] at h⊢
 .exact h
 .rename_i i st off c k';split at h
  .rename_i ds b;have:=d i rfl (by rw[b];simp);rw[this,b];exact h
  .cases h
theorem qoh{e:qu}:∀{l:List Operand}{ds:List D},vR X e l=some ds->∀d,d∈ds->∃x,x∈l/\qZ X e x=some d
 |[],ds,h,d,a=>by
  simp only[vR,qy] at h;subst h;cases a
 |x::l,ds,h,d,a=>by
  simp only[vR] at h;split at h
  .rename_i j f g i;injection h with h;subst h;rcases List.mem_cons.1 a with rfl|a
   .exact⟨x,Z1 ..,g⟩
   .obtain⟨y,c,b⟩:=qoh i d a;exact⟨y,vq _ c,b⟩
  .cases h
mutual
theorem qtG(a T2:qe):∀(d:D),idFree d=true->freeze T2 d=freeze a d
 | .agg cs,h=>by simp only[idFree] at h;simp only[freeze,qkT a T2 cs h]
 | .fn f cs,h=>by simp only[idFree] at h;simp only[freeze,qkT a T2 cs h]
 | .tup _,_=>rfl
 | .iface _ _,_=>rfl
 | .optr ..,h=>by simp[idFree] at h
 | .osl ..,h=>by simp[idFree] at h
 | .bool _,_=>rfl
 | .int _ _,_=>rfl
 | .str _,_=>rfl
 | .nilp,_=>rfl
 | .nilf,_=>rfl
 | .nili,_=>rfl
 | .raw _,_=>rfl
 | .vptr _,_=>rfl
 | .vsl ..,_=>rfl
theorem qkT(a T2:qe):∀(cs:List D),idFree.idFreeL cs=true->freeze.freezeL T2 cs=freeze.freezeL a cs
 |[],_=>rfl
 |d::l,h=>by
  simp only[idFree.idFreeL,zX] at h;simp only[freeze.freezeL,qtG a T2 d h.1,qkT a T2 l h.2]
end
theorem q3Y{a T2:qe}{p:D}(e:∀i,YN p=some i->qd a i≠none->qd T2 i=qd a i)(h:qb0 a p=true):qb0 T2 p=true/\freeze T2 p=freeze a p:=by
 cases p with
 |osl i st off d k=>
  simp only[qb0] at h;split at h
  .rename_i ds c;have b:=e i rfl (by rw[c];simp);constructor
   .simp only[qb0,b,c];exact h
   .simp only[freeze,b]
  .cases h
 |optr i st off=>simp[qb0,idFree] at h
 |_=>exact⟨h,qtG a T2 _ h⟩
theorem qtM{a T2:qe}:∀(args:List D),(∀p,p∈args->∀i,YN p=some i->qd a i≠none->qd T2 i=qd a i)->args.all (qb0 a)=true->args.all (qb0 T2)=true/\qcy T2 args=qcy a args
 |[],_,_=>⟨rfl,rfl⟩
 |p::l,b,h=>by
  simp only[Vc,zX] at h;obtain⟨d,e⟩:=q3Y (b p (Z1 ..)) h.1;obtain⟨g,c⟩:=qtM l (fun q f=>b q (vq _ f)) h.2;unfold qcy at c⊢;exact⟨by simp[d,g],by simp only[freeze.freezeL,e,c]⟩
theorem q0T{F:zF}{o:Op}{e:qu}{d:D}{y T2:qe}(m:Vg X o=.r)(h:zf X F true o e y=some (d,H'))
  (C:∀x,x∈o.operands.toList->∀p i,qZ X e x=some p->YN p=some i->qd y i≠none->qd T2 i=qd y i):H'=y/\zf X F true o e T2=some (d,T2):=by
 cases o with
 |load t x=>
  simp only[zf,zH] at h⊢;split at h
  .rename_i p z;obtain⟨g,rfl⟩:=Zt h;refine⟨rfl,?_⟩
   have R:ldD X.P T2 t p=some d:=by
    unfold ldD at g⊢;split at g
    .rename_i cs I L;rw[qoP (C x wO p · z) L];simp only[I];exact g
    .rename_i x' l I L;rw[qoP (C x wO p · z) L];simp only[I];exact g
    .cases g
   rw[R];rfl
  .cases h
 |convert s t x=>
  simp only[zf] at h⊢;split at h
  .rename_i b u hx hu;split at h
   .injection h with h;injection h with g v;subst g;subst v;exact⟨rfl,rfl⟩
   .cases h
  .rename_i a hx _;have B:∀i,YN a=some i->qd y i≠none->qd T2 i=qd y i:=fun i=>C x wO a i hx;unfold qdJ at h⊢;split at h
   .rename_i k k' n g v;injection h with h;injection h with j q;subst j;subst q;exact⟨rfl,rfl⟩
   .rename_i b g v;injection h with h;injection h with j q;subst j;subst q;exact⟨rfl,rfl⟩
   .injection h with h;injection h with j q;subst j;subst q;exact⟨rfl,rfl⟩
   .exfalso
    simp_all
   .rename_i e' _ g v;split at h
    .rename_i cs n H kv
     obtain⟨j,rfl⟩:((VE cs).map fun s=>D.str s)=some d/\y=H':=by
      cases w:VE cs with
      |none=>simp[w] at h
      |some s=>
       simp only[w,j6,qy,zj] at h;exact⟨by simp[h.1],h.2⟩
     refine⟨rfl,?_⟩;rw[qxm B kv];simp only[H];cases w:VE cs with
     |none=>simp[w] at j
     |some s=>simpa[w] using j
    .cases h
   .rename_i i st off Z k g _ v;split at h
    .rename_i ds H O;have Q:=B i rfl (by rw[O];simp);split at h
     .rename_i hc;injection h with h;injection h with j q;subst j;subst q;refine⟨rfl,?_⟩;rw[Q,O];simp only[H,hc,and_self,if_true]
     .cases h
    .cases h
   .cases h
  .cases h
 |call c=>
  simp only[Vg] at m;split at m<;>first|(cases m;done)|skip
  .rename_i f hc;split at m
   .cases m
   .rename_i w;split at m
    .rename_i N;split at m
     .rename_i XG;have z:(X.pureF f&& !X.byRef f)=true:=(by simp[N,w]);have K:(X.perm f&& !X.pureF f&& !X.byRef f)=false:=by simp[N]
      have M:∀T,zf X F true (.call c) e T=zH X F (.call c) e T:=fun T=>by
       simp only[zf,Xs,hc];cases X.dynV<;>rfl
      rw[M] at h;rw[M];simp only[zH,hc] at h⊢;cases J:vR X e c.args.toList with
      |none=>simp[J] at h
      |some args=>
       simp only[J,qZ,Jd] at h⊢;rw[qiD K (by simp[w])] at h⊢;obtain⟨q,j,g⟩:=qgP z h;simp only at j q g;refine⟨q,?_⟩;unfold ZI;rw[if_pos z];rcases g with⟨g,v⟩|⟨g,A,Y,U,E,W,v⟩
       .rw[if_pos g,v];simp only[j,if_true]
       .obtain⟨S,V⟩:=qtM args (fun p K i hi qQ=>by
         obtain⟨x,hx,G⟩:=qoh J p K
         exact C x (by
          simp only[Op.operands,Call.operands,Array.toList_append,vj];exact .inr hx) p i G hi qQ) Y
        rw[if_neg g];simp only[A,S,Bool.and_self,if_true,V,W,v,j,U]
     .cases m
    .split at m<;>cases m
  .split at m<;>cases m
 |_=>simp[Vg] at m
theorem q0V{F:zF}{o:Op}{e:qu}{d:D}(a:Vg X o=.e)(h:zf X F true o e H=some (d,H')):∃N,H'=H++N:=by
 cases o with
 |alloc t=>
  simp only[zf,zH] at h;split at h
  .injection h with h;injection h with i b;exact⟨_,b.symm⟩
  .cases h
 |box t x=>
  simp only[zf,zH] at h;split at h
  .split at h
   .injection h with h;injection h with i b;exact⟨_,b.symm⟩
   .cases h
  .cases h
 |makeSlice t x y=>
  simp only[zf,zH] at h;split at h
  .unfold qgn at h;split at h
   .split at h
    .simp only[Option.bind_eq_some_iff] at h;obtain⟨z,_,h⟩:=h;split at h
     .injection h with h;injection h with i b;exact⟨_,b.symm⟩
     .cases h
    .cases h
   .cases h
  .cases h
 |call c=>
  simp only[Vg] at a;split at a<;>first|(cases a;done)|skip
  rotate_left
  .split at a<;>cases a
  rename_i f hc;split at a
  .cases a
  .rename_i g
   have m:(X.perm f&& !X.pureF f&& !X.byRef f)=false:=by
    split at a
    .split at a<;>cases a
    .split at a
     .cases a
     .rename_i j;simp[j]
   have l:zf X F true (.call c) e H=zH X F (.call c) e H:=by
    simp only[zf,Xs,hc];cases X.dynV<;>rfl
   rw[l] at h;simp only[zH,hc] at h;cases k:vR X e c.args.toList with
   |none=>simp[k] at h
   |some args=>
    simp only[k,qZ] at h;rw[qiD m (by simp[g])] at h;replace h:=qiC h;unfold Ya at h;rw[if_neg g] at h;split at h
    .split at h
     .cases h
     .injection h with h;injection h with i b;exact⟨_,b.symm⟩
    .split at h
     .cases h
     .split at h
      .cases h
      .split at h
       .injection h with h;injection h with i b;exact⟨_,b.symm⟩
       .cases h
 |_=>simp[Vg] at a
theorem qun{F:zF}{o:Op}{e:qu}:zf X F false o e H=zH X F o e H:=by cases o<;>rfl
theorem qk3{bw:Bool}{F:zF}{o:Op}:(Zs X bw o=Vg X o/\(∀(e:qu)(H:qe),zf X F bw o e H=zf X F true o e H))\/(bw=false/\(Zs X bw o=.e/\((∃t n ps,o=.buildSlice t n ps)\/∃s d x,o=.convert s d x))\/(Zs X bw o=.m)):=by
 cases bw with
 |true=>exact .inl ⟨rfl,fun _ _=>rfl⟩
 |false=>
  cases o with
  |buildSlice t n ps=>exact .inr (.inl ⟨rfl,rfl,.inl ⟨t,n,ps,rfl⟩⟩)
  |convert s d x=>exact .inr (.inl ⟨rfl,rfl,.inr ⟨s,d,x,rfl⟩⟩)
  |call c=>
   cases hc:c.callee with
   |value g=>
    cases g with
    |tmp t=>exact .inr (.inr (by simp only[Zs,hc]))
    |_=>exact .inl ⟨by simp only[Zs,hc],fun e H=>yS⟩
   |builtin b=>exact .inl ⟨by simp only[Zs,hc],fun e H=>yS⟩
   |invoke r m=>exact .inl ⟨by simp only[Zs,hc],fun e H=>yS⟩
  |_=>exact .inl ⟨rfl,fun _ _=>rfl⟩
theorem qsw{bw:Bool}{F:zF}{o:Op}{e:qu}{d:D}(a:Zs X bw o=.v)(h:zf X F bw o e H=some (d,H')):H'=H/\∀c,zf X F bw o e c=some (d,c):=by
 rcases qk3 (X:=X) (bw:=bw) (F:=F) (o:=o) with⟨b,f⟩|⟨_,b,_⟩|b
 .rw[b] at a;rw[f] at h;simp only[f];exact q0S a h
 .rw[b] at a;cases a
 .rw[b] at a;cases a
theorem qsx{bw:Bool}{F:zF}{o:Op}{e:qu}{d:D}{c T2:qe}(a:Zs X bw o=.r)(h:zf X F bw o e c=some (d,H'))
  (g:∀x,x∈o.operands.toList->∀p i,qZ X e x=some p->YN p=some i->qd c i≠none->qd T2 i=qd c i):H'=c/\zf X F bw o e T2=some (d,T2):=by
 rcases qk3 (X:=X) (bw:=bw) (F:=F) (o:=o) with⟨b,f⟩|⟨_,b,_⟩|b
 .rw[b] at a;rw[f] at h;rw[f];exact q0T a h g
 .rw[b] at a;cases a
 .rw[b] at a;cases a
theorem q4Y{P:Program}{s t:TypeId}{x d:D}(h:qdJ P H s t x=some (d,H')):∃N,H'=H++N:=by
 unfold qdJ at h;split at h
 .injection h with h;injection h with b a;exact⟨[],xA⟩
 .injection h with h;injection h with b a;exact⟨[],xA⟩
 .injection h with h;injection h with b a;exact⟨[],xA⟩
 .split at h
  .injection h with h;injection h with b a;exact⟨_,a.symm⟩
  .cases h
 .split at h
  .rename_i cs n f e;cases c:VE cs with
   |none=>simp[c] at h
   |some s=>
    simp only[c,j6,qy,zj] at h;exact⟨[],by simp[h.2]⟩
  .cases h
 .split at h
  .split at h
   .injection h with h;injection h with b a;exact⟨[],xA⟩
   .cases h
  .cases h
 .cases h
theorem q08{P:Program}{t:TypeId}{n:Nat}{ps:List (Nat×D)}{d:D}(h:qc8 P H t n ps=some (d,H')):∃N,H'=H++N:=by
 unfold qc8 at h;split at h
 .split at h
  .split at h
   .simp only[Option.bind_eq_some_iff] at h;obtain⟨cs,_,h⟩:=h;split at h
    .injection h with h;injection h with b a;exact⟨_,a.symm⟩
    .cases h
   .cases h
  .cases h
 .cases h
theorem q0U{bw:Bool}{F:zF}{o:Op}{e:qu}{d:D}(a:Zs X bw o=.e)(h:zf X F bw o e H=some (d,H')):∃N,H'=H++N:=by
 rcases qk3 (X:=X) (bw:=bw) (F:=F) (o:=o) with⟨b,c⟩|⟨rfl,b,⟨t,n,ps,rfl⟩|⟨s,t,x,rfl⟩⟩|b
 .rw[b] at a;rw[c] at h;exact q0V a h
 .rw[qun] at h;simp only[zH] at h;split at h
  .exact q08 h
  .cases h
 .rw[qun] at h;simp only[zH] at h;split at h
  .exact q4Y h
  .cases h
 .rw[b] at a;cases a
end
end Go.Ev
namespace Go.Ev
section
variable {X:Cx} {bw:Option Tmp->Bool} {L:QX} {al:Option Nat} {ok ok':Nat->Prop} {w w':World} {ι:qV} {H H':qe}
theorem qmf{f:Array Oper}{e:qu}{a:Act}{o:Oper}{b:Bool}(p:∀k c t,o.guard=some (k,c)->(f[k]?).bind (·.dst)=some t->∀d,qi e t=some d->t<a.tmps.size/\Rep ok w ι H d (a.tmps.getD t undef))
  (h:vP f e o.guard=some b):Region.wanted o (yielded f a.tmps)=b:=by
 unfold vP at h;unfold Region.wanted;split at h
 .rename_i l;injection h with h;rw[l];exact h
 .rename_i j c l;rw[l];simp only;unfold yielded;cases m:(f[j]?).bind (·.dst) with
  |none=>
   simp only[m,qy] at h;subst h;simp
  |some t=>
   simp only[m] at h;simp only[qa9];split at h
   .rename_i v n;injection h with h;obtain⟨i,g⟩:=p j c t l m _ n;rw[j7,ZN i] at g;rw[ZN i];generalize a.tmps[t]=x at g;cases g;simp only;rw[<-h];cases v<;>cases c<;>rfl
   .rename_i n;injection h with h;subst h;obtain⟨i,g⟩:=p j c t l m _ n;rw[j7,ZN i] at g;rw[ZN i];generalize a.tmps[t]=x at g;cases g;simp
   .cases h
theorem qed(a:Act)(dst:Option Tmp)(v:Value):(a.put dst v).tmps.size=a.tmps.size/\(a.put dst v).defers=a.defers:=by
 cases dst<;>simp[Act.put]
def Out(X:Cx)(n:Nat)(ok:Nat->Prop)(w:World)(ι:qV)(H:qe)(a:Act)(c:qu)(H':qe)(b:Act)(w':World):Prop:=
 b.tmps.size=a.tmps.size/\b.defers=a.defers/\∃ι' ok',Sim X ok' w' ι' H'/\EnvRep ok' w' ι' H' c b.tmps/\Evol n ok w ι H ok' w' ι' H'
theorem qhe:Rep ok w ι H (.tup []) undef:=.tup rfl wE
theorem qhI{e:qu}{dst:Option Tmp}{d:D}{t:Nat}:qi (jP e dst d) t=if dst=some t then some d else qi e t:=by
 cases dst with
 |none=>simp[jP]
 |some s=>
  simp only[jP,qi,qy]
def qbJ(l:List Nat)(e:qu):qu:=Qf l e
theorem qhH:∀{l:List Nat}{e:qu}{t:Nat},t∈l->qi (qbJ l e) t=qi e t
 |k::l,e,t,h=>by
  simp only[qbJ,Qf];by_cases c:k=t
  .subst c;cases g:qi e k with
   |some d=>simp[qi]
   |none=>
    simp only;by_cases a:k∈l
    .exact(qhH a).trans g
    .have:∀{l:List Nat}{t:Nat},t∉l->qi (Qf l e) t=none:=by
      intro l
      induction l with
      |nil=>intro t _;rfl
      |cons x l f=>
       intro t b;simp only[jI,not_or] at b;simp only[Qf];split
       .simp only[qi,Ne.symm b.1,if_false];exact f b.2
       .exact f b.2
     exact this a
  .have a:t∈l:=by
    rcases List.mem_cons.1 h with h|h
    .exact absurd h.symm c
    .exact h
   split
   .simp only[qi,c,if_false];exact qhH a
   .exact qhH a
theorem qhG:∀{l:List Nat}{e:qu}{t:Nat}{d:D},qi (qbJ l e) t=some d->t∈l/\qi e t=some d
 |[],e,t,d,h=>by simp[qbJ,Qf,qi] at h
 |k::l,e,t,d,h=>by
  simp only[qbJ,Qf] at h;split at h
  .rename_i x c;simp only[qi] at h;split at h
   .rename_i f;subst f;exact⟨Z1 ..,by rw[c];exact h⟩
   .obtain⟨b,a⟩:=qhG h;exact⟨vq _ b,a⟩
  .obtain⟨b,a⟩:=qhG h;exact⟨vq _ b,a⟩
structure DrawFacts (X:Cx) (bw:Option Tmp->Bool) (L:QX) (al:Option Nat) (ops:Array Oper):Prop where
 edge:∀(j:Nat)(o:Oper),ops[j]?=some o->∀e,e∈o.after.toList->Region.binds .any e=true->e.on<j
 ord:∀(i j:Nat)(x y:Oper),ops[i]?=some x->ops[j]?=some y->i<j->VC X bw L al ops i x j y=true->((Region.before ops).getD j 0).testBit i=true
 alo:∀j,al=some j->∃o ty t,ops[j]?=some o/\o.op=.alloc ty/\o.dst=some t/\o.guard=none/\
  ∀(k:Nat)(y:Oper),ops[k]?=some y->k≠j->t∈J9 ops y->j<k/\∀(i:Nat)(x:Oper),ops[i]?=some x->i<j->jm X (bw x.dst) x.op=true->((Region.before ops).getD k 0).testBit i=true
theorem quE{a:Array Oper}(h:qi1 X bw L al a=true):DrawFacts X bw L al a:=by
 unfold qi1 at h;simp only[zX] at h;obtain⟨c,h⟩:=h;have p:=List.all_eq_true.1 h
 have d:∀(j:Nat)(o:Oper),a[j]?=some o->(o,j)∈a.toList.zipIdx:=by
  intro j o b;rw[List.mem_zipIdx_iff_getElem?];simpa using b
 constructor
 .intro j o b e s u;have:=p _ (d j o b);simp only[zX] at this;have f:=Array.all_eq_true'.1 this.1 e (by simpa using s);simpa[u] using f
 .intro i j x y hi b m hc;have:=p _ (d j y b);simp only[zX] at this;have f:=List.all_eq_true.1 this.2 _ (d i x hi);simpa[m,hc] using f
 .intro j b;subst b;simp only[qvA] at c;cases n:a[j]? with
  |none=>simp[n] at c
  |some o=>
   simp only[n] at c;split at c
   .rename_i ty t f w r;refine⟨o,ty,t,rfl,f,w,r,fun k y g l q=>?_⟩;have:=List.all_eq_true.1 c _ (d k y g);have hc:(J9 a y).contains t=true:=(by simpa using q);simp only[hc,beq_iff_eq,l,Bool.not_true,Bool.or_false,zX,decide_eq_true_eq,qeH,false_or] at this;refine⟨this.1,fun i x hi m g=>?_⟩;have v:=List.all_eq_true.1 this.2 _ (d i x hi);simpa[m,g] using v
   .cases c
theorem q5B{a:Array Oper}{i j:Nat}{x y:Oper}(h:VC X bw L al a i x j y=true):VC X bw L al a j y i x=true:=by
 unfold VC at *;rw[Nat.max_comm j i];simp only[qeH,zX] at *;rcases h with(((h|h)|h)|h)|h
 .exact .inl (.inl (.inl (.inr h)))
 .exact .inl (.inl (.inl (.inl h)))
 .exact .inl (.inl (.inr ⟨⟨h.1.2,h.1.1⟩,h.2⟩))
 .exact .inr ⟨⟨h.1.2,h.1.1⟩,h.2⟩
 .exact .inl (.inr ⟨⟨h.1.2,h.1.1⟩,h.2⟩)
theorem qi9{a:Array Oper}{i j:Nat}{x y:Oper}(hx:jm X (bw x.dst) x.op=true)(b:jm X (bw y.dst) y.op=true)(c:al≠some (max i j)):VC X bw L al a i x j y=true:=by
 unfold VC;have:(al==some (max i j))=false:=wS
 simp only[hx,b,this,Bool.not_false,Bool.and_true,Bool.or_true,Bool.true_or]
theorem qxu(b:Sim X ok w ι H)(m:qa8 w w')(r:w.heap.size<=w'.heap.size)(e:∀c,c<w.heap.size->w'.heap[c]?=w.heap[c]?):Sim X ok w' ι H/\Evol H.length ok w ι H ok w' ι H:=by
 have a:Evol H.length ok w ι H ok w' ι H:=
  ⟨m.1,m.2.1,m.2.2,r,fun c hc _=>e c hc,fun _ h=>h,fun _ h _=>.inl h,⟨qA _,qA _⟩,fun _ _ ds n=>⟨ds,n,qA _,fun _=>rfl⟩,
   fun i ds _ s n hi _=>⟨i,ds,s,n,hi⟩⟩
 refine⟨⟨fun c hc=>vh (b.okS c hc) r,fun g cs B=>?_,b.inj,fun k v q=>?_⟩,a⟩
 .have h:=(b.glob g cs B).lift (ι:=ι) (H:=H);exact(h.evol b a rfl).free rfl _ _
 .obtain⟨c,f,e2,l,o,C,u,y,z,A,x,t⟩:=b.blk k v q;exact⟨c,f,e2,l,o,C,by rw[e c (b.lt q o)];exact u,y,z,A,x,fun j d p=>(t j d p).evol b a (t j d p).closed⟩
theorem qjF{ds:List D}{ι2:qV}(B:∀k,k<H.length->ι2 k=ι k){ι1:qV}{A:qe}{d:D}{v:Value}(h:Rep ok w ι1 A d v):ι1=ι->A=H->Rep ok w ι2 (qr H ds) d v:=by
 induction h with
 |bool b=>intros;exact .bool b
 |int k n=>intros;exact .int k n
 |str s=>intros;exact .str s
 |nilp=>intros;exact .nilp
 |nilf=>intros;exact .nilf
 |nili=>intros;exact .nili
 |raw v=>intros;exact .raw v
 |agg m hc h i=>intro g c;exact .agg m hc fun j d o=>i j d o g c
 |tup m h i=>intro g c;exact .tup m fun j d o=>i j d o g c
 |fn m h i=>intro g c;exact .fn m fun j d o=>i j d o g c
 |iface h i=>intro g c;exact .iface (i g c)
 |optr a hi t=>
  intro g c;subst g;subst c;refine .optr a wX fun ds' l=>?_;rw[vw hi] at l;obtain⟨r,x⟩:=t ds' l;exact⟨r,fun e=>ya⟩
 |osl a hi t z=>
  intro g c;subst g;subst c;refine .osl a wX (fun ds' l=>?_) z;rw[vw hi] at l;obtain⟨r,x⟩:=t ds' l;exact⟨r,fun e=>ya⟩
 |vptr a f u hc q h i=>intros;exact .vptr a f u hc q h
 |vnil=>intros;exact .vnil
 |vsl a f u hc q h z i=>intros;exact .vsl a f u hc q h z
theorem qwU{ds:List D}{b:Nat}{arr:Array Value}{e:TypeId}{fr:Nat×Nat}(x:Sim X ok w ι H)(hb:w.heap[b]?=some (.cells arr e fr))(Q:¬ok b)(L:∀q l s,qd H q=some l->ι q≠some (b,s))
  (F:ds.length<=arr.size) (S:fr.1=fr.2\/arr.size<=fr.1) (U:∀j,j<arr.size->(arr.getD j undef).oneCell'=true) (kP:∀d,d∈ds->ju d=true) (t:∀(j:Nat) d,ds[j]?=some d->Rep ok w ι H d (arr.getD j undef)):
  ∃ι',Sim X ok w ι' (qr H ds)/\ι' H.length=some (b,arr.size)/\(∀d v,Rep ok w ι H d v->Rep ok w ι' (qr H ds) d v)/\
   ∀(n:Nat)(m:Nat->Prop)(u:World)(ι0:qV)(y:qe),Evol n m u ι0 y ok w ι H->u.heap.size<=b->Evol n m u ι0 y ok w ι' (qr H ds):=by
 have A:∀k,k<H.length->(fun k=>if k=H.length then some (b,arr.size) else ι k) k=ι k:=fun k E=>by simp[Jb E]
 have split:∀k l,qd (qr H ds) k=some l->(k=H.length/\l=ds)\/(k<H.length/\qd H k=some l):=by
  intro k l a;by_cases vC:k=H.length
  .subst vC;rw[zo] at a;injection a with a;exact .inl ⟨rfl,a.symm⟩
  .have r:k<H.length:=by
    have:=qx a;rw[jg] at this;omega
   rw[vw r] at a;exact .inr ⟨r,a⟩
 refine⟨fun k=>if k=H.length then some (b,arr.size) else ι k,⟨x.okS,x.glob,?_,?_⟩,wE,fun d v h=>qjF A h rfl rfl,fun n m u ι0 y a V=>⟨a.os,a.tape,a.output,a.size,a.frame,a.okU,a.okN,⟨a.nle.1,by have:=a.nle.2;rw[jg];omega⟩,fun i hi ds' N=>?_,fun i ds' c s hd hi hc=>?_⟩⟩
 .intro p q l fs c s J P T g f;rcases split p l P with⟨rfl,_⟩|⟨K,M⟩<;>rcases split q fs T with⟨rfl,_⟩|⟨I,O⟩
  .rfl
  .simp only[if_true,Jb I,if_false,qy,zj] at g f;rw[<-g.1] at f;exact absurd f (L q fs J O)
  .simp only[if_true,Jb K,if_false,qy,zj] at g f;rw[<-f.1] at g;exact absurd g (L p l s M)
  .simp only[Jb K,Jb I,if_false] at g f;exact x.inj p q l fs c s J M O g f
 .intro k l a;rcases split k l a with⟨rfl,rfl⟩|⟨E,a⟩
  .exact⟨b,arr,e,fr,wE,Q,hb,F,S,U,kP,fun j d B=>qjF A (t j d B) rfl rfl⟩
  .obtain⟨c,o,e2,C,z,G,R,h4,h5,h6,W,h8⟩:=x.blk k l a;exact⟨c,o,e2,C,by simp[Jb E,z],G,R,h4,h5,h6,W,fun j d B=>qjF A (h8 j d B) rfl rfl⟩
 .have r:i<H.length:=vh hi a.nle.2;rw[vw r] at N;obtain⟨l,k1,Y,Z⟩:=a.heap i hi ds' N;exact⟨l,k1,Y,fun e=>by simp only[Jb r,if_false];exact Z e⟩
 .rcases split i ds' hd with⟨rfl,_⟩|⟨z,G⟩
  .simp only[if_true,qy,zj] at hi;omega
  .simp only[Jb z,if_false] at hi;exact a.own i ds' c s G hi hc
theorem q66{t:TypeId}{cs:List D}(h:(Xy X.P t).bind cellsOf=some cs)(w:World):∃(arr:Array Value),(Instr.alloc t true (.tuple #[])).run X.P w=.ok (.pointer (some ⟨w.heap.size,0,none⟩)) (w.alloc (.cells arr t))/\
  cs.length<=arr.size/\(∀j,j<arr.size->(arr.getD j undef).oneCell'=true)/\(∀d,d∈cs->ju d=true)/\∀(ok:Nat->Prop)(w:World)(ι:qV)(H:qe)(j:Nat) d,cs[j]?=some d->Rep ok w ι H d (arr.getD j undef):=by
 cases a:Xy X.P t with
 |none=>simp[a] at h
 |some z=>
  simp only[a,qa9] at h;obtain⟨k,g,i⟩:=qfL a;have b:=fun ok w ι H=>qb5 (i ok w ι H) h;obtain⟨l,c,f⟩:=b (fun _=>True) w jB [];refine⟨k.cells,by simp[Instr.alloc,g,newVar,newRow],wC,fun j m=>?_,c,fun ok w ι H=>(b ok w ι H).2.2⟩;have e:cs[j]?=some (cs[j]' wC):=qN wC;exact(f j _ e).oneCell (c _ (mem_of_get? e))
theorem qkq{p:D}{b:Nat}(a:YN p=some b):∀{l:List (Option D)},some p∈l->b∈QG l
 |[],h=>by cases h
 |some d::l,h=>by
  simp only[QG,vj];rcases List.mem_cons.1 h with h|h
  .injection h with h;subst h;exact .inl xA
  .exact .inr (qkq a h)
 |none::l,h=>by
  rcases List.mem_cons.1 h with h|h
  .cases h
  .simp only[QG];exact qkq a h
theorem quD{F:zF}(hF:VF X F){nt:Nat}{g:Array Oper}{Q:Exit->Act->World->Prop}(hD:DrawFacts X bw L al g){e e':qu}{a:Act}{E:Nat->qu}{T:Nat->qe}(bZ:E 0=e)(bp:T 0=H)(bY:E g.toList.length=e')(cg:T g.toList.length=H')
  (Xd:∀k o,g.toList[k]?=some o->qcB X F nt bw g o (E k) (T k) (E (k+1)) (T (k+1))) (bV:q6M X g L E T)
  (hs:Sim X ok w ι H) (he:EnvRep ok w ι H e a.tmps) (Qy:nt<=a.tmps.size) (hQ:∀a' w',Out X H.length ok w ι H a e' H' a' w'->Q .normal a' w'):
  wpAny X.P .any g Q g.size (Array.replicate g.size false) a w:=by
 have W:∀(k:Nat)(o:Oper),g[k]?=some o->qcB X F nt bw g o (E k) (T k) (E (k+1)) (T (k+1)):=fun k o u=>Xd k o (by simpa using u);have bF:E g.size=e':=by simpa using bY
 have bJ:T g.size=H':=by simpa using cg
 have au:∀(t a b:Nat),a<=b->b<=g.size->(∀i o,g[i]?=some o->o.dst=some t->¬(a<=i/\i<b))->qi (E b) t=qi (E a) t:=by
  intro t a b YD
  induction b with
  | zero=>intro _ _;have:a=0:=by omega
          subst this;rfl
  |succ b ih=>
   intro hb jc;by_cases ak:a=b+1
   .rw[ak]
   .have qg:b<g.size:=wC;have J:=ZN qg;have ck:=ih wC wC (fun i o hi U h=>jc i o hi U ⟨h.1,wC⟩);rw[<-ck];obtain⟨_,h|h⟩:=W b _ J
    .obtain⟨_,d,_,Z⟩:=h;rw[Z,qhI,if_neg (fun U=>jc b _ J U ⟨wC,wC⟩)]
    .obtain⟨_,_,Z⟩:=h;rw[Z,qhI,if_neg (fun U=>jc b _ J U ⟨wC,wC⟩)]
 have aE:∀(k:Nat)(o:Oper),g[k]?=some o->jm X (bw o.dst) o.op=false->T (k+1)=T k:=by
  intro k o J u;obtain⟨_,h|h⟩:=W k o J
  .obtain⟨_,d,h2,_⟩:=h;unfold jm at u;cases ZB:Zs X (bw o.dst) o.op with
   |v=>exact(qsw ZB h2).1
   |r=>exact(qsx (T2:=T k) ZB h2 (fun _ _ _ _ _ _ _=>rfl)).1
   |e=>simp[ZB] at u
   |m=>simp[ZB] at u
  .exact h.2.1
 have Vm:∀(a b:Nat),a<=b->b<=g.size->(∀i o,g[i]?=some o->jm X (bw o.dst) o.op=true->¬(a<=i/\i<b))->T b=T a:=by
  intro a b YD
  induction b with
  | zero=>intro _ _;have:a=0:=by omega
          subst this;rfl
  |succ b ih=>
   intro hb jc;by_cases ak:a=b+1
   .rw[ak]
   .have qg:b<g.size:=wC;have J:=ZN qg;rw[<-ih wC wC (fun i o hi U h=>jc i o hi U ⟨h.1,wC⟩)];refine aE b _ J ?_;cases u:jm X (bw g[b].dst) g[b].op with
    |false=>rfl
    |true=>exact absurd ⟨wC,wC⟩ (jc b _ J u)
 have aD:∀(q a b:Nat),a<=b->b<=g.size->q<(T a).length->
   (∀i o,g[i]?=some o->Zs X (bw o.dst) o.op=.m->vP g (E i) o.guard=some true->a<=i->i<b->(T i).length<=(T (i+1)).length/\qd (T (i+1)) q=qd (T i) q)->qd (T b) q=qd (T a) q/\q<(T b).length:=by
  intro q a b YD
  induction b with
  | zero=>intro _ hq _;have:a=0:=by omega
          subst this;exact⟨rfl,hq⟩
  |succ b ih=>
   intro hb hq jc;by_cases ak:a=b+1
   .subst ak;exact⟨rfl,hq⟩
   .have qg:b<g.size:=wC;have J:=ZN qg;obtain⟨h1,h2⟩:=ih wC wC hq (fun i o hi U hg Z h4=>jc i o hi U hg Z wC);cases ZB:Zs X (bw g[b].dst) g[b].op with
    |v=>rw[aE b _ J xM];exact⟨h1,h2⟩
    |r=>rw[aE b _ J xM];exact⟨h1,h2⟩
    |m=>
     obtain⟨_,h|h⟩:=W b _ J
     .obtain⟨k1,k2⟩:=jc b _ J ZB h.1 wC wC;exact⟨k2.trans h1,wC⟩
     .rw[h.2.1];exact⟨h1,h2⟩
    |e=>
     obtain⟨_,h|h⟩:=W b _ J
     .obtain⟨_,d,Z,_⟩:=h;obtain⟨M,hM⟩:=q0U ZB Z;rw[hM,qeu h2];exact⟨h1,wG⟩
     .rw[h.2.1];exact⟨h1,h2⟩
 have ai:∀i,al=some i->∃o,g[i]?=some o/\Zs X (bw o.dst) o.op=.e:=by
  intro i I;obtain⟨o,ty,t,K,g2,-,-,-⟩:=hD.alo i I;refine⟨o,K,?_⟩;rw[g2];cases bw o.dst<;>rfl
 let ah:Array Bool->Act->World->Nat->qV->(Nat->Prop)->Prop:=fun f A C m ι1 n=>∃(i:Nat)(o:Oper)(t:Nat)(b:Nat)(arr:Array Value)(ty:TypeId)(fr:Nat×Nat)(cs:List D),al=some i/\g[i]?=some o/\o.dst=some t/\m<=i/\
  T (i+1)=qr (T i) cs/\E (i+1)=jP (E i) (some t) (.optr (T i).length cs.length 0)/\t<A.tmps.size/\A.tmps.getD t undef=.pointer (some ⟨b,0,none⟩)/\C.heap[b]?=some (.cells arr ty fr)/\¬n b/\(∀q es s,qd (T m) q=some es->ι1 q≠some (b,s))/\w.heap.size<=b/\
  cs.length<=arr.size/\(fr.1=fr.2\/arr.size<=fr.1)/\(∀j,j<arr.size->(arr.getD j undef).oneCell'=true)/\(∀d,d∈cs->ju d=true)/\(∀(ok:Nat->Prop)(w:World)(ι:qV)(H:qe)(j:Nat) d,cs[j]?=some d->Rep ok w ι H d (arr.getD j undef))/\
  ∀k y,g[k]?=some y->k≠i->t∈J9 g y->f.getD k false=false
 have main:∀(ag:Nat)(f:Array Bool)(A:Act)(C:World)(m:Nat)(ι1:qV)(n:Nat->Prop)(l:Bool),f.size=g.size->
   ((List.range g.size).filter fun i=>!f.getD i false).length<=ag->
   (∀i o,g[i]?=some o->f.getD i false=true->qfx (fun k=>f.getD k false=true) o)->
   m<=g.size->(∀i o,g[i]?=some o->jm X (bw o.dst) o.op=true->al≠some i->(f.getD i false=true↔i<m))->(∀i,al=some i->(f.getD i false=true↔(i<m\/l=true)))->(l=true->ah f A C m ι1 n)->
   Sim X n C ι1 (T m)->Evol H.length ok w ι H n C ι1 (T m)->A.tmps.size=a.tmps.size->A.defers=a.defers->
   (∀t k,k<=g.size->(∀i o,g[i]?=some o->o.dst=some t->(f.getD i false=true↔i<k))->(l=true->∀i o,al=some i->g[i]?=some o->o.dst≠some t)->∀d,qi (E k) t=some d->t<A.tmps.size/\Rep n C ι1 (T m) d (A.tmps.getD t undef))->
   wpAny X.P .any g Q ag f A C:=by
  have ay:∀(f:Array Bool)(A:Act)(C:World)(m:Nat)(ι1:qV)(n:Nat->Prop)(l:Bool),
   m<=g.size->(∀i o,g[i]?=some o->jm X (bw o.dst) o.op=true->al≠some i->(f.getD i false=true↔i<m))->(∀i,al=some i->(f.getD i false=true↔(i<m\/l=true)))->(l=true->ah f A C m ι1 n)->
   Sim X n C ι1 (T m)->Evol H.length ok w ι H n C ι1 (T m)->A.tmps.size=a.tmps.size->A.defers=a.defers->
   (∀t k,k<=g.size->(∀i o,g[i]?=some o->o.dst=some t->(f.getD i false=true↔i<k))->(l=true->∀i o,al=some i->g[i]?=some o->o.dst≠some t)->∀d,qi (E k) t=some d->t<A.tmps.size/\Rep n C ι1 (T m) d (A.tmps.getD t undef))->
   (∀i o k,al=some k->g[i]?=some o->jm X (bw o.dst) o.op=true->i<k->f.getD i false=true)->
   ∃(m2:Nat)(ι2:qV),m2<=g.size/\(∀i o,g[i]?=some o->jm X (bw o.dst) o.op=true->(f.getD i false=true↔i<m2))/\Sim X n C ι2 (T m2)/\Evol H.length ok w ι H n C ι2 (T m2)/\
    (∀t k,k<=g.size->(∀i o,g[i]?=some o->o.dst=some t->(f.getD i false=true↔i<k))->∀d,qi (E k) t=some d->t<A.tmps.size/\Rep n C ι2 (T m2) d (A.tmps.getD t undef)):=by
   intro f A C m ι1 n l hm hK hJ hP B G h1 h2 XE jd;cases l with
   |false=>
    refine⟨m,ι1,hm,fun i o J u=>?_,B,G,fun t k u Kr d U=>XE t k u Kr (fun h=>wI) d U⟩;by_cases I:al=some i
    .have:=hJ i I;simpa using this
    .exact hK i o J u I
   |true=>
    obtain⟨j0,o,t0,b,arr,ty,fr,cs,p1,p2,p3,p4,p5,p6,p7,p8,p9,bk,aC,bj,bm,bq,bn,bu,ba,aZ⟩:=hP rfl;have cu:=(Array.getElem?_eq_some_iff.1 p2).1
    have bC:T j0=T m:=Vm m j0 p4 wC fun i x hx u hi=>by
     have qQ:al≠some i:=(by rw[p1];intro h;injection h with h;omega);have:=(hK i x hx u qQ).1 (jd i x j0 p1 hx u hi.2);omega
    obtain⟨ι2,s1,s2,s3,s4⟩:=qwU (ds:=cs) B p9 bk aC bm bq bn bu (fun j d hj=>ba _ _ _ _ j d hj);have kQ:T (j0+1)=qr (T m) cs:=(by rw[p5,bC]);rw[bC] at p6;refine⟨j0+1,ι2,wC,fun i x hx u=>?_,by rw[kQ];exact s1,by rw[kQ];exact s4 _ _ _ _ _ G bj,fun t k u Kr d U=>?_⟩
    .by_cases I:al=some i
     .have:i=j0:=(by rw[p1] at I;injection I with h;exact h.symm);subst this;exact⟨fun _=>Nat.lt_succ_self _,fun _=>(hJ i I).2 (.inr rfl)⟩
     .have qQ:i≠j0:=fun h=>I (by rw[h];exact p1);have Z:=hK i x hx u I;exact⟨fun R=>by have:=Z.1 R;omega,fun qg=>jd i x j0 p1 hx u wC⟩
    .rw[kQ];by_cases ht:t0=t
     .subst ht;have V4:j0<k:=(Kr j0 o p2 p3).1 ((hJ j0 p1).2 (.inr rfl))
      have R:=au t0 (j0+1) k wC u fun i x hx kO aK=>by
       have:=aZ i x hx wC (by simp[J9,kO]);rw[(Kr i x hx kO).2 aK.2] at this;cases this
      rw[R,p6,qhI,if_pos rfl] at U;injection U with U;subst U;refine⟨p7,?_⟩;rw[p8];refine .optr _ wX fun ds aO=>?_;rw[zo] at aO;injection aO with aO;subst aO;exact⟨qA _,fun _=>⟨_,_,s2,rfl⟩⟩
     .obtain⟨q1,q2⟩:=XE t k u Kr (fun _ i x I hx=>by
       have:i=j0:=(by rw[p1] at I;injection I with h;exact h.symm);subst this;rw[p2] at hx;injection hx with hx;subst hx;rw[p3];intro h;injection h with h;exact ht h) d U
      exact⟨q1,s3 _ _ q2⟩
  have fin:∀(f:Array Bool)(A:Act)(C:World)(m:Nat)(ι1:qV)(n:Nat->Prop),(∀i,i<g.size->f.getD i false=true)->m<=g.size->
    (∀i o,g[i]?=some o->jm X (bw o.dst) o.op=true->(f.getD i false=true↔i<m))->
    Sim X n C ι1 (T m)->Evol H.length ok w ι H n C ι1 (T m)->A.tmps.size=a.tmps.size->A.defers=a.defers->
    (∀t k,k<=g.size->(∀i o,g[i]?=some o->o.dst=some t->(f.getD i false=true↔i<k))->∀d,qi (E k) t=some d->t<A.tmps.size/\Rep n C ι1 (T m) d (A.tmps.getD t undef))->Q .normal A C:=by
   intro f A C m ι1 n jd hm hK B G h1 h2 XE
   have hT:T g.size=T m:=Vm m g.size hm (qA _) (fun i o J u h=>by
    have:=(hK i o J u).1 (jd i h.2);omega)
   rw[bJ] at hT;rw[<-hT] at B G XE;refine hQ A C ⟨h1,h2,ι1,n,B,fun t d ht=>?_,G⟩;rw[<-bF] at ht;exact XE t g.size (qA _) (fun i o J _=>⟨fun _=>(Array.getElem?_eq_some_iff.1 J).1,fun h=>jd i h⟩) d ht
  have aU:∀(f:Array Bool)(A:Act)(C:World)(m:Nat)(ι1:qV)(n:Nat->Prop)(l:Bool),(∀i,i<g.size->f.getD i false=true)->
   m<=g.size->(∀i o,g[i]?=some o->jm X (bw o.dst) o.op=true->al≠some i->(f.getD i false=true↔i<m))->(∀i,al=some i->(f.getD i false=true↔(i<m\/l=true)))->(l=true->ah f A C m ι1 n)->
   Sim X n C ι1 (T m)->Evol H.length ok w ι H n C ι1 (T m)->A.tmps.size=a.tmps.size->A.defers=a.defers->
   (∀t k,k<=g.size->(∀i o,g[i]?=some o->o.dst=some t->(f.getD i false=true↔i<k))->(l=true->∀i o,al=some i->g[i]?=some o->o.dst≠some t)->∀d,qi (E k) t=some d->t<A.tmps.size/\Rep n C ι1 (T m) d (A.tmps.getD t undef))->
   Q .normal A C:=by
   intro f A C m ι1 n l jd hm hK hJ hP B G h1 h2 XE;obtain⟨m2,ι2,q1,q2,q3,q4,q5⟩:=ay f A C m ι1 n l hm hK hJ hP B G h1 h2 XE (fun i o k _ J _ _=>jd i (Array.getElem?_eq_some_iff.1 J).1);exact fin f A C m2 ι2 n jd q1 q2 q3 q4 h1 h2 q5
  intro ag
  induction ag with
  |zero=>
   intro f A C m ι1 n l jp bK qE hm hK hJ hP B G h1 h2 XE
   have jd:∀i,i<g.size->f.getD i false=true:=by
    intro i hi;cases R:f.getD i false with
    |true=>rfl
    |false=>
     have:i∈(List.range g.size).filter fun i=>!f.getD i false:=by
      rw[List.mem_filter];exact⟨List.mem_range.2 hi,by simp only[R];rfl⟩
     have qQ:=List.length_pos_of_mem this;omega
   refine⟨?_,aU f A C m ι1 n l jd hm hK hJ hP B G h1 h2 XE⟩;unfold Region.ready;rw[List.filter_eq_nil_iff];intro i hi;have qg:=List.mem_range.1 hi;have:=jd i qg
   have Z:f.getD i true=true:=by
    rw[j7,ZN wC] at this⊢;exact this
   simp[Z]
  |succ ag ih=>
   intro f A C m0 ι0 n aG jp bK qE Kj vD bE bA aH aw h1 h2 ao
   obtain⟨m,ι1,l,hm,hK,hJ,hP,B,G,XE,aF⟩:∃(m:Nat)(ι1:qV)(l:Bool),m<=g.size/\(∀i o,g[i]?=some o->jm X (bw o.dst) o.op=true->al≠some i->(f.getD i false=true↔i<m))/\(∀i,al=some i->(f.getD i false=true↔(i<m\/l=true)))/\(l=true->ah f A C m ι1 n)/\
     Sim X n C ι1 (T m)/\Evol H.length ok w ι H n C ι1 (T m)/\
     (∀t k,k<=g.size->(∀i o,g[i]?=some o->o.dst=some t->(f.getD i false=true↔i<k))->(l=true->∀i o,al=some i->g[i]?=some o->o.dst≠some t)->∀d,qi (E k) t=some d->t<A.tmps.size/\Rep n C ι1 (T m) d (A.tmps.getD t undef))/\
     (l=true->∃i o k,al=some k/\g[i]?=some o/\jm X (bw o.dst) o.op=true/\i<k/\f.getD i false=false):=by
    by_cases jd:∀i o k,al=some k->g[i]?=some o->jm X (bw o.dst) o.op=true->i<k->f.getD i false=true
    .obtain⟨m2,ι2,q1,q2,q3,q4,q5⟩:=ay f A C m0 ι0 n aG Kj vD bE bA aH aw h1 h2 ao jd;refine⟨m2,ι2,false,q1,fun i o J u _=>q2 i o J u,fun i I=>?_,(fun h=>wI),q3,q4,fun t k u Kr _ d U=>q5 t k u Kr d U,(fun h=>wI)⟩;obtain⟨o,K,g2⟩:=ai i I;simpa using q2 i o K (by simp only[jm,g2])
    .refine⟨m0,ι0,aG,Kj,vD,bE,bA,aH,aw,ao,fun _=>?_⟩;simp only[Classical.not_forall] at jd;obtain⟨i,o,k,K,g2,g3,g4,g5⟩:=jd;exact⟨i,o,k,K,g2,g3,g4,by simpa using g5⟩
   have az:∀j,j∈Region.ready .any g f↔∃o,g[j]?=some o/\f.getD j false=false/\qfx (fun k=>f.getD k false=true) o:=by
    intro j;unfold Region.ready;rw[List.mem_filter];constructor
    .rintro⟨hj,hc⟩;have qg:=List.mem_range.1 hj;simp only[ZN qg,j6,Va,zX,Bool.not_eq_true'] at hc;refine⟨_,ZN qg,?_,?_⟩
     .rw[j7,ZN wC] at hc⊢;exact hc.1
     .intro e he hb;have:=Array.all_eq_true'.1 hc.2 e (by simpa using he);simpa[hb] using this
    .rintro⟨o,J,R,aL⟩;have qg:=(Array.getElem?_eq_some_iff.1 J).1;refine⟨List.mem_range.2 qg,?_⟩;simp only[J,j6,Va,zX,Bool.not_eq_true'];refine⟨?_,?_⟩
     .rw[j7,ZN wC] at R⊢;exact R
     .rw[Array.all_eq_true'];intro e he;cases hb:Region.binds .any e with
      |false=>simp
      |true=>simpa[hb] using aL e (by simpa using he) hb
   refine⟨fun qY=>?_,fun j hj=>?_⟩
   .refine aU f A C m ι1 n l ?_ hm hK hJ hP B G h1 h2 XE;intro i
    induction i using Nat.strongRecOn with
    |_ i ce=>
     intro hi;cases R:f.getD i false with
     |true=>rfl
     |false=>
      have J:=ZN hi
      have:i∈Region.ready .any g f:=(az i).2 ⟨_,J,R,fun e he hb=>by
       have qg:=hD.edge i _ J e he hb;exact ce e.on qg wC⟩
      rw[qY] at this;simp at this
   .obtain⟨o,J,ac,aL⟩:=(az j).1 hj;have Y5:=(Array.getElem?_eq_some_iff.1 J).1
    have aJ:∀i x,g[i]?=some x->i<j->VC X bw L al g i x j o=true->f.getD i false=true:=fun i x hx N hc=>
     qlO (S:=fun k=>f.getD k false=true) qE J aL (hD.ord i j x o hx J N hc)
    have aN:∀i x,g[i]?=some x->j<i->VC X bw L al g j o i x=true->f.getD i false=false:=by
     intro i x hx N hc;cases R:f.getD i false with
     |false=>rfl
     |true=>
      have:=qlO (S:=fun k=>f.getD k false=true) qE hx (qE i x hx R) (hD.ord j i o x J hx N hc);rw[ac] at this;cases this
    have aj:∀i x,g[i]?=some x->(i≠j->VC X bw L al g i x j o=true)->(f.getD i false=true↔i<j):=by
     intro i x hx hc;rcases Nat.lt_trichotomy i j with h|h|h
     .exact⟨fun _=>h,fun _=>aJ i x hx h (hc wC)⟩
     .subst h;exact⟨fun h=>(by rw[ac] at h;cases h),fun h=>wC⟩
     .exact⟨fun R=>(by rw[aN i x hx h (q5B (hc wC))] at R;cases R),fun h=>wC⟩
    have br:l=true->al≠some j:=by
     intro V hj;have:=(hJ j hj).2 (.inr V);rw[ac] at this;cases this
    have aT:l=true->∀i y,al=some i->g[i]?=some y->∀t,y.dst=some t->t∉J9 g o:=by
     intro V i y I hy t aW ht;obtain⟨y',ty,t',K,g2,g3,g4,g5⟩:=hD.alo i I;rw[hy] at K;injection K with K;subst K;rw[aW] at g3;injection g3 with g3;subst g3;have qQ:j≠i:=fun h=>br V (by rw[h];exact I);obtain⟨q,x,k,u1,u2,u3,u4,u5⟩:=aF V;have vC:k=i:=(by rw[I] at u1;injection u1 with u1;exact u1.symm);subst vC;have:=qlO (S:=fun k=>f.getD k false=true) qE J aL ((g5 j o J qQ ht).2 q x u2 u4 u3);rw[u5] at this;cases this
    have ax:∀t,t∈J9 g o->∀d,qi (E j) t=some d->t<A.tmps.size/\Rep n C ι1 (T m) d (A.tmps.getD t undef):=by
     intro t ht d U;refine XE t j wC (fun i x hx kO=>aj i x hx (fun _=>?_)) (fun V i y I hy aW=>aT V i y I hy t aW ht) d U;unfold VC;simp only[kO,Option.any_some,qeH];exact .inl (.inl (.inl (.inl (by simpa using ht))))
    have qn:∀i,(f.setIfInBounds j true).getD i false=if i=j then true else f.getD i false:=by
     intro i;rw[j7,j7];by_cases N:i=j
     .subst N;simp[show i<f.size from wC]
     .rw[qfH (Ne.symm N),if_neg N]
    have bI:∀(v:Value) t,o.dst≠some t->(A.put o.dst v).tmps.getD t undef=A.tmps.getD t undef:=by
     intro v t ht;cases bg:o.dst with
     |none=>rfl
     |some s=>
      have:s≠t:=fun e=>ht (by rw[bg,e]);simp only[Act.put,j7];rw[qfH this]
    have aV:∀(v:Value)(w2:World)(ι2:qV)(ok2:Nat->Prop)(m':Nat),Evol (T m).length n C ι1 (T m) ok2 w2 ι2 (T m')->(∀i,al=some i->l=true->m'<=i)->l=true->ah (f.setIfInBounds j true) (A.put o.dst v) w2 m' ι2 ok2:=by
     intro v w2 ι2 ok2 m' Y aX V;obtain⟨j0,y,t0,b,arr,ty,fr,cs,p1,p2,p3,p4,p5,p6,p7,p8,p9,bk,aC,bj,bm,bq,bn,bu,ba,aZ⟩:=hP V;have jc:=aT V j0 y p1 p2 t0 p3;have cq:o.dst≠some t0:=fun h=>jc (by simp[J9,h]);have aB:b<C.heap.size:=(Array.getElem?_eq_some_iff.1 p9).1;refine⟨j0,y,t0,b,arr,ty,fr,cs,p1,p2,p3,aX j0 p1 V,p5,p6,by rw[(qed A o.dst v).1];exact p7,by rw[bI v t0 cq];exact p8,by rw[Y.frame b aB aC];exact p9,fun h=>?_,fun q es s hq h=>?_,bj,bm,bq,bn,bu,ba,fun k z hz u hn=>?_⟩
     .rcases Y.okN b h aB with h|⟨i,ds,s,K,g2⟩
      .exact bk h
      .exact aC i ds s K g2
     .obtain⟨q',ds,s',K,g2⟩:=Y.own q es b s hq h aB;exact aC _ _ _ K g2
     .rw[qn]
      have bX:k≠j:=by
       rintro rfl;rw[J] at hz;injection hz with hz;subst hz;exact jc hn
      rw[if_neg bX];exact aZ k z hz u hn
    have aa:∀(d:D)(v:Value)(w2:World)(ι2:qV)(ok2:Nat->Prop)(m':Nat)(O:Bool),(l=true->O=true)->E (j+1)=jP (E j) o.dst d->ko nt o.dst=true->Sim X ok2 w2 ι2 (T m')->((al=some j->O=false)->Rep ok2 w2 ι2 (T m') d v)->
      Evol (T m).length n C ι1 (T m) ok2 w2 ι2 (T m')->m'<=g.size->(∀i x,g[i]?=some x->jm X (bw x.dst) x.op=true->al≠some i->((f.setIfInBounds j true).getD i false=true↔i<m'))->
      (∀i,al=some i->((f.setIfInBounds j true).getD i false=true↔(i<m'\/O=true)))->(O=true->ah (f.setIfInBounds j true) (A.put o.dst v) w2 m' ι2 ok2)->
      wpAny X.P .any g Q ag (f.setIfInBounds j true) (A.put o.dst v) w2:=by
     intro d v w2 ι2 ok2 m' O Qh hE kO aY aI Y bv bo bc bQ
     have cj:∀i,(f.setIfInBounds j true).getD i false=if i=j then true else f.getD i false:=by
      intro i;rw[j7,j7];by_cases N:i=j
      .subst N;simp[show i<f.size from wC]
      .rw[qfH (Ne.symm N),if_neg N]
     obtain⟨p1,p2⟩:=qed A o.dst v;refine ih _ _ w2 m' ι2 ok2 O (by simpa using jp) ?_ ?_ bv bo bc bQ aY (G.trans (Y.mono G.nle.2)) wC (by rw[p2,h2]) ?_
     .have qg:((List.range g.size).filter fun i=>!(f.setIfInBounds j true).getD i false).length<((List.range g.size).filter fun i=>!f.getD i false).length:=by
       have bb:((List.range g.size).filter fun i=>!(f.setIfInBounds j true).getD i false)=(((List.range g.size).filter fun i=>!f.getD i false).filter fun i=>decide (i≠j)):=by
        rw[List.filter_filter];apply List.filter_congr;intro i _;rw[qn i];by_cases N:i=j<;>simp[N]
       rw[bb];refine List.length_filter_lt_length_iff_exists.2 ⟨j,?_,wE⟩;rw[List.mem_filter];exact⟨List.mem_range.2 Y5,by simp only[ac];rfl⟩
      omega
     .intro i x hx R e he hb;show(f.setIfInBounds j true).getD e.on false=true;rw[qn] at R⊢;by_cases bB:e.on=j
      .rw[if_pos bB]
      .rw[if_neg bB];by_cases N:i=j
       .subst N;rw[J] at hx;injection hx with hx;subst hx;exact aL e he hb
       .rw[if_neg N] at R;exact qE i x hx R e he hb
     .intro t k u Kr bG d' zQ;by_cases ht:o.dst=some t
      .have V4:j<k:=(Kr j o J ht).1 (by rw[qn,if_pos rfl])
       have R:=au t (j+1) k wC u (fun i x hx kO aK=>by
        have Z:=(Kr i x hx kO).2 aK.2;rw[qn,if_neg wC] at Z
        have h4:=aN i x hx wC (by
         unfold VC;simp only[ht,Option.any_some,qeH];exact .inl (.inl (.inl (.inl (by simp[J9,kO])))))
        rw[h4] at Z;cases Z)
       rw[R,hE,qhI,if_pos ht] at zQ;injection zQ with zQ;subst zQ;rw[ht] at kO⊢;have qg:t<nt:=(by simpa[ko] using kO);have vL:t<A.tmps.size:=vh qg wC;refine⟨by simpa[Act.put] using vL,?_⟩
       have aI:=aI fun hj=>by
        cases bU:O with
        |false=>rfl
        |true=>exact absurd ht (bG bU j o hj J)
       simpa[Act.put,vL,j7] using aI
      .have aA:=XE t k u (fun i x hx kO=>by
        have Z:=Kr i x hx kO
        have N:i≠j:=by
         rintro rfl;rw[J] at hx;injection hx with hx;subst hx;exact ht kO
        rwa [qn,if_neg N] at Z) (fun V=>bG (Qh V)) d' zQ
       refine⟨by have h:=aA.1;rw[p1];exact h,?_⟩
       have ch:(A.put o.dst v).tmps.getD t undef=A.tmps.getD t undef:=by
        cases bg:o.dst with
        |none=>rfl
        |some s=>
         have:s≠t:=fun e=>ht (by rw[bg,e]);simp only[Act.put,j7];rw[qfH this]
       rw[ch];exact aA.2.evol B Y aA.2.closed
    have jb:jm X (bw o.dst) o.op=false->∀i x,g[i]?=some x->jm X (bw x.dst) x.op=true->al≠some i->((f.setIfInBounds j true).getD i false=true↔i<m):=by
     intro u i x hx Zg I
     have N:i≠j:=by
      rintro rfl;rw[J] at hx;injection hx with hx;subst hx;rw[u] at Zg;cases Zg
     rw[qn,if_neg N];exact hK i x hx Zg I
    have bh:jm X (bw o.dst) o.op=false->∀i,al=some i->((f.setIfInBounds j true).getD i false=true↔(i<m\/l=true)):=by
     intro u i I
     have N:i≠j:=by
      rintro rfl;obtain⟨x,K,g2⟩:=ai i I;rw[J] at K;injection K with K;subst K;simp only[jm,g2] at u;cases u
     rw[qn,if_neg N];exact hJ i I
    have kN:∀i,al=some i->l=true->m<=i:=by
     intro i I V;obtain⟨j0,y,t0,b,arr,ty,fr,cs,p1,p2,p3,p4,-⟩:=hP V;rw[I] at p1;injection p1 with p1;omega
    have aM:jm X (bw o.dst) o.op=true->(al=some j->∀i x,g[i]?=some x->jm X (bw x.dst) x.op=true->i<j->f.getD i false=true)->
      ∀i x,g[i]?=some x->jm X (bw x.dst) x.op=true->(i<m↔i<j)/\(al≠some i->(f.getD i false=true↔i<j)):=by
     intro u QT i x hx Zg
     have aP:al≠some i->(f.getD i false=true↔i<j):=by
      intro I;by_cases Jy:al=some j
      .rcases Nat.lt_trichotomy i j with h|h|h
       .exact⟨fun _=>h,fun _=>QT Jy i x hx Zg h⟩
       .subst h;exact absurd Jy I
       .have hc:VC X bw L al g j o i x=true:=qi9 u Zg (by rw[Nat.max_eq_right wC];exact I);exact⟨fun R=>(by rw[aN i x hx h hc] at R;cases R),fun h=>wC⟩
      .refine aj i x hx fun _=>qi9 Zg u ?_;rcases Nat.le_total i j with h|h
       .rw[Nat.max_eq_right h];exact Jy
       .rw[Nat.max_eq_left h];exact I
     refine⟨?_,aP⟩;by_cases I:al=some i
     .by_cases N:i=j
      .subst N
       have:¬i<m:=fun h=>by
        have:=(hJ i I).2 (.inl h);rw[ac] at this;cases this
       exact⟨fun h=>absurd h this,fun h=>absurd h (Nat.lt_irrefl _)⟩
      .have Jy:al≠some j:=fun h=>by rw[I] at h;injection h with h;exact N h
       have cp:¬j<m:=fun h=>by
        have:=(hK j o J u Jy).2 h;rw[ac] at this;cases this
       have qg:i<j->f.getD i false=true:=fun h=>aJ i x hx h (qi9 Zg u (by rw[Nat.max_eq_right wC];exact Jy));cases V:l with
       |false=>
        have Z:=hJ i I;rw[V] at Z;simp only[kZ,or_false] at Z;refine⟨fun h=>wC,fun h=>Z.1 (qg h)⟩
       |true=>
        have h4:=kN i I V;obtain⟨q,z,k,u1,u2,u3,u4,u5⟩:=aF V;have vC:k=i:=(by rw[I] at u1;injection u1 with u1;exact u1.symm);subst vC;refine⟨fun h=>wC,fun h=>?_⟩;have hc:VC X bw L al g q z j o=true:=qi9 u3 u (by rw[Nat.max_eq_right wC];exact Jy);have:=aJ q z u2 wC hc;rw[u5] at this;cases this
     .exact(hK i x hx Zg I).symm.trans (aP I)
    have zN:jm X (bw o.dst) o.op=true->(al=some j->∀i x,g[i]?=some x->jm X (bw x.dst) x.op=true->i<j->f.getD i false=true)->∀i x,g[i]?=some x->jm X (bw x.dst) x.op=true->al≠some i->((f.setIfInBounds j true).getD i false=true↔i<j+1):=by
     intro u QT i x hx Zg I;rw[qn];by_cases N:i=j
     .subst N;simp
     .rw[if_neg N,(aM u QT i x hx Zg).2 I];omega
    have bf:jm X (bw o.dst) o.op=true->(al=some j->∀i x,g[i]?=some x->jm X (bw x.dst) x.op=true->i<j->f.getD i false=true)->∀i,al=some i->((f.setIfInBounds j true).getD i false=true↔(i<j+1\/l=true)):=by
     intro u QT i I;rw[qn];by_cases N:i=j
     .subst N;simp
     .obtain⟨x,K,g2⟩:=ai i I;have Z:=(aM u QT i x K (by simp only[jm,g2])).1;rw[if_neg N,hJ i I];constructor
      .rintro(h|h)
       .exact .inl wC
       .exact .inr h
      .rintro(h|h)
       .exact .inl wC
       .exact .inr h
    have zM:jm X (bw o.dst) o.op=true->∀i,al=some i->l=true->j+1<=i:=by
     intro u i I V;have Jy:=br V;have N:i≠j:=fun h=>Jy (by rw[<-h];exact I);obtain⟨x,K,g2⟩:=ai i I;have Z:=(aM u (fun h=>absurd h Jy) i x K (by simp only[jm,g2])).1;have:=kN i I V;omega
    have bt:jm X (bw o.dst) o.op=true->(al=some j->∀i x,g[i]?=some x->jm X (bw x.dst) x.op=true->i<j->f.getD i false=true)->T m=T j:=by
     intro u QT;have bM:∀i x,g[i]?=some x->jm X (bw x.dst) x.op=true->(i<m↔i<j):=fun i x hx Zg=>(aM u QT i x hx Zg).1;rcases Nat.le_total m j with h|h
     .exact(Vm m j h wC (fun i x hx Zg hi=>by have:=(bM i x hx Zg).2 hi.2;omega)).symm
     .exact Vm j m h hm (fun i x hx Zg hi=>by have:=(bM i x hx Zg).1 hi.2;omega)
    unfold wpOp;simp only[J];obtain⟨kO,bW⟩:=W j o J
    have Y9:∀k av t,∀o':Oper,o'.guard=some (k,av)->o'=o->(g[k]?).bind (·.dst)=some t->t∈J9 g o:=by
     intro k av t o' hg ci U;subst ci;simp[J9,hg,U]
    have hw:∀b,vP g (E j) o.guard=some b->Region.wanted o (yielded g A.tmps)=b:=by
     intro b hb;exact qmf (fun k av t hg U d R=>ax t (Y9 k av t o hg rfl U) d R) hb
    rcases bW with⟨hg,d,QS,hE⟩|⟨hg,bT,hE⟩
    .rw[if_pos (hw true hg)];refine .inl ?_;unfold Oper.wp
     have aQ:∀x,x∈o.op.operands.toList->qZ X (E j) x=qZ X (qbJ (J9 g o) (E j)) x:=fun x hx=>qz2 fun t ht=>(qhH (by
      simp only[J9,vj,List.mem_flatMap];exact .inl (.inr ⟨x,hx,ht⟩))).symm
     rw[q4z aQ] at QS;have aR:EnvRep n C ι1 (T m) (qbJ (J9 g o) (E j)) A.tmps:=fun t d ht=>ax t (qhG ht).1 d (qhG ht).2
     have go:∀m',zf X F (bw o.dst) o.op (qbJ (J9 g o) (E j)) (T m)=some (d,T m')->m'<=g.size->(∀i x,g[i]?=some x->jm X (bw x.dst) x.op=true->al≠some i->((f.setIfInBounds j true).getD i false=true↔i<m'))->
       (∀i,al=some i->((f.setIfInBounds j true).getD i false=true↔(i<m'\/l=true)))->(∀i,al=some i->l=true->m'<=i)->
       o.upon X.P A (wpAny X.P .any g Q ag (f.setIfInBounds j true)) Q ((execOp A.eval o).run X.P C):=by
      intro m' bP bv bo bc aX;refine Goes.upon ((qjZ hF B aR bP).mono fun v w2 V=>?_);obtain⟨ι2,ok2,q1,q2,q3⟩:=V;exact aa d v w2 ι2 ok2 m' l (fun h=>h) hE kO q1 (fun _=>q2) q3 bv bo bc (aV v w2 ι2 ok2 m' q3 aX)
     cases ZB:Zs X (bw o.dst) o.op with
     |v=>exact go m ((qsw ZB QS).2 (T m)) hm (jb xM) (bh xM) kN
     |r=>
      refine go m (qsx ZB QS fun x hx p i V hi qQ=>?_).2 hm (jb xM) (bh xM) kN
      have aS:∀i x,g[i]?=some x->Zs X (bw x.dst) x.op=.m->L.contains (i,j)=true\/(i<m↔i<j):=by
       intro i x hx Zg;cases hc:L.contains (i,j) with
       |true=>exact .inl rfl
       |false=>
        have I:al≠some i:=fun h=>by
         obtain⟨z,K,g2⟩:=ai i h;rw[hx] at K;injection K with K;subst K;rw[Zg] at g2;cases g2
        refine .inr ((hK i x hx (by simp only[jm,Zg]) I).symm.trans (aj i x hx fun _=>?_));unfold VC;simp only[Zg,ZB,hc];simp
      have qg:i<(T m).length:=by
       have:=(vm B aR V).closed;cases p<;>simp only[YN,reduceCtorEq,qy] at hi
       .subst hi;simpa[closed] using this
       .subst hi;simpa[closed] using this
      have ve:i∈QG (o.op.operands.toList.map (qZ X (E j))):=qkq hi (by
       rw[<-V,<-aQ x hx];exact List.mem_map_of_mem hx)
      have Xc:∀i' x',g[i']?=some x'->Zs X (bw x'.dst) x'.op=.m->vP g (E i') x'.guard=some true->L.contains (i',j)=true->(T i').length<=(T (i'+1)).length/\qd (T (i'+1)) i=qd (T i') i:=by
       intro i' x' ae am aq hc
       have bO:i'≠j:=by
        rintro rfl;rw[J] at ae;injection ae with ae;subst ae;rw[ZB] at am;cases am
       obtain⟨u1,u2⟩:=bV i' j x' o ae J hc bO aq hg;exact⟨u1,u2 i ve⟩
      rcases Nat.le_total m j with h|h
      .exact(aD i m j h wC qg (fun i' x' ae am aq h1 h2=>by
        rcases aS i' x' ae am with hc|hc
        .exact Xc i' x' ae am aq hc
        .omega)).1.symm
      .have bD:i<(T j).length:=by
        cases Zv:qd (T j) i with
        |none=>exact absurd Zv qQ
        |some ds=>exact qx Zv
       exact(aD i j m h hm bD (fun i' x' ae am aq h1 h2=>by
        rcases aS i' x' ae am with hc|hc
        .exact Xc i' x' ae am aq hc
        .omega)).1
     |e=>
      have u:jm X (bw o.dst) o.op=true:=xM;by_cases QT:al=some j->∀i x,g[i]?=some x->jm X (bw x.dst) x.op=true->i<j->f.getD i false=true
      .rw[<-bt u QT] at QS;exact go (j+1) QS wC (zN u QT) (bf u QT) (zM u)
      .have Jy:al=some j:=Classical.byContradiction fun h=>QT fun h2=>absurd h2 h
       have cw:l=false:=by
        cases V:l with
        |false=>rfl
        |true=>exact absurd Jy (br V)
       obtain⟨o',ty,t0,K,g2,g3,g4,g5⟩:=hD.alo j Jy;rw[J] at K;injection K with K;subst K
       have cp:¬j<m:=fun h=>by
        have:=(hJ j Jy).2 (.inl h);rw[ac] at this;cases this
       have bH:zf X F (bw o.dst) o.op (qbJ (J9 g o) (E j)) (T j)=match(Xy X.P ty).bind cellsOf with
         |some cs=>some (.optr (T j).length cs.length 0,qr (T j) cs)
         |none=>none:=by
        rw[g2];cases bw o.dst<;>rfl
       rw[bH] at QS;cases hz:(Xy X.P ty).bind cellsOf with
       |none=>rw[hz] at QS;cases QS
       |some cs=>
        rw[hz] at QS;injection QS with QS;injection QS with U bR;obtain⟨arr,r1,r2,r3,r4,r5⟩:=q66 hz C;have bN:=qxu (w':=C.alloc (.cells arr ty)) B ⟨rfl,rfl,rfl⟩ wE (fun c hc=>heap_alloc_old C _ hc);have qg:t0<nt:=(by simpa[ko,g3] using kO);have bz:Goes X.P (execOp A.eval o) C (fun v w2=>v=.pointer (some ⟨C.heap.size,0,none⟩)/\w2=C.alloc (.cells arr ty)):=Goes.value (by simp[execOp,g2,r1]) ⟨rfl,rfl⟩;refine Goes.upon (bz.mono fun v w2 V=>?_);obtain⟨rfl,rfl⟩:=V;refine aa d _ _ ι1 n m true (fun _=>rfl) hE kO bN.1 (fun h=>by cases h Jy) bN.2 hm (fun i x hx Zg I=>?_) (fun i I=>?_) (fun _=>?_)
        .have N:i≠j:=fun h=>I (by rw[h];exact Jy);rw[qn,if_neg N];exact hK i x hx Zg I
        .have N:i=j:=(by rw[Jy] at I;injection I with h;exact h.symm);rw[qn,if_pos N];simp
        .refine⟨j,o,t0,C.heap.size,arr,ty,(0,0),cs,Jy,J,g3,wC,bR.symm,by rw[hE,<-U,g3],by rw[(qed A o.dst _).1];exact vh qg (by rw[h1];exact Qy),?_,heap_alloc_new C _,fun h=>?_,fun q es s hq h=>?_,G.size,r2,.inl rfl,r3,r4,r5,fun k y hy JL hn=>?_⟩
         .rw[g3];have:t0<A.tmps.size:=vh qg (by rw[h1];exact Qy);simp[Act.put,this]
         .exact absurd (B.okS _ h) (Nat.lt_irrefl _)
         .exact absurd (B.lt hq h) (Nat.lt_irrefl _)
         .rw[qn,if_neg JL];refine aN k y hy (g5 k y hy JL hn).1 ?_;unfold VC;simp only[g3,Option.any_some,qeH];exact .inl (.inl (.inl (.inl (by simpa using hn))))
     |m=>
      have u:jm X (bw o.dst) o.op=true:=xM
      have QT:al=some j->∀i x,g[i]?=some x->jm X (bw x.dst) x.op=true->i<j->f.getD i false=true:=fun h=>by
       obtain⟨z,K,g2⟩:=ai j h;rw[J] at K;injection K with K;subst K;rw[ZB] at g2;cases g2
      rw[<-bt u QT] at QS;exact go (j+1) QS wC (zN u QT) (bf u QT) (zM u)
    .rw[if_neg (by rw[hw false hg];simp)];cases u:jm X (bw o.dst) o.op with
     |false=>exact aa (.tup []) undef C ι1 n m l (fun h=>h) hE kO B (fun _=>qhe) (.refl _ (qA _)) hm (jb u) (bh u) (aV _ _ _ _ _ (.refl _ (qA _)) kN)
     |true=>
      have QT:al=some j->∀i x,g[i]?=some x->jm X (bw x.dst) x.op=true->i<j->f.getD i false=true:=fun h=>by
       obtain⟨o',ty,t0,K,g2,g3,g4,g5⟩:=hD.alo j h;rw[J] at K;injection K with K;subst K;rw[g4] at hg;simp[vP] at hg
      have kQ:T (j+1)=T m:=(by rw[bT,bt u QT]);have Y:Evol (T m).length n C ι1 (T m) n C ι1 (T (j+1)):=(by rw[kQ];exact .refl _ (qA _));exact aa (.tup []) undef C ι1 n (j+1) l (fun h=>h) hE kO (by rw[kQ];exact B) (fun _=>qhe) Y wC (zN u QT) (bf u QT) (aV _ _ _ _ _ Y (zM u))
 refine main g.size (Array.replicate g.size false) a w 0 ι ok false wE ?_ ?_ (vg _) ?_ ?_ (fun h=>wI) (by rw[bp];exact hs) (by rw[bp];exact .refl _ (qA _)) rfl rfl ?_
 .exact zI (List.length_filter_le _ _) wE
 .intro i o hi R
  have:(Array.replicate g.size false).getD i false=false:=by
   rw[j7,qiW];split<;>rfl
  rw[this] at R;cases R
 .intro i o hi u _
  have:(Array.replicate g.size false).getD i false=false:=by
   rw[j7,qiW];split<;>rfl
  rw[this];simp
 .intro i _
  have:(Array.replicate g.size false).getD i false=false:=by
   rw[j7,qiW];split<;>rfl
  rw[this];simp
 .intro t k u Kr _ d U;rw[bp]
  have R:=au t 0 k (vg _) u (fun i o hi kO aK=>by
   have Z:=(Kr i o hi kO).2 aK.2
   have:(Array.replicate g.size false).getD i false=false:=by
    rw[j7,qiW];split<;>rfl
   rw[this] at Z;cases Z)
  rw[R,bZ] at U;exact he t d U
theorem q4P{F:zF}(s:VF X F){nt:Nat}{b:Array Oper}{c:Bool}{Q:Exit->Act->World->Prop}(hD:DrawFacts X (fun _=>c) [] al b){e l:qu}{a:Act}(g:vX X F nt c b b.toList e H=some (l,H'))
  (o:Sim X ok w ι H) (q:EnvRep ok w ι H e a.tmps) (n:nt<=a.tmps.size) (r:∀m w',Out X H.length ok w ι H a l H' m w'->Q .normal m w'):
  wpAny X.P .any b Q b.size (Array.replicate b.size false) a w:=by
 obtain⟨E,T,f,k,d,h,p⟩:=qmw g;exact quD s hD f k d h p (fun i j x y _ _ hc=>by simp at hc) o q n r
theorem q4O{F:zF}(q:VF X F){nt:Nat}{b:Array Oper}{ow:List Nat}{Q:Exit->Act->World->Prop}(hD:DrawFacts X (Ja ow) L al b){e p:qu}{a:Act}(c:Qp X F nt ow b L 0 [] [] b.toList e H=some (p,H'))
  (t:Sim X ok w ι H) (u:EnvRep ok w ι H e a.tmps) (v:nt<=a.tmps.size) (G:∀n w',Out X H.length ok w ι H a p H' n w'->Q .normal n w'):
  wpAny X.P .any b Q b.size (Array.replicate b.size false) a w:=by
 obtain⟨E,T,f,d,g,h,l⟩:=qmv c;refine quD q hD f d g h l ?_ t u v G;rw[<-f,<-d] at c;intro i j x y hi r hc A B C;exact qji (fun k o s=>l k o (by simpa using s)) b.toList 0 [] [] _ (fun m=>wE) c (fun i x z=>wC) (fun j y I=>wC) i j x y hi r hc A B C (vg _)
end
end Go.Ev
namespace Go.Ev
section
variable {X:Cx} {ok ok':Nat->Prop} {w w':World} {ι:qV} {H H':qe}
theorem qfN{c:Array Oper}{e:qu}{a:Act}(g:EnvRep ok w ι H e a.tmps){o:Oper}{b:Bool}(h:vP c e o.guard=some b):Region.wanted o (yielded c a.tmps)=b:=
 qmf (fun _ _ t _ _ d f=>g t d f) h
theorem qhy{e:qu}{a:Act}{dst:Option Tmp}{d:D}{v:Value}{nt:Nat}(c:EnvRep ok w ι H e a.tmps)(g:Rep ok w ι H d v)(h:nt<=a.tmps.size)(f:ko nt dst=true):EnvRep ok w ι H (jP e dst d) (a.put dst v).tmps:=by
 cases dst with
 |none=>exact c
 |some t=>
  have b:t<nt:=by simpa[ko] using f
  exact c.put g (vh b h)
theorem qld{F:zF}(m:VF X F){nt:Nat}{s:Bool}{g:Array Oper}{Q:Exit->Act->World->Prop}:∀{l:List Oper}{e i:qu}{H H':qe}{ok:Nat->Prop}{w:World}{ι:qV}{a:Act},vX X F nt s g l e H=some (i,H')->
  Sim X ok w ι H->EnvRep ok w ι H e a.tmps->nt<=a.tmps.size->(∀A w',Out X H.length ok w ι H a i H' A w'->Q .normal A w')->wpList X.P g Q l a w
 |[],e,i,H,H',ok,w,ι,a,h,c,b,n,j=>by
  simp only[vX,qy,zj] at h;obtain⟨rfl,rfl⟩:=h;exact j a w ⟨rfl,rfl,ι,ok,c,b,.refl _ (qA _)⟩
 |o::l,e,i,H,H',ok,w,ι,a,h,c,b,n,j=>by
  simp only[vX] at h;split at h
  .rename_i x z;split at h
   .rename_i d O K;have t:=qfN b z;simp only[wpList,t,if_true];refine .inl ?_;unfold Oper.wp;refine Goes.upon ((qjZ m c b K).mono fun v R B=>?_);obtain⟨ι1,C,M,I,r⟩:=B;obtain⟨N,u⟩:=qed a o.dst v;refine qld m h M (qhy (b.evol' c r) I n x) wC fun q k y=>j q k ?_;obtain⟨E,p,ι2,ok2,L,J,G⟩:=y;exact⟨wC,by rw[p,u],ι2,ok2,L,J,r.trans (G.mono r.nle.2)⟩
   .cases h
  .rename_i x z;have t:=qfN b z;simp only[wpList,t,kZ,if_false];obtain⟨N,u⟩:=qed a o.dst undef;refine qld m h c (qhy b qhe n x) wC fun q k y=>j q k ?_;obtain⟨E,p,f⟩:=y;exact⟨wC,by rw[p,u],f⟩
  .cases h
theorem qhK:∀{ks:List Nat}{e:qu}{t:Nat}{d:D},qi (Qf ks e) t=some d->qi e t=some d
 |[],e,t,d,h=>by simp[Qf,qi] at h
 |k::ks,e,t,d,h=>by
  simp only[Qf] at h;split at h
  .rename_i x a;simp only[qi] at h;split at h
   .rename_i b;subst b;rw[a];exact h
   .exact qhK h
  .exact qhK h
theorem qoY{n:Nat}:∀{e:qu}{t:Nat}{d:D},qc1 n e=true->qi e t=some d->closed n d=true
 |[],t,d,_,h=>by simp[qi] at h
 |(s,x)::e,t,d,hc,h=>by
  simp only[qc1,zX] at hc;simp only[qi] at h;split at h
  .injection h with h;subst h;exact hc.1
  .exact qoY hc.2 h
theorem q4G{f n0 id:Nat}{e m:qu}{tmps:Array Value}(h:qli X f n0 id e H=some (m,H'))(j:n0<=H.length)(c:Sim X ok w ι H)(g:EnvRep ok w ι H e tmps):
  Sim X ok w ι H'/\EnvRep ok w ι H' m tmps/\Evol n0 ok w ι H ok w ι H':=by
 unfold qli at h;split at h
 .simp only[qy,zj] at h;obtain⟨rfl,rfl⟩:=h;exact⟨c,g,.refl _ j⟩
 .simp only[qy,zj] at h;obtain⟨rfl,rfl⟩:=h;exact⟨c,fun t d b=>g t d (qhK b),.refl _ j⟩
 .rename_i ks k n;have a:EnvRep ok w ι H (Qf ks e) tmps:=fun t d b=>g t d (qhK b);split at h
  .simp only[qy,zj] at h;obtain⟨rfl,rfl⟩:=h;exact⟨c,a,.refl _ j⟩
  .rename_i l;split at h
   .rename_i hc;rw[zX] at hc;simp only[qy,zj] at h;obtain⟨rfl,rfl⟩:=h;have i:n0+k<=H.length:=wC;exact⟨q4U i c hc.2,a.evol c (qly i) (fun t d b=>qoY hc.1 b),(qly i).mono wC⟩
   .cases h
theorem qu3{f n0 id:Nat}{e b:qu}{tmps:Array Value}(h:qit X f n0 id e H=some (b,H'))(c:n0<=H.length)(d:Sim X ok w ι H)(g:EnvRep ok w ι H e tmps):
  ∃ok' ι',Sim X ok' w ι' H'/\EnvRep ok' w ι' H' b tmps/\Evol n0 ok w ι H ok' w ι' H':=by
 have a:∀{e b:qu}{ok:Nat->Prop}{H H':qe},qiu X f n0 id e H=some (b,H')->n0<=H.length->Sim X ok w ι H->EnvRep ok w ι H e tmps->
   ∃ι',Sim X ok w ι' H'/\EnvRep ok w ι' H' b tmps/\Evol n0 ok w ι H ok w ι' H':=by
  intro e b ok H H' h c d g;unfold qiu at h;split at h
  .obtain⟨j,k,i⟩:=q4G h c d g;exact⟨ι,j,k,i⟩
  .exact qyw h c d g
 unfold qit at h;split at h
 .obtain⟨ι',j,k,i⟩:=a h c d g;exact⟨ok,ι',j,k,i⟩
 .split at h
  .rename_i q p n;obtain⟨ok',m,o,l⟩:=q3S n d g;obtain⟨ι',j,k,i⟩:=a h (zI c l.nle.2) m o;exact⟨ok',ι',j,k,(l.mono c).trans i⟩
  .cases h
theorem qu2{f n0 id:Nat}{e j:qu}{tmps:Array Value}(h:enter X f n0 id e H=some (j,H'))(g:n0<=H.length)(c:Sim X ok w ι H)(a:EnvRep ok w ι H e tmps):
  ∃ok' ι',Sim X ok' w ι' H'/\EnvRep ok' w ι' H' j tmps/\Evol n0 ok w ι H ok' w ι' H':=by
 unfold enter at h;split at h
 .exact qu3 h g c a
 .split at h
  .rename_i r i;obtain⟨n,m,k,l⟩:=qjr i c;obtain⟨ok2,ι',q,o,p⟩:=qu3 h (by rw[l];exact g) m (fun t d b=>⟨(a t d b).1,(a t d b).2.evol c k (a t d b).2.closed⟩);exact⟨ok2,ι',q,o,(k.mono g).trans p⟩
  .cases h
def qlb:Ex->Exit
 | .normal=>.normal
 | .exit id=>.exit id
 | .ret=>.ret
def CQ(X:Cx)(n:Nat)(ok:Nat->Prop)(w:World)(ι:qV)(H:qe)(a:Act)(b:Ex)(c:qu)(H':qe)(x:Exit)(d:Act)(w':World):Prop:=
 x=qlb b/\Out X n ok w ι H a c H' d w'
def q6N(X:Cx)(n:Nat):Prop:=
 ∀(f nt n0:Nat)(c:Code)(e d:qu)(H H':qe)(b:Ex)(ok:Nat->Prop)(w:World)(ι:qV)(a:Act),zm X n f nt n0 c e H=some (b,d,H')->Z4 X f c=true->n0<=H.length->Sim X ok w ι H->EnvRep ok w ι H e a.tmps->nt<=a.tmps.size->
  c.wp X.P (CQ X n0 ok w ι H a b d H') a w
theorem Out.trans{n:Nat}{a c d:Act}{i f:World}{g e:qe}{b:Nat->Prop}{ι1:qV}{e2:qu}(r:c.tmps.size=a.tmps.size)(k:c.defers=a.defers)(l:Evol n ok w ι H b i ι1 g)
  (h:Out X n b i ι1 g c e2 e d f):Out X n ok w ι H a e2 e d f:=by
 obtain⟨q,p,ι2,ok2,m,j,o⟩:=h;exact⟨wC,by rw[p,k],ι2,ok2,m,j,l.trans o⟩
theorem qoo{t:Bool}{c:Operand}{e:qu}{a:Act}(b:Sim X ok w ι H)(d:EnvRep ok w ι H e a.tmps)(h:qZ X e c=some (.bool t)):a.eval c=.bool t:=by
 have:=vm b d h;generalize a.eval c=v at this⊢;cases this;rfl
theorem qiI:∀(l:List D)(i t:Nat)(d:D),qi (kr i l) t=some d->i<=t/\l[t-i]?=some d
 |[],i,t,d,h=>by simp[kr,qi] at h
 |x::l,i,t,d,h=>by
  simp only[kr,qi] at h;split at h
  .rename_i b;subst b;injection h with h;subst h;exact⟨qA _,wE⟩
  .obtain⟨c,a⟩:=qiI l (i+1) t d h;refine⟨wC,?_⟩;rw[show t-i=(t-(i+1))+1 from wC,qeF];exact a
def qhv(tmps:Array Value):ResultVar->Sem Value
 | .tmp t=>pure (tmps.getD t undef)
 | .cell a t=>do loadVar t (<-asAddr (tmps.getD a undef))
theorem qjD{e:qu}{tmps:Array Value}(n:Sim X ok w ι H)(i:EnvRep ok w ι H e tmps):∀{l:List ResultVar}{ds:List D},QL X e H l=some ds->
  ∃vs:List Value,(l.mapM (qhv tmps)).run X.P w=.ok vs w/\RepL ok w ι H ds vs
 |[],ds,h=>by
  simp only[QL,qy] at h;subst h;exact⟨[],wE,rfl,wE⟩
 | .tmp t::l,ds,h=>by
  simp only[QL] at h;split at h
  .rename_i d ds' b q;injection h with h;subst h;obtain⟨vs,k,g⟩:=qjD n i q;refine⟨tmps.getD t undef::vs,?_,by simp[g.1],fun j x hx=>?_⟩
   .rw[List.mapM_cons];simp only[qhv,Sem.run_bind,Sem.run_pure,Result.andThen_ok,k]
   .cases j with
    |zero=>
     simp only[kY,qy] at hx;subst hx;exact(i t d b).2
    |succ j=>exact g.2 j x wo
  .cases h
 | .cell a t::l,ds,h=>by
  simp only[QL] at h;split at h
  .rename_i d ds' b q;injection h with h;subst h;obtain⟨vs,k,g⟩:=qjD n i q;cases r:qi e a with
   |none=>simp[r] at b
   |some p=>
    simp only[r,qa9] at b;obtain⟨_,m⟩:=i a p r;obtain⟨v,s,y⟩:=qpa n m b
    have c:∃u,tmps.getD a undef=.pointer (some u):=by
     unfold ldD at b;split at b
     .rename_i o;exact m.ptr o
     .rename_i o;exact m.ptr o
     .cases b
    obtain⟨u,f⟩:=c;rw[f] at s;simp only[Instr.loadAt,Instr.sureAddr,Sem.run_bind,Sem.run_pure,Result.andThen_ok] at s;refine⟨v::vs,?_,by simp[g.1],fun j x hx=>?_⟩
    .rw[List.mapM_cons];simp only[qhv,f,asAddr,Sem.run_bind,Sem.run_pure,Result.andThen_ok,s,k]
    .cases j with
     |zero=>
      simp only[kY,qy] at hx;subst hx;exact y
     |succ j=>exact g.2 j x wo
  .cases h
theorem qz4{ds:List D}{vs:List Value}(h:RepL ok w ι H ds vs):Rep ok w ι H (Vy ds) (if i:vs.toArray.size=1 then vs.toArray[0] else .tuple vs.toArray):=by
 unfold Vy;split
 .rename_i d;obtain⟨v,us,rfl,g,f⟩:=J6 h;obtain rfl:=qcU f;simpa using g
 .rename_i a
  have b:vs.toArray.size≠1:=by
   intro e;have:ds.length=1:=by rw[<-h.1];simpa using e
   match ds,this with
   |[d],_=>exact a d rfl
  rw[dif_neg b]
  exact .tup (by simpa using h.1) fun j d c=>by
   have:=h.2 j d c;simpa[j7,jv] using this
theorem qyx{fn:Func}{e:qu}{tmps:Array Value}{ds:List D}(c:Sim X ok w ι H)(d:EnvRep ok w ι H e tmps)(h:QL X e H fn.results.toList=some ds):
  ∃v,(results fn tmps).run X.P w=.ok v w/\Rep ok w ι H (Vy ds) v:=by
 obtain⟨vs,b,f⟩:=qjD c d h;refine⟨_,?_,qz4 f⟩
 have a:results fn tmps=(do let vs<-fn.results.mapM (qhv tmps);pure (if h:vs.size=1 then vs[0] else .tuple vs)):=by
  unfold results;congr 1
 rw[a,Sem.run_bind,Array.mapM_eq_mapM_toList,Sem.run_map,b];rfl
theorem qj4{P:Program}{c:Code}{Q d:Exit->Act->World->Prop}(b:∀x a w,Q x a w->d x a w):∀(n:Nat)(a:Act)(w:World),Code.rounds P c Q n a w->Code.rounds P c d n a w
 |0,_,_,h=>h
 |n+1,a,w,h=>by
  rw[rounds_succ] at h⊢;refine wp_mono h fun x a w hx=>?_;cases x<;>first|exact b _ _ _ hx|exact qj4 b n a w hx
theorem qmI(hG:Good X):∀n,VF X (vH X n)/\q6N X n:=by
 intro n
 induction n using Nat.strongRecOn with
 |_ n ih=>
  cases n with
  |zero=>
   refine⟨fun f args H r H' ok w ι vs h=>by simp[vH] at h,fun f nt n0 c e C H H' u ok w ι a h=>by simp[zm] at h⟩
  |succ n=>
   have ae:=(ih n wC).1;have ac:=(ih n wC).2;constructor
   ·-- a function
    intro f args H r H' ok w ι vs h G hv;simp only[vH] at h;split at h
    .rename_i r0 Q1;injection h with h;subst h;exact(hG.con f args H r H' Q1 ok w ι vs G hv).mono fun v w' E=>E.g _
    split at h
    .cases h
    .rename_i fn hf;split at h
     .rename_i W;obtain⟨h1,rfl⟩:=Zt h;obtain⟨v,q1,q2,q3⟩:=hG.ext f fn args r hf W h1 ok w ι H vs G hv;exact Goes.value q1 ⟨ι,ok,G,q2,.refl _ (qA _),fun _ i ds hi hd=>by have:=qx hd;omega⟩
     .rename_i c W;cases I:X.bad f with
      |true=>simp[I] at h
      |false=>
      simp only[I,kZ,if_false] at h;have ah:=hG.okc f fn c hf W I;have Xk:(callFunc f vs.toArray).run X.P w=.ok (.enter f vs.toArray) w:=Go.Proofs.enters_of hf (hG.ng f fn hf) W _ _
      have key:∀u e p ds,(u=.normal\/u=.ret)->zm X n f fn.ntmps H.length c (kr 0 args) H=some (u,e,p)->QL X e p fn.results.toList=some ds->qbN (X.gr f&&X.byRef f) (X.fzr f) H.length p (Vy ds)=some (r,H')->
        Goes X.P (callFunc f vs.toArray) w (qiS X (X.gr f&&X.byRef f) ok w ι H r H'):=by
       intro u e p ds ao hc hr E;unfold Goes;rw[Xk];simp only;refine calls_of_wp hf W (wp_mono (ac f fn.ntmps H.length c (kr 0 args) e H p u ok w ι ⟨vs.toArray++Array.replicate (fn.ntmps-vs.toArray.size) undef,[]⟩ hc ah (qA _) G ?_ ?_) ?_)
       .intro t d ht;obtain⟨_,h2⟩:=qiI args 0 t d ht;rw[Nat.sub_zero] at h2;have qg:t<vs.length:=(by rw[hv.1];exact(List.getElem?_eq_some_iff.1 h2).1);refine⟨wG,?_⟩;have:=hv.2 t d h2;rw[j7,qhb (by simpa using qg)];simpa[jv] using this
       .simp;omega
       .rintro x Y w' ⟨rfl,k1,k2,ι1,A,k3,k4,k5⟩;obtain⟨v,q1,q2⟩:=qyx (fn:=fn) k3 k4 hr
        have K:qiS X (X.gr f&&X.byRef f) ok w ι H r H' v w':=by
         cases aj:(X.gr f&&X.byRef f) with
         |true=>
          rw[aj] at E;cases hz:X.fzr f with
          |false=>
           rw[hz] at E;simp only[qbN,qeg,qy,zj] at E;obtain⟨rfl,rfl⟩:=E;exact⟨ι1,A,k3,q2,k5,fun h=>wI⟩
          |true=>
           rw[hz] at E;simp only[qbN,qeg] at E;split at E
           .rename_i r1 l ak;have h1:=qeP k3 (okF:=Yk A ι1 p l) (fun b W=>.inl W) _ _ _ _ _ q2 ak (fun i hi ds b s hd W=>.inr ⟨i,ds,s,hi,hd,W⟩);simp only[qy,zj] at E;obtain⟨rfl,rfl⟩:=E;exact⟨ι1,_,qgM k3 l,h1.lift (ι:=ι1) (H:=jT p l),k5.trans ((qe6 l).mono k5.nle.2),fun h=>wI⟩
           .cases E
         |false=>
          rw[aj] at E;obtain⟨ok2,ι2,p1,p2,p3,p4⟩:=qnX k5.nle.2 k3 q2 E;exact⟨ι2,ok2,p1,p2,k5.trans p3,fun _=>p4⟩
        rcases ao with rfl|rfl
        .exact⟨k2,v,q1,v,rfl,K⟩
        .exact⟨k2,v,q1,v,rfl,K⟩
      split at h
      .rename_i e p hc;split at h
       .rename_i ds hr;exact key _ e p ds (.inl rfl) hc hr h
       .cases h
      .rename_i e p hc;split at h
       .rename_i ds hr;exact key _ e p ds (.inr rfl) hc hr h
       .cases h
      .cases h
   ·-- zl
    intro f nt n0 c e C H H' u ok w ι a h j hn G he Qy
    have k:∀(T:Ex)(F:qu)(p:qe)(Q:Exit->Act->World->Prop)(c1:Code),zm X n f nt n0 c1 e H=some (T,F,p)->Z4 X f c1=true->(∀Y w',Out X n0 ok w ι H a F p Y w'->Q (qlb T) Y w')->c1.wp X.P Q a w:=by
     intro T F p Q c1 h1 ai hQ;refine wp_mono (ac f nt n0 c1 e F H p T ok w ι a h1 ai hn G he Qy) ?_;rintro x Y w' ⟨rfl,o⟩;exact hQ Y w' o
    have B:Out X n0 ok w ι H a e H a w:=⟨rfl,rfl,ι,ok,G,he,.refl _ hn⟩;cases c with
    |skip=>
     simp only[zm,qy,zj] at h;obtain⟨rfl,rfl,rfl⟩:=h;exact wp_skip ⟨rfl,B⟩
    |label l=>
     simp only[zm,qy,zj] at h;obtain⟨rfl,rfl,rfl⟩:=h;exact wp_label ⟨rfl,B⟩
    |exit id=>
     simp only[zm,qy,zj] at h;obtain⟨rfl,rfl,rfl⟩:=h;exact wp_exit ⟨rfl,B⟩
    |ret=>
     simp only[zm,qy,zj] at h;obtain⟨rfl,rfl,rfl⟩:=h;exact wp_ret ⟨rfl,B⟩
    |region id aq aa=>
     simp only[zm] at h;split at h
     .cases h
     .rename_i F p jX;obtain⟨A,ι1,s1,s2,Z⟩:=qu2 jX hn G he;cases M:J0 X (vH X n) f nt id aa aq F p with
      |none=>simp[M] at h
      |some r=>
       obtain⟨e2,H2⟩:=r;simp only[M,j6,qy,zj] at h;obtain⟨rfl,rfl,rfl⟩:=h;cases aa with
       |false=>
        simp only[J0] at M;refine wp_region_list (qld ae M s1 s2 Qy fun Y w' o=>⟨rfl,?_⟩);obtain⟨R,O,ι2,ok2,V,U,J⟩:=o;exact⟨R,O,ι2,ok2,V,U,Z.trans (J.mono Z.nle.2)⟩
       |true=>
        simp only[Z4,Bool.not_true,Bool.false_or] at j;simp only[J0] at M;obtain⟨d1,d2⟩:=qwT (w':={w with drawn:=w.drawn+1}) s1 ⟨rfl,rfl,rfl⟩ rfl;cases Xg:X.lp f id with
        |none=>
         rw[Xg] at M j;simp only[YV] at M;refine wp_region_any hG.mixed (q4P ae (quE j) M d1 (s2.evol' s1 d2) Qy fun Y w' o=>⟨rfl,?_⟩);obtain⟨R,O,ι2,ok2,V,U,J⟩:=o;exact⟨R,O,ι2,ok2,V,U,Z.trans ((d2.mono Z.nle.2).trans (J.mono Z.nle.2))⟩
        |some q=>
         obtain⟨L,ow⟩:=q;rw[Xg] at M j;refine wp_region_any hG.mixed (q4O ae (quE j) M d1 (s2.evol' s1 d2) Qy fun Y w' o=>⟨rfl,?_⟩);obtain⟨R,O,ι2,ok2,V,U,J⟩:=o;exact⟨R,O,ι2,ok2,V,U,Z.trans ((d2.mono Z.nle.2).trans (J.mono Z.nle.2))⟩
    |seq x y=>
     simp only[Z4,zX] at j;simp only[zm] at h;refine wp_seq ?_;split at h
     .rename_i F p hx;refine k _ F p _ x hx j.1 fun N S o=>?_;obtain⟨R,O,ι1,A,V,U,J⟩:=o;refine wp_mono (ac f nt n0 y F C p H' u A S ι1 N h j.2 J.nle.2 V U wC) ?_;rintro z a2 w2 ⟨rfl,ag⟩;exact⟨rfl,Out.trans R O J ag⟩
     .rename_i qQ;refine k u C H' _ x h j.1 fun N S o=>?_;cases u with
      |normal=>exact absurd h (qQ _ _)
      |exit id=>exact⟨rfl,o⟩
      |ret=>exact⟨rfl,o⟩
    |cond c x y=>
     simp only[Z4,zX] at j;simp only[zm] at h;split at h
     .rename_i t hc;refine wp_cond (qoo G he hc) (k u C H' _ _ h (by cases t;exact j.2;exact j.1) fun N S o=>⟨rfl,o⟩)
     .cases h
    |block id c=>
     simp only[Z4] at j;simp only[zm] at h;refine wp_block ?_;split at h
     .rename_i i F p hc;refine k _ F p _ c hc j fun N S o=>?_;simp only[qlb,Exit.inBlock];split at h
      .rename_i hi;simp only[qy,zj] at h;obtain⟨rfl,rfl,rfl⟩:=h;rw[if_pos hi];exact⟨rfl,o⟩
      .rename_i hi;simp only[qy,zj] at h;obtain⟨rfl,rfl,rfl⟩:=h;rw[if_neg hi];exact⟨rfl,o⟩
     .rename_i qQ;refine k u C H' _ c h j fun N S o=>?_;cases u with
      |normal=>exact⟨rfl,o⟩
      |exit i=>exact absurd h (qQ _ _ _)
      |ret=>exact⟨rfl,o⟩
    |scope c=>
     simp only[Z4] at j;simp only[zm] at h;refine wp_scope_straight (k u C H' _ c h j fun N S o=>?_);cases u<;>exact⟨rfl,o⟩
    |loop c=>
     simp only[Z4] at j
     have key:∀m,m<=n->∀(e C:qu)(H H':qe)(u:Ex)(ok:Nat->Prop)(w:World)(ι:qV)(a:Act),zm X (m+1) f nt n0 (.loop c) e H=some (u,C,H')->n0<=H.length->Sim X ok w ι H->EnvRep ok w ι H e a.tmps->nt<=a.tmps.size->
       Code.rounds X.P c (CQ X n0 ok w ι H a u C H') (m+1) a w:=by
      intro m
      induction m with
      |zero=>
       intro _ e C H H' u ok w ι a h;simp only[zm] at h;simp at h
      |succ m am=>
       intro hm e C H H' u ok w ι a h hn G he Qy;rw[rounds_succ];rw[zm] at h;split at h
       .rename_i F p hc;refine wp_mono ((ih (m+1) wC).2 f nt n0 c e F H p .normal ok w ι a hc j hn G he Qy) ?_;rintro x N S ⟨rfl,R,O,ι1,A,V,U,J⟩;have Vk:=am wC F C p H' u A S ι1 N h J.nle.2 V U wC;refine qj4 ?_ _ _ _ Vk;rintro x a2 w2 ⟨hx,o⟩;exact⟨hx,Out.trans R O J o⟩
       .rename_i qQ;refine wp_mono ((ih (m+1) wC).2 f nt n0 c e C H H' u ok w ι a h j hn G he Qy) ?_;rintro x N S ⟨rfl,o⟩;cases u with
        |normal=>exact absurd h (qQ _ _)
        |exit id=>exact⟨rfl,o⟩
        |ret=>exact⟨rfl,o⟩
     exact wp_loop_rounds _ (key n (qA _) e C H H' u ok w ι a h hn G he Qy)
    |goto l=>simp[zm] at h
    |rangeFunc _ _ _ _=>simp[zm] at h
    |refuse _=>simp[zm] at h
end
end Go.Ev
namespace Go.Ev
section
variable {X:Cx}
def VG(F G:zF):Prop:=∀f args H r,F f args H=some r->G f args H=some r
theorem q5N{F G:zF}(h:VG F G){f:Nat}{args:List D}{H:qe}{r:D×qe}(hc:KB F f args H=some r):KB G f args H=some r:=by
 cases args with
 |nil=>simp[KB] at hc
 |cons a b=>
  cases a with
  |optr i st off=>
   simp only[KB] at hc⊢;cases d:qd H i with
   |none=>simp[d] at hc
   |some ds=>
    simp only[d] at hc⊢;split at hc
    .rename_i e;rw[if_pos e];cases c:F f (.optr 0 st off::b) [some ds] with
     |none=>simp[c] at hc
     |some q=>rw[h _ _ _ _ c];rw[c] at hc;exact hc
    .cases hc
  |_=>simp[KB] at hc
theorem q5K{F G:zF}(_:VG F G){f:Nat}{args:List D}{H:qe}{r:D×qe}(hc:qf4 F f args H=some r):qf4 G f args H=some r:=by
 cases hc
theorem q5R{F G:zF}(h:VG F G){f:Nat}{args:List D}{H:qe}{r:D×qe}(hc:qb6 X F f args H=some r):qb6 X G f args H=some r:=by
 unfold qb6 at hc⊢;split
 .rename_i a;rw[if_pos a] at hc;exact q5K h hc
 .rename_i a;rw[if_neg a] at hc;exact q5N h hc
theorem q5U{F G:zF}(h:VG F G){f:Nat}{args:List D}{H:qe}{r:D×qe}(hc:qb7 F f args H=some r):qb7 G f args H=some r:=by
 unfold qb7 qdK at hc⊢;split at hc
 .split at hc
  .rename_i b;rw[if_pos b];split at hc
   .rename_i a;rw[h _ _ _ _ a];exact hc
   .cases hc
  .cases hc
 .cases hc
theorem q5H{F G:zF}(h:VG F G){f:Nat}{args:List D}{H:qe}{r:D×qe}(hc:Ya X F f args H=some r):Ya X G f args H=some r:=by
 unfold Ya at hc⊢;split
 .rename_i g;rw[if_pos g] at hc;split
  .rename_i d;rw[if_pos d] at hc;split
   .rename_i e;rw[if_pos e] at hc;exact q5U h hc
   .rename_i e;rw[if_neg e] at hc;exact q5R h hc
  .rename_i d;rw[if_neg d] at hc;exact h _ _ _ _ hc
 .rename_i g;rw[if_neg g] at hc;split
  .rename_i c;rw[if_pos c] at hc;cases b:F f args [] with
   |none=>simp[b] at hc
   |some q=>rw[h _ _ _ _ b];rw[b] at hc;exact hc
  .rename_i c;rw[if_neg c] at hc;cases i:qcy H args with
   |none=>simp[i] at hc
   |some a=>
    simp only[i] at hc⊢;cases b:F f a [] with
    |none=>simp[b] at hc
    |some q=>rw[h _ _ _ _ b];rw[b] at hc;exact hc
theorem qlH{F G:zF}(h:VG F G){f:Nat}{args:List D}{H:qe}{r:D×qe}(hc:ZI X F f args H=some r):ZI X G f args H=some r:=by
 by_cases b:(X.pureF f&& !X.byRef f)=true
 .obtain⟨g,e,a⟩:=qgP b hc;unfold ZI;rw[if_pos b];rcases a with⟨a,d⟩|⟨a,l,k,i,c,j,d⟩
  .rw[if_pos a,h _ _ _ _ d];simp only[e,if_true,<-g]
  .rw[if_neg a];subst g;simp only[l,k,Bool.and_self,if_true,j,h _ _ _ _ d,e,i]
 .unfold ZI at hc⊢;rw[if_neg b] at hc⊢;exact q5H h hc
theorem q6a{F G:zF}(h:VG F G){f:Nat}{args:List D}{H:qe}{r:D×qe}(hc:Yb X F f args H=some r):Yb X G f args H=some r:=by
 unfold Yb at hc⊢;split at hc
 .exact qlH h hc
 .split at hc
  .exact qlH h hc
  .cases hc
theorem q5X{F G:zF}(h:VG F G){f:Nat}{args:List D}{H:qe}{r:D×qe}(hc:VD X F f args H=some r):VD X G f args H=some r:=by
 unfold VD at hc⊢;split at hc
 .exact q6a h hc
 .split at hc
  .exact qlH h hc
  .cases hc
theorem quk{F G:zF}(h:VG F G){o:Op}{e:qu}{H:qe}{r:D×qe}(a:zH X F o e H=some r):zH X G o e H=some r:=by
 cases o with
 |call c=>
  simp only[zH] at a⊢;cases hc:c.callee with
  |builtin b=>cases d:vR X e c.args.toList<;>simp only[hc,d] at a⊢<;>first|exact a|cases a
  |invoke r m=>cases d:vR X e c.args.toList<;>simp only[hc,d] at a⊢<;>cases a
  |value g=>
   simp only[hc] at a⊢;cases d:vR X e c.args.toList with
   |none=>simp[d] at a
   |some args=>
    simp only[d] at a⊢;split at a
    .exact q5X h a
    .cases a
 |makeFunc g _ _=>cases g<;>exact a
 |slice _ _ _ _ m=>cases m<;>exact a
 |_=>exact a
theorem qir{F G:zF}(h:VG F G){b:Bool}{o:Op}{e:qu}{H:qe}{r:D×qe}(a:zf X F b o e H=some r):zf X G b o e H=some r:=by
 unfold zf at a⊢;split at a
 .exact a
 .exact a
 .split at a
  .cases a
  .rename_i c;rw[if_neg c];exact quk h a
 .exact quk h a
theorem qg5{F G:zF}(h:VG F G){nt:Nat}{c:Bool}{d:Array Oper}:∀{l:List Oper}{e:qu}{H:qe}{r:qu×qe},vX X F nt c d l e H=some r->vX X G nt c d l e H=some r
 |[],_,_,_,a=>a
 |o::l,e,H,r,a=>by
  simp only[vX] at a⊢;cases g:ko nt o.dst<;>simp only[g] at a⊢
  .cases a
  .cases f:vP d e o.guard with
   |none=>simp[f] at a
   |some b=>
    cases b<;>simp only[f] at a⊢
    .exact qg5 h a
    .cases hx:zf X F c o.op e H with
     |none=>simp[hx] at a
     |some q=>
      rw[qir h hx];rw[hx] at a;exact qg5 h a
theorem qg6{F G:zF}(h:VG F G){nt:Nat}{ow:List Nat}{c:Array Oper}{L:QX}:∀{l:List Oper}{k:Nat}{ws:List (Nat×qe×qe)}{rs:List (Nat×List Nat)}{e:qu}{H:qe}{r:qu×qe},Qp X F nt ow c L k ws rs l e H=some r->Qp X G nt ow c L k ws rs l e H=some r
 |[],_,_,_,_,_,_,a=>by simpa[Qp] using a
 |o::l,k,ws,rs,e,H,r,a=>by
  simp only[Qp] at a⊢;cases f:ko nt o.dst<;>simp only[f] at a⊢
  .cases a
  .cases d:vP c e o.guard with
   |none=>simp[d] at a
   |some b=>
    cases b<;>simp only[d] at a⊢
    .exact qg6 h a
    .cases hx:zf X F (Ja ow o.dst) o.op e H with
     |none=>simp[hx] at a
     |some q=>
      rw[qir h hx];rw[hx] at a;simp only at a⊢;split at a
      .rename_i hc;rw[if_pos hc];exact qg6 h a
      .cases a
theorem q4r{F G:zF}(h:VG F G){f nt id:Nat}{a:Bool}{b:Array Oper}{e:qu}{H:qe}{r:qu×qe}(c:J0 X F f nt id a b e H=some r):J0 X G f nt id a b e H=some r:=by
 unfold J0 at c⊢;split at c
 .exact qg6 h c
 .exact qg5 h c
theorem qlc:∀n,VG (vH X n) (vH X (n+1))/\∀f nt n0 c e H r,zm X n f nt n0 c e H=some r->zm X (n+1) f nt n0 c e H=some r
 |0=>⟨fun f args H r h=>by simp[vH] at h,fun f nt n0 c e H r h=>by simp[zm] at h⟩
 |n+1=>by
  obtain⟨u,g⟩:=qlc n;constructor
  .intro f args H r h;simp only[vH] at h⊢;cases A:X.con f args H with
   |some q=>simp only[A] at h⊢;exact h
   |none=>
   simp only[A] at h⊢;cases z:X.P.funcs[f]? with
   |none=>simp[z] at h
   |some fn=>
    simp only[z] at h⊢;cases B:fn.body with
    |none=>simp only[B] at h⊢;exact h
    |some c=>
     simp only[B] at h⊢;cases k:X.bad f<;>simp only[k,kZ,if_false,if_true] at h⊢
     .cases hc:zm X n f fn.ntmps H.length c (kr 0 args) H with
      |none=>simp[hc] at h
      |some q=>
       rw[g _ _ _ _ _ _ _ hc];rw[hc] at h;exact h
     .cases h
  .intro f nt n0 c e H r h;cases c with
   |region id v m=>
    rw[zm] at h⊢;cases y:enter X f n0 id e H with
    |none=>simp[y] at h
    |some q=>
     obtain⟨o,s⟩:=q;simp only[y] at h⊢;cases p:J0 X (vH X n) f nt id m v o s with
     |none=>simp[p] at h
     |some q=>
      rw[q4r u p];rw[p] at h;exact h
   |seq a b=>
    rw[zm] at h⊢;cases j:zm X n f nt n0 a e H with
    |none=>simp[j] at h
    |some q=>
     obtain⟨t,o,s⟩:=q;rw[g _ _ _ _ _ _ _ j];rw[j] at h;cases t with
     |normal=>exact g _ _ _ _ _ _ _ h
     |exit i=>exact h
     |ret=>exact h
   |cond x a b=>
    rw[zm] at h⊢;split at h
    .exact g _ _ _ _ _ _ _ h
    .cases h
   |block id c=>
    rw[zm] at h⊢;cases j:zm X n f nt n0 c e H with
    |none=>simp[j] at h
    |some q=>
     rw[g _ _ _ _ _ _ _ j];rw[j] at h;exact h
   |scope c=>
    rw[zm] at h⊢;exact g _ _ _ _ _ _ _ h
   |loop c=>
    rw[zm] at h⊢;cases j:zm X n f nt n0 c e H with
    |none=>simp[j] at h
    |some q=>
     obtain⟨t,o,s⟩:=q;rw[g _ _ _ _ _ _ _ j];rw[j] at h;cases t with
     |normal=>exact g _ _ _ _ _ _ _ h
     |exit i=>exact h
     |ret=>exact h
   |skip=>exact h
   |label l=>exact h
   |exit id=>exact h
   |ret=>exact h
   |goto l=>simp[zm] at h
   |rangeFunc a b c d=>simp[zm] at h
   |refuse w=>simp[zm] at h
theorem qg7{n m:Nat}(c:n<=m):VG (vH X n) (vH X m):=by
 induction m with
 | zero=>have:n=0:=by omega
         subst this;exact fun _ _ _ _ h=>h
 |succ m b=>
  by_cases h:n=m+1
  .subst h;exact fun _ _ _ _ h=>h
  .exact fun f args H r a=>(qlc m).1 _ _ _ _ (b wC f args H r a)
theorem qg8{n m:Nat}(a:n<=m){f nt n0:Nat}{c:Code}{e:qu}{H:qe}{r:Ex×qu×qe}(h:zm X n f nt n0 c e H=some r):zm X m f nt n0 c e H=some r:=by
 induction m with
 | zero=>have:n=0:=by omega
         subst this;exact h
 |succ m b=>
  by_cases d:n=m+1
  .subst d;exact h
  .exact(qlc m).2 _ _ _ _ _ _ _ (b wC)
open Classical in
noncomputable def lim{α:Type}(g:Nat->Option α):Option α:=if h:∃r,∃n,g n=some r then some h.choose else none
theorem qky{α:Type}{g:Nat->Option α}(c:∀n m r,n<=m->g n=some r->g m=some r){r:α}:lim g=some r↔∃n,g n=some r:=by
 unfold lim;constructor
 .intro h;split at h
  .rename_i a;injection h with h;subst h;exact a.choose_spec
  .cases h
 .rintro⟨n,d⟩;have a:∃r,∃n,g n=some r:=⟨r,n,d⟩;rw[dif_pos a];obtain⟨k,e⟩:=a.choose_spec;have f:=c n (max n k) _ (Nat.le_max_left _ _) d;have b:=c k (max n k) _ (Nat.le_max_right _ _) e;rw[f] at b;injection b with b;rw[<-b]
noncomputable def call(X:Cx):zF:=fun f args H=>lim fun n=>vH X n f args H
noncomputable def zl(X:Cx)(f nt n0:Nat)(c:Code)(e:qu)(H:qe):Option (Ex×qu×qe):=lim fun n=>zm X n f nt n0 c e H
theorem call_some{f:Nat}{args:List D}{H:qe}{r:D×qe}:call X f args H=some r↔∃n,vH X n f args H=some r:=qky fun _ _ _ a h=>qg7 a _ _ _ _ h
theorem code_some{f nt n0:Nat}{c:Code}{e:qu}{H:qe}{r:Ex×qu×qe}:zl X f nt n0 c e H=some r↔∃n,zm X n f nt n0 c e H=some r:=qky fun _ _ _ a h=>qg8 a h
theorem quq(n:Nat):VG (vH X n) (call X):=fun _ _ _ _ h=>call_some.2 ⟨n,h⟩
theorem q5O{f:Nat}{args:List D}{H:qe}{r:D×qe}(hc:KB (call X) f args H=some r):∃n,KB (vH X n) f args H=some r:=by
 cases args with
 |nil=>simp[KB] at hc
 |cons a b=>
  cases a with
  |optr i st off=>
   simp only[KB] at hc⊢;cases d:qd H i with
   |none=>simp[d] at hc
   |some ds=>
    simp only[d] at hc⊢;split at hc
    .rename_i e;cases c:call X f (.optr 0 st off::b) [some ds] with
     |none=>simp[c] at hc
     |some q=>
      obtain⟨n,g⟩:=call_some.1 c;refine⟨n,?_⟩;rw[if_pos e,g];rw[c] at hc;exact hc
    .cases hc
  |_=>simp[KB] at hc
theorem q5L{f:Nat}{args:List D}{H:qe}{r:D×qe}(hc:qf4 (call X) f args H=some r):∃n,qf4 (vH X n) f args H=some r:=by
 cases hc
theorem q5S{f:Nat}{args:List D}{H:qe}{r:D×qe}(hc:qb6 X (call X) f args H=some r):∃n,qb6 X (vH X n) f args H=some r:=by
 unfold qb6 at hc⊢;split at hc
 .rename_i a;obtain⟨n,b⟩:=q5L hc;exact⟨n,by rw[if_pos a];exact b⟩
 .rename_i a;obtain⟨n,b⟩:=q5O hc;exact⟨n,by rw[if_neg a];exact b⟩
theorem q5V{f:Nat}{args:List D}{H:qe}{r:D×qe}(hc:qb7 (call X) f args H=some r):∃n,qb7 (vH X n) f args H=some r:=by
 unfold qb7 qdK at hc⊢;split at hc
 .split at hc
  .rename_i b;split at hc
   .rename_i a;obtain⟨n,c⟩:=call_some.1 a;exact⟨n,by rw[if_pos b,c];exact hc⟩
   .cases hc
  .cases hc
 .cases hc
theorem q5I{f:Nat}{args:List D}{H:qe}{r:D×qe}(hc:Ya X (call X) f args H=some r):∃n,Ya X (vH X n) f args H=some r:=by
 unfold Ya at hc⊢;split at hc
 .rename_i d;split at hc
  .rename_i e;split at hc
   .rename_i h;obtain⟨n,a⟩:=q5V hc;exact⟨n,by rw[if_pos d,if_pos e,if_pos h];exact a⟩
   .rename_i h;obtain⟨n,a⟩:=q5S hc;exact⟨n,by rw[if_pos d,if_pos e,if_neg h];exact a⟩
  .rename_i e;obtain⟨n,a⟩:=call_some.1 hc;exact⟨n,by rw[if_pos d,if_neg e];exact a⟩
 .rename_i d;split at hc
  .rename_i g;cases c:call X f args [] with
   |none=>simp[c] at hc
   |some q=>
    obtain⟨n,a⟩:=call_some.1 c;exact⟨n,by rw[if_neg d,if_pos g,a];rw[c] at hc;exact hc⟩
  .rename_i g;cases i:qcy H args with
   |none=>simp[i] at hc
   |some b=>
    simp only[i] at hc;cases c:call X f b [] with
    |none=>simp[c] at hc
    |some q=>
     obtain⟨n,a⟩:=call_some.1 c;exact⟨n,by rw[if_neg d,if_neg g];simp only[a];rw[c] at hc;exact hc⟩
theorem qlI{f:Nat}{args:List D}{H:qe}{r:D×qe}(hc:ZI X (call X) f args H=some r):∃n,ZI X (vH X n) f args H=some r:=by
 by_cases a:(X.pureF f&& !X.byRef f)=true
 .obtain⟨h,g,b⟩:=qgP a hc;rcases b with⟨b,e⟩|⟨b,l,k,i,d,j,e⟩
  .obtain⟨n,c⟩:=call_some.1 e;refine⟨n,?_⟩;unfold ZI;rw[if_pos a,if_pos b,c];simp only[g,if_true,<-h]
  .obtain⟨n,c⟩:=call_some.1 e;refine⟨n,?_⟩;unfold ZI;rw[if_pos a,if_neg b];subst h;simp only[l,k,Bool.and_self,if_true,j,c,g,i]
 .unfold ZI at hc;rw[if_neg a] at hc;obtain⟨n,c⟩:=q5I hc;exact⟨n,by unfold ZI;rw[if_neg a];exact c⟩
theorem q6b{f:Nat}{args:List D}{H:qe}{r:D×qe}(hc:Yb X (call X) f args H=some r):∃n,Yb X (vH X n) f args H=some r:=by
 unfold Yb at hc;split at hc
 .rename_i a;obtain⟨n,c⟩:=qlI hc;exact⟨n,by unfold Yb;rw[a];exact c⟩
 .rename_i a;split at hc
  .rename_i d b;obtain⟨n,c⟩:=qlI hc;exact⟨n,by unfold Yb;rw[a];simp only[b];exact c⟩
  .cases hc
theorem q5Y{f:Nat}{args:List D}{H:qe}{r:D×qe}(hc:VD X (call X) f args H=some r):∃n,VD X (vH X n) f args H=some r:=by
 unfold VD at hc;split at hc
 .rename_i a;obtain⟨n,b⟩:=q6b hc;exact⟨n,by unfold VD;rw[a];exact b⟩
 .rename_i a;split at hc
  .rename_i d l c;obtain⟨n,b⟩:=qlI hc;exact⟨n,by unfold VD;rw[a];simp only[c];exact b⟩
  .cases hc
theorem qul{o:Op}{e:qu}{H:qe}{r:D×qe}(a:zH X (call X) o e H=some r):∃n,zH X (vH X n) o e H=some r:=by
 cases o with
 |call c=>
  simp only[zH] at a⊢;cases hc:c.callee with
  |builtin b=>cases d:vR X e c.args.toList<;>simp only[hc,d] at a⊢<;>first|exact⟨0,a⟩|cases a
  |invoke r m=>cases d:vR X e c.args.toList<;>simp only[hc,d] at a<;>cases a
  |value g=>
   simp only[hc] at a⊢;cases d:vR X e c.args.toList with
   |none=>simp[d] at a
   |some args=>
    simp only[d] at a⊢;split at a
    .rename_i f h j;obtain⟨n,i⟩:=q5Y a;exact⟨n,i⟩
    .cases a
 |makeFunc g _ _=>cases g<;>exact⟨0,a⟩
 |slice _ _ _ _ m=>cases m<;>exact⟨0,a⟩
 |_=>exact⟨0,a⟩
theorem qup{b:Bool}{o:Op}{e:qu}{H:qe}{r:D×qe}(a:zf X (call X) b o e H=some r):∃n,zf X (vH X n) b o e H=some r:=by
 unfold zf at a⊢;split at a
 .exact⟨0,a⟩
 .exact⟨0,a⟩
 .split at a
  .cases a
  .rename_i c;obtain⟨n,d⟩:=qul a;exact⟨n,by simp only[c];exact d⟩
 .exact qul a
theorem qle{nt:Nat}{d:Bool}{c:Array Oper}:∀{l:List Oper}{e:qu}{H:qe}{r:qu×qe},vX X (call X) nt d c l e H=some r->∃n,vX X (vH X n) nt d c l e H=some r
 |[],_,_,_,a=>⟨0,a⟩
 |o::l,e,H,r,a=>by
  simp only[vX] at a;cases g:ko nt o.dst<;>simp only[g] at a
  .cases a
  .cases f:vP c e o.guard with
   |none=>simp[f] at a
   |some b=>
    cases b<;>simp only[f] at a
    .obtain⟨n,h⟩:=qle a;exact⟨n,by simp only[vX,g,f];exact h⟩
    .cases hx:zf X (call X) d o.op e H with
     |none=>simp[hx] at a
     |some q=>
      rw[hx] at a;obtain⟨n,h⟩:=qup hx;obtain⟨m,i⟩:=qle a;refine⟨max n m,?_⟩;simp only[vX,g,f];rw[qir (qg7 (Nat.le_max_left n m)) h];exact qg5 (qg7 (Nat.le_max_right n m)) i
theorem q4x{nt:Nat}{a:Bool}{b:Array Oper}{l:List Oper}{e:qu}{H:qe}{r:qu×qe}:vX X (call X) nt a b l e H=some r↔∃n,vX X (vH X n) nt a b l e H=some r:=
 ⟨qle,fun⟨n,c⟩=>qg5 (quq n) c⟩
theorem qlg{nt:Nat}{ow:List Nat}{c:Array Oper}{L:QX}:∀{l:List Oper}{k:Nat}{ws:List (Nat×qe×qe)}{rs:List (Nat×List Nat)}{e:qu}{H:qe}{r:qu×qe},Qp X (call X) nt ow c L k ws rs l e H=some r->∃n,Qp X (vH X n) nt ow c L k ws rs l e H=some r
 |[],_,_,_,_,_,_,a=>⟨0,by simpa[Qp] using a⟩
 |o::l,k,ws,rs,e,H,r,a=>by
  simp only[Qp] at a;cases f:ko nt o.dst<;>simp only[f] at a
  .cases a
  .cases d:vP c e o.guard with
   |none=>simp[d] at a
   |some b=>
    cases b<;>simp only[d] at a
    .obtain⟨n,g⟩:=qlg a;exact⟨n,by simp only[Qp,f,d];exact g⟩
    .cases hx:zf X (call X) (Ja ow o.dst) o.op e H with
     |none=>simp[hx] at a
     |some q=>
      rw[hx] at a;simp only at a;split at a
      .rename_i hc;obtain⟨n,g⟩:=qup hx;obtain⟨m,h⟩:=qlg a;refine⟨max n m,?_⟩;simp only[Qp,f,d];rw[qir (qg7 (Nat.le_max_left n m)) g];simp only;rw[if_pos hc];exact qg6 (qg7 (Nat.le_max_right n m)) h
      .cases a
theorem evR_lim{f nt id:Nat}{a:Bool}{b:Array Oper}{e:qu}{H:qe}{r:qu×qe}:J0 X (call X) f nt id a b e H=some r↔∃n,J0 X (vH X n) f nt id a b e H=some r:=by
 unfold J0;split
 .exact⟨qlg,fun⟨n,c⟩=>qg6 (quq n) c⟩
 .exact q4x
theorem qcZ{α:Type}{x y:Option α}(h:∀r,x=some r↔y=some r):x=y:=by
 cases x with
 |none=>
  cases y with
  |none=>rfl
  |some b=>exact absurd ((h b).2 rfl) wE
 |some a=>exact((h a).1 rfl).symm
section eqs
variable {f nt n0:Nat} {e:qu} {H:qe}
theorem quV:zl X f nt n0 .skip e H=some (.normal,e,H):=code_some.2 ⟨1,rfl⟩
theorem quX{l:Nat}:zl X f nt n0 (.label l) e H=some (.normal,e,H):=code_some.2 ⟨1,rfl⟩
theorem quY{i:Nat}:zl X f nt n0 (.exit i) e H=some (.exit i,e,H):=code_some.2 ⟨1,rfl⟩
theorem quW:zl X f nt n0 .ret e H=some (.ret,e,H):=code_some.2 ⟨1,rfl⟩
theorem qi4{id:Nat}{b:Array Oper}{a:Bool}:zl X f nt n0 (.region id b a) e H=match enter X f n0 id e H with
  |none=>none
  |some (e,H)=>(J0 X (call X) f nt id a b e H).map fun(e,H)=>(.normal,e,H):=by
 refine qcZ fun r=>?_;rw[code_some];cases g:enter X f n0 id e H with
 |none=>
  simp only[reduceCtorEq,iff_false,not_exists];intro n h;cases n<;>simp[zm,g] at h
 |some q=>
  obtain⟨j,i⟩:=q;constructor
  .rintro⟨n,d⟩;cases n with
   |zero=>simp[zm] at d
   |succ n=>
    simp only[zm,g] at d;cases c:J0 X (vH X n) f nt id a b j i with
    |none=>simp[c] at d
    |some q=>
     simp only[evR_lim.2 ⟨n,c⟩];rw[c] at d;exact d
  .intro h;simp only at h;cases c:J0 X (call X) f nt id a b j i with
   |none=>simp[c] at h
   |some q=>
    obtain⟨n,d⟩:=evR_lim.1 c;refine⟨n+1,?_⟩;simp only[zm,g,d];rw[c] at h;exact h
theorem ql1{a b:Code}:zl X f nt n0 (.seq a b) e H=match zl X f nt n0 a e H with
  |some (.normal,e,H)=>zl X f nt n0 b e H
  |r=>r:=by
 refine qcZ fun r=>?_;rw[code_some];constructor
 .rintro⟨n,c⟩;cases n with
  |zero=>simp[zm] at c
  |succ n=>
   simp only[zm] at c;cases d:zm X n f nt n0 a e H with
   |none=>simp[d] at c
   |some q=>
    obtain⟨g,k,j⟩:=q;rw[code_some.2 ⟨n,d⟩];rw[d] at c;cases g with
    |normal=>exact code_some.2 ⟨n,c⟩
    |exit i=>exact c
    |ret=>exact c
 .intro h;cases d:zl X f nt n0 a e H with
  |none=>simp[d] at h
  |some q=>
   obtain⟨n,c⟩:=code_some.1 d;obtain⟨g,k,j⟩:=q;rw[d] at h;cases g with
   |normal=>
    obtain⟨m,l⟩:=code_some.1 h;refine⟨max n m+1,?_⟩;simp only[zm,qg8 (Nat.le_max_left n m) c];exact qg8 (Nat.le_max_right n m) l
   |exit i=>exact⟨n+1,by simp only[zm,c];exact h⟩
   |ret=>exact⟨n+1,by simp only[zm,c];exact h⟩
theorem ql3{c:Operand}{a b:Code}:zl X f nt n0 (.cond c a b) e H=match qZ X e c with
  |some (.bool t)=>zl X f nt n0 (if t then a else b) e H
  |_=>none:=by
 refine qcZ fun r=>?_;rw[code_some];constructor
 .rintro⟨n,d⟩;cases n with
  |zero=>simp[zm] at d
  |succ n=>
   simp only[zm] at d;split at d
   .rename_i hc;rw[hc];exact code_some.2 ⟨n,d⟩
   .cases d
 .intro h;split at h
  .rename_i t hc;obtain⟨n,d⟩:=code_some.1 h;exact⟨n+1,by simp only[zm,hc];exact d⟩
  .cases h
theorem ql4{id:Nat}{c:Code}:zl X f nt n0 (.block id c) e H=match zl X f nt n0 c e H with
  |some (.exit i,e,H)=>if i=id then some (.normal,e,H) else some (.exit i,e,H)
  |r=>r:=by
 refine qcZ fun r=>?_;rw[code_some];constructor
 .rintro⟨n,b⟩;cases n with
  |zero=>simp[zm] at b
  |succ n=>
   simp only[zm] at b;cases a:zm X n f nt n0 c e H with
   |none=>simp[a] at b
   |some q=>rw[code_some.2 ⟨n,a⟩];rw[a] at b;exact b
 .intro h;cases a:zl X f nt n0 c e H with
  |none=>simp[a] at h
  |some q=>
   obtain⟨n,b⟩:=code_some.1 a;exact⟨n+1,by simp only[zm,b];rw[a] at h;exact h⟩
theorem ql2{c:Code}:zl X f nt n0 (.scope c) e H=zl X f nt n0 c e H:=by
 refine qcZ fun r=>?_;rw[code_some,code_some];constructor
 .rintro⟨n,a⟩;cases n with
  |zero=>simp[zm] at a
  |succ n=>exact⟨n,a⟩
 .rintro⟨n,a⟩;exact⟨n+1,a⟩
theorem qgH{c:Code}:zl X f nt n0 (.loop c) e H=match zl X f nt n0 c e H with
  |some (.normal,e,H)=>zl X f nt n0 (.loop c) e H
  |r=>r:=by
 refine qcZ fun r=>?_;rw[code_some];constructor
 .rintro⟨n,a⟩;cases n with
  |zero=>simp[zm] at a
  |succ n=>
   rw[zm] at a;cases b:zm X n f nt n0 c e H with
   |none=>simp[b] at a
   |some q=>
    obtain⟨d,j,g⟩:=q;rw[code_some.2 ⟨n,b⟩];rw[b] at a;cases d with
    |normal=>exact code_some.2 ⟨n,a⟩
    |exit i=>exact a
    |ret=>exact a
 .intro h;cases b:zl X f nt n0 c e H with
  |none=>simp[b] at h
  |some q=>
   obtain⟨n,a⟩:=code_some.1 b;obtain⟨d,j,g⟩:=q;rw[b] at h;cases d with
   |normal=>
    obtain⟨m,k⟩:=code_some.1 h;refine⟨max n m+1,?_⟩;rw[zm];simp only[qg8 (Nat.le_max_left n m) a];exact qg8 (Nat.le_max_right n m) k
   |exit i=>exact⟨n+1,by rw[zm];simp only[a];exact h⟩
   |ret=>exact⟨n+1,by rw[zm];simp only[a];exact h⟩
def qaH(o:Oper):Oper:={dst:=o.dst,op:=o.op,type:=0,pos:= "",after:= #[],guard:=o.guard}
def kI:List Oper->List Oper
 |[]=>[]
 |o::l=>qaH o::kI l
def jO:Code->Code
 | .region id e d=>.region id (kI e.toList).toArray d
 | .seq a b=>.seq (jO a) (jO b)
 | .cond x a b=>.cond x (jO a) (jO b)
 | .block id c=>.block id (jO c)
 | .loop c=>.loop (jO c)
 | .scope c=>.scope (jO c)
 |c=>c
theorem qm2:∀(l:List Oper)(j:Nat),((kI l)[j]?).bind (·.dst)=(l[j]?).bind (·.dst)
 |[],j=>by simp[kI]
 |o::l,0=>by simp[kI,qaH]
 |o::l,j+1=>by simp[kI,qm2 l j]
theorem qkL(a:Array Oper)(e:qu)(g:Option (Nat×Bool)):vP (kI a.toList).toArray e g=vP a e g:=by
 cases g with
 |none=>rfl
 |some q=>
  obtain⟨j,b⟩:=q;have h:=qm2 a.toList j;simp only[vP];have c:((kI a.toList).toArray[j]?)=(kI a.toList)[j]?:=wE
  have e2:a[j]?=a.toList[j]?:=wE
  rw[c,e2,h]
theorem quh{F:zF}{b:Bool}(a:Array Oper):∀(l:List Oper)(e:qu)(H:qe),vX X F nt b (kI a.toList).toArray (kI l) e H=vX X F nt b a l e H
 |[],e,H=>rfl
 |o::l,e,H=>by
  simp only[kI,vX,qaH,qkL,quh a l]
theorem qui{F:zF}{ow:List Nat}(a:Array Oper){L:QX}:∀(l:List Oper)(k:Nat)(ws:List (Nat×qe×qe))(rs:List (Nat×List Nat))(e:qu)(H:qe),Qp X F nt ow (kI a.toList).toArray L k ws rs (kI l) e H=Qp X F nt ow a L k ws rs l e H
 |[],k,ws,rs,e,H=>by simp only[kI,Qp]
 |o::l,k,ws,rs,e,H=>by
  simp only[kI,Qp,qaH,qkL,qui a l]
theorem qoc:∀(l:List Oper),qcY (kI l)=qcY l
 |[]=>rfl
 |o::l=>by simp only[kI,qcY,qaH,qoc l]
theorem q40:∀(n:Nat)(c:Code)(e:qu)(H:qe),zm X n f nt n0 (jO c) e H=zm X n f nt n0 c e H:=by
 intro n
 induction n with
 |zero=>intro c e H;simp[zm]
 |succ n d=>
  intro c e H;cases c with
  |region id h g=>
   simp only[jO,zm];cases enter X f n0 id e H with
   |none=>rfl
   |some q=>
    obtain⟨k,j⟩:=q;have:(kI h.toList).toArray.toList=kI h.toList:=wE;cases g<;>cases i:X.lp f id<;>simp only[J0,i,quh,qui,qoc,YV]
  |seq a b=>simp only[jO,zm,d]
  |cond x a b=>
   simp only[jO,zm];split
   .rename_i t _;cases t<;>simp only[d,if_true,if_false,kZ]
   .rfl
  |block id c=>simp only[jO,zm,d]
  |loop c=>
   have:=d (.loop c);simp only[jO] at this;simp only[jO,zm,d,this]
  |scope c=>simp only[jO,zm,d]
  |_=>rfl
theorem qi3{c:Code}:zl X f nt n0 (jO c) e H=zl X f nt n0 c e H:=by
 unfold zl;congr 1;funext n;exact q40 n c e H
theorem qe8{args:List D}{r:D×qe}(a:X.con f args H=some r):call X f args H=some r:=call_some.2 ⟨1,by simp only[vH,a]⟩
theorem qiB{fn:Func}{c:Code}{args:List D}(g:X.con f args H=none)(d:X.P.funcs[f]?=some fn)(i:fn.body=some c)(a:X.bad f=false):
  call X f args H=match zl X f fn.ntmps H.length c (kr 0 args) H with
   |some (.normal,e,H')|some (.ret,e,H')=>match QL X e H' fn.results.toList with
    |some ds=>qbN (X.gr f&&X.byRef f) (X.fzr f) H.length H' (Vy ds)
    |none=>none
   |_=>none:=by
 refine qcZ fun r=>?_;rw[call_some];constructor
 .rintro⟨n,b⟩;cases n with
  |zero=>simp[vH] at b
  |succ n=>
   simp only[vH,g,d,i,a,kZ,if_false] at b;cases hc:zm X n f fn.ntmps H.length c (kr 0 args) H with
   |none=>simp[hc] at b
   |some q=>rw[code_some.2 ⟨n,hc⟩];rw[hc] at b;exact b
 .intro h;cases hc:zl X f fn.ntmps H.length c (kr 0 args) H with
  |none=>simp[hc] at h
  |some q=>
   obtain⟨n,b⟩:=code_some.1 hc;refine⟨n+1,?_⟩;simp only[vH,g,d,i,a,kZ,if_false,b];rw[hc] at h;exact h
theorem qiA{fn:Func}{args:List D}(b:X.con f args H=none)(d:X.P.funcs[f]?=some fn)(c:fn.body=none):call X f args H=(X.ext f args).map (·,H):=by
 refine qcZ fun r=>?_;rw[call_some];constructor
 .rintro⟨n,a⟩;cases n with
  |zero=>simp[vH] at a
  |succ n=>
   simp only[vH,b,d,c] at a;exact a
 .intro h;exact⟨1,by simp only[vH,b,d,c];exact h⟩
end eqs
theorem qlF(d:Good X):VF X (call X):=by
 intro f args H r H' ok w ι vs h b c;obtain⟨n,a⟩:=call_some.1 h;exact(qmI d n).1 f args H r H' ok w ι vs a b c
end
end Go.Ev
namespace Go.Ev
def qc2(ks:List Nat):Nat->Nat->qu->qe->Option (qu×qe)
 |0,_,e,H=>some (Qf ks e,H)
 |k+1,n0,e,H=>if H.length<=n0+k then some (Qf ks e,H)
  else if qc1 (n0+k) (Qf ks e)&&(H.take (n0+k)).all (Xu (n0+k)) then some (Qf ks e,H.take (n0+k)) else none
def qfv(zs ks:List Nat)(k n0:Nat)(e:qu)(H:qe):Option (qu×qe):=
 match qfr zs e H with
 |some (e,H)=>qc2 ks k n0 e H
 |none=>none
def VA(zs S ks:List Nat)(n0:Nat)(e:qu)(H:qe):Option (qu×qe):=
 match zs with
 |[]=>qeW n0 S ks e H
 |zs=>match qfr zs e H with
  |some (e,H)=>qeW n0 S ks e H
  |none=>none
def qis(a:List Nat)(g:qe->Option (qu×qe))(e:qu)(H:qe):Option (qu×qe):=
 match qcR e a H with
 |some H=>g H
 |none=>none
def YJ:List Nat->Code->Code
 |[],c=>c
 |0::p,.seq a _=>YJ p a
 |_::p,.seq _ b=>YJ p b
 |0::p,.cond _ a _=>YJ p a
 |_::p,.cond _ _ b=>YJ p b
 |_::p,.block _ c=>YJ p c
 |_::p,.scope c=>YJ p c
 |_::p,.loop c=>YJ p c
 |_,c=>c
def Q6(f:Func):Code:=f.body.getD .skip
attribute [simp] quV quX quY quW ql3
attribute [simp] qaH kI jO ko zH zf Xs qZ vR YX qgg qel qek qi jP Qf qc2 qfv VA qis qcR ZO kr QL Vy qiG unD jQ qdL qi8 VD Yb qjs ZI qb0 Ya ldD stD mem qd qn JP cellsOf qip qio qg4 qaR qgb qhY qhX qaJ qdM qK qgl qdJ qb6 KB noZ noZ.noZL qiF qc8 qgn qeO YH VI qfR qcS qG qc4 eqD qgO ZH qfT qr KW YQ VE idFree idFree.idFreeL vFree vFree.vFreeL closed closed.closedL Xu qlM qc1 qeh pack1 pack1.packs Qb qbO VL j8 kg jT qdY qfr qaG Xx qeW qhu qjC YT qbL Yf qaO Yg renD renD.renL Yq qgi YL JE shift shift.shiftL freeze freeze.freezeL qcy q29 YJ Q6 strD
@[simp low] theorem qea (ds:List D) (off:Nat) (xs:List D):zU ds off xs=ds.take off++xs++ds.drop (off+xs.length):=rfl
section
variable {X:Cx} {f nt n0:Nat}
inductive Fr where
 |seq (b:Code)
 |block (id:Nat)
def Run(X:Cx)(f nt n0:Nat)(Q:Ex->qu->qe->Prop):List Fr->Option (Ex×qu×qe)->Prop
 |_,none=>False
 |[],some (a,e,H)=>Q a e H
 | .seq b::fs,some (.normal,e,H)=>Run X f nt n0 Q fs (zl X f nt n0 b e H)
 | .seq _::fs,some (a,e,H)=>Run X f nt n0 Q fs (some (a,e,H))
 | .block id::fs,some (.exit i,e,H)=>if i=id then Run X f nt n0 Q fs (some (.normal,e,H)) else Run X f nt n0 Q fs (some (.exit i,e,H))
 | .block _::fs,some (a,e,H)=>Run X f nt n0 Q fs (some (a,e,H))
variable {Q:Ex->qu->qe->Prop} {fs:List Fr} {e:qu} {H:qe} {a b c:Code}
theorem Qa:Run X f nt n0 Q fs none=False:=by unfold Run;rfl
theorem KK{a:Ex}:Run X f nt n0 Q [] (some (a,e,H))=Q a e H:=by unfold Run;rfl
theorem qeU:Run X f nt n0 Q (.seq b::fs) (some (.normal,e,H))=Run X f nt n0 Q fs (zl X f nt n0 b e H):=by rw[Run]
theorem qfV{i:Nat}:Run X f nt n0 Q (.seq b::fs) (some (.exit i,e,H))=Run X f nt n0 Q fs (some (.exit i,e,H)):=by rw[Run];intro h;cases h
theorem qfU:Run X f nt n0 Q (.seq b::fs) (some (.ret,e,H))=Run X f nt n0 Q fs (some (.ret,e,H)):=by rw[Run];intro h;cases h
theorem qna{id:Nat}:Run X f nt n0 Q (.block id::fs) (some (.normal,e,H))=Run X f nt n0 Q fs (some (.normal,e,H)):=by rw[Run];intro i h;cases h
theorem qmZ{id:Nat}:Run X f nt n0 Q (.block id::fs) (some (.ret,e,H))=Run X f nt n0 Q fs (some (.ret,e,H)):=by rw[Run];intro i h;cases h
theorem qnb{id i:Nat}:Run X f nt n0 Q (.block id::fs) (some (.exit i,e,H))=if i=id then Run X f nt n0 Q fs (some (.normal,e,H)) else Run X f nt n0 Q fs (some (.exit i,e,H)):=by rw[Run]
theorem qbH:Run X f nt n0 Q fs (zl X f nt n0 (.seq a b) e H)=Run X f nt n0 Q (.seq b::fs) (zl X f nt n0 a e H):=by
 rw[ql1];cases h:zl X f nt n0 a e H with
 |none=>simp[Qa]
 |some q=>
  obtain⟨c,g,d⟩:=q;cases c with
  |normal=>rw[qeU]
  |exit i=>rw[qfV]
  |ret=>rw[qfU]
theorem qxA{id:Nat}:Run X f nt n0 Q fs (zl X f nt n0 (.block id c) e H)=Run X f nt n0 Q (.block id::fs) (zl X f nt n0 c e H):=by
 rw[ql4];cases h:zl X f nt n0 c e H with
 |none=>simp[Qa]
 |some q=>
  obtain⟨a,d,b⟩:=q;cases a with
  |normal=>rw[qna]
  |exit i=>rw[qnb];by_cases hi:i=id<;>simp[hi]
  |ret=>rw[qmZ]
theorem qx5:Run X f nt n0 Q fs (zl X f nt n0 (.scope c) e H)=Run X f nt n0 Q fs (zl X f nt n0 c e H):=by rw[ql2]
theorem Run.mono{o:Option (Ex×qu×qe)}{R:Ex->qu->qe->Prop}(h:Run X f nt n0 R [] o)(b:∀a e H,R a e H->Run X f nt n0 Q fs (some (a,e,H))):Run X f nt n0 Q fs o:=by
 cases o with
 |none=>rw[Qa] at h;exact h.elim
 |some q=>
  obtain⟨a,d,c⟩:=q;rw[KK] at h;exact b _ _ _ h
theorem Run.loop{σ:Type}(I:σ->qu->qe->Prop)(m:σ->Nat)
  (step:∀s e H,I s e H->Run X f nt n0 (fun ex g H'=>match ex with| .normal=>∃b,m b<m s/\I b g H'|ex=>Q ex g H') [] (zl X f nt n0 c e H)):
  ∀s e H,I s e H->Run X f nt n0 Q [] (zl X f nt n0 (.loop c) e H):=by
 suffices h:∀k s e H,m s<k->I s e H->Run X f nt n0 Q [] (zl X f nt n0 (.loop c) e H) from
  fun s e H hi=>h (m s+1) s e H (Nat.lt_succ_self _) hi
 intro k
 induction k with
 |zero=>intro s e H h;omega
 |succ k j=>
  intro s e H r hi;have a:=step s e H hi;rw[qgH];cases d:zl X f nt n0 c e H with
  |none=>rw[d,Qa] at a;exact a.elim
  |some q=>
   obtain⟨ex,o,n⟩:=q;rw[d,KK] at a;cases ex with
   |normal=>
    obtain⟨b,p,l⟩:=a;exact j b o n wC l
   |exit i=>exact a
   |ret=>exact a
def Fin(X:Cx)(z:Bool)(rs:List ResultVar)(n0:Nat)(r:D×qe):Ex->qu->qe->Prop
 | .exit _,_,_=>False
 |_,e,H=>(QL X e H rs).bind (fun ds=>Qb z n0 H (Vy ds))=some r
theorem qkY{z:Bool}{rs:List ResultVar}{r:D×qe}:Fin X z rs n0 r .ret e H=((QL X e H rs).bind (fun ds=>Qb z n0 H (Vy ds))=some r):=rfl
theorem qkZ{z:Bool}{rs:List ResultVar}{r:D×qe}:Fin X z rs n0 r .normal e H=((QL X e H rs).bind (fun ds=>Qb z n0 H (Vy ds))=some r):=rfl
theorem qC{fn:Func}{args:List D}{r:D×qe}(l:X.P.funcs[f]?=some fn)(k:fn.body.isSome=true)(a:X.bad f=false/\X.con f args H=none)
  (h:Run X f fn.ntmps H.length (Fin X (X.fzr f) fn.results.toList H.length r) [] (zl X f fn.ntmps H.length (jO (Q6 fn)) (kr 0 args) H)) (n:(X.gr f&&X.byRef f)=false:=by rfl):call X f args H=some r:=by
 rw[qi3] at h;cases d:fn.body with
 |none=>rw[d] at k;cases k
 |some c=>
  have hc:Q6 fn=c:=by simp only[Q6,d,Va]
  rw[hc] at h;rw[qiB a.2 l d a.1,n];cases e:zl X f fn.ntmps H.length c (kr 0 args) H with
  |none=>rw[e,Qa] at h;exact h.elim
  |some q=>
   obtain⟨m,j,g⟩:=q;rw[e,KK] at h;cases m with
   |exit i=>exact h.elim
   |normal=>
    rw[qkZ] at h;cases b:QL X j g fn.results.toList with
    |none=>rw[b] at h;cases h
    |some ds=>rw[b] at h;simpa[b,qbN] using h
   |ret=>
    rw[qkY] at h;cases b:QL X j g fn.results.toList with
    |none=>rw[b] at h;cases h
    |some ds=>rw[b] at h;simpa[b,qbN] using h
end
attribute [simp] Qa KK qeU qfV qfU qna qmZ qnb qbH qxA qx5 qkY qkZ
end Go.Ev
namespace Go.Ev
mutual
theorem qzt(n0:Nat)(H:qe)(seen:List Nat)(acc:qe):∀(d:D),idFree d=true->pack1 n0 H seen acc d=some (d,seen,acc)
 | .agg cs,h=>by simp only[idFree] at h;simp only[pack1,qh3 n0 H seen acc cs h,j6]
 | .tup cs,h=>by simp only[idFree] at h;simp only[pack1,qh3 n0 H seen acc cs h,j6]
 | .fn f cs,h=>by simp only[pack1,h,if_true]
 | .iface t d,h=>by simp only[pack1,h,if_true]
 | .optr ..,h=>by simp[idFree] at h
 | .osl ..,h=>by simp[idFree] at h
 | .bool _,_=>rfl
 | .int _ _,_=>rfl
 | .str _,_=>rfl
 | .nilp,_=>rfl
 | .nilf,_=>rfl
 | .nili,_=>rfl
 | .raw _,_=>rfl
 | .vptr _,_=>rfl
 | .vsl ..,_=>rfl
theorem qh3(n0:Nat)(H:qe)(seen:List Nat)(acc:qe):∀(cs:List D),idFree.idFreeL cs=true->pack1.packs n0 H seen acc cs=some (cs,seen,acc)
 |[],_=>rfl
 |d::l,h=>by
  simp only[idFree.idFreeL,zX] at h;simp only[pack1.packs,qzt n0 H seen acc d h.1,qh3 n0 H seen acc l h.2]
end
mutual
theorem qmT(n:Nat):∀(d:D),idFree d=true->shift n d=d
 | .agg cs,h=>by simp only[idFree] at h;simp only[shift,qaK n cs h]
 | .tup cs,h=>by simp only[idFree] at h;simp only[shift,qaK n cs h]
 | .fn f cs,h=>by simp only[idFree] at h;simp only[shift,qaK n cs h]
 | .iface t d,h=>by simp only[idFree] at h;simp only[shift,qmT n d h]
 | .optr ..,h=>by simp[idFree] at h
 | .osl ..,h=>by simp[idFree] at h
 | .bool _,_=>rfl
 | .int _ _,_=>rfl
 | .str _,_=>rfl
 | .nilp,_=>rfl
 | .nilf,_=>rfl
 | .nili,_=>rfl
 | .raw _,_=>rfl
 | .vptr _,_=>rfl
 | .vsl ..,_=>rfl
theorem qaK(n:Nat):∀(cs:List D),idFree.idFreeL cs=true->shift.shiftL n cs=cs
 |[],_=>rfl
 |d::l,h=>by
  simp only[idFree.idFreeL,zX] at h;simp only[shift.shiftL,qmT n d h.1,qaK n l h.2]
end
mutual
theorem qi7(n:Nat):∀(d:D),idFree d=true->closed n d=true
 | .agg cs,h=>by simp only[idFree] at h;simp only[closed,qa4 n cs h]
 | .tup cs,h=>by simp only[idFree] at h;simp only[closed,qa4 n cs h]
 | .fn f cs,h=>by simp only[idFree] at h;simp only[closed,qa4 n cs h]
 | .iface t d,h=>by simp only[idFree] at h;simp only[closed,qi7 n d h]
 | .optr ..,h=>by simp[idFree] at h
 | .osl ..,h=>by simp[idFree] at h
 | .bool _,_=>rfl
 | .int _ _,_=>rfl
 | .str _,_=>rfl
 | .nilp,_=>rfl
 | .nilf,_=>rfl
 | .nili,_=>rfl
 | .raw _,_=>rfl
 | .vptr _,_=>rfl
 | .vsl ..,_=>rfl
theorem qa4(n:Nat):∀(cs:List D),idFree.idFreeL cs=true->closed.closedL n cs=true
 |[],_=>rfl
 |d::l,h=>by
  simp only[idFree.idFreeL,zX] at h;simp only[closed.closedL,qi7 n d h.1,qa4 n l h.2,Bool.and_self]
end
theorem qik(H:qe):∀(cs:List D),idFree.idFreeL cs=true->freeze.freezeL H cs=some cs
 |[],_=>rfl
 |d::l,h=>by
  simp only[idFree.idFreeL,zX] at h
  have b:freeze H d=some d:=by
   cases d with
   |agg cs=>have a:=h.1;simp only[idFree] at a;simp only[freeze,qik H cs a,j6]
   |fn f cs=>have a:=h.1;simp only[idFree] at a;simp only[freeze,qik H cs a,j6]
   |osl _ _ _ _ _=>simp[idFree] at h
   |optr _ _ _=>simp[idFree] at h
   |_=>simp only[freeze,h.1,if_true]
  simp only[freeze.freezeL,b,qik H l h.2]
theorem Qv:∀(cs:List D),idFree.idFreeL cs=cs.all idFree
 |[]=>rfl
 |d::l=>by simp only[idFree.idFreeL,Vc,Qv l]
theorem ql8(n:Nat):∀(cs:List D),closed.closedL n cs=cs.all (closed n)
 |[]=>rfl
 |d::l=>by simp only[closed.closedL,Vc,ql8 n l]
theorem qtb:∀(a b:List D),idFree.idFreeL (a++b)=(idFree.idFreeL a&&idFree.idFreeL b)
 |[],b=>by simp[idFree.idFreeL]
 |x::a,b=>by simp[idFree.idFreeL,qtb a b,Bool.and_assoc]
theorem qvj(n:Nat):∀(a b:List D),closed.closedL n (a++b)=(closed.closedL n a&&closed.closedL n b)
 |[],b=>by simp[closed.closedL]
 |x::a,b=>by simp[closed.closedL,qvj n a b,Bool.and_assoc]
theorem qmj:∀(a b:List D),vFree.vFreeL (a++b)=(vFree.vFreeL a&&vFree.vFreeL b)
 |[],b=>by simp[vFree.vFreeL]
 |x::a,b=>by simp[vFree.vFreeL,qmj a b,Bool.and_assoc]
@[simp] theorem qaT (s:List UInt8):(qf s).length=s.length:=wW
@[simp] theorem q2V (s:List UInt8):idFree.idFreeL (qf s)=true:=by
 induction s with
 |nil=>rfl
 |cons a s b=>simpa[qf,idFree.idFreeL,idFree] using b
@[simp] theorem q6W (s:List UInt8):vFree.vFreeL (qf s)=true:=by
 induction s with
 |nil=>rfl
 |cons a s b=>simpa[qf,vFree.vFreeL,vFree] using b
@[simp] theorem qAk (n:Nat) (s:List UInt8):closed.closedL n (qf s)=true:=qa4 n _ (q2V s)
@[simp] theorem q69 (s:List UInt8):(qf s).all idFree=true:=by simp[qf,idFree]
@[simp] theorem q6B (n:Nat) (s:List UInt8):(qf s).all (closed n)=true:=by simp[qf,closed]
@[simp] theorem q67 (s:List UInt8):(qf s).all vFree=true:=by simp[qf,vFree]
@[simp] theorem q6Y {s:List UInt8} {n:Nat} (h:s.length<=n):(qf s).take n=qf s:=qJ wQ
@[simp] theorem qAq (s:List UInt8):(∀x,x∈qf s->idFree x=true)=True:=eq_true (List.all_eq_true.1 (q69 s))
@[simp] theorem qAr (s:List UInt8) (n:Nat):(∀x,x∈qf s->closed n x=true)=True:=eq_true (List.all_eq_true.1 (q6B n s))
@[simp] theorem qAp (s:List UInt8):(∀x,x∈qf s->vFree x=true)=True:=eq_true (List.all_eq_true.1 (q67 s))
attribute [simp] qh3 qaK qa4 qik qtb qvj qmj
theorem wrap_i64{n:Int}(h:-9223372036854775808<=n/\n<9223372036854775808):IntKind.i64.wrap n=n:=by
 simp only[IntKind.wrap,IntKind.signed,IntKind.bits];simp;omega
theorem qaF{n:Int}(h:0<=n/\n<18446744073709551616):IntKind.u64.wrap n=n:=by
 simp only[IntKind.wrap,IntKind.signed,IntKind.bits];simp;omega
theorem qeJ{n:Int}(h:0<=n/\n<256):IntKind.u8.wrap n=n:=by
 simp only[IntKind.wrap,IntKind.signed,IntKind.bits];simp;omega
theorem qjb{n:Int}(h:0<=n/\n<4294967296):IntKind.u32.wrap n=n:=by
 simp only[IntKind.wrap,IntKind.signed,IntKind.bits];simp;omega
theorem qwc{n:Int}(h:0<=n/\n<65536):IntKind.u16.wrap n=n:=by
 simp only[IntKind.wrap,IntKind.signed,IntKind.bits];simp;omega
theorem qwd{n:Int}(h:-2147483648<=n/\n<2147483648):IntKind.i32.wrap n=n:=by
 simp only[IntKind.wrap,IntKind.signed,IntKind.bits];simp;omega
theorem qiE{n x:Nat}(h:x<2^n):(BitVec.ofInt n (x:Int)).toNat=x:=by
 rw[qiV,qiU,qeE h]
theorem qmb{k:IntKind}(a:k.signed=false){x:Nat}(h:x<2^k.bits):k.wrap (x:Int)=(x:Int):=by
 have:((x:Int) % (2^k.bits:Int))=x:=Int.emod_eq_of_lt wC (by exact_mod_cast h);simp only[IntKind.wrap,a];simpa using this
theorem qjU{k:IntKind}(b:k.signed=false){x y:Nat}(hx:x<2^k.bits)(a:y<2^k.bits):Vx k x y=((x|||y:Nat):Int):=by
 unfold Vx;rw[BitVec.toNat_or,qiE hx,qiE a,qmb b (Nat.or_lt_two_pow hx a)]
theorem q60{k:IntKind}(b:k.signed=false){x y:Nat}(hx:x<2^k.bits)(a:y<2^k.bits):YK k x y=((x&&&y:Nat):Int):=by
 unfold YK;rw[BitVec.toNat_and,qiE hx,qiE a,qmb b (Nat.and_lt_two_pow _ a)]
attribute [simp] wrap_i64 qaF qeJ qjb qwc qwd
end Go.Ev
