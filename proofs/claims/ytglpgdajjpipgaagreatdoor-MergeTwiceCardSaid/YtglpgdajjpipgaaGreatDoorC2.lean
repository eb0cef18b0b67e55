import Derived.Test.YtglpgdajjpipgaaGreatDoorC1
import Derived.Scope
import Derived.LoopN
import Derived.Shelf.Abstract
import Derived.Orders
namespace Go.Ev
section
variable {X:Cx} {ok ok':Nat->Prop} {w w':World} {ι:qU} {H H':qe}
theorem qhS{d:D}{v:Value}(h:Rep ok w ι H d v)(a:v.oneCell'=true):jt d=true:=by
 cases h<;>first|rfl|exact a|simp[Value.oneCell'] at a
theorem QF:∀(l:List Nat)(H:qe),(jS H l).length=H.length
 |[],H=>rfl
 |i::l,H=>by rw[jS,QF l,vH]
theorem qfs:∀(l:List Nat)(H:qe){j:Nat}{ds:List D},qd (jS H l) j=some ds->qd H j=some ds/\j∉l
 |[],H,j,ds,h=>⟨h,wE⟩
 |i::l,H,j,ds,h=>by
  obtain⟨a,c⟩:=qfs l _ h;unfold qd at a;by_cases b:i=j
  .subst b;rw[List.getElem?_set] at a;simp only[if_true] at a;split at a<;>simp at a
  .rw[List.getElem?_set_ne b] at a;exact⟨a,by simp only[jC,not_or];exact⟨fun h=>b h.symm,c⟩⟩
def Ye(ok:Nat->Prop)(ι:qU)(H:qe)(l:List Nat)(b:Nat):Prop:=ok b\/∃i ds s,i∈l/\qd H i=some ds/\ι i=some (b,s)
theorem qcJ{okF:Nat->Prop}{cond:Nat->Prop}{g:D->Option (D×List Nat)}
  (c:∀d d' l v,Rep ok w ι H d v->g d=some (d',l)->(∀i,i∈l->cond i)->Rep okF w jA [] d' v):
  ∀(ds:List D){ds':List D}{l:List Nat}{vs:Nat->Value},(∀(j:Nat) d,ds[j]?=some d->Rep ok w ι H d (vs j))->kc g ds=some (ds',l)->(∀i,i∈l->cond i)->
   ds.length=ds'.length/\∀(j:Nat) d,ds'[j]?=some d->Rep okF w jA [] d (vs j)
 |[],ds',l,vs,_,h,_=>by
  simp only[kc,qy,zi] at h;obtain⟨rfl,rfl⟩:=h;simp
 |d::ds,ds',l,vs,e,h,f=>by
  simp only[kc] at h;split at h
  .rename_i q a p b o n;simp only[qy,zi] at h;obtain⟨rfl,rfl⟩:=h;obtain⟨m,k⟩:=qcJ c ds (vs:=fun j=>vs (j+1)) (fun j x hx=>e (j+1) x wY) n (fun i hi=>f i (List.mem_append_right _ hi));refine⟨by simp[m],fun j x hx=>?_⟩;cases j with
   |zero=>
    simp only[Qb,qy] at hx;subst hx;exact c d _ _ _ (e 0 d rfl) o fun i hi=>f i (Xr _ hi)
   |succ j=>exact k j x wY
  .cases h
theorem qeT(W:Sim X ok w ι H){okF:Nat->Prop}(M:∀b,ok b->okF b):∀(n:Nat)(d d':D)(l:List Nat)(v:Value),Rep ok w ι H d v->j9 H n d=some (d',l)->
  (∀i,i∈l->∀ds b s,qd H i=some ds->ι i=some (b,s)->okF b)->Rep okF w jA [] d' v
 |0,d,d',l,v,_,h,_=>by simp[j9] at h
 |n+1,d,d',l,v,L,h,B=>by
  have E:=qeT W M n;have g:idFree d=true->d'=d->Rep okF w jA [] d' v:=fun hf he=>by subst he;exact(L.free hf _ _).okMono M
  simp only[j9] at h;split at h
  .rename_i K;simp only[qy,zi] at h;exact g K h.1.symm
  rename_i y;clear y;cases L with
  |bool b=>simp only[qy,zi] at h;exact g rfl h.1.symm
  |int k n=>simp only[qy,zi] at h;exact g rfl h.1.symm
  |str s=>simp only[qy,zi] at h;exact g rfl h.1.symm
  |nilp=>simp only[qy,zi] at h;exact g rfl h.1.symm
  |nilf=>simp only[qy,zi] at h;exact g rfl h.1.symm
  |nili=>simp only[qy,zi] at h;exact g rfl h.1.symm
  |raw v=>simp only[qy,zi] at h;exact g rfl h.1.symm
  |vnil=>simp only[qy,zi] at h;exact g rfl h.1.symm
  |vptr a f ha hc L x=>simp only[qy,zi] at h;exact g rfl h.1.symm
  |vsl a f ha hc L x Z=>simp only[qy,zi] at h;exact g rfl h.1.symm
  | @agg _ _ cs vs p hc x=>
   simp only at h;cases m:kc (j9 H n) cs with
   |none=>simp[m] at h
   |some q=>
    obtain⟨I,G⟩:=q;simp only[m,jn,qy,zi] at h;obtain⟨rfl,rfl⟩:=h;obtain⟨r,A⟩:=qcJ (cond:=fun i=>∀ds b s,qd H i=some ds->ι i=some (b,s)->okF b) E cs x m B;refine .agg (by rw[p,r]) (fun d z=>?_) A;obtain⟨j,o⟩:=List.mem_iff_getElem?.1 z;have T:j<cs.length:=(by rw[r];exact(List.getElem?_eq_some_iff.1 o).1);have Y:cs[j]?=some cs[j]:=qM T;exact qhS (A j d o) ((x j _ Y).oneCell (hc _ (mem_of_get? Y)))
  | @tup _ _ cs vs p x=>
   simp only at h;cases m:kc (j9 H n) cs with
   |none=>simp[m] at h
   |some q=>
    obtain⟨I,G⟩:=q;simp only[m,jn,qy,zi] at h;obtain⟨rfl,rfl⟩:=h;obtain⟨r,A⟩:=qcJ (cond:=fun i=>∀ds b s,qd H i=some ds->ι i=some (b,s)->okF b) E cs x m B;exact .tup (by rw[p,r]) A
  | @fn _ _ f cs vs p x=>
   simp only at h;cases m:kc (j9 H n) cs with
   |none=>simp[m] at h
   |some q=>
    obtain⟨I,G⟩:=q;simp only[m,jn,qy,zi] at h;obtain⟨rfl,rfl⟩:=h;obtain⟨r,A⟩:=qcJ (cond:=fun i=>∀ds b s,qd H i=some ds->ι i=some (b,s)->okF b) E cs x m B;exact .fn (by rw[p,r]) A
  |iface x=>
   simp only at h;rename_i t d v;cases m:j9 H n d with
   |none=>simp[m] at h
   |some q=>
    obtain⟨d1,G⟩:=q;simp only[m,jn,qy,zi] at h;obtain⟨rfl,rfl⟩:=h;exact .iface (E d _ _ _ x m B)
  | @optr _ _ i st off a hi x=>
   simp only at h;split at h
   .rename_i ds z;split at h
    .rename_i m;obtain⟨b,s,J,rfl⟩:=(x ds z).2 m;obtain⟨b',arr,e,fr,r,A,S,k4,k5,V,k7,F⟩:=W.blk i ds z;have U:=J;rw[J] at r;injection r with r;injection r with r _;subst r
     have main:∀ds':List D,ds.length=ds'.length->(∀(j:Nat) d,ds'[j]?=some d->Rep okF w jA [] d (arr.getD j undef))->i∈l->Rep okF w jA [] (.vptr (ds'.drop off)) (.pointer (some ⟨b,off,none⟩)):=by
      intro ds' p u Q;refine .vptr _ (fun j=>arr.getD (off+j) undef) (fun _ _=>B i Q ds b s z U) (fun d N=>?_) (fun j d o=>?_) (fun j d o=>?_)
      .obtain⟨j,o⟩:=List.mem_iff_getElem?.1 (Zz N);have T:j<ds.length:=(by rw[p];exact(List.getElem?_eq_some_iff.1 o).1);exact qhS (u j d o) (V j wC)
      .rw[Qa] at o;have P:off+j<arr.size:=(by have:=(List.getElem?_eq_some_iff.1 o).1;omega);rw[Vl,Y6 S];simp[P]
      .rw[Qa] at o;exact u _ d o
     split at h
     .rename_i K;simp only[qy,zi] at h;obtain⟨rfl,rfl⟩:=h;exact main ds rfl (fun j d o=>((F j d o).free ((qdd _).1 K d (mem_of_get? o)) _ _).okMono M) wE
     .split at h
      .rename_i ds' G O;simp only[qy,zi] at h;obtain⟨rfl,rfl⟩:=h;obtain⟨R,e2⟩:=qcJ (cond:=fun i=>∀ds b s,qd H i=some ds->ι i=some (b,s)->okF b) E ds (vs:=fun j=>arr.getD j undef) F O (fun i hi=>B i (vy _ hi));exact main ds' R e2 wE
      .cases h
    .cases h
   .cases h
  | @osl _ _ i st off C k c a hi x Z=>
   simp only at h;split at h
   .rename_i ds z;split at h
    .rename_i m;obtain⟨b,s,J,rfl,q3⟩:=(x ds z).2 m.1;obtain⟨b',arr,e,fr,r,A,S,k4,k5,V,k7,F⟩:=W.blk i ds z;have U:=J;rw[J] at r;injection r with r;injection r with r _;subst r
     have main:∀ds':List D,ds.length=ds'.length->(∀(j:Nat) d,ds'[j]?=some d->Rep okF w jA [] d (arr.getD j undef))->i∈l->Rep okF w jA [] (.vsl false ((ds'.drop off).take (C*k)) C) (.slice (some ⟨b,off,none⟩) C c):=by
      intro ds' p u Q;refine .vsl _ (fun j=>arr.getD (off+j) undef) (fun _ _=>B i Q ds b s z U) (fun d N=>?_) (fun j d o=>?_) (fun j d o=>?_) Z
      .obtain⟨j,o⟩:=List.mem_iff_getElem?.1 (Zz (QX N));have T:j<ds.length:=(by rw[p];exact(List.getElem?_eq_some_iff.1 o).1);exact qhS (u j d o) (V j wC)
      .rw[Xs] at o;split at o
       .rw[Qa] at o;have P:off+j<arr.size:=(by have:=(List.getElem?_eq_some_iff.1 o).1;omega);rw[Vl,Y6 S];simp[P]
       .cases o
      .rw[Xs] at o;split at o
       .rw[Qa] at o;exact u _ d o
       .cases o
     split at h
     .rename_i K;simp only[qy,zi] at h;obtain⟨rfl,rfl⟩:=h;exact main ds rfl (fun j d o=>((F j d o).free ((qdd _).1 K d (mem_of_get? o)) _ _).okMono M) wE
     .split at h
      .rename_i ds' G O;simp only[qy,zi] at h;obtain⟨rfl,rfl⟩:=h;obtain⟨R,e2⟩:=qcJ (cond:=fun i=>∀ds b s,qd H i=some ds->ι i=some (b,s)->okF b) E ds (vs:=fun j=>arr.getD j undef) F O (fun i hi=>B i (vy _ hi));exact main ds' R e2 wE
      .cases h
    .cases h
   .cases h
theorem qeC(l:List Nat):Evol H.length ok w ι H (Ye ok ι H l) w ι (jS H l):=
 ⟨rfl,rfl,rfl,qA _,fun _ _ _=>rfl,fun _ h=>.inl h,fun b h _=>h.imp id fun⟨i,ds,s,_,a,hi⟩=>⟨i,ds,s,a,hi⟩,⟨qA _,by rw[QF];exact qA _⟩,
  fun i _ ds a=>⟨ds,(qfs l H a).1,qA _,fun _=>rfl⟩,fun i ds b s a hi _=>⟨i,ds,s,(qfs l H a).1,hi⟩⟩
theorem qgM(a:Sim X ok w ι H)(l:List Nat):Sim X (Ye ok ι H l) w ι (jS H l) where
 okS b c:=by
  rcases c with c|⟨i,ds,s,_,f,hi⟩
  .exact a.okS b c
  .exact a.lt f hi
 glob g cs hg:=(a.glob g cs hg).okMono fun b c=>.inl c
 inj i j ds es b s s' f he hi h:=a.inj i j ds es b s s' (qfs l H f).1 (qfs l H he).1 hi h
 blk i ds f:=by
  obtain⟨m,u⟩:=qfs l H f;obtain⟨b,arr,e,fr,k,q,A,t,x,z,v,n⟩:=a.blk i ds m;refine⟨b,arr,e,fr,k,?_,A,t,x,z,v,fun j d h=>(n j d h).evol a (qeC l) (n j d h).closed⟩;rintro(c|⟨o,ds',s,p,r,y⟩)
  .exact q c
  .have:=a.inj o i ds' ds b s arr.size r m y k;subst this;exact u p
theorem qhJ:∀(a e:qu)(t:Nat),qi (a++e) t=(qi a t).or (qi e t)
 |[],e,t=>by simp[qi]
 |(s,d)::a,e,t=>by
  simp only[Qc,qi];by_cases h:s=t
  .simp[h]
  .simp only[h,if_false];exact qhJ a e t
theorem qjs(o:Sim X ok w ι H){e:qu}{tmps:Array Value}(m:EnvRep ok w ι H e tmps){okF:Nat->Prop}(k:∀b,ok b->okF b):∀(f:List Nat){g:qu}{l:List Nat},qed H e f=some (g,l)->
  (∀i,i∈l->∀ds b s,qd H i=some ds->ι i=some (b,s)->okF b)->EnvRep okF w jA [] g tmps
 |[],g,l,h,_=>by
  simp only[qed,qy,zi] at h;obtain⟨rfl,rfl⟩:=h;intro t d c;simp[qi] at c
 |s::f,g,l,h,n=>by
  simp only[qed] at h;split at h
  .exact qjs o m k f h n
  .rename_i d v;split at h
   .rename_i A a z b r p;simp only[qy,zi] at h;obtain⟨rfl,rfl⟩:=h;have y:=qjs o m k f p fun i hi=>n i (List.mem_append_right _ hi);intro t x c;simp only[qi] at c;split at c
    .rename_i j;subst j;injection c with c;subst c;obtain⟨u,q⟩:=m _ _ v;exact⟨u,qeT o k _ _ _ _ _ q r fun i hi=>n i (Xr _ hi)⟩
    .exact y t x c
   .cases h
theorem q4p{o:List Nat}{e n:qu}{tmps:Array Value}(h:qfw o e H=some (n,H'))(g:Sim X ok w ι H)(m:EnvRep ok w ι H e tmps):
  ∃ok',Sim X ok' w ι H'/\EnvRep ok' w ι H' n tmps/\Evol H.length ok w ι H ok' w ι H':=by
 unfold qfw at h;split at h
 .rename_i q l f;simp only[qy,zi] at h;obtain⟨rfl,rfl⟩:=h;refine⟨Ye ok ι H l,qgM g l,fun t d a=>?_,qeC l⟩;rw[qhJ] at a;cases hx:qi q t with
  |some x=>
   rw[hx] at a;simp only[Option.some_or,qy] at a;subst a;obtain⟨j,c⟩:=qjs g m (okF:=Ye ok ι H l) (fun b k=>.inl k) o f (fun i hi ds b s p k=>.inr ⟨i,ds,s,hi,p,k⟩) t x hx;exact⟨j,c.lift⟩
  |none=>
   rw[hx,Option.none_or] at a;obtain⟨j,c⟩:=m t d a;exact⟨j,c.evol g (qeC l) c.closed⟩
 .cases h
theorem qmo{e:qu}:∀{S:List Nat}{ds:List D},qa6 e S=some ds->S.length=ds.length/\∀(j:Nat) s d,S[j]?=some s->ds[j]?=some d->qi e s=some d
 |[],ds,h=>by
  simp only[qa6,qy] at h;subst h;simp
 |s::l,ds,h=>by
  simp only[qa6] at h;split at h
  .rename_i d ds' k i;injection h with h;subst h;obtain⟨g,f⟩:=qmo i;refine⟨by simp[g],fun j c d' a b=>?_⟩;cases j with
   |zero=>
    simp only[Qb,qy] at a b;subst a;subst b;exact k
   |succ j=>exact f j c d' wZ wv
  .cases h
theorem qpa:∀{S:List Nat}{ds:List D}{t:Nat}{d:D},qi (Xt S ds) t=some d->∃j:Nat,S[j]?=some t/\ds[j]?=some d
 |[],_,t,d,h=>by simp[Xt,qi] at h
 |_::_,[],t,d,h=>by simp[Xt,qi] at h
 |s::S,x::ds,t,d,h=>by
  simp only[Xt,qi] at h;split at h
  .rename_i a;subst a;injection h with h;subst h;exact⟨0,rfl,rfl⟩
  .obtain⟨j,c,b⟩:=qpa h;exact⟨j+1,wo,wv⟩
theorem qhH:∀{ks:List Nat}{e:qu}{t:Nat}{d:D},qi (Qg ks e) t=some d->qi e t=some d
 |[],e,t,d,h=>by simp[Qg,qi] at h
 |k::ks,e,t,d,h=>by
  simp only[Qg] at h;split at h
  .rename_i x a;simp only[qi] at h;split at h
   .rename_i b;subst b;rw[a];exact h
   .exact qhH h
  .exact qhH h
theorem qpc{n:Nat}:∀{e:qu}{t:Nat}{d:D},qcu n e=true->qi e t=some d->closed n d=true
 |[],t,d,_,h=>by simp[qi] at h
 |(s,x)::e,t,d,hc,h=>by
  simp only[qcu,zY] at hc;simp only[qi] at h;split at h
  .injection h with h;subst h;exact hc.1
  .exact qpc hc.2 h
theorem qyE{n0:Nat}{S ks:List Nat}{e n:qu}{tmps:Array Value}(h:qhu n0 S ks e H=some (n,H'))(B:n0<=H.length)(p:Sim X ok w ι H)(g:EnvRep ok w ι H e tmps):
  ∃ι',Sim X ok w ι' H'/\EnvRep ok w ι' H' n tmps/\Evol n0 ok w ι H ok w ι' H':=by
 unfold qhu at h;split at h
 .cases h
 .rename_i ds A;split at h
  .rename_i ds' G v;split at h
   .rename_i hc;simp only[qy,zi] at h;obtain⟨rfl,rfl⟩:=h;obtain⟨k,m⟩:=qmo A
    have c:Rep ok w ι H (.tup ds) (.tuple (S.map fun s=>tmps.getD s undef).toArray):=by
     refine .tup (by simp[k]) fun j d l=>?_;have f:j<S.length:=(by rw[k];exact(List.getElem?_eq_some_iff.1 l).1);have q:S[j]?=some S[j]:=qM f;have:=(g _ _ (m j _ d q l)).2;simpa[j8,f] using this
    obtain⟨ι2,r,y,o,E⟩:=qnZ B p c v;refine⟨ι2,r,fun t d a=>?_,o⟩;rw[qhJ] at a;cases hx:qi (Xt S ds') t with
    |some x=>
     rw[hx] at a;simp only[Option.some_or,qy] at a;subst a;obtain⟨j,b,i⟩:=qpa hx;have f:j<S.length:=(List.getElem?_eq_some_iff.1 b).1;have C:j<ds.length:=wC;refine⟨(g _ _ (m j t _ b (qM C))).1,?_⟩;cases y with
     |tup F z=>
      have:=z j x i;have u:S[j]=t:=(by rw[qM f] at b;exact Option.some.inj b);simpa[j8,f,u] using this
    |none=>
     rw[hx,Option.none_or] at a;obtain⟨b,i⟩:=g t d (qhH a);exact⟨b,i.evol p o (qpc hc a)⟩
   .cases h
  .cases h
theorem qkJ:∀{p:List Nat}{i k j:Nat},JF p i k=some j->k<=j/\p[j-k]?=some i
 |[],i,k,j,h=>by cases h
 |a::l,i,k,j,h=>by
  simp only[JF] at h;split at h
  .rename_i c;injection h with h;subst h;subst c;exact⟨qA _,wE⟩
  .obtain⟨d,b⟩:=qkJ h;refine⟨wC,?_⟩;rw[show j-k=(j-(k+1))+1 from wC,qeK];exact b
theorem qgb{p:List Nat}:∀{cs ds:List D},renD.renL p cs=some ds->ds.length=cs.length
 |[],ds,h=>by
  simp only[renD.renL,qy] at h;subst h;rfl
 |c::cs,ds,h=>by
  simp only[renD.renL] at h;split at h
  .rename_i d l b a;injection h with h;subst h;simp[qgb a]
  .cases h
theorem qeh{p:List Nat}:∀{cs ds:List D},renD.renL p cs=some ds->∀{j:Nat}{d:D},ds[j]?=some d->∃c,cs[j]?=some c/\renD p c=some d
 |[],ds,h,j,d,a=>by
  simp only[renD.renL,qy] at h;subst h;simp at a
 |c::cs,ds,h,j,d,a=>by
  simp only[renD.renL] at h;split at h
  .rename_i f l e b;injection h with h;subst h;cases j with
   |zero=>
    simp only[Qb,qy] at a;subst a;exact⟨c,rfl,e⟩
   |succ j=>exact qeh b wZ
  .cases h
theorem qnA{p:List Nat}{c d:D}(h:renD p c=some d)(hc:jt c=true):jt d=true:=by
 cases c<;>simp only[renD,Kw,qy] at h<;>first|(simp[jt] at hc;done)|(obtain⟨_,_,rfl⟩:=h;rfl)|(subst h;exact hc)
theorem qn4{p:List Nat}{ι2:qU}{G:qe}(K:∀i j,JF p i 0=some j->i<H.length->j<G.length/\ι2 j=ι i/\∀ds2,qd G j=some ds2->∃ds,qd H i=some ds/\ds.length=ds2.length)
  {ι1:qU} {L:qe} {d:D} {v:Value} (h:Rep ok w ι1 L d v):ι1=ι->L=H->∀l,renD p d=some l->Rep ok w ι2 G l v:=by
 induction h with
 |bool b=>intro _ _ l e;simp only[renD,qy] at e;subst e;exact .bool b
 |int k n=>intro _ _ l e;simp only[renD,qy] at e;subst e;exact .int k n
 |str s=>intro _ _ l e;simp only[renD,qy] at e;subst e;exact .str s
 |nilp=>intro _ _ l e;simp only[renD,qy] at e;subst e;exact .nilp
 |nilf=>intro _ _ l e;simp only[renD,qy] at e;subst e;exact .nilf
 |nili=>intro _ _ l e;simp only[renD,qy] at e;subst e;exact .nili
 |raw v=>intro _ _ l e;simp only[renD,qy] at e;subst e;exact .raw v
 |agg y hc h u=>
  intro t r l e;simp only[renD,Kw] at e;obtain⟨cs,g,rfl⟩:=e;refine .agg (by rw[y,qgb g]) (fun d e=>?_) (fun j d q=>?_)
  .obtain⟨j,q,M⟩:=List.getElem_of_mem e;obtain⟨c,o,m⟩:=qeh g (show cs[j]?=some d by rw[qM q,M]);exact qnA m (hc c (mem_of_get? o))
  .obtain⟨c,o,m⟩:=qeh g q;exact u j c o t r d m
 |tup y h u=>
  intro t r l e;simp only[renD,Kw] at e;obtain⟨cs,g,rfl⟩:=e;refine .tup (by rw[y,qgb g]) (fun j d q=>?_);obtain⟨c,o,m⟩:=qeh g q;exact u j c o t r d m
 |fn y h u=>
  intro t r l e;simp only[renD,Kw] at e;obtain⟨cs,g,rfl⟩:=e;refine .fn (by rw[y,qgb g]) (fun j d q=>?_);obtain⟨c,o,m⟩:=qeh g q;exact u j c o t r d m
 |iface h u=>
  intro t r l e;simp only[renD,Kw] at e;obtain⟨c,g,rfl⟩:=e;exact .iface (u t r c g)
 |optr a hi A=>
  intro t r l e;subst t;subst r;simp only[renD,Kw] at e;obtain⟨j,q,rfl⟩:=e;obtain⟨o,m,F⟩:=K _ j q hi;refine .optr a o fun ds2 vk=>?_;obtain⟨ds,J,E⟩:=F ds2 vk;obtain⟨z,x⟩:=A ds J;rw[E] at z x;rw[m];exact⟨z,x⟩
 |osl a hi A B=>
  intro t r l e;subst t;subst r;simp only[renD,Kw] at e;obtain⟨j,q,rfl⟩:=e;obtain⟨o,m,F⟩:=K _ j q hi;refine .osl a o (fun ds2 vk=>?_) B;obtain⟨ds,J,E⟩:=F ds2 vk;obtain⟨z,x⟩:=A ds J;rw[E] at z x;rw[m];exact⟨z,x⟩
 |vptr a f I hc C h u=>intro _ _ l e;simp only[renD,qy] at e;subst e;exact .vptr a f I hc C h
 |vnil=>intro _ _ l e;simp only[renD,qy] at e;subst e;exact .vnil
 |vsl a f I hc C h B u=>intro _ _ l e;simp only[renD,qy] at e;subst e;exact .vsl a f I hc C h B
theorem qjI{p:List Nat}:∀{l:List Nat}{L:qe},XY p H l=some L->L.length=l.length/\∀{j:Nat}{ds2:List D},qd L j=some ds2->∃i ds,l[j]?=some i/\qd H i=some ds/\XZ p ds=some ds2
 |[],L,h=>by
  simp only[XY,qy] at h;subst h;exact⟨rfl,fun{j ds2} a=>xk⟩
 |i::l,L,h=>by
  simp only[XY] at h;split at h
  .cases h
  .rename_i ds o;split at h
   .rename_i ds' q m g;injection h with h;subst h;obtain⟨e,f⟩:=qjI g;refine⟨by simp[e],fun{j ds2} a=>?_⟩;cases j with
    |zero=>
     simp only[qd,Qb,Vm,qy] at a;subst a;exact⟨i,ds,rfl,o,m⟩
    |succ j=>
     obtain⟨c,b,n,k,d⟩:=f (j:=j) (ds2:=ds2) (by simpa[qd] using a);exact⟨c,b,by simpa using n,k,d⟩
   .cases h
theorem qjH{p:List Nat}:∀{l:List Nat}{L:qe},XY p H l=some L->∀{j i:Nat},l[j]?=some i->∃ds ds2,qd H i=some ds/\XZ p ds=some ds2/\qd L j=some ds2
 |[],L,h,j,i,c=>by simp at c
 |n::l,L,h,j,i,c=>by
  simp only[XY] at h;split at h
  .cases h
  .rename_i ds m;split at h
   .rename_i ds' o g e;injection h with h;subst h;cases j with
    |zero=>
     simp only[Qb,qy] at c;subst c;exact⟨ds,ds',m,g,by simp[qd]⟩
    |succ j=>
     obtain⟨a,b,k,f,d⟩:=qjH e (j:=j) (i:=i) wo;exact⟨a,b,k,f,by simpa[qd] using d⟩
   .cases h
theorem qhw{p:List Nat}{ds ds2:List D}(h:XZ p ds=some ds2):ds2.length=ds.length:=by
 unfold XZ at h;split at h
 .injection h with h;rw[h]
 .exact qgb h
theorem qpb{p:List Nat}:∀{e f:qu},qbA p e=some f->∀{t:Nat}{c:D},qi f t=some c->∃d,qi e t=some d/\qaB p d=some c
 |[],f,h,t,c,a=>by
  simp only[qbA,qy] at h;subst h;simp[qi] at a
 |(s,d)::e,f,h,t,c,a=>by
  simp only[qbA] at h;split at h
  .rename_i d' m k i;injection h with h;subst h;simp only[qi] at a⊢;split at a
   .rename_i b;injection a with a;subst a;exact⟨d,by rw[if_pos b],k⟩
   .rename_i b;obtain⟨g,l,j⟩:=qpb i a;exact⟨g,by rw[if_neg b];exact l,j⟩
  .cases h
theorem qfQ:∀n,(VJ n).length=n
 |0=>rfl
 |n+1=>by rw[VJ,zo,qfQ n];rfl
theorem qmq:∀{n i:Nat},i<n->(VJ n)[i]?=some i
 |n+1,i,h=>by
  rw[VJ];by_cases hi:i<n
  .rw[vD (by rw[qfQ];exact hi),qmq hi]
  .have:i=n:=wC;subst this;rw[jl (by rw[qfQ];exact qA _),qfQ,Nat.sub_self];rfl
theorem qjn{p:List Nat}{n0 i:Nat}(h:p.take n0=VJ n0)(hi:i<n0):p[i]?=some i:=by
 rw[<-List.getElem?_take_of_lt hi,h,qmq hi]
theorem qwP{p:List Nat}{n0:Nat}(h:p.take n0=VJ n0):n0<=p.length:=by
 have:=congrArg List.length h;rw[jc,qfQ] at this;omega
theorem qjA{n0:Nat}{p:List Nat}{e R:qu}{tmps:Array Value}(h:YK n0 p e H=some (R,H'))(A:Sim X ok w ι H)(he:EnvRep ok w ι H e tmps):
  Sim X ok w (fun j=>ι (p.getD j 0)) H'/\EnvRep ok w (fun j=>ι (p.getD j 0)) H' R tmps/\Evol n0 ok w ι H ok w (fun j=>ι (p.getD j 0)) H':=by
 unfold YK at h;split at h
 .rename_i u G hE L;split at h
  .rename_i y;obtain⟨B,o⟩:=y;simp only[qy,zi] at h;obtain⟨rfl,rfl⟩:=h;obtain⟨P,v⟩:=qjI L
   have N:∀i j,JF p i 0=some j->i<H.length->j<G.length/\(fun j=>ι (p.getD j 0)) j=ι i/\∀ds2,qd G j=some ds2->∃ds,qd H i=some ds/\ds.length=ds2.length:=by
    intro i j qS _;obtain⟨-,z⟩:=qkJ qS;rw[Nat.sub_zero] at z;have q:=(List.getElem?_eq_some_iff.1 z).1;refine⟨by rw[P];exact q,?_,fun ds2 vk=>?_⟩
    .show ι (p.getD j 0)=ι i;rw[jy,z];rfl
    .obtain⟨i',ds,g,k,n⟩:=v vk;rw[z] at g;injection g with g;subst g;exact⟨ds,k,(qhw n).symm⟩
   have W:∀{ds ds2:List D}{f:Nat->Value},XZ p ds=some ds2->(∀(j:Nat) d,ds[j]?=some d->Rep ok w ι H d (f j))->∀(j:Nat) d,ds2[j]?=some d->Rep ok w (fun j=>ι (p.getD j 0)) G d (f j):=by
    intro ds ds2 f l r j d q;unfold XZ at l;split at l
    .rename_i vK;injection l with l;subst l;exact(r j d q).free ((qdd _).1 vK d (mem_of_get? q)) _ _
    .obtain⟨c,g,k⟩:=qeh l q;exact qn4 N (r j c g) rfl rfl d k
   have hC:∀{ds ds2:List D},XZ p ds=some ds2->(∀d,d∈ds->jt d=true)->∀d,d∈ds2->jt d=true:=by
    intro ds ds2 l hc d r;unfold XZ at l;split at l
    .injection l with l;subst l;exact hc d r
    .obtain⟨j,q,E⟩:=List.getElem_of_mem r;obtain⟨c,g,k⟩:=qeh l (show ds2[j]?=some d by rw[qM q,E]);exact qnA k (hc c (mem_of_get? g))
   refine⟨⟨A.okS,A.glob,?_,?_⟩,fun t C ht=>?_,?_⟩
   .intro a b ds es F s s' J S K M;obtain⟨m,x,g,k,n⟩:=v J;obtain⟨Q,C,I,r2,r3⟩:=v S;have u:p.getD a 0=m:=(by rw[jy,g];rfl);have e2:p.getD b 0=Q:=(by rw[jy,I];rfl);simp only[u] at K;simp only[e2] at M;have:=A.inj m Q x C F s s' k r2 K M;subst this;obtain⟨XL,aa⟩:=List.getElem?_eq_some_iff.1 g;obtain⟨zQ,ac⟩:=List.getElem?_eq_some_iff.1 I;exact(List.getElem?_inj XL B).1 (g.trans I.symm)
   .intro a ds2 J;obtain⟨m,x,g,k,n⟩:=v J;have u:p.getD a 0=m:=(by rw[jy,g];rfl);obtain⟨b,arr,ty,fr,U,Z,u3,Y,u5,V,u7,u8⟩:=A.blk m x k;exact⟨b,arr,ty,fr,by show ι (p.getD a 0)=_;rw[u];exact U,Z,u3,by rw[qhw n];exact Y,u5,V,hC n u7,W (f:=fun j=>arr.getD j undef) n u8⟩
   .obtain⟨d,g,k⟩:=qpb hE ht;obtain⟨T,O⟩:=he t d g;refine⟨T,?_⟩;unfold qaB at k;split at k
    .rename_i hf;injection k with k;subst k;exact O.free hf _ _
    .exact qn4 N O rfl rfl C k
   .refine⟨rfl,rfl,rfl,qA _,fun _ _ _=>rfl,fun _ h=>h,fun _ h _=>.inl h,⟨?_,by rw[P];exact qwP o⟩,fun i hi ds2 vk=>?_,fun j ds2 b s r hi S=>?_⟩
    .rcases Nat.eq_zero_or_pos n0 with rfl|ZS
     .exact vp _
     .obtain⟨ds,_,g,_⟩:=qjH L (qjn o (show n0-1<n0 from wC));have:=qx g;omega
    .obtain⟨m,ds,g,k,n⟩:=v vk;rw[qjn o hi] at g;injection g with g;subst g;refine⟨ds,k,Nat.le_of_eq (qhw n).symm,fun _=>?_⟩;show ι (p.getD i 0)=ι i;rw[jy,qjn o hi];rfl
    obtain⟨m,x,g,k,n⟩:=v r;have u:p.getD j 0=m:=(by rw[jy,g];rfl);simp only[u] at hi;exact⟨m,x,s,k,hi⟩
  .cases h
 .cases h
theorem q0P{S:List Nat}{ds:List D}{e:qu}(a:qa6 e S=some ds):∀{t:Nat}{d:D},qi (Xt S ds) t=some d->qi e t=some d:=by
 induction S generalizing ds with
 |nil=>
  intro t d h;simp only[qa6,qy] at a;subst a;simp[Xt,qi] at h
 |cons s S i=>
  intro t d h;simp only[qa6] at a;split at a
  .rename_i j c g f;injection a with a;subst a;simp only[Xt,qi] at h;split at h
   .rename_i b;injection h with h;subst h;rw[<-b];exact g
   .exact i f h
  .cases a
theorem qn3{n0:Nat}{p:List Nat}{e a:qu}{tmps:Array Value}(h:YK n0 p e H=some (a,H'))(c:Sim X ok w ι H)(b:EnvRep ok w ι H e tmps):
  ∃ι',Sim X ok w ι' H'/\EnvRep ok w ι' H' a tmps/\Evol n0 ok w ι H ok w ι' H':=⟨_,qjA h c b⟩
theorem qod{n0:Nat}(z:n0<=H.length)(k:Sim X ok w ι H){r j:D}{v:Value}(g:Rep ok w ι H r v)(h:qbE n0 H r=some (j,H')):
  ∃ι',Sim X ok w ι' H'/\Rep ok w ι' H' j v/\Evol n0 ok w ι H ok w ι' H'/\(∀i ds,n0<=i->qd H' i=some ds->ds.all idFree=true):=by
 unfold qbE at h;cases c:qek n0 H r with
 |some q=>
  rw[c,qzF] at h;injection h with h;subst h;exact qnZ z k g c
 |none=>
  rw[c,qzG] at h;unfold qob at h;split at h
  .rename_i t A y b;split at h
   .rename_i l;simp only[qy,zi] at h;obtain⟨rfl,rfl⟩:=h
    have n:EnvRep ok w ι H [(0,r)] #[v]:=fun t d a=>by
     simp only[qi] at a;split at a
     .rename_i m;injection a with a;subst a;subst m;exact⟨wE,g⟩
     .cases a
    obtain⟨ι',o,x,s⟩:=qn3 b k n
    have a:t=0:=by
     unfold YK at b;split at b
     .rename_i F I e C;split at b
      .simp only[qy,zi] at b;obtain⟨rfl,rfl⟩:=b;simp only[qbA] at e;split at e
       .rename_i E e2 B G;simp only[qy,qa2,zi] at e;exact e.1.1.symm
       .cases e
      .cases b
     .cases b
    subst a;refine⟨ι',o,(x 0 A (by simp[qi])).2,s,fun i ds hi f=>?_⟩
    have u:some ds∈y.drop n0:=by
     have p:=qx f;rw[List.mem_iff_getElem?];refine⟨i-n0,?_⟩;rw[Qa,show n0+(i-n0)=i from wC];unfold qd at f;rw[qM p] at f⊢;simpa using f
    have:=List.all_eq_true.1 l _ u;simpa[qfA] using this
   .cases h
  .cases h
theorem qoa{z:Bool}{n0:Nat}(d:n0<=H.length)(e:Sim X ok w ι H){r m:D}{v:Value}(n:Rep ok w ι H r v)(h:kW z n0 H r=some (m,H')):
  ∃ok' ι',Sim X ok' w ι' H'/\Rep ok' w ι' H' m v/\Evol n0 ok w ι H ok' w ι' H'/\∀i ds,n0<=i->qd H' i=some ds->ds.all idFree=true:=by
 cases z with
 |false=>
  simp only[kW] at h;obtain⟨ι2,j,f,c,k⟩:=qod d e n h;exact⟨ok,ι2,j,f,c,k⟩
 |true=>
  simp only[kW] at h;split at h
  .rename_i q l a;have o:=qeT e (okF:=Ye ok ι H l) (fun b g=>.inl g) _ _ _ _ _ n a (fun i hi ds b s p g=>.inr ⟨i,ds,s,hi,p,g⟩);obtain⟨ι2,j,f,c,k⟩:=qod (by rw[QF];exact d) (qgM e l) (o.lift (ι:=ι) (H:=jS H l)) h;exact⟨_,ι2,j,f,((qeC l).mono d).trans c,k⟩
  .cases h
theorem qyF{n0:Nat}{S ks:List Nat}{e f:qu}{tmps:Array Value}(h:qfa n0 S ks e H=some (f,H'))(j:n0<=H.length)(c:Sim X ok w ι H)(b:EnvRep ok w ι H e tmps):
  ∃ι',Sim X ok w ι' H'/\EnvRep ok w ι' H' f tmps/\Evol n0 ok w ι H ok w ι' H':=by
 unfold qfa at h;split at h
 .rename_i r i;injection h with h;subst h;exact qyE i j c b
 .unfold qjB at h;split at h
  .rename_i ds g;refine qn3 h c fun t d a=>?_;rw[qhJ] at a;cases hx:qi (Xt S ds) t with
   |some x=>
    rw[hx] at a;injection a with a;subst a;exact b t _ (q0P g hx)
   |none=>
    rw[hx] at a;exact b t d (qhH a)
  .cases h
end
end Go.Ev
namespace Go.Ev
section
variable {X:Cx} {ok ok':Nat->Prop} {w w':World} {ι:qU} {H H':qe}
def Goes(P:Program)(s:Sem Next)(w:World)(R:Value->World->Prop):Prop:=
 match s.run P w with
 | .ok (.value v) w'=>R v w'
 | .ok .skip w'=>R undef w'
 | .ok (.enter f args) w'=>Calls P f args w' fun e a=>∃v,e=.returned v/\R v a
 |_=>False
theorem Goes.value{P:Program}{s:Sem Next}{v:Value}{R:Value->World->Prop}(h:s.run P w=.ok (.value v) w')(a:R v w'):Goes P s w R:=by
 unfold Goes;rw[h];exact a
theorem Goes.skip{P:Program}{s:Sem Next}{R:Value->World->Prop}(h:s.run P w=.ok .skip w')(a:R undef w'):Goes P s w R:=by
 unfold Goes;rw[h];exact a
theorem Goes.mono{P:Program}{s:Sem Next}{R b:Value->World->Prop}(h:Goes P s w R)(a:∀v w',R v w'->b v w'):Goes P s w b:=by
 unfold Goes at *;split at h
 .exact a _ _ h
 .exact a _ _ h
 .exact h.mono fun e f ⟨v,d,c⟩=>⟨v,d,a _ _ c⟩
 .exact h.elim
theorem Goes.upon{P:Program}{o:Oper}{a:Act}{s:Sem Next}{next:Act->World->Prop}{Q:Exit->Act->World->Prop}(h:Goes P s w fun v w'=>next (a.put o.dst v) w'):o.upon P a next Q (s.run P w):=by
 unfold Goes at h;split at h
 .rename_i v w' b;rw[b];exact h
 .rename_i w' b;rw[b];exact h
 .rename_i f args w' b;rw[b];simp only[Oper.upon];exact h.mono fun e g ⟨v,d,c⟩=>by subst d;exact c
 .exact h.elim
def CallPost(X:Cx)(ok:Nat->Prop)(w:World)(ι:qU)(H:qe)(r:D)(H':qe)(v:Value)(w':World):Prop:=
 ∃ι' ok',Sim X ok' w' ι' H'/\Rep ok' w' ι' H' r v/\Evol H.length ok w ι H ok' w' ι' H'/\∀i ds,H.length<=i->qd H' i=some ds->ds.all idFree=true
def qiU(X:Cx)(g:Bool)(ok:Nat->Prop)(w:World)(ι:qU)(H:qe)(r:D)(H':qe)(v:Value)(w':World):Prop:=
 ∃ι' ok',Sim X ok' w' ι' H'/\Rep ok' w' ι' H' r v/\Evol H.length ok w ι H ok' w' ι' H'/\(g=false->∀i ds,H.length<=i->qd H' i=some ds->ds.all idFree=true)
theorem CallPost.g{ok:Nat->Prop}{w:World}{ι:qU}{H H':qe}{r:D}{v:Value}{w':World}(h:CallPost X ok w ι H r H' v w')(g:Bool):qiU X g ok w ι H r H' v w':=by
 obtain⟨ι',ok',b,a,d,c⟩:=h;exact⟨ι',ok',b,a,d,fun _=>c⟩
def VC(X:Cx)(F:zG):Prop:=
 ∀(f:Nat)(args:List D)(H:qe)(r:D)(H':qe)(ok:Nat->Prop)(w:World)(ι:qU)(vs:List Value),F f args H=some (r,H')->Sim X ok w ι H->RepL ok w ι H args vs->
  Goes X.P (callFunc f vs.toArray) w (qiU X (X.gr f&&X.byRef f) ok w ι H r H')
structure Good (X:Cx):Prop where
 mixed:X.P.follows .mixedOrders=true
 okc:∀(f:Nat)(fn:Func)(c:Code),X.P.funcs[f]?=some fn->fn.body=some c->X.bad f=false->Z5 X f c=true
 ng:∀(f:Nat)(fn:Func),X.P.funcs[f]?=some fn->(fn.name== "runtime.NumGoroutine")=false
 ext:∀(f:Nat)(fn:Func)(args:List D)(d:D),X.P.funcs[f]?=some fn->fn.body=none->X.ext f args=some d->
  ∀(ok:Nat->Prop)(w:World)(ι:qU)(H:qe)(vs:List Value),Sim X ok w ι H->RepL ok w ι H args vs->∃v,(callFunc f vs.toArray).run X.P w=.ok (.value v) w/\Rep ok w ι H d v/\idFree d=true
 con:∀(f:Nat)(args:List D)(H:qe)(r:D)(H':qe),X.con f args H=some (r,H')->∀(ok:Nat->Prop)(w:World)(ι:qU)(vs:List Value),Sim X ok w ι H->RepL ok w ι H args vs->
  Goes X.P (callFunc f vs.toArray) w (CallPost X ok w ι H r H')
theorem qmY(c:Sim X ok w ι H):Sim X ok w jA []:=
 ⟨c.okS,c.glob,fun i j ds e b s d a=>xk,fun i ds a=>xk⟩
theorem qxG(d:Sim X ok w ι H):Sim X (qh6 ok ι H) w jA []:=
 ⟨fun b a=>by
   rcases a with a|⟨i,ds,s,c,hi⟩
   .exact d.okS b a
   .exact d.lt c hi,fun g cs e=>(d.glob g cs e).okMono fun b a=>.inl a,fun i j ds h b s f c=>by simp[qd] at c,fun i ds c=>by simp[qd] at c⟩
theorem YQ(p:List Nat)(n:Nat)(l:List D):mv.mvL p n l=l.map (mv p n):=by
 induction l with
 |nil=>rfl
 |cons d l a=>simp[mv.mvL,a]
theorem qkB(p:List Nat)(n:Nat)(d:D):jt (mv p n d)=jt d:=by cases d<;>rfl
theorem Rep.back{p:List Nat}{n:Nat}{ι1 ι2:qU}{y u:qe}(i:∀a,a<y.length->ZQ p n a<u.length/\(∀ds2,qd u (ZQ p n a)=some ds2->∃ds,qd y a=some ds/\ds.length=ds2.length)/\ι2 (ZQ p n a)=ι1 a){d:D}{v:Value}(h:Rep ok w ι1 y d v):Rep ok w ι2 u (mv p n d) v:=by
 induction h with
 |bool b=>exact .bool b
 |int k n=>exact .int k n
 |str s=>exact .str s
 |nilp=>exact .nilp
 |nilf=>exact .nilf
 |nili=>exact .nili
 |raw v=>exact .raw v
 |agg o hc h g=>
  simp only[mv,YQ];refine .agg (by simpa using o) (fun d E=>?_) fun j d c=>?_
  .obtain⟨d',e,rfl⟩:=List.mem_map.1 E;rw[qkB];exact hc d' e
  .rw[Je,Kw] at c;obtain⟨d',e,rfl⟩:=c;exact g j d' e i
 |tup o h g=>
  simp only[mv,YQ];refine .tup (by simpa using o) fun j d c=>?_;rw[Je,Kw] at c;obtain⟨d',e,rfl⟩:=c;exact g j d' e i
 |fn o h g=>
  simp only[mv,YQ];refine .fn (by simpa using o) fun j d c=>?_;rw[Je,Kw] at c;obtain⟨d',e,rfl⟩:=c;exact g j d' e i
 |iface h g=>exact .iface (g i)
 |optr a hi h=>
  obtain⟨C,r,z⟩:=i _ hi;refine .optr a C fun ds2 vk=>?_;obtain⟨ds,B,t⟩:=r ds2 vk;obtain⟨m,l⟩:=h ds B;rw[t] at m l;rw[z];exact⟨m,l⟩
 |osl a hi h q=>
  obtain⟨C,r,z⟩:=i _ hi;refine .osl a C (fun ds2 vk=>?_) q;obtain⟨ds,B,t⟩:=r ds2 vk;obtain⟨m,l⟩:=h ds B;rw[t] at m l;rw[z];exact⟨m,l⟩
 |vptr a f A hc x h _=>exact .vptr a f A hc x h
 |vnil=>exact .vnil
 |vsl a f A hc x h q _=>exact .vsl a f A hc x h q
theorem qne:∀(p:List Nat)(T H:qe),(J6 H p T).length=H.length
 |[],_,_=>by simp[J6]
 |_::_,[],_=>by simp[J6]
 |i::p,b::T,H=>by rw[J6,qne p T,vH]
theorem qj2{i:Nat}:∀(p:List Nat)(T H:qe),i∉p->qd (J6 H p T) i=qd H i
 |[],_,_,_=>by simp[J6]
 |_::_,[],_,_=>by simp[J6]
 |a::p,b::T,H,h=>by
  rw[J6,qj2 p T _ fun d=>h (vy _ d)];unfold qd;rw[List.getElem?_set_ne fun c=>h (by rw[c];exact Jd ..)]
theorem qj3{i:Nat}:∀(p:List Nat)(T H:qe)(a:Nat),p.Nodup->i<H.length->p[a]?=some i->a<T.length->qd (J6 H p T) i=qd T a
 |[],_,_,_,_,_,h,_=>by simp at h
 |_::_,[],_,_,_,_,_,h=>by simp at h
 |c::p,b::T,H,0,d,hi,h,_=>by
  simp only[Qb,qy] at h;subst h;rw[J6,qj2 p T _ (List.nodup_cons.1 d).1];unfold qd;rw[List.getElem?_set_self hi];rfl
 |c::p,b::T,H,a+1,d,hi,h,e=>by
  rw[J6,qj3 p T _ a (List.nodup_cons.1 d).2 (by rw[vH];exact hi) wQ (by simpa using e)];simp[qd]
theorem qsY:∀{p:List Nat}{a i k:Nat},p.Nodup->p[a]?=some i->JF p i k=some (k+a)
 |[],_,_,_,_,h=>by simp at h
 |c::p,0,i,k,_,h=>by
  simp only[Qb,qy] at h;simp[JF,h]
 |c::p,a+1,i,k,b,h=>by
  have d:i∈p:=j7 wQ;have f:c≠i:=fun e=>(List.nodup_cons.1 b).1 (by rw[e];exact d);rw[JF,if_neg f,qsY (List.nodup_cons.1 b).2 wQ];congr 1;omega
theorem qsZ{p:List Nat}{i:Nat}(h:i∉p):JF p i 0=none:=by
 cases hx:JF p i 0 with
 |none=>rfl
 |some a=>exact absurd (j7 (qkJ hx).2) h
theorem qnB{p:List Nat}:∀{l b:List D},YL p l=some b->b.length=l.length/\∀{j:Nat}{d':D},b[j]?=some d'->∃d,l[j]?=some d/\qaB p d=some d'
 |[],b,h=>by
  simp only[YL,qy] at h;subst h;exact⟨rfl,fun{j d'} a=>xC⟩
 |d::l,b,h=>by
  simp only[YL] at h;split at h
  .rename_i i k g f;injection h with h;subst h;obtain⟨c,e⟩:=qnB f;refine⟨by simp[c],fun{j d'} a=>?_⟩;cases j with
   |zero=>
    simp only[Qb,qy] at a;subst a;exact⟨d,rfl,g⟩
   |succ j=>simpa using e (j:=j) (d':=d') wZ
  .cases h
theorem qv8{F:zG}(hF:VC X F){f:Nat}{args:List D}{p:List Nat}{r:D}{vs:List Value}(h:qdJ F f args H p=some (r,H'))(hs:Sim X ok w ι H)(hv:RepL ok w ι H args vs):
  Goes X.P (callFunc f vs.toArray) w (Post X H.length ok w ι H r H'):=by
 unfold qdJ at h;split at h
 .rename_i ac H0 hA S;split at h
  .rename_i Q;split at h
   .rename_i r0 T hc
    .injection h with h;injection h with h1 h2;subst h1;subst h2;obtain⟨hl,hg⟩:=qjI S;obtain⟨Zg,Km⟩:=qnB hA;have hS:∀{a j:Nat},p[a]?=some j->∃ds ds2,qd H j=some ds/\XZ p ds=some ds2/\qd H0 a=some ds2:=fun h=>qjH S h
     have am:∀{d d':D},qaB p d=some d'->YK 0 p [(0,d)] H=some ([(0,d')],H0):=fun{d d'} hd=>by
      unfold YK;simp[qbA,hd,S,Q,VJ]
     have ae:YK 0 p [] H=some ([],H0):=by
      unfold YK;simp[qbA,S,Q,VJ]
     obtain⟨Jr,-,-⟩:=qjA (tmps:= #[]) ae hs (fun t d Y=>by simp[qi] at Y)
     let ι0:qU:=fun j=>ι (p.getD j 0)
     have V:∀{a j:Nat},p[a]?=some j->ι0 a=ι j:=fun{a j} h=>by
      show ι (p.getD a 0)=ι j;rw[jy,h];rfl
     have av:RepL ok w ι0 H0 ac vs:=by
      refine⟨by rw[Zg];exact hv.1,fun j d' o=>?_⟩;obtain⟨d,u,E⟩:=Km o;have h0:=hv.2 j d u
      have he:EnvRep ok w ι H [(0,d)] #[vs.getD j undef]:=fun t c Y=>by
       simp only[qi] at Y;split at Y
       .rename_i zl;injection Y with Y;subst Y;subst zl;exact⟨wE,h0⟩
       .cases Y
      obtain⟨-,ax,-⟩:=qjA (am E) hs he;exact(ax 0 d' (by simp[qi])).2
     refine(hF f _ _ _ _ ok w ι0 vs hc Jr av).mono fun v w' hp=>?_;obtain⟨ι',ok',k1,k2,R,k4⟩:=hp;have aC:p.length<=T.length:=by rw[<-hl];exact R.nle.2
     have aj:∀b,b<w.heap.size->(∀a j s,p[a]?=some j->ι j≠some (b,s))->w'.heap[b]?=w.heap[b]?:=fun b y jg=>R.frame b y fun a ds s l hi=>by
      obtain⟨j,_,u,_⟩:=hg l;exact jg a j s u (by rw[<-V u];exact hi)
     have O:∀a g b s,qd T a=some g->ι' a=some (b,s)->b<w.heap.size->∃c j A,p[c]?=some j/\ι j=some (b,A):=fun a g b s hk y qo=>by
      obtain⟨c,I,A,o,hi⟩:=R.own a g b s hk y qo;obtain⟨j,_,u,_⟩:=hg o;exact⟨c,j,A,u,by rw[<-V u];exact hi⟩
     have aa:∀b,ok' b->b<w.heap.size->ok b\/∃c j s,p[c]?=some j/\ι j=some (b,s):=fun b y qo=>by
      rcases R.okN b y qo with h|⟨c,g,s,hk,hi⟩
      .exact .inl h
      .obtain⟨j,_,u,_⟩:=hg hk;exact .inr ⟨c,j,s,u,by rw[<-V u];exact hi⟩
     have ak:∀{a j:Nat},p[a]?=some j->j<H.length:=fun h=>by
      obtain⟨ds,_,q,_⟩:=hS h;exact qx q
     obtain⟨B,hB⟩:∃B:qe,B=T.map (X1 p H.length):=⟨_,rfl⟩;have ag:B.length=T.length:=by rw[hB,List.length_map]
     have z:∀a g,qd B a=some g->∃i,qd T a=some i/\i.length=g.length/\g=mv.mvL p H.length i:=by
      intro a g l;rw[hB] at l;unfold qd at l⊢;rw[Je] at l;cases hT:T[a]? with
      |none=>rw[hT] at l;simp at l
      |some x=>
       rw[hT] at l;cases x with
       |none=>simp[X1] at l
       |some ds=>
        simp only[jn,X1,Vm,qy] at l;subst l;exact⟨ds,wE,by simp[YQ],rfl⟩
     let n:=H.length
     let k:=p.length
     let H2:qe:=J6 H p B++B.drop k
     have hn:(J6 H p B).length=n:=qne _ _ _
     let ι2:qU:=fun j=>match JF p j 0 with
      |some a=>ι' a
      |none=>if j<n then ι j else ι' (j-n+k)
     have ao:∀{a j:Nat},p[a]?=some j->ι2 j=ι' a:=fun{a j} h=>by
      have:=qsY (k:=0) Q h;show(match JF p j 0 with|some a=>ι' a|none=>_)=_;rw[this,J3]
     have au:∀{j:Nat},j∉p->j<n->ι2 j=ι j:=fun{j} h o=>by
      show(match JF p j 0 with|some a=>ι' a|none=>if j<n then ι j else ι' (j-n+k))=_;rw[qsZ h];simp only;rw[if_pos o]
     have ai:∀{j:Nat},n<=j->ι2 j=ι' (j-n+k):=fun{j} o=>by
      have aq:j∉p:=fun h=>by
       obtain⟨a,l⟩:=List.mem_iff_getElem?.1 h;have:=ak l;omega
      show(match JF p j 0 with|some a=>ι' a|none=>if j<n then ι j else ι' (j-n+k))=_;rw[qsZ aq];simp only;rw[if_neg wC]
     have g3:∀{j:Nat},n<=j->qd H2 j=qd B (j-n+k):=fun{j} o=>by
      obtain⟨m,rfl⟩:∃m,j=n+m:=⟨j-n,wC⟩;have U:qd H2 ((J6 H p B).length+m)=qd (B.drop k) m:=qgz;rw[hn] at U;rw[U];have e2:n+m-n+k=k+m:=wC;rw[e2];simp[qd]
     have S:∀j g,qd H2 j=some g->(∃a,p[a]?=some j/\qd B a=some g/\ι2 j=ι' a)\/(j∉p/\j<n/\qd H j=some g/\ι2 j=ι j)\/(n<=j/\qd B (j-n+k)=some g/\ι2 j=ι' (j-n+k)):=by
      intro j g o;by_cases Ys:j<n
      .rw[qez (by rw[hn];exact Ys)] at o;by_cases C:j∈p
       .obtain⟨a,l⟩:=List.mem_iff_getElem?.1 C
        have Zg:a<B.length:=by
         have:=(List.getElem?_eq_some_iff.1 l).1;omega
        rw[qj3 p B H a Q Ys l Zg] at o;exact .inl ⟨a,l,o,ao l⟩
       .rw[qj2 p B H C] at o;exact .inr (.inl ⟨C,Ys,o,au C Ys⟩)
      .have N:n<=j:=wC;rw[g3 N] at o;exact .inr (.inr ⟨N,o,ai N⟩)
     have ah:Evol n ok w ι H ok' w' ι2 H2:=by
      refine⟨R.os,R.tape,R.output,R.size,fun b y jg=>aj b y fun a j s l=>?_,R.okU,fun b y qo=>?_,⟨qA _,by rw[zo,hn];omega⟩,?_,?_⟩
      .obtain⟨ds,_,q,_⟩:=hS l;exact jg j ds s q
      .rcases aa b y qo with h|⟨c,j,s,hc,hi⟩
       .exact .inl h
       .obtain⟨ds,_,q,_⟩:=hS hc;exact .inr ⟨j,ds,s,q,hi⟩
      .intro j Ys g o;rcases S j g o with⟨a,l,q,e⟩|⟨_,_,q,e⟩|⟨q,_,_⟩
       .obtain⟨i,u,E,-⟩:=z a g q;obtain⟨ds,ds2,d1,d2,d3⟩:=hS l;obtain⟨aB,d4,az,XJ⟩:=R.heap a (by rw[hl];exact(List.getElem?_eq_some_iff.1 l).1) i u;rw[d3] at d4;injection d4 with d4;subst d4;have ay:=qhw d2;exact⟨ds,d1,wC,fun Vy=>by rw[e,XJ wC];exact V l⟩
       .exact⟨g,q,qA _,fun _=>e⟩
       .omega
      .intro j g b s o y qo;rcases S j g o with⟨a,l,q,e⟩|⟨_,_,q,e⟩|⟨q,hk,e⟩
       .rw[e] at y;obtain⟨i,u,-⟩:=z a g q;obtain⟨c,K,A,hc,hi⟩:=O a i b s u y qo;obtain⟨ds,_,d1,_⟩:=hS hc;exact⟨K,ds,A,d1,hi⟩
       .rw[e] at y;exact⟨j,g,s,q,y⟩
       .rw[e] at y;obtain⟨i,aw,-⟩:=z _ g hk;obtain⟨c,K,A,hc,hi⟩:=O _ i b s aw y qo;obtain⟨ds,_,d1,_⟩:=hS hc;exact⟨K,ds,A,d1,hi⟩
     have W:∀j g b s,j∉p->qd H j=some g->ι j=some (b,s)->b<w.heap.size/\∀a K A,p[a]?=some K->ι K≠some (b,A):=fun j g b s C o y=>⟨hs.lt o y,fun a K A l hi=>by
      obtain⟨ds,_,d1,_⟩:=hS l;have:=hs.inj j K g ds b s A o d1 y hi;exact C (by rw[this];exact j7 l)⟩
     have G:∀{d:D}{v:Value},Rep ok' w' ι' T d v->Rep ok' w' ι2 H2 (mv p n d) v:=fun h=>by
      refine h.back fun a l=>?_;cases QQ:p[a]? with
      |some j=>
       have U:ZQ p n a=j:=(by unfold ZQ;rw[QQ]);rw[U];have o:=ak QQ;refine⟨by rw[zo,hn];omega,fun ds2 vk=>?_,ao QQ⟩;rw[qez (by rw[hn];exact o),qj3 p B H a Q o QQ (by rw[ag];exact l)] at vk;obtain⟨i,u,E,-⟩:=z a ds2 vk;exact⟨i,u,E⟩
      |none=>
       have aA:k<=a:=List.getElem?_eq_none_iff.1 QQ;have U:ZQ p n a=n+(a-k):=(by unfold ZQ;rw[QQ]);have e2:n+(a-k)-n+k=a:=wC;rw[U];refine⟨?_,fun ds2 vk=>?_,?_⟩
       .rw[zo,hn,vg,ag];omega
       .rw[g3 wC,e2] at vk;obtain⟨i,u,E,-⟩:=z a ds2 vk;exact⟨i,u,E⟩
       .rw[ai wC,e2]
     have Qk:Sim X ok' w' ι2 H2:=by
      refine⟨k1.okS,k1.glob,?_,?_⟩
      .intro a c g I b s A l hc y zQ
       have L:∀{j g b s a I A},j∉p->qd H j=some g->ι j=some (b,s)->qd T a=some I->ι' a=some (b,A)->False:=by
        intro j g b s a I A C o y hk zQ;obtain⟨u,E⟩:=W j g b s C o y;obtain⟨c,K,s2,hc,hi⟩:=O a I b A hk zQ u;exact E c K s2 hc hi
       have old:∀j g,((∃a,p[a]?=some j/\qd B a=some g/\ι2 j=ι' a)\/(n<=j/\qd B (j-n+k)=some g/\ι2 j=ι' (j-n+k)))->∃a i,qd T a=some i/\ι2 j=ι' a/\ZQ p n a=j:=by
        rintro j g (⟨a,u,E,M⟩|⟨u,E,M⟩)
        .obtain⟨i,q4,-⟩:=z a g E;exact⟨a,i,q4,M,by unfold ZQ;rw[u]⟩
        .obtain⟨i,q4,-⟩:=z _ g E;refine⟨_,i,q4,M,?_⟩;unfold ZQ;rw[List.getElem?_eq_none_iff.2 (show p.length<=j-n+k from wC)];show n+(j-n+k-k)=j;omega
       have J:∀j g,qd H2 j=some g->(∃a i,qd T a=some i/\ι2 j=ι' a/\ZQ p n a=j)\/(j∉p/\qd H j=some g/\ι2 j=ι j):=fun j g o=>by
        rcases S j g o with h|⟨h1,_,h2,h3⟩|h
        .exact .inl (old j g (.inl h))
        .exact .inr ⟨h1,h2,h3⟩
        .exact .inl (old j g (.inr h))
       rcases J a g l with⟨a1,U,qa,ea,ma⟩|⟨a1,qa,ea⟩<;>rcases J c I hc with⟨c1,e2,qc,ec,mc⟩|⟨c1,qc,ec⟩<;>rw[ea] at y<;>rw[ec] at zQ
       .have:=k1.inj a1 c1 _ _ b s A qa qc y zQ;rw[<-ma,<-mc,this]
       .exact(L c1 qc zQ qa y).elim
       .exact(L a1 qa y qc zQ).elim
       .exact hs.inj a c g I b s A qa qc y zQ
      .intro j g o;rcases S j g o with⟨a,l,q,e⟩|⟨j1,j2,qj,e⟩|⟨j1,qj,e⟩
       .obtain⟨i,u,E,M⟩:=z a g q;obtain⟨b,arr,ty,fr,u1,u2,u3,u4,u5,u6,u7,u8⟩:=k1.blk a i u;refine⟨b,arr,ty,fr,by rw[e];exact u1,u2,u3,wC,u5,u6,?_,?_⟩
        .subst M;intro d hd;rw[YQ] at hd;obtain⟨d',zP,rfl⟩:=List.mem_map.1 hd;rw[qkB];exact u7 d' zP
        .subst M;intro m d Z;rw[YQ,Je,Kw] at Z;obtain⟨d',zP,rfl⟩:=Z;exact G (u8 m d' zP)
       .obtain⟨b,arr,U,fr,u,E,M,q4,q5,q6,q7,q8⟩:=hs.blk j g qj;obtain⟨p1,p2⟩:=W j g b _ j1 qj u;refine⟨b,arr,U,fr,by rw[e];exact u,fun y=>?_,by rw[aj b p1 p2];exact M,q4,q5,q6,q7,fun m d Z=>(q8 m d Z).evol hs ah (q8 m d Z).closed⟩;rcases aa b y p1 with h|⟨c,K,s,hc,hi⟩
        .exact E h
        .exact p2 c K s hc hi
       .obtain⟨i,u,E,M⟩:=z _ g qj;obtain⟨b,arr,ty,fr,u1,u2,u3,u4,u5,u6,u7,u8⟩:=k1.blk _ i u;refine⟨b,arr,ty,fr,by rw[e];exact u1,u2,u3,wC,u5,u6,?_,?_⟩
        .subst M;intro d hd;rw[YQ] at hd;obtain⟨d',zP,rfl⟩:=List.mem_map.1 hd;rw[qkB];exact u7 d' zP
        .subst M;intro m d Z;rw[YQ,Je,Kw] at Z;obtain⟨d',zP,rfl⟩:=Z;exact G (u8 m d' zP)
     rw[<-hB];exact⟨ι2,ok',Qk,G k2,ah⟩
   .cases h
  .cases h
 .cases h
theorem q6c{F:zG}(_:VC X F){f:Nat}(_:(X.gr f&&X.byRef f)=false){args:List D}{r:D}{vs:List Value}(h:qf8 F f args H=some (r,H'))(_:Sim X ok w ι H)(_:RepL ok w ι H args vs):
  Goes X.P (callFunc f vs.toArray) w (Post X H.length ok w ι H r H'):=by
 cases h
theorem qkL:∀cs:List D,idFree.idFreeL cs=cs.all idFree
 |[]=>rfl
 |d::l=>by rw[idFree.idFreeL,Va,qkL l]
mutual
theorem qoB(p:List Nat)(n:Nat):∀d:D,idFree d=true->mv p n d=d
 | .agg cs,h=>by rw[mv,qgn p n cs yL]
 | .tup cs,h=>by rw[mv,qgn p n cs yL]
 | .fn f cs,h=>by rw[mv,qgn p n cs yL]
 | .iface t d,h=>by rw[mv,qoB p n d yL]
 | .optr _ _ _,h=>by simp[idFree] at h
 | .osl _ _ _ _ _,h=>by simp[idFree] at h
 | .bool _,_| .int _ _,_| .str _,_| .nilp,_| .nilf,_| .nili,_| .vptr _,_| .vsl _ _ _,_| .raw _,_=>rfl
theorem qgn(p:List Nat)(n:Nat):∀l:List D,idFree.idFreeL l=true->mv.mvL p n l=l
 |[],_=>rfl
 |d::l,h=>by
  simp only[idFree.idFreeL,zY] at h;rw[mv.mvL,qoB p n d h.1,qgn p n l h.2]
end
mutual
theorem qkm(i n:Nat)(a:1<=n):∀d:D,noZ d=true->mv [i] n d=shift (n-1) d
 | .agg cs,h=>by rw[mv,shift,qh9 i n a cs xZ]
 | .tup cs,h=>by rw[mv,shift,qh9 i n a cs xZ]
 | .fn f cs,h=>by rw[mv,shift,qh9 i n a cs xZ]
 | .iface t d,h=>by rw[mv,shift,qkm i n a d xZ]
 | .optr j st off,h=>by
  have c:1<=j:=xZ
  have:ZQ [i] n j=n-1+j:=by
   obtain⟨k,rfl⟩:∃k,j=k+1:=⟨j-1,wC⟩;simp[ZQ];omega
  rw[mv,shift,this]
 | .osl j st off b k,h=>by
  have c:1<=j:=xZ
  have:ZQ [i] n j=n-1+j:=by
   obtain⟨k,rfl⟩:∃k,j=k+1:=⟨j-1,wC⟩;simp[ZQ];omega
  rw[mv,shift,this]
 | .bool _,_| .int _ _,_| .str _,_| .nilp,_| .nilf,_| .nili,_| .vptr _,_| .vsl _ _ _,_| .raw _,_=>rfl
theorem qh9(i n:Nat)(a:1<=n):∀l:List D,noZ.noZL l=true->mv.mvL [i] n l=shift.shiftL (n-1) l
 |[],_=>rfl
 |d::l,h=>by
  simp only[noZ.noZL,zY] at h;rw[mv.mvL,shift.shiftL,qkm i n a d h.1,qh9 i n a l h.2]
end
theorem qoC(p:List Nat)(n:Nat):∀T:qe,T.all qfA=true->T.map (X1 p n)=T
 |[],_=>rfl
 |b::T,h=>by
  simp only[Va,zY] at h;rw[List.map_cons,qoC p n T h.2];congr 1;cases b with
  |none=>rfl
  |some ds=>simp only[X1,jn];rw[qgn p n ds (by rw[qkL];simpa[qfA] using h.1)]
theorem qnC(p:List Nat):∀l:List D,l.all idFree=true->YL p l=some l
 |[],_=>rfl
 |d::l,h=>by
  simp only[Va,zY] at h;rw[YL,qnC p l h.2];unfold qaB;rw[if_pos h.1]
theorem q6i{F:zG}{f:Nat}{args:List D}{H:qe}{r:D×qe}(h:Ku F f args H=some r):∃p,qdJ F f args H p=some r:=by
 unfold Ku at h;split at h
 .rename_i i st off a;split at h
  .rename_i ds d;split at h
   .rename_i c;simp only[zY] at c;split at h
    .rename_i g ds' L e;split at h
     .rename_i b;simp only[zY] at b;injection h with h;subst h;have k:i<H.length:=qx d
      have j:YL [i] (.optr i st off::a)=some (.optr 0 st off::a):=by
       rw[YL,qnC _ _ c.1];simp[qaB,idFree,renD,JF]
      have e2:XY [i] H [i]=some [some ds]:=by
       simp only[XY,d,XZ,qkL,c.2,if_true]
      refine⟨[i],?_⟩;unfold qdJ;rw[j,e2];simp only[List.nodup_cons,List.not_mem_nil,not_false_eq_true,List.nodup_nil,and_self,if_true,e];rw[qkm i H.length wC g b.1.1,qoC _ _ (some ds'::L) (by simp[qfA,b.1.2,b.2])];simp[J6,qn]
     .cases h
    .cases h
   .cases h
  .cases h
 .cases h
theorem q6f{F:zG}(c:VC X F){f:Nat}(_:(X.gr f&&X.byRef f)=false){args:List D}{r:D}{vs:List Value}(h:Ku F f args H=some (r,H'))(d:Sim X ok w ι H)(a:RepL ok w ι H args vs):
  Goes X.P (callFunc f vs.toArray) w (Post X H.length ok w ι H r H'):=by
 obtain⟨p,b⟩:=q6i h;exact qv8 c b d a
theorem q6j{F:zG}(c:VC X F){f:Nat}(a:(X.gr f&&X.byRef f)=false){args:List D}{r:D}{vs:List Value}(h:qbx X F f args H=some (r,H'))(d:Sim X ok w ι H)(b:RepL ok w ι H args vs):
  Goes X.P (callFunc f vs.toArray) w (Post X H.length ok w ι H r H'):=by
 unfold qbx at h;split at h
 .exact q6c c a h d b
 .exact q6f c a h d b
theorem qlP{F:zG}(x:VC X F){f:Nat}{args:List D}{r:D}{vs:List Value}(h:XV X F f args H=some (r,H'))(k:Sim X ok w ι H)(p:RepL ok w ι H args vs):
  Goes X.P (callFunc f vs.toArray) w (Post X H.length ok w ι H r H'):=by
 unfold XV at h;split at h
 .split at h
  .split at h
   .exact qv8 x h k p
   .rename_i G;exact q6j x (by simp[G]) h k p
  refine(x f args H r H' ok w ι vs h k p).mono fun v w' C=>?_;obtain⟨ι',ok',I,E,h3,_⟩:=C;exact⟨ι',ok',I,E,h3⟩
 .rename_i V;have B:(X.gr f&&X.byRef f)=false:=by simp[V]
  split at h
  .rename_i vK;split at h
   .cases h
   .rename_i O L hc;injection h with h;injection h with I E;subst I;subst E;refine(x f args [] O L ok w jA vs hc (qmY k) ⟨p.1,fun j d g=>(p.2 j d g).free (qc1 vK d (mem_of_get? g)) _ _⟩).mono fun v w' C=>?_;obtain⟨ι1,q,u,R,c,m⟩:=C;replace m:=m B;have o:∀b,b<w.heap.size->w'.heap[b]?=w.heap[b]?:=fun b l=>c.frame b l (fun i ds s a=>xk)
    obtain⟨T,J⟩:=qv7 (L:=L) (ι1:=ι1) (ok2:=q) k ⟨c.os,c.tape,c.output⟩ c.size o c.okU (fun b l y=>(c.okN b l y).resolve_right fun⟨i,ds,s,a,_⟩=>xk) u.okS u.inj (fun i ds a=>by
     obtain⟨b,arr,e,fr,z,Y,U,S,W,M,Q,K⟩:=u.blk i ds a;refine⟨b,arr,e,fr,z,?_,Y,U,S,W,M,Q,fun j d g=>(K j d g).free (qc1 (m i ds (vp _) a) d (mem_of_get? g)) _ _⟩;rcases Kx b w.heap.size with y|A
     .obtain⟨j,es,s',g,_⟩:=c.own i ds b _ a z y;simp[qd] at g
     .exact A)
    exact⟨_,q,T,R.shift ι H,J⟩
  .split at h
   .cases h
   .rename_i n QL;split at h
    .cases h
    .rename_i O L hc;split at h
     .rename_i t;rw[zY] at t;injection h with h;injection h with I E;subst I;subst E;obtain⟨l1,l2⟩:=freeze_rep.freezeL_rep k args (vs:=fun j=>vs.getD j undef) p.2 QL;refine(x f n [] O L (qh6 ok ι H) w jA vs hc (qxG k) ⟨by rw[p.1,l1],l2⟩).mono fun v w' C=>?_;obtain⟨ι1,q,u,R,c,m⟩:=C;replace m:=m B;have o:∀b,b<w.heap.size->w'.heap[b]?=w.heap[b]?:=fun b l=>c.frame b l (fun i ds s a=>xk)
      obtain⟨T,J⟩:=qv7 (L:=L) (ι1:=ι1) (ok2:=ok) k ⟨c.os,c.tape,c.output⟩ c.size o (fun _ h=>h) (fun _ h _=>h) (fun b l=>vd (k.okS b l) c.size) u.inj (fun i ds a=>by
       obtain⟨b,arr,e,fr,z,Y,U,S,W,M,Q,K⟩:=u.blk i ds a
       have A:w.heap.size<=b:=by
        rcases Kx b w.heap.size with y|A
        .obtain⟨j,es,s',g,_⟩:=c.own i ds b _ a z y;simp[qd] at g
        .exact A
       refine⟨b,arr,e,fr,z,A,fun l=>by have:=k.okS b l;omega,U,S,W,M,Q,fun j d g=>?_⟩
       have N:vFree d=true:=by
        have Z:=qx a
        have Zr:some ds∈L:=by
         unfold qd at a;rw[qM Z] at a;simp only[Vm] at a;rw[<-a];exact vC Z
        have:=List.all_eq_true.1 t.2 _ Zr;simp only[qlR] at this;exact List.all_eq_true.1 this d (mem_of_get? g)
       exact((K j d g).free (qc1 (m i ds (vp _) a) d (mem_of_get? g)) _ _).vfree N ok)
      exact⟨_,ok,T,(R.vfree t.1 ok).shift ι H,J⟩
     .cases h
mutual
theorem qhq(n:Nat):∀(d:D),idFree d=true->shift n d=d
 | .agg cs,h=>by simp only[idFree] at h;simp only[shift,qhr n cs h]
 | .tup cs,h=>by simp only[idFree] at h;simp only[shift,qhr n cs h]
 | .fn f cs,h=>by simp only[idFree] at h;simp only[shift,qhr n cs h]
 | .iface t d,h=>by simp only[idFree] at h;simp only[shift,qhq n d h]
 | .optr ..,h=>by simp[idFree] at h
 | .osl ..,h=>by simp[idFree] at h
 | .bool _,_=>rfl
 | .int _ _,_=>rfl
 | .str _,_=>rfl
 | .nilp,_=>rfl
 | .nilf,_=>rfl
 | .nili,_=>rfl
 | .raw _,_=>rfl
 | .vptr _,_=>rfl
 | .vsl ..,_=>rfl
theorem qhr(n:Nat):∀(cs:List D),idFree.idFreeL cs=true->shift.shiftL n cs=cs
 |[],_=>rfl
 |d::l,h=>by
  simp only[idFree.idFreeL,zY] at h;simp only[shift.shiftL,qhq n d h.1,qhr n l h.2]
end
theorem qgP{F:zG}{f:Nat}{args:List D}{r:D×qe}(d:(X.pureF f&& !X.byRef f)=true)(h:ZF X F f args H=some r):r.2=H/\idFree r.1=true/\
  ((args.all idFree=true/\F f args []=some (r.1,[]))\/
   (¬args.all idFree=true/\X.perm f=true/\args.all (qbr H)=true/\vFree r.1=true/\∃a,qcr H args=some a/\F f a []=some (r.1,[]))):=by
 unfold ZF at h;rw[if_pos d] at h;split at h
 .rename_i c;split at h
  .rename_i e hc;split at h
   .rename_i hi;injection h with h;subst h;exact⟨rfl,hi,.inl ⟨c,hc⟩⟩
   .cases h
  .cases h
 .rename_i c;split at h
  .rename_i b;rw[zY] at b;split at h
   .rename_i a g;split at h
    .rename_i e hc;split at h
     .rename_i hi;rw[zY] at hi;injection h with h;subst h;exact⟨rfl,hi.1,.inr ⟨c,b.1,b.2,hi.2,a,g,hc⟩⟩
     .cases h
    .cases h
   .cases h
  .cases h
theorem qiE{F:zG}{f:Nat}{args:List D}{r:D×qe}(h:ZF X F f args H=some r):XV X F f args H=some r:=by
 by_cases b:(X.pureF f&& !X.byRef f)=true
 .obtain⟨i,c,a⟩:=qgP b h
  have g:¬X.byRef f=true:=by
   rw[zY] at b;simpa using b.2
  obtain⟨r,H'⟩:=r;simp only at c i a;subst i;unfold XV;rcases a with⟨a,d⟩|⟨a,_,_,j,e,k,d⟩
  .rw[if_neg g,if_pos a,d];simp only[qhq _ _ c,J4]
  .rw[if_neg g,if_neg a,k];simp only[d,j,List.all_nil,Bool.and_self,if_true,qhq _ _ c,J4]
 .unfold ZF at h
  rwa [if_neg b] at h
theorem qxE{i:Nat}{ds ds':List D}(o:Sim X ok w ι H)(u:qd H i=some ds)(I:ds.length=ds'.length)(N:∀b arr e fr,ι i=some (b,arr.size)->w.heap[b]?=some (.cells arr e fr)->∀(j:Nat) d,ds'[j]?=some d->Rep ok w jA [] d (arr.getD j undef)):
  Sim X ok w ι (qn H i ds')/\Evol H.length ok w ι H ok w ι (qn H i ds'):=by
 have O:i<H.length:=qx u
 have E:∀j f,qd (qn H i ds') j=some f->(j=i/\f=ds')\/(j≠i/\qd H j=some f):=by
  intro j f g;by_cases B:j=i
  .subst B;simp only[qd,qn] at g;rw[List.getElem?_set_self O] at g;exact .inl ⟨rfl,by simpa using g.symm⟩
  .refine .inr ⟨B,?_⟩;simp only[qd,qn] at g⊢
   rwa [List.getElem?_set_ne (Ne.symm B)] at g
 have k:∀j f,qd (qn H i ds') j=some f->∃l,qd H j=some l:=by
  intro j f g;rcases E j f g with⟨rfl,_⟩|⟨_,h⟩
  .exact⟨ds,u⟩
  .exact⟨f,h⟩
 have p:Evol H.length ok w ι H ok w ι (qn H i ds'):=by
  refine⟨rfl,rfl,rfl,qA _,fun _ _ _=>rfl,fun _ h=>h,fun b h _=>.inl h,⟨qA _,by simp[qn]⟩,?_,?_⟩
  .intro j _ f g;rcases E j f g with⟨rfl,rfl⟩|⟨_,h⟩
   .exact⟨ds,u,by rw[I];exact qA _,fun _=>rfl⟩
   .exact⟨f,h,qA _,fun _=>rfl⟩
  .intro j f b s g F _;obtain⟨l,M⟩:=k j f g;exact⟨j,l,s,M,F⟩
 refine⟨⟨o.okS,o.glob,?_,?_⟩,p⟩
 .intro a c f C b s Q T hc F L;obtain⟨P,S⟩:=k a f T;obtain⟨e2,R⟩:=k c C hc;exact o.inj a c P e2 b s Q S R F L
 .intro j f g;rcases E j f g with⟨rfl,rfl⟩|⟨_,h⟩
  .obtain⟨b,arr,e,fr,t,A,q,v,x,r,J,y⟩:=o.blk j ds u;have G:=N b arr e fr t q;refine⟨b,arr,e,fr,t,A,q,by rw[<-I];exact v,x,r,fun d n=>?_,fun m d n=>(G m d n).lift⟩;obtain⟨m,K,U⟩:=List.mem_iff_getElem.1 n;have z:f[m]?=some d:=(by rw[qM K,U]);exact qhS (G m d z) (r m wC)
  .obtain⟨b,arr,e,fr,t,A,q,v,x,r,J,y⟩:=o.blk j f h;exact⟨b,arr,e,fr,t,A,q,v,x,r,J,fun m d n=>(y m d n).evol o p (y m d n).closed⟩
theorem qvz:Evol H.length ok w ι H ok w ι H:=
 ⟨rfl,rfl,rfl,qA _,fun _ _ _=>rfl,fun _ h=>h,fun _ h _=>.inl h,⟨qA _,qA _⟩,fun _ _ ds a=>⟨ds,a,qA _,fun _=>rfl⟩,fun i ds _ s a hi _=>⟨i,ds,s,a,hi⟩⟩
theorem qmF{i:Nat}(h:ZK H i=some H')(n:Sim X ok w ι H):∃ok',Sim X ok' w ι H'/\Evol H.length ok w ι H ok' w ι H'/\H'.length=H.length:=by
 unfold ZK at h;split at h
 .rename_i ds f;split at h
  .injection h with h;subst h;exact⟨ok,n,qvz,rfl⟩
  split at h
  .rename_i ds' l z;split at h
   .cases h
   .rename_i F;injection h with h;subst h
    have Zu:qd (jS H l) i=some ds:=by
     have:∀(l:List Nat)(H:qe),qd H i=some ds->i∉l->qd (jS H l) i=some ds:=by
      intro l
      induction l with
      |nil=>intro H h _;exact h
      |cons a l M=>
       intro H h u;simp only[jC,not_or] at u;refine M _ ?_ u.2;unfold qd at h⊢
       rwa [List.getElem?_set_ne (Ne.symm u.1)]
     exact this l H f F
    have p:=qgM n l
    have c:∀b arr e fr,ι i=some (b,arr.size)->w.heap[b]?=some (.cells arr e fr)->ds.length=ds'.length/\∀(j:Nat) d,ds'[j]?=some d->Rep (Ye ok ι H l) w jA [] d (arr.getD j undef):=by
     intro b arr e fr t r;obtain⟨b',arr',Q,I,k,G,g,N,O,P,R,A⟩:=n.blk i ds f;rw[t] at k;injection k with k;injection k with q L;subst q;rw[r] at g;injection g with g;injection g with o J K;subst o
     exact qcJ (cond:=fun i=>∀ds b s,qd H i=some ds->ι i=some (b,s)->Ye ok ι H l b) (fun d d' B v C f hc=>qeT n (okF:=Ye ok ι H l) (fun b x=>.inl x) 9 d d' B v C f hc) ds (vs:=fun j=>arr.getD j undef) A z
      (fun i hi ds b s f x=>.inr ⟨i,ds,s,hi,f,x⟩)
    obtain⟨b,arr,e,fr,k,G,g,-⟩:=n.blk i ds f;obtain⟨E,y⟩:=qxE p Zu (c b arr e fr k g).1 (fun b arr e fr t r=>(c b arr e fr t r).2);have m:(qn (jS H l) i ds').length=H.length:=(by rw[qn,vH,QF]);rw[QF] at y;exact⟨Ye ok ι H l,E,(qeC (ok:=ok) (w:=w) (ι:=ι) (H:=H) l).trans y,m⟩
  .cases h
 .cases h
theorem qju{e:qu}:∀{b:List Nat}{H H':qe}{ok:Nat->Prop},qcK e b H=some H'->Sim X ok w ι H->∃ok',Sim X ok' w ι H'/\Evol H.length ok w ι H ok' w ι H'/\H'.length=H.length
 |[],H,H',ok,h,a=>by
  injection h with h;subst h;exact⟨ok,a,qvz,rfl⟩
 |s::b,H,H',ok,h,a=>by
  have f:∀{i:Nat},(match ZK H i with
   |some H'=>qcK e b H'
   |none=>none)=some H'->∃ok',Sim X ok' w ι H'/\Evol H.length ok w ι H ok' w ι H'/\H'.length=H.length:=by
   intro i h;split at h
   .rename_i o k;obtain⟨l,j,g,n⟩:=qmF k a;obtain⟨ok2,m,c,d⟩:=qju h j;rw[n] at c d;exact⟨ok2,m,g.trans c,d⟩
   .cases h
  unfold qcK at h;split at h
  .exact f h
  .exact f h
  .exact qju h a
theorem q6s{F:zG}(i:VC X F){f:Nat}{args:List D}{r:D}{vs:List Value}(h:XW X F f args H=some (r,H'))(g:Sim X ok w ι H)(e:RepL ok w ι H args vs):
  Goes X.P (callFunc f vs.toArray) w (Post X H.length ok w ι H r H'):=by
 unfold XW at h;split at h
 .exact qlP i (qiE h) g e
 .split at h
  .rename_i q a;unfold qjv at a;split at a
   .obtain⟨p,n,c,b⟩:=qmF a g;refine(qlP i (qiE h) n ⟨e.1,fun j d l=>(e.2 j d l).evol g c (e.2 j d l).closed⟩).mono ?_;rintro v w' ⟨ι',ok',o,m,k⟩;rw[b] at k;exact⟨ι',ok',o,m,c.trans k⟩
   .cases a
  .cases h
theorem q6p{F:zG}(n:VC X F){f:Nat}{args:List D}{r:D}{vs:List Value}(h:VA X F f args H=some (r,H'))(g:Sim X ok w ι H)(a:RepL ok w ι H args vs):
  Goes X.P (callFunc f vs.toArray) w (Post X H.length ok w ι H r H'):=by
 unfold VA at h;split at h
 .exact q6s n h g a
 .split at h
  .rename_i e l c
   obtain⟨u,p⟩:=qcJ (cond:=fun i=>∀ds b s,qd H i=some ds->ι i=some (b,s)->Ye ok ι H l b) (fun d d' z v x m hc=>qeT g (okF:=Ye ok ι H l) (fun b k=>.inl k) 9 d d' z v x m hc) args (vs:=fun j=>vs.getD j undef) a.2 c
    (fun i hi ds b s m k=>.inr ⟨i,ds,s,hi,m,k⟩)
   refine(qlP n (qiE h) (qgM g l) ⟨by rw[a.1,u],fun j d q=>(p j d q).lift⟩).mono ?_;rintro v w' ⟨ι',ok',y,t,o⟩;rw[QF] at o;exact⟨ι',ok',y,t,(qeC l).trans o⟩
  .cases h
theorem qiF{F:zG}{f:Nat}{args:List D}{H:qe}(a:(X.perm f&& !X.pureF f&& !X.byRef f)=false)(b:(X.perm f&&X.byRef f)=false):VA X F f args H=ZF X F f args H:=by
 unfold VA XW;rw[a,b]
theorem RepL.append{xs f:List D}{vs us:List Value}(a:RepL ok w ι H xs vs)(c:RepL ok w ι H f us):RepL ok w ι H (xs++f) (vs++us):=by
 refine⟨by simp[a.1,c.1],fun j d b=>?_⟩;rw[jy];by_cases e:j<xs.length
 .rw[vD e] at b;rw[vD (by rw[a.1];exact e)];have:=a.2 j d b
  rwa [jy] at this
 .rw[jl wC] at b;rw[jl (by rw[a.1];omega),a.1];have:=c.2 _ d b
  rwa [jy] at this
theorem qn9{ds:List D}{vs:Array Value}(a:vs.size=ds.length)(h:∀(j:Nat) d,ds[j]?=some d->Rep ok w ι H d (vs.getD j undef)):RepL ok w ι H ds vs.toList:=
 ⟨wZ,fun j d b=>by
  have:=h j d b;simpa[j8,jy] using this⟩
theorem J7{d:D}{ds:List D}{vs:List Value}(h:RepL ok w ι H (d::ds) vs):∃v us,vs=v::us/\Rep ok w ι H d v/\RepL ok w ι H ds us:=by
 cases vs with
 |nil=>have:=h.1;simp at this
 |cons v us=>exact⟨v,us,rfl,h.2 0 d rfl,by have:=h.1;simpa using this,fun j x a=>h.2 (j+1) x wZ⟩
theorem qcO{vs:List Value}(h:RepL ok w ι H [] vs):vs=[]:=ky (by simpa using h.1)
theorem Zp{α:Type}{x:Option α}{H H':qe}{d:α}(h:x.map (·,H)=some (d,H')):x=some d/\H=H':=by
 cases x with
 |none=>simp at h
 |some y=>simp only[jn,qy,zi] at h;exact⟨by rw[h.1],h.2⟩
theorem qoK{c:Bool}{args:List D}{d:D}{vs:List Value}(e:RepL ok w ι H args vs)(h:qgq c args=some d){P:Program}{ts:Array TypeId}{t:TypeId}:
  ∃v,((if c then Builtin.max_ else Builtin.min_) ts t vs.toArray).run P w=.ok v w/\Rep ok w ι H d v:=by
 unfold qgq at h;split at h
 .split at h
  .rename_i k a k' b l;subst l;injection h with h;subst h;obtain⟨v1,us,rfl,i,g⟩:=J7 e;obtain⟨m,us,rfl,j,f⟩:=J7 g;obtain rfl:=qcO f;cases i;cases j;cases c
   .exact⟨_,by simp[Builtin.min_,Builtin.min2],.int _ _⟩
   .exact⟨_,by simp[Builtin.max_,Builtin.max2],.int _ _⟩
  .cases h
 .cases h
theorem q6x{b:Builtin}{ts:Array TypeId}{t:TypeId}{cst:Array Bool}{args:List D}{d:D}{vs:List Value}(k:Sim X ok w ι H)(j:RepL ok w ι H args vs)(h:qdL X b ts.toList args H=some (d,H')):
  Goes X.P (builtin b ts t cst vs.toArray) w (Post X H.length ok w ι H d H'):=by
 unfold qdL at h;split at h
 .rename_i f n x p e;cases z:qO X.P f x with
  |none=>simp[z] at h
  |some r=>
   simp only[z,jn,qy,zi] at h;obtain⟨rfl,rfl⟩:=h;obtain⟨v,us,rfl,g,_⟩:=J7 j;obtain⟨i,a,c⟩:=q0Y (P:=X.P) (ty:=t) (ts:=ts) (vs:=(v::us).toArray) yR wE g z;exact Goes.value (by simp[builtin,a]) (Post.same k c)
 .rename_i f u n s x p e;obtain⟨v1,us,rfl,g,y⟩:=J7 j;obtain⟨l,us,rfl,B,C⟩:=J7 y;obtain⟨i,m,a,c⟩:=q6E (P:=X.P) (ty:=t) k g B h;refine Goes.value (w':=m) (v:=i) ?_ c;have q:ts[0]?=some f:=by rw[<-Array.getElem?_toList,e];rfl
  have e2:ts[1]?=some u:=yR
  have o:Builtin.append_ ts t (v1::l::us).toArray=Builtin.append_ #[f,u] t #[v1,l]:=by
   simp only[Builtin.append_,q,e2];rfl
  simp[builtin,o,a]
 .rename_i f u n s x p e;obtain⟨v1,us,rfl,g,y⟩:=J7 j;obtain⟨l,us,rfl,B,C⟩:=J7 y;obtain⟨i,m,a,c⟩:=q5r (P:=X.P) (ty:=t) k g B h;refine Goes.value (w':=m) (v:=i) ?_ c;have q:ts[0]?=some f:=by rw[<-Array.getElem?_toList,e];rfl
  have o:Builtin.copy_ ts t (v1::l::us).toArray=Builtin.copy_ #[f,u] t #[v1,l]:=by
   simp only[Builtin.copy_,q];rfl
  simp[builtin,o,a]
 .obtain⟨A,rfl⟩:=Zp h;obtain⟨v,a,c⟩:=qoK (P:=X.P) (ts:=ts) (t:=t) j A;simp only[Qd,if_false] at a;exact Goes.value (by simp[builtin,a]) (Post.same k c)
 .obtain⟨A,rfl⟩:=Zp h;obtain⟨v,a,c⟩:=qoK (P:=X.P) (ts:=ts) (t:=t) j A;simp only[if_true] at a;exact Goes.value (by simp[builtin,a]) (Post.same k c)
 .rename_i f n x p e;obtain⟨v,us,rfl,g,_⟩:=J7 j;obtain⟨i,m,a,c⟩:=q5T (P:=X.P) (ty:=t) (ts:=ts) (us:=(v::us).toArray) yR wE k g h;exact Goes.value (w':=m) (v:=i) (by simp[builtin,a]) c
 .cases h
theorem qwm{t:TypeId}{cs:List D}(k:Sim X ok w ι H)(h:(Xu X.P t).bind cellsOf=some cs):∃v w',(Instr.alloc t true (.tuple #[])).run X.P w=.ok v w'/\Post X H.length ok w ι H (.optr H.length cs.length 0) (qr H cs) v w':=by
 cases b:Xu X.P t with
 |none=>simp[b] at h
 |some z=>
  simp only[b,Y9] at h;obtain⟨f,i,l⟩:=qfO b;obtain⟨n,c,d⟩:=qbw (l ok w ι H) h
  obtain⟨ι',n1,n2,n3⟩:=qfj (e:=t) (arr:=f.cells) (ds:=cs) k w ⟨rfl,rfl,rfl⟩ rfl wC
   (fun j m=>by
    have g:cs[j]?=some (cs[j]' wC):=qM wC;exact(d j _ g).oneCell (c _ (mem_of_get? g)))
   c d
  refine⟨.pointer (some ⟨w.heap.size,0,none⟩),w.alloc (.cells f.cells t),by simp[Instr.alloc,i,newVar,newRow],ι',ok,n1,?_,n2⟩;refine .optr _ wW fun ds a=>?_;rw[zF] at a;injection a with a;subst a;exact⟨qA _,fun _=>⟨_,_,n3,rfl⟩⟩
theorem q63{t:TypeId}{d:D}{v:Value}{cs:List D}(i:Sim X ok w ι H)(a:Rep ok w ι H d v)(h:cellsOf d=some cs):∃c w',(Instr.box t v).run X.P w=.ok c w'/\Post X H.length ok w ι H (.optr H.length cs.length 0) (qr H cs) c w':=by
 obtain⟨l,b,f⟩:=qbw a h
 obtain⟨ι',n1,n2,n3⟩:=qfj (e:=t) (arr:=v.cells) (ds:=cs) i w ⟨rfl,rfl,rfl⟩ rfl wC
  (fun j k=>by
   have g:cs[j]?=some (cs[j]' wC):=qM wC;exact(f j _ g).oneCell (b _ (mem_of_get? g)))
  b f
 refine⟨.pointer (some ⟨w.heap.size,0,none⟩),w.alloc (.cells v.cells t),by simp[Instr.box,newVar,newRow],ι',ok,n1,?_,n2⟩;refine .optr _ wW fun ds a=>?_;rw[zF] at a;injection a with a;subst a;exact⟨qA _,fun _=>⟨_,_,n3,rfl⟩⟩
theorem qh4(c:Sim X ok w ι H){e:qu}{a:Act}(f:EnvRep ok w ι H e a.tmps){x:Operand}{d:D}(h:qY X e x=some d):∀y,some d=some y->∃v,(some x:Option Operand).map a.eval=some v/\Rep ok w ι H y v:=by
 intro y b;injection b with b;subst b;exact⟨_,rfl,vj c f h⟩
theorem qol{F:zG}(hF:VC X F){o:Oper}{e:qu}{a:Act}{d:D}(m:Sim X ok w ι H)(A:EnvRep ok w ι H e a.tmps)(h:zI X F o.op e H=some (d,H')):
  Goes X.P (execOp a.eval o) w (Post X H.length ok w ι H d H'):=by
 have k:∀{v:Value}{d:D},Rep ok w ι H d v->∀{s:Sem Next},s.run X.P w=.ok (.value v) w->Goes X.P s w (Post X H.length ok w ι H d H):=fun Y _ h=>Goes.value h (Post.same m Y);unfold zI at h;split at h
 .rename_i x n;obtain⟨z,rfl⟩:=Zp h;exact k (vj m A z) (by simp[execOp,n])
 .rename_i x n;obtain⟨z,rfl⟩:=Zp h;exact k (vj m A z) (by simp[execOp,n])
 .rename_i c x y n;split at h
  .rename_i t hc;obtain⟨z,rfl⟩:=Zp h;have E:=vj m A hc;generalize K:a.eval c=cv at E;cases E;refine k (v:=a.eval (if t then x else y)) (vj m A z) ?_;cases t<;>simp[execOp,n,K,asBool]
  .cases h
 .rename_i t n;split at h
  .rename_i cs U;injection h with h;injection h with z J;subst z;subst J;obtain⟨v,W,C,B⟩:=qwm m U;exact Goes.value wX B
  .cases h
 .rename_i t x n;split at h
  .rename_i cs U;split at h
   .injection h with h;injection h with z J;subst z;subst J;cases hx:qY X e x with
    |none=>simp[hx] at U
    |some dx=>
     simp only[hx,Y9] at U;obtain⟨v,W,C,B⟩:=q63 (t:=t) m (vj m A hx) U;exact Goes.value wX B
   .cases h
  .cases h
 .rename_i t G n;split at h
  .rename_i ps XC;obtain⟨z,rfl⟩:=Zp h;obtain⟨v,C,B⟩:=q6z (P:=X.P) (vps:=G.map fun(i,x)=>(i,a.eval x)) (by simpa using qhz m A XC) z;exact k B wX
  .cases h
 .rename_i t ae G n;split at h
  .rename_i ps XC;obtain⟨v,W,C,B⟩:=q60 (P:=X.P) (vps:=G.map fun(i,x)=>(i,a.eval x)) m (by simpa using qhz m A XC) h;exact Goes.value wX B
  .cases h
 .rename_i t p n;split at h
  .rename_i pd hp;obtain⟨z,rfl⟩:=Zp h;obtain⟨v,C,B⟩:=qpf m (vj m A hp) z;exact k B wX
  .cases h
 .rename_i t p x n;split at h
  .rename_i pd xd hp hx;cases R:stD X.P H t pd xd with
   |none=>simp[R] at h
   |some H1=>
    simp only[R,jn,qy,zi] at h;obtain⟨rfl,rfl⟩:=h;obtain⟨W,ι',C,B,q3⟩:=qxf m (vj m A hp) (vj m A hx) R;exact Goes.skip wX ⟨ι',ok,B,.tup rfl wE,q3⟩
  .cases h
 .rename_i x n;split at h
  .rename_i cs hx;injection h with h;injection h with z J;subst z;subst J;have E:=vj m A hx;generalize K:a.eval x=cv at E;refine k E ?_;cases E;simp[execOp,n,K]
  .rename_i i st off hx;injection h with h;injection h with z J;subst z;subst J;have E:=vj m A hx;generalize K:a.eval x=cv at E;refine k E ?_;cases E;simp[execOp,n,K]
  .rename_i f I hx;injection h with h;injection h with z J;subst z;subst J;have E:=vj m A hx;generalize K:a.eval x=cv at E;refine k E ?_;cases E;simp[execOp,n,K]
  .rename_i t d hx;injection h with h;injection h with z J;subst z;subst J;have E:=vj m A hx;generalize K:a.eval x=cv at E;refine k E ?_;cases E;simp[execOp,n,K]
  .cases h
 .rename_i op t x y yt n;split at h
  .rename_i p q hx T;obtain⟨z,rfl⟩:=Zp h;obtain⟨v,C,B⟩:=q64 (P:=X.P) (x:=x) (y:=y) (vj m A hx) (vj m A T) z;have e:execOp a.eval o=(do let r<-(do eqGuard op t x y (a.eval x) (a.eval y);binOp op t (a.eval x) (a.eval y):Sem Value);pure (.value r)):=(by simp only[execOp,n]);exact k B (by rw[e,Sem.run_bind,C];rfl)
  .cases h
 .rename_i op t x n;split at h
  .rename_i p hx;obtain⟨z,rfl⟩:=Zp h;obtain⟨v,C,B⟩:=qwC (P:=X.P) (vj m A hx) z;exact k B wX
  .cases h
 .rename_i s t x n;split at h
  .rename_i p hx;obtain⟨v,W,C,B⟩:=qvg (P:=X.P) m (vj m A hx) h;exact Goes.value wX B
  .cases h
 .rename_i t x n;split at h
  .cases h
  .rename_i p u hu hx ac;injection h with h;injection h with z J;subst z;subst J;refine k (.iface (vj m A hx)) ?_;simp only[execOp,n,Instr.makeInterface,Sem.run_bind,run_underlying ac,Result.andThen_ok];cases u<;>first|rfl|exact absurd rfl (hu _)
  .cases h
 .rename_i f first I n
  split at h
  .rename_i Z;cases Q:vO X e I.toList with
   |none=>simp[Q] at h
   |some cs=>
    simp only[Q,jn,qy,zi] at h;obtain⟨rfl,rfl⟩:=h;obtain⟨l1,l2⟩:=qgh m A Q;have aa:first= #[]:=by simpa using Z
    subst aa;refine k (v:=.func (.func f) #[] (I.map a.eval)) (.fn (by simpa using l1) fun j d hj=>?_) (by simp[execOp,n,Instr.makeFunc]);have:=l2 j d hj;simpa[j8,jy] using this
  .cases h
 .rename_i t l c n;split at h
  .rename_i ld cd V hc;obtain⟨v,W,C,B⟩:=q0N (P:=X.P) m (vj m A V) (vj m A hc) h;exact Goes.value wX B
  .cases h
 .rename_i t x M hi n;split at h
  .rename_i p hx O N;obtain⟨z,rfl⟩:=Zp h;have e1:M=none:=(by cases M<;>simp_all);have e2:hi=none:=(by cases hi<;>simp_all);subst e1;subst e2;obtain⟨v,C,B⟩:=qhn (P:=X.P) (lov:=none) (hiv:=none) m (vj m A hx) (fun _ h=>wI) (fun _=>rfl) (fun _ h=>wI) (fun _=>rfl) z;exact k B wX
  .rename_i p l hx O N;obtain⟨z,rfl⟩:=Zp h;have e2:hi=none:=(by cases hi<;>simp_all);subst e2;cases M with
   |none=>simp at O
   |some M=>
    simp only[jn,qy] at O;obtain⟨v,C,B⟩:=qhn (P:=X.P) (lov:=some (a.eval M)) (hiv:=none) m (vj m A hx) (qh4 m A O) (fun h=>wI) (fun _ h=>wI) (fun _=>rfl) z;exact k B wX
  .rename_i p l hx O N;obtain⟨z,rfl⟩:=Zp h;have e1:M=none:=(by cases M<;>simp_all);subst e1;cases hi with
   |none=>simp at N
   |some hi=>
    simp only[jn,qy] at N;obtain⟨v,C,B⟩:=qhn (P:=X.P) (lov:=none) (hiv:=some (a.eval hi)) m (vj m A hx) (fun _ h=>wI) (fun _=>rfl) (qh4 m A N) (fun h=>wI) z;exact k B wX
  .rename_i p l l' hx O N;obtain⟨z,rfl⟩:=Zp h;cases M with
   |none=>simp at O
   |some M=>
    cases hi with
    |none=>simp at N
    |some hi=>
     simp only[jn,qy] at O N;obtain⟨v,C,B⟩:=qhn (P:=X.P) (lov:=some (a.eval M)) (hiv:=some (a.eval hi)) m (vj m A hx) (qh4 m A O) (fun h=>wI) (qh4 m A N) (fun h=>wI) z;exact k B wX
  .cases h
 .rename_i s x f n;split at h
  .rename_i p hx;obtain⟨z,rfl⟩:=Zp h;obtain⟨v,C,B⟩:=q48 (P:=X.P) (vj m A hx) z;exact k B wX
  .cases h
 .rename_i s x f n;split at h
  .rename_i p hx;obtain⟨z,rfl⟩:=Zp h;obtain⟨v,C,B⟩:=q47 (P:=X.P) (vj m A hx) z;exact k B wX
  .cases h
 .rename_i t x i n;split at h
  .rename_i p q hx T;obtain⟨z,rfl⟩:=Zp h;obtain⟨v,C,B⟩:=q3l (P:=X.P) (vj m A hx) (vj m A T) z;exact k B wX
  .cases h
 .rename_i t x i n;split at h
  .rename_i p q hx T;obtain⟨z,rfl⟩:=Zp h;obtain⟨v,C,B⟩:=q3j (P:=X.P) (vj m A hx) (vj m A T) z;exact k B wX
  .cases h
 .rename_i x i n;split at h
  .rename_i cs hx;obtain⟨z,rfl⟩:=Zp h;have E:=vj m A hx;generalize K:a.eval x=cv at E;cases E with
   | @tup _ _ _ vs V hh=>
    have qg:i<vs.size:=(by rw[V];exact(List.getElem?_eq_some_iff.1 z).1);have Y:=hh i d z;rw[j8,ZJ qg] at Y;exact k (v:=vs[i]) Y (by simp[execOp,n,K,Instr.extract,qg])
  .cases h
 .rename_i c n;split at h
  .rename_i b args L S;have hv:=qgh m A S;have:=q6x (t:=o.type) (cst:=c.args.map fun| .const _=>true|_=>false) m hv h
   have e:execOp a.eval o=builtin b c.argTypes o.type (c.args.map fun| .const _=>true|_=>false) (c.args.toList.map a.eval).toArray:=by
    simp only[execOp,n,resolve,L];simp only[pure_bind,invoke];congr 1;apply Array.ext';simp
   rw[e];exact this
  .rename_i g args L S;split at h
   .rename_i f I hg;have hv:=qgh m A S;have E:=vj m A hg;generalize K:a.eval g=cv at E;cases E with
    | @fn _ _ _ _ vs V hh=>
     have:=q6p hF h m (RepL.append hv (qn9 V hh))
     have e:execOp a.eval o=callFunc f ((c.args.toList.map a.eval)++vs.toList).toArray:=by
      simp only[execOp,n,resolve,L,K,Deferred.ofValue];simp only[pure_bind,invoke];congr 1;apply Array.ext';simp
     rw[e];exact this
   .cases h
  .cases h
 .cases h
end
end Go.Ev
namespace Go.Ev
section
variable {X:Cx} {P:Program} {ok ok':Nat->Prop} {w w':World} {ι:qU} {H H':qe}
theorem qmB{ds:List D}{b m c:Nat}{arr:Array Value}{e:TypeId}{fr:Nat×Nat}(l:Sim X ok w ι H)(u:qa1 w w')(z:w.heap.size<=w'.heap.size)(p:∀c,c<w.heap.size->w'.heap[c]?=w.heap[c]?)
  (B:w'.heap[b]?=some (.cells arr e fr)) (C:w.heap.size<=b) (t:ds.length<=arr.size) (L:∀d,d∈ds->jt d=true) (K:ds.all idFree=true) (F:m<=c)
  (f:∀(j:Nat) d,ds[j]?=some d->Rep ok w ι H d (arr.getD j undef)):
  Post X H.length ok w ι H (.vsl false ds m) H (.slice (some ⟨b,0,none⟩) m c) w':=by
 have A:b<w'.heap.size:=(Array.getElem?_eq_some_iff.1 B).1
 have a:Evol H.length ok w ι H (fun x=>ok x\/x=b) w' ι H:=
  ⟨u.1,u.2.1,u.2.2,z,fun c hc _=>p c hc,fun _ h=>.inl h,fun x hx q=>by
   rcases hx with hx|hx
   .exact .inl hx
   .omega,⟨qA _,qA _⟩,fun _ _ ds n=>⟨ds,n,qA _,fun _=>rfl⟩,fun i ds _ s n hi _=>⟨i,ds,s,n,hi⟩⟩
 have o:Sim X (fun x=>ok x\/x=b) w' ι H:=by
  refine⟨fun x hx=>?_,fun g cs P=>(((l.glob g cs P).lift (ι:=ι) (H:=H)).evol l a rfl).free rfl _ _,l.inj,fun i J n=>?_⟩
  .rcases hx with hx|hx
   .exact vd (l.okS x hx) z
   .omega
  .obtain⟨b',arr',N,r,y,G,O,M,Q,E,I,v⟩:=l.blk i J n;have q:=l.lt n y;refine⟨b',arr',N,r,y,fun h=>?_,by rw[p b' q];exact O,M,Q,E,I,fun j d k=>(v j d k).evol l a (v j d k).closed⟩;rcases h with h|h
   .exact G h
   .omega
 refine⟨ι,_,o,.vsl _ (fun j=>arr.getD j undef) (fun _ _=>.inr rfl) L (fun j d k=>?_) (fun j d k=>?_) F,a⟩
 .have q:j<arr.size:=vd (List.getElem?_eq_some_iff.1 k).1 t;rw[Vl,J3,Y6 B];simp[q]
 .exact((f j d k).evol l a (f j d k).closed).free (qc1 K d (mem_of_get? k)) _ _
theorem q0U{t:TypeId}{a:Nat}{b:List (Nat×D)}{vps:Array (Nat×Value)}{i st o n k:Nat}{ds:List D}(O:Sim X ok w ι H)(F:qdS ok w ι H b vps.toList)(h:qcz X.P [] t a b=some (.osl i st o n k,[some ds])):
  ∃v w',(Instr.buildSlice t a vps).run X.P w=.ok v w'/\Post X H.length ok w ι H (.vsl false ds a) H v w':=by
 unfold qcz at h;split at h
 .rename_i e C;split at h
  .rename_i z I;split at h
   .rename_i g;cases A:Y5 (fun i=>some (i*qw X.P e,qw X.P e)) z b with
    |none=>simp[A] at h
    |some cs=>
     simp only[A,Y9] at h;split at h
     .rename_i f;have x:cs.all idFree=true/\cs.length=a*qw X.P e:=⟨f.1.resolve_left wE,f.2⟩;clear f;simp only[qr,QW,qy,zi,qa2,and_true] at h;obtain⟨_,G⟩:=h;subst G;obtain⟨y,M,Q,E,J,B,S,K⟩:=qb1 I
      obtain⟨m,r,q,p⟩:∃m:Array Value,(a*qw X.P e=0->m= #[])/\(¬a*qw X.P e=0->m=y.cells)/\
        ∀j,j<a*qw X.P e->((Array.range (a*qw X.P e)).map (m[· % m.size]!)).getD j undef=y.cells.getD (j % qw X.P e) undef:=by
       by_cases l:a*qw X.P e=0
       .exact⟨#[],fun _=>rfl,fun h=>absurd l h,fun j s=>wC⟩
       .refine⟨y.cells,fun h=>absurd h l,fun _=>rfl,fun j s=>?_⟩;rw[qiZ wC s,Q]
      obtain⟨arr,u,R,N,L,T⟩:=qg4 (place:=fun i=>some (i*qw X.P e,qw X.P e)) (arr:=(Array.range (a*qw X.P e)).map (m[· % m.size]!)) F (by simp[J]) B
       (fun j d s=>by
        rw[p j (by have:=(List.getElem?_eq_some_iff.1 s).1;omega)];exact K ok w ι H j d s) A
      refine⟨.slice (some ⟨w.heap.size,0,none⟩) a a,w.alloc (.cells arr e),?_,qmB O ⟨rfl,rfl,rfl⟩ wE (fun c hc=>heap_alloc_old w _ hc) (heap_alloc_new w _) (qA _) wC N x.1 (qA _) L⟩;simp only[Instr.buildSlice,Sem.run_bind,run_underlying C,Result.andThen_ok,QC E];rw[if_neg xD];by_cases l:a*qw X.P e=0
      .rw[r l] at u;rw[if_pos l];simp only[Sem.run_bind,Sem.run_pure,Result.andThen_ok,u];simp[newRow]
      .rw[q l] at u;rw[if_neg l];simp only[Sem.run_bind,Sem.run_pure,Result.andThen_ok,M,u];simp[newRow]
     .cases h
   .cases h
  .cases h
 .cases h
theorem q0V{f dst e:TypeId}{u:TypeDesc}{s:List UInt8}(q:Sim X ok w ι H)(p:X.P.underlying f=some u)(o:X.P.underlying dst=some (.slice e))(n:X.P.underlying e=some (.int .u8)):
  ∃v w',(convert f dst (.string ⟨s.toArray⟩)).run X.P w=.ok v w'/\Post X H.length ok w ι H (.vsl false (qf s) s.length) H v w':=by
 have k:(⟨s.toArray⟩:ByteArray).size=s.length:=by simp[ByteArray.size]
 have l:=grownCap_ge w s.length 0 e
 have r:(Lib.bytesCells w e ⟨s.toArray⟩).size=grownCap w s.length 0 e:=by
  unfold Lib.bytesCells;simp only[Array.size_append,Array.size_map,Array.size_replicate,k];simp;omega
 have i:∀j,j<s.length->(Lib.bytesCells w e ⟨s.toArray⟩).getD j undef=(YP s).getD j undef:=by
  intro j h;unfold Lib.bytesCells YP;rw[j8,qgZ wQ,jy];simp
 have a:=Lib.run_convert_string_bytes w f dst e ⟨s.toArray⟩ p o n;rw[k] at a
 refine⟨_,_,a,qmB (w':=Lib.bytesWorld w e ⟨s.toArray⟩) (b:=w.heap.size) (arr:=Lib.bytesCells w e ⟨s.toArray⟩) (ds:=qf s) q
  (by
   refine⟨?_,?_,?_⟩<;>(unfold Lib.bytesWorld World.freeze;split<;>rfl))
  (by rw[Lib.bytesWorld_size];omega) (fun c hc=>Lib.bytesWorld_at_old w e _ c hc) (Lib.bytesWorld_at_new w e _) (qA _) (by rw[r];simpa[qf] using l)
  (fun d g=>by
   simp only[qf,ZI] at g;obtain⟨_,_,rfl⟩:=g;rfl)
  (by
   rw[qgV];intro d g;simp only[qf,ZI] at g;obtain⟨_,_,rfl⟩:=g;rfl) l
  (fun j d h=>by
   have m:j<s.length:=by
    have:=(List.getElem?_eq_some_iff.1 h).1;simpa[qf] using this
   rw[i j m];exact qkc s j d h)⟩
theorem qjZ{F:zG}(B:VC X F){q:Bool}{o:Oper}{e:qu}{a:Act}{d:D}(f:Sim X ok w ι H)(k:EnvRep ok w ι H e a.tmps)(h:qZ X F q o.op e H=some (d,H')):
  Goes X.P (execOp a.eval o) w (Post X H.length ok w ι H d H'):=by
 unfold qZ at h;split at h
 .rename_i t J g j;split at h
  .rename_i ps G;split at h
   .rename_i ds n;injection h with h;injection h with z r;subst z;subst r;obtain⟨v,E,m,l⟩:=q0U (vps:=g.map fun(i,x)=>(i,a.eval x)) f (by simpa using qhz f k G) n;exact Goes.value (by simp[execOp,j,m]) l
   .cases h
  .cases h
 .rename_i s t x j;split at h
  .rename_i b u hx I;split at h
   .rename_i us y A;injection h with h;injection h with z r;subst z;subst r;have n:=vj f k hx;generalize K:a.eval x=cv at n;cases n;obtain⟨v,E,m,l⟩:=q0V (s:=b) f y I A;exact Goes.value (by simp[execOp,j,K,m]) l
   .cases h
  .rename_i p _ hx;obtain⟨v,E,m,l⟩:=qvg (P:=X.P) f (vj f k (by assumption)) h;exact Goes.value (by simp[execOp,j,m]) l
  .cases h
 .rename_i c j
  have C:zI X F (.call c) e H=some (d,H'):=by
   split at h
   .cases h
   .exact h
  rw[<-j] at C;exact qol B f k C
 .exact qol B f k h
end
end Go.Ev
namespace Go.Ev
section
variable {X:Cx} {ok ok':Nat->Prop} {w w':World} {ι:qU} {H H':qe}
def qf1(S:Nat->Prop)(o:Oper):Prop:=∀e,e∈o.after.toList->Region.binds .any e=true->S e.on
theorem qlT{a:Array Oper}{S:Nat->Prop}(F:∀(i:Nat)(o:Oper),a[i]?=some o->S i->qf1 S o){j i:Nat}{o:Oper}(G:a[j]?=some o)
  (c:qf1 S o) (z:((Region.before a).getD j 0).testBit i=true):S i:=by
 have A:∀(l b:List Oper)(acc:Array Nat),a.toList=b++l->acc.size=b.length->(∀j i,(acc.getD j 0).testBit i=true->∀o,a[j]?=some o->qf1 S o->S i)->
   ∀j i,((l.foldl (fun acc o=>acc.push (o.after.foldl (fun s e=>if Region.binds .any e then s|||2^e.on|||acc.getD e.on 0 else s) 0)) acc).getD j 0).testBit i=true->∀o,a[j]?=some o->qf1 S o->S i:=by
  intro l
  induction l with
  |nil=>intro b acc _ _ h;exact h
  |cons o l I=>
   intro b acc t B d;simp only[List.foldl_cons];refine I (b++[o]) _ (by rw[t];simp) (by simp[B]) ?_;intro j i hi q g n;by_cases J:j<acc.size
   .have:(acc.push (o.after.foldl (fun s e=>if Region.binds .any e then s|||2^e.on|||acc.getD e.on 0 else s) 0)).getD j 0=acc.getD j 0:=by
     simp only[j8];rw[Array.getElem?_push,if_neg wC]
    rw[this] at hi;exact d j i hi q g n
   .by_cases u:j=acc.size
    .subst u
     have:(acc.push (o.after.foldl (fun s e=>if Region.binds .any e then s|||2^e.on|||acc.getD e.on 0 else s) 0)).getD acc.size 0=o.after.foldl (fun s e=>if Region.binds .any e then s|||2^e.on|||acc.getD e.on 0 else s) 0:=by
      simp only[j8];rw[Array.getElem?_push,if_pos rfl];rfl
     rw[this] at hi
     have w:q=o:=by
      have C:a.toList[acc.size]?=some o:=(by rw[t,B];simp);rw[Array.getElem?_toList,g] at C;injection C
     subst w;rw[<-Array.foldl_toList] at hi
     have f:∀(k:List Edge)(s:Nat),(∀e,e∈k->e∈q.after.toList)->(∀i,s.testBit i=true->S i)->
       ∀i,(k.foldl (fun s e=>if Region.binds .any e then s|||2^e.on|||acc.getD e.on 0 else s) s).testBit i=true->S i:=by
      intro k
      induction k with
      |nil=>intro s _ r i hi;exact r i hi
      |cons e k y=>
       intro s p r i hi;simp only[List.foldl_cons] at hi;refine y _ (fun x hx=>p x (vy _ hx)) ?_ i hi;intro i hi;split at hi
       .rename_i v;rw[Nat.testBit_or,Nat.testBit_or] at hi;simp only[qdV] at hi;have m:=n e (p e (Jd ..)) v;rcases hi with(hi|hi)|hi
        .exact r i hi
        .rw[Nat.testBit_two_pow] at hi;have:e.on=i:=xl;rw[<-this];exact m
        .by_cases K:e.on<acc.size
         .have H:e.on<a.size:=by
           have:a.toList.length=b.length+(q::l).length:=(by rw[t];simp);simp at this;omega
          have E:=ZJ H;exact d e.on i hi _ E (F e.on _ E m)
         .simp only[j8,qfL (show acc.size<=e.on from wC)] at hi;simp at hi
       .exact r i hi
     exact f _ 0 (fun _ h=>h) (fun i hi=>wU) i hi
    .simp only[j8] at hi;rw[qfL wG] at hi;simp at hi
 have:=A a.toList [] #[] rfl rfl (fun j i hi=>wU) j i;unfold Region.before at z;rw[<-Array.foldl_toList] at z;exact this z o G c
def qc2(X:Cx)(F:zG)(nt:Nat)(bw:Option Tmp->Bool)(a:Array Oper)(o:Oper)(e:qu)(H:qe)(c:qu)(b:qe):Prop:=
 km nt o.dst=true/\((vM a e o.guard=some true/\∃d,qZ X F (bw o.dst) o.op e H=some (d,b)/\c=jN e o.dst d)\/(vM a e o.guard=some false/\b=H/\c=jN e o.dst (.tup [])))
theorem qm1{F:zG}{nt:Nat}{a:Bool}{b:Array Oper}:∀{l:List Oper}{e c:qu}{H H':qe},vU X F nt a b l e H=some (c,H')->
  ∃(E:Nat->qu)(T:Nat->qe),E 0=e/\T 0=H/\E l.length=c/\T l.length=H'/\∀k o,l[k]?=some o->qc2 X F nt (fun _=>a) b o (E k) (T k) (E (k+1)) (T (k+1))
 |[],e,c,H,H',h=>by
  simp only[vU,qy,zi] at h;obtain⟨rfl,rfl⟩:=h;exact⟨fun _=>e,fun _=>H,rfl,rfl,rfl,rfl,fun k o v=>by simp at v⟩
 |o::l,e,c,H,H',h=>by
  simp only[vU] at h
  have key:∀m f,qc2 X F nt (fun _=>a) b o e H m f->vU X F nt a b l m f=some (c,H')->∃(E:Nat->qu)(T:Nat->qe),E 0=e/\T 0=H/\E (o::l).length=c/\T (o::l).length=H'/\
    ∀k x,(o::l)[k]?=some x->qc2 X F nt (fun _=>a) b x (E k) (T k) (E (k+1)) (T (k+1)):=by
   intro m f g s;obtain⟨E,T,q,n,t,p,r⟩:=qm1 s;refine⟨fun k=>match k with|0=>e|k+1=>E k,fun k=>match k with|0=>H|k+1=>T k,rfl,rfl,t,p,fun k x hx=>?_⟩;cases k with
   |zero=>
    simp only[Qb,qy] at hx;subst hx;simp only[q,n];exact g
   |succ k=>exact r k x wY
  split at h
  .rename_i j i;split at h
   .rename_i d f u;exact key _ f ⟨j,.inl ⟨i,d,u,rfl⟩⟩ h
   .cases h
  .rename_i j i;exact key _ H ⟨j,.inr ⟨i,rfl,rfl⟩⟩ h
  .cases h
def q7l(X:Cx)(a:Array Oper)(L:QV)(E:Nat->qu)(T:Nat->qe):Prop:=
 ∀i j x y,a[i]?=some x->a[j]?=some y->L.contains (i,j)=true->i≠j->vM a (E i) x.guard=some true->vM a (E j) y.guard=some true->
  (T i).length<=(T (i+1)).length/\∀b,b∈QH (y.op.operands.toList.map (qY X (E j)))->qd (T (i+1)) b=qd (T i) b
theorem qm0{F:zG}{nt:Nat}{ow:List Nat}{a:Array Oper}{L:QV}:∀{l:List Oper}{k:Nat}{ws:List (Nat×qe×qe)}{rs:List (Nat×List Nat)}{e f:qu}{H H':qe},Qu X F nt ow a L k ws rs l e H=some (f,H')->
  ∃(E:Nat->qu)(T:Nat->qe),E 0=e/\T 0=H/\E l.length=f/\T l.length=H'/\∀k o,l[k]?=some o->qc2 X F nt (Jb ow) a o (E k) (T k) (E (k+1)) (T (k+1))
 |[],k,ws,rs,e,f,H,H',h=>by
  simp only[Qu,qy,zi] at h;obtain⟨rfl,rfl⟩:=h;exact⟨fun _=>e,fun _=>H,rfl,rfl,rfl,rfl,fun k o w=>by simp at w⟩
 |o::l,k,ws,rs,e,f,H,H',h=>by
  simp only[Qu] at h
  have key:∀m i k ws rs,qc2 X F nt (Jb ow) a o e H m i->Qu X F nt ow a L k ws rs l m i=some (f,H')->∃(E:Nat->qu)(T:Nat->qe),E 0=e/\T 0=H/\E (o::l).length=f/\T (o::l).length=H'/\
    ∀k x,(o::l)[k]?=some x->qc2 X F nt (Jb ow) a x (E k) (T k) (E (k+1)) (T (k+1)):=by
   intro m i k ws rs j u;obtain⟨E,T,s,p,v,r,t⟩:=qm0 u;refine⟨fun k=>match k with|0=>e|k+1=>E k,fun k=>match k with|0=>H|k+1=>T k,rfl,rfl,v,r,fun k x hx=>?_⟩;cases k with
   |zero=>
    simp only[Qb,qy] at hx;subst hx;simp only[s,p];exact j
   |succ k=>exact t k x wY
  cases c:km nt o.dst with
  |false=>simp[c] at h
  |true=>
   cases g:vM a e o.guard with
   |none=>simp[c,g] at h
   |some b=>
    cases b with
    |false=>
     simp only[c,g] at h;exact key _ H _ _ _ ⟨c,.inr ⟨g,rfl,rfl⟩⟩ h
    |true=>
     simp only[c,g] at h;cases n:qZ X F (Jb ow o.dst) o.op e H with
     |none=>simp[n] at h
     |some q=>
      obtain⟨d,i⟩:=q;simp only[n] at h;split at h
      .exact key _ i _ _ _ ⟨c,.inl ⟨g,d,n,rfl⟩⟩ h
      .cases h
theorem qvJ{L:QV}{k:Nat}{d:List Nat}:∀{ws:List (Nat×qe×qe)},qa0 L k d ws->∀{i:Nat}{A B:qe},(i,A,B)∈ws->L.contains (i,k)=true->∀b,b∈d->qd B b=qd A b
 |[],_,i,A,B,a,_=>by cases a
 |(g,l,j)::ws,h,i,A,B,a,hc=>by
  rcases List.mem_cons.1 a with a|a
  .injection a with f c;injection c with c e;subst f;subst c;subst e;exact h.1 hc
  .exact qvJ h.2 a hc
theorem qvI{L:QV}{k:Nat}{A B:qe}:∀{rs:List (Nat×List Nat)},qaz L k A B rs->∀{j:Nat}{c:List Nat},(j,c)∈rs->L.contains (k,j)=true->∀b,b∈c->qd B b=qd A b
 |[],_,j,c,a,_=>by cases a
 |(g,f)::rs,h,j,c,a,hc=>by
  rcases List.mem_cons.1 a with a|a
  .injection a with e d;subst e;subst d;exact h.1 hc
  .exact qvI h.2 a hc
theorem qwy{L:QV}{i j:Nat}(h:L.contains (i,j)=true):Jh L i=true/\Jl L j=true:=by
 rw[List.contains_iff_mem] at h;exact⟨List.any_eq_true.2 ⟨_,h,wE⟩,List.any_eq_true.2 ⟨_,h,wE⟩⟩
theorem qjl{F:zG}{nt:Nat}{ow:List Nat}{a:Array Oper}{L:QV}{E:Nat->qu}{T:Nat->qe}(t:∀k o,a[k]?=some o->qc2 X F nt (Jb ow) a o (E k) (T k) (E (k+1)) (T (k+1))):
  ∀(l:List Oper)(k:Nat)(ws:List (Nat×qe×qe))(rs:List (Nat×List Nat))(r:qu×qe),(∀m,l[m]?=a[k+m]?)->Qu X F nt ow a L k ws rs l (E k) (T k)=some r->
   (∀i x,i<k->a[i]?=some x->Jh L i=true->vM a (E i) x.guard=some true->(i,T i,T (i+1))∈ws/\(T i).length<=(T (i+1)).length)->
   (∀j y,j<k->a[j]?=some y->Jl L j=true->vM a (E j) y.guard=some true->(j,QH (y.op.operands.toList.map (qY X (E j))))∈rs)->
   ∀i j x y,a[i]?=some x->a[j]?=some y->L.contains (i,j)=true->i≠j->vM a (E i) x.guard=some true->vM a (E j) y.guard=some true->k<=max i j->
    (T i).length<=(T (i+1)).length/\∀b,b∈QH (y.op.operands.toList.map (qY X (E j)))->qd (T (i+1)) b=qd (T i) b
 |[],k,ws,rs,r,M,h,p,f,i,j,x,y,hi,c,hc,U,w,H,hm=>by
  exfalso;have kO:=(Array.getElem?_eq_some_iff.1 hi).1;have vR:=(Array.getElem?_eq_some_iff.1 c).1;have:=M (max i j-k);rw[show k+(max i j-k)=max i j from wC,ZJ wC] at this;simp at this
 |o::l,k,ws,rs,r,M,h,p,f,i,j,x,y,hi,c,hc,U,w,H,hm=>by
  have I:a[k]?=some o:=by have:=M 0;simpa using this.symm
  have Vy:∀m,l[m]?=a[k+1+m]?:=by
   intro m;have:=M (m+1);rw[show k+1+m=k+(m+1) from wC,<-this];simp
  obtain⟨hd,Q⟩:=t k o I;obtain⟨V,Z⟩:=qwy hc;simp only[Qu,hd] at h;rcases Q with⟨O,d,QR,W⟩|⟨O,hT,W⟩
  .simp only[O,QR] at h;split at h
   .rename_i e;rw[<-W] at h
    have s:∀i x,i<k+1->a[i]?=some x->Jh L i=true->vM a (E i) x.guard=some true->(i,T i,T (i+1))∈(if Jh L k then(k,T k,T (k+1))::ws else ws)/\(T i).length<=(T (i+1)).length:=by
     intro i x u hi A K;by_cases B:i=k
     .subst B;rw[if_pos A];exact⟨Jd ..,(e.2 A).1⟩
     .obtain⟨v,S⟩:=p i x wC hi A K;refine⟨?_,S⟩;split
      .exact vy _ v
      .exact v
    have C:∀j y,j<k+1->a[j]?=some y->Jl L j=true->vM a (E j) y.guard=some true->(j,QH (y.op.operands.toList.map (qY X (E j))))∈(if Jl L k then(k,QH (o.op.operands.toList.map (qY X (E k))))::rs else rs):=by
     intro j y P c n g;by_cases G:j=k
     .subst G;rw[I] at c;injection c with c;subst c;rw[if_pos n];exact Jd ..
     .have v:=f j y wC c n g;split
      .exact vy _ v
      .exact v
    by_cases R:k+1<=max i j
    .exact qjl t l (k+1) _ _ r Vy h s C i j x y hi c hc U w H R
    .obtain⟨v,S⟩:=s i x wC hi V w;refine⟨S,?_⟩;by_cases u:i=k
     .subst u;rw[I] at hi;injection hi with hi;subst hi;exact qvI (e.2 V).2 (f j y wC c Z H) hc
     .have P:j=k:=wC;subst P;rw[I] at c;injection c with c;subst c;exact qvJ (e.1 Z) (p i x wC hi V w).1 hc
   .cases h
  .simp only[O] at h;rw[<-W,<-hT] at h
   have J:∀{q:Nat}{z:Oper},a[q]?=some z->vM a (E q) z.guard=some true->q≠k:=by
    rintro q z N Y rfl;rw[I] at N;injection N with N;subst N;rw[O] at Y;cases Y
   have n1:=J hi w;have n2:=J c H;exact qjl t l (k+1) ws rs r Vy h (fun i x u hi A K=>p i x (by have:=J hi K;omega) hi A K) (fun j y P c n g=>f j y (by have:=J c g;omega) c n g) i j x y hi c hc U w H wC
theorem qzI{a e2:qu}{x:Operand}(h:∀t,t∈qjm x->qi a t=qi e2 t):qY X a x=qY X e2 x:=by
 cases x with
 |tmp t=>exact h t (by simp[qjm])
 |_=>rfl
theorem qjY{a e2:qu}:∀{l:List Operand},(∀x,x∈l->qY X a x=qY X e2 x)->vO X a l=vO X e2 l
 |[],_=>rfl
 |x::l,h=>by
  simp only[vO,h x (Jd ..),qjY (fun y b=>h y (vy _ b))]
theorem qh0{a e2:qu}:∀{l:List (Nat×Operand)},(∀x,x∈l.map (·.2)->qY X a x=qY X e2 x)->YN X a l=YN X e2 l
 |[],_=>rfl
 |(i,x)::l,h=>by
  simp only[YN,h x wE,qh0 (l:=l) (fun y b=>h y (by simp only[List.map_cons,jC];exact .inr b))]
theorem qu1{F:zG}{o:Op}{j e2:qu}(h:∀x,x∈o.operands.toList->qY X j x=qY X e2 x):zI X F o j H=zI X F o e2 H:=by
 cases o with
 |build t e=>
  simp only[zI];rw[qh0 (e2:=e2) (fun x hx=>h x (by simpa[Op.operands] using hx))]
 |buildSlice t n e=>
  simp only[zI];rw[qh0 (e2:=e2) (fun x hx=>h x (by simpa[Op.operands] using hx))]
 |makeFunc fn first p=>
  cases fn with
  |func f=>
   simp only[zI]
   rw[qjY (e2:=e2) (fun x hx=>h x (by
    simp only[Op.operands,Array.toList_append,jW];exact .inr hx))]
  |_=>rfl
 |slice t x k hi q=>
  cases q with
  |none=>
   have hx:=h x wO
   have w:k.map (qY X j)=k.map (qY X e2):=by
    cases k with
    |none=>rfl
    |some l=>simp[h l wO]
   have v:hi.map (qY X j)=hi.map (qY X e2):=by
    cases hi with
    |none=>rfl
    |some l=>simp[h l wO]
   simp only[zI,hx,w,v]
  |some m=>rfl
 |call c=>
  simp only[zI]
  have A:vO X j c.args.toList=vO X e2 c.args.toList:=qjY fun x hx=>h x (by
   simp only[Op.operands,Call.operands,Array.toList_append,jW];exact .inr hx)
  rw[A];cases hc:c.callee with
  |builtin b=>cases vO X e2 c.args.toList<;>rfl
  |value g=>
   have z:=h g (by simp[Op.operands,Call.operands,hc]);cases vO X e2 c.args.toList with
   |none=>rfl
   |some args=>simp only[z]
  |invoke r m=>cases vO X e2 c.args.toList<;>rfl
 |pick c a b=>
  simp only[zI];rw[h c wO];split
  .rename_i t _;cases t
   .simp only[Qd,if_false];rw[h b wO]
   .simp only[if_true];rw[h a wO]
  .rfl
 |move x=>simp only[zI,h x wO]
 |assign x=>simp only[zI,h x wO]
 |box t x=>simp only[zI,h x wO]
 |load t x=>simp only[zI,h x wO]
 |store t x y=>simp only[zI,h x wO,h y wO]
 |nilCheck x=>simp only[zI,h x wO]
 |binOp op t x y u=>simp only[zI,h x wO,h y wO]
 |unOp op t x=>simp only[zI,h x wO]
 |convert s d x=>simp only[zI,h x wO]
 |makeInterface t x=>simp only[zI,h x wO]
 |makeSlice t x y=>simp only[zI,h x wO,h y wO]
 |fieldAddr s x f=>simp only[zI,h x wO]
 |field s x f=>simp only[zI,h x wO]
 |indexAddr t x y=>simp only[zI,h x wO,h y wO]
 |index t x y=>simp only[zI,h x wO,h y wO]
 |extract x i=>simp only[zI,h x wO]
 |_=>rfl
theorem q4L{F:zG}{a:Bool}{o:Op}{b e2:qu}(h:∀x,x∈o.operands.toList->qY X b x=qY X e2 x):qZ X F a o b H=qZ X F a o e2 H:=by
 unfold qZ;split
 .rw[qh0 (e2:=e2) (fun x hx=>h x (by simpa[Op.operands] using hx))]
 .rw[h _ wO]
 .rename_i c;rw[qu1 (o:=.call c) h]
  have e:Xn X c b=Xn X c e2:=by
   unfold Xn;cases X.dynV with
   |false=>rfl
   |true=>
    cases hc:c.callee with
    |value g=>
     cases g with
     |tmp t=>
      have d:qi b t=qi e2 t:=h (.tmp t) (by simp[Op.operands,Call.operands,hc]);simp only[d]
     |_=>rfl
    |_=>rfl
  rw[e]
 .exact qu1 h
theorem qkt{x:Option D}{d:D}(h:x.map (·,H)=some (d,H')):H'=H/\∀a:qe,x.map (·,a)=some (d,a):=by
 obtain⟨rfl,rfl⟩:=Zp h;exact⟨rfl,fun _=>rfl⟩
theorem q6y{b:Builtin}{ts:List TypeId}{args:List D}{d:D}(c:b=.len\/b=.min\/b=.max)(h:qdL X b ts args H=some (d,H')):H'=H/\∀a,qdL X b ts args a=some (d,a):=by
 rcases c with rfl|rfl|rfl
 .rcases ts with _|⟨t,ts⟩
  .simp[qdL] at h
  .rcases args with _|⟨x,args⟩
   .simp[qdL] at h
   .exact qkt h
 .exact qkt h
 .exact qkt h
theorem q1p{F:zG}{o:Op}{e:qu}{d:D}(g:Ve X o=.v)(h:qZ X F true o e H=some (d,H')):H'=H/\∀j,qZ X F true o e j=some (d,j):=by
 have l:∀{x:Option D},x.map (·,H)=some (d,H')->H'=H/\∀j:qe,x.map (·,j)=some (d,j):=by
  intro x hx;obtain⟨rfl,rfl⟩:=Zp hx;exact⟨rfl,fun _=>rfl⟩
 cases o with
 |buildSlice t n z=>
  simp only[qZ] at h⊢;split at h
  .rename_i ps q;split at h
   .rename_i ds K;injection h with h;injection h with p C;subst p;subst C;exact⟨rfl,fun j=>rfl⟩
   .cases h
  .cases h
 |move x=>exact l h
 |assign x=>exact l h
 |pick c a b=>
  simp only[qZ,zI] at h⊢;split at h
  .exact l h
  .cases h
 |build t z=>
  simp only[qZ,zI] at h⊢;split at h
  .exact l h
  .cases h
 |nilCheck x=>
  simp only[qZ,zI] at h⊢;split at h<;>first|(cases h;done)|skip
  all_goals
   injection h with h;injection h with p C;subst p;subst C;exact⟨rfl,fun _=>rfl⟩
 |binOp op t x y u=>
  simp only[qZ,zI] at h⊢;split at h
  .exact l h
  .cases h
 |unOp op t x=>
  simp only[qZ,zI] at h⊢;split at h
  .exact l h
  .cases h
 |makeInterface t x=>
  simp only[qZ,zI] at h⊢;split at h
  .cases h
  .injection h with h;injection h with p C;subst p;subst C;exact⟨rfl,fun _=>rfl⟩
  .cases h
 |makeFunc fn first r=>
  cases fn with
  |func f=>
   simp only[qZ,zI] at h⊢;split at h
   .rename_i P;cases hc:vO X e r.toList with
    |none=>simp[hc] at h
    |some cs=>
     simp only[hc,jn,qy,zi] at h;obtain⟨rfl,rfl⟩:=h;exact⟨rfl,fun _=>by simp[P]⟩
   .cases h
  |_=>simp[qZ,zI] at h
 |slice t x R hi O=>
  cases O with
  |none=>
   simp only[qZ,zI] at h⊢;split at h<;>first|(cases h;done)|exact l h
  |some m=>simp[qZ,zI] at h
 |fieldAddr s x f=>
  simp only[qZ,zI] at h⊢;split at h
  .exact l h
  .cases h
 |field s x f=>
  simp only[qZ,zI] at h⊢;split at h
  .exact l h
  .cases h
 |indexAddr t x y=>
  simp only[qZ,zI] at h⊢;split at h
  .exact l h
  .cases h
 |index t x y=>
  simp only[qZ,zI] at h⊢;split at h
  .exact l h
  .cases h
 |extract x i=>
  simp only[qZ,zI] at h⊢;split at h
  .exact l h
  .cases h
 |call c=>
  have hc:(c.callee=.builtin .len\/c.callee=.builtin .min\/c.callee=.builtin .max)\/(∃f,c.callee=.value (.func f)/\(X.pureF f&& !X.byRef f&& !X.perm f)=true)\/(∃t,c.callee=.value (.tmp t)/\X.dynV=true):=by
   simp only[Ve] at g;split at g
   .rename_i hc;exact .inl (.inl hc)
   .rename_i hc;exact .inl (.inr (.inl hc))
   .rename_i hc;exact .inl (.inr (.inr hc))
   .rename_i f hc;refine .inr (.inl ⟨f,hc,?_⟩);split at g
    .cases g
    .rename_i K;split at g
     .rename_i q;split at g
      .cases g
      .rename_i J;rw[q];simp[K,J]
     .split at g<;>cases g
   .rename_i t hc;refine .inr (.inr ⟨t,hc,?_⟩);split at g
    .assumption
    .cases g
   .cases g
  have k:∀{f:Nat}{args:List D},(X.pureF f&& !X.byRef f&& !X.perm f)=true->VA X F f args H=some (d,H')->H'=H/\∀j,VA X F f args j=some (d,j):=by
   intro f args B h;rw[zY] at B;have q:=B.1;have A:X.perm f=false:=by simpa using B.2
   have J:(X.perm f&& !X.pureF f&& !X.byRef f)=false:=by
    simp[A]
   have G:(X.perm f&&X.byRef f)=false:=(by simp[A]);rw[qiF J G] at h;obtain⟨N,M,p⟩:=qgP q h;rcases p with⟨p,C⟩|⟨_,p,_⟩
   .refine⟨N,fun j=>?_⟩;rw[qiF J G];unfold ZF;rw[if_pos q,if_pos p,C];simp only at M;simp only[M,if_true]
   .rw[A] at p;cases p
  rcases hc with hc|⟨f,hc,q⟩|⟨t,hc,L⟩
  rotate_left
  .have I:∀j,qZ X F true (.call c) e j=zI X F (.call c) e j:=fun j=>by
    simp only[qZ,Xn,hc];cases X.dynV<;>rfl
   rw[I] at h;simp only[I];simp only[zI] at h⊢;simp only[hc] at h⊢;cases w:vO X e c.args.toList with
   |none=>simp[w] at h
   |some args=>
    simp only[w,qY] at h⊢;exact k q h
  .simp only[qZ] at h⊢;split at h
   .cases h
   .rename_i K;have E:Xn X c e=false:=(by simpa using K);simp only[E,Qd,if_false];unfold Xn at E;simp only[hc,L] at E;split at E
    .rename_i f r Q;have q:(X.pureF f&& !X.byRef f&& !X.perm f)=true:=(by simpa using E);simp only[zI,hc] at h⊢;cases w:vO X e c.args.toList with
     |none=>simp[w] at h
     |some args=>
      simp only[w,qY,Q] at h⊢;exact k q h
    .cases E
  have I:∀j,qZ X F true (.call c) e j=zI X F (.call c) e j:=fun j=>by
   simp only[qZ,Xn];rcases hc with hc|hc|hc<;>(simp only[hc];cases X.dynV<;>rfl)
  rw[I] at h;simp only[I];simp only[zI] at h⊢;cases w:vO X e c.args.toList with
  |none=>rcases hc with hc|hc|hc<;>simp[hc,w] at h
  |some args=>rcases hc with hc|hc|hc<;>(simp only[hc,w] at h⊢;exact q6y wE h)
 |load _ _=>simp[Ve] at g
 |convert _ _ _=>simp[Ve] at g
 |alloc _=>simp[Ve] at g
 |box _ _=>simp[Ve] at g
 |makeSlice _ _ _=>simp[Ve] at g
 |store _ _ _=>simp[Ve] at g
 |_=>simp[qZ,zI] at h
theorem qoT{a T2:qe}{p:D}{cs:List D}(c:∀i,YD p=some i->qd a i≠none->qd T2 i=qd a i)(h:mem a p=some cs):mem T2 p=some cs:=by
 cases p<;>simp only[mem,reduceCtorEq] at h⊢
 .exact h
 .rename_i i st off;split at h
  .rename_i ds b;have:=c i rfl (by rw[b];simp);rw[this,b];exact h
  .cases h
theorem qx6{a T2:qe}{p:D}{k:Nat}{r:List D×Nat}(d:∀i,YD p=some i->qd a i≠none->qd T2 i=qd a i)(h:YG a k p=some r):YG T2 k p=some r:=by
 cases p<;>simp only[YG,reduceCtorEq] at h⊢
 .exact h
 .rename_i i st off c k';split at h
  .rename_i ds b;have:=d i rfl (by rw[b];simp);rw[this,b];exact h
  .cases h
theorem qok{e:qu}:∀{l:List Operand}{ds:List D},vO X e l=some ds->∀d,d∈ds->∃x,x∈l/\qY X e x=some d
 |[],ds,h,d,a=>by
  simp only[vO,qy] at h;subst h;cases a
 |x::l,ds,h,d,a=>by
  simp only[vO] at h;split at h
  .rename_i j c i g;injection h with h;subst h;rcases List.mem_cons.1 a with rfl|a
   .exact⟨x,Jd ..,i⟩
   .obtain⟨y,f,b⟩:=qok g d a;exact⟨y,vy _ f,b⟩
  .cases h
mutual
theorem qtQ(a T2:qe):∀(d:D),idFree d=true->freeze T2 d=freeze a d
 | .agg cs,h=>by simp only[idFree] at h;simp only[freeze,qkX a T2 cs h]
 | .fn f cs,h=>by simp only[idFree] at h;simp only[freeze,qkX a T2 cs h]
 | .tup _,_=>rfl
 | .iface _ _,_=>rfl
 | .optr ..,h=>by simp[idFree] at h
 | .osl ..,h=>by simp[idFree] at h
 | .bool _,_=>rfl
 | .int _ _,_=>rfl
 | .str _,_=>rfl
 | .nilp,_=>rfl
 | .nilf,_=>rfl
 | .nili,_=>rfl
 | .raw _,_=>rfl
 | .vptr _,_=>rfl
 | .vsl ..,_=>rfl
theorem qkX(a T2:qe):∀(cs:List D),idFree.idFreeL cs=true->freeze.freezeL T2 cs=freeze.freezeL a cs
 |[],_=>rfl
 |d::l,h=>by
  simp only[idFree.idFreeL,zY] at h;simp only[freeze.freezeL,qtQ a T2 d h.1,qkX a T2 l h.2]
end
theorem q4v{a T2:qe}{p:D}(d:∀i,YD p=some i->qd a i≠none->qd T2 i=qd a i)(h:qbr a p=true):qbr T2 p=true/\freeze T2 p=freeze a p:=by
 cases p with
 |osl i st off e k=>
  simp only[qbr] at h;split at h
  .rename_i ds c;have b:=d i rfl (by rw[c];simp);constructor
   .simp only[qbr,b,c];exact h
   .simp only[freeze,b]
  .cases h
 |optr i st off=>simp[qbr,idFree] at h
 |_=>exact⟨h,qtQ a T2 _ h⟩
theorem qtY{a T2:qe}:∀(args:List D),(∀p,p∈args->∀i,YD p=some i->qd a i≠none->qd T2 i=qd a i)->args.all (qbr a)=true->args.all (qbr T2)=true/\qcr T2 args=qcr a args
 |[],_,_=>⟨rfl,rfl⟩
 |p::l,b,h=>by
  simp only[Va,zY] at h;obtain⟨f,d⟩:=q4v (b p (Jd ..)) h.1;obtain⟨e,c⟩:=qtY l (fun q g=>b q (vy _ g)) h.2;unfold qcr at c⊢;exact⟨by simp[f,e],by simp only[freeze.freezeL,d,c]⟩
theorem q1q{F:zG}{o:Op}{e:qu}{d:D}{y T2:qe}(m:Ve X o=.r)(h:qZ X F true o e y=some (d,H'))
  (C:∀x,x∈o.operands.toList->∀p i,qY X e x=some p->YD p=some i->qd y i≠none->qd T2 i=qd y i):H'=y/\qZ X F true o e T2=some (d,T2):=by
 cases o with
 |load t x=>
  simp only[qZ,zI] at h⊢;split at h
  .rename_i p A;obtain⟨g,rfl⟩:=Zp h;refine⟨rfl,?_⟩
   have hl:ldD X.P T2 t p=some d:=by
    unfold ldD at g⊢;split at g
    .rename_i cs I K;rw[qoT (C x wO p · A) K];simp only[I];exact g
    .rename_i x' l I K;rw[qoT (C x wO p · A) K];simp only[I];exact g
    .cases g
   rw[hl];rfl
  .cases h
 |convert s t x=>
  simp only[qZ] at h⊢;split at h
  .rename_i b u hx hu;split at h
   .injection h with h;injection h with g v;subst g;subst v;exact⟨rfl,rfl⟩
   .cases h
  .rename_i a hx _;have z:∀i,YD a=some i->qd y i≠none->qd T2 i=qd y i:=fun i=>C x wO a i hx;unfold qdI at h⊢;split at h
   .rename_i k k' n g v;injection h with h;injection h with j q;subst j;subst q;exact⟨rfl,rfl⟩
   .rename_i b g v;injection h with h;injection h with j q;subst j;subst q;exact⟨rfl,rfl⟩
   .injection h with h;injection h with j q;subst j;subst q;exact⟨rfl,rfl⟩
   .exfalso
    simp_all
   .rename_i e' _ g v;split at h
    .rename_i cs n E S
     obtain⟨j,rfl⟩:((VB cs).map fun s=>D.str s)=some d/\y=H':=by
      cases w:VB cs with
      |none=>simp[w] at h
      |some s=>
       simp only[w,jn,qy,zi] at h;exact⟨by simp[h.1],h.2⟩
     refine⟨rfl,?_⟩;rw[qx6 z S];simp only[E];cases w:VB cs with
     |none=>simp[w] at j
     |some s=>simpa[w] using j
    .cases h
   .rename_i i st off V k g _ v;split at h
    .rename_i ds E O;have W:=z i rfl (by rw[O];simp);split at h
     .rename_i hc;injection h with h;injection h with j q;subst j;subst q;refine⟨rfl,?_⟩;rw[W,O];simp only[E,hc,and_self,if_true]
     .cases h
    .cases h
   .cases h
  .cases h
 |call c=>
  simp only[Ve] at m;split at m<;>first|(cases m;done)|skip
  .rename_i f hc;split at m
   .cases m
   .rename_i w;split at m
    .rename_i M;split at m
     .rename_i XD;have A:(X.pureF f&& !X.byRef f)=true:=(by simp[M,w]);have H:(X.perm f&& !X.pureF f&& !X.byRef f)=false:=by simp[M]
      have N:∀T,qZ X F true (.call c) e T=zI X F (.call c) e T:=fun T=>by
       simp only[qZ,Xn,hc];cases X.dynV<;>rfl
      rw[N] at h;rw[N];simp only[zI,hc] at h⊢;cases L:vO X e c.args.toList with
      |none=>simp[L] at h
      |some args=>
       simp only[L,qY,J4] at h⊢;rw[qiF H (by simp[w])] at h⊢;obtain⟨q,j,g⟩:=qgP A h;simp only at j q g;refine⟨q,?_⟩;unfold ZF;rw[if_pos A];rcases g with⟨g,v⟩|⟨g,B,Q,hv,G,Z,v⟩
       .rw[if_pos g,v];simp only[j,if_true]
       .obtain⟨R,Y⟩:=qtY args (fun p H i hi U=>by
         obtain⟨x,hx,J⟩:=qok L p H
         exact C x (by
          simp only[Op.operands,Call.operands,Array.toList_append,jW];exact .inr hx) p i J hi U) Q
        rw[if_neg g];simp only[B,R,Bool.and_self,if_true,Y,Z,v,j,hv]
     .cases m
    .split at m<;>cases m
  .split at m<;>cases m
 |_=>simp[Ve] at m
theorem q1s{F:zG}{o:Op}{e:qu}{d:D}(a:Ve X o=.e)(h:qZ X F true o e H=some (d,H')):∃N,H'=H++N:=by
 cases o with
 |alloc t=>
  simp only[qZ,zI] at h;split at h
  .injection h with h;injection h with i b;exact⟨_,b.symm⟩
  .cases h
 |box t x=>
  simp only[qZ,zI] at h;split at h
  .split at h
   .injection h with h;injection h with i b;exact⟨_,b.symm⟩
   .cases h
  .cases h
 |makeSlice t x y=>
  simp only[qZ,zI] at h;split at h
  .unfold qgr at h;split at h
   .split at h
    .simp only[Option.bind_eq_some_iff] at h;obtain⟨z,_,h⟩:=h;split at h
     .injection h with h;injection h with i b;exact⟨_,b.symm⟩
     .cases h
    .cases h
   .cases h
  .cases h
 |call c=>
  simp only[Ve] at a;split at a<;>first|(cases a;done)|skip
  rotate_left
  .split at a<;>cases a
  rename_i f hc;split at a
  .cases a
  .rename_i g
   have m:(X.perm f&& !X.pureF f&& !X.byRef f)=false:=by
    split at a
    .split at a<;>cases a
    .split at a
     .cases a
     .rename_i j;simp[j]
   have l:qZ X F true (.call c) e H=zI X F (.call c) e H:=by
    simp only[qZ,Xn,hc];cases X.dynV<;>rfl
   rw[l] at h;simp only[zI,hc] at h;cases k:vO X e c.args.toList with
   |none=>simp[k] at h
   |some args=>
    simp only[k,qY] at h;rw[qiF m (by simp[g])] at h;replace h:=qiE h;unfold XV at h;rw[if_neg g] at h;split at h
    .split at h
     .cases h
     .injection h with h;injection h with i b;exact⟨_,b.symm⟩
    .split at h
     .cases h
     .split at h
      .cases h
      .split at h
       .injection h with h;injection h with i b;exact⟨_,b.symm⟩
       .cases h
 |_=>simp[Ve] at a
theorem qu2{F:zG}{o:Op}{e:qu}:qZ X F false o e H=zI X F o e H:=by cases o<;>rfl
theorem qk5{bw:Bool}{F:zG}{o:Op}:(Zo X bw o=Ve X o/\(∀(e:qu)(H:qe),qZ X F bw o e H=qZ X F true o e H))\/(bw=false/\(Zo X bw o=.e/\((∃t n ps,o=.buildSlice t n ps)\/∃s d x,o=.convert s d x))\/(Zo X bw o=.m)):=by
 cases bw with
 |true=>exact .inl ⟨rfl,fun _ _=>rfl⟩
 |false=>
  cases o with
  |buildSlice t n ps=>exact .inr (.inl ⟨rfl,rfl,.inl ⟨t,n,ps,rfl⟩⟩)
  |convert s d x=>exact .inr (.inl ⟨rfl,rfl,.inr ⟨s,d,x,rfl⟩⟩)
  |call c=>
   cases hc:c.callee with
   |value g=>
    cases g with
    |tmp t=>exact .inr (.inr (by simp only[Zo,hc]))
    |_=>exact .inl ⟨by simp only[Zo,hc],fun e H=>yP⟩
   |builtin b=>exact .inl ⟨by simp only[Zo,hc],fun e H=>yP⟩
   |invoke r m=>exact .inl ⟨by simp only[Zo,hc],fun e H=>yP⟩
  |_=>exact .inl ⟨rfl,fun _ _=>rfl⟩
theorem qs0{bw:Bool}{F:zG}{o:Op}{e:qu}{d:D}(a:Zo X bw o=.v)(h:qZ X F bw o e H=some (d,H')):H'=H/\∀f,qZ X F bw o e f=some (d,f):=by
 rcases qk5 (X:=X) (bw:=bw) (F:=F) (o:=o) with⟨b,c⟩|⟨_,b,_⟩|b
 .rw[b] at a;rw[c] at h;simp only[c];exact q1p a h
 .rw[b] at a;cases a
 .rw[b] at a;cases a
theorem qsA{bw:Bool}{F:zG}{o:Op}{e:qu}{d:D}{c T2:qe}(a:Zo X bw o=.r)(h:qZ X F bw o e c=some (d,H'))
  (g:∀x,x∈o.operands.toList->∀p i,qY X e x=some p->YD p=some i->qd c i≠none->qd T2 i=qd c i):H'=c/\qZ X F bw o e T2=some (d,T2):=by
 rcases qk5 (X:=X) (bw:=bw) (F:=F) (o:=o) with⟨b,f⟩|⟨_,b,_⟩|b
 .rw[b] at a;rw[f] at h;rw[f];exact q1q a h g
 .rw[b] at a;cases a
 .rw[b] at a;cases a
theorem q5s{P:Program}{s t:TypeId}{x d:D}(h:qdI P H s t x=some (d,H')):∃N,H'=H++N:=by
 unfold qdI at h;split at h
 .injection h with h;injection h with b a;exact⟨[],xF⟩
 .injection h with h;injection h with b a;exact⟨[],xF⟩
 .injection h with h;injection h with b a;exact⟨[],xF⟩
 .split at h
  .injection h with h;injection h with b a;exact⟨_,a.symm⟩
  .cases h
 .split at h
  .rename_i cs n e f;cases c:VB cs with
   |none=>simp[c] at h
   |some s=>
    simp only[c,jn,qy,zi] at h;exact⟨[],by simp[h.2]⟩
  .cases h
 .split at h
  .split at h
   .injection h with h;injection h with b a;exact⟨[],xF⟩
   .cases h
  .cases h
 .cases h
theorem q0T{P:Program}{t:TypeId}{n:Nat}{ps:List (Nat×D)}{d:D}(h:qcz P H t n ps=some (d,H')):∃N,H'=H++N:=by
 unfold qcz at h;split at h
 .split at h
  .split at h
   .simp only[Option.bind_eq_some_iff] at h;obtain⟨cs,_,h⟩:=h;split at h
    .injection h with h;injection h with b a;exact⟨_,a.symm⟩
    .cases h
   .cases h
  .cases h
 .cases h
theorem q1r{bw:Bool}{F:zG}{o:Op}{e:qu}{d:D}(b:Zo X bw o=.e)(h:qZ X F bw o e H=some (d,H')):∃N,H'=H++N:=by
 rcases qk5 (X:=X) (bw:=bw) (F:=F) (o:=o) with⟨a,c⟩|⟨rfl,a,⟨t,n,ps,rfl⟩|⟨s,t,x,rfl⟩⟩|a
 .rw[a] at b;rw[c] at h;exact q1s b h
 .rw[qu2] at h;simp only[zI] at h;split at h
  .exact q0T h
  .cases h
 .rw[qu2] at h;simp only[zI] at h;split at h
  .exact q5s h
  .cases h
 .rw[a] at b;cases b
end
end Go.Ev
namespace Go.Ev
section
variable {X:Cx} {bw:Option Tmp->Bool} {L:QV} {al:Option Nat} {ok ok':Nat->Prop} {w w':World} {ι:qU} {H H':qe}
theorem qml{f:Array Oper}{e:qu}{a:Act}{o:Oper}{b:Bool}(p:∀k c t,o.guard=some (k,c)->(f[k]?).bind (·.dst)=some t->∀d,qi e t=some d->t<a.tmps.size/\Rep ok w ι H d (a.tmps.getD t undef))
  (h:vM f e o.guard=some b):Region.wanted o (yielded f a.tmps)=b:=by
 unfold vM at h;unfold Region.wanted;split at h
 .rename_i i;injection h with h;rw[i];exact h
 .rename_i j c i;rw[i];simp only;unfold yielded;cases m:(f[j]?).bind (·.dst) with
  |none=>
   simp only[m,qy] at h;subst h;simp
  |some t=>
   simp only[m] at h;simp only[Y9];split at h
   .rename_i v n;injection h with h;obtain⟨l,g⟩:=p j c t i m _ n;rw[j8,ZJ l] at g;rw[ZJ l];generalize a.tmps[t]=x at g;cases g;simp only;rw[<-h];cases v<;>cases c<;>rfl
   .rename_i n;injection h with h;subst h;obtain⟨l,g⟩:=p j c t i m _ n;rw[j8,ZJ l] at g;rw[ZJ l];generalize a.tmps[t]=x at g;cases g;simp
   .cases h
theorem qei(a:Act)(dst:Option Tmp)(v:Value):(a.put dst v).tmps.size=a.tmps.size/\(a.put dst v).defers=a.defers:=by
 cases dst<;>simp[Act.put]
def Out(X:Cx)(n:Nat)(ok:Nat->Prop)(w:World)(ι:qU)(H:qe)(a:Act)(c:qu)(H':qe)(b:Act)(w':World):Prop:=
 b.tmps.size=a.tmps.size/\b.defers=a.defers/\∃ι' ok',Sim X ok' w' ι' H'/\EnvRep ok' w' ι' H' c b.tmps/\Evol n ok w ι H ok' w' ι' H'
theorem qhd:Rep ok w ι H (.tup []) undef:=.tup rfl wE
theorem qhG{e:qu}{dst:Option Tmp}{d:D}{t:Nat}:qi (jN e dst d) t=if dst=some t then some d else qi e t:=by
 cases dst with
 |none=>simp[jN]
 |some s=>
  simp only[jN,qi,qy]
def qb8(l:List Nat)(e:qu):qu:=Qg l e
theorem qhF:∀{l:List Nat}{e:qu}{t:Nat},t∈l->qi (qb8 l e) t=qi e t
 |k::l,e,t,h=>by
  simp only[qb8,Qg];by_cases c:k=t
  .subst c;cases g:qi e k with
   |some d=>simp[qi]
   |none=>
    simp only;by_cases a:k∈l
    .exact(qhF a).trans g
    .have:∀{l:List Nat}{t:Nat},t∉l->qi (Qg l e) t=none:=by
      intro l
      induction l with
      |nil=>intro t _;rfl
      |cons x l f=>
       intro t b;simp only[jC,not_or] at b;simp only[Qg];split
       .simp only[qi,Ne.symm b.1,if_false];exact f b.2
       .exact f b.2
     exact this a
  .have a:t∈l:=by
    rcases List.mem_cons.1 h with h|h
    .exact absurd h.symm c
    .exact h
   split
   .simp only[qi,c,if_false];exact qhF a
   .exact qhF a
theorem qhE:∀{l:List Nat}{e:qu}{t:Nat}{d:D},qi (qb8 l e) t=some d->t∈l/\qi e t=some d
 |[],e,t,d,h=>by simp[qb8,Qg,qi] at h
 |k::l,e,t,d,h=>by
  simp only[qb8,Qg] at h;split at h
  .rename_i x c;simp only[qi] at h;split at h
   .rename_i f;subst f;exact⟨Jd ..,by rw[c];exact h⟩
   .obtain⟨b,a⟩:=qhE h;exact⟨vy _ b,a⟩
  .obtain⟨b,a⟩:=qhE h;exact⟨vy _ b,a⟩
structure DrawFacts (X:Cx) (bw:Option Tmp->Bool) (L:QV) (al:Option Nat) (ops:Array Oper):Prop where
 edge:∀(j:Nat)(o:Oper),ops[j]?=some o->∀e,e∈o.after.toList->Region.binds .any e=true->e.on<j
 ord:∀(i j:Nat)(x y:Oper),ops[i]?=some x->ops[j]?=some y->i<j->V9 X bw L al ops i x j y=true->((Region.before ops).getD j 0).testBit i=true
 alo:∀j,al=some j->∃o ty t,ops[j]?=some o/\o.op=.alloc ty/\o.dst=some t/\o.guard=none/\
  ∀(k:Nat)(y:Oper),ops[k]?=some y->k≠j->t∈JB ops y->j<k/\∀(i:Nat)(x:Oper),ops[i]?=some x->i<j->jk X (bw x.dst) x.op=true->((Region.before ops).getD k 0).testBit i=true
theorem quS{a:Array Oper}(h:qi3 X bw L al a=true):DrawFacts X bw L al a:=by
 unfold qi3 at h;simp only[zY] at h;obtain⟨c,h⟩:=h;have n:=List.all_eq_true.1 h
 have f:∀(j:Nat)(o:Oper),a[j]?=some o->(o,j)∈a.toList.zipIdx:=by
  intro j o b;rw[List.mem_zipIdx_iff_getElem?];simpa using b
 constructor
 .intro j o b e q u;have:=n _ (f j o b);simp only[zY] at this;have d:=Array.all_eq_true'.1 this.1 e (by simpa using q);simpa[u] using d
 .intro i j x y hi b m hc;have:=n _ (f j y b);simp only[zY] at this;have d:=List.all_eq_true.1 this.2 _ (f i x hi);simpa[m,hc] using d
 .intro j b;subst b;simp only[qvR] at c;cases p:a[j]? with
  |none=>simp[p] at c
  |some o=>
   simp only[p] at c;split at c
   .rename_i ty t d s r;refine⟨o,ty,t,rfl,d,s,r,fun k y l g w=>?_⟩;have:=List.all_eq_true.1 c _ (f k y l);have hc:(JB a y).contains t=true:=(by simpa using w);simp only[hc,beq_iff_eq,g,Bool.not_true,Bool.or_false,zY,decide_eq_true_eq,qdV,false_or] at this;refine⟨this.1,fun i x hi m l=>?_⟩;have v:=List.all_eq_true.1 this.2 _ (f i x hi);simpa[m,l] using v
   .cases c
theorem q5U{a:Array Oper}{i j:Nat}{x y:Oper}(h:V9 X bw L al a i x j y=true):V9 X bw L al a j y i x=true:=by
 unfold V9 at *;rw[Nat.max_comm j i];simp only[qdV,zY] at *;rcases h with(((h|h)|h)|h)|h
 .exact .inl (.inl (.inl (.inr h)))
 .exact .inl (.inl (.inl (.inl h)))
 .exact .inl (.inl (.inr ⟨⟨h.1.2,h.1.1⟩,h.2⟩))
 .exact .inr ⟨⟨h.1.2,h.1.1⟩,h.2⟩
 .exact .inl (.inr ⟨⟨h.1.2,h.1.1⟩,h.2⟩)
theorem qiB{a:Array Oper}{i j:Nat}{x y:Oper}(hx:jk X (bw x.dst) x.op=true)(c:jk X (bw y.dst) y.op=true)(b:al≠some (max i j)):V9 X bw L al a i x j y=true:=by
 unfold V9;have:(al==some (max i j))=false:=wv
 simp only[hx,c,this,Bool.not_false,Bool.and_true,Bool.or_true,Bool.true_or]
theorem qxF(a:Sim X ok w ι H)(m:qa1 w w')(q:w.heap.size<=w'.heap.size)(f:∀c,c<w.heap.size->w'.heap[c]?=w.heap[c]?):Sim X ok w' ι H/\Evol H.length ok w ι H ok w' ι H:=by
 have b:Evol H.length ok w ι H ok w' ι H:=
  ⟨m.1,m.2.1,m.2.2,q,fun c hc _=>f c hc,fun _ h=>h,fun _ h _=>.inl h,⟨qA _,qA _⟩,fun _ _ ds n=>⟨ds,n,qA _,fun _=>rfl⟩,
   fun i ds _ s n hi _=>⟨i,ds,s,n,hi⟩⟩
 refine⟨⟨fun c hc=>vd (a.okS c hc) q,fun g cs C=>?_,a.inj,fun k x o=>?_⟩,b⟩
 .have h:=(a.glob g cs C).lift (ι:=ι) (H:=H);exact(h.evol a b rfl).free rfl _ _
 .obtain⟨c,e,e2,l,t,A,u,y,z,B,v,r⟩:=a.blk k x o;exact⟨c,e,e2,l,t,A,by rw[f c (a.lt o t)];exact u,y,z,B,v,fun j d p=>(r j d p).evol a b (r j d p).closed⟩
theorem qjE{ds:List D}{ι2:qU}(A:∀k,k<H.length->ι2 k=ι k){ι1:qU}{B:qe}{d:D}{v:Value}(h:Rep ok w ι1 B d v):ι1=ι->B=H->Rep ok w ι2 (qr H ds) d v:=by
 induction h with
 |bool b=>intros;exact .bool b
 |int k n=>intros;exact .int k n
 |str s=>intros;exact .str s
 |nilp=>intros;exact .nilp
 |nilf=>intros;exact .nilf
 |nili=>intros;exact .nili
 |raw v=>intros;exact .raw v
 |agg o hc h i=>intro g c;exact .agg o hc fun j d m=>i j d m g c
 |tup o h i=>intro g c;exact .tup o fun j d m=>i j d m g c
 |fn o h i=>intro g c;exact .fn o fun j d m=>i j d m g c
 |iface h i=>intro g c;exact .iface (i g c)
 |optr a hi z=>
  intro g c;subst g;subst c;refine .optr a wW fun ds' l=>?_;rw[vv hi] at l;obtain⟨u,q⟩:=z ds' l;exact⟨u,fun e=>yX⟩
 |osl a hi z p=>
  intro g c;subst g;subst c;refine .osl a wW (fun ds' l=>?_) p;rw[vv hi] at l;obtain⟨u,q⟩:=z ds' l;exact⟨u,fun e=>yX⟩
 |vptr a f x hc r h i=>intros;exact .vptr a f x hc r h
 |vnil=>intros;exact .vnil
 |vsl a f x hc r h p i=>intros;exact .vsl a f x hc r h p
theorem qxj{ds:List D}{b:Nat}{arr:Array Value}{e:TypeId}{fr:Nat×Nat}(x:Sim X ok w ι H)(hb:w.heap[b]?=some (.cells arr e fr))(Q:¬ok b)(M:∀q f s,qd H q=some f->ι q≠some (b,s))
  (F:ds.length<=arr.size) (Z:fr.1=fr.2\/arr.size<=fr.1) (QK:∀j,j<arr.size->(arr.getD j undef).oneCell'=true) (Q7:∀d,d∈ds->jt d=true) (t:∀(j:Nat) d,ds[j]?=some d->Rep ok w ι H d (arr.getD j undef)):
  ∃ι',Sim X ok w ι' (qr H ds)/\ι' H.length=some (b,arr.size)/\(∀d v,Rep ok w ι H d v->Rep ok w ι' (qr H ds) d v)/\
   ∀(n:Nat)(m:Nat->Prop)(u:World)(ι0:qU)(A:qe),Evol n m u ι0 A ok w ι H->u.heap.size<=b->Evol n m u ι0 A ok w ι' (qr H ds):=by
 have y:∀k,k<H.length->(fun k=>if k=H.length then some (b,arr.size) else ι k) k=ι k:=fun k z=>by simp[Jc z]
 have split:∀k f,qd (qr H ds) k=some f->(k=H.length/\f=ds)\/(k<H.length/\qd H k=some f):=by
  intro k f a;by_cases vA:k=H.length
  .subst vA;rw[zF] at a;injection a with a;exact .inl ⟨rfl,a.symm⟩
  .have o:k<H.length:=by
    have:=qx a;rw[jb] at this;omega
   rw[vv o] at a;exact .inr ⟨o,a⟩
 refine⟨fun k=>if k=H.length then some (b,arr.size) else ι k,⟨x.okS,x.glob,?_,?_⟩,wE,fun d v h=>qjE y h rfl rfl,fun n m u ι0 A a R=>⟨a.os,a.tape,a.output,a.size,a.frame,a.okU,a.okN,⟨a.nle.1,by have:=a.nle.2;rw[jb];omega⟩,fun i hi ds' I=>?_,fun i ds' c s hd hi hc=>?_⟩⟩
 .intro p q f fs c s N W hq g l;rcases split p f W with⟨rfl,_⟩|⟨K,J⟩<;>rcases split q fs hq with⟨rfl,_⟩|⟨O,L⟩
  .rfl
  .simp only[if_true,Jc O,if_false,qy,zi] at g l;rw[<-g.1] at l;exact absurd l (M q fs N L)
  .simp only[if_true,Jc K,if_false,qy,zi] at g l;rw[<-l.1] at g;exact absurd g (M p f s J)
  .simp only[Jc K,Jc O,if_false] at g l;exact x.inj p q f fs c s N J L g l
 .intro k f a;rcases split k f a with⟨rfl,rfl⟩|⟨z,a⟩
  .exact⟨b,arr,e,fr,wE,Q,hb,F,Z,QK,Q7,fun j d B=>qjE y (t j d B) rfl rfl⟩
  .obtain⟨c,r,e2,E,G,C,P,T,V,h6,S,h8⟩:=x.blk k f a;exact⟨c,r,e2,E,by simp[Jc z,G],C,P,T,V,h6,S,fun j d B=>qjE y (h8 j d B) rfl rfl⟩
 .have o:i<H.length:=vd hi a.nle.2;rw[vv o] at I;obtain⟨f,k1,Y,U⟩:=a.heap i hi ds' I;exact⟨f,k1,Y,fun e=>by simp only[Jc o,if_false];exact U e⟩
 .rcases split i ds' hd with⟨rfl,_⟩|⟨G,C⟩
  .simp only[if_true,qy,zi] at hi;omega
  .simp only[Jc G,if_false] at hi;exact a.own i ds' c s C hi hc
theorem q6Q{t:TypeId}{cs:List D}(h:(Xu X.P t).bind cellsOf=some cs)(w:World):∃(arr:Array Value),(Instr.alloc t true (.tuple #[])).run X.P w=.ok (.pointer (some ⟨w.heap.size,0,none⟩)) (w.alloc (.cells arr t))/\
  cs.length<=arr.size/\(∀j,j<arr.size->(arr.getD j undef).oneCell'=true)/\(∀d,d∈cs->jt d=true)/\∀(ok:Nat->Prop)(w:World)(ι:qU)(H:qe)(j:Nat) d,cs[j]?=some d->Rep ok w ι H d (arr.getD j undef):=by
 cases a:Xu X.P t with
 |none=>simp[a] at h
 |some z=>
  simp only[a,Y9] at h;obtain⟨i,f,k⟩:=qfO a;have c:=fun ok w ι H=>qbw (k ok w ι H) h;obtain⟨m,b,g⟩:=c (fun _=>True) w jA [];refine⟨i.cells,by simp[Instr.alloc,f,newVar,newRow],wC,fun j l=>?_,b,fun ok w ι H=>(c ok w ι H).2.2⟩;have e:cs[j]?=some (cs[j]' wC):=qM wC;exact(g j _ e).oneCell (b _ (mem_of_get? e))
theorem qks{p:D}{b:Nat}(a:YD p=some b):∀{l:List (Option D)},some p∈l->b∈QH l
 |[],h=>by cases h
 |some d::l,h=>by
  simp only[QH,jW];rcases List.mem_cons.1 h with h|h
  .injection h with h;subst h;exact .inl xF
  .exact .inr (qks a h)
 |none::l,h=>by
  rcases List.mem_cons.1 h with h|h
  .cases h
  .simp only[QH];exact qks a h
theorem quR{F:zG}(hF:VC X F){nt:Nat}{g:Array Oper}{Q:Exit->Act->World->Prop}(hD:DrawFacts X bw L al g){e e':qu}{a:Act}{E:Nat->qu}{T:Nat->qe}(cp:E 0=e)(bt:T 0=H)(bR:E g.toList.length=e')(bU:T g.toList.length=H')
  (KW:∀k o,g.toList[k]?=some o->qc2 X F nt bw g o (E k) (T k) (E (k+1)) (T (k+1))) (bX:q7l X g L E T)
  (hs:Sim X ok w ι H) (he:EnvRep ok w ι H e a.tmps) (Q3:nt<=a.tmps.size) (hQ:∀a' w',Out X H.length ok w ι H a e' H' a' w'->Q .normal a' w'):
  wpAny X.P .any g Q g.size (Array.replicate g.size false) a w:=by
 have Y:∀(k:Nat)(o:Oper),g[k]?=some o->qc2 X F nt bw g o (E k) (T k) (E (k+1)) (T (k+1)):=fun k o u=>KW k o (by simpa using u);have bK:E g.size=e':=by simpa using bR
 have bD:T g.size=H':=by simpa using bU
 have au:∀(t a b:Nat),a<=b->b<=g.size->(∀i o,g[i]?=some o->o.dst=some t->¬(a<=i/\i<b))->qi (E b) t=qi (E a) t:=by
  intro t a b Yz
  induction b with
  | zero=>intro _ _;have:a=0:=by omega
          subst this;rfl
  |succ b ih=>
   intro hb jg;by_cases aq:a=b+1
   .rw[aq]
   .have qg:b<g.size:=wC;have J:=ZJ qg;have bY:=ih wC wC (fun i o hi V h=>jg i o hi V ⟨h.1,wC⟩);rw[<-bY];obtain⟨_,h|h⟩:=Y b _ J
    .obtain⟨_,d,_,h3⟩:=h;rw[h3,qhG,if_neg (fun V=>jg b _ J V ⟨wC,wC⟩)]
    .obtain⟨_,_,h3⟩:=h;rw[h3,qhG,if_neg (fun V=>jg b _ J V ⟨wC,wC⟩)]
 have az:∀(k:Nat)(o:Oper),g[k]?=some o->jk X (bw o.dst) o.op=false->T (k+1)=T k:=by
  intro k o J u;obtain⟨_,h|h⟩:=Y k o J
  .obtain⟨_,d,h2,_⟩:=h;unfold jk at u;cases Z7:Zo X (bw o.dst) o.op with
   |v=>exact(qs0 Z7 h2).1
   |r=>exact(qsA (T2:=T k) Z7 h2 (fun _ _ _ _ _ _ _=>rfl)).1
   |e=>simp[Z7] at u
   |m=>simp[Z7] at u
  .exact h.2.1
 have Zr:∀(a b:Nat),a<=b->b<=g.size->(∀i o,g[i]?=some o->jk X (bw o.dst) o.op=true->¬(a<=i/\i<b))->T b=T a:=by
  intro a b Yz
  induction b with
  | zero=>intro _ _;have:a=0:=by omega
          subst this;rfl
  |succ b ih=>
   intro hb jg;by_cases aq:a=b+1
   .rw[aq]
   .have qg:b<g.size:=wC;have J:=ZJ qg;rw[<-ih wC wC (fun i o hi V h=>jg i o hi V ⟨h.1,wC⟩)];refine az b _ J ?_;cases u:jk X (bw g[b].dst) g[b].op with
    |false=>rfl
    |true=>exact absurd ⟨wC,wC⟩ (jg b _ J u)
 have aE:∀(q a b:Nat),a<=b->b<=g.size->q<(T a).length->
   (∀i o,g[i]?=some o->Zo X (bw o.dst) o.op=.m->vM g (E i) o.guard=some true->a<=i->i<b->(T i).length<=(T (i+1)).length/\qd (T (i+1)) q=qd (T i) q)->qd (T b) q=qd (T a) q/\q<(T b).length:=by
  intro q a b Yz
  induction b with
  | zero=>intro _ hq _;have:a=0:=by omega
          subst this;exact⟨rfl,hq⟩
  |succ b ih=>
   intro hb hq jg;by_cases aq:a=b+1
   .subst aq;exact⟨rfl,hq⟩
   .have qg:b<g.size:=wC;have J:=ZJ qg;obtain⟨h1,h2⟩:=ih wC wC hq (fun i o hi V hg h3 h4=>jg i o hi V hg h3 wC);cases Z7:Zo X (bw g[b].dst) g[b].op with
    |v=>rw[az b _ J xN];exact⟨h1,h2⟩
    |r=>rw[az b _ J xN];exact⟨h1,h2⟩
    |m=>
     obtain⟨_,h|h⟩:=Y b _ J
     .obtain⟨k1,k2⟩:=jg b _ J Z7 h.1 wC wC;exact⟨k2.trans h1,wC⟩
     .rw[h.2.1];exact⟨h1,h2⟩
    |e=>
     obtain⟨_,h|h⟩:=Y b _ J
     .obtain⟨_,d,h3,_⟩:=h;obtain⟨M,hM⟩:=q1r Z7 h3;rw[hM,qez h2];exact⟨h1,wG⟩
     .rw[h.2.1];exact⟨h1,h2⟩
 have ai:∀i,al=some i->∃o,g[i]?=some o/\Zo X (bw o.dst) o.op=.e:=by
  intro i I;obtain⟨o,ty,t,K,Z,-,-,-⟩:=hD.alo i I;refine⟨o,K,?_⟩;rw[Z];cases bw o.dst<;>rfl
 let ah:Array Bool->Act->World->Nat->qU->(Nat->Prop)->Prop:=fun f A C m ι1 n=>∃(i:Nat)(o:Oper)(t:Nat)(b:Nat)(arr:Array Value)(ty:TypeId)(fr:Nat×Nat)(cs:List D),al=some i/\g[i]?=some o/\o.dst=some t/\m<=i/\
  T (i+1)=qr (T i) cs/\E (i+1)=jN (E i) (some t) (.optr (T i).length cs.length 0)/\t<A.tmps.size/\A.tmps.getD t undef=.pointer (some ⟨b,0,none⟩)/\C.heap[b]?=some (.cells arr ty fr)/\¬n b/\(∀q es s,qd (T m) q=some es->ι1 q≠some (b,s))/\w.heap.size<=b/\
  cs.length<=arr.size/\(fr.1=fr.2\/arr.size<=fr.1)/\(∀j,j<arr.size->(arr.getD j undef).oneCell'=true)/\(∀d,d∈cs->jt d=true)/\(∀(ok:Nat->Prop)(w:World)(ι:qU)(H:qe)(j:Nat) d,cs[j]?=some d->Rep ok w ι H d (arr.getD j undef))/\
  ∀k y,g[k]?=some y->k≠i->t∈JB g y->f.getD k false=false
 have main:∀(ag:Nat)(f:Array Bool)(A:Act)(C:World)(m:Nat)(ι1:qU)(n:Nat->Prop)(l:Bool),f.size=g.size->
   ((List.range g.size).filter fun i=>!f.getD i false).length<=ag->
   (∀i o,g[i]?=some o->f.getD i false=true->qf1 (fun k=>f.getD k false=true) o)->
   m<=g.size->(∀i o,g[i]?=some o->jk X (bw o.dst) o.op=true->al≠some i->(f.getD i false=true↔i<m))->(∀i,al=some i->(f.getD i false=true↔(i<m\/l=true)))->(l=true->ah f A C m ι1 n)->
   Sim X n C ι1 (T m)->Evol H.length ok w ι H n C ι1 (T m)->A.tmps.size=a.tmps.size->A.defers=a.defers->
   (∀t k,k<=g.size->(∀i o,g[i]?=some o->o.dst=some t->(f.getD i false=true↔i<k))->(l=true->∀i o,al=some i->g[i]?=some o->o.dst≠some t)->∀d,qi (E k) t=some d->t<A.tmps.size/\Rep n C ι1 (T m) d (A.tmps.getD t undef))->
   wpAny X.P .any g Q ag f A C:=by
  have aw:∀(f:Array Bool)(A:Act)(C:World)(m:Nat)(ι1:qU)(n:Nat->Prop)(l:Bool),
   m<=g.size->(∀i o,g[i]?=some o->jk X (bw o.dst) o.op=true->al≠some i->(f.getD i false=true↔i<m))->(∀i,al=some i->(f.getD i false=true↔(i<m\/l=true)))->(l=true->ah f A C m ι1 n)->
   Sim X n C ι1 (T m)->Evol H.length ok w ι H n C ι1 (T m)->A.tmps.size=a.tmps.size->A.defers=a.defers->
   (∀t k,k<=g.size->(∀i o,g[i]?=some o->o.dst=some t->(f.getD i false=true↔i<k))->(l=true->∀i o,al=some i->g[i]?=some o->o.dst≠some t)->∀d,qi (E k) t=some d->t<A.tmps.size/\Rep n C ι1 (T m) d (A.tmps.getD t undef))->
   (∀i o k,al=some k->g[i]?=some o->jk X (bw o.dst) o.op=true->i<k->f.getD i false=true)->
   ∃(m2:Nat)(ι2:qU),m2<=g.size/\(∀i o,g[i]?=some o->jk X (bw o.dst) o.op=true->(f.getD i false=true↔i<m2))/\Sim X n C ι2 (T m2)/\Evol H.length ok w ι H n C ι2 (T m2)/\
    (∀t k,k<=g.size->(∀i o,g[i]?=some o->o.dst=some t->(f.getD i false=true↔i<k))->∀d,qi (E k) t=some d->t<A.tmps.size/\Rep n C ι2 (T m2) d (A.tmps.getD t undef)):=by
   intro f A C m ι1 n l hm hK hJ hP G B h1 h2 XA ja;cases l with
   |false=>
    refine⟨m,ι1,hm,fun i o J u=>?_,G,B,fun t k u Km d V=>XA t k u Km (fun h=>wI) d V⟩;by_cases I:al=some i
    .have:=hJ i I;simpa using this
    .exact hK i o J u I
   |true=>
    obtain⟨j0,o,t0,b,arr,ty,fr,cs,p1,p2,p3,p4,p5,p6,p7,p8,p9,aY,aH,bf,bj,ba,aW,bg,bq,bo⟩:=hP rfl;have cw:=(Array.getElem?_eq_some_iff.1 p2).1
    have bI:T j0=T m:=Zr m j0 p4 wC fun i x hx u hi=>by
     have qQ:al≠some i:=(by rw[p1];intro h;injection h with h;omega);have:=(hK i x hx u qQ).1 (ja i x j0 p1 hx u hi.2);omega
    obtain⟨ι2,s1,s2,s3,s4⟩:=qxj (ds:=cs) G p9 aY aH bj ba aW bg (fun j d hj=>bq _ _ _ _ j d hj);have kQ:T (j0+1)=qr (T m) cs:=(by rw[p5,bI]);rw[bI] at p6;refine⟨j0+1,ι2,wC,fun i x hx u=>?_,by rw[kQ];exact s1,by rw[kQ];exact s4 _ _ _ _ _ B bf,fun t k u Km d V=>?_⟩
    .by_cases I:al=some i
     .have:i=j0:=(by rw[p1] at I;injection I with h;exact h.symm);subst this;exact⟨fun _=>Nat.lt_succ_self _,fun _=>(hJ i I).2 (.inr rfl)⟩
     .have qQ:i≠j0:=fun h=>I (by rw[h];exact p1);have h3:=hK i x hx u I;exact⟨fun O=>by have:=h3.1 O;omega,fun qg=>ja i x j0 p1 hx u wC⟩
    .rw[kQ];by_cases ht:t0=t
     .subst ht;have Vz:j0<k:=(Km j0 o p2 p3).1 ((hJ j0 p1).2 (.inr rfl))
      have O:=au t0 (j0+1) k wC u fun i x hx kP aK=>by
       have:=bo i x hx wC (by simp[JB,kP]);rw[(Km i x hx kP).2 aK.2] at this;cases this
      rw[O,p6,qhG,if_pos rfl] at V;injection V with V;subst V;refine⟨p7,?_⟩;rw[p8];refine .optr _ wW fun ds aM=>?_;rw[zF] at aM;injection aM with aM;subst aM;exact⟨qA _,fun _=>⟨_,_,s2,rfl⟩⟩
     .obtain⟨q1,q2⟩:=XA t k u Km (fun _ i x I hx=>by
       have:i=j0:=(by rw[p1] at I;injection I with h;exact h.symm);subst this;rw[p2] at hx;injection hx with hx;subst hx;rw[p3];intro h;injection h with h;exact ht h) d V
      exact⟨q1,s3 _ _ q2⟩
  have fin:∀(f:Array Bool)(A:Act)(C:World)(m:Nat)(ι1:qU)(n:Nat->Prop),(∀i,i<g.size->f.getD i false=true)->m<=g.size->
    (∀i o,g[i]?=some o->jk X (bw o.dst) o.op=true->(f.getD i false=true↔i<m))->
    Sim X n C ι1 (T m)->Evol H.length ok w ι H n C ι1 (T m)->A.tmps.size=a.tmps.size->A.defers=a.defers->
    (∀t k,k<=g.size->(∀i o,g[i]?=some o->o.dst=some t->(f.getD i false=true↔i<k))->∀d,qi (E k) t=some d->t<A.tmps.size/\Rep n C ι1 (T m) d (A.tmps.getD t undef))->Q .normal A C:=by
   intro f A C m ι1 n ja hm hK G B h1 h2 XA
   have hT:T g.size=T m:=Zr m g.size hm (qA _) (fun i o J u h=>by
    have:=(hK i o J u).1 (ja i h.2);omega)
   rw[bD] at hT;rw[<-hT] at G B XA;refine hQ A C ⟨h1,h2,ι1,n,G,fun t d ht=>?_,B⟩;rw[<-bK] at ht;exact XA t g.size (qA _) (fun i o J _=>⟨fun _=>(Array.getElem?_eq_some_iff.1 J).1,fun h=>ja i h⟩) d ht
  have aR:∀(f:Array Bool)(A:Act)(C:World)(m:Nat)(ι1:qU)(n:Nat->Prop)(l:Bool),(∀i,i<g.size->f.getD i false=true)->
   m<=g.size->(∀i o,g[i]?=some o->jk X (bw o.dst) o.op=true->al≠some i->(f.getD i false=true↔i<m))->(∀i,al=some i->(f.getD i false=true↔(i<m\/l=true)))->(l=true->ah f A C m ι1 n)->
   Sim X n C ι1 (T m)->Evol H.length ok w ι H n C ι1 (T m)->A.tmps.size=a.tmps.size->A.defers=a.defers->
   (∀t k,k<=g.size->(∀i o,g[i]?=some o->o.dst=some t->(f.getD i false=true↔i<k))->(l=true->∀i o,al=some i->g[i]?=some o->o.dst≠some t)->∀d,qi (E k) t=some d->t<A.tmps.size/\Rep n C ι1 (T m) d (A.tmps.getD t undef))->
   Q .normal A C:=by
   intro f A C m ι1 n l ja hm hK hJ hP G B h1 h2 XA;obtain⟨m2,ι2,q1,q2,q3,q4,q5⟩:=aw f A C m ι1 n l hm hK hJ hP G B h1 h2 XA (fun i o k _ J _ _=>ja i (Array.getElem?_eq_some_iff.1 J).1);exact fin f A C m2 ι2 n ja q1 q2 q3 q4 h1 h2 q5
  intro ag
  induction ag with
  |zero=>
   intro f A C m ι1 n l jm bO qE hm hK hJ hP G B h1 h2 XA
   have ja:∀i,i<g.size->f.getD i false=true:=by
    intro i hi;cases O:f.getD i false with
    |true=>rfl
    |false=>
     have:i∈(List.range g.size).filter fun i=>!f.getD i false:=by
      rw[List.mem_filter];exact⟨List.mem_range.2 hi,by simp only[O];rfl⟩
     have qQ:=List.length_pos_of_mem this;omega
   refine⟨?_,aR f A C m ι1 n l ja hm hK hJ hP G B h1 h2 XA⟩;unfold Region.ready;rw[List.filter_eq_nil_iff];intro i hi;have qg:=List.mem_range.1 hi;have:=ja i qg
   have h3:f.getD i true=true:=by
    rw[j8,ZJ wC] at this⊢;exact this
   simp[h3]
  |succ ag ih=>
   intro f A C m0 ι0 n aJ jm bO qE VZ vB bE bv aB av h1 h2 ak
   obtain⟨m,ι1,l,hm,hK,hJ,hP,G,B,XA,aC⟩:∃(m:Nat)(ι1:qU)(l:Bool),m<=g.size/\(∀i o,g[i]?=some o->jk X (bw o.dst) o.op=true->al≠some i->(f.getD i false=true↔i<m))/\(∀i,al=some i->(f.getD i false=true↔(i<m\/l=true)))/\(l=true->ah f A C m ι1 n)/\
     Sim X n C ι1 (T m)/\Evol H.length ok w ι H n C ι1 (T m)/\
     (∀t k,k<=g.size->(∀i o,g[i]?=some o->o.dst=some t->(f.getD i false=true↔i<k))->(l=true->∀i o,al=some i->g[i]?=some o->o.dst≠some t)->∀d,qi (E k) t=some d->t<A.tmps.size/\Rep n C ι1 (T m) d (A.tmps.getD t undef))/\
     (l=true->∃i o k,al=some k/\g[i]?=some o/\jk X (bw o.dst) o.op=true/\i<k/\f.getD i false=false):=by
    by_cases ja:∀i o k,al=some k->g[i]?=some o->jk X (bw o.dst) o.op=true->i<k->f.getD i false=true
    .obtain⟨m2,ι2,q1,q2,q3,q4,q5⟩:=aw f A C m0 ι0 n aJ VZ vB bE bv aB av h1 h2 ak ja;refine⟨m2,ι2,false,q1,fun i o J u _=>q2 i o J u,fun i I=>?_,(fun h=>wI),q3,q4,fun t k u Km _ d V=>q5 t k u Km d V,(fun h=>wI)⟩;obtain⟨o,K,Z⟩:=ai i I;simpa using q2 i o K (by simp only[jk,Z])
    .refine⟨m0,ι0,aJ,VZ,vB,bE,bv,aB,av,ak,fun _=>?_⟩;simp only[Classical.not_forall] at ja;obtain⟨i,o,k,K,Z,g3,g4,g5⟩:=ja;exact⟨i,o,k,K,Z,g3,g4,by simpa using g5⟩
   have ay:∀j,j∈Region.ready .any g f↔∃o,g[j]?=some o/\f.getD j false=false/\qf1 (fun k=>f.getD k false=true) o:=by
    intro j;unfold Region.ready;rw[List.mem_filter];constructor
    .rintro⟨hj,hc⟩;have qg:=List.mem_range.1 hj;simp only[ZJ qg,jn,Vm,zY,Bool.not_eq_true'] at hc;refine⟨_,ZJ qg,?_,?_⟩
     .rw[j8,ZJ wC] at hc⊢;exact hc.1
     .intro e he hb;have:=Array.all_eq_true'.1 hc.2 e (by simpa using he);simpa[hb] using this
    .rintro⟨o,J,O,aI⟩;have qg:=(Array.getElem?_eq_some_iff.1 J).1;refine⟨List.mem_range.2 qg,?_⟩;simp only[J,jn,Vm,zY,Bool.not_eq_true'];refine⟨?_,?_⟩
     .rw[j8,ZJ wC] at O⊢;exact O
     .rw[Array.all_eq_true'];intro e he;cases hb:Region.binds .any e with
      |false=>simp
      |true=>simpa[hb] using aI e (by simpa using he) hb
   refine⟨fun qX=>?_,fun j hj=>?_⟩
   .refine aR f A C m ι1 n l ?_ hm hK hJ hP G B h1 h2 XA;intro i
    induction i using Nat.strongRecOn with
    |_ i bQ=>
     intro hi;cases O:f.getD i false with
     |true=>rfl
     |false=>
      have J:=ZJ hi
      have:i∈Region.ready .any g f:=(ay i).2 ⟨_,J,O,fun e he hb=>by
       have qg:=hD.edge i _ J e he hb;exact bQ e.on qg wC⟩
      rw[qX] at this;simp at this
   .obtain⟨o,J,ae,aI⟩:=(ay j).1 hj;have Ys:=(Array.getElem?_eq_some_iff.1 J).1
    have aD:∀i x,g[i]?=some x->i<j->V9 X bw L al g i x j o=true->f.getD i false=true:=fun i x hx N hc=>
     qlT (S:=fun k=>f.getD k false=true) qE J aI (hD.ord i j x o hx J N hc)
    have aN:∀i x,g[i]?=some x->j<i->V9 X bw L al g j o i x=true->f.getD i false=false:=by
     intro i x hx N hc;cases O:f.getD i false with
     |false=>rfl
     |true=>
      have:=qlT (S:=fun k=>f.getD k false=true) qE hx (qE i x hx O) (hD.ord j i o x J hx N hc);rw[ae] at this;cases this
    have aj:∀i x,g[i]?=some x->(i≠j->V9 X bw L al g i x j o=true)->(f.getD i false=true↔i<j):=by
     intro i x hx hc;rcases Nat.lt_trichotomy i j with h|h|h
     .exact⟨fun _=>h,fun _=>aD i x hx h (hc wC)⟩
     .subst h;exact⟨fun h=>(by rw[ae] at h;cases h),fun h=>wC⟩
     .exact⟨fun O=>(by rw[aN i x hx h (q5U (hc wC))] at O;cases O),fun h=>wC⟩
    have bh:l=true->al≠some j:=by
     intro U hj;have:=(hJ j hj).2 (.inr U);rw[ae] at this;cases this
    have aQ:l=true->∀i y,al=some i->g[i]?=some y->∀t,y.dst=some t->t∉JB g o:=by
     intro U i y I hy t bk ht;obtain⟨y',ty,t',K,Z,g3,g4,g5⟩:=hD.alo i I;rw[hy] at K;injection K with K;subst K;rw[bk] at g3;injection g3 with g3;subst g3;have qQ:j≠i:=fun h=>bh U (by rw[h];exact I);obtain⟨q,x,k,u1,u2,u3,u4,u5⟩:=aC U;have vA:k=i:=(by rw[I] at u1;injection u1 with u1;exact u1.symm);subst vA;have:=qlT (S:=fun k=>f.getD k false=true) qE J aI ((g5 j o J qQ ht).2 q x u2 u4 u3);rw[u5] at this;cases this
    have bP:∀t,t∈JB g o->∀d,qi (E j) t=some d->t<A.tmps.size/\Rep n C ι1 (T m) d (A.tmps.getD t undef):=by
     intro t ht d V;refine XA t j wC (fun i x hx kP=>aj i x hx (fun _=>?_)) (fun U i y I hy bk=>aQ U i y I hy t bk ht) d V;unfold V9;simp only[kP,Option.any_some,qdV];exact .inl (.inl (.inl (.inl (by simpa using ht))))
    have qn:∀i,(f.setIfInBounds j true).getD i false=if i=j then true else f.getD i false:=by
     intro i;rw[j8,j8];by_cases N:i=j
     .subst N;simp[show i<f.size from wC]
     .rw[qfK (Ne.symm N),if_neg N]
    have bG:∀(v:Value) t,o.dst≠some t->(A.put o.dst v).tmps.getD t undef=A.tmps.getD t undef:=by
     intro v t ht;cases aZ:o.dst with
     |none=>rfl
     |some s=>
      have:s≠t:=fun e=>ht (by rw[aZ,e]);simp only[Act.put,j8];rw[qfK this]
    have aV:∀(v:Value)(w2:World)(ι2:qU)(ok2:Nat->Prop)(m':Nat),Evol (T m).length n C ι1 (T m) ok2 w2 ι2 (T m')->(∀i,al=some i->l=true->m'<=i)->l=true->ah (f.setIfInBounds j true) (A.put o.dst v) w2 m' ι2 ok2:=by
     intro v w2 ι2 ok2 m' W bn U;obtain⟨j0,y,t0,b,arr,ty,fr,cs,p1,p2,p3,p4,p5,p6,p7,p8,p9,aY,aH,bf,bj,ba,aW,bg,bq,bo⟩:=hP U;have jg:=aQ U j0 y p1 p2 t0 p3;have cq:o.dst≠some t0:=fun h=>jg (by simp[JB,h]);have aA:b<C.heap.size:=(Array.getElem?_eq_some_iff.1 p9).1;refine⟨j0,y,t0,b,arr,ty,fr,cs,p1,p2,p3,bn j0 p1 U,p5,p6,by rw[(qei A o.dst v).1];exact p7,by rw[bG v t0 cq];exact p8,by rw[W.frame b aA aH];exact p9,fun h=>?_,fun q es s hq h=>?_,bf,bj,ba,aW,bg,bq,fun k z hz u hn=>?_⟩
     .rcases W.okN b h aA with h|⟨i,ds,s,K,Z⟩
      .exact aY h
      .exact aH i ds s K Z
     .obtain⟨q',ds,s',K,Z⟩:=W.own q es b s hq h aA;exact aH _ _ _ K Z
     .rw[qn]
      have bW:k≠j:=by
       rintro rfl;rw[J] at hz;injection hz with hz;subst hz;exact jg hn
      rw[if_neg bW];exact bo k z hz u hn
    have aa:∀(d:D)(v:Value)(w2:World)(ι2:qU)(ok2:Nat->Prop)(m':Nat)(R:Bool),(l=true->R=true)->E (j+1)=jN (E j) o.dst d->km nt o.dst=true->Sim X ok2 w2 ι2 (T m')->((al=some j->R=false)->Rep ok2 w2 ι2 (T m') d v)->
      Evol (T m).length n C ι1 (T m) ok2 w2 ι2 (T m')->m'<=g.size->(∀i x,g[i]?=some x->jk X (bw x.dst) x.op=true->al≠some i->((f.setIfInBounds j true).getD i false=true↔i<m'))->
      (∀i,al=some i->((f.setIfInBounds j true).getD i false=true↔(i<m'\/R=true)))->(R=true->ah (f.setIfInBounds j true) (A.put o.dst v) w2 m' ι2 ok2)->
      wpAny X.P .any g Q ag (f.setIfInBounds j true) (A.put o.dst v) w2:=by
     intro d v w2 ι2 ok2 m' R Ql hE kP bm aG W aX aU br cg
     have bZ:∀i,(f.setIfInBounds j true).getD i false=if i=j then true else f.getD i false:=by
      intro i;rw[j8,j8];by_cases N:i=j
      .subst N;simp[show i<f.size from wC]
      .rw[qfK (Ne.symm N),if_neg N]
     obtain⟨p1,p2⟩:=qei A o.dst v;refine ih _ _ w2 m' ι2 ok2 R (by simpa using jm) ?_ ?_ aX aU br cg bm (B.trans (W.mono B.nle.2)) wC (by rw[p2,h2]) ?_
     .have qg:((List.range g.size).filter fun i=>!(f.setIfInBounds j true).getD i false).length<((List.range g.size).filter fun i=>!f.getD i false).length:=by
       have bb:((List.range g.size).filter fun i=>!(f.setIfInBounds j true).getD i false)=(((List.range g.size).filter fun i=>!f.getD i false).filter fun i=>decide (i≠j)):=by
        rw[List.filter_filter];apply List.filter_congr;intro i _;rw[qn i];by_cases N:i=j<;>simp[N]
       rw[bb];refine List.length_filter_lt_length_iff_exists.2 ⟨j,?_,wE⟩;rw[List.mem_filter];exact⟨List.mem_range.2 Ys,by simp only[ae];rfl⟩
      omega
     .intro i x hx O e he hb;show(f.setIfInBounds j true).getD e.on false=true;rw[qn] at O⊢;by_cases bA:e.on=j
      .rw[if_pos bA]
      .rw[if_neg bA];by_cases N:i=j
       .subst N;rw[J] at hx;injection hx with hx;subst hx;exact aI e he hb
       .rw[if_neg N] at O;exact qE i x hx O e he hb
     .intro t k u Km bJ d' zP;by_cases ht:o.dst=some t
      .have Vz:j<k:=(Km j o J ht).1 (by rw[qn,if_pos rfl])
       have O:=au t (j+1) k wC u (fun i x hx kP aK=>by
        have h3:=(Km i x hx kP).2 aK.2;rw[qn,if_neg wC] at h3
        have h4:=aN i x hx wC (by
         unfold V9;simp only[ht,Option.any_some,qdV];exact .inl (.inl (.inl (.inl (by simp[JB,kP])))))
        rw[h4] at h3;cases h3)
       rw[O,hE,qhG,if_pos ht] at zP;injection zP with zP;subst zP;rw[ht] at kP⊢;have qg:t<nt:=(by simpa[km] using kP);have vJ:t<A.tmps.size:=vd qg wC;refine⟨by simpa[Act.put] using vJ,?_⟩
       have aG:=aG fun hj=>by
        cases ck:R with
        |false=>rfl
        |true=>exact absurd ht (bJ ck j o hj J)
       simpa[Act.put,vJ,j8] using aG
      .have aF:=XA t k u (fun i x hx kP=>by
        have h3:=Km i x hx kP
        have N:i≠j:=by
         rintro rfl;rw[J] at hx;injection hx with hx;subst hx;exact ht kP
        rwa [qn,if_neg N] at h3) (fun U=>bJ (Ql U)) d' zP
       refine⟨by have h:=aF.1;rw[p1];exact h,?_⟩
       have bV:(A.put o.dst v).tmps.getD t undef=A.tmps.getD t undef:=by
        cases aZ:o.dst with
        |none=>rfl
        |some s=>
         have:s≠t:=fun e=>ht (by rw[aZ,e]);simp only[Act.put,j8];rw[qfK this]
       rw[bV];exact aF.2.evol G W aF.2.closed
    have jx:jk X (bw o.dst) o.op=false->∀i x,g[i]?=some x->jk X (bw x.dst) x.op=true->al≠some i->((f.setIfInBounds j true).getD i false=true↔i<m):=by
     intro u i x hx Ze I
     have N:i≠j:=by
      rintro rfl;rw[J] at hx;injection hx with hx;subst hx;rw[u] at Ze;cases Ze
     rw[qn,if_neg N];exact hK i x hx Ze I
    have bc:jk X (bw o.dst) o.op=false->∀i,al=some i->((f.setIfInBounds j true).getD i false=true↔(i<m\/l=true)):=by
     intro u i I
     have N:i≠j:=by
      rintro rfl;obtain⟨x,K,Z⟩:=ai i I;rw[J] at K;injection K with K;subst K;simp only[jk,Z] at u;cases u
     rw[qn,if_neg N];exact hJ i I
    have kN:∀i,al=some i->l=true->m<=i:=by
     intro i I U;obtain⟨j0,y,t0,b,arr,ty,fr,cs,p1,p2,p3,p4,-⟩:=hP U;rw[I] at p1;injection p1 with p1;omega
    have aL:jk X (bw o.dst) o.op=true->(al=some j->∀i x,g[i]?=some x->jk X (bw x.dst) x.op=true->i<j->f.getD i false=true)->
      ∀i x,g[i]?=some x->jk X (bw x.dst) x.op=true->(i<m↔i<j)/\(al≠some i->(f.getD i false=true↔i<j)):=by
     intro u ZX i x hx Ze
     have aO:al≠some i->(f.getD i false=true↔i<j):=by
      intro I;by_cases Jw:al=some j
      .rcases Nat.lt_trichotomy i j with h|h|h
       .exact⟨fun _=>h,fun _=>ZX Jw i x hx Ze h⟩
       .subst h;exact absurd Jw I
       .have hc:V9 X bw L al g j o i x=true:=qiB u Ze (by rw[Nat.max_eq_right wC];exact I);exact⟨fun O=>(by rw[aN i x hx h hc] at O;cases O),fun h=>wC⟩
      .refine aj i x hx fun _=>qiB Ze u ?_;rcases Nat.le_total i j with h|h
       .rw[Nat.max_eq_right h];exact Jw
       .rw[Nat.max_eq_left h];exact I
     refine⟨?_,aO⟩;by_cases I:al=some i
     .by_cases N:i=j
      .subst N
       have:¬i<m:=fun h=>by
        have:=(hJ i I).2 (.inl h);rw[ae] at this;cases this
       exact⟨fun h=>absurd h this,fun h=>absurd h (Nat.lt_irrefl _)⟩
      .have Jw:al≠some j:=fun h=>by rw[I] at h;injection h with h;exact N h
       have bT:¬j<m:=fun h=>by
        have:=(hK j o J u Jw).2 h;rw[ae] at this;cases this
       have qg:i<j->f.getD i false=true:=fun h=>aD i x hx h (qiB Ze u (by rw[Nat.max_eq_right wC];exact Jw));cases U:l with
       |false=>
        have h3:=hJ i I;rw[U] at h3;simp only[Qd,or_false] at h3;refine⟨fun h=>wC,fun h=>h3.1 (qg h)⟩
       |true=>
        have h4:=kN i I U;obtain⟨q,z,k,u1,u2,u3,u4,u5⟩:=aC U;have vA:k=i:=(by rw[I] at u1;injection u1 with u1;exact u1.symm);subst vA;refine⟨fun h=>wC,fun h=>?_⟩;have hc:V9 X bw L al g q z j o=true:=qiB u3 u (by rw[Nat.max_eq_right wC];exact Jw);have:=aD q z u2 wC hc;rw[u5] at this;cases this
     .exact(hK i x hx Ze I).symm.trans (aO I)
    have jw:jk X (bw o.dst) o.op=true->(al=some j->∀i x,g[i]?=some x->jk X (bw x.dst) x.op=true->i<j->f.getD i false=true)->∀i x,g[i]?=some x->jk X (bw x.dst) x.op=true->al≠some i->((f.setIfInBounds j true).getD i false=true↔i<j+1):=by
     intro u ZX i x hx Ze I;rw[qn];by_cases N:i=j
     .subst N;simp
     .rw[if_neg N,(aL u ZX i x hx Ze).2 I];omega
    have bp:jk X (bw o.dst) o.op=true->(al=some j->∀i x,g[i]?=some x->jk X (bw x.dst) x.op=true->i<j->f.getD i false=true)->∀i,al=some i->((f.setIfInBounds j true).getD i false=true↔(i<j+1\/l=true)):=by
     intro u ZX i I;rw[qn];by_cases N:i=j
     .subst N;simp
     .obtain⟨x,K,Z⟩:=ai i I;have h3:=(aL u ZX i x K (by simp only[jk,Z])).1;rw[if_neg N,hJ i I];constructor
      .rintro(h|h)
       .exact .inl wC
       .exact .inr h
      .rintro(h|h)
       .exact .inl wC
       .exact .inr h
    have zU:jk X (bw o.dst) o.op=true->∀i,al=some i->l=true->j+1<=i:=by
     intro u i I U;have Jw:=bh U;have N:i≠j:=fun h=>Jw (by rw[<-h];exact I);obtain⟨x,K,Z⟩:=ai i I;have h3:=(aL u (fun h=>absurd h Jw) i x K (by simp only[jk,Z])).1;have:=kN i I U;omega
    have bu:jk X (bw o.dst) o.op=true->(al=some j->∀i x,g[i]?=some x->jk X (bw x.dst) x.op=true->i<j->f.getD i false=true)->T m=T j:=by
     intro u ZX;have bN:∀i x,g[i]?=some x->jk X (bw x.dst) x.op=true->(i<m↔i<j):=fun i x hx Ze=>(aL u ZX i x hx Ze).1;rcases Nat.le_total m j with h|h
     .exact(Zr m j h wC (fun i x hx Ze hi=>by have:=(bN i x hx Ze).2 hi.2;omega)).symm
     .exact Zr j m h hm (fun i x hx Ze hi=>by have:=(bN i x hx Ze).1 hi.2;omega)
    unfold wpOp;simp only[J];obtain⟨kP,ce⟩:=Y j o J
    have Yu:∀k ax t,∀o':Oper,o'.guard=some (k,ax)->o'=o->(g[k]?).bind (·.dst)=some t->t∈JB g o:=by
     intro k ax t o' hg cj V;subst cj;simp[JB,hg,V]
    have hw:∀b,vM g (E j) o.guard=some b->Region.wanted o (yielded g A.tmps)=b:=by
     intro b hb;exact qml (fun k ax t hg V d O=>bP t (Yu k ax t o hg rfl V) d O) hb
    rcases ce with⟨hg,d,QR,hE⟩|⟨hg,ch,hE⟩
    .rw[if_pos (hw true hg)];refine .inl ?_;unfold Oper.wp
     have aP:∀x,x∈o.op.operands.toList->qY X (E j) x=qY X (qb8 (JB g o) (E j)) x:=fun x hx=>qzI fun t ht=>(qhF (by
      simp only[JB,jW,List.mem_flatMap];exact .inl (.inr ⟨x,hx,ht⟩))).symm
     rw[q4L aP] at QR;have aS:EnvRep n C ι1 (T m) (qb8 (JB g o) (E j)) A.tmps:=fun t d ht=>bP t (qhE ht).1 d (qhE ht).2
     have go:∀m',qZ X F (bw o.dst) o.op (qb8 (JB g o) (E j)) (T m)=some (d,T m')->m'<=g.size->(∀i x,g[i]?=some x->jk X (bw x.dst) x.op=true->al≠some i->((f.setIfInBounds j true).getD i false=true↔i<m'))->
       (∀i,al=some i->((f.setIfInBounds j true).getD i false=true↔(i<m'\/l=true)))->(∀i,al=some i->l=true->m'<=i)->
       o.upon X.P A (wpAny X.P .any g Q ag (f.setIfInBounds j true)) Q ((execOp A.eval o).run X.P C):=by
      intro m' bC aX aU br bn;refine Goes.upon ((qjZ hF G aS bC).mono fun v w2 U=>?_);obtain⟨ι2,ok2,q1,q2,q3⟩:=U;exact aa d v w2 ι2 ok2 m' l (fun h=>h) hE kP q1 (fun _=>q2) q3 aX aU br (aV v w2 ι2 ok2 m' q3 bn)
     cases Z7:Zo X (bw o.dst) o.op with
     |v=>exact go m ((qs0 Z7 QR).2 (T m)) hm (jx xN) (bc xN) kN
     |r=>
      refine go m (qsA Z7 QR fun x hx p i U hi qQ=>?_).2 hm (jx xN) (bc xN) kN
      have aT:∀i x,g[i]?=some x->Zo X (bw x.dst) x.op=.m->L.contains (i,j)=true\/(i<m↔i<j):=by
       intro i x hx Ze;cases hc:L.contains (i,j) with
       |true=>exact .inl rfl
       |false=>
        have I:al≠some i:=fun h=>by
         obtain⟨z,K,Z⟩:=ai i h;rw[hx] at K;injection K with K;subst K;rw[Ze] at Z;cases Z
        refine .inr ((hK i x hx (by simp only[jk,Ze]) I).symm.trans (aj i x hx fun _=>?_));unfold V9;simp only[Ze,Z7,hc];simp
      have qg:i<(T m).length:=by
       have:=(vj G aS U).closed;cases p<;>simp only[YD,reduceCtorEq,qy] at hi
       .subst hi;simpa[closed] using this
       .subst hi;simpa[closed] using this
      have jZ:i∈QH (o.op.operands.toList.map (qY X (E j))):=qks hi (by
       rw[<-U,<-aP x hx];exact List.mem_map_of_mem hx)
      have KV:∀i' x',g[i']?=some x'->Zo X (bw x'.dst) x'.op=.m->vM g (E i') x'.guard=some true->L.contains (i',j)=true->(T i').length<=(T (i'+1)).length/\qd (T (i'+1)) i=qd (T i') i:=by
       intro i' x' ac am ao hc
       have bB:i'≠j:=by
        rintro rfl;rw[J] at ac;injection ac with ac;subst ac;rw[Z7] at am;cases am
       obtain⟨u1,u2⟩:=bX i' j x' o ac J hc bB ao hg;exact⟨u1,u2 i jZ⟩
      rcases Nat.le_total m j with h|h
      .exact(aE i m j h wC qg (fun i' x' ac am ao h1 h2=>by
        rcases aT i' x' ac am with hc|hc
        .exact KV i' x' ac am ao hc
        .omega)).1.symm
      .have bH:i<(T j).length:=by
        cases Zs:qd (T j) i with
        |none=>exact absurd Zs qQ
        |some ds=>exact qx Zs
       exact(aE i j m h hm bH (fun i' x' ac am ao h1 h2=>by
        rcases aT i' x' ac am with hc|hc
        .exact KV i' x' ac am ao hc
        .omega)).1
     |e=>
      have u:jk X (bw o.dst) o.op=true:=xN;by_cases ZX:al=some j->∀i x,g[i]?=some x->jk X (bw x.dst) x.op=true->i<j->f.getD i false=true
      .rw[<-bu u ZX] at QR;exact go (j+1) QR wC (jw u ZX) (bp u ZX) (zU u)
      .have Jw:al=some j:=Classical.byContradiction fun h=>ZX fun h2=>absurd h2 h
       have cu:l=false:=by
        cases U:l with
        |false=>rfl
        |true=>exact absurd Jw (bh U)
       obtain⟨o',ty,t0,K,Z,g3,g4,g5⟩:=hD.alo j Jw;rw[J] at K;injection K with K;subst K
       have bT:¬j<m:=fun h=>by
        have:=(hJ j Jw).2 (.inl h);rw[ae] at this;cases this
       have bF:qZ X F (bw o.dst) o.op (qb8 (JB g o) (E j)) (T j)=match(Xu X.P ty).bind cellsOf with
         |some cs=>some (.optr (T j).length cs.length 0,qr (T j) cs)
         |none=>none:=by
        rw[Z];cases bw o.dst<;>rfl
       rw[bF] at QR;cases hz:(Xu X.P ty).bind cellsOf with
       |none=>rw[hz] at QR;cases QR
       |some cs=>
        rw[hz] at QR;injection QR with QR;injection QR with V ci;obtain⟨arr,r1,r2,r3,r4,r5⟩:=q6Q hz C;have bM:=qxF (w':=C.alloc (.cells arr ty)) G ⟨rfl,rfl,rfl⟩ wE (fun c hc=>heap_alloc_old C _ hc);have qg:t0<nt:=(by simpa[km,g3] using kP);have bz:Goes X.P (execOp A.eval o) C (fun v w2=>v=.pointer (some ⟨C.heap.size,0,none⟩)/\w2=C.alloc (.cells arr ty)):=Goes.value (by simp[execOp,Z,r1]) ⟨rfl,rfl⟩;refine Goes.upon (bz.mono fun v w2 U=>?_);obtain⟨rfl,rfl⟩:=U;refine aa d _ _ ι1 n m true (fun _=>rfl) hE kP bM.1 (fun h=>by cases h Jw) bM.2 hm (fun i x hx Ze I=>?_) (fun i I=>?_) (fun _=>?_)
        .have N:i≠j:=fun h=>I (by rw[h];exact Jw);rw[qn,if_neg N];exact hK i x hx Ze I
        .have N:i=j:=(by rw[Jw] at I;injection I with h;exact h.symm);rw[qn,if_pos N];simp
        .refine⟨j,o,t0,C.heap.size,arr,ty,(0,0),cs,Jw,J,g3,wC,ci.symm,by rw[hE,<-V,g3],by rw[(qei A o.dst _).1];exact vd qg (by rw[h1];exact Q3),?_,heap_alloc_new C _,fun h=>?_,fun q es s hq h=>?_,B.size,r2,.inl rfl,r3,r4,r5,fun k y hy JO hn=>?_⟩
         .rw[g3];have:t0<A.tmps.size:=vd qg (by rw[h1];exact Q3);simp[Act.put,this]
         .exact absurd (G.okS _ h) (Nat.lt_irrefl _)
         .exact absurd (G.lt hq h) (Nat.lt_irrefl _)
         .rw[qn,if_neg JO];refine aN k y hy (g5 k y hy JO hn).1 ?_;unfold V9;simp only[g3,Option.any_some,qdV];exact .inl (.inl (.inl (.inl (by simpa using hn))))
     |m=>
      have u:jk X (bw o.dst) o.op=true:=xN
      have ZX:al=some j->∀i x,g[i]?=some x->jk X (bw x.dst) x.op=true->i<j->f.getD i false=true:=fun h=>by
       obtain⟨z,K,Z⟩:=ai j h;rw[J] at K;injection K with K;subst K;rw[Z7] at Z;cases Z
      rw[<-bu u ZX] at QR;exact go (j+1) QR wC (jw u ZX) (bp u ZX) (zU u)
    .rw[if_neg (by rw[hw false hg];simp)];cases u:jk X (bw o.dst) o.op with
     |false=>exact aa (.tup []) undef C ι1 n m l (fun h=>h) hE kP G (fun _=>qhd) (.refl _ (qA _)) hm (jx u) (bc u) (aV _ _ _ _ _ (.refl _ (qA _)) kN)
     |true=>
      have ZX:al=some j->∀i x,g[i]?=some x->jk X (bw x.dst) x.op=true->i<j->f.getD i false=true:=fun h=>by
       obtain⟨o',ty,t0,K,Z,g3,g4,g5⟩:=hD.alo j h;rw[J] at K;injection K with K;subst K;rw[g4] at hg;simp[vM] at hg
      have kQ:T (j+1)=T m:=(by rw[ch,bu u ZX]);have W:Evol (T m).length n C ι1 (T m) n C ι1 (T (j+1)):=(by rw[kQ];exact .refl _ (qA _));exact aa (.tup []) undef C ι1 n (j+1) l (fun h=>h) hE kP (by rw[kQ];exact G) (fun _=>qhd) W wC (jw u ZX) (bp u ZX) (aV _ _ _ _ _ W (zU u))
 refine main g.size (Array.replicate g.size false) a w 0 ι ok false wE ?_ ?_ (vp _) ?_ ?_ (fun h=>wI) (by rw[bt];exact hs) (by rw[bt];exact .refl _ (qA _)) rfl rfl ?_
 .exact zJ (List.length_filter_le _ _) wE
 .intro i o hi O
  have:(Array.replicate g.size false).getD i false=false:=by
   rw[j8,qiY];split<;>rfl
  rw[this] at O;cases O
 .intro i o hi u _
  have:(Array.replicate g.size false).getD i false=false:=by
   rw[j8,qiY];split<;>rfl
  rw[this];simp
 .intro i _
  have:(Array.replicate g.size false).getD i false=false:=by
   rw[j8,qiY];split<;>rfl
  rw[this];simp
 .intro t k u Km _ d V;rw[bt]
  have O:=au t 0 k (vp _) u (fun i o hi kP aK=>by
   have h3:=(Km i o hi kP).2 aK.2
   have:(Array.replicate g.size false).getD i false=false:=by
    rw[j8,qiY];split<;>rfl
   rw[this] at h3;cases h3)
  rw[O,cp] at V;exact he t d V
theorem q5k{F:zG}(o:VC X F){nt:Nat}{b:Array Oper}{c:Bool}{Q:Exit->Act->World->Prop}(hD:DrawFacts X (fun _=>c) [] al b){e m:qu}{a:Act}(k:vU X F nt c b b.toList e H=some (m,H'))
  (s:Sim X ok w ι H) (p:EnvRep ok w ι H e a.tmps) (r:nt<=a.tmps.size) (n:∀l w',Out X H.length ok w ι H a m H' l w'->Q .normal l w'):
  wpAny X.P .any b Q b.size (Array.replicate b.size false) a w:=by
 obtain⟨E,T,g,d,f,h,q⟩:=qm1 k;exact quR o hD g d f h q (fun i j x y _ _ hc=>by simp at hc) s p r n
theorem q5j{F:zG}(r:VC X F){nt:Nat}{b:Array Oper}{ow:List Nat}{Q:Exit->Act->World->Prop}(hD:DrawFacts X (Jb ow) L al b){e p:qu}{a:Act}(c:Qu X F nt ow b L 0 [] [] b.toList e H=some (p,H'))
  (C:Sim X ok w ι H) (s:EnvRep ok w ι H e a.tmps) (t:nt<=a.tmps.size) (B:∀n w',Out X H.length ok w ι H a p H' n w'->Q .normal n w'):
  wpAny X.P .any b Q b.size (Array.replicate b.size false) a w:=by
 obtain⟨E,T,f,d,g,h,l⟩:=qm0 c;refine quR r hD f d g h l ?_ C s t B;rw[<-f,<-d] at c;intro i j x y hi v hc u z A;exact qjl (fun k o q=>l k o (by simpa using q)) b.toList 0 [] [] _ (fun m=>wE) c (fun i x G=>wC) (fun j y I=>wC) i j x y hi v hc u z A (vp _)
end
end Go.Ev
namespace Go.Ev
section
variable {X:Cx} {ok ok':Nat->Prop} {w w':World} {ι:qU} {H H':qe}
theorem qfP{c:Array Oper}{e:qu}{a:Act}(g:EnvRep ok w ι H e a.tmps){o:Oper}{b:Bool}(h:vM c e o.guard=some b):Region.wanted o (yielded c a.tmps)=b:=
 qml (fun _ _ t _ _ d f=>g t d f) h
theorem qhx{e:qu}{a:Act}{dst:Option Tmp}{d:D}{v:Value}{nt:Nat}(c:EnvRep ok w ι H e a.tmps)(g:Rep ok w ι H d v)(f:nt<=a.tmps.size)(h:km nt dst=true):EnvRep ok w ι H (jN e dst d) (a.put dst v).tmps:=by
 cases dst with
 |none=>exact c
 |some t=>
  have b:t<nt:=by simpa[km] using h
  exact c.put g (vd b f)
theorem qli{F:zG}(n:VC X F){nt:Nat}{k:Bool}{g:Array Oper}{Q:Exit->Act->World->Prop}:∀{l:List Oper}{e i:qu}{H H':qe}{ok:Nat->Prop}{w:World}{ι:qU}{a:Act},vU X F nt k g l e H=some (i,H')->
  Sim X ok w ι H->EnvRep ok w ι H e a.tmps->nt<=a.tmps.size->(∀A w',Out X H.length ok w ι H a i H' A w'->Q .normal A w')->wpList X.P g Q l a w
 |[],e,i,H,H',ok,w,ι,a,h,f,b,z,j=>by
  simp only[vU,qy,zi] at h;obtain⟨rfl,rfl⟩:=h;exact j a w ⟨rfl,rfl,ι,ok,f,b,.refl _ (qA _)⟩
 |o::l,e,i,H,H',ok,w,ι,a,h,f,b,z,j=>by
  simp only[vU] at h;split at h
  .rename_i p u;split at h
   .rename_i d R N;have s:=qfP b u;simp only[wpList,s,if_true];refine .inl ?_;unfold Oper.wp;refine Goes.upon ((qjZ n f b N).mono fun v O I=>?_);obtain⟨ι1,M,K,J,q⟩:=I;obtain⟨G,t⟩:=qei a o.dst v;refine qli n h K (qhx (b.evol' f q) J z p) wC fun m y x=>j m y ?_;obtain⟨L,r,ι2,ok2,B,C,E⟩:=x;exact⟨wC,by rw[r,t],ι2,ok2,B,C,q.trans (E.mono q.nle.2)⟩
   .cases h
  .rename_i p u;have s:=qfP b u;simp only[wpList,s,Qd,if_false];obtain⟨G,t⟩:=qei a o.dst undef;refine qli n h f (qhx b qhd z p) wC fun m y x=>j m y ?_;obtain⟨L,r,c⟩:=x;exact⟨wC,by rw[r,t],c⟩
  .cases h
theorem qhI:∀{ks:List Nat}{e:qu}{t:Nat}{d:D},qi (Qg ks e) t=some d->qi e t=some d
 |[],e,t,d,h=>by simp[Qg,qi] at h
 |k::ks,e,t,d,h=>by
  simp only[Qg] at h;split at h
  .rename_i x a;simp only[qi] at h;split at h
   .rename_i b;subst b;rw[a];exact h
   .exact qhI h
  .exact qhI h
theorem qpd{n:Nat}:∀{e:qu}{t:Nat}{d:D},qcu n e=true->qi e t=some d->closed n d=true
 |[],t,d,_,h=>by simp[qi] at h
 |(s,x)::e,t,d,hc,h=>by
  simp only[qcu,zY] at hc;simp only[qi] at h;split at h
  .injection h with h;subst h;exact hc.1
  .exact qpd hc.2 h
theorem q5b{f n0 id:Nat}{e m:qu}{tmps:Array Value}(h:qln X f n0 id e H=some (m,H'))(j:n0<=H.length)(b:Sim X ok w ι H)(i:EnvRep ok w ι H e tmps):
  Sim X ok w ι H'/\EnvRep ok w ι H' m tmps/\Evol n0 ok w ι H ok w ι H':=by
 unfold qln at h;split at h
 .simp only[qy,zi] at h;obtain⟨rfl,rfl⟩:=h;exact⟨b,i,.refl _ j⟩
 .simp only[qy,zi] at h;obtain⟨rfl,rfl⟩:=h;exact⟨b,fun t d c=>i t d (qhI c),.refl _ j⟩
 .rename_i ks k n;have a:EnvRep ok w ι H (Qg ks e) tmps:=fun t d c=>i t d (qhI c);split at h
  .simp only[qy,zi] at h;obtain⟨rfl,rfl⟩:=h;exact⟨b,a,.refl _ j⟩
  .rename_i l;split at h
   .rename_i hc;rw[zY] at hc;simp only[qy,zi] at h;obtain⟨rfl,rfl⟩:=h;have g:n0+k<=H.length:=wC;exact⟨q5p g b hc.2,a.evol b (ql4 g) (fun t d c=>qpd hc.1 c),(ql4 g).mono wC⟩
   .cases h
theorem quH{f n0 id:Nat}{e c:qu}{tmps:Array Value}(h:qiv X f n0 id e H=some (c,H'))(b:n0<=H.length)(k:Sim X ok w ι H)(d:EnvRep ok w ι H e tmps):
  ∃ok' ι',Sim X ok' w ι' H'/\EnvRep ok' w ι' H' c tmps/\Evol n0 ok w ι H ok' w ι' H':=by
 have a:∀{e c:qu}{ok:Nat->Prop}{H H':qe},qiw X f n0 id e H=some (c,H')->n0<=H.length->Sim X ok w ι H->EnvRep ok w ι H e tmps->
   ∃ι',Sim X ok w ι' H'/\EnvRep ok w ι' H' c tmps/\Evol n0 ok w ι H ok w ι' H':=by
  intro e c ok H H' h b k d;unfold qiw at h;split at h
  .obtain⟨j,i,g⟩:=q5b h b k d;exact⟨ι,j,i,g⟩
  .exact qyF h b k d
 unfold qiv at h;split at h
 .obtain⟨ι',j,i,g⟩:=a h b k d;exact⟨ok,ι',j,i,g⟩
 .split at h
  .rename_i q p o;obtain⟨ok',n,m,l⟩:=q4p o k d;obtain⟨ι',j,i,g⟩:=a h (zJ b l.nle.2) n m;exact⟨ok',ι',j,i,(l.mono b).trans g⟩
  .cases h
theorem quG{f n0 id:Nat}{e k:qu}{tmps:Array Value}(h:enter X f n0 id e H=some (k,H'))(c:n0<=H.length)(g:Sim X ok w ι H)(a:EnvRep ok w ι H e tmps):
  ∃ok' ι',Sim X ok' w ι' H'/\EnvRep ok' w ι' H' k tmps/\Evol n0 ok w ι H ok' w ι' H':=by
 unfold enter at h;split at h
 .exact quH h c g a
 .split at h
  .rename_i r b;obtain⟨p,m,j,q⟩:=qju b g;obtain⟨ok2,ι',o,n,l⟩:=quH h (by rw[q];exact c) m (fun t d i=>⟨(a t d i).1,(a t d i).2.evol g j (a t d i).2.closed⟩);exact⟨ok2,ι',o,n,(j.mono c).trans l⟩
  .cases h
def qlg:Ex->Exit
 | .normal=>.normal
 | .exit id=>.exit id
 | .ret=>.ret
def CQ(X:Cx)(n:Nat)(ok:Nat->Prop)(w:World)(ι:qU)(H:qe)(a:Act)(d:Ex)(c:qu)(H':qe)(x:Exit)(b:Act)(w':World):Prop:=
 x=qlg d/\Out X n ok w ι H a c H' b w'
def q7m(X:Cx)(n:Nat):Prop:=
 ∀(f nt n0:Nat)(c:Code)(e b:qu)(H H':qe)(d:Ex)(ok:Nat->Prop)(w:World)(ι:qU)(a:Act),zm X n f nt n0 c e H=some (d,b,H')->Z5 X f c=true->n0<=H.length->Sim X ok w ι H->EnvRep ok w ι H e a.tmps->nt<=a.tmps.size->
  c.wp X.P (CQ X n0 ok w ι H a d b H') a w
theorem Out.trans{n:Nat}{a c d:Act}{e i:World}{g f:qe}{b:Nat->Prop}{ι1:qU}{e2:qu}(r:c.tmps.size=a.tmps.size)(l:c.defers=a.defers)(j:Evol n ok w ι H b e ι1 g)
  (h:Out X n b e ι1 g c e2 f d i):Out X n ok w ι H a e2 f d i:=by
 obtain⟨q,m,ι2,ok2,k,p,o⟩:=h;exact⟨wC,by rw[m,l],ι2,ok2,k,p,j.trans o⟩
theorem qor{t:Bool}{c:Operand}{e:qu}{a:Act}(d:Sim X ok w ι H)(b:EnvRep ok w ι H e a.tmps)(h:qY X e c=some (.bool t)):a.eval c=.bool t:=by
 have:=vj d b h;generalize a.eval c=v at this⊢;cases this;rfl
theorem qiK:∀(l:List D)(i t:Nat)(d:D),qi (kr i l) t=some d->i<=t/\l[t-i]?=some d
 |[],i,t,d,h=>by simp[kr,qi] at h
 |x::l,i,t,d,h=>by
  simp only[kr,qi] at h;split at h
  .rename_i b;subst b;injection h with h;subst h;exact⟨qA _,wE⟩
  .obtain⟨c,a⟩:=qiK l (i+1) t d h;refine⟨wC,?_⟩;rw[show t-i=(t-(i+1))+1 from wC,qeK];exact a
def qhv(tmps:Array Value):ResultVar->Sem Value
 | .tmp t=>pure (tmps.getD t undef)
 | .cell a t=>do loadVar t (<-asAddr (tmps.getD a undef))
theorem qjC{e:qu}{tmps:Array Value}(q:Sim X ok w ι H)(i:EnvRep ok w ι H e tmps):∀{l:List ResultVar}{ds:List D},QM X e H l=some ds->
  ∃vs:List Value,(l.mapM (qhv tmps)).run X.P w=.ok vs w/\RepL ok w ι H ds vs
 |[],ds,h=>by
  simp only[QM,qy] at h;subst h;exact⟨[],wE,rfl,wE⟩
 | .tmp t::l,ds,h=>by
  simp only[QM] at h;split at h
  .rename_i d ds' b m;injection h with h;subst h;obtain⟨vs,r,c⟩:=qjC q i m;refine⟨tmps.getD t undef::vs,?_,by simp[c.1],fun j x hx=>?_⟩
   .rw[List.mapM_cons];simp only[qhv,Sem.run_bind,Sem.run_pure,Result.andThen_ok,r]
   .cases j with
    |zero=>
     simp only[Qb,qy] at hx;subst hx;exact(i t d b).2
    |succ j=>exact c.2 j x wY
  .cases h
 | .cell a t::l,ds,h=>by
  simp only[QM] at h;split at h
  .rename_i d ds' b m;injection h with h;subst h;obtain⟨vs,r,c⟩:=qjC q i m;cases o:qi e a with
   |none=>simp[o] at b
   |some p=>
    simp only[o,Y9] at b;obtain⟨_,n⟩:=i a p o;obtain⟨v,s,y⟩:=qpf q n b
    have g:∃u,tmps.getD a undef=.pointer (some u):=by
     unfold ldD at b;split at b
     .rename_i k;exact n.ptr k
     .rename_i k;exact n.ptr k
     .cases b
    obtain⟨u,f⟩:=g;rw[f] at s;simp only[Instr.loadAt,Instr.sureAddr,Sem.run_bind,Sem.run_pure,Result.andThen_ok] at s;refine⟨v::vs,?_,by simp[c.1],fun j x hx=>?_⟩
    .rw[List.mapM_cons];simp only[qhv,f,asAddr,Sem.run_bind,Sem.run_pure,Result.andThen_ok,s,r]
    .cases j with
     |zero=>
      simp only[Qb,qy] at hx;subst hx;exact y
     |succ j=>exact c.2 j x wY
  .cases h
theorem qzL{ds:List D}{vs:List Value}(h:RepL ok w ι H ds vs):Rep ok w ι H (Vt ds) (if i:vs.toArray.size=1 then vs.toArray[0] else .tuple vs.toArray):=by
 unfold Vt;split
 .rename_i d;obtain⟨v,us,rfl,f,b⟩:=J7 h;obtain rfl:=qcO b;simpa using f
 .rename_i g
  have c:vs.toArray.size≠1:=by
   intro e;have:ds.length=1:=by rw[<-h.1];simpa using e
   match ds,this with
   |[d],_=>exact g d rfl
  rw[dif_neg c]
  exact .tup (by simpa using h.1) fun j d a=>by
   have:=h.2 j d a;simpa[j8,jy] using this
theorem qyG{fn:Func}{e:qu}{tmps:Array Value}{ds:List D}(d:Sim X ok w ι H)(b:EnvRep ok w ι H e tmps)(h:QM X e H fn.results.toList=some ds):
  ∃v,(results fn tmps).run X.P w=.ok v w/\Rep ok w ι H (Vt ds) v:=by
 obtain⟨vs,f,c⟩:=qjC d b h;refine⟨_,?_,qzL c⟩
 have a:results fn tmps=(do let vs<-fn.results.mapM (qhv tmps);pure (if h:vs.size=1 then vs[0] else .tuple vs)):=by
  unfold results;congr 1
 rw[a,Sem.run_bind,Array.mapM_eq_mapM_toList,Sem.run_map,f];rfl
theorem qj4{P:Program}{c:Code}{Q b:Exit->Act->World->Prop}(d:∀x a w,Q x a w->b x a w):∀(n:Nat)(a:Act)(w:World),Code.rounds P c Q n a w->Code.rounds P c b n a w
 |0,_,_,h=>h
 |n+1,a,w,h=>by
  rw[rounds_succ] at h⊢;refine wp_mono h fun x a w hx=>?_;cases x<;>first|exact d _ _ _ hx|exact qj4 d n a w hx
theorem qmO(hG:Good X):∀n,VC X (vG X n)/\q7m X n:=by
 intro n
 induction n using Nat.strongRecOn with
 |_ n ih=>
  cases n with
  |zero=>
   refine⟨fun f args H r H' ok w ι vs h=>by simp[vG] at h,fun f nt n0 c e C H H' u ok w ι a h=>by simp[zm] at h⟩
  |succ n=>
   have ac:=(ih n wC).1;have ae:=(ih n wC).2;constructor
   ·-- a function
    intro f args H r H' ok w ι vs h G hv;simp only[vG] at h;split at h
    .rename_i r0 Q6;injection h with h;subst h;exact(hG.con f args H r H' Q6 ok w ι vs G hv).mono fun v w' B=>B.g _
    split at h
    .cases h
    .rename_i fn hf;split at h
     .rename_i W;obtain⟨h1,rfl⟩:=Zp h;obtain⟨v,q1,q2,q3⟩:=hG.ext f fn args r hf W h1 ok w ι H vs G hv;exact Goes.value q1 ⟨ι,ok,G,q2,.refl _ (qA _),fun _ i ds hi hd=>by have:=qx hd;omega⟩
     .rename_i c W;cases J:X.bad f with
      |true=>simp[J] at h
      |false=>
      simp only[J,Qd,if_false] at h;have aj:=hG.okc f fn c hf W J;have Xe:(callFunc f vs.toArray).run X.P w=.ok (.enter f vs.toArray) w:=Go.Proofs.enters_of hf (hG.ng f fn hf) W _ _
      have key:∀u e p ds,(u=.normal\/u=.ret)->zm X n f fn.ntmps H.length c (kr 0 args) H=some (u,e,p)->QM X e p fn.results.toList=some ds->qbD (X.gr f&&X.byRef f) (X.fzr f) H.length p (Vt ds)=some (r,H')->
        Goes X.P (callFunc f vs.toArray) w (qiU X (X.gr f&&X.byRef f) ok w ι H r H'):=by
       intro u e p ds aq hc hr B;unfold Goes;rw[Xe];simp only;refine calls_of_wp hf W (wp_mono (ae f fn.ntmps H.length c (kr 0 args) e H p u ok w ι ⟨vs.toArray++Array.replicate (fn.ntmps-vs.toArray.size) undef,[]⟩ hc aj (qA _) G ?_ ?_) ?_)
       .intro t d ht;obtain⟨_,h2⟩:=qiK args 0 t d ht;rw[Nat.sub_zero] at h2;have qg:t<vs.length:=(by rw[hv.1];exact(List.getElem?_eq_some_iff.1 h2).1);refine⟨wG,?_⟩;have:=hv.2 t d h2;rw[j8,qgZ (by simpa using qg)];simpa[jy] using this
       .simp;omega
       .rintro x a' w' ⟨rfl,k1,k2,ι1,A,k3,k4,k5⟩;obtain⟨v,q1,q2⟩:=qyG (fn:=fn) k3 k4 hr
        have K:qiU X (X.gr f&&X.byRef f) ok w ι H r H' v w':=by
         cases ai:(X.gr f&&X.byRef f) with
         |true=>
          rw[ai] at B;cases hz:X.fzr f with
          |false=>
           rw[hz] at B;simp only[qbD,qej,qy,zi] at B;obtain⟨rfl,rfl⟩:=B;exact⟨ι1,A,k3,q2,k5,fun h=>wI⟩
          |true=>
           rw[hz] at B;simp only[qbD,qej] at B;split at B
           .rename_i r1 l am;have h1:=qeT k3 (okF:=Ye A ι1 p l) (fun b W=>.inl W) _ _ _ _ _ q2 am (fun i hi ds b s hd W=>.inr ⟨i,ds,s,hi,hd,W⟩);simp only[qy,zi] at B;obtain⟨rfl,rfl⟩:=B;exact⟨ι1,_,qgM k3 l,h1.lift (ι:=ι1) (H:=jS p l),k5.trans ((qeC l).mono k5.nle.2),fun h=>wI⟩
           .cases B
         |false=>
          rw[ai] at B;obtain⟨ok2,ι2,p1,p2,p3,p4⟩:=qoa k5.nle.2 k3 q2 B;exact⟨ι2,ok2,p1,p2,k5.trans p3,fun _=>p4⟩
        rcases aq with rfl|rfl
        .exact⟨k2,v,q1,v,rfl,K⟩
        .exact⟨k2,v,q1,v,rfl,K⟩
      split at h
      .rename_i e p hc;split at h
       .rename_i ds hr;exact key _ e p ds (.inl rfl) hc hr h
       .cases h
      .rename_i e p hc;split at h
       .rename_i ds hr;exact key _ e p ds (.inr rfl) hc hr h
       .cases h
      .cases h
   ·-- zk
    intro f nt n0 c e C H H' u ok w ι a h j hn G Y Q3
    have k:∀(R:Ex)(F:qu)(p:qe)(Q:Exit->Act->World->Prop)(c1:Code),zm X n f nt n0 c1 e H=some (R,F,p)->Z5 X f c1=true->(∀a' w',Out X n0 ok w ι H a F p a' w'->Q (qlg R) a' w')->c1.wp X.P Q a w:=by
     intro R F p Q c1 h1 ak hQ;refine wp_mono (ae f nt n0 c1 e F H p R ok w ι a h1 ak hn G Y Q3) ?_;rintro x a' w' ⟨rfl,o⟩;exact hQ a' w' o
    have E:Out X n0 ok w ι H a e H a w:=⟨rfl,rfl,ι,ok,G,Y,.refl _ hn⟩;cases c with
    |skip=>
     simp only[zm,qy,zi] at h;obtain⟨rfl,rfl,rfl⟩:=h;exact wp_skip ⟨rfl,E⟩
    |label l=>
     simp only[zm,qy,zi] at h;obtain⟨rfl,rfl,rfl⟩:=h;exact wp_label ⟨rfl,E⟩
    |exit id=>
     simp only[zm,qy,zi] at h;obtain⟨rfl,rfl,rfl⟩:=h;exact wp_exit ⟨rfl,E⟩
    |ret=>
     simp only[zm,qy,zi] at h;obtain⟨rfl,rfl,rfl⟩:=h;exact wp_ret ⟨rfl,E⟩
    |region id au aa=>
     simp only[zm] at h;split at h
     .cases h
     .rename_i F p jV;obtain⟨A,ι1,s1,s2,Z⟩:=quG jV hn G Y;cases M:Jz X (vG X n) f nt id aa au F p with
      |none=>simp[M] at h
      |some r=>
       obtain⟨e2,H2⟩:=r;simp only[M,jn,qy,zi] at h;obtain⟨rfl,rfl,rfl⟩:=h;cases aa with
       |false=>
        simp only[Jz] at M;refine wp_region_list (qli ac M s1 s2 Q3 fun a' w' o=>⟨rfl,?_⟩);obtain⟨O,U,ι2,ok2,N,S,I⟩:=o;exact⟨O,U,ι2,ok2,N,S,Z.trans (I.mono Z.nle.2)⟩
       |true=>
        simp only[Z5,Bool.not_true,Bool.false_or] at j;simp only[Jz] at M;obtain⟨d1,d2⟩:=qxh (w':={w with drawn:=w.drawn+1}) s1 ⟨rfl,rfl,rfl⟩ rfl;cases ah:X.lp f id with
        |none=>
         rw[ah] at M j;simp only[YM] at M;refine wp_region_any hG.mixed (q5k ac (quS j) M d1 (s2.evol' s1 d2) Q3 fun a' w' o=>⟨rfl,?_⟩);obtain⟨O,U,ι2,ok2,N,S,I⟩:=o;exact⟨O,U,ι2,ok2,N,S,Z.trans ((d2.mono Z.nle.2).trans (I.mono Z.nle.2))⟩
        |some q=>
         obtain⟨L,ow⟩:=q;rw[ah] at M j;refine wp_region_any hG.mixed (q5j ac (quS j) M d1 (s2.evol' s1 d2) Q3 fun a' w' o=>⟨rfl,?_⟩);obtain⟨O,U,ι2,ok2,N,S,I⟩:=o;exact⟨O,U,ι2,ok2,N,S,Z.trans ((d2.mono Z.nle.2).trans (I.mono Z.nle.2))⟩
    |seq x y=>
     simp only[Z5,zY] at j;simp only[zm] at h;refine wp_seq ?_;split at h
     .rename_i F p hx;refine k _ F p _ x hx j.1 fun T V o=>?_;obtain⟨O,U,ι1,A,N,S,I⟩:=o;refine wp_mono (ae f nt n0 y F C p H' u A V ι1 T h j.2 I.nle.2 N S wC) ?_;rintro z a2 w2 ⟨rfl,ag⟩;exact⟨rfl,Out.trans O U I ag⟩
     .rename_i qQ;refine k u C H' _ x h j.1 fun T V o=>?_;cases u with
      |normal=>exact absurd h (qQ _ _)
      |exit id=>exact⟨rfl,o⟩
      |ret=>exact⟨rfl,o⟩
    |cond c x y=>
     simp only[Z5,zY] at j;simp only[zm] at h;split at h
     .rename_i t hc;refine wp_cond (qor G Y hc) (k u C H' _ _ h (by cases t;exact j.2;exact j.1) fun T V o=>⟨rfl,o⟩)
     .cases h
    |block id c=>
     simp only[Z5] at j;simp only[zm] at h;refine wp_block ?_;split at h
     .rename_i i F p hc;refine k _ F p _ c hc j fun T V o=>?_;simp only[qlg,Exit.inBlock];split at h
      .rename_i hi;simp only[qy,zi] at h;obtain⟨rfl,rfl,rfl⟩:=h;rw[if_pos hi];exact⟨rfl,o⟩
      .rename_i hi;simp only[qy,zi] at h;obtain⟨rfl,rfl,rfl⟩:=h;rw[if_neg hi];exact⟨rfl,o⟩
     .rename_i qQ;refine k u C H' _ c h j fun T V o=>?_;cases u with
      |normal=>exact⟨rfl,o⟩
      |exit i=>exact absurd h (qQ _ _ _)
      |ret=>exact⟨rfl,o⟩
    |scope c=>
     simp only[Z5] at j;simp only[zm] at h;refine wp_scope_straight (k u C H' _ c h j fun T V o=>?_);cases u<;>exact⟨rfl,o⟩
    |loop c=>
     simp only[Z5] at j
     have key:∀m,m<=n->∀(e C:qu)(H H':qe)(u:Ex)(ok:Nat->Prop)(w:World)(ι:qU)(a:Act),zm X (m+1) f nt n0 (.loop c) e H=some (u,C,H')->n0<=H.length->Sim X ok w ι H->EnvRep ok w ι H e a.tmps->nt<=a.tmps.size->
       Code.rounds X.P c (CQ X n0 ok w ι H a u C H') (m+1) a w:=by
      intro m
      induction m with
      |zero=>
       intro _ e C H H' u ok w ι a h;simp only[zm] at h;simp at h
      |succ m ao=>
       intro hm e C H H' u ok w ι a h hn G Y Q3;rw[rounds_succ];rw[zm] at h;split at h
       .rename_i F p hc;refine wp_mono ((ih (m+1) wC).2 f nt n0 c e F H p .normal ok w ι a hc j hn G Y Q3) ?_;rintro x T V ⟨rfl,O,U,ι1,A,N,S,I⟩;have Vf:=ao wC F C p H' u A V ι1 T h I.nle.2 N S wC;refine qj4 ?_ _ _ _ Vf;rintro x a2 w2 ⟨hx,o⟩;exact⟨hx,Out.trans O U I o⟩
       .rename_i qQ;refine wp_mono ((ih (m+1) wC).2 f nt n0 c e C H H' u ok w ι a h j hn G Y Q3) ?_;rintro x T V ⟨rfl,o⟩;cases u with
        |normal=>exact absurd h (qQ _ _)
        |exit id=>exact⟨rfl,o⟩
        |ret=>exact⟨rfl,o⟩
     exact wp_loop_rounds _ (key n (qA _) e C H H' u ok w ι a h hn G Y Q3)
    |goto l=>simp[zm] at h
    |rangeFunc _ _ _ _=>simp[zm] at h
    |refuse _=>simp[zm] at h
end
end Go.Ev
namespace Go.Ev
section
variable {X:Cx}
def VE(F G:zG):Prop:=∀f args H r,F f args H=some r->G f args H=some r
theorem q6g{F G:zG}(h:VE F G){f:Nat}{args:List D}{H:qe}{r:D×qe}(hc:Ku F f args H=some r):Ku G f args H=some r:=by
 cases args with
 |nil=>simp[Ku] at hc
 |cons a b=>
  cases a with
  |optr i st off=>
   simp only[Ku] at hc⊢;cases d:qd H i with
   |none=>simp[d] at hc
   |some ds=>
    simp only[d] at hc⊢;split at hc
    .rename_i e;rw[if_pos e];cases c:F f (.optr 0 st off::b) [some ds] with
     |none=>simp[c] at hc
     |some q=>rw[h _ _ _ _ c];rw[c] at hc;exact hc
    .cases hc
  |_=>simp[Ku] at hc
theorem q6d{F G:zG}(_:VE F G){f:Nat}{args:List D}{H:qe}{r:D×qe}(hc:qf8 F f args H=some r):qf8 G f args H=some r:=by
 cases hc
theorem q6k{F G:zG}(h:VE F G){f:Nat}{args:List D}{H:qe}{r:D×qe}(hc:qbx X F f args H=some r):qbx X G f args H=some r:=by
 unfold qbx at hc⊢;split
 .rename_i a;rw[if_pos a] at hc;exact q6d h hc
 .rename_i a;rw[if_neg a] at hc;exact q6g h hc
theorem q6n{F G:zG}(h:VE F G){f:Nat}{args:List D}{H:qe}{r:D×qe}(hc:qby F f args H=some r):qby G f args H=some r:=by
 unfold qby qdJ at hc⊢;split at hc
 .split at hc
  .rename_i a;rw[if_pos a];split at hc
   .rename_i b;rw[h _ _ _ _ b];exact hc
   .cases hc
  .cases hc
 .cases hc
theorem q6a{F G:zG}(h:VE F G){f:Nat}{args:List D}{H:qe}{r:D×qe}(hc:XV X F f args H=some r):XV X G f args H=some r:=by
 unfold XV at hc⊢;split
 .rename_i g;rw[if_pos g] at hc;split
  .rename_i d;rw[if_pos d] at hc;split
   .rename_i c;rw[if_pos c] at hc;exact q6n h hc
   .rename_i c;rw[if_neg c] at hc;exact q6k h hc
  .rename_i d;rw[if_neg d] at hc;exact h _ _ _ _ hc
 .rename_i g;rw[if_neg g] at hc;split
  .rename_i e;rw[if_pos e] at hc;cases a:F f args [] with
   |none=>simp[a] at hc
   |some q=>rw[h _ _ _ _ a];rw[a] at hc;exact hc
  .rename_i e;rw[if_neg e] at hc;cases i:qcr H args with
   |none=>simp[i] at hc
   |some b=>
    simp only[i] at hc⊢;cases a:F f b [] with
    |none=>simp[a] at hc
    |some q=>rw[h _ _ _ _ a];rw[a] at hc;exact hc
theorem qlN{F G:zG}(h:VE F G){f:Nat}{args:List D}{H:qe}{r:D×qe}(hc:ZF X F f args H=some r):ZF X G f args H=some r:=by
 by_cases b:(X.pureF f&& !X.byRef f)=true
 .obtain⟨g,e,a⟩:=qgP b hc;unfold ZF;rw[if_pos b];rcases a with⟨a,c⟩|⟨a,l,j,i,d,k,c⟩
  .rw[if_pos a,h _ _ _ _ c];simp only[e,if_true,<-g]
  .rw[if_neg a];subst g;simp only[l,j,Bool.and_self,if_true,k,h _ _ _ _ c,e,i]
 .unfold ZF at hc⊢;rw[if_neg b] at hc⊢;exact q6a h hc
theorem q6t{F G:zG}(h:VE F G){f:Nat}{args:List D}{H:qe}{r:D×qe}(hc:XW X F f args H=some r):XW X G f args H=some r:=by
 unfold XW at hc⊢;split at hc
 .exact qlN h hc
 .split at hc
  .exact qlN h hc
  .cases hc
theorem q6q{F G:zG}(h:VE F G){f:Nat}{args:List D}{H:qe}{r:D×qe}(hc:VA X F f args H=some r):VA X G f args H=some r:=by
 unfold VA at hc⊢;split at hc
 .exact q6t h hc
 .split at hc
  .exact qlN h hc
  .cases hc
theorem quz{F G:zG}(h:VE F G){o:Op}{e:qu}{H:qe}{r:D×qe}(a:zI X F o e H=some r):zI X G o e H=some r:=by
 cases o with
 |call c=>
  simp only[zI] at a⊢;cases hc:c.callee with
  |builtin b=>cases d:vO X e c.args.toList<;>simp only[hc,d] at a⊢<;>first|exact a|cases a
  |invoke r m=>cases d:vO X e c.args.toList<;>simp only[hc,d] at a⊢<;>cases a
  |value g=>
   simp only[hc] at a⊢;cases d:vO X e c.args.toList with
   |none=>simp[d] at a
   |some args=>
    simp only[d] at a⊢;split at a
    .exact q6q h a
    .cases a
 |makeFunc g _ _=>cases g<;>exact a
 |slice _ _ _ _ m=>cases m<;>exact a
 |_=>exact a
theorem qit{F G:zG}(h:VE F G){b:Bool}{o:Op}{e:qu}{H:qe}{r:D×qe}(a:qZ X F b o e H=some r):qZ X G b o e H=some r:=by
 unfold qZ at a⊢;split at a
 .exact a
 .exact a
 .split at a
  .cases a
  .rename_i c;rw[if_neg c];exact quz h a
 .exact quz h a
theorem qg6{F G:zG}(h:VE F G){nt:Nat}{c:Bool}{d:Array Oper}:∀{l:List Oper}{e:qu}{H:qe}{r:qu×qe},vU X F nt c d l e H=some r->vU X G nt c d l e H=some r
 |[],_,_,_,a=>a
 |o::l,e,H,r,a=>by
  simp only[vU] at a⊢;cases g:km nt o.dst<;>simp only[g] at a⊢
  .cases a
  .cases f:vM d e o.guard with
   |none=>simp[f] at a
   |some b=>
    cases b<;>simp only[f] at a⊢
    .exact qg6 h a
    .cases hx:qZ X F c o.op e H with
     |none=>simp[hx] at a
     |some q=>
      rw[qit h hx];rw[hx] at a;exact qg6 h a
theorem qg7{F G:zG}(h:VE F G){nt:Nat}{ow:List Nat}{c:Array Oper}{L:QV}:∀{l:List Oper}{k:Nat}{ws:List (Nat×qe×qe)}{rs:List (Nat×List Nat)}{e:qu}{H:qe}{r:qu×qe},Qu X F nt ow c L k ws rs l e H=some r->Qu X G nt ow c L k ws rs l e H=some r
 |[],_,_,_,_,_,_,a=>by simpa[Qu] using a
 |o::l,k,ws,rs,e,H,r,a=>by
  simp only[Qu] at a⊢;cases f:km nt o.dst<;>simp only[f] at a⊢
  .cases a
  .cases d:vM c e o.guard with
   |none=>simp[d] at a
   |some b=>
    cases b<;>simp only[d] at a⊢
    .exact qg7 h a
    .cases hx:qZ X F (Jb ow o.dst) o.op e H with
     |none=>simp[hx] at a
     |some q=>
      rw[qit h hx];rw[hx] at a;simp only at a⊢;split at a
      .rename_i hc;rw[if_pos hc];exact qg7 h a
      .cases a
theorem q4C{F G:zG}(h:VE F G){f nt id:Nat}{a:Bool}{b:Array Oper}{e:qu}{H:qe}{r:qu×qe}(c:Jz X F f nt id a b e H=some r):Jz X G f nt id a b e H=some r:=by
 unfold Jz at c⊢;split at c
 .exact qg7 h c
 .exact qg6 h c
theorem qlh:∀n,VE (vG X n) (vG X (n+1))/\∀f nt n0 c e H r,zm X n f nt n0 c e H=some r->zm X (n+1) f nt n0 c e H=some r
 |0=>⟨fun f args H r h=>by simp[vG] at h,fun f nt n0 c e H r h=>by simp[zm] at h⟩
 |n+1=>by
  obtain⟨t,g⟩:=qlh n;constructor
  .intro f args H r h;simp only[vG] at h⊢;cases y:X.con f args H with
   |some q=>simp only[y] at h⊢;exact h
   |none=>
   simp only[y] at h⊢;cases A:X.P.funcs[f]? with
   |none=>simp[A] at h
   |some fn=>
    simp only[A] at h⊢;cases B:fn.body with
    |none=>simp only[B] at h⊢;exact h
    |some c=>
     simp only[B] at h⊢;cases m:X.bad f<;>simp only[m,Qd,if_false,if_true] at h⊢
     .cases hc:zm X n f fn.ntmps H.length c (kr 0 args) H with
      |none=>simp[hc] at h
      |some q=>
       rw[g _ _ _ _ _ _ _ hc];rw[hc] at h;exact h
     .cases h
  .intro f nt n0 c e H r h;cases c with
   |region id u k=>
    rw[zm] at h⊢;cases z:enter X f n0 id e H with
    |none=>simp[z] at h
    |some q=>
     obtain⟨o,s⟩:=q;simp only[z] at h⊢;cases v:Jz X (vG X n) f nt id k u o s with
     |none=>simp[v] at h
     |some q=>
      rw[q4C t v];rw[v] at h;exact h
   |seq a b=>
    rw[zm] at h⊢;cases j:zm X n f nt n0 a e H with
    |none=>simp[j] at h
    |some q=>
     obtain⟨p,o,s⟩:=q;rw[g _ _ _ _ _ _ _ j];rw[j] at h;cases p with
     |normal=>exact g _ _ _ _ _ _ _ h
     |exit i=>exact h
     |ret=>exact h
   |cond x a b=>
    rw[zm] at h⊢;split at h
    .exact g _ _ _ _ _ _ _ h
    .cases h
   |block id c=>
    rw[zm] at h⊢;cases j:zm X n f nt n0 c e H with
    |none=>simp[j] at h
    |some q=>
     rw[g _ _ _ _ _ _ _ j];rw[j] at h;exact h
   |scope c=>
    rw[zm] at h⊢;exact g _ _ _ _ _ _ _ h
   |loop c=>
    rw[zm] at h⊢;cases j:zm X n f nt n0 c e H with
    |none=>simp[j] at h
    |some q=>
     obtain⟨p,o,s⟩:=q;rw[g _ _ _ _ _ _ _ j];rw[j] at h;cases p with
     |normal=>exact g _ _ _ _ _ _ _ h
     |exit i=>exact h
     |ret=>exact h
   |skip=>exact h
   |label l=>exact h
   |exit id=>exact h
   |ret=>exact h
   |goto l=>simp[zm] at h
   |rangeFunc a b c d=>simp[zm] at h
   |refuse w=>simp[zm] at h
theorem qg8{n m:Nat}(a:n<=m):VE (vG X n) (vG X m):=by
 induction m with
 | zero=>have:n=0:=by omega
         subst this;exact fun _ _ _ _ h=>h
 |succ m c=>
  by_cases h:n=m+1
  .subst h;exact fun _ _ _ _ h=>h
  .exact fun f args H r b=>(qlh m).1 _ _ _ _ (c wC f args H r b)
theorem qg9{n m:Nat}(a:n<=m){f nt n0:Nat}{c:Code}{e:qu}{H:qe}{r:Ex×qu×qe}(h:zm X n f nt n0 c e H=some r):zm X m f nt n0 c e H=some r:=by
 induction m with
 | zero=>have:n=0:=by omega
         subst this;exact h
 |succ m b=>
  by_cases d:n=m+1
  .subst d;exact h
  .exact(qlh m).2 _ _ _ _ _ _ _ (b wC)
open Classical in
noncomputable def lim{α:Type}(g:Nat->Option α):Option α:=if h:∃r,∃n,g n=some r then some h.choose else none
theorem qk0{α:Type}{g:Nat->Option α}(c:∀n m r,n<=m->g n=some r->g m=some r){r:α}:lim g=some r↔∃n,g n=some r:=by
 unfold lim;constructor
 .intro h;split at h
  .rename_i a;injection h with h;subst h;exact a.choose_spec
  .cases h
 .rintro⟨n,d⟩;have a:∃r,∃n,g n=some r:=⟨r,n,d⟩;rw[dif_pos a];obtain⟨k,f⟩:=a.choose_spec;have e:=c n (max n k) _ (Nat.le_max_left _ _) d;have b:=c k (max n k) _ (Nat.le_max_right _ _) f;rw[e] at b;injection b with b;rw[<-b]
noncomputable def call(X:Cx):zG:=fun f args H=>lim fun n=>vG X n f args H
noncomputable def zk(X:Cx)(f nt n0:Nat)(c:Code)(e:qu)(H:qe):Option (Ex×qu×qe):=lim fun n=>zm X n f nt n0 c e H
theorem call_some{f:Nat}{args:List D}{H:qe}{r:D×qe}:call X f args H=some r↔∃n,vG X n f args H=some r:=qk0 fun _ _ _ a h=>qg8 a _ _ _ _ h
theorem code_some{f nt n0:Nat}{c:Code}{e:qu}{H:qe}{r:Ex×qu×qe}:zk X f nt n0 c e H=some r↔∃n,zm X n f nt n0 c e H=some r:=qk0 fun _ _ _ a h=>qg9 a h
theorem qu4(n:Nat):VE (vG X n) (call X):=fun _ _ _ _ h=>call_some.2 ⟨n,h⟩
theorem q6h{f:Nat}{args:List D}{H:qe}{r:D×qe}(hc:Ku (call X) f args H=some r):∃n,Ku (vG X n) f args H=some r:=by
 cases args with
 |nil=>simp[Ku] at hc
 |cons a b=>
  cases a with
  |optr i st off=>
   simp only[Ku] at hc⊢;cases d:qd H i with
   |none=>simp[d] at hc
   |some ds=>
    simp only[d] at hc⊢;split at hc
    .rename_i e;cases c:call X f (.optr 0 st off::b) [some ds] with
     |none=>simp[c] at hc
     |some q=>
      obtain⟨n,g⟩:=call_some.1 c;refine⟨n,?_⟩;rw[if_pos e,g];rw[c] at hc;exact hc
    .cases hc
  |_=>simp[Ku] at hc
theorem q6e{f:Nat}{args:List D}{H:qe}{r:D×qe}(hc:qf8 (call X) f args H=some r):∃n,qf8 (vG X n) f args H=some r:=by
 cases hc
theorem q6l{f:Nat}{args:List D}{H:qe}{r:D×qe}(hc:qbx X (call X) f args H=some r):∃n,qbx X (vG X n) f args H=some r:=by
 unfold qbx at hc⊢;split at hc
 .rename_i a;obtain⟨n,b⟩:=q6e hc;exact⟨n,by rw[if_pos a];exact b⟩
 .rename_i a;obtain⟨n,b⟩:=q6h hc;exact⟨n,by rw[if_neg a];exact b⟩
theorem q6o{f:Nat}{args:List D}{H:qe}{r:D×qe}(hc:qby (call X) f args H=some r):∃n,qby (vG X n) f args H=some r:=by
 unfold qby qdJ at hc⊢;split at hc
 .split at hc
  .rename_i a;split at hc
   .rename_i b;obtain⟨n,c⟩:=call_some.1 b;exact⟨n,by rw[if_pos a,c];exact hc⟩
   .cases hc
  .cases hc
 .cases hc
theorem q6b{f:Nat}{args:List D}{H:qe}{r:D×qe}(hc:XV X (call X) f args H=some r):∃n,XV X (vG X n) f args H=some r:=by
 unfold XV at hc⊢;split at hc
 .rename_i d;split at hc
  .rename_i e;split at hc
   .rename_i g;obtain⟨n,a⟩:=q6o hc;exact⟨n,by rw[if_pos d,if_pos e,if_pos g];exact a⟩
   .rename_i g;obtain⟨n,a⟩:=q6l hc;exact⟨n,by rw[if_pos d,if_pos e,if_neg g];exact a⟩
  .rename_i e;obtain⟨n,a⟩:=call_some.1 hc;exact⟨n,by rw[if_pos d,if_neg e];exact a⟩
 .rename_i d;split at hc
  .rename_i h;cases b:call X f args [] with
   |none=>simp[b] at hc
   |some q=>
    obtain⟨n,a⟩:=call_some.1 b;exact⟨n,by rw[if_neg d,if_pos h,a];rw[b] at hc;exact hc⟩
  .rename_i h;cases i:qcr H args with
   |none=>simp[i] at hc
   |some c=>
    simp only[i] at hc;cases b:call X f c [] with
    |none=>simp[b] at hc
    |some q=>
     obtain⟨n,a⟩:=call_some.1 b;exact⟨n,by rw[if_neg d,if_neg h];simp only[a];rw[b] at hc;exact hc⟩
theorem qlO{f:Nat}{args:List D}{H:qe}{r:D×qe}(hc:ZF X (call X) f args H=some r):∃n,ZF X (vG X n) f args H=some r:=by
 by_cases a:(X.pureF f&& !X.byRef f)=true
 .obtain⟨h,g,b⟩:=qgP a hc;rcases b with⟨b,d⟩|⟨b,l,j,i,e,k,d⟩
  .obtain⟨n,c⟩:=call_some.1 d;refine⟨n,?_⟩;unfold ZF;rw[if_pos a,if_pos b,c];simp only[g,if_true,<-h]
  .obtain⟨n,c⟩:=call_some.1 d;refine⟨n,?_⟩;unfold ZF;rw[if_pos a,if_neg b];subst h;simp only[l,j,Bool.and_self,if_true,k,c,g,i]
 .unfold ZF at hc;rw[if_neg a] at hc;obtain⟨n,c⟩:=q6b hc;exact⟨n,by unfold ZF;rw[if_neg a];exact c⟩
theorem q6u{f:Nat}{args:List D}{H:qe}{r:D×qe}(hc:XW X (call X) f args H=some r):∃n,XW X (vG X n) f args H=some r:=by
 unfold XW at hc;split at hc
 .rename_i b;obtain⟨n,c⟩:=qlO hc;exact⟨n,by unfold XW;rw[b];exact c⟩
 .rename_i b;split at hc
  .rename_i d a;obtain⟨n,c⟩:=qlO hc;exact⟨n,by unfold XW;rw[b];simp only[a];exact c⟩
  .cases hc
theorem q6r{f:Nat}{args:List D}{H:qe}{r:D×qe}(hc:VA X (call X) f args H=some r):∃n,VA X (vG X n) f args H=some r:=by
 unfold VA at hc;split at hc
 .rename_i b;obtain⟨n,d⟩:=q6u hc;exact⟨n,by unfold VA;rw[b];exact d⟩
 .rename_i b;split at hc
  .rename_i c l a;obtain⟨n,d⟩:=qlO hc;exact⟨n,by unfold VA;rw[b];simp only[a];exact d⟩
  .cases hc
theorem qu0{o:Op}{e:qu}{H:qe}{r:D×qe}(a:zI X (call X) o e H=some r):∃n,zI X (vG X n) o e H=some r:=by
 cases o with
 |call c=>
  simp only[zI] at a⊢;cases hc:c.callee with
  |builtin b=>cases d:vO X e c.args.toList<;>simp only[hc,d] at a⊢<;>first|exact⟨0,a⟩|cases a
  |invoke r m=>cases d:vO X e c.args.toList<;>simp only[hc,d] at a<;>cases a
  |value g=>
   simp only[hc] at a⊢;cases d:vO X e c.args.toList with
   |none=>simp[d] at a
   |some args=>
    simp only[d] at a⊢;split at a
    .rename_i f h j;obtain⟨n,i⟩:=q6r a;exact⟨n,i⟩
    .cases a
 |makeFunc g _ _=>cases g<;>exact⟨0,a⟩
 |slice _ _ _ _ m=>cases m<;>exact⟨0,a⟩
 |_=>exact⟨0,a⟩
theorem qu3{b:Bool}{o:Op}{e:qu}{H:qe}{r:D×qe}(a:qZ X (call X) b o e H=some r):∃n,qZ X (vG X n) b o e H=some r:=by
 unfold qZ at a⊢;split at a
 .exact⟨0,a⟩
 .exact⟨0,a⟩
 .split at a
  .cases a
  .rename_i c;obtain⟨n,d⟩:=qu0 a;exact⟨n,by simp only[c];exact d⟩
 .exact qu0 a
theorem qlj{nt:Nat}{c:Bool}{d:Array Oper}:∀{l:List Oper}{e:qu}{H:qe}{r:qu×qe},vU X (call X) nt c d l e H=some r->∃n,vU X (vG X n) nt c d l e H=some r
 |[],_,_,_,a=>⟨0,a⟩
 |o::l,e,H,r,a=>by
  simp only[vU] at a;cases h:km nt o.dst<;>simp only[h] at a
  .cases a
  .cases f:vM d e o.guard with
   |none=>simp[f] at a
   |some b=>
    cases b<;>simp only[f] at a
    .obtain⟨n,g⟩:=qlj a;exact⟨n,by simp only[vU,h,f];exact g⟩
    .cases hx:qZ X (call X) c o.op e H with
     |none=>simp[hx] at a
     |some q=>
      rw[hx] at a;obtain⟨n,g⟩:=qu3 hx;obtain⟨m,i⟩:=qlj a;refine⟨max n m,?_⟩;simp only[vU,h,f];rw[qit (qg8 (Nat.le_max_left n m)) g];exact qg6 (qg8 (Nat.le_max_right n m)) i
theorem q4J{nt:Nat}{a:Bool}{b:Array Oper}{l:List Oper}{e:qu}{H:qe}{r:qu×qe}:vU X (call X) nt a b l e H=some r↔∃n,vU X (vG X n) nt a b l e H=some r:=
 ⟨qlj,fun⟨n,c⟩=>qg6 (qu4 n) c⟩
theorem qll{nt:Nat}{ow:List Nat}{c:Array Oper}{L:QV}:∀{l:List Oper}{k:Nat}{ws:List (Nat×qe×qe)}{rs:List (Nat×List Nat)}{e:qu}{H:qe}{r:qu×qe},Qu X (call X) nt ow c L k ws rs l e H=some r->∃n,Qu X (vG X n) nt ow c L k ws rs l e H=some r
 |[],_,_,_,_,_,_,a=>⟨0,by simpa[Qu] using a⟩
 |o::l,k,ws,rs,e,H,r,a=>by
  simp only[Qu] at a;cases g:km nt o.dst<;>simp only[g] at a
  .cases a
  .cases d:vM c e o.guard with
   |none=>simp[d] at a
   |some b=>
    cases b<;>simp only[d] at a
    .obtain⟨n,f⟩:=qll a;exact⟨n,by simp only[Qu,g,d];exact f⟩
    .cases hx:qZ X (call X) (Jb ow o.dst) o.op e H with
     |none=>simp[hx] at a
     |some q=>
      rw[hx] at a;simp only at a;split at a
      .rename_i hc;obtain⟨n,f⟩:=qu3 hx;obtain⟨m,h⟩:=qll a;refine⟨max n m,?_⟩;simp only[Qu,g,d];rw[qit (qg8 (Nat.le_max_left n m)) f];simp only;rw[if_pos hc];exact qg7 (qg8 (Nat.le_max_right n m)) h
      .cases a
theorem evR_lim{f nt id:Nat}{a:Bool}{b:Array Oper}{e:qu}{H:qe}{r:qu×qe}:Jz X (call X) f nt id a b e H=some r↔∃n,Jz X (vG X n) f nt id a b e H=some r:=by
 unfold Jz;split
 .exact⟨qll,fun⟨n,c⟩=>qg7 (qu4 n) c⟩
 .exact q4J
theorem qcV{α:Type}{x y:Option α}(h:∀r,x=some r↔y=some r):x=y:=by
 cases x with
 |none=>
  cases y with
  |none=>rfl
  |some b=>exact absurd ((h b).2 rfl) wE
 |some a=>exact((h a).1 rfl).symm
section eqs
variable {f nt n0:Nat} {e:qu} {H:qe}
theorem qvn:zk X f nt n0 .skip e H=some (.normal,e,H):=code_some.2 ⟨1,rfl⟩
theorem qvp{l:Nat}:zk X f nt n0 (.label l) e H=some (.normal,e,H):=code_some.2 ⟨1,rfl⟩
theorem qvq{i:Nat}:zk X f nt n0 (.exit i) e H=some (.exit i,e,H):=code_some.2 ⟨1,rfl⟩
theorem qvo:zk X f nt n0 .ret e H=some (.ret,e,H):=code_some.2 ⟨1,rfl⟩
theorem qi6{id:Nat}{b:Array Oper}{a:Bool}:zk X f nt n0 (.region id b a) e H=match enter X f n0 id e H with
  |none=>none
  |some (e,H)=>(Jz X (call X) f nt id a b e H).map fun(e,H)=>(.normal,e,H):=by
 refine qcV fun r=>?_;rw[code_some];cases g:enter X f n0 id e H with
 |none=>
  simp only[reduceCtorEq,iff_false,not_exists];intro n h;cases n<;>simp[zm,g] at h
 |some q=>
  obtain⟨j,i⟩:=q;constructor
  .rintro⟨n,c⟩;cases n with
   |zero=>simp[zm] at c
   |succ n=>
    simp only[zm,g] at c;cases d:Jz X (vG X n) f nt id a b j i with
    |none=>simp[d] at c
    |some q=>
     simp only[evR_lim.2 ⟨n,d⟩];rw[d] at c;exact c
  .intro h;simp only at h;cases d:Jz X (call X) f nt id a b j i with
   |none=>simp[d] at h
   |some q=>
    obtain⟨n,c⟩:=evR_lim.1 d;refine⟨n+1,?_⟩;simp only[zm,g,c];rw[d] at h;exact h
theorem ql7{a b:Code}:zk X f nt n0 (.seq a b) e H=match zk X f nt n0 a e H with
  |some (.normal,e,H)=>zk X f nt n0 b e H
  |r=>r:=by
 refine qcV fun r=>?_;rw[code_some];constructor
 .rintro⟨n,c⟩;cases n with
  |zero=>simp[zm] at c
  |succ n=>
   simp only[zm] at c;cases d:zm X n f nt n0 a e H with
   |none=>simp[d] at c
   |some q=>
    obtain⟨g,l,k⟩:=q;rw[code_some.2 ⟨n,d⟩];rw[d] at c;cases g with
    |normal=>exact code_some.2 ⟨n,c⟩
    |exit i=>exact c
    |ret=>exact c
 .intro h;cases d:zk X f nt n0 a e H with
  |none=>simp[d] at h
  |some q=>
   obtain⟨n,c⟩:=code_some.1 d;obtain⟨g,l,k⟩:=q;rw[d] at h;cases g with
   |normal=>
    obtain⟨m,j⟩:=code_some.1 h;refine⟨max n m+1,?_⟩;simp only[zm,qg9 (Nat.le_max_left n m) c];exact qg9 (Nat.le_max_right n m) j
   |exit i=>exact⟨n+1,by simp only[zm,c];exact h⟩
   |ret=>exact⟨n+1,by simp only[zm,c];exact h⟩
theorem ql9{c:Operand}{a b:Code}:zk X f nt n0 (.cond c a b) e H=match qY X e c with
  |some (.bool t)=>zk X f nt n0 (if t then a else b) e H
  |_=>none:=by
 refine qcV fun r=>?_;rw[code_some];constructor
 .rintro⟨n,d⟩;cases n with
  |zero=>simp[zm] at d
  |succ n=>
   simp only[zm] at d;split at d
   .rename_i hc;rw[hc];exact code_some.2 ⟨n,d⟩
   .cases d
 .intro h;split at h
  .rename_i t hc;obtain⟨n,d⟩:=code_some.1 h;exact⟨n+1,by simp only[zm,hc];exact d⟩
  .cases h
theorem qlA{id:Nat}{c:Code}:zk X f nt n0 (.block id c) e H=match zk X f nt n0 c e H with
  |some (.exit i,e,H)=>if i=id then some (.normal,e,H) else some (.exit i,e,H)
  |r=>r:=by
 refine qcV fun r=>?_;rw[code_some];constructor
 .rintro⟨n,b⟩;cases n with
  |zero=>simp[zm] at b
  |succ n=>
   simp only[zm] at b;cases a:zm X n f nt n0 c e H with
   |none=>simp[a] at b
   |some q=>rw[code_some.2 ⟨n,a⟩];rw[a] at b;exact b
 .intro h;cases a:zk X f nt n0 c e H with
  |none=>simp[a] at h
  |some q=>
   obtain⟨n,b⟩:=code_some.1 a;exact⟨n+1,by simp only[zm,b];rw[a] at h;exact h⟩
theorem ql8{c:Code}:zk X f nt n0 (.scope c) e H=zk X f nt n0 c e H:=by
 refine qcV fun r=>?_;rw[code_some,code_some];constructor
 .rintro⟨n,a⟩;cases n with
  |zero=>simp[zm] at a
  |succ n=>exact⟨n,a⟩
 .rintro⟨n,a⟩;exact⟨n+1,a⟩
theorem qgI{c:Code}:zk X f nt n0 (.loop c) e H=match zk X f nt n0 c e H with
  |some (.normal,e,H)=>zk X f nt n0 (.loop c) e H
  |r=>r:=by
 refine qcV fun r=>?_;rw[code_some];constructor
 .rintro⟨n,a⟩;cases n with
  |zero=>simp[zm] at a
  |succ n=>
   rw[zm] at a;cases b:zm X n f nt n0 c e H with
   |none=>simp[b] at a
   |some q=>
    obtain⟨d,k,j⟩:=q;rw[code_some.2 ⟨n,b⟩];rw[b] at a;cases d with
    |normal=>exact code_some.2 ⟨n,a⟩
    |exit i=>exact a
    |ret=>exact a
 .intro h;cases b:zk X f nt n0 c e H with
  |none=>simp[b] at h
  |some q=>
   obtain⟨n,a⟩:=code_some.1 b;obtain⟨d,k,j⟩:=q;rw[b] at h;cases d with
   |normal=>
    obtain⟨m,g⟩:=code_some.1 h;refine⟨max n m+1,?_⟩;rw[zm];simp only[qg9 (Nat.le_max_left n m) a];exact qg9 (Nat.le_max_right n m) g
   |exit i=>exact⟨n+1,by rw[zm];simp only[a];exact h⟩
   |ret=>exact⟨n+1,by rw[zm];simp only[a];exact h⟩
def qec(o:Oper):Oper:={dst:=o.dst,op:=o.op,type:=0,pos:= "",after:= #[],guard:=o.guard}
def Qy:List Oper->List Oper
 |[]=>[]
 |o::l=>qec o::Qy l
def vi:Code->Code
 | .region id e d=>.region id (Qy e.toList).toArray d
 | .seq a b=>.seq (vi a) (vi b)
 | .cond x a b=>.cond x (vi a) (vi b)
 | .block id c=>.block id (vi c)
 | .loop c=>.loop (vi c)
 | .scope c=>.scope (vi c)
 |c=>c
theorem qm7:∀(l:List Oper)(j:Nat),((Qy l)[j]?).bind (·.dst)=(l[j]?).bind (·.dst)
 |[],j=>by simp[Qy]
 |o::l,0=>by simp[Qy,qec]
 |o::l,j+1=>by simp[Qy,qm7 l j]
theorem qkO(a:Array Oper)(e:qu)(g:Option (Nat×Bool)):vM (Qy a.toList).toArray e g=vM a e g:=by
 cases g with
 |none=>rfl
 |some q=>
  obtain⟨j,b⟩:=q;have h:=qm7 a.toList j;simp only[vM];have c:((Qy a.toList).toArray[j]?)=(Qy a.toList)[j]?:=wE
  have e2:a[j]?=a.toList[j]?:=wE
  rw[c,e2,h]
theorem quw{F:zG}{b:Bool}(a:Array Oper):∀(l:List Oper)(e:qu)(H:qe),vU X F nt b (Qy a.toList).toArray (Qy l) e H=vU X F nt b a l e H
 |[],e,H=>rfl
 |o::l,e,H=>by
  simp only[Qy,vU,qec,qkO,quw a l]
theorem qux{F:zG}{ow:List Nat}(a:Array Oper){L:QV}:∀(l:List Oper)(k:Nat)(ws:List (Nat×qe×qe))(rs:List (Nat×List Nat))(e:qu)(H:qe),Qu X F nt ow (Qy a.toList).toArray L k ws rs (Qy l) e H=Qu X F nt ow a L k ws rs l e H
 |[],k,ws,rs,e,H=>by simp only[Qy,Qu]
 |o::l,k,ws,rs,e,H=>by
  simp only[Qy,Qu,qec,qkO,qux a l]
theorem qof:∀(l:List Oper),qcT (Qy l)=qcT l
 |[]=>rfl
 |o::l=>by simp only[Qy,qcT,qec,qof l]
theorem q4M:∀(n:Nat)(c:Code)(e:qu)(H:qe),zm X n f nt n0 (vi c) e H=zm X n f nt n0 c e H:=by
 intro n
 induction n with
 |zero=>intro c e H;simp[zm]
 |succ n d=>
  intro c e H;cases c with
  |region id h g=>
   simp only[vi,zm];cases enter X f n0 id e H with
   |none=>rfl
   |some q=>
    obtain⟨k,j⟩:=q;have:(Qy h.toList).toArray.toList=Qy h.toList:=wE;cases g<;>cases i:X.lp f id<;>simp only[Jz,i,quw,qux,qof,YM]
  |seq a b=>simp only[vi,zm,d]
  |cond x a b=>
   simp only[vi,zm];split
   .rename_i t _;cases t<;>simp only[d,if_true,if_false,Qd]
   .rfl
  |block id c=>simp only[vi,zm,d]
  |loop c=>
   have:=d (.loop c);simp only[vi] at this;simp only[vi,zm,d,this]
  |scope c=>simp only[vi,zm,d]
  |_=>rfl
theorem qi5{c:Code}:zk X f nt n0 (vi c) e H=zk X f nt n0 c e H:=by
 unfold zk;congr 1;funext n;exact q4M n c e H
theorem qeE{args:List D}{r:D×qe}(a:X.con f args H=some r):call X f args H=some r:=call_some.2 ⟨1,by simp only[vG,a]⟩
theorem qiD{fn:Func}{c:Code}{args:List D}(g:X.con f args H=none)(d:X.P.funcs[f]?=some fn)(i:fn.body=some c)(a:X.bad f=false):
  call X f args H=match zk X f fn.ntmps H.length c (kr 0 args) H with
   |some (.normal,e,H')|some (.ret,e,H')=>match QM X e H' fn.results.toList with
    |some ds=>qbD (X.gr f&&X.byRef f) (X.fzr f) H.length H' (Vt ds)
    |none=>none
   |_=>none:=by
 refine qcV fun r=>?_;rw[call_some];constructor
 .rintro⟨n,b⟩;cases n with
  |zero=>simp[vG] at b
  |succ n=>
   simp only[vG,g,d,i,a,Qd,if_false] at b;cases hc:zm X n f fn.ntmps H.length c (kr 0 args) H with
   |none=>simp[hc] at b
   |some q=>rw[code_some.2 ⟨n,hc⟩];rw[hc] at b;exact b
 .intro h;cases hc:zk X f fn.ntmps H.length c (kr 0 args) H with
  |none=>simp[hc] at h
  |some q=>
   obtain⟨n,b⟩:=code_some.1 hc;refine⟨n+1,?_⟩;simp only[vG,g,d,i,a,Qd,if_false,b];rw[hc] at h;exact h
theorem qiC{fn:Func}{args:List D}(c:X.con f args H=none)(b:X.P.funcs[f]?=some fn)(d:fn.body=none):call X f args H=(X.ext f args).map (·,H):=by
 refine qcV fun r=>?_;rw[call_some];constructor
 .rintro⟨n,a⟩;cases n with
  |zero=>simp[vG] at a
  |succ n=>
   simp only[vG,c,b,d] at a;exact a
 .intro h;exact⟨1,by simp only[vG,c,b,d];exact h⟩
end eqs
theorem qlL(b:Good X):VC X (call X):=by
 intro f args H r H' ok w ι vs h d a;obtain⟨n,c⟩:=call_some.1 h;exact(qmO b n).1 f args H r H' ok w ι vs c d a
end
end Go.Ev
namespace Go.Ev
def qdH(ks:List Nat):Nat->Nat->qu->qe->Option (qu×qe)
 |0,_,e,H=>some (Qg ks e,H)
 |k+1,n0,e,H=>if H.length<=n0+k then some (Qg ks e,H)
  else if qcu (n0+k) (Qg ks e)&&(H.take (n0+k)).all (Xp (n0+k)) then some (Qg ks e,H.take (n0+k)) else none
def qf0(zs ks:List Nat)(k n0:Nat)(e:qu)(H:qe):Option (qu×qe):=
 match qfw zs e H with
 |some (e,H)=>qdH ks k n0 e H
 |none=>none
def Xm(zs S ks:List Nat)(n0:Nat)(e:qu)(H:qe):Option (qu×qe):=
 match zs with
 |[]=>qfa n0 S ks e H
 |zs=>match qfw zs e H with
  |some (e,H)=>qfa n0 S ks e H
  |none=>none
def qiu(a:List Nat)(g:qe->Option (qu×qe))(e:qu)(H:qe):Option (qu×qe):=
 match qcK e a H with
 |some H=>g H
 |none=>none
def cAt:List Nat->Code->Code
 |[],c=>c
 |0::p,.seq a _=>cAt p a
 |_::p,.seq _ b=>cAt p b
 |0::p,.cond _ a _=>cAt p a
 |_::p,.cond _ _ b=>cAt p b
 |_::p,.block _ c=>cAt p c
 |_::p,.scope c=>cAt p c
 |_::p,.loop c=>cAt p c
 |_,c=>c
def Zx(f:Func):Code:=f.body.getD .skip
attribute [simp] qvn qvp qvq qvo ql9
attribute [simp] qec Qy vi km zI qZ Xn qY vO YN qgj qeo qen qi jN Qg qdH qf0 Xm qiu qcK ZK kr QM Vt qiI unD jO qdL qiA VA XW qjv ZF qbr XV ldD stD mem qd qn JQ cellsOf qir qiq qg5 qaF qge qhX qhW qa8 qdM qO qgq qdI qbx Ku noZ noZ.noZL qiH qcz qgr qeS Y5 VG qfT qcL qJ qcv eqD qgO ZE qfV qr KP YG VB idFree idFree.idFreeL vFree vFree.vFreeL closed closed.closedL Xp qlR qcu qek pack1 pack1.packs kW qbE VJ j9 kc jS qed qfw qa6 Xt qfa qhu qjB YK qbA XY qaB XZ renD renD.renL Yj qgm Y8 JF shift shift.shiftL freeze freeze.freezeL qcr q2V cAt Zx strD
@[simp low] theorem qeg (ds:List D) (off:Nat) (xs:List D):zT ds off xs=ds.take off++xs++ds.drop (off+xs.length):=rfl
section
variable {X:Cx} {f nt n0:Nat}
inductive Fr where
 |seq (b:Code)
 |block (id:Nat)
def Run(X:Cx)(f nt n0:Nat)(Q:Ex->qu->qe->Prop):List Fr->Option (Ex×qu×qe)->Prop
 |_,none=>False
 |[],some (a,e,H)=>Q a e H
 | .seq b::fs,some (.normal,e,H)=>Run X f nt n0 Q fs (zk X f nt n0 b e H)
 | .seq _::fs,some (a,e,H)=>Run X f nt n0 Q fs (some (a,e,H))
 | .block id::fs,some (.exit i,e,H)=>if i=id then Run X f nt n0 Q fs (some (.normal,e,H)) else Run X f nt n0 Q fs (some (.exit i,e,H))
 | .block _::fs,some (a,e,H)=>Run X f nt n0 Q fs (some (a,e,H))
variable {Q:Ex->qu->qe->Prop} {fs:List Fr} {e:qu} {H:qe} {a b c:Code}
theorem kV:Run X f nt n0 Q fs none=False:=by unfold Run;rfl
theorem KC{a:Ex}:Run X f nt n0 Q [] (some (a,e,H))=Q a e H:=by unfold Run;rfl
theorem qeY:Run X f nt n0 Q (.seq b::fs) (some (.normal,e,H))=Run X f nt n0 Q fs (zk X f nt n0 b e H):=by rw[Run]
theorem qfX{i:Nat}:Run X f nt n0 Q (.seq b::fs) (some (.exit i,e,H))=Run X f nt n0 Q fs (some (.exit i,e,H)):=by rw[Run];intro h;cases h
theorem qfW:Run X f nt n0 Q (.seq b::fs) (some (.ret,e,H))=Run X f nt n0 Q fs (some (.ret,e,H)):=by rw[Run];intro h;cases h
theorem qng{id:Nat}:Run X f nt n0 Q (.block id::fs) (some (.normal,e,H))=Run X f nt n0 Q fs (some (.normal,e,H)):=by rw[Run];intro i h;cases h
theorem qnf{id:Nat}:Run X f nt n0 Q (.block id::fs) (some (.ret,e,H))=Run X f nt n0 Q fs (some (.ret,e,H)):=by rw[Run];intro i h;cases h
theorem qnh{id i:Nat}:Run X f nt n0 Q (.block id::fs) (some (.exit i,e,H))=if i=id then Run X f nt n0 Q fs (some (.normal,e,H)) else Run X f nt n0 Q fs (some (.exit i,e,H)):=by rw[Run]
theorem qb6:Run X f nt n0 Q fs (zk X f nt n0 (.seq a b) e H)=Run X f nt n0 Q (.seq b::fs) (zk X f nt n0 a e H):=by
 rw[ql7];cases h:zk X f nt n0 a e H with
 |none=>simp[kV]
 |some q=>
  obtain⟨c,g,d⟩:=q;cases c with
  |normal=>rw[qeY]
  |exit i=>rw[qfX]
  |ret=>rw[qfW]
theorem qxW{id:Nat}:Run X f nt n0 Q fs (zk X f nt n0 (.block id c) e H)=Run X f nt n0 Q (.block id::fs) (zk X f nt n0 c e H):=by
 rw[qlA];cases h:zk X f nt n0 c e H with
 |none=>simp[kV]
 |some q=>
  obtain⟨a,d,b⟩:=q;cases a with
  |normal=>rw[qng]
  |exit i=>rw[qnh];by_cases hi:i=id<;>simp[hi]
  |ret=>rw[qnf]
theorem qxR:Run X f nt n0 Q fs (zk X f nt n0 (.scope c) e H)=Run X f nt n0 Q fs (zk X f nt n0 c e H):=by rw[ql8]
theorem Run.mono{o:Option (Ex×qu×qe)}{R:Ex->qu->qe->Prop}(h:Run X f nt n0 R [] o)(b:∀a e H,R a e H->Run X f nt n0 Q fs (some (a,e,H))):Run X f nt n0 Q fs o:=by
 cases o with
 |none=>rw[kV] at h;exact h.elim
 |some q=>
  obtain⟨a,d,c⟩:=q;rw[KC] at h;exact b _ _ _ h
theorem Run.loop{σ:Type}(I:σ->qu->qe->Prop)(m:σ->Nat)
  (step:∀s e H,I s e H->Run X f nt n0 (fun ex g H'=>match ex with| .normal=>∃b,m b<m s/\I b g H'|ex=>Q ex g H') [] (zk X f nt n0 c e H)):
  ∀s e H,I s e H->Run X f nt n0 Q [] (zk X f nt n0 (.loop c) e H):=by
 suffices h:∀k s e H,m s<k->I s e H->Run X f nt n0 Q [] (zk X f nt n0 (.loop c) e H) from
  fun s e H hi=>h (m s+1) s e H (Nat.lt_succ_self _) hi
 intro k
 induction k with
 |zero=>intro s e H h;omega
 |succ k o=>
  intro s e H r hi;have a:=step s e H hi;rw[qgI];cases d:zk X f nt n0 c e H with
  |none=>rw[d,kV] at a;exact a.elim
  |some q=>
   obtain⟨ex,l,j⟩:=q;rw[d,KC] at a;cases ex with
   |normal=>
    obtain⟨b,p,n⟩:=a;exact o b l j wC n
   |exit i=>exact a
   |ret=>exact a
def Fin(X:Cx)(z:Bool)(rs:List ResultVar)(n0:Nat)(r:D×qe):Ex->qu->qe->Prop
 | .exit _,_,_=>False
 |_,e,H=>(QM X e H rs).bind (fun ds=>kW z n0 H (Vt ds))=some r
theorem qld{z:Bool}{rs:List ResultVar}{r:D×qe}:Fin X z rs n0 r .ret e H=((QM X e H rs).bind (fun ds=>kW z n0 H (Vt ds))=some r):=rfl
theorem qle{z:Bool}{rs:List ResultVar}{r:D×qe}:Fin X z rs n0 r .normal e H=((QM X e H rs).bind (fun ds=>kW z n0 H (Vt ds))=some r):=rfl
theorem qC{fn:Func}{args:List D}{r:D×qe}(l:X.P.funcs[f]?=some fn)(g:fn.body.isSome=true)(a:X.bad f=false/\X.con f args H=none)
  (h:Run X f fn.ntmps H.length (Fin X (X.fzr f) fn.results.toList H.length r) [] (zk X f fn.ntmps H.length (vi (Zx fn)) (kr 0 args) H)) (m:(X.gr f&&X.byRef f)=false:=by rfl):call X f args H=some r:=by
 rw[qi5] at h;cases d:fn.body with
 |none=>rw[d] at g;cases g
 |some c=>
  have hc:Zx fn=c:=by simp only[Zx,d,Vm]
  rw[hc] at h;rw[qiD a.2 l d a.1,m];cases k:zk X f fn.ntmps H.length c (kr 0 args) H with
  |none=>rw[k,kV] at h;exact h.elim
  |some q=>
   obtain⟨n,j,e⟩:=q;rw[k,KC] at h;cases n with
   |exit i=>exact h.elim
   |normal=>
    rw[qle] at h;cases b:QM X j e fn.results.toList with
    |none=>rw[b] at h;cases h
    |some ds=>rw[b] at h;simpa[b,qbD] using h
   |ret=>
    rw[qld] at h;cases b:QM X j e fn.results.toList with
    |none=>rw[b] at h;cases h
    |some ds=>rw[b] at h;simpa[b,qbD] using h
end
attribute [simp] kV KC qeY qfX qfW qng qnf qnh qb6 qxW qxR qld qle
end Go.Ev
namespace Go.Ev
mutual
theorem qzA(n0:Nat)(H:qe)(seen:List Nat)(acc:qe):∀(d:D),idFree d=true->pack1 n0 H seen acc d=some (d,seen,acc)
 | .agg cs,h=>by simp only[idFree] at h;simp only[pack1,qh2 n0 H seen acc cs h,jn]
 | .tup cs,h=>by simp only[idFree] at h;simp only[pack1,qh2 n0 H seen acc cs h,jn]
 | .fn f cs,h=>by simp only[pack1,h,if_true]
 | .iface t d,h=>by simp only[pack1,h,if_true]
 | .optr ..,h=>by simp[idFree] at h
 | .osl ..,h=>by simp[idFree] at h
 | .bool _,_=>rfl
 | .int _ _,_=>rfl
 | .str _,_=>rfl
 | .nilp,_=>rfl
 | .nilf,_=>rfl
 | .nili,_=>rfl
 | .raw _,_=>rfl
 | .vptr _,_=>rfl
 | .vsl ..,_=>rfl
theorem qh2(n0:Nat)(H:qe)(seen:List Nat)(acc:qe):∀(cs:List D),idFree.idFreeL cs=true->pack1.packs n0 H seen acc cs=some (cs,seen,acc)
 |[],_=>rfl
 |d::l,h=>by
  simp only[idFree.idFreeL,zY] at h;simp only[pack1.packs,qzA n0 H seen acc d h.1,qh2 n0 H seen acc l h.2]
end
mutual
theorem qmZ(n:Nat):∀(d:D),idFree d=true->shift n d=d
 | .agg cs,h=>by simp only[idFree] at h;simp only[shift,qcM n cs h]
 | .tup cs,h=>by simp only[idFree] at h;simp only[shift,qcM n cs h]
 | .fn f cs,h=>by simp only[idFree] at h;simp only[shift,qcM n cs h]
 | .iface t d,h=>by simp only[idFree] at h;simp only[shift,qmZ n d h]
 | .optr ..,h=>by simp[idFree] at h
 | .osl ..,h=>by simp[idFree] at h
 | .bool _,_=>rfl
 | .int _ _,_=>rfl
 | .str _,_=>rfl
 | .nilp,_=>rfl
 | .nilf,_=>rfl
 | .nili,_=>rfl
 | .raw _,_=>rfl
 | .vptr _,_=>rfl
 | .vsl ..,_=>rfl
theorem qcM(n:Nat):∀(cs:List D),idFree.idFreeL cs=true->shift.shiftL n cs=cs
 |[],_=>rfl
 |d::l,h=>by
  simp only[idFree.idFreeL,zY] at h;simp only[shift.shiftL,qmZ n d h.1,qcM n l h.2]
end
mutual
theorem qi9(n:Nat):∀(d:D),idFree d=true->closed n d=true
 | .agg cs,h=>by simp only[idFree] at h;simp only[closed,qax n cs h]
 | .tup cs,h=>by simp only[idFree] at h;simp only[closed,qax n cs h]
 | .fn f cs,h=>by simp only[idFree] at h;simp only[closed,qax n cs h]
 | .iface t d,h=>by simp only[idFree] at h;simp only[closed,qi9 n d h]
 | .optr ..,h=>by simp[idFree] at h
 | .osl ..,h=>by simp[idFree] at h
 | .bool _,_=>rfl
 | .int _ _,_=>rfl
 | .str _,_=>rfl
 | .nilp,_=>rfl
 | .nilf,_=>rfl
 | .nili,_=>rfl
 | .raw _,_=>rfl
 | .vptr _,_=>rfl
 | .vsl ..,_=>rfl
theorem qax(n:Nat):∀(cs:List D),idFree.idFreeL cs=true->closed.closedL n cs=true
 |[],_=>rfl
 |d::l,h=>by
  simp only[idFree.idFreeL,zY] at h;simp only[closed.closedL,qi9 n d h.1,qax n l h.2,Bool.and_self]
end
theorem qik(H:qe):∀(cs:List D),idFree.idFreeL cs=true->freeze.freezeL H cs=some cs
 |[],_=>rfl
 |d::l,h=>by
  simp only[idFree.idFreeL,zY] at h
  have b:freeze H d=some d:=by
   cases d with
   |agg cs=>have a:=h.1;simp only[idFree] at a;simp only[freeze,qik H cs a,jn]
   |fn f cs=>have a:=h.1;simp only[idFree] at a;simp only[freeze,qik H cs a,jn]
   |osl _ _ _ _ _=>simp[idFree] at h
   |optr _ _ _=>simp[idFree] at h
   |_=>simp only[freeze,h.1,if_true]
  simp only[freeze.freezeL,b,qik H l h.2]
theorem Q0:∀(cs:List D),idFree.idFreeL cs=cs.all idFree
 |[]=>rfl
 |d::l=>by simp only[idFree.idFreeL,Va,Q0 l]
theorem qlE(n:Nat):∀(cs:List D),closed.closedL n cs=cs.all (closed n)
 |[]=>rfl
 |d::l=>by simp only[closed.closedL,Va,qlE n l]
theorem qth:∀(a b:List D),idFree.idFreeL (a++b)=(idFree.idFreeL a&&idFree.idFreeL b)
 |[],b=>by simp[idFree.idFreeL]
 |x::a,b=>by simp[idFree.idFreeL,qth a b,Bool.and_assoc]
theorem qv1(n:Nat):∀(a b:List D),closed.closedL n (a++b)=(closed.closedL n a&&closed.closedL n b)
 |[],b=>by simp[closed.closedL]
 |x::a,b=>by simp[closed.closedL,qv1 n a b,Bool.and_assoc]
theorem qmp:∀(a b:List D),vFree.vFreeL (a++b)=(vFree.vFreeL a&&vFree.vFreeL b)
 |[],b=>by simp[vFree.vFreeL]
 |x::a,b=>by simp[vFree.vFreeL,qmp a b,Bool.and_assoc]
@[simp] theorem qaH (s:List UInt8):(qf s).length=s.length:=wV
@[simp] theorem q3y (s:List UInt8):idFree.idFreeL (qf s)=true:=by
 induction s with
 |nil=>rfl
 |cons a s b=>simpa[qf,idFree.idFreeL,idFree] using b
@[simp] theorem q7v (s:List UInt8):vFree.vFreeL (qf s)=true:=by
 induction s with
 |nil=>rfl
 |cons a s b=>simpa[qf,vFree.vFreeL,vFree] using b
@[simp] theorem qA5 (n:Nat) (s:List UInt8):closed.closedL n (qf s)=true:=qax n _ (q3y s)
@[simp] theorem q6V (s:List UInt8):(qf s).all idFree=true:=by simp[qf,idFree]
@[simp] theorem q6X (n:Nat) (s:List UInt8):(qf s).all (closed n)=true:=by simp[qf,closed]
@[simp] theorem q6R (s:List UInt8):(qf s).all vFree=true:=by simp[qf,vFree]
@[simp] theorem q7x {s:List UInt8} {n:Nat} (h:s.length<=n):(qf s).take n=qf s:=qH wQ
@[simp] theorem qAB (s:List UInt8):(∀x,x∈qf s->idFree x=true)=True:=eq_true (List.all_eq_true.1 (q6V s))
@[simp] theorem qAC (s:List UInt8) (n:Nat):(∀x,x∈qf s->closed n x=true)=True:=eq_true (List.all_eq_true.1 (q6X n s))
@[simp] theorem qAA (s:List UInt8):(∀x,x∈qf s->vFree x=true)=True:=eq_true (List.all_eq_true.1 (q6R s))
attribute [simp] qh2 qcM qax qik qth qv1 qmp
theorem wrap_i64{n:Int}(h:-9223372036854775808<=n/\n<9223372036854775808):IntKind.i64.wrap n=n:=by
 simp only[IntKind.wrap,IntKind.signed,IntKind.bits];simp;omega
theorem qcC{n:Int}(h:0<=n/\n<18446744073709551616):IntKind.u64.wrap n=n:=by
 simp only[IntKind.wrap,IntKind.signed,IntKind.bits];simp;omega
theorem qeO{n:Int}(h:0<=n/\n<256):IntKind.u8.wrap n=n:=by
 simp only[IntKind.wrap,IntKind.signed,IntKind.bits];simp;omega
theorem qjd{n:Int}(h:0<=n/\n<4294967296):IntKind.u32.wrap n=n:=by
 simp only[IntKind.wrap,IntKind.signed,IntKind.bits];simp;omega
theorem qwr{n:Int}(h:0<=n/\n<65536):IntKind.u16.wrap n=n:=by
 simp only[IntKind.wrap,IntKind.signed,IntKind.bits];simp;omega
theorem qws{n:Int}(h:-2147483648<=n/\n<2147483648):IntKind.i32.wrap n=n:=by
 simp only[IntKind.wrap,IntKind.signed,IntKind.bits];simp;omega
theorem qiG{n x:Nat}(h:x<2^n):(BitVec.ofInt n (x:Int)).toNat=x:=by
 rw[qiX,qiW,qeJ h]
theorem qmi{k:IntKind}(a:k.signed=false){x:Nat}(h:x<2^k.bits):k.wrap (x:Int)=(x:Int):=by
 have:((x:Int) % (2^k.bits:Int))=x:=Int.emod_eq_of_lt wC (by exact_mod_cast h);simp only[IntKind.wrap,a];simpa using this
theorem qjU{k:IntKind}(b:k.signed=false){x y:Nat}(hx:x<2^k.bits)(a:y<2^k.bits):Vs k x y=((x|||y:Nat):Int):=by
 unfold Vs;rw[BitVec.toNat_or,qiG hx,qiG a,qmi b (Nat.or_lt_two_pow hx a)]
theorem q6K{k:IntKind}(b:k.signed=false){x y:Nat}(hx:x<2^k.bits)(a:y<2^k.bits):Y7 k x y=((x&&&y:Nat):Int):=by
 unfold Y7;rw[BitVec.toNat_and,qiG hx,qiG a,qmi b (Nat.and_lt_two_pow _ a)]
attribute [simp] wrap_i64 qcC qeO qjd qwr qws
end Go.Ev
